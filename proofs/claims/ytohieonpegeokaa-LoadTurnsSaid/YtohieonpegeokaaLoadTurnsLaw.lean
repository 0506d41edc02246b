/- The walk of the law LoadTurns. -/
import Derived.Test.YtohieonpegeokaaLoad
namespace Go.Proofs.Ytohieonpegeokaa
open Go.RowKit Go.Shelf

set_option maxRecDepth 100000 in
set_option maxHeartbeats 2000000 in
theorem loadTurns_walk (x' : Int) (hx' : (Lit.int .u64 x').wf = true) (w : World) :
    Calls Try.prog 12 #[.int .u64 x'] w fun e w' => e = .returned (.bool true) ∧ Below w.heap.size w w' := by
  obtain ⟨x, rfl, hx⟩ := nat_of_u64 hx'
  clear hx'
  have HW := Lib.hid (bl_refl w)
  have hy : x % 4294967296 < 4294967296 := Nat.mod_lt _ (by omega)
  obtain ⟨y, ey⟩ : ∃ y, Hid (y = x % 4294967296) := ⟨_, Lib.hid rfl⟩
  rw [← ey.out] at hy
  have ey2 : (x : Int) % 4294967296 = (y : Int) := by rw [ey.out]; omega
  go_enter Try.func12, Try.ntmps12
  go_wp2_with (first | (go_at_call 39; refine (wakes_w _).mono ?_; rintro e w1 ⟨rfl, hb⟩; have HWn := Lib.hid (bl_call HW.out hb); clear HW hb; have HW := HWn; clear HWn) | (go_at_call 46; refine (putLittle64_w _ 1 1 (fun _ => x) _ (by omega) (reads_new _ _ _ rfl) (fun j hj => hx)).mono ?_; rintro e w2 ⟨v, rfl, ho, hb⟩; replace ho : owns w2 _ _ _ v 8 _ := ho; obtain ⟨g2, c2, rfl, hc2, _, _, hr2⟩ := owns_at ho (by decide); have HR2 := Lib.hid hr2; clear ho hr2; have HWn := Lib.hid (bl_call (bl_alloc HW.out) hb); clear HW hb; have HW := HWn; clear HWn) | (go_at_call 47; refine (putBig64_w _ 1 1 (fun _ => x) _ (by omega) (reads_new _ _ _ rfl) (fun j hj => hx)).mono ?_; rintro e w3 ⟨v, rfl, ho, hb⟩; replace ho : owns w3 _ _ _ v 8 _ := ho; obtain ⟨g3, c3, rfl, hc3, _, _, hr3⟩ := owns_at ho (by decide); have HR3 := Lib.hid hr3; have HB3 := Lib.hid (bl_call (bl_alloc (bl_refl w2)) hb); clear ho hr3; have HWn := Lib.hid (bl_call (bl_alloc HW.out) hb); clear HW hb; have HW := HWn; clear HWn) | (go_at_call 48; refine (putBig32_w _ 1 1 (fun _ => y) _ (by omega) (reads_new _ _ _ rfl) (fun j hj => hy)).mono ?_; rintro e w4 ⟨v, rfl, ho, hb⟩; replace ho : owns w4 _ _ _ v 4 _ := ho; obtain ⟨g4, c4, rfl, hc4, _, _, hr4⟩ := owns_at ho (by decide); have HR4 := Lib.hid hr4; have HB4 := Lib.hid (bl_call (bl_alloc (bl_refl w3)) hb); clear ho hr4; have HWn := Lib.hid (bl_call (bl_alloc HW.out) hb); clear HW hb; have HW := HWn; clear HWn))
  obtain ⟨z, hz⟩ : ∃ z : Nat → Int, Hid (∀ j, z j = ((x / 256 ^ j % 256 : Nat) : Int)) := ⟨fun j => ((x / 256 ^ j % 256 : Nat) : Int), Lib.hid (fun _ => rfl)⟩
  have H2 : Hid (∀ j, j < 8 → w4.cell? ⟨g2, j, none⟩ = some (.int .u8 (z j))) := Lib.hid (fun j hj => by
    have h := (HR2.out j hj).1
    have h3 := (HB3.out.cell (p := ⟨g2, j, none⟩) (cell_lt h)).trans h
    rw [(HB4.out.cell (p := ⟨g2, j, none⟩) (cell_lt h3)).trans h3, hz.out]
    unfold putL64
    rw [Nat.mod_eq_of_lt hj])
  have H3 : Hid (∀ j, j < 8 → w4.cell? ⟨g3, 7 - j, none⟩ = some (.int .u8 (z j))) := Lib.hid (fun j hj => by
    have h := (HR3.out (7 - j) (by omega)).1
    rw [(HB4.out.cell (p := ⟨g3, 7 - j, none⟩) (cell_lt h)).trans h, hz.out]
    unfold putI64
    rw [show 7 - (7 - j) % 8 = j by omega])
  have H4 : Hid (∀ j, j < 4 → w4.cell? ⟨g4, j, none⟩ = some (.int .u8 (z (3 - j))) ∧ w4.cell? ⟨g3, 4 + j, none⟩ = some (.int .u8 (z (3 - j)))) := Lib.hid (fun j hj => by
    have h := (HR3.out (4 + j) (by omega)).1
    have h4 := (HR4.out j hj).1
    refine ⟨?_, ?_⟩
    · rw [h4, hz.out]
      unfold putI32
      rw [show 3 - j % 4 = 3 - j by omega, ey.out]
      have hcase : j = 0 ∨ j = 1 ∨ j = 2 ∨ j = 3 := by omega
      rcases hcase with rfl | rfl | rfl | rfl
      all_goals
        congr 3
        simp only [Nat.reduceSub, Nat.reducePow, Nat.sub_zero]
        omega
    · rw [(HB4.out.cell (p := ⟨g3, 4 + j, none⟩) (cell_lt h)).trans h, hz.out]
      unfold putI64
      rw [show 7 - (4 + j) % 8 = 3 - j by omega])
  clear HR2 HR3 HR4 HB3 HB4
  go_loopw [35] (fun i wr => ∃ k : Nat, k ≤ 8 ∧ i = .int .i64 k ∧ Hid (Below w4.heap.size w4 wr)) (fun i _ => 8 - (intOf i).toNat)
  case atStart => exact ⟨0, by omega, rfl, Lib.hid (bl_refl _)⟩
  case round =>
    obtain ⟨k, hk, rfl, HB⟩ := hrel
    have HC : Hid (∀ g j v, w4.cell? ⟨g, j, none⟩ = some v → wr.cell? ⟨g, j, none⟩ = some v) := Lib.hid (fun g j v h => (HB.out.cell (p := ⟨g, j, none⟩) (cell_lt h)).trans h)
    by_cases hlt : k < 8
    · have hc2 := HC.out _ _ _ (H2.out k hlt)
      have hc3 := HC.out _ _ _ (H3.out k hlt)
      by_cases hlt4 : k < 4
      · have hc4 := HC.out _ _ _ (H4.out k hlt4).1
        have hc5 := HC.out _ _ _ (H4.out k hlt4).2
        have hcase : k = 0 ∨ k = 1 ∨ k = 2 ∨ k = 3 := by omega
        rcases hcase with rfl | rfl | rfl | rfl
        all_goals
          simp only [Nat.reduceSub, Nat.reduceAdd, Nat.sub_zero, Nat.add_zero] at hc2 hc3 hc4 hc5
          go_wp2_with fail
          go_region
          go_wp2
          go_roundw
          case rel => first | exact ⟨1, by decide, rfl, Lib.hid HB.out.drew⟩ | exact ⟨2, by decide, rfl, Lib.hid HB.out.drew⟩ | exact ⟨3, by decide, rfl, Lib.hid HB.out.drew⟩ | exact ⟨4, by decide, rfl, Lib.hid HB.out.drew⟩ | exact ⟨5, by decide, rfl, Lib.hid HB.out.drew⟩ | exact ⟨6, by decide, rfl, Lib.hid HB.out.drew⟩ | exact ⟨7, by decide, rfl, Lib.hid HB.out.drew⟩ | exact ⟨8, by decide, rfl, Lib.hid HB.out.drew⟩
          case measure => simp [intOf]
      · have hcase : k = 4 ∨ k = 5 ∨ k = 6 ∨ k = 7 := by omega
        rcases hcase with rfl | rfl | rfl | rfl
        all_goals
          simp only [Nat.reduceSub] at hc2 hc3
          go_wp2_with fail
          go_region
          go_wp2
          go_roundw
          case rel => first | exact ⟨1, by decide, rfl, Lib.hid HB.out.drew⟩ | exact ⟨2, by decide, rfl, Lib.hid HB.out.drew⟩ | exact ⟨3, by decide, rfl, Lib.hid HB.out.drew⟩ | exact ⟨4, by decide, rfl, Lib.hid HB.out.drew⟩ | exact ⟨5, by decide, rfl, Lib.hid HB.out.drew⟩ | exact ⟨6, by decide, rfl, Lib.hid HB.out.drew⟩ | exact ⟨7, by decide, rfl, Lib.hid HB.out.drew⟩ | exact ⟨8, by decide, rfl, Lib.hid HB.out.drew⟩
          case measure => simp [intOf]
    · obtain rfl : k = 8 := by omega
      go_wp2
      go_ret
      exact ⟨rfl, bl_call HW.out HB.out⟩
end Go.Proofs.Ytohieonpegeokaa
