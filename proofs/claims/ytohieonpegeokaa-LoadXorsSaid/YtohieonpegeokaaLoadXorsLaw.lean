/- The walk of the law LoadXors. -/
import Derived.Test.YtohieonpegeokaaLoad
import Derived.Test.YtohieonpegeokaaLoadXor
import Derived.Deep.RegionHeld3
namespace Go.Proofs.Ytohieonpegeokaa
open Go.RowKit Go.Shelf

set_option maxRecDepth 100000 in
set_option maxHeartbeats 2000000 in
theorem loadXors_walk (a : Option Addr) (la ca : Nat) (f' : Nat → Int) (b : Option Addr) (lb cb : Nat) (g' : Nat → Int) (w : World) (hla : la ≤ maxLen) (hra : reads w a la .u8 f') (hf : ∀ j, j < la → 0 ≤ f' j ∧ f' j < 256) (hca : la ≤ ca) (hlb : lb ≤ maxLen) (hrb : reads w b lb .u8 g') (hg : ∀ j, j < lb → 0 ≤ g' j ∧ g' j < 256) (_ : lb ≤ cb) :
    Calls Try.prog 14 #[.slice a la ca, .slice b lb cb] w fun e w' => e = .returned (.bool true) ∧ Below w.heap.size w w' := by
  unfold maxLen at hla hlb
  have HW := Lib.hid (bl_refl w)
  have HCA := Lib.hid hca
  clear hca
  by_cases hbig : 500 < la
  · clear hra hrb hf hg
    go_enter Try.func14, Try.ntmps14
    go_wp2_with (go_at_call 39; refine (wakes_w _).mono ?_; rintro e w1 ⟨rfl, hb⟩)
    go_ret
    exact ⟨rfl, hb⟩
  by_cases hbig2 : 500 < lb
  · clear hra hrb hf hg
    go_enter Try.func14, Try.ntmps14
    go_wp2_with (go_at_call 39; refine (wakes_w _).mono ?_; rintro e w1 ⟨rfl, hb⟩)
    go_ret
    exact ⟨rfl, hb⟩
  have hsa : la ≤ 500 := by omega
  have hsb : lb ≤ 500 := by omega
  clear hbig hbig2
  obtain ⟨f, hf2⟩ : ∃ f : Nat → Nat, Hid (f = fun j => (f' j).toNat) := ⟨_, Lib.hid rfl⟩
  obtain ⟨g, hg2⟩ : ∃ g : Nat → Nat, Hid (g = fun j => (g' j).toNat) := ⟨_, Lib.hid rfl⟩
  have HRA : Hid (reads w a la .u8 (fun j => (f j : Int))) := Lib.hid (reads_ext (fun j hj => by have := hf j hj; rw [hf2.out]; show f' j = (((f' j).toNat : Nat) : Int); omega) hra)
  have HRB : Hid (reads w b lb .u8 (fun j => (g j : Int))) := Lib.hid (reads_ext (fun j hj => by have := hg j hj; rw [hg2.out]; show g' j = (((g' j).toNat : Nat) : Int); omega) hrb)
  have HF : Hid (∀ j, j < la → f j < 256) := Lib.hid (fun j hj => by have := hf j hj; rw [hf2.out]; show (f' j).toNat < 256; omega)
  have HG : Hid (∀ j, j < lb → g j < 256) := Lib.hid (fun j hj => by have := hg j hj; rw [hg2.out]; show (g' j).toNat < 256; omega)
  clear hra hrb hf hg hf2 hg2
  obtain ⟨n, hn⟩ : ∃ n, Hid (n = min la lb) := ⟨_, Lib.hid rfl⟩
  have hna : n ≤ la := by rw [hn.out]; omega
  have hnb : n ≤ lb := by rw [hn.out]; omega
  have e1 : Hid (min (la : Int) (lb : Int) = (n : Int)) := Lib.hid (by rw [hn.out]; omega)
  go_enter Try.func14, Try.ntmps14
  go_wp2_with (first | (go_at_call 39; refine (wakes_w _).mono ?_; rintro e w1 ⟨rfl, hb⟩; have HWn := Lib.hid (bl_call HW.out hb); clear HW hb; have HW := HWn; clear HWn) | (go_at_call 52; refine (lxor_w a b la ca lb cb f g _ (by omega) HCA.out (by omega) (reads_below (Nat.le_refl _) HW.out HRA.out) (reads_below (Nat.le_refl _) HW.out HRB.out) HF.out HG.out).mono ?_; rintro e w2 ⟨v, rfl, ho, hb⟩; rw [← hn.out] at ho; simp only [e1.out]; obtain ⟨a2, c2, rfl, hc2, _, hr2⟩ := owns_reads ho; have HR2 := Lib.hid hr2; clear ho hr2; have HWn := Lib.hid (bl_call HW.out hb); clear HW hb; have HW := HWn; clear HWn))
  have hnc : n ≤ ca := by have := HCA.out; omega
  have HRAn : Hid (reads w a n .u8 (fun j => (f j : Int))) := Lib.hid (fun h => by
    obtain ⟨b, off, e, hc⟩ := HRA.out (by omega)
    exact ⟨b, off, e, fun j hj => hc j (by omega)⟩)
  have HX : Hid (∀ W, Below w2.heap.size w2 W → Calls Try.prog 52 #[.slice a2 n c2, .slice b lb cb] W fun e w' => ∃ v, e = .returned v ∧ owns w' W.heap.size 5 .u8 v n (fun j => (f j : Int)) ∧ Below W.heap.size W w') := Lib.hid (fun W hW => by
    refine (lxor_w a2 b n c2 lb cb (fun j => f j ^^^ g j) g W (by omega) hc2 (by omega) (reads_below (Nat.le_refl _) hW HR2.out) (reads_below (Nat.le_refl _) (bl_call HW.out hW) HRB.out) (fun j hj => Nat.xor_lt_two_pow (n := 8) (HF.out j (by omega)) (HG.out j (by omega))) HG.out).mono ?_
    rintro e w' ⟨v, he, ho, hb⟩
    rw [Nat.min_eq_left hnb] at ho
    exact ⟨v, he, owns_ext (fun j hj => by rw [Nat.xor_assoc, Nat.xor_self, Nat.xor_zero]) ho, hb⟩)
  have HB2 : Hid (Below w2.heap.size w2 w2.drew) := Lib.hid (bl_refl w2).drew
  go_region_held3 (fun W => Below w2.heap.size w2 W) (first | assumption | exact HB2.out | exact HB3.out | exact HB4.out) (first | (go_at_call 52; (with_reducible refine (HX.out _ HB2.out).mono ?_); rintro e w3 ⟨v, rfl, ho, hb⟩; obtain ⟨a3, c3, rfl, _, _, hr3⟩ := owns_reads ho; have HB3 := Lib.hid (bl_call HB2.out hb); have HS := Lib.hid (same8_w a3 a n c3 ca _ _ (fun j _ => rfl) w3 (by unfold maxLen; omega) hr3 (reads_below (Nat.le_refl _) (bl_call HW.out HB3.out) HRAn.out)); clear ho hr3 hb) | (go_at_call 51; (with_reducible refine HS.out.mono ?_); rintro e w4 ⟨rfl, hb⟩; have HB4 := Lib.hid (bl_call HB3.out hb); clear hb))
  go_wp2
  clear HX HS HB3 HRAn e1
  go_loopw [42] (fun i wr => ∃ k : Nat, k ≤ n ∧ i = .int .i64 k ∧ Hid (Below w4.heap.size w4 wr)) (fun i _ => n - (intOf i).toNat)
  case atStart => exact ⟨0, by omega, rfl, Lib.hid (bl_refl _)⟩
  case round =>
    obtain ⟨k, hk, rfl, HB⟩ := hrel
    by_cases hlt : k < n
    · have hkla : k < la := by omega
      have hklb : k < lb := by omega
      have hbx := Lib.hid (bl_call HB4.out HB.out)
      have hbw := Lib.hid (bl_call HW.out hbx.out)
      obtain ⟨b1, o1, rfl, hc1⟩ := reads_below (Nat.le_refl _) hbx.out HR2.out (by omega)
      obtain ⟨b2, o2, rfl, hc2'⟩ := reads_below (Nat.le_refl _) hbw.out HRA.out (by omega)
      obtain ⟨b3, o3, rfl, hc3⟩ := reads_below (Nat.le_refl _) hbw.out HRB.out (by omega)
      have hcell1 := hc1 k hlt
      have hcell2 := hc2' k (by omega)
      have hcell3 := hc3 k (by omega)
      have CX := Lib.hid (rxor8_w (f k) (g k) (HF.out k (by omega)) (HG.out k (by omega)) wr.drew)
      clear hc1 hc2' hc3
      go_wp2_with fail
      refine region_still (by kernel_rfl) (by kernel_rfl) rfl ?_
      iterate 12 still_step
      still_call CX.out
      still_step
      refine wpStill_nil ?_
      go_wp2
      go_roundw
      case rel => exact ⟨k + 1, by omega, by go_num, Lib.hid HB.out.drew⟩
      case measure => simp [intOf]; omega
    · obtain rfl : n = k := by omega
      go_wp2
      go_ret
      exact ⟨rfl, bl_call HW.out (bl_call HB4.out HB.out)⟩
end Go.Proofs.Ytohieonpegeokaa
