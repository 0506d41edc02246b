/- Layer 14's reference: Of, Xor, Out. -/
import Derived.Test.YtohieonpegeokaaLaneOf
namespace Go.Proofs.Ytohieonpegeokaa
open Go.RowKit Go.Shelf
attribute [local go_sem] vals_set vals_get? vals_get vals_size rowAt_at rowAt_past hasRow_at hasRow_past run_loadRow run_storeCells_row setRow_at setRow_past rowAt_drewN hasRow_drewN setRow_drewN alloc_drewN setCell_drewN lt_s2 lt_s3 lt_s4 lt_s5 lt_s6
attribute [local go_sem ↓] loadRow_is

theorem cell_of_hasRow {w : World} {g n : Nat} {k : IntKind} {f : Nat → Int} (h : hasRow w g n) (hr : rowAt w g = vals k n f) {i : Nat} (hi : i < n) : w.cell? ⟨g, i, none⟩ = some (.int k (f i)) ∧ w.frozen? ⟨g, i, none⟩ = false := by
  obtain ⟨c, t, hg, hn⟩ := h
  unfold rowAt at hr
  rw [hg] at hr
  subst hr
  refine ⟨?_, by simp [World.frozen?, hg]⟩
  rw [cell_of_row w g i _ t (0, 0) hg, vals_get? k n f i hi]
theorem row_setCell {w : World} {g n : Nat} {k : IntKind} {f : Nat → Int} (h : hasRow w g n) (hr : rowAt w g = vals k n f) (i : Nat) (y : Int) :
    hasRow (w.setCell ⟨g, i, none⟩ (.int k y)) g n ∧ rowAt (w.setCell ⟨g, i, none⟩ (.int k y)) g = vals k n (fun j => if j = i then y else f j) ∧ w.grownBy (w.setCell ⟨g, i, none⟩ (.int k y)) (some g) := by
  obtain ⟨c, t, hg, hn⟩ := h
  unfold rowAt at hr
  rw [hg] at hr
  subst hr
  rw [Sort.setCell_eq]
  have h1 := heap_mapBlock w g (·.setIfInBounds i (.int k y)) hg
  have e : (vals k n f).setIfInBounds i (.int k y) = vals k n (fun j => if j = i then y else f j) := by
    apply Array.ext_getElem?
    intro j
    rw [Array.getElem?_setIfInBounds]
    by_cases hj : j < n
    · rw [vals_get? k n f j hj, vals_get? k n (fun j => if j = i then y else f j) j hj]
      by_cases hji : j = i
      · subst hji
        simp [vals_size, hj]
      · rw [if_neg (fun e => hji e.symm), if_neg hji]
    · rw [vals_get?_none _ _ _ _ (by omega), vals_get?_none _ _ _ _ (by omega)]
      split
      · rename_i e; subst e; simp [vals_size, hj]
      · rfl
  refine ⟨⟨_, t, h1, by simp [vals_size]⟩, ?_, grownBy_mapBlock _ _ _⟩
  unfold rowAt
  rw [h1]
  exact e
theorem reads_grown {w w1 : World} {g' o g n : Nat} {k : IntKind} {f : Nat → Int} (hg : w.grownBy w1 (some g)) (hne : g' ≠ g) (h : reads w (some ⟨g', o, none⟩) n k f) : reads w1 (some ⟨g', o, none⟩) n k f := by
  intro hn
  obtain ⟨b, off, e, hc⟩ := h hn
  refine ⟨b, off, e, fun j hj => ?_⟩
  cases e
  have h1 := hc j hj
  rw [World.cell?_of_block (w := w) (w' := w1) (a := ⟨g', o + j, none⟩) (hg.block g' (cell_lt h1) (fun e => hne (by cases e; rfl)))]
  exact h1
set_option maxRecDepth 100000 in
set_option maxHeartbeats 1000000 in
theorem rlof_w (a : Option Addr) (cap : Nat) (f : Nat → Int) (w : World) (hr : reads w a 200 .u8 f) (hf : ∀ j, j < 200 → 0 ≤ f j ∧ f j < 256) :
    Calls Try.prog 75 #[.slice a 200 cap] w fun e w' => e = .returned (.agg (vals .u64 25 (fun j => leN f (j * 8) 8))) ∧ Below w.heap.size w w' := by
  have HR := Lib.hid hr
  have HF := Lib.hid hf
  clear hr hf
  have hz := zero25
  go_enter Try.func75, Try.ntmps75
  go_wp2_with fail
  clear hz
  have q1 : hasRow ((w.alloc (.cells (vals .u64 25 (fun _ => 0)) 56)).alloc (.cells (vals .u64 25 (fun _ => 0)) 56)) w.heap.size 25 := by
    rw [hasRow_past _ _ _ _ (by simp)]
    exact hasRow_at _ _ _ _ _ rfl (vals_size _ _ _)
  have q2 : hasRow ((w.alloc (.cells (vals .u64 25 (fun _ => 0)) 56)).alloc (.cells (vals .u64 25 (fun _ => 0)) 56)) (w.heap.size + 1) 25 := hasRow_at _ _ _ _ _ (by simp) (vals_size _ _ _)
  have q5 : rowAt ((w.alloc (.cells (vals .u64 25 (fun _ => 0)) 56)).alloc (.cells (vals .u64 25 (fun _ => 0)) 56)) (w.heap.size + 1) = vals .u64 25 (fun _ => 0) := rowAt_at _ _ _ _ (by simp)
  have q3 : Below w.heap.size w ((w.alloc (.cells (vals .u64 25 (fun _ => 0)) 56)).alloc (.cells (vals .u64 25 (fun _ => 0)) 56)) := bl_alloc (bl_alloc (bl_refl w))
  have q4 : ((w.alloc (.cells (vals .u64 25 (fun _ => 0)) 56)).alloc (.cells (vals .u64 25 (fun _ => 0)) 56)).heap.size = w.heap.size + 2 := by simp
  have CL := Lib.hid (rlittle64_w a 200 cap f ((w.alloc (.cells (vals .u64 25 (fun _ => 0)) 56)).alloc (.cells (vals .u64 25 (fun _ => 0)) 56)) (by omega) (reads_below (Nat.le_refl _) q3 HR.out) HF.out)
  generalize (w.alloc (.cells (vals .u64 25 (fun _ => 0)) 56)).alloc (.cells (vals .u64 25 (fun _ => 0)) 56) = W2 at q1 q2 q3 q4 q5 CL ⊢
  have Q1 := Lib.hid q1
  have Q2 := Lib.hid q2
  have Q3 := Lib.hid q3
  have Q4 := Lib.hid q4
  have Q5 := Lib.hid q5
  clear q1 q2 q3 q4 q5
  refine CL.out.mono ?_
  rintro e w3 ⟨v, rfl, ho, hb⟩
  replace ho : owns w3 _ _ _ v 25 _ := ho
  obtain ⟨g3, c3, rfl, _, hg3, _, _⟩ := owns_at ho (by decide)
  obtain ⟨_, _, e2, _, _, hr3⟩ := owns_reads ho
  cases e2
  have hg4 : w.heap.size + 2 ≤ g3 := by have := Q4.out; omega
  have P1 := hasRow_below (Nat.le_refl _) hb Q1.out
  have P2 := hasRow_below (Nat.le_refl _) hb Q2.out
  have P5 : rowAt w3 (w.heap.size + 1) = vals .u64 25 (fun _ => 0) := by
    rw [← Q5.out]
    unfold rowAt
    rw [hb.block _ (by have := Q4.out; omega)]
  have P3 := bl_call Q3.out hb
  have HI : Hid (hasRow w3 w.heap.size 25 ∧ hasRow w3 (w.heap.size + 1) 25 ∧ rowAt w3 (w.heap.size + 1) = vals .u64 25 (fun j => if j < 0 then leN f (j * 8) 8 else 0) ∧ reads w3 (some ⟨g3, 0, none⟩) 25 .u64 (fun j => leN f (j * 8) 8) ∧ Below w.heap.size w w3) := Lib.hid ⟨P1, P2, by rw [vals_none]; exact P5, hr3, P3⟩
  clear ho hb hr3 P1 P2 P5 P3 Q1 Q2 Q3 Q4 Q5 CL
  go_wp2
  go_loopw [5] (fun i wr => ∃ k : Nat, k ≤ 25 ∧ i = .int .i64 k ∧ Hid (hasRow wr w.heap.size 25 ∧ hasRow wr (w.heap.size + 1) 25 ∧ rowAt wr (w.heap.size + 1) = vals .u64 25 (fun j => if j < k then leN f (j * 8) 8 else 0) ∧ reads wr (some ⟨g3, 0, none⟩) 25 .u64 (fun j => leN f (j * 8) 8) ∧ Below w.heap.size w wr)) (fun i _ => 25 - (intOf i).toNat)
  case atStart => exact ⟨0, by omega, rfl, HI⟩
  case round =>
    clear HI
    obtain ⟨k, hk, rfl, HI⟩ := hrel
    by_cases hlt : k < 25
    · obtain ⟨p1, p2, p3, p4, p5⟩ := HI.out
      obtain ⟨_, _, e, hc⟩ := p4 (by omega)
      cases e
      have hcell := hc k hlt
      rw [Nat.zero_add] at hcell
      obtain ⟨hcell2, hfr2⟩ := cell_of_hasRow p2 p3 hlt
      clear p1 p2 p3 p4 p5 hc
      obtain ⟨y, ey⟩ : ∃ y, Hid (y = leN f (k * 8) 8) := ⟨_, Lib.hid rfl⟩
      simp only [← ey.out] at hcell
      go_wp2
      go_roundw
      case rel =>
        obtain ⟨p1, p2, p3, p4, p5⟩ := HI.out
        obtain ⟨r1, r2, r3⟩ := row_setCell p2 p3 k y
        refine ⟨k + 1, by omega, by go_num, Lib.hid ⟨hasRow_grown r3 (by omega) p1, r1, ?_, reads_grown r3 (by omega) p4, p5.trans (below_own r3 (by omega) p5.size)⟩⟩
        rw [r2]
        refine vals_ext _ _ fun j hj => ?_
        by_cases h : j = k
        · subst h
          rw [if_pos rfl, if_pos (Nat.lt_succ_self _), ey.out]
        · rw [if_neg h]
          by_cases h2 : j < k
          · rw [if_pos h2, if_pos (by omega)]
          · rw [if_neg h2, if_neg (by omega)]
      case measure => simp [intOf]; omega
    · obtain rfl : k = 25 := by omega
      obtain ⟨p1, p2, p3, p4, p5⟩ := HI.out
      rw [vals_full] at p3
      have HP5 := Lib.hid p5
      clear HI p4 p5
      go_wp2
      obtain ⟨r1, r2, r3⟩ := row_setRow p1 (vals .u64 25 (fun j => leN f (j * 8) 8)) (vals_size _ _ _)
      refine bodyPost_ret (results_row arr25 rfl _ w.heap.size rfl r1) rfl ⟨?_, ?_⟩
      · rw [r2]
      · exact HP5.out.trans (below_setRow' (Nat.le_refl _) _)
end Go.Proofs.Ytohieonpegeokaa
