/- Layer 14 (lane): Bytes, window; the reference's Bytes. -/
import Derived.Test.YtohieonpegeokaaLoad
import Derived.Test.YtohieonpegeokaaLoadXor
import Derived.Test.YtohieonpegeokaaFour
import Derived.Test.YtohieonpegeokaaLoadPutsLaw
import Derived.Test.YtohieonpegeokaaArr
namespace Go.Proofs.Ytohieonpegeokaa
open Go.RowKit Go.Shelf
attribute [local go_sem] vals_set vals_get? vals_get vals_size rowAt_at rowAt_past hasRow_at hasRow_past run_loadRow run_storeCells_row setRow_at setRow_past rowAt_drewN hasRow_drewN setRow_drewN alloc_drewN setCell_drewN lt_s2 lt_s3 lt_s4 lt_s5 lt_s6
attribute [local go_sem ↓] loadRow_is

theorem arr25 : ArrT Try.prog 56 25 := ⟨_, _, Try.underlying56, by kernel_rfl⟩
set_option maxRecDepth 100000 in
theorem lbytes_w (f : Nat → Nat) (w : World) (hf : ∀ j, j < 25 → f j < 18446744073709551616) :
    Calls Try.prog 55 #[.agg (vals .u64 25 (fun j => (f j : Int)))] w fun e w' => ∃ v, e = .returned v ∧ owns w' w.heap.size 5 .u8 v 200 (putL64 f) ∧ Below w.heap.size w w' := by
  have HB := bl_refl w
  have HF := Lib.hid hf
  clear hf
  go_enter Try.func55, Try.ntmps55
  go_wp2_with (go_at_call 46; refine (putLittle64_w _ 25 25 f _ (by omega) (reads_new _ _ _ rfl) HF.out).mono ?_; rintro e w1 ⟨v, rfl, ho, hb⟩; have hbn := bl_call (bl_alloc HB) hb; replace ho := owns_base (base' := w.heap.size) (by simp) ho; clear HB hb)
  go_ret
  exact ⟨_, rfl, ho, hbn⟩
set_option maxRecDepth 100000 in
theorem rlbytes_w (f : Nat → Nat) (w : World) (hf : ∀ j, j < 25 → f j < 18446744073709551616) :
    Calls Try.prog 57 #[.agg (vals .u64 25 (fun j => (f j : Int)))] w fun e w' => ∃ v, e = .returned v ∧ owns w' w.heap.size 5 .u8 v 200 (putL64 f) ∧ Below w.heap.size w w' := by
  have HF := Lib.hid hf
  clear hf
  go_enter Try.func57, Try.ntmps57
  have HR := Lib.hid (reads_new w 56 (fun j => (f j : Int)) (cs := vals .u64 25 (fun j => (f j : Int))) rfl)
  have HS := Lib.hid (World.size_alloc w (.cells (vals .u64 25 (fun j => (f j : Int))) 56))
  go_wp2
  obtain ⟨W1, hW1⟩ : ∃ W1, Hid (w.alloc (.cells (vals .u64 25 (fun j => (f j : Int))) 56) = W1) := ⟨_, Lib.hid rfl⟩
  have HW := Lib.hid (bl_alloc (o := .cells (vals .u64 25 (fun j => (f j : Int))) 56) (bl_refl w))
  rw [hW1.out] at HR HS HW ⊢
  go_loopw [3, 4] (fun v i wr => ∃ k : Nat, k ≤ 25 ∧ i = .int .i64 k ∧ Hid (owns wr W1.heap.size 5 .u8 v (k * 8) (putL64 f)) ∧ Hid (Below W1.heap.size W1 wr)) (fun _ i _ => 25 - (intOf i).toNat)
  case atStart => exact ⟨0, by omega, rfl, Lib.hid (owns_nil _ _ _ _ _), Lib.hid (bl_refl _)⟩
  case round =>
    obtain ⟨k, hk, rfl, HO, HB⟩ := hrel
    by_cases hlt : k < 25
    · obtain ⟨b, off, e, hc⟩ := reads_below (Nat.le_refl _) HB.out HR.out (by omega)
      cases e
      have hcell := hc k hlt
      rw [Nat.zero_add] at hcell
      have hx := HF.out k hlt
      obtain ⟨x, ex⟩ : ∃ x, Hid (x = f k) := ⟨_, Lib.hid rfl⟩
      simp only [← ex.out] at hcell hx
      clear hc
      have CL : Hid (∀ W, Calls Try.prog 50 #[.int .u64 x, .int .i64 8] W fun e w' => ∃ v, e = .returned v ∧ owns w' W.heap.size 5 .u8 v 8 (fun j => ((x / 256 ^ j % 256 : Nat) : Int)) ∧ Below W.heap.size W w') := Lib.hid (fun W => little_w x hx 8 (by omega) W)
      go_wp2_with (first | (go_at_call 50; (with_reducible refine (CL.out _).mono ?_); rintro e w2 ⟨v, rfl, ho, hb⟩; obtain ⟨g2, c2, rfl, _, _, _, _⟩ := owns_at ho (by omega); obtain ⟨_, _, e2, _, _, hr2⟩ := owns_reads ho; cases e2; have R2 := Lib.hid hr2; have HOn := Lib.hid (owns_below (Nat.le_refl _) hb HO.out); have HBn := Lib.hid (HB.out.trans (hb.mono HB.out.size)); clear hb ho hr2 HO HB; have HO := HOn; have HB := HBn; clear HOn HBn) | (at_builtin; refine append_many elt8w rfl (.tmp 9) (.tmp 13) rfl rfl HO.out rfl R2.out (by unfold maxLen; omega) (by omega) HB.out.size ?_; intro v' w3 ho3 hg3; have HO3 := Lib.hid ho3; have HB3 := Lib.hid (HB.out.trans (own_grown HO.out hg3 HB.out.size)); clear ho3 hg3))
      go_roundw
      case rel =>
        refine ⟨k + 1, by omega, by go_num, Lib.hid ?_, HB3⟩
        rw [show (k + 1) * 8 = k * 8 + 8 by omega]
        refine owns_ext (fun j hj => ?_) HO3.out
        by_cases h : j < k * 8
        · rw [if_pos h]
        · rw [if_neg h]
          exact putL64_app f k j x ex.out h (by omega)
      case measure => simp [intOf]; omega
    · obtain rfl : k = 25 := by omega
      go_wp2
      go_ret
      exact ⟨_, rfl, owns_base HW.out.size HO.out, HW.out.trans (HB.out.mono HW.out.size)⟩

/-! what of a run of bytes lies in the state -/
def winF (i n : Int) : Nat := if n ≤ 0 ∨ 200 ≤ i ∨ i ≤ -n then 0 else i.toNat
def winM (i n : Int) : Nat := if n ≤ 0 ∨ 200 ≤ i ∨ i ≤ -n then 0 else (min (n - (max i 0 - i)) (200 - max i 0)).toNat
theorem win_le (i n : Int) : winF i n + winM i n ≤ 200 := by
  unfold winF winM
  split <;> omega
theorem win_iff (i n : Int) (j : Nat) (hj : j < 200) : (i ≤ (j : Int) ∧ (j : Int) - i < n) ↔ (winF i n ≤ j ∧ j < winF i n + winM i n) := by
  unfold winF winM
  split <;> omega
set_option maxRecDepth 100000 in
theorem window_w (i n : Int) (hi : -9223372036854775808 ≤ i ∧ i < 9223372036854775808) (hn : -9223372036854775808 ≤ n ∧ n < 9223372036854775808) (w : World) :
    Calls Try.prog 74 #[.int .i64 i, .int .i64 n] w fun e w' => e = .returned (.tuple #[.int .i64 (winF i n), .int .i64 (winM i n)]) ∧ w' = w := by
  obtain ⟨hi1, hi2⟩ := hi
  obtain ⟨hn1, hn2⟩ := hn
  by_cases h1 : n ≤ 0
  · have e1 : winF i n = 0 := by unfold winF; rw [if_pos (.inl h1)]
    have e2 : winM i n = 0 := by unfold winM; rw [if_pos (.inl h1)]
    rw [e1, e2]
    clear e1 e2
    go_enter Try.func74, Try.ntmps74
    go_wp2
    refine bodyPost_ret (results_tmp2 rfl _ _ _) rfl ?_
    exact ⟨rfl, rfl⟩
  · have h1' : 0 < n := by omega
    have hw : wrap64 (-n) = -n := by unfold wrap64; omega
    by_cases h2 : 200 ≤ i
    · have e1 : winF i n = 0 := by unfold winF; rw [if_pos (.inr (.inl h2))]
      have e2 : winM i n = 0 := by unfold winM; rw [if_pos (.inr (.inl h2))]
      rw [e1, e2]
      clear e1 e2
      go_enter Try.func74, Try.ntmps74
      go_wp2
      refine bodyPost_ret (results_tmp2 rfl _ _ _) rfl ?_
      exact ⟨rfl, rfl⟩
    · have h2' : i < 200 := by omega
      by_cases h3 : i ≤ -n
      · have e1 : winF i n = 0 := by unfold winF; rw [if_pos (.inr (.inr h3))]
        have e2 : winM i n = 0 := by unfold winM; rw [if_pos (.inr (.inr h3))]
        rw [e1, e2]
        clear e1 e2
        go_enter Try.func74, Try.ntmps74
        go_wp2
        refine bodyPost_ret (results_tmp2 rfl _ _ _) rfl ?_
        exact ⟨rfl, rfl⟩
      · have h3' : -n < i := by omega
        have e1 : ((winF i n : Nat) : Int) = max i 0 := by unfold winF; rw [if_neg (by omega)]; omega
        have e2 : ((winM i n : Nat) : Int) = min (n - (max i 0 - i)) (200 - max i 0) := by
          unfold winM
          rw [if_neg (by omega)]

          omega
        rw [e1, e2]
        clear e1 e2
        go_enter Try.func74, Try.ntmps74
        go_wp2
        refine bodyPost_ret (results_tmp2 rfl _ _ _) rfl ?_
        exact ⟨rfl, rfl⟩
end Go.Proofs.Ytohieonpegeokaa
