/- Contracts of long.Big and long.Small over the package's two tables. -/
import Derived.Test.YtcpmamnoaiaieaaDoorSigLong
namespace Go.Proofs.YtcpmamnoaiaieaaDoor
open Go.RowKit Bt
attribute [local go_sem] vals_set vals_get? vals_get vals_size rowAt_at rowAt_past hasRow_at hasRow_past run_loadRow run_storeCells_row setRow_at setRow_past rowAt_drewN hasRow_drewN setRow_drewN alloc_drewN setCell_drewN lt_s2 lt_s3 lt_s4 lt_s5 lt_s6
attribute [local go_sem ↓] loadRow_is

/-- the two tables hold what the program's text lays -/
def turns64 : Nat → Int := fun j => [28, 34, 39, 14, 18, 41].getD j 0
def shifts64 : Nat → Int := fun j => [1, 8, 7, 19, 61, 6].getD j 0
def Tabs64 (w : World) : Prop :=
  (∀ j, j < 6 → w.cell? ⟨1, j, none⟩ = some (.int .i64 (turns64 j))) ∧ (∀ j, j < 6 → w.cell? ⟨0, j, none⟩ = some (.int .i64 (shifts64 j)))
theorem Tabs64.below {w w1 : World} {B : Nat} (h : Tabs64 w) (hB : w.heap.size ≤ B) (hb : Below B w w1) : Tabs64 w1 :=
  ⟨fun j hj => by rw [hb.cell (p := ⟨_, j, none⟩) (Nat.lt_of_lt_of_le (cell_lt (h.1 j hj)) hB)]; exact h.1 j hj,
   fun j hj => by rw [hb.cell (p := ⟨_, j, none⟩) (Nat.lt_of_lt_of_le (cell_lt (h.2 j hj)) hB)]; exact h.2 j hj⟩
theorem run_loadRow3 (P : Program) (w : World) (g off : Nat) (f : Nat → Int) (h : ∀ j, j < 3 → w.cell? ⟨g, off + j, none⟩ = some (.int .i64 (f j))) :
    (loadRow ⟨g, off, none⟩ 3).run P w = .ok #[.int .i64 (f 0), .int .i64 (f 1), .int .i64 (f 2)] w := by
  unfold loadRow
  have := run_loadCells (P := P) w ⟨g, off, none⟩ 3 (fun j => .int .i64 (f j)) (fun j hj => by
    have e : (⟨g, off, none⟩ : Addr).add j = ⟨g, off + j, none⟩ := by unfold Addr.add; split <;> simp_all
    rw [e]; exact h j hj)
  exact this

set_option maxHeartbeats 1000000 in
theorem big64_w (which : Int) (x : Nat) (hx : x < 18446744073709551616) (w : World) (hg : Tabs64 w) :
    Calls Tryd.prog 19 #[.int .i64 which, .int .u64 x] w fun e w' => e = .returned (.int .u64 (bigS64 which x : Nat)) ∧ w = w' := by
  by_cases h0 : which = 0
  · subst h0
    obtain ⟨a, ha⟩ : ∃ n : Nat, Hid (n = rotr 64 x 28) := ⟨rotr 64 x 28, Lib.hid rfl⟩
    have al : a < 18446744073709551616 := by rw [ha.out]; exact rotr_lt64 _ _
    have qa := fun w => turn64_w x hx 28 w
    rw [show ((28 : Int) % 64).toNat = 28 from rfl, ← ha.out] at qa
    have Ca := Lib.hid qa
    clear qa
    obtain ⟨b, hb⟩ : ∃ n : Nat, Hid (n = rotr 64 x 34) := ⟨rotr 64 x 34, Lib.hid rfl⟩
    have bl : b < 18446744073709551616 := by rw [hb.out]; exact rotr_lt64 _ _
    have qb := fun w => turn64_w x hx 34 w
    rw [show ((34 : Int) % 64).toNat = 34 from rfl, ← hb.out] at qb
    have Cb := Lib.hid qb
    clear qb
    obtain ⟨c, hc⟩ : ∃ n : Nat, Hid (n = rotr 64 x 39) := ⟨rotr 64 x 39, Lib.hid rfl⟩
    have cl : c < 18446744073709551616 := by rw [hc.out]; exact rotr_lt64 _ _
    have qc := fun w => turn64_w x hx 39 w
    rw [show ((39 : Int) % 64).toNat = 39 from rfl, ← hc.out] at qc
    have Cc := Lib.hid qc
    clear qc
    have e1 : bits .xor .u64 0 (a : Int) = (a : Int) := by have := u64_xor_nat 0 a (by omega) al; rw [Nat.zero_xor] at this; exact this
    have e2 := u64_xor_nat a b al bl
    have e3 := u64_xor_nat (a ^^^ b) c (xor_lt64 al bl) cl
    have hB : bigS64 0 x = (rotr 64 x 28 ^^^ rotr 64 x 34) ^^^ rotr 64 x 39 := rfl
    rw [hB, ← ha.out, ← hb.out, ← hc.out]
    clear hB al bl cl
    have hl : (loadRow ⟨1, 0, none⟩ 3).run Tryd.prog w = .ok #[.int .i64 28, .int .i64 34, .int .i64 39] w := run_loadRow3 _ w _ 0 (fun j => turns64 (0 + j)) (fun j hj => hg.1 _ (by omega))
    have i0 : ∀ w, (Instr.index 44 (.agg #[.int .i64 28, .int .i64 34, .int .i64 39]) (.int .i64 0)).run Tryd.prog w = .ok (.int .i64 28) w := fun _ => by kernel_rfl
    have i1 : ∀ w, (Instr.index 44 (.agg #[.int .i64 28, .int .i64 34, .int .i64 39]) (.int .i64 1)).run Tryd.prog w = .ok (.int .i64 34) w := fun _ => by kernel_rfl
    have i2 : ∀ w, (Instr.index 44 (.agg #[.int .i64 28, .int .i64 34, .int .i64 39]) (.int .i64 2)).run Tryd.prog w = .ok (.int .i64 39) w := fun _ => by kernel_rfl
    go_enter Tryd.func19, Tryd.ntmps19
    go_wp2
    refine wp_loop_rounds 4 ?_
    rw [rounds_succ]
    go_wp2_with (first | (go_at_call 28; (with_reducible refine (Ca.out _).mono ?_); rintro e w' ⟨rfl, rfl⟩) | (go_at_call 28; (with_reducible refine (Cb.out _).mono ?_); rintro e w' ⟨rfl, rfl⟩) | (go_at_call 28; (with_reducible refine (Cc.out _).mono ?_); rintro e w' ⟨rfl, rfl⟩))
    rw [rounds_succ]
    go_wp2_with (first | (go_at_call 28; (with_reducible refine (Ca.out _).mono ?_); rintro e w' ⟨rfl, rfl⟩) | (go_at_call 28; (with_reducible refine (Cb.out _).mono ?_); rintro e w' ⟨rfl, rfl⟩) | (go_at_call 28; (with_reducible refine (Cc.out _).mono ?_); rintro e w' ⟨rfl, rfl⟩))
    rw [rounds_succ]
    go_wp2_with (first | (go_at_call 28; (with_reducible refine (Ca.out _).mono ?_); rintro e w' ⟨rfl, rfl⟩) | (go_at_call 28; (with_reducible refine (Cb.out _).mono ?_); rintro e w' ⟨rfl, rfl⟩) | (go_at_call 28; (with_reducible refine (Cc.out _).mono ?_); rintro e w' ⟨rfl, rfl⟩))
    rw [rounds_succ]
    go_wp2_with (first | (go_at_call 28; (with_reducible refine (Ca.out _).mono ?_); rintro e w' ⟨rfl, rfl⟩) | (go_at_call 28; (with_reducible refine (Cb.out _).mono ?_); rintro e w' ⟨rfl, rfl⟩) | (go_at_call 28; (with_reducible refine (Cc.out _).mono ?_); rintro e w' ⟨rfl, rfl⟩))
    go_ret
    exact ⟨rfl, rfl⟩
  · by_cases h1 : which = 1
    · subst h1
      obtain ⟨a, ha⟩ : ∃ n : Nat, Hid (n = rotr 64 x 14) := ⟨rotr 64 x 14, Lib.hid rfl⟩
      have al : a < 18446744073709551616 := by rw [ha.out]; exact rotr_lt64 _ _
      have qa := fun w => turn64_w x hx 14 w
      rw [show ((14 : Int) % 64).toNat = 14 from rfl, ← ha.out] at qa
      have Ca := Lib.hid qa
      clear qa
      obtain ⟨b, hb⟩ : ∃ n : Nat, Hid (n = rotr 64 x 18) := ⟨rotr 64 x 18, Lib.hid rfl⟩
      have bl : b < 18446744073709551616 := by rw [hb.out]; exact rotr_lt64 _ _
      have qb := fun w => turn64_w x hx 18 w
      rw [show ((18 : Int) % 64).toNat = 18 from rfl, ← hb.out] at qb
      have Cb := Lib.hid qb
      clear qb
      obtain ⟨c, hc⟩ : ∃ n : Nat, Hid (n = rotr 64 x 41) := ⟨rotr 64 x 41, Lib.hid rfl⟩
      have cl : c < 18446744073709551616 := by rw [hc.out]; exact rotr_lt64 _ _
      have qc := fun w => turn64_w x hx 41 w
      rw [show ((41 : Int) % 64).toNat = 41 from rfl, ← hc.out] at qc
      have Cc := Lib.hid qc
      clear qc
      have e1 : bits .xor .u64 0 (a : Int) = (a : Int) := by have := u64_xor_nat 0 a (by omega) al; rw [Nat.zero_xor] at this; exact this
      have e2 := u64_xor_nat a b al bl
      have e3 := u64_xor_nat (a ^^^ b) c (xor_lt64 al bl) cl
      have hB : bigS64 1 x = (rotr 64 x 14 ^^^ rotr 64 x 18) ^^^ rotr 64 x 41 := rfl
      rw [hB, ← ha.out, ← hb.out, ← hc.out]
      clear hB al bl cl
      have hl : (loadRow ⟨1, 3, none⟩ 3).run Tryd.prog w = .ok #[.int .i64 14, .int .i64 18, .int .i64 41] w := run_loadRow3 _ w _ 3 (fun j => turns64 (3 + j)) (fun j hj => hg.1 _ (by omega))
      have i0 : ∀ w, (Instr.index 44 (.agg #[.int .i64 14, .int .i64 18, .int .i64 41]) (.int .i64 0)).run Tryd.prog w = .ok (.int .i64 14) w := fun _ => by kernel_rfl
      have i1 : ∀ w, (Instr.index 44 (.agg #[.int .i64 14, .int .i64 18, .int .i64 41]) (.int .i64 1)).run Tryd.prog w = .ok (.int .i64 18) w := fun _ => by kernel_rfl
      have i2 : ∀ w, (Instr.index 44 (.agg #[.int .i64 14, .int .i64 18, .int .i64 41]) (.int .i64 2)).run Tryd.prog w = .ok (.int .i64 41) w := fun _ => by kernel_rfl
      go_enter Tryd.func19, Tryd.ntmps19
      go_wp2
      refine wp_loop_rounds 4 ?_
      rw [rounds_succ]
      go_wp2_with (first | (go_at_call 28; (with_reducible refine (Ca.out _).mono ?_); rintro e w' ⟨rfl, rfl⟩) | (go_at_call 28; (with_reducible refine (Cb.out _).mono ?_); rintro e w' ⟨rfl, rfl⟩) | (go_at_call 28; (with_reducible refine (Cc.out _).mono ?_); rintro e w' ⟨rfl, rfl⟩))
      rw [rounds_succ]
      go_wp2_with (first | (go_at_call 28; (with_reducible refine (Ca.out _).mono ?_); rintro e w' ⟨rfl, rfl⟩) | (go_at_call 28; (with_reducible refine (Cb.out _).mono ?_); rintro e w' ⟨rfl, rfl⟩) | (go_at_call 28; (with_reducible refine (Cc.out _).mono ?_); rintro e w' ⟨rfl, rfl⟩))
      rw [rounds_succ]
      go_wp2_with (first | (go_at_call 28; (with_reducible refine (Ca.out _).mono ?_); rintro e w' ⟨rfl, rfl⟩) | (go_at_call 28; (with_reducible refine (Cb.out _).mono ?_); rintro e w' ⟨rfl, rfl⟩) | (go_at_call 28; (with_reducible refine (Cc.out _).mono ?_); rintro e w' ⟨rfl, rfl⟩))
      rw [rounds_succ]
      go_wp2_with (first | (go_at_call 28; (with_reducible refine (Ca.out _).mono ?_); rintro e w' ⟨rfl, rfl⟩) | (go_at_call 28; (with_reducible refine (Cb.out _).mono ?_); rintro e w' ⟨rfl, rfl⟩) | (go_at_call 28; (with_reducible refine (Cc.out _).mono ?_); rintro e w' ⟨rfl, rfl⟩))
      go_ret
      exact ⟨rfl, rfl⟩
    · have hB : bigS64 which x = 0 := by unfold bigS64; rw [if_neg h0, if_neg h1]
      rw [hB]
      clear hB
      rcases (show which < 0 ∨ 1 < which by omega) with h | h
      · clear h0 h1
        go_enter Tryd.func19, Tryd.ntmps19
        go_wp2
        go_ret
        exact ⟨rfl, rfl⟩
      · clear h0 h1
        have h' : ¬ which < 0 := by omega
        go_enter Tryd.func19, Tryd.ntmps19
        go_wp2
        go_ret
        exact ⟨rfl, rfl⟩

set_option maxHeartbeats 1000000 in
theorem small64_w (which : Int) (x : Nat) (hx : x < 18446744073709551616) (w : World) (hg : Tabs64 w) :
    Calls Tryd.prog 16 #[.int .i64 which, .int .u64 x] w fun e w' => e = .returned (.int .u64 (smallS64 which x : Nat)) ∧ Below w.heap.size w w' := by
  by_cases h0 : which = 0
  · subst h0
    obtain ⟨a, ha⟩ : ∃ n : Nat, Hid (n = rotr 64 x 1) := ⟨rotr 64 x 1, Lib.hid rfl⟩
    have al : a < 18446744073709551616 := by rw [ha.out]; exact rotr_lt64 _ _
    have qa := fun w => turn64_w x hx 1 w
    rw [show ((1 : Int) % 64).toNat = 1 from rfl, ← ha.out] at qa
    have Ca := Lib.hid qa
    clear qa
    obtain ⟨b, hb⟩ : ∃ n : Nat, Hid (n = rotr 64 x 8) := ⟨rotr 64 x 8, Lib.hid rfl⟩
    have bl : b < 18446744073709551616 := by rw [hb.out]; exact rotr_lt64 _ _
    have qb := fun w => turn64_w x hx 8 w
    rw [show ((8 : Int) % 64).toNat = 8 from rfl, ← hb.out] at qb
    have Cb := Lib.hid qb
    clear qb
    obtain ⟨c, hc⟩ : ∃ n : Nat, Hid (n = x / 2 ^ 7) := ⟨x / 2 ^ 7, Lib.hid rfl⟩
    have cl : c < 18446744073709551616 := by rw [hc.out]; exact div_lt64 _ hx
    have qc := fun w => shift64_w x hx 7 (by omega) w
    rw [show ((7 : Int)).toNat = 7 from rfl, ← hc.out] at qc
    have Cc := Lib.hid qc
    clear qc
    have e2 := u64_xor_nat a b al bl
    have e3 := u64_xor_nat (a ^^^ b) c (xor_lt64 al bl) cl
    have hB : smallS64 0 x = (rotr 64 x 1 ^^^ rotr 64 x 8) ^^^ x / 2 ^ 7 := rfl
    rw [hB, ← ha.out, ← hb.out, ← hc.out]
    clear hB al bl cl
    have hl : (loadRow ⟨0, 0, none⟩ 3).run Tryd.prog w = .ok #[.int .i64 1, .int .i64 8, .int .i64 7] w := run_loadRow3 _ w _ 0 (fun j => shifts64 (0 + j)) (fun j hj => hg.2 _ (by omega))
    go_enter Tryd.func16, Tryd.ntmps16
    go_wp2
    refine region_still (by kernel_rfl) (by kernel_rfl) rfl ?_
    iterate 3 still_step
    still_call (calls_still (Ca.out _))
    iterate 3 still_step
    still_call (calls_still (Cb.out _))
    iterate 4 still_step
    still_call (calls_still (Cc.out _))
    iterate 2 still_step
    refine wpStill_nil ?_
    go_wp2
    go_ret
    refine ⟨rfl, ?_⟩
    exact bl_drew (bl_alloc (bl_refl _))
  · by_cases h1 : which = 1
    · subst h1
      obtain ⟨a, ha⟩ : ∃ n : Nat, Hid (n = rotr 64 x 19) := ⟨rotr 64 x 19, Lib.hid rfl⟩
      have al : a < 18446744073709551616 := by rw [ha.out]; exact rotr_lt64 _ _
      have qa := fun w => turn64_w x hx 19 w
      rw [show ((19 : Int) % 64).toNat = 19 from rfl, ← ha.out] at qa
      have Ca := Lib.hid qa
      clear qa
      obtain ⟨b, hb⟩ : ∃ n : Nat, Hid (n = rotr 64 x 61) := ⟨rotr 64 x 61, Lib.hid rfl⟩
      have bl : b < 18446744073709551616 := by rw [hb.out]; exact rotr_lt64 _ _
      have qb := fun w => turn64_w x hx 61 w
      rw [show ((61 : Int) % 64).toNat = 61 from rfl, ← hb.out] at qb
      have Cb := Lib.hid qb
      clear qb
      obtain ⟨c, hc⟩ : ∃ n : Nat, Hid (n = x / 2 ^ 6) := ⟨x / 2 ^ 6, Lib.hid rfl⟩
      have cl : c < 18446744073709551616 := by rw [hc.out]; exact div_lt64 _ hx
      have qc := fun w => shift64_w x hx 6 (by omega) w
      rw [show ((6 : Int)).toNat = 6 from rfl, ← hc.out] at qc
      have Cc := Lib.hid qc
      clear qc
      have e2 := u64_xor_nat a b al bl
      have e3 := u64_xor_nat (a ^^^ b) c (xor_lt64 al bl) cl
      have hB : smallS64 1 x = (rotr 64 x 19 ^^^ rotr 64 x 61) ^^^ x / 2 ^ 6 := rfl
      rw [hB, ← ha.out, ← hb.out, ← hc.out]
      clear hB al bl cl
      have hl : (loadRow ⟨0, 3, none⟩ 3).run Tryd.prog w = .ok #[.int .i64 19, .int .i64 61, .int .i64 6] w := run_loadRow3 _ w _ 3 (fun j => shifts64 (3 + j)) (fun j hj => hg.2 _ (by omega))
      go_enter Tryd.func16, Tryd.ntmps16
      go_wp2
      refine region_still (by kernel_rfl) (by kernel_rfl) rfl ?_
      iterate 3 still_step
      still_call (calls_still (Ca.out _))
      iterate 3 still_step
      still_call (calls_still (Cb.out _))
      iterate 4 still_step
      still_call (calls_still (Cc.out _))
      iterate 2 still_step
      refine wpStill_nil ?_
      go_wp2
      go_ret
      refine ⟨rfl, ?_⟩
      exact bl_drew (bl_alloc (bl_refl _))
    · have hB : smallS64 which x = 0 := by unfold smallS64; rw [if_neg h0, if_neg h1]
      rw [hB]
      clear hB
      rcases (show which < 0 ∨ 1 < which by omega) with h | h
      · clear h0 h1
        go_enter Tryd.func16, Tryd.ntmps16
        go_wp2
        go_ret
        exact ⟨rfl, bl_refl _⟩
      · clear h0 h1
        have h' : ¬ which < 0 := by omega
        go_enter Tryd.func16, Tryd.ntmps16
        go_wp2
        go_ret
        exact ⟨rfl, bl_refl _⟩

end Go.Proofs.YtcpmamnoaiaieaaDoor
