/- Contracts of word.Big and word.Small over the package's two tables. -/
import Derived.Test.YtfnncplokombgaaDoorSigWord
namespace Go.Proofs.YtfnncplokombgaaDoor
open Go.RowKit Bt
attribute [local go_sem] vals_set vals_get? vals_get vals_size rowAt_at rowAt_past hasRow_at hasRow_past run_loadRow run_storeCells_row setRow_at setRow_past rowAt_drewN hasRow_drewN setRow_drewN alloc_drewN setCell_drewN lt_s2 lt_s3 lt_s4 lt_s5 lt_s6
attribute [local go_sem ↓] loadRow_is

/-- the two tables hold what the program's text lays -/
def turns32 : Nat → Int := fun j => [2, 13, 22, 6, 11, 25].getD j 0
def shifts32 : Nat → Int := fun j => [7, 18, 3, 17, 19, 10].getD j 0
def Tabs32 (w : World) : Prop :=
  (∀ j, j < 6 → w.cell? ⟨1, j, none⟩ = some (.int .i64 (turns32 j))) ∧ (∀ j, j < 6 → w.cell? ⟨0, j, none⟩ = some (.int .i64 (shifts32 j)))
theorem Tabs32.below {w w1 : World} {B : Nat} (h : Tabs32 w) (hB : w.heap.size ≤ B) (hb : Below B w w1) : Tabs32 w1 :=
  ⟨fun j hj => by rw [hb.cell (p := ⟨_, j, none⟩) (Nat.lt_of_lt_of_le (cell_lt (h.1 j hj)) hB)]; exact h.1 j hj,
   fun j hj => by rw [hb.cell (p := ⟨_, j, none⟩) (Nat.lt_of_lt_of_le (cell_lt (h.2 j hj)) hB)]; exact h.2 j hj⟩
theorem run_loadRow3 (P : Program) (w : World) (g off : Nat) (f : Nat → Int) (h : ∀ j, j < 3 → w.cell? ⟨g, off + j, none⟩ = some (.int .i64 (f j))) :
    (loadRow ⟨g, off, none⟩ 3).run P w = .ok #[.int .i64 (f 0), .int .i64 (f 1), .int .i64 (f 2)] w := by
  unfold loadRow
  have := run_loadCells (P := P) w ⟨g, off, none⟩ 3 (fun j => .int .i64 (f j)) (fun j hj => by
    have e : (⟨g, off, none⟩ : Addr).add j = ⟨g, off + j, none⟩ := by unfold Addr.add; split <;> simp_all
    rw [e]; exact h j hj)
  exact this

set_option maxHeartbeats 1000000 in
theorem big32_w (which : Int) (x : Nat) (hx : x < 4294967296) (w : World) (hg : Tabs32 w) :
    Calls Tryd.prog 19 #[.int .i64 which, .int .u32 x] w fun e w' => e = .returned (.int .u32 (bigS32 which x : Nat)) ∧ w = w' := by
  by_cases h0 : which = 0
  · subst h0
    obtain ⟨a, ha⟩ : ∃ n : Nat, Hid (n = rotr 32 x 2) := ⟨rotr 32 x 2, Lib.hid rfl⟩
    have al : a < 4294967296 := by rw [ha.out]; exact rotr_lt32 _ _
    have qa := fun w => turn32_w x hx 2 w
    rw [show ((2 : Int) % 32).toNat = 2 from rfl, ← ha.out] at qa
    have Ca := Lib.hid qa
    clear qa
    obtain ⟨b, hb⟩ : ∃ n : Nat, Hid (n = rotr 32 x 13) := ⟨rotr 32 x 13, Lib.hid rfl⟩
    have bl : b < 4294967296 := by rw [hb.out]; exact rotr_lt32 _ _
    have qb := fun w => turn32_w x hx 13 w
    rw [show ((13 : Int) % 32).toNat = 13 from rfl, ← hb.out] at qb
    have Cb := Lib.hid qb
    clear qb
    obtain ⟨c, hc⟩ : ∃ n : Nat, Hid (n = rotr 32 x 22) := ⟨rotr 32 x 22, Lib.hid rfl⟩
    have cl : c < 4294967296 := by rw [hc.out]; exact rotr_lt32 _ _
    have qc := fun w => turn32_w x hx 22 w
    rw [show ((22 : Int) % 32).toNat = 22 from rfl, ← hc.out] at qc
    have Cc := Lib.hid qc
    clear qc
    have e1 : bits .xor .u32 0 (a : Int) = (a : Int) := by have := u32_xor_nat 0 a (by omega) al; rw [Nat.zero_xor] at this; exact this
    have e2 := u32_xor_nat a b al bl
    have e3 := u32_xor_nat (a ^^^ b) c (xor_lt32 al bl) cl
    have hB : bigS32 0 x = (rotr 32 x 2 ^^^ rotr 32 x 13) ^^^ rotr 32 x 22 := rfl
    rw [hB, ← ha.out, ← hb.out, ← hc.out]
    clear hB al bl cl
    have hl : (loadRow ⟨1, 0, none⟩ 3).run Tryd.prog w = .ok #[.int .i64 2, .int .i64 13, .int .i64 22] w := run_loadRow3 _ w _ 0 (fun j => turns32 (0 + j)) (fun j hj => hg.1 _ (by omega))
    have i0 : ∀ w, (Instr.index 49 (.agg #[.int .i64 2, .int .i64 13, .int .i64 22]) (.int .i64 0)).run Tryd.prog w = .ok (.int .i64 2) w := fun _ => by kernel_rfl
    have i1 : ∀ w, (Instr.index 49 (.agg #[.int .i64 2, .int .i64 13, .int .i64 22]) (.int .i64 1)).run Tryd.prog w = .ok (.int .i64 13) w := fun _ => by kernel_rfl
    have i2 : ∀ w, (Instr.index 49 (.agg #[.int .i64 2, .int .i64 13, .int .i64 22]) (.int .i64 2)).run Tryd.prog w = .ok (.int .i64 22) w := fun _ => by kernel_rfl
    go_enter Tryd.func19, Tryd.ntmps19
    go_wp2
    refine wp_loop_rounds 4 ?_
    rw [rounds_succ]
    go_wp2_with (first | (go_at_call 29; (with_reducible refine (Ca.out _).mono ?_); rintro e w' ⟨rfl, rfl⟩) | (go_at_call 29; (with_reducible refine (Cb.out _).mono ?_); rintro e w' ⟨rfl, rfl⟩) | (go_at_call 29; (with_reducible refine (Cc.out _).mono ?_); rintro e w' ⟨rfl, rfl⟩))
    rw [rounds_succ]
    go_wp2_with (first | (go_at_call 29; (with_reducible refine (Ca.out _).mono ?_); rintro e w' ⟨rfl, rfl⟩) | (go_at_call 29; (with_reducible refine (Cb.out _).mono ?_); rintro e w' ⟨rfl, rfl⟩) | (go_at_call 29; (with_reducible refine (Cc.out _).mono ?_); rintro e w' ⟨rfl, rfl⟩))
    rw [rounds_succ]
    go_wp2_with (first | (go_at_call 29; (with_reducible refine (Ca.out _).mono ?_); rintro e w' ⟨rfl, rfl⟩) | (go_at_call 29; (with_reducible refine (Cb.out _).mono ?_); rintro e w' ⟨rfl, rfl⟩) | (go_at_call 29; (with_reducible refine (Cc.out _).mono ?_); rintro e w' ⟨rfl, rfl⟩))
    rw [rounds_succ]
    go_wp2_with (first | (go_at_call 29; (with_reducible refine (Ca.out _).mono ?_); rintro e w' ⟨rfl, rfl⟩) | (go_at_call 29; (with_reducible refine (Cb.out _).mono ?_); rintro e w' ⟨rfl, rfl⟩) | (go_at_call 29; (with_reducible refine (Cc.out _).mono ?_); rintro e w' ⟨rfl, rfl⟩))
    go_ret
    exact ⟨rfl, rfl⟩
  · by_cases h1 : which = 1
    · subst h1
      obtain ⟨a, ha⟩ : ∃ n : Nat, Hid (n = rotr 32 x 6) := ⟨rotr 32 x 6, Lib.hid rfl⟩
      have al : a < 4294967296 := by rw [ha.out]; exact rotr_lt32 _ _
      have qa := fun w => turn32_w x hx 6 w
      rw [show ((6 : Int) % 32).toNat = 6 from rfl, ← ha.out] at qa
      have Ca := Lib.hid qa
      clear qa
      obtain ⟨b, hb⟩ : ∃ n : Nat, Hid (n = rotr 32 x 11) := ⟨rotr 32 x 11, Lib.hid rfl⟩
      have bl : b < 4294967296 := by rw [hb.out]; exact rotr_lt32 _ _
      have qb := fun w => turn32_w x hx 11 w
      rw [show ((11 : Int) % 32).toNat = 11 from rfl, ← hb.out] at qb
      have Cb := Lib.hid qb
      clear qb
      obtain ⟨c, hc⟩ : ∃ n : Nat, Hid (n = rotr 32 x 25) := ⟨rotr 32 x 25, Lib.hid rfl⟩
      have cl : c < 4294967296 := by rw [hc.out]; exact rotr_lt32 _ _
      have qc := fun w => turn32_w x hx 25 w
      rw [show ((25 : Int) % 32).toNat = 25 from rfl, ← hc.out] at qc
      have Cc := Lib.hid qc
      clear qc
      have e1 : bits .xor .u32 0 (a : Int) = (a : Int) := by have := u32_xor_nat 0 a (by omega) al; rw [Nat.zero_xor] at this; exact this
      have e2 := u32_xor_nat a b al bl
      have e3 := u32_xor_nat (a ^^^ b) c (xor_lt32 al bl) cl
      have hB : bigS32 1 x = (rotr 32 x 6 ^^^ rotr 32 x 11) ^^^ rotr 32 x 25 := rfl
      rw [hB, ← ha.out, ← hb.out, ← hc.out]
      clear hB al bl cl
      have hl : (loadRow ⟨1, 3, none⟩ 3).run Tryd.prog w = .ok #[.int .i64 6, .int .i64 11, .int .i64 25] w := run_loadRow3 _ w _ 3 (fun j => turns32 (3 + j)) (fun j hj => hg.1 _ (by omega))
      have i0 : ∀ w, (Instr.index 49 (.agg #[.int .i64 6, .int .i64 11, .int .i64 25]) (.int .i64 0)).run Tryd.prog w = .ok (.int .i64 6) w := fun _ => by kernel_rfl
      have i1 : ∀ w, (Instr.index 49 (.agg #[.int .i64 6, .int .i64 11, .int .i64 25]) (.int .i64 1)).run Tryd.prog w = .ok (.int .i64 11) w := fun _ => by kernel_rfl
      have i2 : ∀ w, (Instr.index 49 (.agg #[.int .i64 6, .int .i64 11, .int .i64 25]) (.int .i64 2)).run Tryd.prog w = .ok (.int .i64 25) w := fun _ => by kernel_rfl
      go_enter Tryd.func19, Tryd.ntmps19
      go_wp2
      refine wp_loop_rounds 4 ?_
      rw [rounds_succ]
      go_wp2_with (first | (go_at_call 29; (with_reducible refine (Ca.out _).mono ?_); rintro e w' ⟨rfl, rfl⟩) | (go_at_call 29; (with_reducible refine (Cb.out _).mono ?_); rintro e w' ⟨rfl, rfl⟩) | (go_at_call 29; (with_reducible refine (Cc.out _).mono ?_); rintro e w' ⟨rfl, rfl⟩))
      rw [rounds_succ]
      go_wp2_with (first | (go_at_call 29; (with_reducible refine (Ca.out _).mono ?_); rintro e w' ⟨rfl, rfl⟩) | (go_at_call 29; (with_reducible refine (Cb.out _).mono ?_); rintro e w' ⟨rfl, rfl⟩) | (go_at_call 29; (with_reducible refine (Cc.out _).mono ?_); rintro e w' ⟨rfl, rfl⟩))
      rw [rounds_succ]
      go_wp2_with (first | (go_at_call 29; (with_reducible refine (Ca.out _).mono ?_); rintro e w' ⟨rfl, rfl⟩) | (go_at_call 29; (with_reducible refine (Cb.out _).mono ?_); rintro e w' ⟨rfl, rfl⟩) | (go_at_call 29; (with_reducible refine (Cc.out _).mono ?_); rintro e w' ⟨rfl, rfl⟩))
      rw [rounds_succ]
      go_wp2_with (first | (go_at_call 29; (with_reducible refine (Ca.out _).mono ?_); rintro e w' ⟨rfl, rfl⟩) | (go_at_call 29; (with_reducible refine (Cb.out _).mono ?_); rintro e w' ⟨rfl, rfl⟩) | (go_at_call 29; (with_reducible refine (Cc.out _).mono ?_); rintro e w' ⟨rfl, rfl⟩))
      go_ret
      exact ⟨rfl, rfl⟩
    · have hB : bigS32 which x = 0 := by unfold bigS32; rw [if_neg h0, if_neg h1]
      rw [hB]
      clear hB
      rcases (show which < 0 ∨ 1 < which by omega) with h | h
      · clear h0 h1
        go_enter Tryd.func19, Tryd.ntmps19
        go_wp2
        go_ret
        exact ⟨rfl, rfl⟩
      · clear h0 h1
        have h' : ¬ which < 0 := by omega
        go_enter Tryd.func19, Tryd.ntmps19
        go_wp2
        go_ret
        exact ⟨rfl, rfl⟩

set_option maxHeartbeats 1000000 in
theorem small32_w (which : Int) (x : Nat) (hx : x < 4294967296) (w : World) (hg : Tabs32 w) :
    Calls Tryd.prog 16 #[.int .i64 which, .int .u32 x] w fun e w' => e = .returned (.int .u32 (smallS32 which x : Nat)) ∧ Below w.heap.size w w' := by
  by_cases h0 : which = 0
  · subst h0
    obtain ⟨a, ha⟩ : ∃ n : Nat, Hid (n = rotr 32 x 7) := ⟨rotr 32 x 7, Lib.hid rfl⟩
    have al : a < 4294967296 := by rw [ha.out]; exact rotr_lt32 _ _
    have qa := fun w => turn32_w x hx 7 w
    rw [show ((7 : Int) % 32).toNat = 7 from rfl, ← ha.out] at qa
    have Ca := Lib.hid qa
    clear qa
    obtain ⟨b, hb⟩ : ∃ n : Nat, Hid (n = rotr 32 x 18) := ⟨rotr 32 x 18, Lib.hid rfl⟩
    have bl : b < 4294967296 := by rw [hb.out]; exact rotr_lt32 _ _
    have qb := fun w => turn32_w x hx 18 w
    rw [show ((18 : Int) % 32).toNat = 18 from rfl, ← hb.out] at qb
    have Cb := Lib.hid qb
    clear qb
    obtain ⟨c, hc⟩ : ∃ n : Nat, Hid (n = x / 2 ^ 3) := ⟨x / 2 ^ 3, Lib.hid rfl⟩
    have cl : c < 4294967296 := by rw [hc.out]; exact div_lt32 _ hx
    have qc := fun w => shift32_w x hx 3 (by omega) w
    rw [show ((3 : Int)).toNat = 3 from rfl, ← hc.out] at qc
    have Cc := Lib.hid qc
    clear qc
    have e2 := u32_xor_nat a b al bl
    have e3 := u32_xor_nat (a ^^^ b) c (xor_lt32 al bl) cl
    have hB : smallS32 0 x = (rotr 32 x 7 ^^^ rotr 32 x 18) ^^^ x / 2 ^ 3 := rfl
    rw [hB, ← ha.out, ← hb.out, ← hc.out]
    clear hB al bl cl
    have hl : (loadRow ⟨0, 0, none⟩ 3).run Tryd.prog w = .ok #[.int .i64 7, .int .i64 18, .int .i64 3] w := run_loadRow3 _ w _ 0 (fun j => shifts32 (0 + j)) (fun j hj => hg.2 _ (by omega))
    go_enter Tryd.func16, Tryd.ntmps16
    go_wp2
    refine region_still (by kernel_rfl) (by kernel_rfl) rfl ?_
    iterate 3 still_step
    still_call (calls_still (Ca.out _))
    iterate 3 still_step
    still_call (calls_still (Cb.out _))
    iterate 4 still_step
    still_call (calls_still (Cc.out _))
    iterate 2 still_step
    refine wpStill_nil ?_
    go_wp2
    go_ret
    refine ⟨rfl, ?_⟩
    exact bl_drew (bl_alloc (bl_refl _))
  · by_cases h1 : which = 1
    · subst h1
      obtain ⟨a, ha⟩ : ∃ n : Nat, Hid (n = rotr 32 x 17) := ⟨rotr 32 x 17, Lib.hid rfl⟩
      have al : a < 4294967296 := by rw [ha.out]; exact rotr_lt32 _ _
      have qa := fun w => turn32_w x hx 17 w
      rw [show ((17 : Int) % 32).toNat = 17 from rfl, ← ha.out] at qa
      have Ca := Lib.hid qa
      clear qa
      obtain ⟨b, hb⟩ : ∃ n : Nat, Hid (n = rotr 32 x 19) := ⟨rotr 32 x 19, Lib.hid rfl⟩
      have bl : b < 4294967296 := by rw [hb.out]; exact rotr_lt32 _ _
      have qb := fun w => turn32_w x hx 19 w
      rw [show ((19 : Int) % 32).toNat = 19 from rfl, ← hb.out] at qb
      have Cb := Lib.hid qb
      clear qb
      obtain ⟨c, hc⟩ : ∃ n : Nat, Hid (n = x / 2 ^ 10) := ⟨x / 2 ^ 10, Lib.hid rfl⟩
      have cl : c < 4294967296 := by rw [hc.out]; exact div_lt32 _ hx
      have qc := fun w => shift32_w x hx 10 (by omega) w
      rw [show ((10 : Int)).toNat = 10 from rfl, ← hc.out] at qc
      have Cc := Lib.hid qc
      clear qc
      have e2 := u32_xor_nat a b al bl
      have e3 := u32_xor_nat (a ^^^ b) c (xor_lt32 al bl) cl
      have hB : smallS32 1 x = (rotr 32 x 17 ^^^ rotr 32 x 19) ^^^ x / 2 ^ 10 := rfl
      rw [hB, ← ha.out, ← hb.out, ← hc.out]
      clear hB al bl cl
      have hl : (loadRow ⟨0, 3, none⟩ 3).run Tryd.prog w = .ok #[.int .i64 17, .int .i64 19, .int .i64 10] w := run_loadRow3 _ w _ 3 (fun j => shifts32 (3 + j)) (fun j hj => hg.2 _ (by omega))
      go_enter Tryd.func16, Tryd.ntmps16
      go_wp2
      refine region_still (by kernel_rfl) (by kernel_rfl) rfl ?_
      iterate 3 still_step
      still_call (calls_still (Ca.out _))
      iterate 3 still_step
      still_call (calls_still (Cb.out _))
      iterate 4 still_step
      still_call (calls_still (Cc.out _))
      iterate 2 still_step
      refine wpStill_nil ?_
      go_wp2
      go_ret
      refine ⟨rfl, ?_⟩
      exact bl_drew (bl_alloc (bl_refl _))
    · have hB : smallS32 which x = 0 := by unfold smallS32; rw [if_neg h0, if_neg h1]
      rw [hB]
      clear hB
      rcases (show which < 0 ∨ 1 < which by omega) with h | h
      · clear h0 h1
        go_enter Tryd.func16, Tryd.ntmps16
        go_wp2
        go_ret
        exact ⟨rfl, bl_refl _⟩
      · clear h0 h1
        have h' : ¬ which < 0 := by omega
        go_enter Tryd.func16, Tryd.ntmps16
        go_wp2
        go_ret
        exact ⟨rfl, bl_refl _⟩

end Go.Proofs.YtfnncplokombgaaDoor
