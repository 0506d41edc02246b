/- The reference's round of SHA-256. -/
import Derived.Test.YtfnncplokombgaaDoorRoundWord
namespace Go.Proofs.YtfnncplokombgaaDoor
open Go.RowKit Go.Shelf Bt
attribute [local go_sem] vals_set vals_get? vals_get vals_size rowAt_at rowAt_past hasRow_at hasRow_past run_loadRow run_storeCells_row setRow_at setRow_past rowAt_drewN hasRow_drewN setRow_drewN alloc_drewN setCell_drewN lt_s2 lt_s3 lt_s4 lt_s5 lt_s6
attribute [local go_sem ↓] loadRow_is

attribute [local go_sem] lit8
set_option maxRecDepth 100000 in
set_option maxHeartbeats 4000000 in
theorem rround32_w (v : Nat → Nat) (hv : ∀ j, j < 8 → v j < 4294967296) (k u : Nat) (w : World) :
    Calls Tryd.prog 11 #[.agg (vals .u32 8 (fun j => (v j : Int))), .int .u32 k, .int .u32 u] w fun e w' => e = .returned (.agg (vals .u32 8 (fun j => (round32 v k u j : Int)))) ∧ Below w.heap.size w w' := by
  have hz := zero8
  have HV := Lib.hid hv
  clear hv
  obtain ⟨b1, hb1⟩ : ∃ b1, Hid (b1 = bigS32 1 (v 4)) := ⟨_, Lib.hid rfl⟩
  obtain ⟨c1, hc1⟩ : ∃ c1, Hid (c1 = ch32 (v 4) (v 5) (v 6)) := ⟨_, Lib.hid rfl⟩
  obtain ⟨b0, hb0⟩ : ∃ b0, Hid (b0 = bigS32 0 (v 0)) := ⟨_, Lib.hid rfl⟩
  obtain ⟨m0, hm0⟩ : ∃ m0, Hid (m0 = maj32 (v 0) (v 1) (v 2)) := ⟨_, Lib.hid rfl⟩
  have CB1 : Hid (∀ W, Calls Tryd.prog 22 #[.int .i64 1, .int .u32 (v 4)] W fun e w' => e = .returned (.int .u32 b1) ∧ Below W.heap.size W w') := Lib.hid (fun W => by rw [hb1.out]; exact rbig32_w 1 (v 4) (HV.out 4 (by omega)) W)
  have CB0 : Hid (∀ W, Calls Tryd.prog 22 #[.int .i64 0, .int .u32 (v 0)] W fun e w' => e = .returned (.int .u32 b0) ∧ Below W.heap.size W w') := Lib.hid (fun W => by rw [hb0.out]; exact rbig32_w 0 (v 0) (HV.out 0 (by omega)) W)
  have CC : Hid (∀ W, Calls Tryd.prog 23 #[.int .u32 (v 4), .int .u32 (v 5), .int .u32 (v 6)] W fun e w' => e = .returned (.int .u32 c1) ∧ Below W.heap.size W w') := Lib.hid (fun W => by rw [hc1.out]; exact rch32_w (v 4) (v 5) (v 6) (HV.out 4 (by omega)) (HV.out 5 (by omega)) (HV.out 6 (by omega)) W)
  have CM : Hid (∀ W, Calls Tryd.prog 24 #[.int .u32 (v 0), .int .u32 (v 1), .int .u32 (v 2)] W fun e w' => e = .returned (.int .u32 m0) ∧ Below W.heap.size W w') := Lib.hid (fun W => by rw [hm0.out]; exact rmaj32_w (v 0) (v 1) (v 2) (HV.out 0 (by omega)) (HV.out 1 (by omega)) (HV.out 2 (by omega)) W)
  go_enter Tryd.func11, Tryd.ntmps11
  go_wp2_with fail
  refine region_still (by kernel_rfl) (by kernel_rfl) rfl ?_
  iterate 24 still_step
  refine wpStill_nil ?_
  have HZ : Hid (hasRow (((w.alloc (.cells (vals .u32 8 (fun j => (v j : Int))) 31)).alloc (.cells (vals .u32 8 (fun _ => 0)) 31)).drew) (w.heap.size + 1) 8) := Lib.hid (hasRow_at (w.alloc (.cells (vals .u32 8 (fun j => (v j : Int))) 31)) (vals .u32 8 (fun _ => 0)) 31 (w.heap.size + 1) 8 (by simp) (vals_size _ _ _))
  have HB : Hid (Below w.heap.size w (((w.alloc (.cells (vals .u32 8 (fun j => (v j : Int))) 31)).alloc (.cells (vals .u32 8 (fun _ => 0)) 31)).drew)) := Lib.hid (bl_drew (bl_alloc (bl_alloc (bl_refl w))))
  clear hz
  go_wp2_with (first | (go_at_call 22; (with_reducible refine (CB1.out _).mono ?_); rintro e w1 ⟨rfl, hb⟩; have HBn := Lib.hid (bl_call HB.out hb); have HZn := Lib.hid (hasRow_below (Nat.le_refl _) hb HZ.out); clear hb HB HZ; have HB := HBn; have HZ := HZn; clear HBn HZn; have hzz := HZ.out) | (go_at_call 23; (with_reducible refine (CC.out _).mono ?_); rintro e w1 ⟨rfl, hb⟩; have HBn := Lib.hid (bl_call HB.out hb); have HZn := Lib.hid (hasRow_below (Nat.le_refl _) hb HZ.out); clear hb HB HZ; have HB := HBn; have HZ := HZn; clear HBn HZn; have hzz := HZ.out) | (go_at_call 22; (with_reducible refine (CB0.out _).mono ?_); rintro e w1 ⟨rfl, hb⟩; have HBn := Lib.hid (bl_call HB.out hb); have HZn := Lib.hid (hasRow_below (Nat.le_refl _) hb HZ.out); clear hb HB HZ; have HB := HBn; have HZ := HZn; clear HBn HZn; have hzz := HZ.out) | (go_at_call 24; (with_reducible refine (CM.out _).mono ?_); rintro e w1 ⟨rfl, hb⟩; have HBn := Lib.hid (bl_call HB.out hb); have HZn := Lib.hid (hasRow_below (Nat.le_refl _) hb HZ.out); clear hb HB HZ; have HB := HBn; have HZ := HZn; clear HBn HZn; have hzz := HZ.out))
  refine bodyPost_ret (results_row arr8 rfl _ (w.heap.size + 1) rfl (row_setRow HZ.out _ (vals_size _ _ _)).1) rfl ⟨?_, ?_⟩
  · rw [(row_setRow HZ.out _ (vals_size _ _ _)).2.1]
    refine ret_agg (vals_ext _ _ fun j hj => ?_)
    have hcase : j = 0 ∨ j = 1 ∨ j = 2 ∨ j = 3 ∨ j = 4 ∨ j = 5 ∨ j = 6 ∨ j = 7 := by omega
    rcases hcase with rfl | rfl | rfl | rfl | rfl | rfl | rfl | rfl
    all_goals simp [upd, round32, one32, two32, ← hb1.out, ← hc1.out, ← hb0.out, ← hm0.out]
    all_goals omega
  · exact HB.out.trans (below_setRow' (by omega) _)
end Go.Proofs.YtfnncplokombgaaDoor
