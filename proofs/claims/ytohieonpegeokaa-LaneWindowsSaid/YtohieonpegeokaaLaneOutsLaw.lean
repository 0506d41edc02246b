/- Layer 14: its example holds; the walk of the law LaneOuts. -/
import Derived.Test.YtohieonpegeokaaLaneXor
namespace Go.Proofs.Ytohieonpegeokaa
open Go.RowKit Go.Shelf
attribute [local go_sem] vals_set vals_get? vals_get vals_size rowAt_at rowAt_past hasRow_at hasRow_past run_loadRow run_storeCells_row setRow_at setRow_past rowAt_drewN hasRow_drewN setRow_drewN alloc_drewN setCell_drewN lt_s2 lt_s3 lt_s4 lt_s5 lt_s6
attribute [local go_sem ↓] loadRow_is

theorem eqLanes (f g : Nat → Int) (w : World) : (Op.equalIn 10000 56 (.agg (vals .u64 25 f)) (.agg (vals .u64 25 g))).run Try.prog w = .ok (allEq f g 25) w := by
  obtain ⟨i, hi, _⟩ := info_parts (P := Try.prog) (e := 29) (z := .int .u64 0) (size := 1) (bytes := 8) (by kernel_rfl)
  exact eqin_vals Try.underlying56 Try.underlying29 hi (by kernel_rfl) f g w
theorem example14 : ∀ j, j < 25 → leN (fun t => (xorB (fun _ => 0) 8 1 (fun _ => 1) t : Int)) (j * 8) 8 = upd (fun _ => 0) 1 1 j := by decide +kernel
theorem vals_1b : (#[.int .u8 1] : Array Value) = vals .u8 1 (fun _ => ((1 : Nat) : Int)) := rfl
set_option maxRecDepth 100000 in
theorem wakes14_w (w : World) : Calls Try.prog 54 #[] w fun e w' => e = .returned (.bool true) ∧ Below w.heap.size w w' := by
  have hz := zero25
  have HW := Lib.hid (bl_refl w)
  have he := eqLanes (fun j => leN (fun t => (xorB (fun _ => 0) 8 1 (fun _ => 1) t : Int)) (j * 8) 8) (upd (fun _ => 0) 1 1)
  rw [allEq_true example14] at he
  have CX : Hid (Calls Try.prog 58 #[.agg (vals .u64 25 (fun _ => 0)), .int .i64 8, .slice (some ⟨w.heap.size, 0, none⟩) 1 1] (w.alloc (.cells #[.int .u8 1] 5)) fun e w' => e = .returned (.agg (vals .u64 25 (fun j => leN (fun t => (xorB (fun _ => 0) 8 1 (fun _ => 1) t : Int)) (j * 8) 8))) ∧ Below (w.alloc (.cells #[.int .u8 1] 5)).heap.size (w.alloc (.cells #[.int .u8 1] 5)) w') :=
    Lib.hid (lxorL_w (fun _ => 0) (fun _ _ => by omega) 8 (by omega) (some ⟨w.heap.size, 0, none⟩) 1 1 (by omega) (fun _ => 1) _ (by omega) (reads_new w 5 _ vals_1b) (fun _ _ => by omega))
  go_enter Try.func54, Try.ntmps54
  go_wp2_with (go_at_call 58; (with_reducible refine CX.out.mono ?_); rintro e w1 ⟨rfl, hb⟩; have HB := Lib.hid (bl_call (bl_alloc HW.out) hb); clear hb)
  go_ret
  exact ⟨rfl, HB.out⟩

theorem row_below {w w1 : World} {g n : Nat} {c : Array Value} (hb : Below w.heap.size w w1) (h : hasRow w g n ∧ rowAt w g = c) : hasRow w1 g n ∧ rowAt w1 g = c := by
  refine ⟨hasRow_below (Nat.le_refl _) hb h.1, ?_⟩
  rw [← h.2]
  unfold rowAt
  rw [hb.block _ (lt_of_hasRow h.1)]
set_option maxRecDepth 100000 in
set_option maxHeartbeats 2000000 in
theorem laneOuts_walk (f' : Nat → Int) (i n : Int) (w : World) (hf' : ∀ j, j < 25 → 0 ≤ f' j ∧ f' j < 18446744073709551616) (hi' : (Lit.int .i64 i).wf = true) (hn' : (Lit.int .i64 n).wf = true) :
    Calls Try.prog 17 #[.agg (vals .u64 25 f'), .int .i64 i, .int .i64 n] w fun e w' => e = .returned (.bool true) ∧ Below w.heap.size w w' := by
  have hi := nat_of_i64 hi'
  have hn := nat_of_i64 hn'
  obtain ⟨f, hf2⟩ : ∃ f : Nat → Nat, Hid (f = fun j => (f' j).toNat) := ⟨_, Lib.hid rfl⟩
  have e0 : vals .u64 25 f' = vals .u64 25 (fun j => (f j : Int)) := vals_ext _ _ fun j hj => by have := hf' j hj; rw [hf2.out]; show f' j = (((f' j).toNat : Nat) : Int); omega
  have hf : ∀ j, j < 25 → f j < 18446744073709551616 := fun j hj => by have := hf' j hj; rw [hf2.out]; show (f' j).toNat < 18446744073709551616; omega
  rw [e0]
  clear e0 hf2 hf' hi' hn'
  have CO := Lib.hid (fun W => lout_w f hf i n hi hn W)
  have CR := Lib.hid (fun W => rlout_w f hf i n hi hn W)
  have HW := Lib.hid (bl_alloc (o := .cells (vals .u64 25 (fun j => (f j : Int))) 56) (bl_refl w))
  have hrw := hasRow_at w (vals .u64 25 (fun j => (f j : Int))) 56 w.heap.size 25 rfl (vals_size _ _ _)
  have hra := rowAt_at w (vals .u64 25 (fun j => (f j : Int))) 56 w.heap.size rfl
  clear hf hi hn
  go_enter Try.func17, Try.ntmps17
  go_wp2_with fail
  generalize w.alloc (.cells (vals .u64 25 (fun j => (f j : Int))) 56) = W1 at HW hrw hra ⊢
  refine (wakes14_w W1).mono ?_
  rintro e w1 ⟨rfl, hb1⟩
  have RA := Lib.hid (row_below hb1 ⟨hrw, hra⟩)
  have HB := Lib.hid (bl_call HW.out hb1)
  clear hrw hra hb1
  go_wp2
  have hb0 : Hid (Below w.heap.size w w1.drew) := Lib.hid HB.out.drew
  have RA0 : Hid (hasRow w1.drew w.heap.size 25 ∧ rowAt w1.drew w.heap.size = vals .u64 25 (fun j => (f j : Int))) := RA
  clear RA HB
  have r0 := RA0.out.1
  have s0 := RA0.out.2
  go_region_with? (first | (go_at_call 60; (with_reducible refine (CO.out _).mono ?_); rintro e w2 ⟨v2, rfl, ho2, hb2⟩; obtain ⟨a2, c2, rfl, _, _, hr2⟩ := owns_reads ho2; have R2 := Lib.hid hr2; have RA2 := Lib.hid (row_below hb2 RA0.out); have r2 := RA2.out.1; have s2 := RA2.out.2; have HB2 := Lib.hid (bl_call hb0.out hb2); clear hb2 ho2 hr2) | (go_at_call 61; (with_reducible refine (CR.out _).mono ?_); rintro e w3 ⟨v3, rfl, ho3, hb3⟩; obtain ⟨a3, c3, rfl, _, _, hr3⟩ := owns_reads ho3; have HB3 := Lib.hid (bl_call HB2.out hb3); have CS := Lib.hid (same8_w a2 a3 (winM i n) c2 c3 _ _ (fun _ _ => rfl) w3 (Nat.le_trans (Nat.le_trans (Nat.le_add_left _ _) (win_le i n)) (by decide)) (reads_below (Nat.le_refl _) hb3 R2.out) hr3); clear hb3 ho3 hr3) | (go_at_call 51; (with_reducible refine CS.out.mono ?_); rintro e w4 ⟨rfl, hb4⟩; have HB4 := Lib.hid (bl_call HB3.out hb4); clear hb4))
  all_goals go_wp2
  all_goals go_ret
  all_goals exact ⟨rfl, HB4.out⟩
end Go.Proofs.Ytohieonpegeokaa
