/- Layer 8: its example holds. -/
import Derived.Test.YtcpmamnoaiaieaaDoorRefBlockLong
namespace Go.Proofs.YtcpmamnoaiaieaaDoor
open Go.RowKit Go.Shelf Go.Sort Bt
attribute [local go_sem] vals_set vals_get? vals_get vals_size rowAt_at rowAt_past hasRow_at hasRow_past run_loadRow run_storeCells_row setRow_at setRow_past rowAt_drewN hasRow_drewN setRow_drewN alloc_drewN setCell_drewN lt_s2 lt_s3 lt_s4 lt_s5 lt_s6
attribute [local go_sem ↓] loadRow_is

theorem eq8 (f g : Nat → Int) (w : World) : (Op.equalIn 10000 31 (.agg (vals .u64 8 f)) (.agg (vals .u64 8 g))).run Tryd.prog w = .ok (allEq f g 8) w := by
  obtain ⟨i, hi, _⟩ := info_parts (P := Tryd.prog) (e := 24) (z := .int .u64 0) (size := 1) (bytes := 8) (by kernel_rfl)
  exact eqin_vals Tryd.underlying31 Tryd.underlying24 hi (by kernel_rfl) f g w
theorem eq80 (f g : Nat → Int) (w : World) : (Op.equalIn 10000 25 (.agg (vals .u64 80 f)) (.agg (vals .u64 80 g))).run Tryd.prog w = .ok (allEq f g 80) w := by
  obtain ⟨i, hi, _⟩ := info_parts (P := Tryd.prog) (e := 24) (z := .int .u64 0) (size := 1) (bytes := 8) (by kernel_rfl)
  exact eqin_vals Tryd.underlying25 Tryd.underlying24 hi (by kernel_rfl) f g w
theorem sched_zero {m : Nat → Nat} (h : ∀ j, j < 16 → m j = 0) : ∀ t, sched64 m t = 0 := by
  intro t
  induction t using Nat.strongRecOn with
  | _ t ih =>
    by_cases h1 : t < 16
    · rw [sched64_lo m h1, h t h1]
    · rw [sched64_hi m (by omega), ih (t - 2) (by omega), ih (t - 7) (by omega), ih (t - 15) (by omega), ih (t - 16) (by omega)]
      decide +kernel
theorem word_zero (j : Nat) : word64 (fun _ => 0) j = 0 := by
  unfold word64
  simp [beN]
def v123 (j : Nat) : Nat := [1, 2, 3, 0, 0, 0, 0, 0].getD j 0
theorem lit123 : (#[.int .u64 1, .int .u64 2, .int .u64 3, .int .u64 0, .int .u64 0, .int .u64 0, .int .u64 0, .int .u64 0] : Array Value) = vals .u64 8 (fun j => (v123 j : Int)) := rfl
theorem mk128 (W : World) : (Instr.makeSlice 22 (.int .i64 128) (.int .i64 128)).run Tryd.prog W = .ok (.slice (some ⟨W.heap.size, 0, none⟩) 128 128) (W.alloc (.cells (vals .u8 128 (fun _ => 0)) 5)) := by kernel_rfl
set_option maxRecDepth 100000 in
set_option maxHeartbeats 2000000 in
theorem wakes_w (w : World) (hg : Tabs64 w) (ht : Tab80 w) : Calls Tryd.prog 7 #[] w fun e w' => e = .returned (.bool true) ∧ Below w.heap.size w w' := by
  have hz := zero80
  have hzv := zv80
  have hl := lit123
  have hmk := mk128
  have he8 := fun W => (eq8 (fun j => (v123 j : Int)) (fun j => (v123 j : Int)) W).trans (by rw [allEq_true fun _ _ => rfl])
  have he80 := fun W => (eq80 (fun _ => 0) (fun _ => 0) W).trans (by rw [allEq_true fun _ _ => rfl])
  have hw0 : ((w.alloc (.cells (vals .u64 8 (fun j => (v123 j : Int))) 31)).alloc (.cells (vals .u8 128 (fun _ => 0)) 5)).heap.size = w.heap.size + 2 := by simp
  have B0 : Below w.heap.size w ((w.alloc (.cells (vals .u64 8 (fun j => (v123 j : Int))) 31)).alloc (.cells (vals .u8 128 (fun _ => 0)) 5)) := bl_alloc (bl_alloc (bl_refl w))
  have R0 := row_below (bl_alloc (o := .cells (vals .u8 128 (fun _ => 0)) 5) (bl_refl (w.alloc (.cells (vals .u64 8 (fun j => (v123 j : Int))) 31)))) ⟨hasRow_at w (vals .u64 8 (fun j => (v123 j : Int))) 31 w.heap.size 8 rfl (vals_size _ _ _), rowAt_at w (vals .u64 8 (fun j => (v123 j : Int))) 31 w.heap.size rfl⟩
  have RD := reads_new (w.alloc (.cells (vals .u64 8 (fun j => (v123 j : Int))) 31)) 5 (fun _ => 0) (k := .u8) (n := 128) (cs := vals .u8 128 (fun _ => 0)) rfl
  rw [World.size_alloc] at RD
  have CB : Hid (∀ W, Below w.heap.size w W → Calls Tryd.prog 12 #[.agg (vals .u64 8 (fun j => (v123 j : Int))), .slice none 0 0] W fun e w' => e = .returned (.agg (vals .u64 8 (fun j => (v123 j : Int)))) ∧ Below W.heap.size W w') := Lib.hid (fun W h => blocks_w v123 (by decide) none 0 0 (by omega) (by omega) (fun _ => 0) W (fun h => absurd h (by omega)) (fun j hj => absurd hj (by omega)) (hg.below (Nat.le_refl _) h) (ht.below (Nat.le_refl _) h))
  have HG := Lib.hid hg
  go_enter Tryd.func7, Tryd.ntmps7
  go_wp2_with fail
  generalize (w.alloc (.cells (vals .u64 8 (fun j => (v123 j : Int))) 31)).alloc (.cells (vals .u8 128 (fun _ => 0)) 5) = W2 at hw0 B0 R0 RD ⊢
  have CS : Hid (Calls Tryd.prog 8 #[.slice (some ⟨w.heap.size + 1, 0, none⟩) 128 128] W2 fun e w' => e = .returned (.tuple #[.agg (vals .u64 80 (fun _ => 0)), .bool true]) ∧ Below W2.heap.size W2 w') := Lib.hid (by
    have h := sched_yes_w (some ⟨w.heap.size + 1, 0, none⟩) 128 (Nat.le_refl _) (fun _ => 0) W2 RD (fun _ _ => by omega) (HG.out.below (Nat.le_refl _) B0)
    rw [vals_ext (g := fun _ => 0) .u64 80 (fun j _ => by rw [sched_zero (fun i _ => word_zero i) j]; rfl)] at h
    exact h)
  have HB0 := Lib.hid B0
  have HR0 := Lib.hid R0
  clear B0 R0 RD hw0 hg ht
  go_wp2_with (go_at_call 8; (with_reducible refine CS.out.mono ?_); rintro e w1 ⟨rfl, hb1⟩; have HB1 := Lib.hid hb1; clear hb1)
  have B1 : Below w.heap.size w (w1.alloc (.cells (vals .u64 80 (fun _ => 0)) 25)).drew := (bl_alloc (bl_call HB0.out HB1.out)).drew
  have R1 : hasRow (w1.alloc (.cells (vals .u64 80 (fun _ => 0)) 25)).drew w.heap.size 8 ∧ rowAt (w1.alloc (.cells (vals .u64 80 (fun _ => 0)) 25)).drew w.heap.size = vals .u64 8 (fun j => (v123 j : Int)) := row_below (bl_drew (bl_alloc (bl_refl w1))) (row_below HB1.out HR0.out)
  have S1 : hasRow (w1.alloc (.cells (vals .u64 80 (fun _ => 0)) 25)).drew w1.heap.size 80 ∧ rowAt (w1.alloc (.cells (vals .u64 80 (fun _ => 0)) 25)).drew w1.heap.size = vals .u64 80 (fun _ => 0) := ⟨hasRow_at w1 _ _ w1.heap.size 80 rfl (vals_size _ _ _), rowAt_at _ _ _ _ rfl⟩
  have HX := Lib.hid (And.intro B1 (And.intro R1 S1))
  have x1 := HX.out.2.1.1
  have x2 := HX.out.2.1.2
  have x3 := HX.out.2.2.1
  have x4 := HX.out.2.2.2
  clear B1 R1 S1 hz hl hmk CS HB0 HB1 HR0
  go_region_with (first | (go_at_call 12; (with_reducible refine (CB.out _ HX.out.1).mono ?_); rintro e w2 ⟨rfl, hb2⟩; have HY := Lib.hid (And.intro (bl_call HX.out.1 hb2) (And.intro (row_below hb2 HX.out.2.1) (row_below hb2 HX.out.2.2))); have y1 := HY.out.2.1.1; have y2 := HY.out.2.1.2; have y3 := HY.out.2.2.1; have y4 := HY.out.2.2.2; clear hb2))
  all_goals go_wp2
  all_goals go_ret
  all_goals exact ⟨rfl, HY.out.1⟩
end Go.Proofs.YtcpmamnoaiaieaaDoor
