/- Layer 8: its example holds. -/
import Derived.Test.YtfnncplokombgaaDoorRefSchedWord
namespace Go.Proofs.YtfnncplokombgaaDoor
open Go.RowKit Go.Shelf Go.Sort Bt
attribute [local go_sem] vals_set vals_get? vals_get vals_size rowAt_at rowAt_past hasRow_at hasRow_past run_loadRow run_storeCells_row setRow_at setRow_past rowAt_drewN hasRow_drewN setRow_drewN alloc_drewN setCell_drewN lt_s2 lt_s3 lt_s4 lt_s5 lt_s6
attribute [local go_sem ↓] loadRow_is

theorem eq8 (f g : Nat → Int) (w : World) : (Op.equalIn 10000 31 (.agg (vals .u32 8 f)) (.agg (vals .u32 8 g))).run Tryd.prog w = .ok (allEq f g 8) w := by
  obtain ⟨i, hi, _⟩ := info_parts (P := Tryd.prog) (e := 24) (z := .int .u32 0) (size := 1) (bytes := 4) (by kernel_rfl)
  exact eqin_vals Tryd.underlying31 Tryd.underlying24 hi (by kernel_rfl) f g w
theorem eq64w (f g : Nat → Int) (w : World) : (Op.equalIn 10000 25 (.agg (vals .u32 64 f)) (.agg (vals .u32 64 g))).run Tryd.prog w = .ok (allEq f g 64) w := by
  obtain ⟨i, hi, _⟩ := info_parts (P := Tryd.prog) (e := 24) (z := .int .u32 0) (size := 1) (bytes := 4) (by kernel_rfl)
  exact eqin_vals Tryd.underlying25 Tryd.underlying24 hi (by kernel_rfl) f g w
theorem sched_zero {m : Nat → Nat} (h : ∀ j, j < 16 → m j = 0) : ∀ t, sched32 m t = 0 := by
  intro t
  induction t using Nat.strongRecOn with
  | _ t ih =>
    by_cases h1 : t < 16
    · rw [sched32_lo m h1, h t h1]
    · rw [sched32_hi m (by omega), ih (t - 2) (by omega), ih (t - 7) (by omega), ih (t - 15) (by omega), ih (t - 16) (by omega)]
      decide +kernel
theorem word_zero (j : Nat) : word32 (fun _ => 0) j = 0 := by
  unfold word32
  simp [beN]
def v123 (j : Nat) : Nat := [1, 2, 3, 0, 0, 0, 0, 0].getD j 0
theorem lit123 : (#[.int .u32 1, .int .u32 2, .int .u32 3, .int .u32 0, .int .u32 0, .int .u32 0, .int .u32 0, .int .u32 0] : Array Value) = vals .u32 8 (fun j => (v123 j : Int)) := rfl
theorem mk128 (W : World) : (Instr.makeSlice 22 (.int .i64 64) (.int .i64 64)).run Tryd.prog W = .ok (.slice (some ⟨W.heap.size, 0, none⟩) 64 64) (W.alloc (.cells (vals .u8 64 (fun _ => 0)) 5)) := by kernel_rfl
set_option maxRecDepth 100000 in
/-- short.Blocks: fewer bytes than a block has: nothing is done -/
theorem blocks_short_w (v : Nat → Nat) (a : Option Addr) (len cap : Nat) (hlen : len < 64) (w : World) :
    Calls Tryd.prog 12 #[.agg (vals .u32 8 (fun j => (v j : Int))), .slice a len cap] w fun e w' => e = .returned (.agg (vals .u32 8 (fun j => (v j : Int)))) ∧ Below w.heap.size w w' := by
  have hz8 := zero8
  have hlen' : (len : Int) < 64 := by omega
  have HB := Lib.hid (bl_refl w)
  go_enter Tryd.func12, Tryd.ntmps12
  go_wp2
  refine bodyPost_ret (results_row arr8 rfl _ (w.heap.size + 1) rfl (hasRow_at _ _ _ (w.heap.size + 1) 8 (by simp) (vals_size _ _ _))) rfl ⟨?_, ?_⟩
  · rw [rowAt_at _ _ _ _ (by simp)]
  · exact bl_alloc (bl_alloc HB.out)
set_option maxRecDepth 100000 in
set_option maxHeartbeats 2000000 in
theorem wakes_w (w : World) (hg : Tabs32 w) : Calls Tryd.prog 7 #[] w fun e w' => e = .returned (.bool true) ∧ Below w.heap.size w w' := by
  have hz := zero64w
  have hzv := zv64w
  have hl := lit123
  have hmk := mk128
  have he8 := fun W => (eq8 (fun j => (v123 j : Int)) (fun j => (v123 j : Int)) W).trans (by rw [allEq_true fun _ _ => rfl])
  have he64 := fun W => (eq64w (fun _ => 0) (fun _ => 0) W).trans (by rw [allEq_true fun _ _ => rfl])
  have hw0 : ((w.alloc (.cells (vals .u32 8 (fun j => (v123 j : Int))) 31)).alloc (.cells (vals .u8 64 (fun _ => 0)) 5)).heap.size = w.heap.size + 2 := by simp
  have B0 : Below w.heap.size w ((w.alloc (.cells (vals .u32 8 (fun j => (v123 j : Int))) 31)).alloc (.cells (vals .u8 64 (fun _ => 0)) 5)) := bl_alloc (bl_alloc (bl_refl w))
  have R0 := row_below (bl_alloc (o := .cells (vals .u8 64 (fun _ => 0)) 5) (bl_refl (w.alloc (.cells (vals .u32 8 (fun j => (v123 j : Int))) 31)))) ⟨hasRow_at w (vals .u32 8 (fun j => (v123 j : Int))) 31 w.heap.size 8 rfl (vals_size _ _ _), rowAt_at w (vals .u32 8 (fun j => (v123 j : Int))) 31 w.heap.size rfl⟩
  have RD := reads_new (w.alloc (.cells (vals .u32 8 (fun j => (v123 j : Int))) 31)) 5 (fun _ => 0) (k := .u8) (n := 64) (cs := vals .u8 64 (fun _ => 0)) rfl
  rw [World.size_alloc] at RD
  have CB : Hid (∀ W, Calls Tryd.prog 12 #[.agg (vals .u32 8 (fun j => (v123 j : Int))), .slice none 0 0] W fun e w' => e = .returned (.agg (vals .u32 8 (fun j => (v123 j : Int)))) ∧ Below W.heap.size W w') := Lib.hid (fun W => blocks_short_w v123 none 0 0 (by omega) W)
  have HG := Lib.hid hg
  go_enter Tryd.func7, Tryd.ntmps7
  go_wp2_with fail
  generalize (w.alloc (.cells (vals .u32 8 (fun j => (v123 j : Int))) 31)).alloc (.cells (vals .u8 64 (fun _ => 0)) 5) = W2 at hw0 B0 R0 RD ⊢
  have CS : Hid (Calls Tryd.prog 8 #[.slice (some ⟨w.heap.size + 1, 0, none⟩) 64 64] W2 fun e w' => e = .returned (.tuple #[.agg (vals .u32 64 (fun _ => 0)), .bool true]) ∧ Below W2.heap.size W2 w') := Lib.hid (by
    have h := sched_yes_w (some ⟨w.heap.size + 1, 0, none⟩) 64 (Nat.le_refl _) (fun _ => 0) W2 RD (fun _ _ => by omega) (HG.out.below (Nat.le_refl _) B0)
    rw [vals_ext (g := fun _ => 0) .u32 64 (fun j _ => by rw [sched_zero (fun i _ => word_zero i) j]; rfl)] at h
    exact h)
  have HB0 := Lib.hid B0
  have HR0 := Lib.hid R0
  clear B0 R0 RD hw0 hg
  go_wp2_with (go_at_call 8; (with_reducible refine CS.out.mono ?_); rintro e w1 ⟨rfl, hb1⟩; have HB1 := Lib.hid hb1; clear hb1)
  have B1 : Below w.heap.size w (w1.alloc (.cells (vals .u32 64 (fun _ => 0)) 25)).drew := (bl_alloc (bl_call HB0.out HB1.out)).drew
  have R1 : hasRow (w1.alloc (.cells (vals .u32 64 (fun _ => 0)) 25)).drew w.heap.size 8 ∧ rowAt (w1.alloc (.cells (vals .u32 64 (fun _ => 0)) 25)).drew w.heap.size = vals .u32 8 (fun j => (v123 j : Int)) := row_below (bl_drew (bl_alloc (bl_refl w1))) (row_below HB1.out HR0.out)
  have S1 : hasRow (w1.alloc (.cells (vals .u32 64 (fun _ => 0)) 25)).drew w1.heap.size 64 ∧ rowAt (w1.alloc (.cells (vals .u32 64 (fun _ => 0)) 25)).drew w1.heap.size = vals .u32 64 (fun _ => 0) := ⟨hasRow_at w1 _ _ w1.heap.size 64 rfl (vals_size _ _ _), rowAt_at _ _ _ _ rfl⟩
  have HX := Lib.hid (And.intro B1 (And.intro R1 S1))
  have x1 := HX.out.2.1.1
  have x2 := HX.out.2.1.2
  have x3 := HX.out.2.2.1
  have x4 := HX.out.2.2.2
  clear B1 R1 S1 hz hl hmk CS HB0 HB1 HR0
  go_region_with (first | (go_at_call 12; (with_reducible refine (CB.out _).mono ?_); rintro e w2 ⟨rfl, hb2⟩; have HY := Lib.hid (And.intro (bl_call HX.out.1 hb2) (And.intro (row_below hb2 HX.out.2.1) (row_below hb2 HX.out.2.2))); have y1 := HY.out.2.1.1; have y2 := HY.out.2.1.2; have y3 := HY.out.2.2.1; have y4 := HY.out.2.2.2; clear hb2))
  all_goals go_wp2
  all_goals go_ret
  all_goals exact ⟨rfl, HY.out.1⟩
end Go.Proofs.YtfnncplokombgaaDoor
