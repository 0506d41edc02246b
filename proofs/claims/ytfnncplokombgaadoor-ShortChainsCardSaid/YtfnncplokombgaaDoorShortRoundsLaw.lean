/- The walk of the law ShortRounds. -/
import Derived.Test.YtfnncplokombgaaDoorWakesShort
namespace Go.Proofs.YtfnncplokombgaaDoor
open Go.RowKit Go.Shelf Go.Sort Bt
attribute [local go_sem] vals_set vals_get? vals_get vals_size rowAt_at rowAt_past hasRow_at hasRow_past run_loadRow run_storeCells_row setRow_at setRow_past rowAt_drewN hasRow_drewN setRow_drewN alloc_drewN setCell_drewN lt_s2 lt_s3 lt_s4 lt_s5 lt_s6
attribute [local go_sem ↓] loadRow_is

def TabsW (w : World) : Prop := Tabs32 w ∧ Tab80 w
theorem TabsW.below {w w1 : World} {B : Nat} (h : TabsW w) (hB : w.heap.size ≤ B) (hb : Below B w w1) : TabsW w1 := ⟨h.1.below hB hb, h.2.below hB hb⟩
theorem bd32 {n : Int} (h : (Lit.int .u32 n).wf = true) : 0 ≤ n ∧ n < 4294967296 := by
  simp [Lit.wf, IntKind.min, IntKind.max, IntKind.signed, IntKind.bits] at h
  omega
theorem nat_vals8 (f' : Nat → Int) (hf' : ∀ j, j < 8 → 0 ≤ f' j ∧ f' j < 4294967296) : ∃ f : Nat → Nat, vals .u32 8 f' = vals .u32 8 (fun j => (f j : Int)) ∧ ∀ j, j < 8 → f j < 4294967296 :=
  ⟨fun j => (f' j).toNat, vals_ext _ _ fun j hj => by have := hf' j hj; show f' j = (((f' j).toNat : Nat) : Int); omega, fun j hj => by have := hf' j hj; show (f' j).toNat < 4294967296; omega⟩
set_option maxRecDepth 100000 in
set_option maxHeartbeats 2000000 in
theorem shortRounds_walk (f' : Nat → Int) (k u : Int) (w : World) (hf' : ∀ j, j < 8 → 0 ≤ f' j ∧ f' j < 4294967296) (hk : (Lit.int .u32 k).wf = true) (hu : (Lit.int .u32 u).wf = true) (hT : TabsW w) :
    Calls Tryd.prog 4 #[.agg (vals .u32 8 f'), .int .u32 k, .int .u32 u] w fun e w' => e = .returned (.bool true) ∧ Below w.heap.size w w' := by
  obtain ⟨f, e0, hf⟩ := nat_vals8 f' hf'
  obtain ⟨k, rfl⟩ : ∃ n : Nat, k = n := ⟨k.toNat, by have := bd32 hk; omega⟩
  obtain ⟨u, rfl⟩ : ∃ n : Nat, u = n := ⟨u.toNat, by have := bd32 hu; omega⟩
  rw [e0]
  clear e0 hf' hk hu
  obtain ⟨g, hgr⟩ : ∃ g, Hid (g = round32 f k u) := ⟨_, Lib.hid rfl⟩
  have he := fun W => (eq8 (fun j => (g j : Int)) (fun j => (g j : Int)) W).trans (by rw [allEq_true fun _ _ => rfl])
  have CO : Hid (∀ W, Tabs32 W → Calls Tryd.prog 10 #[.agg (vals .u32 8 (fun j => (f j : Int))), .int .u32 k, .int .u32 u] W fun e w' => e = .returned (.agg (vals .u32 8 (fun j => (g j : Int)))) ∧ Below W.heap.size W w') := Lib.hid (fun W h => by rw [hgr.out]; exact round32_w f hf k u W h)
  have CR : Hid (∀ W, Calls Tryd.prog 11 #[.agg (vals .u32 8 (fun j => (f j : Int))), .int .u32 k, .int .u32 u] W fun e w' => e = .returned (.agg (vals .u32 8 (fun j => (g j : Int)))) ∧ Below W.heap.size W w') := Lib.hid (fun W => by rw [hgr.out]; exact rround32_w f hf k u W)
  have HT : Hid (Tabs32 w ∧ Tab80 w) := Lib.hid hT
  have HW := Lib.hid (bl_alloc (o := .cells (vals .u32 8 (fun j => (f j : Int))) 31) (bl_refl w))
  have hrw := hasRow_at w (vals .u32 8 (fun j => (f j : Int))) 31 w.heap.size 8 rfl (vals_size _ _ _)
  have hra := rowAt_at w (vals .u32 8 (fun j => (f j : Int))) 31 w.heap.size rfl
  clear hf hT
  go_enter Tryd.func4, Tryd.ntmps4
  go_wp2_with fail
  generalize w.alloc (.cells (vals .u32 8 (fun j => (f j : Int))) 31) = W1 at HW hrw hra ⊢
  refine (wakes_w W1 (HT.out.1.below (Nat.le_refl _) HW.out)).mono ?_
  rintro e w1 ⟨rfl, hb1⟩
  have HX : Hid (Below w.heap.size w w1.drew ∧ hasRow w1.drew w.heap.size 8 ∧ rowAt w1.drew w.heap.size = vals .u32 8 (fun j => (f j : Int))) := Lib.hid ⟨(bl_call HW.out hb1).drew, row_below (bl_call (bl_refl W1) (bl_drew hb1)) ⟨hrw, hra⟩⟩
  have x1 := HX.out.2.1
  have x2 := HX.out.2.2
  clear hrw hra hb1 HW
  go_wp2
  go_region_with (first | (go_at_call 10; (with_reducible refine (CO.out _ (HT.out.1.below (Nat.le_refl _) HX.out.1)).mono ?_); rintro e w2 ⟨rfl, hb2⟩; have HY := Lib.hid (And.intro (bl_call HX.out.1 hb2) (row_below hb2 HX.out.2)); have y1 := HY.out.2.1; have y2 := HY.out.2.2; clear hb2) | (go_at_call 11; (with_reducible refine (CR.out _).mono ?_); rintro e w3 ⟨rfl, hb3⟩; have HZ := Lib.hid (bl_call HY.out.1 hb3); clear hb3))
  all_goals go_wp2
  all_goals go_ret
  all_goals exact ⟨rfl, HZ.out⟩
end Go.Proofs.YtfnncplokombgaaDoor
