/- wide.Round: a round of SHA-256. -/
import Derived.Test.YtfnncplokombgaaDoorTabWord
import Derived.Test.YtfnncplokombgaaDoorSumWord
import Derived.Test.YtfnncplokombgaaDoorKit2
import Derived.Test.YtfnncplokombgaaDoorArr
namespace Go.Proofs.YtfnncplokombgaaDoor
open Go.RowKit Go.Shelf Bt
attribute [local go_sem] vals_set vals_get? vals_get vals_size rowAt_at rowAt_past hasRow_at hasRow_past run_loadRow run_storeCells_row setRow_at setRow_past rowAt_drewN hasRow_drewN setRow_drewN alloc_drewN setCell_drewN lt_s2 lt_s3 lt_s4 lt_s5 lt_s6
attribute [local go_sem ↓] loadRow_is

def ch32 (x y z : Nat) : Nat := z ^^^ (x &&& (y ^^^ z))
def maj32 (x y z : Nat) : Nat := (x &&& y) ||| (z &&& (x ||| y))
def one32 (v : Nat → Nat) (k u : Nat) : Nat := (v 7 + bigS32 1 (v 4) + ch32 (v 4) (v 5) (v 6) + k + u) % 4294967296
def two32 (v : Nat → Nat) : Nat := (bigS32 0 (v 0) + maj32 (v 0) (v 1) (v 2)) % 4294967296
def round32 (v : Nat → Nat) (k u : Nat) : Nat → Nat
  | 0 => (one32 v k u + two32 v) % 4294967296
  | 4 => (v 3 + one32 v k u) % 4294967296
  | j + 1 => v j
theorem arr8 : ArrT Tryd.prog 31 8 := ⟨_, _, Tryd.underlying31, by kernel_rfl⟩
theorem zero8 : (#[Value.int .u32 0, .int .u32 0, .int .u32 0, .int .u32 0, .int .u32 0, .int .u32 0, .int .u32 0, .int .u32 0] : Array Value) = vals .u32 8 (fun _ => 0) := rfl
theorem run_loadRow_reads (P : Program) (W : World) (g n : Nat) (k : IntKind) (f : Nat → Int) (h : ∀ j, j < n → W.cell? ⟨g, j, none⟩ = some (.int k (f j))) : (loadRow ⟨g, 0, none⟩ n).run P W = .ok (vals k n f) W := by
  unfold loadRow
  have := run_loadCells (P := P) W ⟨g, 0, none⟩ n (fun j => .int k (f j)) (fun j hj => by rw [Addr.add_lit, Nat.zero_add]; exact h j hj)
  exact this
theorem lit8 (a b c d e f g h : Int) : (#[Value.int .u32 a, .int .u32 b, .int .u32 c, .int .u32 d, .int .u32 e, .int .u32 f, .int .u32 g, .int .u32 h] : Array Value) = vals .u32 8 (fun j => [a, b, c, d, e, f, g, h].getD j 0) := by rfl
attribute [local go_sem] lit8
set_option maxRecDepth 100000 in
set_option maxHeartbeats 4000000 in
theorem round32_w (v : Nat → Nat) (hv : ∀ j, j < 8 → v j < 4294967296) (k u : Nat) (w : World) (hg : Tabs32 w) :
    Calls Tryd.prog 10 #[.agg (vals .u32 8 (fun j => (v j : Int))), .int .u32 k, .int .u32 u] w fun e w' => e = .returned (.agg (vals .u32 8 (fun j => (round32 v k u j : Int)))) ∧ Below w.heap.size w w' := by
  have hz := zero8
  have HW := Lib.hid (bl_refl w)
  have HG := Lib.hid hg
  clear hg
  obtain ⟨b1, hb1⟩ : ∃ b1, Hid (b1 = bigS32 1 (v 4)) := ⟨_, Lib.hid rfl⟩
  obtain ⟨c1, hc1⟩ : ∃ c1, Hid (c1 = ch32 (v 4) (v 5) (v 6)) := ⟨_, Lib.hid rfl⟩
  obtain ⟨b0, hb0⟩ : ∃ b0, Hid (b0 = bigS32 0 (v 0)) := ⟨_, Lib.hid rfl⟩
  obtain ⟨m0, hm0⟩ : ∃ m0, Hid (m0 = maj32 (v 0) (v 1) (v 2)) := ⟨_, Lib.hid rfl⟩
  have CB1 : Hid (∀ W, Tabs32 W → Calls Tryd.prog 19 #[.int .i64 1, .int .u32 (v 4)] W fun e w' => e = .returned (.int .u32 b1) ∧ W = w') := Lib.hid (fun W h => by rw [hb1.out]; exact big32_w 1 (v 4) (hv 4 (by omega)) W h)
  have CB0 : Hid (∀ W, Tabs32 W → Calls Tryd.prog 19 #[.int .i64 0, .int .u32 (v 0)] W fun e w' => e = .returned (.int .u32 b0) ∧ W = w') := Lib.hid (fun W h => by rw [hb0.out]; exact big32_w 0 (v 0) (hv 0 (by omega)) W h)
  have CC : Hid (∀ W, Calls Tryd.prog 20 #[.int .u32 (v 4), .int .u32 (v 5), .int .u32 (v 6)] W fun e w' => e = .returned (.int .u32 c1) ∧ W = w') := Lib.hid (fun W => by rw [hc1.out]; exact ch32_w (v 4) (v 5) (v 6) (hv 4 (by omega)) (hv 5 (by omega)) (hv 6 (by omega)) W)
  have CM : Hid (∀ W, Calls Tryd.prog 21 #[.int .u32 (v 0), .int .u32 (v 1), .int .u32 (v 2)] W fun e w' => e = .returned (.int .u32 m0) ∧ W = w') := Lib.hid (fun W => by rw [hm0.out]; exact maj32_w (v 0) (v 1) (v 2) (hv 0 (by omega)) (hv 1 (by omega)) (hv 2 (by omega)) W)
  obtain ⟨o1, ho1⟩ : ∃ o1, Hid (o1 = one32 v k u) := ⟨_, Lib.hid rfl⟩
  obtain ⟨o2, ho2⟩ : ∃ o2, Hid (o2 = two32 v) := ⟨_, Lib.hid rfl⟩
  have CS1 : Hid (∀ W p, reads W (some ⟨p, 0, none⟩) 5 .u32 (fun j => ([(v 7 : Int), b1, c1, k, u].getD j 0)) → Calls Tryd.prog 15 #[.slice (some ⟨p, 0, none⟩) 5 5] W fun e w' => e = .returned (.int .u32 o1) ∧ W = w') := Lib.hid (fun W p h => by
    refine (sum32_w _ 5 5 _ W (by decide) h).mono ?_
    rintro e w' ⟨rfl, rfl⟩
    refine ⟨ret_int ?_, rfl⟩
    rw [ho1.out]
    unfold one32
    rw [← hb1.out, ← hc1.out]
    simp only [sumN, List.getD_cons_zero, List.getD_cons_succ]
    omega)
  have CS2 : Hid (∀ W p, reads W (some ⟨p, 0, none⟩) 2 .u32 (fun j => ([(b0 : Int), m0].getD j 0)) → Calls Tryd.prog 15 #[.slice (some ⟨p, 0, none⟩) 2 2] W fun e w' => e = .returned (.int .u32 o2) ∧ W = w') := Lib.hid (fun W p h => by
    refine (sum32_w _ 2 2 _ W (by decide) h).mono ?_
    rintro e w' ⟨rfl, rfl⟩
    refine ⟨ret_int ?_, rfl⟩
    rw [ho2.out]
    unfold two32
    rw [← hb0.out, ← hm0.out]
    simp only [sumN, List.getD_cons_zero, List.getD_cons_succ]
    omega)
  have hat : ∀ (W : World) (a : Option Addr) (c : Nat), (Instr.arrayAt 31 (.slice a 8 c)).run Tryd.prog W = .ok (.pointer a) W := fun W a c => run_arrayAt (P := Tryd.prog) W 31 _ 8 a 8 c Tryd.underlying31 (Nat.le_refl _)
  go_enter Tryd.func10, Tryd.ntmps10
  go_wp2_with fail
  have RD1 : Hid (reads ((((w.alloc (.cells (vals .u32 8 (fun j => (v j : Int))) 31)).alloc (.cells (vals .u32 8 (fun _ => 0)) 31)).alloc (.cells #[.int .u32 (v 7), .int .u32 b1, .int .u32 c1, .int .u32 k, .int .u32 u] 24)).drew) (some ⟨w.heap.size + 1 + 1, 0, none⟩) 5 .u32 (fun j => ([(v 7 : Int), b1, c1, k, u].getD j 0))) := Lib.hid (by
    have h := reads_new ((w.alloc (.cells (vals .u32 8 (fun j => (v j : Int))) 31)).alloc (.cells (vals .u32 8 (fun _ => 0)) 31)) 24 (fun j => ([(v 7 : Int), b1, c1, k, u].getD j 0)) (k := .u32) (n := 5) (cs := #[.int .u32 (v 7), .int .u32 b1, .int .u32 c1, .int .u32 k, .int .u32 u]) rfl
    rw [World.size_alloc, World.size_alloc] at h
    exact h)
  have T1 := Lib.hid (HG.out.below (Nat.le_refl _) (bl_drew (bl_alloc (o := .cells (vals .u32 8 (fun _ => 0)) 31) (bl_alloc (o := .cells (vals .u32 8 (fun j => (v j : Int))) 31) (bl_refl w)))))
  refine region_tail 14 (by kernel_rfl) (by kernel_rfl) rfl ?_
  simp only [List.take_succ_cons, List.take_zero, List.drop_succ_cons, List.drop_zero]
  iterate 4 still_step
  still_call (calls_still (CB1.out _ T1.out))
  iterate 6 still_step
  still_call (calls_still (CC.out _))
  iterate 2 still_step
  refine wpStill_nil ?_
  go_wp2_with (go_at_call 15; (with_reducible refine (CS1.out _ _ RD1.out).mono ?_); rintro e w' ⟨rfl, rfl⟩)
  have A0 := row_below (bl_alloc (o := (.cells #[.int .u32 (v 7), .int .u32 b1, .int .u32 c1, .int .u32 k, .int .u32 u] 24)) (bl_refl ((w.alloc (.cells (vals .u32 8 (fun j => (v j : Int))) 31)).alloc (.cells (vals .u32 8 (fun _ => 0)) 31)))) (row_below (bl_alloc (o := (.cells (vals .u32 8 (fun _ => 0)) 31)) (bl_refl (w.alloc (.cells (vals .u32 8 (fun j => (v j : Int))) 31)))) ⟨hasRow_at w (vals .u32 8 (fun j => (v j : Int))) 31 w.heap.size 8 rfl (vals_size _ _ _), rowAt_at w (vals .u32 8 (fun j => (v j : Int))) 31 w.heap.size rfl⟩)
  have Z0 := hasRow_below (Nat.le_refl _) (bl_alloc (o := (.cells #[.int .u32 (v 7), .int .u32 b1, .int .u32 c1, .int .u32 k, .int .u32 u] 24)) (bl_refl ((w.alloc (.cells (vals .u32 8 (fun j => (v j : Int))) 31)).alloc (.cells (vals .u32 8 (fun _ => 0)) 31)))) (hasRow_at (w.alloc (.cells (vals .u32 8 (fun j => (v j : Int))) 31)) (vals .u32 8 (fun _ => 0)) 31 (w.heap.size + 1) 8 (by simp) (vals_size _ _ _))
  have B0 : Below w.heap.size w ((((w.alloc (.cells (vals .u32 8 (fun j => (v j : Int))) 31)).alloc (.cells (vals .u32 8 (fun _ => 0)) 31)).alloc (.cells #[.int .u32 (v 7), .int .u32 b1, .int .u32 c1, .int .u32 k, .int .u32 u] 24)).drew) := bl_drew (bl_alloc (bl_alloc (bl_alloc (bl_refl w))))
  replace A0 : hasRow ((((w.alloc (.cells (vals .u32 8 (fun j => (v j : Int))) 31)).alloc (.cells (vals .u32 8 (fun _ => 0)) 31)).alloc (.cells #[.int .u32 (v 7), .int .u32 b1, .int .u32 c1, .int .u32 k, .int .u32 u] 24)).drew) w.heap.size 8 ∧ rowAt ((((w.alloc (.cells (vals .u32 8 (fun j => (v j : Int))) 31)).alloc (.cells (vals .u32 8 (fun _ => 0)) 31)).alloc (.cells #[.int .u32 (v 7), .int .u32 b1, .int .u32 c1, .int .u32 k, .int .u32 u] 24)).drew) w.heap.size = vals .u32 8 (fun j => (v j : Int)) := A0
  replace Z0 : hasRow ((((w.alloc (.cells (vals .u32 8 (fun j => (v j : Int))) 31)).alloc (.cells (vals .u32 8 (fun _ => 0)) 31)).alloc (.cells #[.int .u32 (v 7), .int .u32 b1, .int .u32 c1, .int .u32 k, .int .u32 u] 24)).drew) (w.heap.size + 1) 8 := Z0
  clear RD1 T1 hz
  generalize (((w.alloc (.cells (vals .u32 8 (fun j => (v j : Int))) 31)).alloc (.cells (vals .u32 8 (fun _ => 0)) 31)).alloc (.cells #[.int .u32 (v 7), .int .u32 b1, .int .u32 c1, .int .u32 k, .int .u32 u] 24)).drew = W3 at A0 Z0 B0 ⊢
  have T3 := Lib.hid (HG.out.below (Nat.le_refl _) B0)
  have h0 := (cell_of_hasRow A0.1 A0.2 (show 0 < 8 by omega)).1
  have h1 := (cell_of_hasRow A0.1 A0.2 (show 1 < 8 by omega)).1
  have h2 := (cell_of_hasRow A0.1 A0.2 (show 2 < 8 by omega)).1
  have HA := Lib.hid A0
  have HZ := Lib.hid Z0
  have HB := Lib.hid B0
  clear A0 Z0 B0
  have RD2 : Hid (reads ((W3.alloc (.cells #[.int .u32 b0, .int .u32 m0] 24)).drew) (some ⟨W3.heap.size, 0, none⟩) 2 .u32 (fun j => ([(b0 : Int), m0].getD j 0))) := Lib.hid (reads_new W3 24 (fun j => ([(b0 : Int), m0].getD j 0)) (k := .u32) (n := 2) (cs := #[.int .u32 b0, .int .u32 m0]) rfl)
  refine region_tail 10 (by kernel_rfl) (by kernel_rfl) rfl ?_
  simp only [List.take_succ_cons, List.take_zero, List.drop_succ_cons, List.drop_zero]
  iterate 2 still_step
  still_call (calls_still (CB0.out _ T3.out))
  iterate 6 still_step
  still_call (calls_still (CM.out _))
  refine wpStill_nil ?_
  clear h0 h1 h2
  have A5 := Lib.hid (row_below (bl_drew (bl_alloc (o := .cells #[.int .u32 b0, .int .u32 m0] 24) (bl_refl W3))) HA.out)
  have hz6 := hasRow_below (Nat.le_refl _) (bl_drew (bl_alloc (o := .cells #[.int .u32 b0, .int .u32 m0] 24) (bl_refl W3))) HZ.out
  have HX6 : Hid (Below W3.heap.size W3 (W3.alloc (.cells #[.int .u32 b0, .int .u32 m0] 24)).drew) := Lib.hid (bl_drew (bl_alloc (o := .cells #[.int .u32 b0, .int .u32 m0] 24) (bl_refl W3)))
  go_wp2_with (go_at_call 15; (with_reducible refine (CS2.out _ _ RD2.out).mono ?_); rintro e w' ⟨rfl, rfl⟩; generalize (W3.alloc (.cells #[.int .u32 b0, .int .u32 m0] 24)).drew = W6 at hz6 HX6 A5 RD2 ⊢; have k0 := (cell_of_hasRow A5.out.1 A5.out.2 (show 0 < 8 by omega)).1; have k1 := (cell_of_hasRow A5.out.1 A5.out.2 (show 1 < 8 by omega)).1; have k2 := (cell_of_hasRow A5.out.1 A5.out.2 (show 2 < 8 by omega)).1; have k3 := (cell_of_hasRow A5.out.1 A5.out.2 (show 3 < 8 by omega)).1; have k4 := (cell_of_hasRow A5.out.1 A5.out.2 (show 4 < 8 by omega)).1; have k5 := (cell_of_hasRow A5.out.1 A5.out.2 (show 5 < 8 by omega)).1; have k6 := (cell_of_hasRow A5.out.1 A5.out.2 (show 6 < 8 by omega)).1)
  refine bodyPost_ret (results_row arr8 rfl _ (w.heap.size + 1) rfl (row_setRow hz6 _ (vals_size _ _ _)).1) rfl ⟨?_, ?_⟩
  · rw [(row_setRow hz6 _ (vals_size _ _ _)).2.1]
    refine ret_agg (vals_ext _ _ fun j hj => ?_)
    have hcase : j = 0 ∨ j = 1 ∨ j = 2 ∨ j = 3 ∨ j = 4 ∨ j = 5 ∨ j = 6 ∨ j = 7 := by omega
    rcases hcase with rfl | rfl | rfl | rfl | rfl | rfl | rfl | rfl
    all_goals simp [upd, round32, ← ho1.out, ← ho2.out]
  · exact (HB.out.trans (HX6.out.mono HB.out.size)).trans (below_setRow' (by omega) _)
end Go.Proofs.YtfnncplokombgaaDoor
