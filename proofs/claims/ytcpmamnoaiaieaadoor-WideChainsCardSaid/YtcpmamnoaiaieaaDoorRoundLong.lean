/- wide.Round: a round of SHA-512. -/
import Derived.Test.YtcpmamnoaiaieaaDoorTabLong
import Derived.Test.YtcpmamnoaiaieaaDoorSumLong
import Derived.Test.YtcpmamnoaiaieaaDoorKit2
import Derived.Test.YtcpmamnoaiaieaaDoorArr
namespace Go.Proofs.YtcpmamnoaiaieaaDoor
open Go.RowKit Go.Shelf Bt
attribute [local go_sem] vals_set vals_get? vals_get vals_size rowAt_at rowAt_past hasRow_at hasRow_past run_loadRow run_storeCells_row setRow_at setRow_past rowAt_drewN hasRow_drewN setRow_drewN alloc_drewN setCell_drewN lt_s2 lt_s3 lt_s4 lt_s5 lt_s6
attribute [local go_sem ↓] loadRow_is

def ch64 (x y z : Nat) : Nat := z ^^^ (x &&& (y ^^^ z))
def maj64 (x y z : Nat) : Nat := (x &&& y) ||| (z &&& (x ||| y))
def one64 (v : Nat → Nat) (k u : Nat) : Nat := (v 7 + bigS64 1 (v 4) + ch64 (v 4) (v 5) (v 6) + k + u) % 18446744073709551616
def two64 (v : Nat → Nat) : Nat := (bigS64 0 (v 0) + maj64 (v 0) (v 1) (v 2)) % 18446744073709551616
def round64 (v : Nat → Nat) (k u : Nat) : Nat → Nat
  | 0 => (one64 v k u + two64 v) % 18446744073709551616
  | 4 => (v 3 + one64 v k u) % 18446744073709551616
  | j + 1 => v j
theorem arr8 : ArrT Tryd.prog 31 8 := ⟨_, _, Tryd.underlying31, by kernel_rfl⟩
theorem zero8 : (#[Value.int .u64 0, .int .u64 0, .int .u64 0, .int .u64 0, .int .u64 0, .int .u64 0, .int .u64 0, .int .u64 0] : Array Value) = vals .u64 8 (fun _ => 0) := rfl
theorem run_loadRow_reads (P : Program) (W : World) (g n : Nat) (k : IntKind) (f : Nat → Int) (h : ∀ j, j < n → W.cell? ⟨g, j, none⟩ = some (.int k (f j))) : (loadRow ⟨g, 0, none⟩ n).run P W = .ok (vals k n f) W := by
  unfold loadRow
  have := run_loadCells (P := P) W ⟨g, 0, none⟩ n (fun j => .int k (f j)) (fun j hj => by rw [Addr.add_lit, Nat.zero_add]; exact h j hj)
  exact this
section
variable {P : Program} {ops : Array Oper} {rest : List Oper} {o : Oper} {a : Act} {w : World} {Q : Exit → Act → World → Prop}
/-- 'append(s[i:i:i], y)': no room: a row of the call's own -/
theorem append_zero {T e : TypeId} {bytes : Nat} (hT : EltT P T e bytes) (hgd : o.guard = none) (s x : Operand) (ho : o.op = .call { callee := .builtin .append, args := #[s, x], argTypes := #[T, T] })
    {b : Addr} (hs : a.eval s = .slice (some b) 0 0) {w1 : World} {k : IntKind} {y : Int} (hx : a.eval x = .slice (some ⟨w1.heap.size, 0, none⟩) 1 1) (hw : w = (w1.alloc (.cells #[.int k y] e))) (hby : bytes ≤ 140737488355328)
    (h : ∀ v' w', owns w' w1.heap.size e k v' 1 (fun _ => y) → (w1.alloc (.cells #[.int k y] e)).grownBy w' none → wpList P ops Q rest (a.put o.dst v') w') : wpList P ops Q (o :: rest) a w := by
  subst hw
  obtain ⟨hu, i, z, hi, hz, h1, h2, h3⟩ := hT
  have hrun := run_append_grow (P := P) (w1.alloc (.cells #[.int k y] e)) T o.type e i z hu hi hz b 0 0 [] (by simp) (by intro j v hv; simp at hv) ⟨w1.heap.size, 0, none⟩ 1 1 [.int k y] (by rw [h1]; rfl) (cell_one_new _ _ _) (by omega) (by decide) (growslice_fits (by omega) (by rw [h2]; omega))
  refine wpList_plain hgd fun K hK => ?_
  unfold Oper.wp execOp
  simp only [ho, resolve, invoke, builtin, Sem.run_bind, Sem.run_pure, Result.andThen_ok, List.map_toArray, List.map_cons, List.map_nil, hs, hx, hrun]
  refine hK _ _ (h _ _ ?_ ⟨rfl, rfl, rfl, by simp, fun j hj _ => heap_alloc_old (World.drew _) _ hj⟩)
  have hge := grownCap_ge (w1.alloc (.cells #[.int k y] e)) (0 + 1) 0 e
  have hcm : grownCap (w1.alloc (.cells #[.int k y] e)) (0 + 1) 0 e ≤ maxLen := grownCap_le_maxLen (w1.alloc (.cells #[.int k y] e)) (0 + 1) 0 e (by decide)
  refine ⟨by simp [vals_size], .inr ⟨_, _, _, rfl, by simp, heap_alloc_new (World.drew _) _, hge, hcm, ?_, ?_⟩⟩
  · simp only [Array.size_append, List.size_toArray, size_zeroCells, h3, List.length_cons, List.length_nil]
    omega
  · simp only [Array.toList_append, List.nil_append]
    rfl
end
set_option maxRecDepth 100000 in
set_option maxHeartbeats 4000000 in
theorem round64_w (v : Nat → Nat) (hv : ∀ j, j < 8 → v j < 18446744073709551616) (k u : Nat) (w : World) (hg : Tabs64 w) :
    Calls Tryd.prog 10 #[.agg (vals .u64 8 (fun j => (v j : Int))), .int .u64 k, .int .u64 u] w fun e w' => e = .returned (.agg (vals .u64 8 (fun j => (round64 v k u j : Int)))) ∧ Below w.heap.size w w' := by
  have hz := zero8
  have HW := Lib.hid (bl_refl w)
  have HG := Lib.hid hg
  clear hg
  obtain ⟨b1, hb1⟩ : ∃ b1, Hid (b1 = bigS64 1 (v 4)) := ⟨_, Lib.hid rfl⟩
  obtain ⟨c1, hc1⟩ : ∃ c1, Hid (c1 = ch64 (v 4) (v 5) (v 6)) := ⟨_, Lib.hid rfl⟩
  obtain ⟨b0, hb0⟩ : ∃ b0, Hid (b0 = bigS64 0 (v 0)) := ⟨_, Lib.hid rfl⟩
  obtain ⟨m0, hm0⟩ : ∃ m0, Hid (m0 = maj64 (v 0) (v 1) (v 2)) := ⟨_, Lib.hid rfl⟩
  have CB1 : Hid (∀ W, Tabs64 W → Calls Tryd.prog 19 #[.int .i64 1, .int .u64 (v 4)] W fun e w' => e = .returned (.int .u64 b1) ∧ W = w') := Lib.hid (fun W h => by rw [hb1.out]; exact big64_w 1 (v 4) (hv 4 (by omega)) W h)
  have CB0 : Hid (∀ W, Tabs64 W → Calls Tryd.prog 19 #[.int .i64 0, .int .u64 (v 0)] W fun e w' => e = .returned (.int .u64 b0) ∧ W = w') := Lib.hid (fun W h => by rw [hb0.out]; exact big64_w 0 (v 0) (hv 0 (by omega)) W h)
  have CC : Hid (∀ W, Calls Tryd.prog 20 #[.int .u64 (v 4), .int .u64 (v 5), .int .u64 (v 6)] W fun e w' => e = .returned (.int .u64 c1) ∧ W = w') := Lib.hid (fun W => by rw [hc1.out]; exact ch64_w (v 4) (v 5) (v 6) (hv 4 (by omega)) (hv 5 (by omega)) (hv 6 (by omega)) W)
  have CM : Hid (∀ W, Calls Tryd.prog 21 #[.int .u64 (v 0), .int .u64 (v 1), .int .u64 (v 2)] W fun e w' => e = .returned (.int .u64 m0) ∧ W = w') := Lib.hid (fun W => by rw [hm0.out]; exact maj64_w (v 0) (v 1) (v 2) (hv 0 (by omega)) (hv 1 (by omega)) (hv 2 (by omega)) W)
  obtain ⟨o1, ho1⟩ : ∃ o1, Hid (o1 = one64 v k u) := ⟨_, Lib.hid rfl⟩
  obtain ⟨o2, ho2⟩ : ∃ o2, Hid (o2 = two64 v) := ⟨_, Lib.hid rfl⟩
  have CS1 : Hid (∀ W p, reads W (some ⟨p, 0, none⟩) 5 .u64 (fun j => ([(v 7 : Int), b1, c1, k, u].getD j 0)) → Calls Tryd.prog 15 #[.slice (some ⟨p, 0, none⟩) 5 5] W fun e w' => e = .returned (.int .u64 o1) ∧ W = w') := Lib.hid (fun W p h => by
    refine (sum64_w _ 5 5 _ W (by decide) h).mono ?_
    rintro e w' ⟨rfl, rfl⟩
    refine ⟨ret_int ?_, rfl⟩
    rw [ho1.out]
    unfold one64
    rw [← hb1.out, ← hc1.out]
    simp only [sumN, List.getD_cons_zero, List.getD_cons_succ]
    omega)
  have CS2 : Hid (∀ W p, reads W (some ⟨p, 0, none⟩) 2 .u64 (fun j => ([(b0 : Int), m0].getD j 0)) → Calls Tryd.prog 15 #[.slice (some ⟨p, 0, none⟩) 2 2] W fun e w' => e = .returned (.int .u64 o2) ∧ W = w') := Lib.hid (fun W p h => by
    refine (sum64_w _ 2 2 _ W (by decide) h).mono ?_
    rintro e w' ⟨rfl, rfl⟩
    refine ⟨ret_int ?_, rfl⟩
    rw [ho2.out]
    unfold two64
    rw [← hb0.out, ← hm0.out]
    simp only [sumN, List.getD_cons_zero, List.getD_cons_succ]
    omega)
  have hat : ∀ (W : World) (a : Option Addr) (c : Nat), (Instr.arrayAt 31 (.slice a 8 c)).run Tryd.prog W = .ok (.pointer a) W := fun W a c => run_arrayAt (P := Tryd.prog) W 31 _ 8 a 8 c Tryd.underlying31 (Nat.le_refl _)
  go_enter Tryd.func10, Tryd.ntmps10
  go_wp2_with fail
  have RD1 : Hid (reads ((((w.alloc (.cells (vals .u64 8 (fun j => (v j : Int))) 31)).alloc (.cells (vals .u64 8 (fun _ => 0)) 31)).alloc (.cells #[.int .u64 (v 7), .int .u64 b1, .int .u64 c1, .int .u64 k, .int .u64 u] 24)).drew) (some ⟨w.heap.size + 1 + 1, 0, none⟩) 5 .u64 (fun j => ([(v 7 : Int), b1, c1, k, u].getD j 0))) := Lib.hid (by
    have h := reads_new ((w.alloc (.cells (vals .u64 8 (fun j => (v j : Int))) 31)).alloc (.cells (vals .u64 8 (fun _ => 0)) 31)) 24 (fun j => ([(v 7 : Int), b1, c1, k, u].getD j 0)) (k := .u64) (n := 5) (cs := #[.int .u64 (v 7), .int .u64 b1, .int .u64 c1, .int .u64 k, .int .u64 u]) rfl
    rw [World.size_alloc, World.size_alloc] at h
    exact h)
  have T1 := Lib.hid (HG.out.below (Nat.le_refl _) (bl_drew (bl_alloc (o := .cells (vals .u64 8 (fun _ => 0)) 31) (bl_alloc (o := .cells (vals .u64 8 (fun j => (v j : Int))) 31) (bl_refl w)))))
  refine region_tail 14 (by kernel_rfl) (by kernel_rfl) rfl ?_
  simp only [List.take_succ_cons, List.take_zero, List.drop_succ_cons, List.drop_zero]
  iterate 4 still_step
  still_call (calls_still (CB1.out _ T1.out))
  iterate 6 still_step
  still_call (calls_still (CC.out _))
  iterate 2 still_step
  refine wpStill_nil ?_
  go_wp2_with (go_at_call 15; (with_reducible refine (CS1.out _ _ RD1.out).mono ?_); rintro e w' ⟨rfl, rfl⟩)
  have A0 := row_below (bl_alloc (o := (.cells #[.int .u64 (v 7), .int .u64 b1, .int .u64 c1, .int .u64 k, .int .u64 u] 24)) (bl_refl ((w.alloc (.cells (vals .u64 8 (fun j => (v j : Int))) 31)).alloc (.cells (vals .u64 8 (fun _ => 0)) 31)))) (row_below (bl_alloc (o := (.cells (vals .u64 8 (fun _ => 0)) 31)) (bl_refl (w.alloc (.cells (vals .u64 8 (fun j => (v j : Int))) 31)))) ⟨hasRow_at w (vals .u64 8 (fun j => (v j : Int))) 31 w.heap.size 8 rfl (vals_size _ _ _), rowAt_at w (vals .u64 8 (fun j => (v j : Int))) 31 w.heap.size rfl⟩)
  have Z0 := hasRow_below (Nat.le_refl _) (bl_alloc (o := (.cells #[.int .u64 (v 7), .int .u64 b1, .int .u64 c1, .int .u64 k, .int .u64 u] 24)) (bl_refl ((w.alloc (.cells (vals .u64 8 (fun j => (v j : Int))) 31)).alloc (.cells (vals .u64 8 (fun _ => 0)) 31)))) (hasRow_at (w.alloc (.cells (vals .u64 8 (fun j => (v j : Int))) 31)) (vals .u64 8 (fun _ => 0)) 31 (w.heap.size + 1) 8 (by simp) (vals_size _ _ _))
  have B0 : Below w.heap.size w ((((w.alloc (.cells (vals .u64 8 (fun j => (v j : Int))) 31)).alloc (.cells (vals .u64 8 (fun _ => 0)) 31)).alloc (.cells #[.int .u64 (v 7), .int .u64 b1, .int .u64 c1, .int .u64 k, .int .u64 u] 24)).drew) := bl_drew (bl_alloc (bl_alloc (bl_alloc (bl_refl w))))
  replace A0 : hasRow ((((w.alloc (.cells (vals .u64 8 (fun j => (v j : Int))) 31)).alloc (.cells (vals .u64 8 (fun _ => 0)) 31)).alloc (.cells #[.int .u64 (v 7), .int .u64 b1, .int .u64 c1, .int .u64 k, .int .u64 u] 24)).drew) w.heap.size 8 ∧ rowAt ((((w.alloc (.cells (vals .u64 8 (fun j => (v j : Int))) 31)).alloc (.cells (vals .u64 8 (fun _ => 0)) 31)).alloc (.cells #[.int .u64 (v 7), .int .u64 b1, .int .u64 c1, .int .u64 k, .int .u64 u] 24)).drew) w.heap.size = vals .u64 8 (fun j => (v j : Int)) := A0
  replace Z0 : hasRow ((((w.alloc (.cells (vals .u64 8 (fun j => (v j : Int))) 31)).alloc (.cells (vals .u64 8 (fun _ => 0)) 31)).alloc (.cells #[.int .u64 (v 7), .int .u64 b1, .int .u64 c1, .int .u64 k, .int .u64 u] 24)).drew) (w.heap.size + 1) 8 := Z0
  clear RD1 T1 hz
  generalize (((w.alloc (.cells (vals .u64 8 (fun j => (v j : Int))) 31)).alloc (.cells (vals .u64 8 (fun _ => 0)) 31)).alloc (.cells #[.int .u64 (v 7), .int .u64 b1, .int .u64 c1, .int .u64 k, .int .u64 u] 24)).drew = W3 at A0 Z0 B0 ⊢
  have T3 := Lib.hid (HG.out.below (Nat.le_refl _) B0)
  have h0 := (cell_of_hasRow A0.1 A0.2 (show 0 < 8 by omega)).1
  have h1 := (cell_of_hasRow A0.1 A0.2 (show 1 < 8 by omega)).1
  have h2 := (cell_of_hasRow A0.1 A0.2 (show 2 < 8 by omega)).1
  have HA := Lib.hid A0
  have HZ := Lib.hid Z0
  have HB := Lib.hid B0
  clear A0 Z0 B0
  have RD2 : Hid (reads ((W3.alloc (.cells #[.int .u64 b0, .int .u64 m0] 24)).drew) (some ⟨W3.heap.size, 0, none⟩) 2 .u64 (fun j => ([(b0 : Int), m0].getD j 0))) := Lib.hid (reads_new W3 24 (fun j => ([(b0 : Int), m0].getD j 0)) (k := .u64) (n := 2) (cs := #[.int .u64 b0, .int .u64 m0]) rfl)
  refine region_tail 10 (by kernel_rfl) (by kernel_rfl) rfl ?_
  simp only [List.take_succ_cons, List.take_zero, List.drop_succ_cons, List.drop_zero]
  iterate 2 still_step
  still_call (calls_still (CB0.out _ T3.out))
  iterate 6 still_step
  still_call (calls_still (CM.out _))
  refine wpStill_nil ?_
  have hsz3 : (W3.alloc (.cells #[.int .u64 b0, .int .u64 m0] 24)).drew.heap.size = W3.heap.size + 1 := by simp
  go_wp2_with (first | (go_at_call 15; (with_reducible refine (CS2.out _ _ RD2.out).mono ?_); rintro e w' ⟨rfl, rfl⟩) | (at_builtin; refine append_zero elt64s rfl (.tmp 38) (.tmp 42) rfl rfl (w1 := (W3.alloc (.cells #[.int .u64 b0, .int .u64 m0] 24)).drew) (by rw [hsz3]; rfl) rfl (by omega) ?_; intro v4 w4 ho4 hg4; obtain ⟨g4, c4, rfl⟩ := ownsRow_succ ho4; have HX4 : Hid (Below W3.heap.size W3 w4) := Lib.hid ((bl_alloc (bl_drew (bl_alloc (bl_refl W3)))).grown hg4 (by simp; omega) (fun r e => by cases e)); have HO4 := Lib.hid (owns_base (base' := W3.heap.size) (by simp) ho4); have HA4 := Lib.hid (row_below HX4.out HA.out); have R4 : Hid (reads w4 (some ⟨w.heap.size, 0, none⟩) 7 .u64 (fun j => (v j : Int))) := Lib.hid (fun _ => ⟨_, _, rfl, fun j hj => by rw [Nat.zero_add]; exact (cell_of_hasRow HA4.out.1 HA4.out.2 (by omega)).1⟩); clear ho4 hg4) | (at_builtin; refine append_many elt64s rfl (.tmp 44) (.tmp 45) rfl rfl HO4.out rfl R4.out (by unfold maxLen; omega) (by omega) HX4.out.size ?_; intro v5 w5 ho5 hg5; obtain ⟨g5, c5, rfl⟩ := ownsRow_succ ho5; obtain ⟨_, _, e5, hc58, hb5, hl5, hcs5⟩ := owns_at ho5 (by decide); cases e5; have hcl5 := (hcs5 4 (by decide)).1; have hfr5 := (hcs5 4 (by decide)).2; simp only [show ¬ (4 : Nat) < 1 by decide, if_false, Nat.reduceSub] at hcl5; replace ho5 : owns w5 _ _ _ (.slice (some ⟨g5, 0, none⟩) 8 c5) 8 _ := ho5; have ho6 := owns_setCell ho5 4 (IntKind.u64.wrap ((v 3 : Int) + (o1 : Int))); have hld := run_loadRow_reads Tryd.prog _ g5 8 .u64 _ (fun j hj => by (obtain ⟨_, _, e6, _, _, _, hcs6⟩ := owns_at ho6 (by decide); cases e6; exact (hcs6 j hj).1)); clear ho6; have HX6 : Hid (Below W3.heap.size W3 (w5.setCell ⟨g5, 4, none⟩ (.int .u64 (IntKind.u64.wrap ((v 3 : Int) + (o1 : Int)))))) := Lib.hid ((HX4.out.trans (own_grown HO4.out hg5 HX4.out.size)).trans (below_own (g := g5) (by rw [Sort.setCell_eq]; exact grownBy_mapBlock _ _ _) hb5 (HX4.out.trans (own_grown HO4.out hg5 HX4.out.size)).size)); have hz6 := hasRow_below (Nat.le_refl _) HX6.out HZ.out; have HO5 := Lib.hid ho5; have HG5 := Lib.hid hg5; clear ho5 hg5 hcs5))
  obtain ⟨r1, r2, r3⟩ := row_setRow hz6 (vals .u64 8 (fun j => if j = 4 then IntKind.u64.wrap ((v 3 : Int) + (o1 : Int)) else if j = 0 then IntKind.u64.wrap ((o1 : Int) + (o2 : Int)) else (v (j - 1) : Int))) (vals_size _ _ _)
  refine bodyPost_ret (results_row arr8 rfl _ (w.heap.size + 1) rfl r1) rfl ⟨?_, ?_⟩
  · rw [r2]
    refine ret_agg (vals_ext _ _ fun j hj => ?_)
    have hcase : j = 0 ∨ j = 1 ∨ j = 2 ∨ j = 3 ∨ j = 4 ∨ j = 5 ∨ j = 6 ∨ j = 7 := by omega
    rcases hcase with rfl | rfl | rfl | rfl | rfl | rfl | rfl | rfl
    all_goals simp [round64, ← ho1.out, ← ho2.out, IntKind.wrap_u64]


  · exact (HB.out.trans (HX6.out.mono HB.out.size)).trans (below_setRow' (by omega) _)
end Go.Proofs.YtcpmamnoaiaieaaDoor
