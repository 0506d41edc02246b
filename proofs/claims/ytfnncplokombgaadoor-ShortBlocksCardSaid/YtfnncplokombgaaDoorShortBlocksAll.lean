/- Part 19 of 19 of what the proof of this law needs. Merged by merge.py out of: CoX CoY CoZ ShortBlocksRow. -/
import Derived.Test.YtfnncplokombgaaDoorShortBlocksAll18
import Derived.Test.YtfnncplokombgaaDoorLeaves
import Derived.Test.YtfnncplokombgaaDoorShortRoundsLaw
import Derived.Conc.LeavingOf
import Derived.Deep.DeepHandedRow
import Derived.Test.YtfnncplokombgaaDoorCards
import Derived.Test.YtfnncplokombgaaDoorTie
import Derived.Test.YtfnncplokombgaaDoorLaid
import Derived.Test.YtfnncplokombgaaDoorRowArr
import Derived.WalkKit
import Derived.ProofKit
import Derived.OpenShut
import Derived.Lib.LaidTab
/- What a call does in company, out of what it does alone (49): wakes, beside leavers. -/
namespace Go.Proofs.YtfnncplokombgaaDoor
open Go Go.Conc Go.RowKit

section
variable {Post : Value → World → Prop}
theorem Fr.nextN {N : Nat} {K : List (Nat × Value)} {T : Array Value} (F : Fr N K T) {w : World} {b : Frame} {ops : Array Oper} {d : Nat} {rest : List Nat} {k : List Item} {cs : List Frame} {o : Oper} {mk : Nat → Value} {c : Array Value} {t : TypeId} (hdst : o.dst = some d) (hd : d < N) (hn : (K.map Prod.fst).contains d = false)
    (cont : ∀ g T' w', Fr N ((d, mk g) :: K) T' → Kept w w' → w.heap.size ≤ g → RowC w' g c t → RunsOn Tryd.prog Post (G (b.at ⟨T', []⟩ (.inRegion ops rest :: k)) cs) w') : ∀ g w', Kept w w' → w.heap.size ≤ g → RowC w' g c t → RunsOn Tryd.prog Post (G (b.at (Act.put ⟨T, []⟩ o.dst (mk g)) (.inRegion ops rest :: k)) cs) w' := by
  intro g w' hk h1 h2
  rw [hdst]
  exact cont g _ w' (F.put _ hd hn) hk h1 h2
theorem wakes_runs {w : World} {c0 : Frame} {cs : List Frame} (G0 : Ground w) (cont : ∀ w', Kept w w' → RunsOn Tryd.prog Post (G (c0.finish (.bool true)) cs) w') : RunsOn Tryd.prog Post (G (Frame.enter Tryd.prog 7 #[] .normal) (c0 :: cs)) w := by
  have hbody : Tryd.f7.body = some b7 := by unfold b7; rfl
  rw [enter_at (P := Tryd.prog) #[] Tryd.func7 hbody]
  obtain ⟨T0, hT0⟩ : ∃ T0 : Array Value, T0 = #[] ++ Array.replicate (Tryd.f7.ntmps - (#[] : Array Value).size) undef := ⟨_, rfl⟩
  rw [← hT0]
  have F0 : Fr 22 [] T0 := ⟨by rw [hT0]; rfl, fun p hp => by cases hp⟩
  clear hT0
  have hr0 : List.range (cO p7_0).size = [0] := by kernel_rfl
  have hr1 : List.range (cO p7_1).size = [0, 1, 2] := by kernel_rfl
  have hr2 : List.range (cO p7_2).size = [0, 1, 2, 3, 4, 5, 6, 7] := by kernel_rfl
  obtain ⟨o0, a1, a2, a3, a4, _⟩ := op7_0_0
  refine run_ctl (fun w => step_code b7_is) (run_ctl (fun w => step_reg p7_0_is hr0) ?_)
  refine rl_val a1 (wanted_none a4 _) (kindB _) (run_assignV a2 rfl) (F0.next a3 (by decide) rfl ?_)
  intro T1 w1 F1 k1
  refine run_ctl (fun w => stepG_region_end) (run_ctl (fun w => stepG_seq) (run_ctl (fun w => step_reg p7_1_is hr1) ?_))
  obtain ⟨o1, b1, b2, b3, b4, _⟩ := op7_1_0
  refine rl_val b1 (wanted_none b4 _) (kindB _) (run_build123 b2) (F1.next b3 (by decide) rfl ?_)
  intro T2 w2 F2 k2
  have k2 := k1.trans k2
  obtain ⟨o2, c1, c2, c3, c4, _⟩ := op7_1_1
  refine rl_new (mk := ptrV) c1 (wanted_none c4 _) (kindB _) (run_alloc8 c2) (F2.nextN c3 (by decide) rfl ?_)
  intro g T3 w3 F3 k3 hg r3
  have q2 := k2.size
  have k3 := k2.trans k3
  have hlow : 2 < w.heap.size := (G0.tame 2 rfl).lt
  obtain ⟨o3, d1, d2, d3, d4, _⟩ := op7_1_2
  refine rl_store (n := 8) (f := fun j => (v123 j : Int)) (vals_size _ _ _) (by kernel_rfl) d2 d3 (G0.kept k3) (by omega) r3 (vrel_vals _ _ _ _) (run_store8 d2) d1 (wanted_none d4 _) (kindB _) (F3.at 0 rfl) (F3.at 1 rfl) ?_
  intro w4 u4 r4
  have k4 := u4.kept k3 (by omega)
  have q4 := k4.size
  refine run_ctl (fun w => stepG_region_end) (run_ctl (fun w => stepG_seq) (run_ctl (fun w => step_reg p7_2_is hr2) ?_))
  obtain ⟨o4, e1, e2, e3, e4, _⟩ := op7_2_0
  refine rl_new (mk := fun g => .slice (some ⟨g, 0, none⟩) 64 64) e1 (wanted_none e4 _) (kindB _) (run_mk64 e2) (F3.nextN e3 (by decide) rfl ?_)
  intro m T5 w5 F5 k5 hm r5
  have r4 := r4.kept k5
  have k5 := k4.trans k5
  obtain ⟨o5, f1, f2, f3, f4, _⟩ := op7_2_1
  refine rl_sched0 f2 (G0.kept k5) ⟨_, r5⟩ f1 (wanted_none f4 _) (kindB _) (F5.ev 0 rfl) (F5.next f3 (by decide) rfl ?_)
  intro T6 w6 F6 k6
  have r4 := r4.kept k6
  have k6 := k5.trans k6
  obtain ⟨o6, g1, g2, g3, g4, _⟩ := op7_2_2
  refine rl_val g1 (wanted_none g4 _) (kindB _) (run_moveV g2 (F6.ev 0 rfl)) (F6.next g3 (by decide) rfl ?_)
  intro T7 w7 F7 k7
  have r4 := r4.kept k7
  have k7 := k6.trans k7
  obtain ⟨o7, h1, h2, h3, h4, _⟩ := op7_2_3
  refine rl_val h1 (wanted_none h4 _) (kindB _) (run_extractA h2 (F7.ev 0 rfl) rfl) (F7.next h3 (by decide) rfl ?_)
  intro T8 w8 F8 k8
  have r4 := r4.kept k8
  have k8 := k7.trans k8
  obtain ⟨o8, i1, i2, i3, i4, _⟩ := op7_2_4
  refine rl_val i1 (wanted_none i4 _) (kindB _) (run_extractA i2 (F8.ev 1 rfl) rfl) (F8.next i3 (by decide) rfl ?_)
  intro T9 w9 F9 k9
  have r4 := r4.kept k9
  have k9 := k8.trans k9
  have q9 := k9.size
  obtain ⟨o9, j1, j2, j3, j4, _⟩ := op7_2_5
  refine rl_new (mk := ptrV) j1 (wanted_none j4 _) (kindB _) (run_alloc64 j2) (F9.nextN j3 (by decide) rfl ?_)
  intro z T10 w10 F10 k10 hz r10
  have hgl := r4.lt
  have r4 := r4.kept k10
  have k10 := k9.trans k10
  obtain ⟨o10, l1, l2, l3, l4, _⟩ := op7_2_6
  refine rl_store (n := 64) (f := fun _ => 0) (vals_size _ _ _) (by kernel_rfl) l2 l3 (G0.kept k10) (by omega) r10 (vrel_vals _ _ _ _) (run_store64 l2) l1 (wanted_none l4 _) (kindB _) (F10.at 0 rfl) (F10.at 2 rfl) ?_
  intro w11 u11 r11
  have k11 := u11.kept k10 (by omega)
  have r4 := r4.but u11 (by omega)
  obtain ⟨o11, m1, m2, m3, m4, _⟩ := op7_2_7
  refine rl_val m1 (wanted_none m4 _) (kindB _) (run_assignV m2 (F10.ev 1 rfl)) (F10.next m3 (by decide) rfl ?_)
  intro T12 w12 F12 k12
  have r4 := r4.kept k12
  have r11 := r11.kept k12
  have k12 := k11.trans k12
  refine run_ctl (fun w => stepG_region_end) (run_ctl (fun w => stepG_seq) ?_)
  refine reg7_3 (p1 := g) (p2 := z) (G0.kept k12) ⟨F12.size, fun p hp => ?_⟩ ⟨_, r4⟩ ⟨_, r11⟩ fun T13 w13 F13 k13 => ?_
  · simp only [K7_3, List.mem_cons, List.not_mem_nil, or_false] at hp
    rcases hp with rfl | rfl | rfl
    · exact F12.at 7 rfl
    · exact F12.at 1 rfl
    · exact F12.at 0 rfl
  · exact run_ctl (fun w => stepG_ret') (run_leave rfl Tryd.func7 rfl (F13.at 15 rfl) (cont w13 (k12.trans k13)))
end
end Go.Proofs.YtfnncplokombgaaDoor

/- What a call does in company, out of what it does alone (50): the law ShortBlocks, beside leavers. -/
namespace Go.Proofs.YtfnncplokombgaaDoor
open Go Go.Conc Go.RowKit

theorem Kept.at {w w1 : World} (h : Kept w w1) (d : Nat) : Kept w (w1.at d) := ⟨h.os, h.output, h.tape, h.size, h.keep⟩
theorem Fr.of {N : Nat} {T : Array Value} {K : List (Nat × Value)} (h : T.size = N) (hk : Knows K T) : Fr N K T := ⟨h, hk⟩
theorem knows_nil (T : Array Value) : Knows [] T := fun p hp => by cases hp
theorem knows_cons {T : Array Value} {d : Nat} {v : Value} {K : List (Nat × Value)} (h : T[d]? = some v) (hk : Knows K T) : Knows ((d, v) :: K) T := fun p hp => by
  rcases List.mem_cons.1 hp with rfl | hp
  · exact h
  · exact hk p hp
/-- what a law answers -/
def Held (w : World) (v : Value) (w' : World) : Prop := v = .bool true ∧ Kept w w'
section
variable {Post : Value → World → Prop}
/-- a call of wakes -/
theorem rl_wakes {b : Frame} {ops : Array Oper} {i : Nat} {rest : List Nat} {k : List Item} {cs : List Frame} {o : Oper} {T : Array Value} {w : World} {ts : Array TypeId} (hop : o.op = .call ⟨.value (.func 7), #[], ts⟩) (G0 : Ground w)
    (ho : ops[i]? = some o) (hw : Region.wanted o (yielded ops T) = true) (hk : b.kind ≠ .early)
    (cont : ∀ w', Kept w w' → RunsOn Tryd.prog Post (G (b.at (Act.put ⟨T, []⟩ o.dst (.bool true)) (.inRegion ops rest :: k)) cs) w') : RunsOn Tryd.prog Post (G (b.at ⟨T, []⟩ (.inRegion ops (i :: rest) :: k)) cs) w := by
  have hbody : Tryd.f7.body = some b7 := by unfold b7; rfl
  have hcf := fun w1 : World => run_callF (P := Tryd.prog) (a := ⟨T, []⟩) hop Tryd.func7 rfl hbody w1
  have hmap : (#[] : Array Operand).map (Act.eval ⟨T, []⟩) = #[] := by simp
  rw [hmap] at hcf
  refine run_enter ho hw hk (fun w => (hcf w).1) (fun w => (hcf w).2) ?_
  refine wakes_runs G0 fun w' hk' => ?_
  rw [Frame.finish_at, ho]
  exact cont w' hk'
end
theorem min_cut (c q : Nat) : min ((c * 64 : Nat) : Int) ((q * 64 : Nat) : Int) = (((min c q) * 64 : Nat) : Int) := by
  by_cases h : c ≤ q
  · rw [Nat.min_eq_left h]; omega
  · rw [Nat.min_eq_right (by omega)]; omega
set_option maxHeartbeats 4000000 in
theorem shortBlocks_runs {w : World} {v : Nat → Nat} {s : Option Addr} {len cap c : Nat} {f : Nat → Int} (G0 : Ground w) (hv : ∀ j, j < 8 → v j < 4294967296) (I : InS w s len cap f) (hc : c < 256) :
    RunsOn Tryd.prog (Held w) (G (Frame.enter Tryd.prog 5 #[agg8 v, .slice s len cap, .int .u8 (c : Int)] .normal) []) w := by
  have hbody : Tryd.f5.body = some b5 := by unfold b5; rfl
  rw [enter_at (P := Tryd.prog) #[agg8 v, .slice s len cap, .int .u8 (c : Int)] Tryd.func5 hbody]
  obtain ⟨T0, hT0⟩ : ∃ T0 : Array Value, T0 = #[agg8 v, .slice s len cap, .int .u8 (c : Int)] ++ Array.replicate (Tryd.f5.ntmps - (#[agg8 v, .slice s len cap, .int .u8 (c : Int)] : Array Value).size) undef := ⟨_, rfl⟩
  rw [← hT0]
  have F0 : Fr 55 [(0, agg8 v), (1, .slice s len cap), (2, .int .u8 (c : Int))] T0 := by
    refine ⟨by rw [hT0]; simp, knows_cons ?_ (knows_cons ?_ (knows_cons ?_ (knows_nil _)))⟩
    · rw [hT0, Array.getElem?_append_left (by simp)]; simp
    · rw [hT0, Array.getElem?_append_left (by simp)]; simp
    · rw [hT0, Array.getElem?_append_left (by simp)]; simp
  clear hT0
  have hr0 : List.range (cO p5_0).size = [0, 1] := by kernel_rfl
  have hr1 : List.range (cO p5_1).size = [0, 1] := by kernel_rfl
  have hr4 : List.range (cO p5_4).size = [0] := by kernel_rfl
  have hr5 : List.range (cO p5_5).size = [0, 1, 2, 3, 4] := by kernel_rfl
  have hlow : 2 < w.heap.size := (G0.tame 2 rfl).lt
  obtain ⟨o0, a1, a2, a3, a4, _⟩ := op5_0_0
  refine run_ctl (fun w => step_code b5_is) (run_ctl (fun w => step_reg p5_0_is hr0) ?_)
  refine rl_new (mk := ptrV) a1 (wanted_none a4 _) (kindB _) (run_box8 a2 (F0.ev 0 rfl)) (F0.nextN a3 (by decide) rfl ?_)
  intro g T1 w1 F1 k1 hg r1
  obtain ⟨o1, b1, b2, b3, b4, _⟩ := op5_0_1
  refine rl_val b1 (wanted_none b4 _) (kindB _) (run_assignV b2 rfl) (F1.next b3 (by decide) rfl ?_)
  intro T2 w2 F2 k2
  have r2 := r1.kept k2
  have k2 := k1.trans k2
  refine run_ctl (fun w => stepG_region_end) (run_ctl (fun w => stepG_seq) (run_ctl (fun w => stepG_seq) (run_ctl (fun w => step_reg p5_1_is hr1) ?_)))
  obtain ⟨o2, c1, c2, c3, c4, _⟩ := op5_1_0
  refine rl_wakes c2 (G0.kept k2) c1 (wanted_none c4 _) (kindB _) (F2.next c3 (by decide) rfl ?_)
  intro T3 w3 F3 k3
  have r3 := r2.kept k3
  have k3 := k2.trans k3
  obtain ⟨o3, d1, d2, d3, d4, _⟩ := op5_1_1
  refine rl_val d1 (wanted_none d4 _) (kindB _) (run_unot d2 (F3.ev 0 rfl)) (F3.next d3 (by decide) rfl ?_)
  intro T4 w4 F4 k4
  have r4 := r3.kept k4
  have k4 := k3.trans k4
  refine run_ctl (fun w => stepG_region_end) (run_ctl (fun w => stepG_cond (F4.ev (v := .bool false) 0 rfl)) ?_)
  rw [if_neg (by decide)]
  refine run_ctl (fun w => stepG_skip) (run_ctl (fun w => stepG_seq) (run_ctl (fun w => stepG_seq) ?_))
  refine reg5_3 (g := g) (c := c) (s := s) (len := len) (cap := cap) (G0.kept k4) ⟨F4.size, knows_cons (F4.at 5 rfl) (knows_cons (F4.at 6 rfl) (knows_cons (F4.at 3 rfl) (knows_nil _)))⟩ fun T5 w5 F5 k5 => ?_
  have r5 := r4.kept k5
  have k5 := k4.trans k5
  refine run_ctl (fun w => stepG_cond (F5.ev 5 rfl)) ?_
  by_cases h400 : 400 < len
  · rw [if_pos (decide_eq_true (by omega))]
    obtain ⟨o4, e1, e2, e3, e4, _⟩ := op5_4_0
    refine run_ctl (fun w => stepG_seq) (run_ctl (fun w => step_reg p5_4_is hr4) ?_)
    refine rl_val e1 (wanted_none e4 _) (kindB _) (run_assignV e2 rfl) (F5.next e3 (by decide) rfl ?_)
    intro T6 w6 F6 k6
    have k6 := k5.trans k6
    exact run_ctl (fun w => stepG_region_end) (run_ctl (fun w => stepG_ret') (run_end rfl Tryd.func5 rfl (F6.at 0 rfl) (by kernel_rfl) fun d => ⟨rfl, k6.at d⟩))
  · rw [if_neg (by simp; omega)]
    refine run_ctl (fun w => stepG_skip) (run_ctl (fun w => stepG_seq) (run_ctl (fun w => step_reg p5_5_is hr5) ?_))
    have hlen : len ≤ 1000000 := by omega
    obtain ⟨X, hX⟩ : ∃ X, blocks32 v f (len / 64) = X := ⟨_, rfl⟩
    obtain ⟨q, hq⟩ : ∃ q, q = len / 64 := ⟨_, rfl⟩
    obtain ⟨n, hn⟩ : ∃ n, n = min c q * 64 := ⟨_, rfl⟩
    have hmin : min c q ≤ q := Nat.min_le_right _ _
    obtain ⟨o5, e1, e2, e3, e4, _⟩ := op5_5_0
    refine rl_load8 e2 (G0.kept k5) ⟨_, r5⟩ e1 (wanted_none e4 _) (kindB _) (F5.at 2 rfl) (F5.next e3 (by decide) rfl ?_)
    intro T6 w6 F6 k6
    have r6 := r5.kept k6
    have k6 := k5.trans k6
    obtain ⟨o6, f1, f2, f3, f4, _⟩ := op5_5_1
    refine rl_val f1 (wanted_none f4 _) (kindB _) (run_moveV f2 (F6.ev 1 rfl)) (F6.next f3 (by decide) rfl ?_)
    intro T7 w7 F7 k7
    have r7 := r6.kept k7
    have k7 := k6.trans k7
    obtain ⟨o7, g1, g2, g3, g4, _⟩ := op5_5_2
    refine rl_blocksB g2 hv hX (G0.kept k7) (I.kept k7) g1 (wanted_none g4 _) (kindB _) (F7.ev 1 rfl) (F7.ev 0 rfl) (F7.next g3 (by decide) rfl ?_)
    intro T8 w8 F8 k8
    have r8 := r7.kept k8
    have k8 := k7.trans k8
    have q8 := k8.size
    obtain ⟨o8, h1, h2, h3, h4, _⟩ := op5_5_3
    refine rl_new (mk := ptrV) h1 (wanted_none h4 _) (kindB _) (run_alloc8 h2) (F8.nextN h3 (by decide) rfl ?_)
    intro h T9 w9 F9 k9 hh r9
    have hgl := r8.lt
    have r8 := r8.kept k9
    have k9 := k8.trans k9
    obtain ⟨o9, i1, i2, i3, i4, _⟩ := op5_5_4
    refine rl_store (n := 8) (f := fun j => (X j : Int)) (vals_size _ _ _) (by kernel_rfl) i2 i3 (G0.kept k9) (by omega) r9 (vrel_vals _ _ _ _) (run_store8 i2) i1 (wanted_none i4 _) (kindB _) (F9.at 0 rfl) (F9.at 1 rfl) ?_
    intro w10 u10 r10
    have k10 := u10.kept k9 (by omega)
    have r11 := r8.but u10 (by omega)
    refine run_ctl (fun w => stepG_region_end) (run_ctl (fun w => stepG_seq) ?_)
    refine reg5_6 (g := g) (h := h) (s := s) (len := len) (cap := cap) (c := c) (q := q) (n := n) (G0.kept k10) ⟨F9.size, knows_cons (F9.at 4 rfl) (knows_cons (F9.at 5 rfl) (knows_cons (F9.at 6 rfl) (knows_cons (F9.at 0 rfl) (knows_nil _))))⟩
      (by rw [IntKind.wrap_i64]; omega) (by rw [IntKind.wrap_i64]; omega) (by rw [Int.tdiv_eq_ediv_of_nonneg (by omega), IntKind.wrap_i64]; omega) (by rw [IntKind.wrap_i64]; omega) (by rw [min_cut, hn]) fun T12 w12 F12 k12 => ?_
    have r12 := r10.kept k12
    have r13 := r11.kept k12
    have k12 := k10.trans k12
    refine run_ctl (fun w => stepG_seq) ?_
    refine reg5_7 (g := g) (h := h) (s := s) (len := len) (cap := cap) (n := n) (m := q * 64) (q := q) (v := v) (X := X) (Y := blocks32 v f (n / 64)) (G0.kept k12) ⟨F12.size, knows_cons (F12.at 0 rfl) (knows_cons (F12.at 2 rfl) (knows_cons (F12.at 3 rfl) (knows_cons (F12.at 12 rfl) (knows_nil _))))⟩
      ⟨_, r13⟩ ⟨_, r12⟩ (I.kept k12) hlen (by omega) (by omega) hv (blocks32_lt v f hv _) hX rfl ?_ (by rw [Nat.mul_div_cancel q (by omega), hq]; exact hX) (by rw [Int.tdiv_eq_ediv_of_nonneg (by omega), IntKind.wrap_i64]; omega) (by rw [IntKind.wrap_i64]; omega) fun T14 w14 F14 k14 => ?_
    · rw [← hX, hn, Nat.mul_div_cancel _ (by omega : 0 < 64), ← blocks32_add, show min c q + (len - min c q * 64) / 64 = len / 64 by omega]
    · have k14 := k12.trans k14
      exact run_ctl (fun w => stepG_ret') (run_end rfl Tryd.func5 rfl (F14.at 34 rfl) (by kernel_rfl) fun d => ⟨rfl, k14.at d⟩)
end Go.Proofs.YtfnncplokombgaaDoor

/- What a call does in company, out of what it does alone (51): from a run of goroutine 0 beside leavers to a row. -/
namespace Go.Proofs.YtfnncplokombgaaDoor
open Go Go.Conc Go.RowKit

theorem runs_good {P : Program} {Post : Value → World → Prop} {fr : Frame} {W : World} (h : RunsOn P Post (G fr []) W) :
    ∃ N last o w' t', runNT P (N + 1) (solo (G fr []) W) #[] = (.ended o w', t') ∧ runN P N (solo (G fr []) W) = .next last ∧ step P last = .ended o w' ∧ Conc.Good P Post last o w' t' :=
  h #[G fr []] none #[] (fun _ => 0) W.drawn rfl (leavers_one _ _) (past_nil.mono (Nat.zero_le _))
theorem returnsInLeavingWide_of_row {H : Type} {enc : TypeId × Value → H} {a : Assume} {C : Checked} {os : Os} {f : FuncId} {fn : Func} {s : OpenSpec} {F : Stop.Interp} {conds : List PathCond} {apart fresh handsOn again : Bool} {laid : List (String × DataW Unit)}
    (own : ownKnob C.prog.godebug = none) (started : os.Started) (hfn : C.prog.funcs[f]? = some fn)
    (witness : ∃ (w : World) (tape : Tape) (i : Input), w.os = os ∧ (w.forCall tape i).Shaped C.prog ∧ i.vars = [] ∧ Input.okWide C.prog (w.forCall tape i) .any w.heap.size f i ∧
      s.preRow enc C.prog fn conds apart laid (w.forCall tape i).memory i.args ∧ a.holds C.prog (lone (Frame.enter C.prog f i.args .normal) [] (w.forCall tape i)))
    (runs : ∀ (W : World) (base : Nat) (args : Array Value) (ds gs : List (DataW H)) (before : List MemPlace),
      (∀ (j : Nat) t v, fn.params[j]? = some t → args[j]? = some v → Value.okWide C.prog W .any base t v) →
      DataW.Whole enc C.prog fn.params.toList s.vars apart W args.toList ds gs before → laidMetH C.prog laid W →
      RunsOn C.prog (fun v W' => (s.at F).post enc C.prog fn apart fresh handsOn again W args v W') (G (Frame.enter C.prog f args .normal) []) W) :
    ReturnsInLeavingWide a C os f .any (s.preRow enc C.prog fn conds apart laid) ((s.at F).post enc C.prog fn apart fresh handsOn again) := by
  refine returnsInLeavingWide_of_good own started witness ?_
  intro w tape i _ _ _ hok hpre _
  obtain ⟨_, _, _, fn', hfn', _, _, _, _, hval⟩ := hok
  have e : fn' = fn := Option.some.inj (hfn'.symm.trans hfn)
  subst e
  obtain ⟨⟨hp, hl⟩, _⟩ := hpre
  obtain ⟨ds, gs, before, hw, _, _⟩ := OpenSpec.pre_parts hp
  have hw' := DataW.Whole.of_heap (w' := w.forCall tape i) (by rfl) hw
  obtain ⟨M, last, o, w', t', h1, h2, h3, h4⟩ := runs_good (runs (w.forCall tape i) w.heap.size i.args ds gs before hval hw' (hl.of_heap (by rfl)))
  exact ⟨M, last, o, w', t', h1, h2, h3, h4.mono fun v hp => ChangeSpec.post_blind hp⟩
theorem RunsOn.mono {P : Program} {Post Post' : Value → World → Prop} {g : Goroutine} {w : World} (h : RunsOn P Post g w) (hp : ∀ v w', Post v w' → Post' v w') : RunsOn P Post' g w := by
  intro gs sl t q d h0 hL hP
  obtain ⟨N, last, o, w', t', h1, h2, h3, h4⟩ := h gs sl t q d h0 hL hP
  exact ⟨N, last, o, w', t', h1, h2, h3, h4.mono fun v x => hp v _ x⟩
theorem Kept.below {w w1 : World} (h : Kept w w1) : Below w.heap.size w w1 := ⟨h.os, h.tape, h.output, h.size, h.keep⟩
theorem tame_of {w : World} {a : Addr} {v : Value} (h : w.cell? a = some v) : Tame w a.block := by
  obtain ⟨c, e, fr, h1, _⟩ := cell_parts h
  exact ⟨c, e, fr, h1⟩
theorem ground_of {w : World} (h : TabsW w) : Ground w := by
  refine ⟨h.1, h.2, fun g hg => ?_⟩
  have t0 := tame_of (h.1.1 0 (by decide))
  have t1 := tame_of (h.1.2 0 (by decide))
  have t2 := tame_of (h.2 0 (by decide))
  dsimp only at t0 t1 t2
  rcases nice_of hg with rfl | rfl | rfl <;> assumption
theorem base_of {W : World} {b : Nat} {t e : TypeId} {a : Option Addr} {len cap : Nat} (hu : Tryd.prog.underlying t = some (.slice e)) (h : Value.okWide Tryd.prog W .any b t (.slice a len cap)) : a = none ∨ ∃ ib off, a = some ⟨ib, off, none⟩ ∧ Tame W ib := by
  cases a with
  | none => exact .inl rfl
  | some a =>
    simp only [Value.okWide, hu, Cell.okWide, Cell.ok] at h
    obtain ⟨_, _, _, hs, row, cells, hsh, _⟩ := h
    obtain ⟨ib, off, sp⟩ := a
    dsimp only at hs hsh
    subst hs
    refine .inr ⟨ib, off, rfl, ?_⟩
    unfold World.shape? at hsh
    split at hsh
    · rename_i c e fr hh
      exact ⟨c, e, fr, hh⟩
    · cases hsh
/-- ████ the law ShortBlocks, as its row asks for it ████ -/
theorem shortBlocks_row {W : World} {f0 : Nat → Int} {a : Option Addr} {len cap : Nat} {f : Nat → Int} {c : Int} (hf0 : ∀ j, j < 8 → 0 ≤ f0 j ∧ f0 j < 4294967296) (hr : reads W a len .u8 f) (hf : ∀ j, j < len → 0 ≤ f j ∧ f j < 256) (hcap : len ≤ cap) (hb : a = none ∨ ∃ ib off, a = some ⟨ib, off, none⟩ ∧ Tame W ib) (hc : 0 ≤ c ∧ c < 256) (hT : TabsW W) :
    RunsOn Tryd.prog (Held W) (G (Frame.enter Tryd.prog 5 #[.agg (vals .u32 8 f0), .slice a len cap, .int .u8 c] .normal) []) W := by
  obtain ⟨v, e, hv⟩ := nat_vals8 f0 hf0
  rw [e]
  obtain ⟨n, rfl, hn⟩ : ∃ n : Nat, c = n ∧ n < 256 := ⟨c.toNat, by omega, by omega⟩
  exact shortBlocks_runs (ground_of hT) hv ⟨hcap, hb, hr, hf⟩ hn
end Go.Proofs.YtfnncplokombgaaDoor

/- ShortBlocks: the row (for every input the law returns true, and each argument reads afterwards as it read before; the three tables read as the program's text lays them) and its tied card. -/
namespace Go.Proofs.YtfnncplokombgaaDoor.shortBlocks
open Go.ChangeShapes Go.WideShapes Go.ChangeAt Go.RowKit

theorem own : ownKnob Tryd.prog.godebug = none := by kernel_rfl
theorem laidOut : laidOutB Tryd.prog = true := by kernel_rfl
theorem gT : Tryd.prog.globalNamed "cribble/word.turns" = some 1 := by kernel_rfl
theorem gTt : (Tryd.prog.globals[1]?).map (·.type) = some 50 := by kernel_rfl
theorem gS : Tryd.prog.globalNamed "cribble/word.shifts" = some 0 := by kernel_rfl
theorem gSt : (Tryd.prog.globals[0]?).map (·.type) = some 50 := by kernel_rfl
theorem gK : Tryd.prog.globalNamed "cribble/table.long" = some 2 := by kernel_rfl
theorem gKt : (Tryd.prog.globals[2]?).map (·.type) = some 56 := by kernel_rfl
theorem cA : Tryd.prog.cellsOf 50 = 6 := by kernel_rfl
theorem cB : Tryd.prog.cellsOf 49 = 3 := by kernel_rfl
theorem cC : Tryd.prog.cellsOf 3 = 1 := by kernel_rfl
theorem cD : Tryd.prog.cellsOf 56 = 80 := by kernel_rfl
theorem cE : Tryd.prog.cellsOf 42 = 1 := by kernel_rfl
theorem tabs {W : World} (h : laidMetH Tryd.prog Rows.shortBlocksRow.laid W) : TabsW W := by
  have h' : laidMet Tryd.prog Rows.shortBlocksRow.laid W := h
  obtain ⟨ps, ⟨g2, t2, c2, u2, p2, q2, hg2, ht2, hv2, hd2, ⟨g0, t0, c0, u0, p0, q0, hg0, ht0, hv0, hd0, ⟨g1, t1, c1, u1, p1, q1, hg1, ht1, hv1, hd1, _, _⟩, _⟩, _⟩, _⟩ := h'
  obtain rfl := Option.some.inj (gT.symm.trans hg0)
  obtain rfl := Option.some.inj (gTt.symm.trans ht0)
  obtain rfl := Option.some.inj (gS.symm.trans hg1)
  obtain rfl := Option.some.inj (gSt.symm.trans ht1)
  obtain rfl := Option.some.inj (gK.symm.trans hg2)
  obtain rfl := Option.some.inj (gKt.symm.trans ht2)
  have e0 := cells_of_tab23 (k := .i64) (r0 := [2, 13, 22]) (r1 := [6, 11, 25]) Tryd.underlying50 Tryd.underlying49 Tryd.underlying3 cC cB cA hd0
  have e1 := cells_of_tab23 (k := .i64) (r0 := [7, 18, 3]) (r1 := [17, 19, 10]) Tryd.underlying50 Tryd.underlying49 Tryd.underlying3 cC cB cA hd1
  have e2 := Lib.cells_of_tab (k := .u64) (zs := List.map (fun n : Nat => (n : Int)) k64l) Tryd.underlying56 Tryd.underlying42 cE cD hd2
  refine ⟨⟨fun j hj => laid_cell gT hv0 e0 j hj, fun j hj => laid_cell gS hv1 e1 j hj⟩, fun j hj => ?_⟩
  have hj' : j < k64l.length := hj
  have h2 := laid_cell gK hv2 e2 j (by rw [List.length_map]; exact hj')
  rw [h2]
  unfold k64c
  simp [List.getD, hj']

theorem contract (H : Type) (enc : TypeId × Value → H) (W : World) (base : Nat) (args : Array Value) (ds gs : List (DataW H)) (before : List MemPlace)
    (hval0 : ∀ (j : Nat) t v, Tryd.f5.params[j]? = some t → args[j]? = some v → Value.okWide Tryd.prog W .any base t v)
    (hW : DataW.Whole enc Tryd.prog Tryd.f5.params.toList Rows.shortBlocksSpec.vars false W args.toList ds gs before) (hL : laidMetH Tryd.prog Rows.shortBlocksRow.laid W) :
    RunsOn Tryd.prog (fun v W' => Rows.shortBlocksSpec.post enc Tryd.prog Tryd.f5 false true false false W args v W') (Go.Conc.G (Frame.enter Tryd.prog 5 args .normal) []) W := by
  have hval : ∀ (j : Nat) t v, Tryd.f5.params[j]? = some t → args[j]? = some v → Value.okWide Tryd.prog W .any base t v := hval0
  have hW' := hW
  obtain ⟨p, q, hA0, hV, rfl, hfz, hnd⟩ := hW
  have hA : DataW.TrodAll enc Tryd.prog W 0 (fun _ => true) true Tryd.f5.params.toList args.toList ds p := hA0
  rw [Tryd.params5] at hA hval
  obtain ⟨v0, vs0, d0, ds0, p0, q0, hargs, rfl, rfl, h0, r0⟩ := trodAll_cons hA
  obtain ⟨v1, vs1, d1, ds1, p1, q1, rfl, rfl, rfl, h1, r1⟩ := trodAll_cons r0
  obtain ⟨v2, vs2, d2, ds2, p2, q2, rfl, rfl, rfl, h2, r2⟩ := trodAll_cons r1
  obtain ⟨rfl, rfl, rfl⟩ := trodAll_nil r2
  obtain rfl : args = #[v0, v1, v2] := by cases args; simp_all
  obtain ⟨rfl, rfl⟩ := trodVars_none hV
  obtain ⟨cs0, rfl, _, _⟩ : ∃ cs, v0 = .agg cs ∧ cs.size = Tryd.prog.cellsOf 31 ∧ Row.okWide Tryd.prog W .any base 31 cs := by
    have := hval 0 31 v0 rfl rfl
    simpa [Value.okWide, Tryd.underlying31] using this
  have lt0 : ∀ x ∈ p0, x.block < W.heap.size := by obtain ⟨m, hm⟩ := h0; exact DataW.trod_lt m _ _ _ hm
  obtain ⟨f0, rfl, hf0⟩ := open_arr (k := .u32) (n := 8) Tryd.underlying31 Tryd.underlying24 (by kernel_rfl) (by kernel_rfl) h0
  obtain ⟨a1, len1, cap1, rfl⟩ := okWide_slice Tryd.underlying22 (hval 1 22 v1 rfl rfl)
  have lt1 : ∀ x ∈ p1, x.block < W.heap.size := by obtain ⟨m, hm⟩ := h1; exact DataW.trod_lt m _ _ _ hm
  obtain ⟨f1, hr1, hn1, hc1, _, hf1⟩ := open_reads Tryd.underlying22 Tryd.underlying5 (by kernel_rfl) h1
  obtain ⟨a2, rfl, rfl, rfl, w2⟩ := open_int Tryd.underlying5 (hval 2 5 v2 rfl rfl) h2
  clear hA0 hval0
  simp only [List.append_nil] at hW'
  refine (shortBlocks_row (fun j hj => bd_u32 (hf0 j hj)) hr1 (fun j hj => bd_u8 (hf1 j hj)) hc1 (base_of Tryd.underlying22 (hval 1 22 _ rfl rfl)) (bd_u8 w2) (tabs hL)).mono fun v W' ⟨he, hk⟩ => ?_
  subst he
  have bel := hk.below
  exact ⟨_, _, _, [], _, [], hW', trodAll_mk1 (shut_bool Tryd.underlying4 _), (trodAll_cons_mk (Below.trod laidOut (by kernel_rfl) (of_decide_eq_true (by kernel_rfl)) h0 bel lt0) (trodAll_cons_mk (Below.trod laidOut (by kernel_rfl) (of_decide_eq_true (by kernel_rfl)) h1 bel lt1) (trodAll_cons_mk (shut_int Tryd.underlying5 w2) trodAll_mk0))), rfl, bel.frame _, fun h => by cases h⟩

/-- a world for the witness: the settled one, the tables holding what their initialisers lay -/
noncomputable def laidWorld (os : Os) : World :=
  { World.holding Tryd.prog os ⟨#[], #[], []⟩ with heap := (((World.holding Tryd.prog os ⟨#[], #[], []⟩).heap.modify 1 (layCells #[.int .i64 2, .int .i64 13, .int .i64 22, .int .i64 6, .int .i64 11, .int .i64 25])).modify 0 (layCells #[.int .i64 7, .int .i64 18, .int .i64 3, .int .i64 17, .int .i64 19, .int .i64 10])).modify 2 (layCells #[.int .u64 4794697086780616226, .int .u64 8158064640168781261, .int .u64 13096744586834688815, .int .u64 16840607885511220156, .int .u64 4131703408338449720, .int .u64 6480981068601479193, .int .u64 10538285296894168987, .int .u64 12329834152419229976, .int .u64 15566598209576043074, .int .u64 1334009975649890238, .int .u64 2608012711638119052, .int .u64 6128411473006802146, .int .u64 8268148722764581231, .int .u64 9286055187155687089, .int .u64 11230858885718282805, .int .u64 13951009754708518548, .int .u64 16472876342353939154, .int .u64 17275323862435702243, .int .u64 1135362057144423861, .int .u64 2597628984639134821, .int .u64 3308224258029322869, .int .u64 5365058923640841347, .int .u64 6679025012923562964, .int .u64 8573033837759648693, .int .u64 10970295158949994411, .int .u64 12119686244451234320, .int .u64 12683024718118986047, .int .u64 13788192230050041572, .int .u64 14330467153632333762, .int .u64 15395433587784984357, .int .u64 489312712824947311, .int .u64 1452737877330783856, .int .u64 2861767655752347644, .int .u64 3322285676063803686, .int .u64 5560940570517711597, .int .u64 5996557281743188959, .int .u64 7280758554555802590, .int .u64 8532644243296465576, .int .u64 9350256976987008742, .int .u64 10552545826968843579, .int .u64 11727347734174303076, .int .u64 12113106623233404929, .int .u64 14000437183269869457, .int .u64 14369950271660146224, .int .u64 15101387698204529176, .int .u64 15463397548674623760, .int .u64 17586052441742319658, .int .u64 1182934255886127544, .int .u64 1847814050463011016, .int .u64 2177327727835720531, .int .u64 2830643537854262169, .int .u64 3796741975233480872, .int .u64 4115178125766777443, .int .u64 5681478168544905931, .int .u64 6601373596472566643, .int .u64 7507060721942968483, .int .u64 8399075790359081724, .int .u64 8693463985226723168, .int .u64 9568029438360202098, .int .u64 10144078919501101548, .int .u64 10430055236837252648, .int .u64 11840083180663258601, .int .u64 13761210420658862357, .int .u64 14299343276471374635, .int .u64 14566680578165727644, .int .u64 15097957966210449927, .int .u64 16922976911328602910, .int .u64 17689382322260857208, .int .u64 500013540394364858, .int .u64 748580250866718886, .int .u64 1242879168328830382, .int .u64 1977374033974150939, .int .u64 2944078676154940804, .int .u64 3659926193048069267, .int .u64 4368137639120453308, .int .u64 4836135668995329356, .int .u64 5532061633213252278, .int .u64 6448918945643986474, .int .u64 6902733635092675308, .int .u64 7801388544844847127]) }
theorem laid_met (os : Os) : laidMet Tryd.prog Rows.shortBlocksRow.laid ((laidWorld os).forCall (fun _ _ => 0) ⟨#[], #[.agg #[.int .u32 0, .int .u32 0, .int .u32 0, .int .u32 0, .int .u32 0, .int .u32 0, .int .u32 0, .int .u32 0], .slice none 0 0, .int .u8 0], []⟩).memory :=
  laidMet_of_run' 12 (by kernel_rfl) (by kernel_rfl)
theorem reads (os : Os) {H : Type} (enc : TypeId × Value → H) : ∃ places, DataW.whole enc Tryd.prog ((laidWorld os).forCall (fun _ _ => 0) ⟨#[], #[.agg #[.int .u32 0, .int .u32 0, .int .u32 0, .int .u32 0, .int .u32 0, .int .u32 0, .int .u32 0, .int .u32 0], .slice none 0 0, .int .u8 0], []⟩).memory Tryd.f5.params.toList Rows.shortBlocksSpec.vars false (#[.agg #[.int .u32 0, .int .u32 0, .int .u32 0, .int .u32 0, .int .u32 0, .int .u32 0, .int .u32 0, .int .u32 0], .slice none 0 0, .int .u8 0] : Array Value).toList 12 = some ([.agg [.lit (.int .u32 0), .lit (.int .u32 0), .lit (.int .u32 0), .lit (.int .u32 0), .lit (.int .u32 0), .lit (.int .u32 0), .lit (.int .u32 0), .lit (.int .u32 0)], .nil, .lit (.int .u8 0)], [], places) :=
  ⟨[], by kernel_rfl⟩

set_option maxRecDepth 100000 in
theorem lifted (os : Os) (started : os.Started) (H : Type) (enc : TypeId × Value → H) (F : Stop.Interp) :
    ReturnsInLeavingWide {} Tryd.checked os 5 .any ((OpenSpec.ofChange Rows.shortBlocksSpec).preRow enc Tryd.prog Tryd.f5 Rows.shortBlocksRow.domain false Rows.shortBlocksRow.laid) (((OpenSpec.ofChange Rows.shortBlocksSpec).at F).post enc Tryd.prog Tryd.f5 false true false false) := by
  obtain ⟨places, hx⟩ := reads os enc
  refine returnsInLeavingWide_of_row (C := Tryd.checked) (s := OpenSpec.ofChange Rows.shortBlocksSpec) (F := F) own started Tryd.func5
    (witness_row_at (enc := enc) (C := Tryd.checked) false (laidWorld os) #[.agg #[.int .u32 0, .int .u32 0, .int .u32 0, .int .u32 0, .int .u32 0, .int .u32 0, .int .u32 0, .int .u32 0], .slice none 0 0, .int .u8 0] rfl (by kernel_rfl) (by kernel_rfl) (by kernel_rfl)
      (OpenSpec.preRow_of_cond 12 hx (by kernel_rfl) (fun k hk => by cases hk) (by kernel_rfl) (laid_met os))) ?_
  intro W base args ds gs before hval hW hL
  exact contract H enc W base args ds gs before hval hW hL

theorem said : Rows.ShortBlocksSaid :=
  OpenClaim.holds_of_wide_leaving 5 Tryd.f5 rfl rfl rfl rfl rfl rfl rfl ⟨rfl, rfl, rfl, rfl, rfl⟩ rfl rfl rfl rfl rfl (by kernel_rfl) Tryd.func5 (by kernel_rfl)
    (of_decide_eq_true (by kernel_rfl)) (by unfold Func.isWrapper; first | (rw [if_pos (by decide +kernel)]; kernel_rfl) | (rw [if_neg (by decide +kernel)]; exact ⟨rfl, rfl⟩))
    (fun os started H enc _ => by rw [OpenClaim.pre_eq_preRow]; exact lifted os started H enc (fun _ _ _ => 0))

theorem plain (f : FuncId) (fn : Func) (hf : Tryd.pinned.checked.prog.funcNamed "cribble/cribblelaw07.ShortBlocks" = some f) (hfn : Tryd.pinned.checked.prog.funcs[f]? = some fn) :
    false = Tryd.pinned.checked.prog.looks [] ∧ ∀ (j : Nat) t, fn.params[j]? = some t → Tryd.pinned.checked.prog.wantsStandIn t = false := by
  obtain rfl : f = 5 := Option.some.inj ((show Tryd.prog.funcNamed "cribble/cribblelaw07.ShortBlocks" = some 5 by kernel_rfl).symm.trans hf) |>.symm
  obtain rfl : fn = Tryd.f5 := (Option.some.inj (Tryd.func5.symm.trans hfn)).symm
  refine ⟨by kernel_rfl, fun j t ht => ?_⟩
  rw [Tryd.params5] at ht
  have hm := Array.mem_of_getElem? ht
  simp at hm
  rcases hm with rfl | rfl | rfl
  all_goals first | exact (show Tryd.prog.wantsStandIn 31 = false by kernel_rfl) | exact (show Tryd.prog.wantsStandIn 22 = false by kernel_rfl) | exact (show Tryd.prog.wantsStandIn 5 = false by kernel_rfl)

theorem card : Rows.ShortBlocksCardSaid :=
  tied_goes .later _ _ _ said (by kernel_rfl) shortBlocks_row_tie rfl ⟨rfl, rfl⟩ (by kernel_rfl) rfl plain (by kernel_rfl)
end Go.Proofs.YtfnncplokombgaaDoor.shortBlocks
namespace Go.Proofs.YtfnncplokombgaaDoor
theorem shortBlocks_holds : Rows.ShortBlocksCardSaid := shortBlocks.card
#print axioms shortBlocks_holds
end Go.Proofs.YtfnncplokombgaaDoor
