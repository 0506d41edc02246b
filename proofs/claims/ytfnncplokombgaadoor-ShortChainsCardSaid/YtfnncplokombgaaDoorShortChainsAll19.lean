/- Part 19 of 20 of what the proof of this law needs. Merged by merge.py out of: CoX CoY CoZ CoAp. -/
import Derived.Test.YtfnncplokombgaaDoorShortChainsAll18
import Derived.Test.YtfnncplokombgaaDoorLeaves
import Derived.Test.YtfnncplokombgaaDoorShortRoundsLaw
import Derived.Conc.LeavingOf
import Derived.Deep.DeepHandedRow
import Derived.Laws.AppendOwn
/- What a call does in company, out of what it does alone (49): wakes, beside leavers. -/
namespace Go.Proofs.YtfnncplokombgaaDoor
open Go Go.Conc Go.RowKit

section
variable {Post : Value → World → Prop}
theorem Fr.nextN {N : Nat} {K : List (Nat × Value)} {T : Array Value} (F : Fr N K T) {w : World} {b : Frame} {ops : Array Oper} {d : Nat} {rest : List Nat} {k : List Item} {cs : List Frame} {o : Oper} {mk : Nat → Value} {c : Array Value} {t : TypeId} (hdst : o.dst = some d) (hd : d < N) (hn : (K.map Prod.fst).contains d = false)
    (cont : ∀ g T' w', Fr N ((d, mk g) :: K) T' → Kept w w' → w.heap.size ≤ g → RowC w' g c t → RunsOn Tryd.prog Post (G (b.at ⟨T', []⟩ (.inRegion ops rest :: k)) cs) w') : ∀ g w', Kept w w' → w.heap.size ≤ g → RowC w' g c t → RunsOn Tryd.prog Post (G (b.at (Act.put ⟨T, []⟩ o.dst (mk g)) (.inRegion ops rest :: k)) cs) w' := by
  intro g w' hk h1 h2
  rw [hdst]
  exact cont g _ w' (F.put _ hd hn) hk h1 h2
theorem wakes_runs {w : World} {c0 : Frame} {cs : List Frame} (G0 : Ground w) (cont : ∀ w', Kept w w' → RunsOn Tryd.prog Post (G (c0.finish (.bool true)) cs) w') : RunsOn Tryd.prog Post (G (Frame.enter Tryd.prog 7 #[] .normal) (c0 :: cs)) w := by
  have hbody : Tryd.f7.body = some b7 := by unfold b7; rfl
  rw [enter_at (P := Tryd.prog) #[] Tryd.func7 hbody]
  obtain ⟨T0, hT0⟩ : ∃ T0 : Array Value, T0 = #[] ++ Array.replicate (Tryd.f7.ntmps - (#[] : Array Value).size) undef := ⟨_, rfl⟩
  rw [← hT0]
  have F0 : Fr 22 [] T0 := ⟨by rw [hT0]; rfl, fun p hp => by cases hp⟩
  clear hT0
  have hr0 : List.range (cO p7_0).size = [0] := by kernel_rfl
  have hr1 : List.range (cO p7_1).size = [0, 1, 2] := by kernel_rfl
  have hr2 : List.range (cO p7_2).size = [0, 1, 2, 3, 4, 5, 6, 7] := by kernel_rfl
  obtain ⟨o0, a1, a2, a3, a4, _⟩ := op7_0_0
  refine run_ctl (fun w => step_code b7_is) (run_ctl (fun w => step_reg p7_0_is hr0) ?_)
  refine rl_val a1 (wanted_none a4 _) (kindB _) (run_assignV a2 rfl) (F0.next a3 (by decide) rfl ?_)
  intro T1 w1 F1 k1
  refine run_ctl (fun w => stepG_region_end) (run_ctl (fun w => stepG_seq) (run_ctl (fun w => step_reg p7_1_is hr1) ?_))
  obtain ⟨o1, b1, b2, b3, b4, _⟩ := op7_1_0
  refine rl_val b1 (wanted_none b4 _) (kindB _) (run_build123 b2) (F1.next b3 (by decide) rfl ?_)
  intro T2 w2 F2 k2
  have k2 := k1.trans k2
  obtain ⟨o2, c1, c2, c3, c4, _⟩ := op7_1_1
  refine rl_new (mk := ptrV) c1 (wanted_none c4 _) (kindB _) (run_alloc8 c2) (F2.nextN c3 (by decide) rfl ?_)
  intro g T3 w3 F3 k3 hg r3
  have q2 := k2.size
  have k3 := k2.trans k3
  have hlow : 2 < w.heap.size := (G0.tame 2 rfl).lt
  obtain ⟨o3, d1, d2, d3, d4, _⟩ := op7_1_2
  refine rl_store (n := 8) (f := fun j => (v123 j : Int)) (vals_size _ _ _) (by kernel_rfl) d2 d3 (G0.kept k3) (by omega) r3 (vrel_vals _ _ _ _) (run_store8 d2) d1 (wanted_none d4 _) (kindB _) (F3.at 0 rfl) (F3.at 1 rfl) ?_
  intro w4 u4 r4
  have k4 := u4.kept k3 (by omega)
  have q4 := k4.size
  refine run_ctl (fun w => stepG_region_end) (run_ctl (fun w => stepG_seq) (run_ctl (fun w => step_reg p7_2_is hr2) ?_))
  obtain ⟨o4, e1, e2, e3, e4, _⟩ := op7_2_0
  refine rl_new (mk := fun g => .slice (some ⟨g, 0, none⟩) 64 64) e1 (wanted_none e4 _) (kindB _) (run_mk64 e2) (F3.nextN e3 (by decide) rfl ?_)
  intro m T5 w5 F5 k5 hm r5
  have r4 := r4.kept k5
  have k5 := k4.trans k5
  obtain ⟨o5, f1, f2, f3, f4, _⟩ := op7_2_1
  refine rl_sched0 f2 (G0.kept k5) ⟨_, r5⟩ f1 (wanted_none f4 _) (kindB _) (F5.ev 0 rfl) (F5.next f3 (by decide) rfl ?_)
  intro T6 w6 F6 k6
  have r4 := r4.kept k6
  have k6 := k5.trans k6
  obtain ⟨o6, g1, g2, g3, g4, _⟩ := op7_2_2
  refine rl_val g1 (wanted_none g4 _) (kindB _) (run_moveV g2 (F6.ev 0 rfl)) (F6.next g3 (by decide) rfl ?_)
  intro T7 w7 F7 k7
  have r4 := r4.kept k7
  have k7 := k6.trans k7
  obtain ⟨o7, h1, h2, h3, h4, _⟩ := op7_2_3
  refine rl_val h1 (wanted_none h4 _) (kindB _) (run_extractA h2 (F7.ev 0 rfl) rfl) (F7.next h3 (by decide) rfl ?_)
  intro T8 w8 F8 k8
  have r4 := r4.kept k8
  have k8 := k7.trans k8
  obtain ⟨o8, i1, i2, i3, i4, _⟩ := op7_2_4
  refine rl_val i1 (wanted_none i4 _) (kindB _) (run_extractA i2 (F8.ev 1 rfl) rfl) (F8.next i3 (by decide) rfl ?_)
  intro T9 w9 F9 k9
  have r4 := r4.kept k9
  have k9 := k8.trans k9
  have q9 := k9.size
  obtain ⟨o9, j1, j2, j3, j4, _⟩ := op7_2_5
  refine rl_new (mk := ptrV) j1 (wanted_none j4 _) (kindB _) (run_alloc64 j2) (F9.nextN j3 (by decide) rfl ?_)
  intro z T10 w10 F10 k10 hz r10
  have hgl := r4.lt
  have r4 := r4.kept k10
  have k10 := k9.trans k10
  obtain ⟨o10, l1, l2, l3, l4, _⟩ := op7_2_6
  refine rl_store (n := 64) (f := fun _ => 0) (vals_size _ _ _) (by kernel_rfl) l2 l3 (G0.kept k10) (by omega) r10 (vrel_vals _ _ _ _) (run_store64 l2) l1 (wanted_none l4 _) (kindB _) (F10.at 0 rfl) (F10.at 2 rfl) ?_
  intro w11 u11 r11
  have k11 := u11.kept k10 (by omega)
  have r4 := r4.but u11 (by omega)
  obtain ⟨o11, m1, m2, m3, m4, _⟩ := op7_2_7
  refine rl_val m1 (wanted_none m4 _) (kindB _) (run_assignV m2 (F10.ev 1 rfl)) (F10.next m3 (by decide) rfl ?_)
  intro T12 w12 F12 k12
  have r4 := r4.kept k12
  have r11 := r11.kept k12
  have k12 := k11.trans k12
  refine run_ctl (fun w => stepG_region_end) (run_ctl (fun w => stepG_seq) ?_)
  refine reg7_3 (p1 := g) (p2 := z) (G0.kept k12) ⟨F12.size, fun p hp => ?_⟩ ⟨_, r4⟩ ⟨_, r11⟩ fun T13 w13 F13 k13 => ?_
  · simp only [K7_3, List.mem_cons, List.not_mem_nil, or_false] at hp
    rcases hp with rfl | rfl | rfl
    · exact F12.at 7 rfl
    · exact F12.at 1 rfl
    · exact F12.at 0 rfl
  · exact run_ctl (fun w => stepG_ret') (run_leave rfl Tryd.func7 rfl (F13.at 15 rfl) (cont w13 (k12.trans k13)))
end
end Go.Proofs.YtfnncplokombgaaDoor

/- What a call does in company, out of what it does alone (50): the law ShortBlocks, beside leavers. -/
namespace Go.Proofs.YtfnncplokombgaaDoor
open Go Go.Conc Go.RowKit

theorem Kept.at {w w1 : World} (h : Kept w w1) (d : Nat) : Kept w (w1.at d) := ⟨h.os, h.output, h.tape, h.size, h.keep⟩
theorem Fr.of {N : Nat} {T : Array Value} {K : List (Nat × Value)} (h : T.size = N) (hk : Knows K T) : Fr N K T := ⟨h, hk⟩
theorem knows_nil (T : Array Value) : Knows [] T := fun p hp => by cases hp
theorem knows_cons {T : Array Value} {d : Nat} {v : Value} {K : List (Nat × Value)} (h : T[d]? = some v) (hk : Knows K T) : Knows ((d, v) :: K) T := fun p hp => by
  rcases List.mem_cons.1 hp with rfl | hp
  · exact h
  · exact hk p hp
/-- what a law answers -/
def Held (w : World) (v : Value) (w' : World) : Prop := v = .bool true ∧ Kept w w'
section
variable {Post : Value → World → Prop}
/-- a call of wakes -/
theorem rl_wakes {b : Frame} {ops : Array Oper} {i : Nat} {rest : List Nat} {k : List Item} {cs : List Frame} {o : Oper} {T : Array Value} {w : World} {ts : Array TypeId} (hop : o.op = .call ⟨.value (.func 7), #[], ts⟩) (G0 : Ground w)
    (ho : ops[i]? = some o) (hw : Region.wanted o (yielded ops T) = true) (hk : b.kind ≠ .early)
    (cont : ∀ w', Kept w w' → RunsOn Tryd.prog Post (G (b.at (Act.put ⟨T, []⟩ o.dst (.bool true)) (.inRegion ops rest :: k)) cs) w') : RunsOn Tryd.prog Post (G (b.at ⟨T, []⟩ (.inRegion ops (i :: rest) :: k)) cs) w := by
  have hbody : Tryd.f7.body = some b7 := by unfold b7; rfl
  have hcf := fun w1 : World => run_callF (P := Tryd.prog) (a := ⟨T, []⟩) hop Tryd.func7 rfl hbody w1
  have hmap : (#[] : Array Operand).map (Act.eval ⟨T, []⟩) = #[] := by simp
  rw [hmap] at hcf
  refine run_enter ho hw hk (fun w => (hcf w).1) (fun w => (hcf w).2) ?_
  refine wakes_runs G0 fun w' hk' => ?_
  rw [Frame.finish_at, ho]
  exact cont w' hk'
end
theorem min_cut (c q : Nat) : min ((c * 64 : Nat) : Int) ((q * 64 : Nat) : Int) = (((min c q) * 64 : Nat) : Int) := by
  by_cases h : c ≤ q
  · rw [Nat.min_eq_left h]; omega
  · rw [Nat.min_eq_right (by omega)]; omega
set_option maxHeartbeats 4000000 in
theorem shortBlocks_runs {w : World} {v : Nat → Nat} {s : Option Addr} {len cap c : Nat} {f : Nat → Int} (G0 : Ground w) (hv : ∀ j, j < 8 → v j < 4294967296) (I : InS w s len cap f) (hc : c < 256) :
    RunsOn Tryd.prog (Held w) (G (Frame.enter Tryd.prog 5 #[agg8 v, .slice s len cap, .int .u8 (c : Int)] .normal) []) w := by
  have hbody : Tryd.f5.body = some b5 := by unfold b5; rfl
  rw [enter_at (P := Tryd.prog) #[agg8 v, .slice s len cap, .int .u8 (c : Int)] Tryd.func5 hbody]
  obtain ⟨T0, hT0⟩ : ∃ T0 : Array Value, T0 = #[agg8 v, .slice s len cap, .int .u8 (c : Int)] ++ Array.replicate (Tryd.f5.ntmps - (#[agg8 v, .slice s len cap, .int .u8 (c : Int)] : Array Value).size) undef := ⟨_, rfl⟩
  rw [← hT0]
  have F0 : Fr 55 [(0, agg8 v), (1, .slice s len cap), (2, .int .u8 (c : Int))] T0 := by
    refine ⟨by rw [hT0]; simp, knows_cons ?_ (knows_cons ?_ (knows_cons ?_ (knows_nil _)))⟩
    · rw [hT0, Array.getElem?_append_left (by simp)]; simp
    · rw [hT0, Array.getElem?_append_left (by simp)]; simp
    · rw [hT0, Array.getElem?_append_left (by simp)]; simp
  clear hT0
  have hr0 : List.range (cO p5_0).size = [0, 1] := by kernel_rfl
  have hr1 : List.range (cO p5_1).size = [0, 1] := by kernel_rfl
  have hr4 : List.range (cO p5_4).size = [0] := by kernel_rfl
  have hr5 : List.range (cO p5_5).size = [0, 1, 2, 3, 4] := by kernel_rfl
  have hlow : 2 < w.heap.size := (G0.tame 2 rfl).lt
  obtain ⟨o0, a1, a2, a3, a4, _⟩ := op5_0_0
  refine run_ctl (fun w => step_code b5_is) (run_ctl (fun w => step_reg p5_0_is hr0) ?_)
  refine rl_new (mk := ptrV) a1 (wanted_none a4 _) (kindB _) (run_box8 a2 (F0.ev 0 rfl)) (F0.nextN a3 (by decide) rfl ?_)
  intro g T1 w1 F1 k1 hg r1
  obtain ⟨o1, b1, b2, b3, b4, _⟩ := op5_0_1
  refine rl_val b1 (wanted_none b4 _) (kindB _) (run_assignV b2 rfl) (F1.next b3 (by decide) rfl ?_)
  intro T2 w2 F2 k2
  have r2 := r1.kept k2
  have k2 := k1.trans k2
  refine run_ctl (fun w => stepG_region_end) (run_ctl (fun w => stepG_seq) (run_ctl (fun w => stepG_seq) (run_ctl (fun w => step_reg p5_1_is hr1) ?_)))
  obtain ⟨o2, c1, c2, c3, c4, _⟩ := op5_1_0
  refine rl_wakes c2 (G0.kept k2) c1 (wanted_none c4 _) (kindB _) (F2.next c3 (by decide) rfl ?_)
  intro T3 w3 F3 k3
  have r3 := r2.kept k3
  have k3 := k2.trans k3
  obtain ⟨o3, d1, d2, d3, d4, _⟩ := op5_1_1
  refine rl_val d1 (wanted_none d4 _) (kindB _) (run_unot d2 (F3.ev 0 rfl)) (F3.next d3 (by decide) rfl ?_)
  intro T4 w4 F4 k4
  have r4 := r3.kept k4
  have k4 := k3.trans k4
  refine run_ctl (fun w => stepG_region_end) (run_ctl (fun w => stepG_cond (F4.ev (v := .bool false) 0 rfl)) ?_)
  rw [if_neg (by decide)]
  refine run_ctl (fun w => stepG_skip) (run_ctl (fun w => stepG_seq) (run_ctl (fun w => stepG_seq) ?_))
  refine reg5_3 (g := g) (c := c) (s := s) (len := len) (cap := cap) (G0.kept k4) ⟨F4.size, knows_cons (F4.at 5 rfl) (knows_cons (F4.at 6 rfl) (knows_cons (F4.at 3 rfl) (knows_nil _)))⟩ fun T5 w5 F5 k5 => ?_
  have r5 := r4.kept k5
  have k5 := k4.trans k5
  refine run_ctl (fun w => stepG_cond (F5.ev 5 rfl)) ?_
  by_cases h400 : 400 < len
  · rw [if_pos (decide_eq_true (by omega))]
    obtain ⟨o4, e1, e2, e3, e4, _⟩ := op5_4_0
    refine run_ctl (fun w => stepG_seq) (run_ctl (fun w => step_reg p5_4_is hr4) ?_)
    refine rl_val e1 (wanted_none e4 _) (kindB _) (run_assignV e2 rfl) (F5.next e3 (by decide) rfl ?_)
    intro T6 w6 F6 k6
    have k6 := k5.trans k6
    exact run_ctl (fun w => stepG_region_end) (run_ctl (fun w => stepG_ret') (run_end rfl Tryd.func5 rfl (F6.at 0 rfl) (by kernel_rfl) fun d => ⟨rfl, k6.at d⟩))
  · rw [if_neg (by simp; omega)]
    refine run_ctl (fun w => stepG_skip) (run_ctl (fun w => stepG_seq) (run_ctl (fun w => step_reg p5_5_is hr5) ?_))
    have hlen : len ≤ 1000000 := by omega
    obtain ⟨X, hX⟩ : ∃ X, blocks32 v f (len / 64) = X := ⟨_, rfl⟩
    obtain ⟨q, hq⟩ : ∃ q, q = len / 64 := ⟨_, rfl⟩
    obtain ⟨n, hn⟩ : ∃ n, n = min c q * 64 := ⟨_, rfl⟩
    have hmin : min c q ≤ q := Nat.min_le_right _ _
    obtain ⟨o5, e1, e2, e3, e4, _⟩ := op5_5_0
    refine rl_load8 e2 (G0.kept k5) ⟨_, r5⟩ e1 (wanted_none e4 _) (kindB _) (F5.at 2 rfl) (F5.next e3 (by decide) rfl ?_)
    intro T6 w6 F6 k6
    have r6 := r5.kept k6
    have k6 := k5.trans k6
    obtain ⟨o6, f1, f2, f3, f4, _⟩ := op5_5_1
    refine rl_val f1 (wanted_none f4 _) (kindB _) (run_moveV f2 (F6.ev 1 rfl)) (F6.next f3 (by decide) rfl ?_)
    intro T7 w7 F7 k7
    have r7 := r6.kept k7
    have k7 := k6.trans k7
    obtain ⟨o7, g1, g2, g3, g4, _⟩ := op5_5_2
    refine rl_blocksB g2 hv hX (G0.kept k7) (I.kept k7) g1 (wanted_none g4 _) (kindB _) (F7.ev 1 rfl) (F7.ev 0 rfl) (F7.next g3 (by decide) rfl ?_)
    intro T8 w8 F8 k8
    have r8 := r7.kept k8
    have k8 := k7.trans k8
    have q8 := k8.size
    obtain ⟨o8, h1, h2, h3, h4, _⟩ := op5_5_3
    refine rl_new (mk := ptrV) h1 (wanted_none h4 _) (kindB _) (run_alloc8 h2) (F8.nextN h3 (by decide) rfl ?_)
    intro h T9 w9 F9 k9 hh r9
    have hgl := r8.lt
    have r8 := r8.kept k9
    have k9 := k8.trans k9
    obtain ⟨o9, i1, i2, i3, i4, _⟩ := op5_5_4
    refine rl_store (n := 8) (f := fun j => (X j : Int)) (vals_size _ _ _) (by kernel_rfl) i2 i3 (G0.kept k9) (by omega) r9 (vrel_vals _ _ _ _) (run_store8 i2) i1 (wanted_none i4 _) (kindB _) (F9.at 0 rfl) (F9.at 1 rfl) ?_
    intro w10 u10 r10
    have k10 := u10.kept k9 (by omega)
    have r11 := r8.but u10 (by omega)
    refine run_ctl (fun w => stepG_region_end) (run_ctl (fun w => stepG_seq) ?_)
    refine reg5_6 (g := g) (h := h) (s := s) (len := len) (cap := cap) (c := c) (q := q) (n := n) (G0.kept k10) ⟨F9.size, knows_cons (F9.at 4 rfl) (knows_cons (F9.at 5 rfl) (knows_cons (F9.at 6 rfl) (knows_cons (F9.at 0 rfl) (knows_nil _))))⟩
      (by rw [IntKind.wrap_i64]; omega) (by rw [IntKind.wrap_i64]; omega) (by rw [Int.tdiv_eq_ediv_of_nonneg (by omega), IntKind.wrap_i64]; omega) (by rw [IntKind.wrap_i64]; omega) (by rw [min_cut, hn]) fun T12 w12 F12 k12 => ?_
    have r12 := r10.kept k12
    have r13 := r11.kept k12
    have k12 := k10.trans k12
    refine run_ctl (fun w => stepG_seq) ?_
    refine reg5_7 (g := g) (h := h) (s := s) (len := len) (cap := cap) (n := n) (m := q * 64) (q := q) (v := v) (X := X) (Y := blocks32 v f (n / 64)) (G0.kept k12) ⟨F12.size, knows_cons (F12.at 0 rfl) (knows_cons (F12.at 2 rfl) (knows_cons (F12.at 3 rfl) (knows_cons (F12.at 12 rfl) (knows_nil _))))⟩
      ⟨_, r13⟩ ⟨_, r12⟩ (I.kept k12) hlen (by omega) (by omega) hv (blocks32_lt v f hv _) hX rfl ?_ (by rw [Nat.mul_div_cancel q (by omega), hq]; exact hX) (by rw [Int.tdiv_eq_ediv_of_nonneg (by omega), IntKind.wrap_i64]; omega) (by rw [IntKind.wrap_i64]; omega) fun T14 w14 F14 k14 => ?_
    · rw [← hX, hn, Nat.mul_div_cancel _ (by omega : 0 < 64), ← blocks32_add, show min c q + (len - min c q * 64) / 64 = len / 64 by omega]
    · have k14 := k12.trans k14
      exact run_ctl (fun w => stepG_ret') (run_end rfl Tryd.func5 rfl (F14.at 34 rfl) (by kernel_rfl) fun d => ⟨rfl, k14.at d⟩)
end Go.Proofs.YtfnncplokombgaaDoor

/- What a call does in company, out of what it does alone (51): from a run of goroutine 0 beside leavers to a row. -/
namespace Go.Proofs.YtfnncplokombgaaDoor
open Go Go.Conc Go.RowKit

theorem runs_good {P : Program} {Post : Value → World → Prop} {fr : Frame} {W : World} (h : RunsOn P Post (G fr []) W) :
    ∃ N last o w' t', runNT P (N + 1) (solo (G fr []) W) #[] = (.ended o w', t') ∧ runN P N (solo (G fr []) W) = .next last ∧ step P last = .ended o w' ∧ Conc.Good P Post last o w' t' :=
  h #[G fr []] none #[] (fun _ => 0) W.drawn rfl (leavers_one _ _) (past_nil.mono (Nat.zero_le _))
theorem returnsInLeavingWide_of_row {H : Type} {enc : TypeId × Value → H} {a : Assume} {C : Checked} {os : Os} {f : FuncId} {fn : Func} {s : OpenSpec} {F : Stop.Interp} {conds : List PathCond} {apart fresh handsOn again : Bool} {laid : List (String × DataW Unit)}
    (own : ownKnob C.prog.godebug = none) (started : os.Started) (hfn : C.prog.funcs[f]? = some fn)
    (witness : ∃ (w : World) (tape : Tape) (i : Input), w.os = os ∧ (w.forCall tape i).Shaped C.prog ∧ i.vars = [] ∧ Input.okWide C.prog (w.forCall tape i) .any w.heap.size f i ∧
      s.preRow enc C.prog fn conds apart laid (w.forCall tape i).memory i.args ∧ a.holds C.prog (lone (Frame.enter C.prog f i.args .normal) [] (w.forCall tape i)))
    (runs : ∀ (W : World) (base : Nat) (args : Array Value) (ds gs : List (DataW H)) (before : List MemPlace),
      (∀ (j : Nat) t v, fn.params[j]? = some t → args[j]? = some v → Value.okWide C.prog W .any base t v) →
      DataW.Whole enc C.prog fn.params.toList s.vars apart W args.toList ds gs before → laidMetH C.prog laid W →
      RunsOn C.prog (fun v W' => (s.at F).post enc C.prog fn apart fresh handsOn again W args v W') (G (Frame.enter C.prog f args .normal) []) W) :
    ReturnsInLeavingWide a C os f .any (s.preRow enc C.prog fn conds apart laid) ((s.at F).post enc C.prog fn apart fresh handsOn again) := by
  refine returnsInLeavingWide_of_good own started witness ?_
  intro w tape i _ _ _ hok hpre _
  obtain ⟨_, _, _, fn', hfn', _, _, _, _, hval⟩ := hok
  have e : fn' = fn := Option.some.inj (hfn'.symm.trans hfn)
  subst e
  obtain ⟨⟨hp, hl⟩, _⟩ := hpre
  obtain ⟨ds, gs, before, hw, _, _⟩ := OpenSpec.pre_parts hp
  have hw' := DataW.Whole.of_heap (w' := w.forCall tape i) (by rfl) hw
  obtain ⟨M, last, o, w', t', h1, h2, h3, h4⟩ := runs_good (runs (w.forCall tape i) w.heap.size i.args ds gs before hval hw' (hl.of_heap (by rfl)))
  exact ⟨M, last, o, w', t', h1, h2, h3, h4.mono fun v hp => ChangeSpec.post_blind hp⟩
theorem RunsOn.mono {P : Program} {Post Post' : Value → World → Prop} {g : Goroutine} {w : World} (h : RunsOn P Post g w) (hp : ∀ v w', Post v w' → Post' v w') : RunsOn P Post' g w := by
  intro gs sl t q d h0 hL hP
  obtain ⟨N, last, o, w', t', h1, h2, h3, h4⟩ := h gs sl t q d h0 hL hP
  exact ⟨N, last, o, w', t', h1, h2, h3, h4.mono fun v x => hp v _ x⟩
theorem Kept.below {w w1 : World} (h : Kept w w1) : Below w.heap.size w w1 := ⟨h.os, h.tape, h.output, h.size, h.keep⟩
theorem tame_of {w : World} {a : Addr} {v : Value} (h : w.cell? a = some v) : Tame w a.block := by
  obtain ⟨c, e, fr, h1, _⟩ := cell_parts h
  exact ⟨c, e, fr, h1⟩
theorem ground_of {w : World} (h : TabsW w) : Ground w := by
  refine ⟨h.1, h.2, fun g hg => ?_⟩
  have t0 := tame_of (h.1.1 0 (by decide))
  have t1 := tame_of (h.1.2 0 (by decide))
  have t2 := tame_of (h.2 0 (by decide))
  dsimp only at t0 t1 t2
  rcases nice_of hg with rfl | rfl | rfl <;> assumption
theorem base_of {W : World} {b : Nat} {t e : TypeId} {a : Option Addr} {len cap : Nat} (hu : Tryd.prog.underlying t = some (.slice e)) (h : Value.okWide Tryd.prog W .any b t (.slice a len cap)) : a = none ∨ ∃ ib off, a = some ⟨ib, off, none⟩ ∧ Tame W ib := by
  cases a with
  | none => exact .inl rfl
  | some a =>
    simp only [Value.okWide, hu, Cell.okWide, Cell.ok] at h
    obtain ⟨_, _, _, hs, row, cells, hsh, _⟩ := h
    obtain ⟨ib, off, sp⟩ := a
    dsimp only at hs hsh
    subst hs
    refine .inr ⟨ib, off, rfl, ?_⟩
    unfold World.shape? at hsh
    split at hsh
    · rename_i c e fr hh
      exact ⟨c, e, fr, hh⟩
    · cases hsh
/-- ████ the law ShortBlocks, as its row asks for it ████ -/
theorem shortBlocks_row {W : World} {f0 : Nat → Int} {a : Option Addr} {len cap : Nat} {f : Nat → Int} {c : Int} (hf0 : ∀ j, j < 8 → 0 ≤ f0 j ∧ f0 j < 4294967296) (hr : reads W a len .u8 f) (hf : ∀ j, j < len → 0 ≤ f j ∧ f j < 256) (hcap : len ≤ cap) (hb : a = none ∨ ∃ ib off, a = some ⟨ib, off, none⟩ ∧ Tame W ib) (hc : 0 ≤ c ∧ c < 256) (hT : TabsW W) :
    RunsOn Tryd.prog (Held W) (G (Frame.enter Tryd.prog 5 #[.agg (vals .u32 8 f0), .slice a len cap, .int .u8 c] .normal) []) W := by
  obtain ⟨v, e, hv⟩ := nat_vals8 f0 hf0
  rw [e]
  obtain ⟨n, rfl, hn⟩ : ∃ n : Nat, c = n ∧ n < 256 := ⟨c.toNat, by omega, by omega⟩
  exact shortBlocks_runs (ground_of hT) hv ⟨hcap, hb, hr, hf⟩ hn
end Go.Proofs.YtfnncplokombgaaDoor

/- What a call does in company, out of what it does alone (52): an operation that draws; append to a slice of the call's own. -/
namespace Go.Proofs.YtfnncplokombgaaDoor
open Go Go.Conc Go.RowKit

section
variable {P : Program} {m : Bool} {S : BSet} {X : BSet → Goroutine → World → Prop}
/-- ONE OPERATION that yields a value and may ask the tape -/
theorem op_draws (OK : ProgOk P) (hX : Closed P m S X) (L Ls : List Nat) (keep : Nat → Prop) {w : World} {O : BSet} (M : Meet S O L Ls w) {b : Frame} {T' : Array Value} (hT : ∀ i v, keep i → T'[i]? = some v → VRel (idL L) v v) {ops : Array Oper} {i : Nat} {rest : List Nat} {k : List Item} {ds : List Deferred} {cs : List Frame} {o : Oper}
    (ho : ops[i]? = some o) (hw : Region.wanted o (yielded ops T') = true) (hk : b.kind ≠ .early) (hok : okOp o.op = true) (R : Value → Array Obj → Prop)
    (hE : ∀ (T : Array Value) (W : World), T.size = T'.size → (∀ i, keep i → T[i]? = T'[i]?) → W.heap = (ice L Ls w).heap → ∃ v W', (execOp (Act.eval ⟨T, ds⟩) o).run P W = .ok (.value v) W' ∧ R v W'.heap)
    (cont : ∀ (σ : BRel) (O1 : BSet) (v v' : Value) (WE wE : World), Path (idL L) σ O S O1 (ice L Ls w) WE w wE → VRel σ v v' → HRel σ WE wE → Img σ O1 S WE → R v WE.heap → X O1 (G (b.at (Act.put ⟨T', ds⟩ o.dst v') (.inRegion ops rest :: k)) cs) wE) :
    X O (G (b.at ⟨T', ds⟩ (.inRegion ops (i :: rest) :: k)) cs) w := by
  obtain ⟨T, hT1, hT2⟩ := dull_row (idL L) T' keep hT
  have H := M.rel
  have I := M.img
  refine hX O _ w rfl fun w1 Ry => ?_
  have H1 := H.rely I Ry
  let tp : Tape := fun j q => w1.tape (w1.drawn + (j - (ice L Ls w).drawn)) q
  obtain ⟨v, W', e1, e3⟩ := hE T { ice L Ls w with tape := tp } hT1.1 hT2 rfl
  have hlike : Like { ice L Ls w with tape := tp } W' w1 := fun i q _ => by
    show w1.tape (w1.drawn + ((ice L Ls w).drawn + i - (ice L Ls w).drawn)) q = _
    rw [Nat.add_sub_cancel_left]
  obtain ⟨σ, n', w2, es, h1, h2, h3, h4, h5, h6⟩ := (sim_op OK H.fine (o := o) hok (fun x hx => eval_rel H.fine hT1 (ds := ds) (ds' := ds) x hx)).runs (es := #[]) (es' := #[]) (H1.lone tp) hlike (by rw [Sem.runT_eq, e1])
  rw [Array.empty_append] at h4
  have h2' : ∃ v', n' = .value v' ∧ VRel σ v v' := by
    cases h2
    exact ⟨_, rfl, by assumption⟩
  obtain ⟨v', rfl, hv⟩ := h2'
  have I2 : Img σ (grown O w1 w2) S W' := by
    intro x y hxy
    rcases h5.fresh x y hxy with hab1 | ⟨_, hb⟩
    · have hst := (h5.stiff x (H1.lt hab1).1)
      have := I x y hab1
      exact ⟨fun hn => .inl (this.1 fun z => hn (hst.2 z)), fun hy => (this.2 (hst.1 hy)).imp .inl id⟩
    · have : grown O w1 w2 y := .inr ⟨hb, (h3.lt hxy).2⟩
      exact ⟨fun _ => this, fun _ => .inl this⟩
  refine ⟨_, _, _, stepG_value2 ho hw hk h4, turn_guar (W := { ice L Ls w with tape := tp }) I h5 fun e he => good_fit (H1.lone tp) h3 I h5 (h6 e (mem_seen he)), ?_⟩
  exact cont σ _ v v' W' w2 (Path.step (T := tp) H1 h1 Ry h5 (Path.refl σ _ S _ _)) hv h3 I2 e3
end
/-- a slice of n bytes f whose row the call itself has made -/
def OwnC (w : World) (B : Nat) (v : Value) (n : Nat) (f : Nat → Int) : Prop :=
  ∃ g cap cur, v = .slice (some ⟨g, 0, none⟩) n cap ∧ B ≤ g ∧ RowC w g cur 5 ∧ n ≤ cap ∧ cap ≤ maxLen ∧ cur.size = cap ∧ ∀ i, i < n → cur[i]? = some (.int .u8 (f i))
theorem OwnC.kept {w w1 : World} {B : Nat} {v : Value} {n : Nat} {f : Nat → Int} (h : OwnC w B v n f) (k : Kept w w1) : OwnC w1 B v n f := by
  obtain ⟨g, cap, cur, h1, h2, h3, h4⟩ := h
  exact ⟨g, cap, cur, h1, h2, h3.kept k, h4⟩
theorem OwnC.start {w : World} {B g : Nat} (f : Nat → Int) (hg : B ≤ g) (h : RowC w g #[] 5) : OwnC w B (.slice (some ⟨g, 0, none⟩) 0 0) 0 f := ⟨g, 0, #[], rfl, hg, h, Nat.le_refl _, Nat.zero_le _, rfl, fun i hi => absurd hi (by omega)⟩
theorem OwnC.inS {w : World} {B : Nat} {v : Value} {n : Nat} {f : Nat → Int} (h : OwnC w B v n f) (hf : ∀ i, i < n → 0 ≤ f i ∧ f i < 256) : ∃ g cap, v = .slice (some ⟨g, 0, none⟩) n cap ∧ InS w (some ⟨g, 0, none⟩) n cap f := by
  obtain ⟨g, cap, cur, h1, h2, h3, h4, h5, h6, h7⟩ := h
  refine ⟨g, cap, h1, h4, .inr ⟨g, 0, rfl, h3.tame⟩, fun _ => ⟨g, 0, rfl, fun j hj => ?_⟩, hf⟩
  obtain ⟨fr, hh⟩ := h3.1
  unfold World.cell?
  dsimp only
  rw [hh, Nat.zero_add]
  simp [h7 j hj]
section
variable {Post : Value → World → Prop}
theorem rl_append {b : Frame} {ops : Array Oper} {i B n m c p q gx : Nat} {rest : List Nat} {k : List Item} {cs : List Frame} {o : Oper} {T : Array Value} {w : World} {v : Value} {f h : Nat → Int} (hop : o.op = .call ⟨.builtin .append, #[.tmp p, .tmp q], #[22, 22]⟩) (G0 : Ground w) (hlow : 2 < B) (hB : B ≤ w.heap.size) (hv : OwnC w B v n f) (hgx : ∃ t, RowC w gx (vals .u8 m h) t) (hgB : gx < B) (hm : 0 < m) (hnm : n + m ≤ 1000000)
    (ho : ops[i]? = some o) (hw : Region.wanted o (yielded ops T) = true) (hk : b.kind ≠ .early) (hx : T[p]? = some v) (hy : T[q]? = some (.slice (some ⟨gx, 0, none⟩) m c))
    (cont : ∀ v' w', (∀ w0, Kept w0 w → w0.heap.size ≤ B → Kept w0 w') → (∀ b c t, t ≠ 5 → RowC w b c t → RowC w' b c t) → OwnC w' B v' (n + m) (fun j => if j < n then f j else h (j - n)) → RunsOn Tryd.prog Post (G (b.at (Act.put ⟨T, []⟩ o.dst v') (.inRegion ops rest :: k)) cs) w') : RunsOn Tryd.prog Post (G (b.at ⟨T, []⟩ (.inRegion ops (i :: rest) :: k)) cs) w := by
  obtain ⟨g, cap, cur, rfl, hg1, hg2, hg3, hg4, hg5, hg6⟩ := hv
  obtain ⟨tx, hgx⟩ := hgx
  have hXc := RunsOn.closed (P := Tryd.prog) (Post := Post) botB
  have M : Meet botB topB [0, 1, 2, g, gx] [0, 1, 2, gx] w := by
    refine ⟨fun g hg => by have := nice_of hg; simp; omega, fun b hb => ?_, fun _ _ => .inl trivial, fun b hb hn off => ?_⟩
    · simp at hb
      rcases hb with rfl | rfl | rfl | rfl | rfl
      · exact G0.tame 0 rfl
      · exact G0.tame 1 rfl
      · exact G0.tame 2 rfl
      · exact hg2.tame
      · exact hgx.tame
    · simp at hb hn
      have : b = g := by omega
      subst this
      exact hg2.2 off
  refine op_draws (X := fun _ g w => RunsOn Tryd.prog Post g w) (O := topB) progOk hXc [0, 1, 2, g, gx] [0, 1, 2, gx] (fun j => j = p ∨ j = q) M ?_ ho hw hk (by rw [hop]; simp [okOp, okB, okO, sliceT])
    (fun v' H => ∃ g' cap' cur', v' = .slice (some ⟨g', 0, none⟩) (n + m) cap' ∧ B ≤ g' ∧ H[g']? = some (.cells cur' 5 (0, 0)) ∧ n + m ≤ cap' ∧ cap' ≤ maxLen ∧ cur'.size = cap' ∧ ∀ i, i < n + m → cur'[i]? = some (.int .u8 (if i < n then f i else h (i - n)))) (fun TL W hT hkp hW => ?_) ?_
  · rintro j v (rfl | rfl) hv
    · rw [hx] at hv; rw [← Option.some.inj hv]; exact vrel_slice (by simp) _ _
    · rw [hy] at hv; rw [← Option.some.inj hv]; exact vrel_slice (by simp) _ _
  · have ex : Act.eval ⟨TL, []⟩ (.tmp p) = .slice (some ⟨g, 0, none⟩) n cap := eval_tmp ((hkp p (.inl rfl)).trans hx)
    have ey : Act.eval ⟨TL, []⟩ (.tmp q) = .slice (some ⟨gx, 0, none⟩) m c := eval_tmp ((hkp q (.inr rfl)).trans hy)
    obtain ⟨fr, h1⟩ := hg2.1
    obtain ⟨fr1, e1, e2, _⟩ := ice_cells [0, 1, 2, g, gx] [0, 1, 2, gx] (by simp) h1
    rw [e2 (by simp; omega), ← hW] at e1
    obtain ⟨fr3, h3⟩ := hgx.1
    obtain ⟨fr4, e4, _⟩ := ice_cells [0, 1, 2, g, gx] [0, 1, 2, gx] (by simp) h3
    rw [meek_all (vrel_vals _ _ _ _), ← hW] at e4
    obtain ⟨iw, hi, hz, hs1, hs2⟩ := info_parts (P := Tryd.prog) (e := 5) (z := .int .u8 0) (size := 1) (bytes := 1) (by kernel_rfl)
    have hown : W.ownsRow B 5 1 (.slice (some ⟨g, 0, none⟩) n cap) n (vals .u8 n f).toList := by
      refine ⟨by simp [vals_size], .inr ⟨g, cap, _, rfl, hg1, e1, hg3, hg4, by rw [(meek_rel _ cur).1, hg5, Nat.mul_one], ?_⟩⟩
      apply List.ext_getElem?
      intro j
      rw [Nat.mul_one, List.getElem?_take]
      by_cases hj : j < n
      · rw [if_pos hj, Array.getElem?_toList, Array.getElem?_toList, meek_get (hg6 j hj) (.int _ _), vals_get? _ _ _ _ hj]
      · rw [if_neg hj, Array.getElem?_toList, Array.getElem?_eq_none (by rw [vals_size]; omega)]
    have hrd : reads W (some ⟨gx, 0, none⟩) m .u8 h := fun _ => ⟨gx, 0, rfl, fun j hj => by
      unfold World.cell?
      dsimp only
      rw [e4, Nat.zero_add]
      simp [vals_get? _ _ _ _ hj]⟩
    obtain ⟨v', w', hr, h5, _⟩ := run_append_own (P := Tryd.prog) W B 22 o.type 5 iw (.int .u8 0) 1 1 Tryd.underlying22 hi hz hs1 hs2 rfl (by decide) _ n (vals .u8 n f).toList hown ⟨gx, 0, none⟩ m c (vals .u8 m h).toList (by simp [vals_size]) (reads_news hrd) vals_one (by simp only [maxLen]; omega) (by omega) (by rw [hW, ice_size]; exact hB)
    refine ⟨v', w', ?_, ?_⟩
    · unfold execOp
      simp only [hop, resolve, invoke, builtin, Sem.run_bind, Sem.run_pure, Result.andThen_ok, List.map_toArray, List.map_cons, List.map_nil, ex, ey, hr]
    · rcases h5.2 with ⟨_, h0⟩ | ⟨g', cap', cur', h6, h7, h8, h9, h10, h11, h12⟩
      · omega
      · refine ⟨g', cap', cur', h6, h7, h8, h9, h10, by rw [h11, Nat.mul_one], fun j hj => ?_⟩
        have h13 : (cur'.toList.take ((n + m) * 1))[j]? = ((vals .u8 n f).toList ++ (vals .u8 m h).toList)[j]? := by rw [h12]
        rw [Nat.mul_one, List.getElem?_take, if_pos hj, Array.getElem?_toList] at h13
        rw [h13]
        by_cases hjn : j < n
        · rw [List.getElem?_append_left (by simpa [vals_size] using hjn), Array.getElem?_toList, vals_get? _ _ _ _ hjn, if_pos hjn]
        · rw [List.getElem?_append_right (by simp [vals_size]; omega), if_neg hjn]
          simp only [Array.length_toList, vals_size, Array.getElem?_toList]
          rw [vals_get? _ _ _ _ (by omega)]
  · rintro σ O1 v' v'' WE wE pth hv hH _ ⟨g', cap', cur', rfl, h7, h8, h9, h10, h11, h12⟩
    have hbut : ButG g w wE := ⟨pth.os, pth.output, pth.tape, pth.size, fun b hb hne => by
      by_cases hL : b ∈ [0, 1, 2, g, gx]
      · exact path_stiff M pth hL (by simp at hL ⊢; omega)
      · exact path_out pth hL hb (.inl trivial)⟩
    refine cont v'' wE (fun w0 k hl => hbut.kept k (by omega)) (fun b c t ht hr => hr.but hbut (fun e => ?_)) ?_
    · subst e
      obtain ⟨fr, h1⟩ := hr.1
      obtain ⟨fr2, h2⟩ := hg2.1
      rw [h1] at h2
      cases h2
      exact ht rfl
    · cases hv with
      | slice ha l c =>
        cases ha with
        | @mk _ g'' hb _ _ =>
        obtain ⟨o1, o2, q1, q2, q3⟩ := hH.objs g' g'' hb
        rw [h8] at q1
        cases q1
        cases q3 with
        | @cells _ c2 hrow e fr fr' =>
          refine ⟨g'', cap', c2, rfl, ?_, ⟨⟨_, q2⟩, fun off => hH.thaw g' g'' off hb (by unfold World.frozen?; rw [h8]; simp)⟩, h9, h10, by rw [← hrow.1]; exact h11, fun j hj => ?_⟩
          · rcases pth.fresh _ _ hb with ⟨e, _⟩ | ⟨_, hm⟩
            · omega
            · omega
          · obtain ⟨u, hu1, hu2⟩ := hrow.get (h12 j hj)
            rw [hu1]
            cases hu2
            rfl
end
theorem run_bs0 {a : Act} {o : Oper} (hop : o.op = .buildSlice 22 0 #[]) (w : World) : (execOp a.eval o).run Tryd.prog w = .ok (.value (.slice (some ⟨w.heap.size, 0, none⟩) 0 0)) (w.alloc (.cells #[] 5)) ∧ (execOp a.eval o).events Tryd.prog w #[] = #[] := by
  unfold execOp
  simp only [hop]
  constructor
  · simp [go_sem]
  · simp [go_sem]
theorem run_box64 {a : Act} {o : Oper} {x : Operand} {f : Nat → Int} (hop : o.op = .box 36 x) (hx : a.eval x = .agg (vals .u8 64 f)) (w : World) : (execOp a.eval o).run Tryd.prog w = .ok (.value (.pointer (some ⟨w.heap.size, 0, none⟩))) (w.alloc (.cells (vals .u8 64 f) 36)) ∧ (execOp a.eval o).events Tryd.prog w #[] = #[] := by
  unfold execOp
  simp only [hop, hx]
  constructor
  · simp [go_sem]
  · simp [go_sem]
end Go.Proofs.YtfnncplokombgaaDoor
