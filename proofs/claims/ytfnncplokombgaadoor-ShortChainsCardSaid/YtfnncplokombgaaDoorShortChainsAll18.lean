/- Part 18 of 20 of what the proof of this law needs. Merged by merge.py out of: CoW LawRegs. -/
import Derived.Test.YtfnncplokombgaaDoorShortChainsAll17
/- What a call does in company, out of what it does alone (48): more rules. -/
namespace Go.Proofs.YtfnncplokombgaaDoor
open Go Go.Conc Go.RowKit

section
variable {P : Program} {a : Act} {o : Oper} {x y : Operand}
theorem run_moveV {v : Value} (hop : o.op = .move x) (hx : a.eval x = v) (w : World) : (execOp a.eval o).run P w = .ok (.value v) w ∧ (execOp a.eval o).events P w #[] = #[] := by rw [← hx]; exact run_move hop w
theorem run_assignV {v : Value} (hop : o.op = .assign x) (hx : a.eval x = v) (w : World) : (execOp a.eval o).run P w = .ok (.value v) w ∧ (execOp a.eval o).events P w #[] = #[] := by rw [← hx]; exact run_assign hop w
theorem run_eqT {T : TypeId} {n : Nat} {f : Nat → Int} (hu : Tryd.prog.underlying T = some (.array n 24)) (hm : Tryd.prog.eqGuardType Tryd.prog.depth T = false) (hop : o.op = .binOp .eql T x y T) (hx : a.eval x = .agg (vals .u32 n f)) (hy : a.eval y = .agg (vals .u32 n f)) (w : World) : (execOp a.eval o).run Tryd.prog w = .ok (.value (.bool true)) w ∧ (execOp a.eval o).events Tryd.prog w #[] = #[] := by
  have h := run_eqA hu hop hm hx hy w
  rw [allEq_true fun _ _ => rfl] at h
  exact h
theorem run_eqT8 {f : Nat → Int} (hop : o.op = .binOp .eql 31 x y 31) (hx : a.eval x = .agg (vals .u32 8 f)) (hy : a.eval y = .agg (vals .u32 8 f)) (w : World) : (execOp a.eval o).run Tryd.prog w = .ok (.value (.bool true)) w ∧ (execOp a.eval o).events Tryd.prog w #[] = #[] := run_eqT Tryd.underlying31 (by kernel_rfl) hop hx hy w
theorem run_eqT64 {f : Nat → Int} (hop : o.op = .binOp .eql 25 x y 25) (hx : a.eval x = .agg (vals .u32 64 f)) (hy : a.eval y = .agg (vals .u32 64 f)) (w : World) : (execOp a.eval o).run Tryd.prog w = .ok (.value (.bool true)) w ∧ (execOp a.eval o).events Tryd.prog w #[] = #[] := run_eqT Tryd.underlying25 (by kernel_rfl) hop hx hy w
theorem run_pickT {u : Value} {z : Operand} (hop : o.op = .pick x y z) (hx : a.eval x = .bool true) (hy : a.eval y = u) (w : World) : (execOp a.eval o).run P w = .ok (.value u) w ∧ (execOp a.eval o).events P w #[] = #[] := run_pick hop hx hy rfl w
end
/-- the laws' value of eight words -/
def agg8 (v : Nat → Nat) : Value := .agg (vals .u32 8 (fun j => (v j : Int)))
def zero64v : Value := .agg (vals .u32 64 (fun _ => 0))
section
variable {Post : Value → World → Prop}
theorem rl_load8 {b : Frame} {ops : Array Oper} {i g p : Nat} {rest : List Nat} {k : List Item} {cs : List Frame} {o : Oper} {T : Array Value} {w : World} {v : Nat → Nat} (hop : o.op = .load 31 (.tmp p)) (G0 : Ground w) (hg : ∃ t, RowC w g (vals .u32 8 (fun j => (v j : Int))) t)
    (ho : ops[i]? = some o) (hw : Region.wanted o (yielded ops T) = true) (hk : b.kind ≠ .early) (hx : T[p]? = some (.pointer (some ⟨g, 0, none⟩)))
    (cont : ∀ w', Kept w w' → RunsOn Tryd.prog Post (G (b.at (Act.put ⟨T, []⟩ o.dst (agg8 v)) (.inRegion ops rest :: k)) cs) w') : RunsOn Tryd.prog Post (G (b.at ⟨T, []⟩ (.inRegion ops (i :: rest) :: k)) cs) w := by
  obtain ⟨t, hg⟩ := hg
  exact rl_load Tryd.underlying31 (by kernel_rfl) rfl hop G0 hg ho hw hk hx cont
theorem rl_load64 {b : Frame} {ops : Array Oper} {i g p : Nat} {rest : List Nat} {k : List Item} {cs : List Frame} {o : Oper} {T : Array Value} {w : World} (hop : o.op = .load 25 (.tmp p)) (G0 : Ground w) (hg : ∃ t, RowC w g (vals .u32 64 (fun _ => 0)) t)
    (ho : ops[i]? = some o) (hw : Region.wanted o (yielded ops T) = true) (hk : b.kind ≠ .early) (hx : T[p]? = some (.pointer (some ⟨g, 0, none⟩)))
    (cont : ∀ w', Kept w w' → RunsOn Tryd.prog Post (G (b.at (Act.put ⟨T, []⟩ o.dst zero64v) (.inRegion ops rest :: k)) cs) w') : RunsOn Tryd.prog Post (G (b.at ⟨T, []⟩ (.inRegion ops (i :: rest) :: k)) cs) w := by
  obtain ⟨t, hg⟩ := hg
  exact rl_load Tryd.underlying25 (by kernel_rfl) rfl hop G0 hg ho hw hk hx cont
theorem rl_blocksB {b : Frame} {ops : Array Oper} {i len cap : Nat} {rest : List Nat} {k : List Item} {cs : List Frame} {o : Oper} {T : Array Value} {w : World} {x y : Operand} {ts : Array TypeId} {v B : Nat → Nat} {s : Option Addr} {f : Nat → Int} (hop : o.op = .call ⟨.value (.func 12), #[x, y], ts⟩) (hv : ∀ j, j < 8 → v j < 4294967296) (hB : blocks32 v f (len / 64) = B) (G0 : Ground w) (I : InS w s len cap f)
    (ho : ops[i]? = some o) (hw : Region.wanted o (yielded ops T) = true) (hk : b.kind ≠ .early) (hx : Act.eval ⟨T, []⟩ x = agg8 v) (hy : Act.eval ⟨T, []⟩ y = .slice s len cap)
    (cont : ∀ w', Kept w w' → RunsOn Tryd.prog Post (G (b.at (Act.put ⟨T, []⟩ o.dst (agg8 B)) (.inRegion ops rest :: k)) cs) w') : RunsOn Tryd.prog Post (G (b.at ⟨T, []⟩ (.inRegion ops (i :: rest) :: k)) cs) w := by
  subst hB
  exact rl_blocks hop hv G0 I ho hw hk hx hy cont
theorem rl_refB {b : Frame} {ops : Array Oper} {i len cap : Nat} {rest : List Nat} {k : List Item} {cs : List Frame} {o : Oper} {T : Array Value} {w : World} {x y : Operand} {ts : Array TypeId} {v B : Nat → Nat} {s : Option Addr} {f : Nat → Int} (hop : o.op = .call ⟨.value (.func 13), #[x, y], ts⟩) (hv : ∀ j, j < 8 → v j < 4294967296) (hB : blocks32 v f (len / 64) = B) (hlen : len ≤ 1000000) (G0 : Ground w) (I : InS w s len cap f)
    (ho : ops[i]? = some o) (hw : Region.wanted o (yielded ops T) = true) (hk : b.kind ≠ .early) (hx : Act.eval ⟨T, []⟩ x = agg8 v) (hy : Act.eval ⟨T, []⟩ y = .slice s len cap)
    (cont : ∀ w', Kept w w' → RunsOn Tryd.prog Post (G (b.at (Act.put ⟨T, []⟩ o.dst (agg8 B)) (.inRegion ops rest :: k)) cs) w') : RunsOn Tryd.prog Post (G (b.at ⟨T, []⟩ (.inRegion ops (i :: rest) :: k)) cs) w := by
  subst hB
  exact rl_ref hop hv G0 I hlen ho hw hk hx hy cont
/-- a call of short.Schedule, with a block of noughts -/
theorem rl_sched0 {b : Frame} {ops : Array Oper} {i g : Nat} {rest : List Nat} {k : List Item} {cs : List Frame} {o : Oper} {T : Array Value} {w : World} {x : Operand} {ts : Array TypeId} (hop : o.op = .call ⟨.value (.func 8), #[x], ts⟩) (G0 : Ground w) (hg : ∃ t, RowC w g (vals .u8 64 (fun _ => 0)) t)
    (ho : ops[i]? = some o) (hw : Region.wanted o (yielded ops T) = true) (hk : b.kind ≠ .early) (hx : Act.eval ⟨T, []⟩ x = .slice (some ⟨g, 0, none⟩) 64 64)
    (cont : ∀ w', Kept w w' → RunsOn Tryd.prog Post (G (b.at (Act.put ⟨T, []⟩ o.dst (.tuple #[zero64v, .bool true])) (.inRegion ops rest :: k)) cs) w') : RunsOn Tryd.prog Post (G (b.at ⟨T, []⟩ (.inRegion ops (i :: rest) :: k)) cs) w := by
  obtain ⟨t, hg⟩ := hg
  obtain ⟨c, hbody⟩ : ∃ c, Tryd.f8.body = some c := ⟨_, rfl⟩
  have hcf := fun w1 : World => run_callF (P := Tryd.prog) (a := ⟨T, []⟩) hop Tryd.func8 rfl hbody w1
  rw [map_one, hx] at hcf
  refine run_enter ho hw hk (fun w => (hcf w).1) (fun w => (hcf w).2) ?_
  clear hcf hbody
  have hXc := RunsOn.closed (P := Tryd.prog) (Post := Post) botB
  have M : Meet botB topB [0, 1, 2, g] [0, 1, 2, g] w := by
    refine ⟨fun g hg => by have := nice_of hg; simp; omega, fun b hb => ?_, fun _ _ => .inl trivial, fun b hb hn => absurd hb hn⟩
    simp at hb
    rcases hb with rfl | rfl | rfl | rfl
    · exact G0.tame 0 rfl
    · exact G0.tame 1 rfl
    · exact G0.tame 2 rfl
    · exact hg.tame
  have hfx : ∀ σ, Fixed σ (.tuple #[zero64v, .bool true]) := fun σ => fixed_tuple fun v hv => by
    simp at hv
    rcases hv with rfl | rfl
    · exact fixed_vals σ 64 _ .u32
    · exact fixed_bool σ true
  refine call_piece (X := fun _ g w => RunsOn Tryd.prog Post g w) (O := topB) progOk hXc [0, 1, 2, g] [0, 1, 2, g] M (by kernel_rfl) (fun u hu => ?_) (.tuple #[zero64v, .bool true]) (fun _ => True) (fun W hW => ?_) ?_
  · simp at hu
    subst hu
    exact vrel_slice (by simp) _ _
  · obtain ⟨fr, h1⟩ := hg.1
    obtain ⟨fr2, e1, _⟩ := ice_cells [0, 1, 2, g] [0, 1, 2, g] (by simp) h1
    rw [meek_all (vrel_vals _ _ _ _), ← hW] at e1
    have hT32 : Tabs32 W := by
      have := G0.tabs
      refine ⟨fun i hi => ?_, fun i hi => ?_⟩
      · rw [← ice_cell [0, 1, 2, g] [0, 1, 2, g] (this.1 i hi) (.int _ _)]; exact heap_cell (by rw [hW])
      · rw [← ice_cell [0, 1, 2, g] [0, 1, 2, g] (this.2 i hi) (.int _ _)]; exact heap_cell (by rw [hW])
    have h := sched_yes_w (some ⟨g, 0, none⟩) 64 (Nat.le_refl _) (fun _ => 0) W (fun _ => ⟨g, 0, rfl, fun j hj => by
      unfold World.cell?
      dsimp only
      rw [e1, Nat.zero_add]
      simp [vals_get? _ _ _ _ hj]⟩) (fun _ _ => by omega) hT32
    rw [vals_ext (g := fun _ => 0) .u32 64 (fun j _ => by rw [sched_zero (fun i _ => word_zero i) j]; rfl)] at h
    exact h.mono fun e w' h => ⟨h.1, trivial⟩
  · intro σ O1 v' WE wE p hv hH _ _
    rw [hfx σ v' hv, Frame.finish_at, ho]
    exact cont wE (p.kept (fun _ _ => .inl trivial) (idL_stiff M.tame (fun b hb => hb)))
/-- a function whose result is a slot of its own leaves -/
theorem run_leave {P : Program} {b : Frame} {T : Array Value} {todo : List Item} {fn : Func} {r : Tmp} {v : Value} {c : Frame} {cs : List Frame} {w : World} (hn : b.kind = .normal) (hf : P.funcs[b.fn]? = some fn) (hr : fn.results = #[.tmp r]) (hv : T[r]? = some v) (h : RunsOn P Post (G (c.finish v) cs) w) : RunsOn P Post (G { b.at ⟨T, []⟩ todo with mode := .returning } (c :: cs)) w := by
  refine run_ctl (fun w => ?_) h
  have h1 : (results fn T).run P w = .ok v w := by
    rw [results_tmp hr, Array.getD_eq_getD_getElem?, hv]
    rfl
  have h2 : (results fn T).events P w #[] = #[] := events_results_tmp hr _ _
  simp [G, stepG, unwind, doReturn, Frame.at, hn, hf, h1, h2, GStep.after, seen_none]
end
theorem kindB (f : FuncId) : (base f).kind ≠ .early := fun h => by cases h
end Go.Proofs.YtfnncplokombgaaDoor

/- The regions of the laws' functions, by the rules. Written by gen_lawregs.py. -/
namespace Go.Proofs.YtfnncplokombgaaDoor
open Go Go.Conc Go.RowKit
def ptrV (g : Nat) : Value := .pointer (some ⟨g, 0, none⟩)
theorem v123_lt : ∀ j, j < 8 → v123 j < 4294967296 := by decide
theorem InS.nil (w : World) : InS w none 0 0 (fun _ => 0) := ⟨Nat.le_refl _, .inl rfl, fun h => absurd h (by omega), fun _ h => absurd h (by omega)⟩
def K7_3 (p1 : Nat) (p2 : Nat) : List (Nat × Value) := [(1, ptrV p1), (2, ptrV p2), (3, .bool true)]
def M7_3  : List (Nat × Value) := [(10, agg8 v123), (11, agg8 v123), (12, agg8 v123), (13, .bool true), (14, .bool true), (15, .bool true), (16, .bool true), (17, .bool true), (18, zero64v), (19, zero64v), (20, .bool true), (21, .bool true), (0, .bool true)]
set_option maxRecDepth 10000 in
theorem reg7_3 {Post : Value → World → Prop} {p1 p2 : Nat} {T : Array Value} {k : List Item} {cs : List Frame} {w : World} (G0 : Ground w) (F : Fr 22 (K7_3 p1 p2) T) (r1 : ∃ t, RowC w p1 (vals .u32 8 (fun j => (v123 j : Int))) t) (r2 : ∃ t, RowC w p2 (vals .u32 64 (fun _ => 0)) t)
    (cont : ∀ T' w', Fr 22 ((K7_3 p1 p2) ++ M7_3) T' → Kept w w' → RunsOn Tryd.prog Post (G ((base 7).at ⟨T', []⟩ k) cs) w') : RunsOn Tryd.prog Post (G ((base 7).at ⟨T, []⟩ (.code p7_3 :: k)) cs) w := by
  rw [p7_3_is]
  have A : Apart 22 (K7_3 p1 p2) M7_3 := Apart.of [1, 2, 3] [10, 11, 12, 13, 14, 15, 16, 17, 18, 19, 20, 21, 0] rfl rfl (by decide)
  refine region_runs (P := Tryd.prog) (by kernel_rfl) p7_3_back (St 22 w (K7_3 p1 p2) M7_3) (St.start F.size (Kept.refl w) F.knows) ?_ ?_
  · intro listed T w i o rest _ ho hdep _ hI cont
    have hi : i < 13 := by have := (Array.getElem?_eq_some_iff.1 ho).1; rw [p7_3_n] at this; exact this
    have G1 := G0.kept hI.kept
    obtain rfl | rfl | rfl | rfl | rfl | rfl | rfl | rfl | rfl | rfl | rfl | rfl | rfl := (by omega : i = 0 ∨ i = 1 ∨ i = 2 ∨ i = 3 ∨ i = 4 ∨ i = 5 ∨ i = 6 ∨ i = 7 ∨ i = 8 ∨ i = 9 ∨ i = 10 ∨ i = 11 ∨ i = 12)
    · obtain ⟨o', h1, h2, h3, h4, h5⟩ := op7_3_0
      obtain rfl := Option.some.inj (ho.symm.trans h1)
      exact rl_load8 h2 G1 (r1.imp fun _ h => h.kept hI.kept) ho (wanted_none h4 _) (kindB _) (hI.base (1, _) (List.mem_of_getElem? (i := 0) rfl)) (hI.next A cont h3 rfl)
    · obtain ⟨o', h1, h2, h3, h4, h5⟩ := op7_3_1
      obtain rfl := Option.some.inj (ho.symm.trans h1)
      exact rl_blocksB h2 v123_lt rfl G1 (InS.nil _) ho (wanted_none h4 _) (kindB _) (hI.evM (deps_of hdep h5 0 rfl) rfl) rfl (hI.next A cont h3 rfl)
    · obtain ⟨o', h1, h2, h3, h4, h5⟩ := op7_3_2
      obtain rfl := Option.some.inj (ho.symm.trans h1)
      exact rl_load8 h2 G1 (r1.imp fun _ h => h.kept hI.kept) ho (wanted_none h4 _) (kindB _) (hI.base (1, _) (List.mem_of_getElem? (i := 0) rfl)) (hI.next A cont h3 rfl)
    · obtain ⟨o', h1, h2, h3, h4, h5⟩ := op7_3_3
      obtain rfl := Option.some.inj (ho.symm.trans h1)
      exact rl_val ho (wanted_none h4 _) (kindB _) (run_eqT8 h2 (hI.evM (deps_of hdep h5 1 rfl) rfl) (hI.evM (deps_of hdep h5 2 rfl) rfl)) (hI.next A cont h3 rfl)
    · obtain ⟨o', h1, h2, h3, h4, h5⟩ := op7_3_4
      obtain rfl := Option.some.inj (ho.symm.trans h1)
      exact rl_val ho (wanted_none h4 _) (kindB _) (run_moveV h2 (hI.evM (deps_of hdep h5 3 rfl) rfl)) (hI.next A cont h3 rfl)
    · obtain ⟨o', h1, h2, h3, h4, h5⟩ := op7_3_5
      obtain rfl := Option.some.inj (ho.symm.trans h1)
      exact rl_val ho (wanted_yes h4 (yield7_3_4 (hI.done 4 _ (deps_of hdep h5 4 rfl) rfl))) (kindB _) (run_moveV h2 (hI.evB (List.mem_of_getElem? (i := 2) rfl))) (hI.next A cont h3 rfl)
    · obtain ⟨o', h1, h2, h3, h4, h5⟩ := op7_3_6
      obtain rfl := Option.some.inj (ho.symm.trans h1)
      exact rl_val ho (wanted_none h4 _) (kindB _) (run_pickT h2 (hI.evM (deps_of hdep h5 4 rfl) rfl) (hI.evM (deps_of hdep h5 5 rfl) rfl)) (hI.next A cont h3 rfl)
    · obtain ⟨o', h1, h2, h3, h4, h5⟩ := op7_3_7
      obtain rfl := Option.some.inj (ho.symm.trans h1)
      exact rl_val ho (wanted_none h4 _) (kindB _) (run_moveV h2 (hI.evM (deps_of hdep h5 6 rfl) rfl)) (hI.next A cont h3 rfl)
    · obtain ⟨o', h1, h2, h3, h4, h5⟩ := op7_3_8
      obtain rfl := Option.some.inj (ho.symm.trans h1)
      exact rl_load64 h2 G1 (r2.imp fun _ h => h.kept hI.kept) ho (wanted_yes h4 (yield7_3_7 (hI.done 7 _ (deps_of hdep h5 7 rfl) rfl))) (kindB _) (hI.base (2, _) (List.mem_of_getElem? (i := 1) rfl)) (hI.next A cont h3 rfl)
    · obtain ⟨o', h1, h2, h3, h4, h5⟩ := op7_3_9
      obtain rfl := Option.some.inj (ho.symm.trans h1)
      exact rl_val ho (wanted_yes h4 (yield7_3_7 (hI.done 7 _ (deps_of hdep h5 7 rfl) rfl))) (kindB _) (run_build64 h2) (hI.next A cont h3 rfl)
    · obtain ⟨o', h1, h2, h3, h4, h5⟩ := op7_3_10
      obtain rfl := Option.some.inj (ho.symm.trans h1)
      exact rl_val ho (wanted_yes h4 (yield7_3_7 (hI.done 7 _ (deps_of hdep h5 7 rfl) rfl))) (kindB _) (run_eqT64 h2 (hI.evM (deps_of hdep h5 8 rfl) rfl) (hI.evM (deps_of hdep h5 9 rfl) rfl)) (hI.next A cont h3 rfl)
    · obtain ⟨o', h1, h2, h3, h4, h5⟩ := op7_3_11
      obtain rfl := Option.some.inj (ho.symm.trans h1)
      exact rl_val ho (wanted_none h4 _) (kindB _) (run_pickT h2 (hI.evM (deps_of hdep h5 7 rfl) rfl) (hI.evM (deps_of hdep h5 10 rfl) rfl)) (hI.next A cont h3 rfl)
    · obtain ⟨o', h1, h2, h3, h4, h5⟩ := op7_3_12
      obtain rfl := Option.some.inj (ho.symm.trans h1)
      exact rl_val ho (wanted_none h4 _) (kindB _) (run_assignV h2 (hI.evM (deps_of hdep h5 11 rfl) rfl)) (hI.next A cont h3 rfl)
  · intro listed T w hl hI
    exact cont T w ⟨hI.size, hI.stop (n := 13) (fun i hi => hl i (by rw [p7_3_n]; exact hi)) rfl⟩ hI.kept
def K5_3 (g : Nat) (c : Nat) (s : Option Addr) (len : Nat) (cap : Nat) : List (Nat × Value) := [(1, .slice s len cap), (2, .int .u8 (c : Int)), (3, ptrV g)]
def M5_3 (s : Option Addr) (len : Nat) (cap : Nat) : List (Nat × Value) := [(11, .slice s len cap), (12, .int .i64 (len : Int)), (13, .bool (decide ((400 : Int) < (len : Int))))]
set_option maxRecDepth 10000 in
theorem reg5_3 {Post : Value → World → Prop} {g c : Nat} {s : Option Addr} {len cap : Nat} {T : Array Value} {k : List Item} {cs : List Frame} {w : World} (G0 : Ground w) (F : Fr 55 (K5_3 g c s len cap) T) 
    (cont : ∀ T' w', Fr 55 ((K5_3 g c s len cap) ++ (M5_3 s len cap)) T' → Kept w w' → RunsOn Tryd.prog Post (G ((base 5).at ⟨T', []⟩ k) cs) w') : RunsOn Tryd.prog Post (G ((base 5).at ⟨T, []⟩ (.code p5_3 :: k)) cs) w := by
  rw [p5_3_is]
  have A : Apart 55 (K5_3 g c s len cap) (M5_3 s len cap) := Apart.of [1, 2, 3] [11, 12, 13] rfl rfl (by decide)
  refine region_plain (P := Tryd.prog) p5_3_back (St 55 w (K5_3 g c s len cap) (M5_3 s len cap)) (St.start F.size (Kept.refl w) F.knows) ?_ ?_
  · intro listed T w i o rest _ ho hdep _ hI cont
    have hi : i < 3 := by have := (Array.getElem?_eq_some_iff.1 ho).1; rw [p5_3_n] at this; exact this
    have G1 := G0.kept hI.kept
    obtain rfl | rfl | rfl := (by omega : i = 0 ∨ i = 1 ∨ i = 2)
    · obtain ⟨o', h1, h2, h3, h4, h5⟩ := op5_3_0
      obtain rfl := Option.some.inj (ho.symm.trans h1)
      exact rl_val ho (wanted_none h4 _) (kindB _) (run_moveV h2 (hI.evB (List.mem_of_getElem? (i := 0) rfl))) (hI.next A cont h3 rfl)
    · obtain ⟨o', h1, h2, h3, h4, h5⟩ := op5_3_1
      obtain rfl := Option.some.inj (ho.symm.trans h1)
      exact rl_val ho (wanted_none h4 _) (kindB _) (run_lenS h2 (hI.evM (deps_of hdep h5 0 rfl) rfl)) (hI.next A cont h3 rfl)
    · obtain ⟨o', h1, h2, h3, h4, h5⟩ := op5_3_2
      obtain rfl := Option.some.inj (ho.symm.trans h1)
      exact rl_val ho (wanted_none h4 _) (kindB _) (run_gtr h2 (hI.evM (deps_of hdep h5 1 rfl) rfl)) (hI.next A cont h3 rfl)
  · intro listed T w hl hI
    exact cont T w ⟨hI.size, hI.stop (n := 3) (fun i hi => hl i (by rw [p5_3_n]; exact hi)) rfl⟩ hI.kept
def K5_6 (g : Nat) (h : Nat) (s : Option Addr) (len : Nat) (cap : Nat) (c : Nat) : List (Nat × Value) := [(1, .slice s len cap), (2, .int .u8 (c : Int)), (3, ptrV g), (7, ptrV h)]
def M5_6 (s : Option Addr) (len : Nat) (cap : Nat) (c : Nat) (q : Nat) (n : Nat) : List (Nat × Value) := [(17, .int .u8 (c : Int)), (18, .int .i64 (c : Int)), (19, .int .i64 ((c * 64 : Nat) : Int)), (20, .slice s len cap), (21, .int .i64 (len : Int)), (22, .int .i64 (q : Int)), (23, .int .i64 ((q * 64 : Nat) : Int)), (24, .int .i64 (n : Int)), (8, .int .i64 (n : Int))]
set_option maxRecDepth 10000 in
theorem reg5_6 {Post : Value → World → Prop} {g h : Nat} {s : Option Addr} {len cap c q n : Nat} {T : Array Value} {k : List Item} {cs : List Frame} {w : World} (G0 : Ground w) (F : Fr 55 (K5_6 g h s len cap c) T) (e1 : IntKind.i64.wrap (c : Int) = (c : Int)) (e2 : IntKind.i64.wrap ((c : Int) * 64) = ((c * 64 : Nat) : Int)) (e3 : IntKind.i64.wrap (Int.tdiv (len : Int) 64) = (q : Int)) (e4 : IntKind.i64.wrap ((q : Int) * 64) = ((q * 64 : Nat) : Int)) (e5 : min ((c * 64 : Nat) : Int) ((q * 64 : Nat) : Int) = (n : Int))
    (cont : ∀ T' w', Fr 55 ((K5_6 g h s len cap c) ++ (M5_6 s len cap c q n)) T' → Kept w w' → RunsOn Tryd.prog Post (G ((base 5).at ⟨T', []⟩ k) cs) w') : RunsOn Tryd.prog Post (G ((base 5).at ⟨T, []⟩ (.code p5_6 :: k)) cs) w := by
  rw [p5_6_is]
  have A : Apart 55 (K5_6 g h s len cap c) (M5_6 s len cap c q n) := Apart.of [1, 2, 3, 7] [17, 18, 19, 20, 21, 22, 23, 24, 8] rfl rfl (by decide)
  refine region_plain (P := Tryd.prog) p5_6_back (St 55 w (K5_6 g h s len cap c) (M5_6 s len cap c q n)) (St.start F.size (Kept.refl w) F.knows) ?_ ?_
  · intro listed T w i o rest _ ho hdep _ hI cont
    have hi : i < 9 := by have := (Array.getElem?_eq_some_iff.1 ho).1; rw [p5_6_n] at this; exact this
    have G1 := G0.kept hI.kept
    obtain rfl | rfl | rfl | rfl | rfl | rfl | rfl | rfl | rfl := (by omega : i = 0 ∨ i = 1 ∨ i = 2 ∨ i = 3 ∨ i = 4 ∨ i = 5 ∨ i = 6 ∨ i = 7 ∨ i = 8)
    · obtain ⟨o', h1, h2, h3, h4, h5⟩ := op5_6_0
      obtain rfl := Option.some.inj (ho.symm.trans h1)
      exact rl_val ho (wanted_none h4 _) (kindB _) (run_moveV h2 (hI.evB (List.mem_of_getElem? (i := 1) rfl))) (hI.next A cont h3 rfl)
    · obtain ⟨o', h1, h2, h3, h4, h5⟩ := op5_6_1
      obtain rfl := Option.some.inj (ho.symm.trans h1)
      exact rl_val ho (wanted_none h4 _) (kindB _) (run_conv h2 (hI.evM (deps_of hdep h5 0 rfl) rfl) e1) (hI.next A cont h3 rfl)
    · obtain ⟨o', h1, h2, h3, h4, h5⟩ := op5_6_2
      obtain rfl := Option.some.inj (ho.symm.trans h1)
      exact rl_val ho (wanted_none h4 _) (kindB _) (run_mul64 h2 (hI.evM (deps_of hdep h5 1 rfl) rfl) e2) (hI.next A cont h3 rfl)
    · obtain ⟨o', h1, h2, h3, h4, h5⟩ := op5_6_3
      obtain rfl := Option.some.inj (ho.symm.trans h1)
      exact rl_val ho (wanted_none h4 _) (kindB _) (run_moveV h2 (hI.evB (List.mem_of_getElem? (i := 0) rfl))) (hI.next A cont h3 rfl)
    · obtain ⟨o', h1, h2, h3, h4, h5⟩ := op5_6_4
      obtain rfl := Option.some.inj (ho.symm.trans h1)
      exact rl_val ho (wanted_none h4 _) (kindB _) (run_lenS h2 (hI.evM (deps_of hdep h5 3 rfl) rfl)) (hI.next A cont h3 rfl)
    · obtain ⟨o', h1, h2, h3, h4, h5⟩ := op5_6_5
      obtain rfl := Option.some.inj (ho.symm.trans h1)
      exact rl_val ho (wanted_none h4 _) (kindB _) (run_quo64 h2 (hI.evM (deps_of hdep h5 4 rfl) rfl) e3) (hI.next A cont h3 rfl)
    · obtain ⟨o', h1, h2, h3, h4, h5⟩ := op5_6_6
      obtain rfl := Option.some.inj (ho.symm.trans h1)
      exact rl_val ho (wanted_none h4 _) (kindB _) (run_mul64 h2 (hI.evM (deps_of hdep h5 5 rfl) rfl) e4) (hI.next A cont h3 rfl)
    · obtain ⟨o', h1, h2, h3, h4, h5⟩ := op5_6_7
      obtain rfl := Option.some.inj (ho.symm.trans h1)
      exact rl_val ho (wanted_none h4 _) (kindB _) (run_minI h2 (hI.evM (deps_of hdep h5 2 rfl) rfl) (hI.evM (deps_of hdep h5 6 rfl) rfl) e5) (hI.next A cont h3 rfl)
    · obtain ⟨o', h1, h2, h3, h4, h5⟩ := op5_6_8
      obtain rfl := Option.some.inj (ho.symm.trans h1)
      exact rl_val ho (wanted_none h4 _) (kindB _) (run_assignV h2 (hI.evM (deps_of hdep h5 7 rfl) rfl)) (hI.next A cont h3 rfl)
  · intro listed T w hl hI
    exact cont T w ⟨hI.size, hI.stop (n := 9) (fun i hi => hl i (by rw [p5_6_n]; exact hi)) rfl⟩ hI.kept
def K5_7 (g : Nat) (h : Nat) (s : Option Addr) (len : Nat) (cap : Nat) (n : Nat) : List (Nat × Value) := [(1, .slice s len cap), (3, ptrV g), (7, ptrV h), (8, .int .i64 (n : Int))]
def M5_7 (s : Option Addr) (len : Nat) (cap : Nat) (n : Nat) (m : Nat) (q : Nat) (v : Nat → Nat) (X : Nat → Nat) (Y : Nat → Nat) : List (Nat × Value) := [(25, agg8 X), (26, agg8 v), (27, .slice s len cap), (28, agg8 X), (29, .bool true), (30, .bool true), (31, agg8 v), (32, .slice s len cap), (33, .int .i64 (n : Int)), (34, .slice s n cap), (35, agg8 Y), (36, .slice s len cap), (37, .int .i64 (n : Int)), (38, .slice (subAddr s cap n) (len - n) (cap - n)), (39, agg8 X), (40, agg8 X), (41, .bool true), (42, .bool true), (43, .bool true), (44, agg8 v), (45, .slice s len cap), (46, .slice s len cap), (47, .int .i64 (len : Int)), (48, .int .i64 (q : Int)), (49, .int .i64 (m : Int)), (50, .slice s m cap), (51, agg8 X), (52, agg8 X), (53, .bool true), (54, .bool true), (6, .bool true)]
set_option maxRecDepth 10000 in
theorem reg5_7 {Post : Value → World → Prop} {g h : Nat} {s : Option Addr} {len cap n m q : Nat} {v X Y : Nat → Nat} {T : Array Value} {k : List Item} {cs : List Frame} {w : World} (G0 : Ground w) (F : Fr 55 (K5_7 g h s len cap n) T) (r1 : ∃ t, RowC w g (vals .u32 8 (fun j => (v j : Int))) t) (r2 : ∃ t, RowC w h (vals .u32 8 (fun j => (X j : Int))) t) {f : Nat → Int} (I : InS w s len cap f) (hlen : len ≤ 1000000) (hn : n ≤ len) (hm : m ≤ len) (hv : ∀ j, j < 8 → v j < 4294967296) (hY : ∀ j, j < 8 → Y j < 4294967296) (b1 : blocks32 v f (len / 64) = X) (b2 : blocks32 v f (n / 64) = Y) (b3 : blocks32 Y (fun j => f (n + j)) ((len - n) / 64) = X) (b4 : blocks32 v f (m / 64) = X) (e1 : IntKind.i64.wrap (Int.tdiv (len : Int) 64) = (q : Int)) (e2 : IntKind.i64.wrap ((q : Int) * 64) = (m : Int))
    (cont : ∀ T' w', Fr 55 ((K5_7 g h s len cap n) ++ (M5_7 s len cap n m q v X Y)) T' → Kept w w' → RunsOn Tryd.prog Post (G ((base 5).at ⟨T', []⟩ k) cs) w') : RunsOn Tryd.prog Post (G ((base 5).at ⟨T, []⟩ (.code p5_7 :: k)) cs) w := by
  rw [p5_7_is]
  have A : Apart 55 (K5_7 g h s len cap n) (M5_7 s len cap n m q v X Y) := Apart.of [1, 3, 7, 8] [25, 26, 27, 28, 29, 30, 31, 32, 33, 34, 35, 36, 37, 38, 39, 40, 41, 42, 43, 44, 45, 46, 47, 48, 49, 50, 51, 52, 53, 54, 6] rfl rfl (by decide)
  refine region_runs (P := Tryd.prog) (by kernel_rfl) p5_7_back (St 55 w (K5_7 g h s len cap n) (M5_7 s len cap n m q v X Y)) (St.start F.size (Kept.refl w) F.knows) ?_ ?_
  · intro listed T w i o rest _ ho hdep _ hI cont
    have hi : i < 31 := by have := (Array.getElem?_eq_some_iff.1 ho).1; rw [p5_7_n] at this; exact this
    have G1 := G0.kept hI.kept
    obtain rfl | rfl | rfl | rfl | rfl | rfl | rfl | rfl | rfl | rfl | rfl | rfl | rfl | rfl | rfl | rfl | rfl | rfl | rfl | rfl | rfl | rfl | rfl | rfl | rfl | rfl | rfl | rfl | rfl | rfl | rfl := (by omega : i = 0 ∨ i = 1 ∨ i = 2 ∨ i = 3 ∨ i = 4 ∨ i = 5 ∨ i = 6 ∨ i = 7 ∨ i = 8 ∨ i = 9 ∨ i = 10 ∨ i = 11 ∨ i = 12 ∨ i = 13 ∨ i = 14 ∨ i = 15 ∨ i = 16 ∨ i = 17 ∨ i = 18 ∨ i = 19 ∨ i = 20 ∨ i = 21 ∨ i = 22 ∨ i = 23 ∨ i = 24 ∨ i = 25 ∨ i = 26 ∨ i = 27 ∨ i = 28 ∨ i = 29 ∨ i = 30)
    · obtain ⟨o', h1, h2, h3, h4, h5⟩ := op5_7_0
      obtain rfl := Option.some.inj (ho.symm.trans h1)
      exact rl_load8 h2 G1 (r2.imp fun _ h => h.kept hI.kept) ho (wanted_none h4 _) (kindB _) (hI.base (7, _) (List.mem_of_getElem? (i := 2) rfl)) (hI.next A cont h3 rfl)
    · obtain ⟨o', h1, h2, h3, h4, h5⟩ := op5_7_1
      obtain rfl := Option.some.inj (ho.symm.trans h1)
      exact rl_load8 h2 G1 (r1.imp fun _ h => h.kept hI.kept) ho (wanted_none h4 _) (kindB _) (hI.base (3, _) (List.mem_of_getElem? (i := 1) rfl)) (hI.next A cont h3 rfl)
    · obtain ⟨o', h1, h2, h3, h4, h5⟩ := op5_7_2
      obtain rfl := Option.some.inj (ho.symm.trans h1)
      exact rl_val ho (wanted_none h4 _) (kindB _) (run_moveV h2 (hI.evB (List.mem_of_getElem? (i := 0) rfl))) (hI.next A cont h3 rfl)
    · obtain ⟨o', h1, h2, h3, h4, h5⟩ := op5_7_3
      obtain rfl := Option.some.inj (ho.symm.trans h1)
      exact rl_refB h2 hv b1 hlen G1 (I.kept hI.kept) ho (wanted_none h4 _) (kindB _) (hI.evM (deps_of hdep h5 1 rfl) rfl) (hI.evM (deps_of hdep h5 2 rfl) rfl) (hI.next A cont h3 rfl)
    · obtain ⟨o', h1, h2, h3, h4, h5⟩ := op5_7_4
      obtain rfl := Option.some.inj (ho.symm.trans h1)
      exact rl_val ho (wanted_none h4 _) (kindB _) (run_eqT8 h2 (hI.evM (deps_of hdep h5 0 rfl) rfl) (hI.evM (deps_of hdep h5 3 rfl) rfl)) (hI.next A cont h3 rfl)
    · obtain ⟨o', h1, h2, h3, h4, h5⟩ := op5_7_5
      obtain rfl := Option.some.inj (ho.symm.trans h1)
      exact rl_val ho (wanted_none h4 _) (kindB _) (run_moveV h2 (hI.evM (deps_of hdep h5 4 rfl) rfl)) (hI.next A cont h3 rfl)
    · obtain ⟨o', h1, h2, h3, h4, h5⟩ := op5_7_6
      obtain rfl := Option.some.inj (ho.symm.trans h1)
      exact rl_load8 h2 G1 (r1.imp fun _ h => h.kept hI.kept) ho (wanted_yes h4 (yield5_7_5 (hI.done 5 _ (deps_of hdep h5 5 rfl) rfl))) (kindB _) (hI.base (3, _) (List.mem_of_getElem? (i := 1) rfl)) (hI.next A cont h3 rfl)
    · obtain ⟨o', h1, h2, h3, h4, h5⟩ := op5_7_7
      obtain rfl := Option.some.inj (ho.symm.trans h1)
      exact rl_val ho (wanted_yes h4 (yield5_7_5 (hI.done 5 _ (deps_of hdep h5 5 rfl) rfl))) (kindB _) (run_moveV h2 (hI.evB (List.mem_of_getElem? (i := 0) rfl))) (hI.next A cont h3 rfl)
    · obtain ⟨o', h1, h2, h3, h4, h5⟩ := op5_7_8
      obtain rfl := Option.some.inj (ho.symm.trans h1)
      exact rl_val ho (wanted_yes h4 (yield5_7_5 (hI.done 5 _ (deps_of hdep h5 5 rfl) rfl))) (kindB _) (run_moveV h2 (hI.evB (List.mem_of_getElem? (i := 3) rfl))) (hI.next A cont h3 rfl)
    · obtain ⟨o', h1, h2, h3, h4, h5⟩ := op5_7_9
      obtain rfl := Option.some.inj (ho.symm.trans h1)
      exact rl_val ho (wanted_yes h4 (yield5_7_5 (hI.done 5 _ (deps_of hdep h5 5 rfl) rfl))) (kindB _) (run_sliceHi h2 (hI.evM (deps_of hdep h5 7 rfl) rfl) (hI.evM (deps_of hdep h5 8 rfl) rfl) (by have := I.le; omega)) (hI.next A cont h3 rfl)
    · obtain ⟨o', h1, h2, h3, h4, h5⟩ := op5_7_10
      obtain rfl := Option.some.inj (ho.symm.trans h1)
      exact rl_blocksB h2 hv b2 G1 ((I.kept hI.kept).hi hn) ho (wanted_yes h4 (yield5_7_5 (hI.done 5 _ (deps_of hdep h5 5 rfl) rfl))) (kindB _) (hI.evM (deps_of hdep h5 6 rfl) rfl) (hI.evM (deps_of hdep h5 9 rfl) rfl) (hI.next A cont h3 rfl)
    · obtain ⟨o', h1, h2, h3, h4, h5⟩ := op5_7_11
      obtain rfl := Option.some.inj (ho.symm.trans h1)
      exact rl_val ho (wanted_yes h4 (yield5_7_5 (hI.done 5 _ (deps_of hdep h5 5 rfl) rfl))) (kindB _) (run_moveV h2 (hI.evB (List.mem_of_getElem? (i := 0) rfl))) (hI.next A cont h3 rfl)
    · obtain ⟨o', h1, h2, h3, h4, h5⟩ := op5_7_12
      obtain rfl := Option.some.inj (ho.symm.trans h1)
      exact rl_val ho (wanted_yes h4 (yield5_7_5 (hI.done 5 _ (deps_of hdep h5 5 rfl) rfl))) (kindB _) (run_moveV h2 (hI.evB (List.mem_of_getElem? (i := 3) rfl))) (hI.next A cont h3 rfl)
    · obtain ⟨o', h1, h2, h3, h4, h5⟩ := op5_7_13
      obtain rfl := Option.some.inj (ho.symm.trans h1)
      exact rl_val ho (wanted_yes h4 (yield5_7_5 (hI.done 5 _ (deps_of hdep h5 5 rfl) rfl))) (kindB _) (run_sliceLo h2 (hI.evM (deps_of hdep h5 11 rfl) rfl) (hI.evM (deps_of hdep h5 12 rfl) rfl) hn) (hI.next A cont h3 rfl)
    · obtain ⟨o', h1, h2, h3, h4, h5⟩ := op5_7_14
      obtain rfl := Option.some.inj (ho.symm.trans h1)
      exact rl_blocksB h2 hY b3 G1 ((I.kept hI.kept).lo hn) ho (wanted_yes h4 (yield5_7_5 (hI.done 5 _ (deps_of hdep h5 5 rfl) rfl))) (kindB _) (hI.evM (deps_of hdep h5 10 rfl) rfl) (hI.evM (deps_of hdep h5 13 rfl) rfl) (hI.next A cont h3 rfl)
    · obtain ⟨o', h1, h2, h3, h4, h5⟩ := op5_7_15
      obtain rfl := Option.some.inj (ho.symm.trans h1)
      exact rl_load8 h2 G1 (r2.imp fun _ h => h.kept hI.kept) ho (wanted_yes h4 (yield5_7_5 (hI.done 5 _ (deps_of hdep h5 5 rfl) rfl))) (kindB _) (hI.base (7, _) (List.mem_of_getElem? (i := 2) rfl)) (hI.next A cont h3 rfl)
    · obtain ⟨o', h1, h2, h3, h4, h5⟩ := op5_7_16
      obtain rfl := Option.some.inj (ho.symm.trans h1)
      exact rl_val ho (wanted_yes h4 (yield5_7_5 (hI.done 5 _ (deps_of hdep h5 5 rfl) rfl))) (kindB _) (run_eqT8 h2 (hI.evM (deps_of hdep h5 14 rfl) rfl) (hI.evM (deps_of hdep h5 15 rfl) rfl)) (hI.next A cont h3 rfl)
    · obtain ⟨o', h1, h2, h3, h4, h5⟩ := op5_7_17
      obtain rfl := Option.some.inj (ho.symm.trans h1)
      exact rl_val ho (wanted_none h4 _) (kindB _) (run_pickT h2 (hI.evM (deps_of hdep h5 5 rfl) rfl) (hI.evM (deps_of hdep h5 16 rfl) rfl)) (hI.next A cont h3 rfl)
    · obtain ⟨o', h1, h2, h3, h4, h5⟩ := op5_7_18
      obtain rfl := Option.some.inj (ho.symm.trans h1)
      exact rl_val ho (wanted_none h4 _) (kindB _) (run_moveV h2 (hI.evM (deps_of hdep h5 17 rfl) rfl)) (hI.next A cont h3 rfl)
    · obtain ⟨o', h1, h2, h3, h4, h5⟩ := op5_7_19
      obtain rfl := Option.some.inj (ho.symm.trans h1)
      exact rl_load8 h2 G1 (r1.imp fun _ h => h.kept hI.kept) ho (wanted_yes h4 (yield5_7_18 (hI.done 18 _ (deps_of hdep h5 18 rfl) rfl))) (kindB _) (hI.base (3, _) (List.mem_of_getElem? (i := 1) rfl)) (hI.next A cont h3 rfl)
    · obtain ⟨o', h1, h2, h3, h4, h5⟩ := op5_7_20
      obtain rfl := Option.some.inj (ho.symm.trans h1)
      exact rl_val ho (wanted_yes h4 (yield5_7_18 (hI.done 18 _ (deps_of hdep h5 18 rfl) rfl))) (kindB _) (run_moveV h2 (hI.evB (List.mem_of_getElem? (i := 0) rfl))) (hI.next A cont h3 rfl)
    · obtain ⟨o', h1, h2, h3, h4, h5⟩ := op5_7_21
      obtain rfl := Option.some.inj (ho.symm.trans h1)
      exact rl_val ho (wanted_yes h4 (yield5_7_18 (hI.done 18 _ (deps_of hdep h5 18 rfl) rfl))) (kindB _) (run_moveV h2 (hI.evB (List.mem_of_getElem? (i := 0) rfl))) (hI.next A cont h3 rfl)
    · obtain ⟨o', h1, h2, h3, h4, h5⟩ := op5_7_22
      obtain rfl := Option.some.inj (ho.symm.trans h1)
      exact rl_val ho (wanted_yes h4 (yield5_7_18 (hI.done 18 _ (deps_of hdep h5 18 rfl) rfl))) (kindB _) (run_lenS h2 (hI.evM (deps_of hdep h5 21 rfl) rfl)) (hI.next A cont h3 rfl)
    · obtain ⟨o', h1, h2, h3, h4, h5⟩ := op5_7_23
      obtain rfl := Option.some.inj (ho.symm.trans h1)
      exact rl_val ho (wanted_yes h4 (yield5_7_18 (hI.done 18 _ (deps_of hdep h5 18 rfl) rfl))) (kindB _) (run_quo64 h2 (hI.evM (deps_of hdep h5 22 rfl) rfl) e1) (hI.next A cont h3 rfl)
    · obtain ⟨o', h1, h2, h3, h4, h5⟩ := op5_7_24
      obtain rfl := Option.some.inj (ho.symm.trans h1)
      exact rl_val ho (wanted_yes h4 (yield5_7_18 (hI.done 18 _ (deps_of hdep h5 18 rfl) rfl))) (kindB _) (run_mul64 h2 (hI.evM (deps_of hdep h5 23 rfl) rfl) e2) (hI.next A cont h3 rfl)
    · obtain ⟨o', h1, h2, h3, h4, h5⟩ := op5_7_25
      obtain rfl := Option.some.inj (ho.symm.trans h1)
      exact rl_val ho (wanted_yes h4 (yield5_7_18 (hI.done 18 _ (deps_of hdep h5 18 rfl) rfl))) (kindB _) (run_sliceHi h2 (hI.evM (deps_of hdep h5 20 rfl) rfl) (hI.evM (deps_of hdep h5 24 rfl) rfl) (by have := I.le; omega)) (hI.next A cont h3 rfl)
    · obtain ⟨o', h1, h2, h3, h4, h5⟩ := op5_7_26
      obtain rfl := Option.some.inj (ho.symm.trans h1)
      exact rl_blocksB h2 hv b4 G1 ((I.kept hI.kept).hi hm) ho (wanted_yes h4 (yield5_7_18 (hI.done 18 _ (deps_of hdep h5 18 rfl) rfl))) (kindB _) (hI.evM (deps_of hdep h5 19 rfl) rfl) (hI.evM (deps_of hdep h5 25 rfl) rfl) (hI.next A cont h3 rfl)
    · obtain ⟨o', h1, h2, h3, h4, h5⟩ := op5_7_27
      obtain rfl := Option.some.inj (ho.symm.trans h1)
      exact rl_load8 h2 G1 (r2.imp fun _ h => h.kept hI.kept) ho (wanted_yes h4 (yield5_7_18 (hI.done 18 _ (deps_of hdep h5 18 rfl) rfl))) (kindB _) (hI.base (7, _) (List.mem_of_getElem? (i := 2) rfl)) (hI.next A cont h3 rfl)
    · obtain ⟨o', h1, h2, h3, h4, h5⟩ := op5_7_28
      obtain rfl := Option.some.inj (ho.symm.trans h1)
      exact rl_val ho (wanted_yes h4 (yield5_7_18 (hI.done 18 _ (deps_of hdep h5 18 rfl) rfl))) (kindB _) (run_eqT8 h2 (hI.evM (deps_of hdep h5 26 rfl) rfl) (hI.evM (deps_of hdep h5 27 rfl) rfl)) (hI.next A cont h3 rfl)
    · obtain ⟨o', h1, h2, h3, h4, h5⟩ := op5_7_29
      obtain rfl := Option.some.inj (ho.symm.trans h1)
      exact rl_val ho (wanted_none h4 _) (kindB _) (run_pickT h2 (hI.evM (deps_of hdep h5 18 rfl) rfl) (hI.evM (deps_of hdep h5 28 rfl) rfl)) (hI.next A cont h3 rfl)
    · obtain ⟨o', h1, h2, h3, h4, h5⟩ := op5_7_30
      obtain rfl := Option.some.inj (ho.symm.trans h1)
      exact rl_val ho (wanted_none h4 _) (kindB _) (run_assignV h2 (hI.evM (deps_of hdep h5 29 rfl) rfl)) (hI.next A cont h3 rfl)
  · intro listed T w hl hI
    exact cont T w ⟨hI.size, hI.stop (n := 31) (fun i hi => hl i (by rw [p5_7_n]; exact hi)) rfl⟩ hI.kept
def K6_4 (g : Nat) (a : Nat) (b : Nat) (h : Nat) : List (Nat × Value) := [(3, ptrV g), (4, ptrV a), (5, ptrV b), (7, ptrV h)]
def M6_4 (a : Nat) (b : Nat) (v : Nat → Nat) (X : Nat → Nat) (Y : Nat → Nat) : List (Nat × Value) := [(17, agg8 X), (18, agg8 v), (19, .slice (some ⟨a, 0, none⟩) 64 64), (20, agg8 Y), (21, .slice (some ⟨b, 0, none⟩) 64 64), (22, agg8 X), (23, .bool true), (24, .bool true), (25, agg8 X), (26, agg8 v), (27, .slice (some ⟨a, 0, none⟩) 64 64), (28, agg8 Y), (29, .slice (some ⟨b, 0, none⟩) 64 64), (30, agg8 X), (31, .bool true), (32, .bool true), (6, .bool true)]
set_option maxRecDepth 10000 in
theorem reg6_4 {Post : Value → World → Prop} {g a b h : Nat} {v X Y : Nat → Nat} {T : Array Value} {k : List Item} {cs : List Frame} {w : World} (G0 : Ground w) (F : Fr 33 (K6_4 g a b h) T) (r1 : ∃ t, RowC w g (vals .u32 8 (fun j => (v j : Int))) t) (r2 : ∃ t, RowC w h (vals .u32 8 (fun j => (X j : Int))) t) {fa fb : Nat → Int} (Ia : InS w (some ⟨a, 0, none⟩) 64 64 fa) (Ib : InS w (some ⟨b, 0, none⟩) 64 64 fb) (hv : ∀ j, j < 8 → v j < 4294967296) (hY : ∀ j, j < 8 → Y j < 4294967296) (b1 : blocks32 v fa (64 / 64) = Y) (b2 : blocks32 Y fb (64 / 64) = X)
    (cont : ∀ T' w', Fr 33 ((K6_4 g a b h) ++ (M6_4 a b v X Y)) T' → Kept w w' → RunsOn Tryd.prog Post (G ((base 6).at ⟨T', []⟩ k) cs) w') : RunsOn Tryd.prog Post (G ((base 6).at ⟨T, []⟩ (.code p6_4 :: k)) cs) w := by
  rw [p6_4_is]
  have A : Apart 33 (K6_4 g a b h) (M6_4 a b v X Y) := Apart.of [3, 4, 5, 7] [17, 18, 19, 20, 21, 22, 23, 24, 25, 26, 27, 28, 29, 30, 31, 32, 6] rfl rfl (by decide)
  refine region_runs (P := Tryd.prog) (by kernel_rfl) p6_4_back (St 33 w (K6_4 g a b h) (M6_4 a b v X Y)) (St.start F.size (Kept.refl w) F.knows) ?_ ?_
  · intro listed T w i o rest _ ho hdep _ hI cont
    have hi : i < 17 := by have := (Array.getElem?_eq_some_iff.1 ho).1; rw [p6_4_n] at this; exact this
    have G1 := G0.kept hI.kept
    obtain rfl | rfl | rfl | rfl | rfl | rfl | rfl | rfl | rfl | rfl | rfl | rfl | rfl | rfl | rfl | rfl | rfl := (by omega : i = 0 ∨ i = 1 ∨ i = 2 ∨ i = 3 ∨ i = 4 ∨ i = 5 ∨ i = 6 ∨ i = 7 ∨ i = 8 ∨ i = 9 ∨ i = 10 ∨ i = 11 ∨ i = 12 ∨ i = 13 ∨ i = 14 ∨ i = 15 ∨ i = 16)
    · obtain ⟨o', h1, h2, h3, h4, h5⟩ := op6_4_0
      obtain rfl := Option.some.inj (ho.symm.trans h1)
      exact rl_load8 h2 G1 (r2.imp fun _ h => h.kept hI.kept) ho (wanted_none h4 _) (kindB _) (hI.base (7, _) (List.mem_of_getElem? (i := 3) rfl)) (hI.next A cont h3 rfl)
    · obtain ⟨o', h1, h2, h3, h4, h5⟩ := op6_4_1
      obtain rfl := Option.some.inj (ho.symm.trans h1)
      exact rl_load8 h2 G1 (r1.imp fun _ h => h.kept hI.kept) ho (wanted_none h4 _) (kindB _) (hI.base (3, _) (List.mem_of_getElem? (i := 0) rfl)) (hI.next A cont h3 rfl)
    · obtain ⟨o', h1, h2, h3, h4, h5⟩ := op6_4_2
      obtain rfl := Option.some.inj (ho.symm.trans h1)
      exact rl_val ho (wanted_none h4 _) (kindB _) (run_sliceA h2 (hI.evB (List.mem_of_getElem? (i := 1) rfl))) (hI.next A cont h3 rfl)
    · obtain ⟨o', h1, h2, h3, h4, h5⟩ := op6_4_3
      obtain rfl := Option.some.inj (ho.symm.trans h1)
      exact rl_blocksB h2 hv b1 G1 (Ia.kept hI.kept) ho (wanted_none h4 _) (kindB _) (hI.evM (deps_of hdep h5 1 rfl) rfl) (hI.evM (deps_of hdep h5 2 rfl) rfl) (hI.next A cont h3 rfl)
    · obtain ⟨o', h1, h2, h3, h4, h5⟩ := op6_4_4
      obtain rfl := Option.some.inj (ho.symm.trans h1)
      exact rl_val ho (wanted_none h4 _) (kindB _) (run_sliceA h2 (hI.evB (List.mem_of_getElem? (i := 2) rfl))) (hI.next A cont h3 rfl)
    · obtain ⟨o', h1, h2, h3, h4, h5⟩ := op6_4_5
      obtain rfl := Option.some.inj (ho.symm.trans h1)
      exact rl_blocksB h2 hY b2 G1 (Ib.kept hI.kept) ho (wanted_none h4 _) (kindB _) (hI.evM (deps_of hdep h5 3 rfl) rfl) (hI.evM (deps_of hdep h5 4 rfl) rfl) (hI.next A cont h3 rfl)
    · obtain ⟨o', h1, h2, h3, h4, h5⟩ := op6_4_6
      obtain rfl := Option.some.inj (ho.symm.trans h1)
      exact rl_val ho (wanted_none h4 _) (kindB _) (run_eqT8 h2 (hI.evM (deps_of hdep h5 0 rfl) rfl) (hI.evM (deps_of hdep h5 5 rfl) rfl)) (hI.next A cont h3 rfl)
    · obtain ⟨o', h1, h2, h3, h4, h5⟩ := op6_4_7
      obtain rfl := Option.some.inj (ho.symm.trans h1)
      exact rl_val ho (wanted_none h4 _) (kindB _) (run_moveV h2 (hI.evM (deps_of hdep h5 6 rfl) rfl)) (hI.next A cont h3 rfl)
    · obtain ⟨o', h1, h2, h3, h4, h5⟩ := op6_4_8
      obtain rfl := Option.some.inj (ho.symm.trans h1)
      exact rl_load8 h2 G1 (r2.imp fun _ h => h.kept hI.kept) ho (wanted_yes h4 (yield6_4_7 (hI.done 7 _ (deps_of hdep h5 7 rfl) rfl))) (kindB _) (hI.base (7, _) (List.mem_of_getElem? (i := 3) rfl)) (hI.next A cont h3 rfl)
    · obtain ⟨o', h1, h2, h3, h4, h5⟩ := op6_4_9
      obtain rfl := Option.some.inj (ho.symm.trans h1)
      exact rl_load8 h2 G1 (r1.imp fun _ h => h.kept hI.kept) ho (wanted_yes h4 (yield6_4_7 (hI.done 7 _ (deps_of hdep h5 7 rfl) rfl))) (kindB _) (hI.base (3, _) (List.mem_of_getElem? (i := 0) rfl)) (hI.next A cont h3 rfl)
    · obtain ⟨o', h1, h2, h3, h4, h5⟩ := op6_4_10
      obtain rfl := Option.some.inj (ho.symm.trans h1)
      exact rl_val ho (wanted_yes h4 (yield6_4_7 (hI.done 7 _ (deps_of hdep h5 7 rfl) rfl))) (kindB _) (run_sliceA h2 (hI.evB (List.mem_of_getElem? (i := 1) rfl))) (hI.next A cont h3 rfl)
    · obtain ⟨o', h1, h2, h3, h4, h5⟩ := op6_4_11
      obtain rfl := Option.some.inj (ho.symm.trans h1)
      exact rl_refB h2 hv b1 (by decide) G1 (Ia.kept hI.kept) ho (wanted_yes h4 (yield6_4_7 (hI.done 7 _ (deps_of hdep h5 7 rfl) rfl))) (kindB _) (hI.evM (deps_of hdep h5 9 rfl) rfl) (hI.evM (deps_of hdep h5 10 rfl) rfl) (hI.next A cont h3 rfl)
    · obtain ⟨o', h1, h2, h3, h4, h5⟩ := op6_4_12
      obtain rfl := Option.some.inj (ho.symm.trans h1)
      exact rl_val ho (wanted_yes h4 (yield6_4_7 (hI.done 7 _ (deps_of hdep h5 7 rfl) rfl))) (kindB _) (run_sliceA h2 (hI.evB (List.mem_of_getElem? (i := 2) rfl))) (hI.next A cont h3 rfl)
    · obtain ⟨o', h1, h2, h3, h4, h5⟩ := op6_4_13
      obtain rfl := Option.some.inj (ho.symm.trans h1)
      exact rl_refB h2 hY b2 (by decide) G1 (Ib.kept hI.kept) ho (wanted_yes h4 (yield6_4_7 (hI.done 7 _ (deps_of hdep h5 7 rfl) rfl))) (kindB _) (hI.evM (deps_of hdep h5 11 rfl) rfl) (hI.evM (deps_of hdep h5 12 rfl) rfl) (hI.next A cont h3 rfl)
    · obtain ⟨o', h1, h2, h3, h4, h5⟩ := op6_4_14
      obtain rfl := Option.some.inj (ho.symm.trans h1)
      exact rl_val ho (wanted_yes h4 (yield6_4_7 (hI.done 7 _ (deps_of hdep h5 7 rfl) rfl))) (kindB _) (run_eqT8 h2 (hI.evM (deps_of hdep h5 8 rfl) rfl) (hI.evM (deps_of hdep h5 13 rfl) rfl)) (hI.next A cont h3 rfl)
    · obtain ⟨o', h1, h2, h3, h4, h5⟩ := op6_4_15
      obtain rfl := Option.some.inj (ho.symm.trans h1)
      exact rl_val ho (wanted_none h4 _) (kindB _) (run_pickT h2 (hI.evM (deps_of hdep h5 7 rfl) rfl) (hI.evM (deps_of hdep h5 14 rfl) rfl)) (hI.next A cont h3 rfl)
    · obtain ⟨o', h1, h2, h3, h4, h5⟩ := op6_4_16
      obtain rfl := Option.some.inj (ho.symm.trans h1)
      exact rl_val ho (wanted_none h4 _) (kindB _) (run_assignV h2 (hI.evM (deps_of hdep h5 15 rfl) rfl)) (hI.next A cont h3 rfl)
  · intro listed T w hl hI
    exact cont T w ⟨hI.size, hI.stop (n := 17) (fun i hi => hl i (by rw [p6_4_n]; exact hi)) rfl⟩ hI.kept
end Go.Proofs.YtfnncplokombgaaDoor
