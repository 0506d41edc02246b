/- Part 17 of 20 of what the proof of this law needs. Merged by merge.py out of: CoV LawOps. -/
import Derived.Test.YtfnncplokombgaaDoorShortChainsAll16
/- What a call does in company, out of what it does alone (47): rules for new blocks, stores, short.Schedule. -/
namespace Go.Proofs.YtfnncplokombgaaDoor
open Go Go.Conc Go.RowKit

/-- what a frame holds, step by step -/
structure Fr (N : Nat) (K : List (Nat × Value)) (T : Array Value) : Prop where
  size : T.size = N
  knows : Knows K T
theorem Fr.at {N : Nat} {K : List (Nat × Value)} {T : Array Value} (h : Fr N K T) (i : Nat) {d : Nat} {v : Value} (hp : K[i]? = some (d, v)) : T[d]? = some v := h.knows (d, v) (List.mem_of_getElem? hp)
theorem Fr.ev {N : Nat} {K : List (Nat × Value)} {T : Array Value} (h : Fr N K T) (i : Nat) {d : Nat} {v : Value} (hp : K[i]? = some (d, v)) : Act.eval ⟨T, []⟩ (.tmp d) = v := eval_tmp (h.at i hp)
theorem Fr.put {N : Nat} {K : List (Nat × Value)} {T : Array Value} (h : Fr N K T) {d : Nat} (v : Value) (hd : d < N) (hn : (K.map Prod.fst).contains d = false) : Fr N ((d, v) :: K) (T.setIfInBounds d v) := by
  refine ⟨by simpa using h.size, fun p hp => ?_⟩
  rcases List.mem_cons.1 hp with rfl | hp
  · exact Array.getElem?_setIfInBounds_self_of_lt (by rw [h.size]; exact hd)
  · rw [Array.getElem?_setIfInBounds_ne (fun e => ?_)]
    · exact h.knows p hp
    · simp only [List.contains_eq_mem, decide_eq_false_iff_not] at hn
      exact hn (e ▸ List.mem_map_of_mem hp)
theorem Fr.mono {N : Nat} {K K' : List (Nat × Value)} {T : Array Value} (h : Fr N K T) (hs : ∀ p ∈ K', p ∈ K) : Fr N K' T := ⟨h.size, fun p hp => h.knows p (hs p hp)⟩
/-- nothing but the block g has been turned -/
structure ButG (g : Nat) (w w1 : World) : Prop where
  os : w1.os = w.os
  output : w1.output = w.output
  tape : w1.tape = w.tape
  size : w.heap.size ≤ w1.heap.size
  keep : ∀ b, b < w.heap.size → b ≠ g → w1.heap[b]? = w.heap[b]?
theorem ButG.kept {g : Nat} {w0 w w1 : World} (h : ButG g w w1) (k : Kept w0 w) (hg : w0.heap.size ≤ g) : Kept w0 w1 :=
  ⟨h.os.trans k.os, h.output.trans k.output, h.tape.trans k.tape, Nat.le_trans k.size h.size, fun b hb => (h.keep b (Nat.lt_of_lt_of_le hb k.size) (by omega)).trans (k.keep b hb)⟩
theorem RowC.but {g b : Nat} {w w1 : World} {c : Array Value} {t : TypeId} (h : RowC w b c t) (k : ButG g w w1) (hn : b ≠ g) : RowC w1 b c t := h.of_eq (k.keep b h.lt hn)
section
variable {Post : Value → World → Prop}
theorem Fr.next {N : Nat} {K : List (Nat × Value)} {T : Array Value} (F : Fr N K T) {w : World} {b : Frame} {ops : Array Oper} {d : Nat} {rest : List Nat} {k : List Item} {cs : List Frame} {o : Oper} {v : Value} (hdst : o.dst = some d) (hd : d < N) (hn : (K.map Prod.fst).contains d = false)
    (cont : ∀ T' w', Fr N ((d, v) :: K) T' → Kept w w' → RunsOn Tryd.prog Post (G (b.at ⟨T', []⟩ (.inRegion ops rest :: k)) cs) w') : ∀ w', Kept w w' → RunsOn Tryd.prog Post (G (b.at (Act.put ⟨T, []⟩ o.dst v) (.inRegion ops rest :: k)) cs) w' := by
  intro w' hk
  rw [hdst]
  exact cont _ _ (F.put v hd hn) hk
/-- an operation that makes a block -/
theorem rl_new {b : Frame} {a : Act} {ops : Array Oper} {i : Nat} {rest : List Nat} {k : List Item} {cs : List Frame} {o : Oper} {w : World} {mk : Nat → Value} {c : Array Value} {t : TypeId} (ho : ops[i]? = some o) (hw : Region.wanted o (yielded ops a.tmps) = true) (hk : b.kind ≠ .early)
    (hr : ∀ w, (execOp a.eval o).run Tryd.prog w = .ok (.value (mk w.heap.size)) (w.alloc (.cells c t)) ∧ (execOp a.eval o).events Tryd.prog w #[] = #[])
    (cont : ∀ g w', Kept w w' → w.heap.size ≤ g → RowC w' g c t → RunsOn Tryd.prog Post (G (b.at (a.put o.dst (mk g)) (.inRegion ops rest :: k)) cs) w') : RunsOn Tryd.prog Post (G (b.at a (.inRegion ops (i :: rest) :: k)) cs) w :=
  run_val (w' := w.alloc (.cells c t)) (mk w.heap.size) ho hw hk (fun d => (hr (w.at d)).1) (fun d => (hr (w.at d)).2) ⟨(Kept.alloc _ _).size, rfl, rfl, rfl⟩ (cont w.heap.size _ (Kept.alloc _ _) (Nat.le_refl _) (RowC.new _ _ _))
/-- a store of a whole array -/
theorem rl_store {b : Frame} {ops : Array Oper} {i n g p q : Nat} {rest : List Nat} {k : List Item} {cs : List Frame} {o : Oper} {T : Array Value} {w : World} {ty t : TypeId} {f : Nat → Int} {c : Array Value} (hcs : c.size = n) (hokk : okOp (.store ty (.tmp p) (.tmp q)) = true) (hop : o.op = .store ty (.tmp p) (.tmp q)) (hdst : o.dst = none) (G0 : Ground w) (hlow : 2 < g) (hg : RowC w g c t) (hcv : ∀ v ∈ c, VRel (idL [0, 1, 2, g]) v v)
    (hrun : ∀ (a : Act) (W : World), hasRow W g n → a.eval (.tmp p) = .pointer (some ⟨g, 0, none⟩) → a.eval (.tmp q) = .agg (vals .u32 n f) → (execOp a.eval o).run Tryd.prog W = .ok .skip (W.setRow g (vals .u32 n f)))
    (ho : ops[i]? = some o) (hw : Region.wanted o (yielded ops T) = true) (hk : b.kind ≠ .early) (hx : T[p]? = some (.pointer (some ⟨g, 0, none⟩))) (hy : T[q]? = some (.agg (vals .u32 n f)))
    (cont : ∀ w', ButG g w w' → RowC w' g (vals .u32 n f) t → RunsOn Tryd.prog Post (G (b.at ⟨T, []⟩ (.inRegion ops rest :: k)) cs) w') : RunsOn Tryd.prog Post (G (b.at ⟨T, []⟩ (.inRegion ops (i :: rest) :: k)) cs) w := by
  have hXc := RunsOn.closed (P := Tryd.prog) (Post := Post) botB
  have M : Meet botB topB [0, 1, 2, g] [0, 1, 2] w := by
    refine ⟨fun g hg => by have := nice_of hg; simp; omega, fun b hb => ?_, fun _ _ => .inl trivial, fun b hb hn off => ?_⟩
    · simp at hb
      rcases hb with rfl | rfl | rfl | rfl
      · exact G0.tame 0 rfl
      · exact G0.tame 1 rfl
      · exact G0.tame 2 rfl
      · exact hg.tame
    · simp at hb hn
      have : b = g := by omega
      subst this
      exact hg.2 off
  refine op_skip (X := fun _ g w => RunsOn Tryd.prog Post g w) (O := topB) progOk hXc [0, 1, 2, g] [0, 1, 2] (fun j => j = p ∨ j = q) M ?_ ho hw hk (by rw [hop]; exact hokk) (fun H => H[g]? = some (.cells (vals .u32 n f) t (0, 0))) (fun TL W hT hkp hW => ?_) ?_
  · rintro j v (rfl | rfl) hv
    · rw [hx] at hv; rw [← Option.some.inj hv]; exact vrel_ptr (by simp)
    · rw [hy] at hv; rw [← Option.some.inj hv]; exact .agg _ _ rfl fun i h1 _ => vrel_vals _ _ _ _ _ (Array.getElem_mem h1)
  · obtain ⟨fr, h1⟩ := hg.1
    have e1 := ice_row [0, 1, 2, g] [0, 1, 2] (by simp) (by simp; omega) h1 hcv
    rw [← hW] at e1
    exact ⟨_, hrun _ W ⟨_, _, e1, hcs⟩ (eval_tmp ((hkp p (.inl rfl)).trans hx)) (eval_tmp ((hkp q (.inr rfl)).trans hy)), rfl, setRow_heap W g c _ t _ e1⟩
  · intro σ O1 WE wE pth hH _ hR
    rw [hdst]
    refine cont wE ⟨pth.os, pth.output, pth.tape, pth.size, fun b hb hne => ?_⟩ (hH.rowC (path_id pth (by simp)) hR (fun v hv => by
      obtain ⟨i, hi, e⟩ := Array.mem_iff_getElem.1 hv
      rw [← e, vals_get]
      exact fixed_int _ _ _))
    by_cases hL : b ∈ [0, 1, 2, g]
    · exact path_stiff M pth hL (by simp at hL ⊢; omega)
    · exact path_out pth hL hb (.inl trivial)
theorem run_store8 {p q g : Nat} {f : Nat → Int} {o : Oper} (hop : o.op = .store 31 (.tmp p) (.tmp q)) (a : Act) (W : World) (h : hasRow W g 8) (hx : a.eval (.tmp p) = .pointer (some ⟨g, 0, none⟩)) (hy : a.eval (.tmp q) = .agg (vals .u32 8 f)) : (execOp a.eval o).run Tryd.prog W = .ok .skip (W.setRow g (vals .u32 8 f)) := by
  have := run_storeCells_row Tryd.prog W g 8 .u32 f h
  unfold execOp
  simp only [hop, hx, hy]
  simp [go_sem, this, vals_size]
theorem run_store64 {p q g : Nat} {f : Nat → Int} {o : Oper} (hop : o.op = .store 25 (.tmp p) (.tmp q)) (a : Act) (W : World) (h : hasRow W g 64) (hx : a.eval (.tmp p) = .pointer (some ⟨g, 0, none⟩)) (hy : a.eval (.tmp q) = .agg (vals .u32 64 f)) : (execOp a.eval o).run Tryd.prog W = .ok .skip (W.setRow g (vals .u32 64 f)) := by
  have := run_storeCells_row Tryd.prog W g 64 .u32 f h
  unfold execOp
  simp only [hop, hx, hy]
  simp [go_sem, this, vals_size]
end
section
variable {a : Act} {o : Oper} {x : Operand}
theorem run_build123 (hop : o.op = .build 31 #[(0, .const (.int .u32 1)), (1, .const (.int .u32 2)), (2, .const (.int .u32 3))]) (w : World) : (execOp a.eval o).run Tryd.prog w = .ok (.value (.agg (vals .u32 8 (fun j => (v123 j : Int))))) w ∧ (execOp a.eval o).events Tryd.prog w #[] = #[] := by
  unfold execOp
  simp only [hop]
  constructor
  · simp [go_sem, lit123]
  · simp [go_sem]
theorem run_alloc64 (hop : o.op = .alloc 25) (w : World) : (execOp a.eval o).run Tryd.prog w = .ok (.value (.pointer (some ⟨w.heap.size, 0, none⟩))) (w.alloc (.cells (vals .u32 64 (fun _ => 0)) 25)) ∧ (execOp a.eval o).events Tryd.prog w #[] = #[] := by
  have hzv := zv64w
  unfold execOp
  simp only [hop]
  constructor
  · simp [go_sem, hzv]
  · simp [go_sem]
theorem run_extractA {cs : Array Value} {i : Nat} {v : Value} (hop : o.op = .extract x i) (hx : a.eval x = .tuple cs) (hc : cs[i]? = some v) (w : World) : (execOp a.eval o).run Tryd.prog w = .ok (.value v) w ∧ (execOp a.eval o).events Tryd.prog w #[] = #[] := by
  unfold execOp
  simp only [hop, hx]
  constructor
  · simp [go_sem, hc]
  · simp [go_sem, hc]
theorem run_mk64 (hop : o.op = .makeSlice 22 (.const (.int .i64 64)) (.const (.int .i64 64))) (w : World) : (execOp a.eval o).run Tryd.prog w = .ok (.value (.slice (some ⟨w.heap.size, 0, none⟩) 64 64)) (w.alloc (.cells (vals .u8 64 (fun _ => 0)) 5)) ∧ (execOp a.eval o).events Tryd.prog w #[] = #[] := by
  have hc : a.eval (.const (.int .i64 64)) = .int .i64 64 := rfl
  have h := mk128 w
  have h2 : (Instr.makeSlice 22 (.int .i64 64) (.int .i64 64)).events Tryd.prog w #[] = #[] := by kernel_rfl
  unfold execOp
  simp only [hop, hc]
  constructor
  · simp [go_sem, h]
  · simp [go_sem, h2]
end
end Go.Proofs.YtfnncplokombgaaDoor

/- The operations of the laws' functions, one by one. Written by gen_lawops.py. -/
namespace Go.Proofs.YtfnncplokombgaaDoor
open Go Go.Conc Go.RowKit

noncomputable def b7 : Code := (Tryd.f7.body).getD .skip
noncomputable def b5 : Code := (Tryd.f5.body).getD .skip
noncomputable def b6 : Code := (Tryd.f6.body).getD .skip
noncomputable def p7_0 : Code := cF b7
noncomputable def p7_1 : Code := cF (cS b7)
noncomputable def p7_2 : Code := cF (cS (cS b7))
noncomputable def p7_3 : Code := cF (cS (cS (cS b7)))
noncomputable def p5_0 : Code := cF b5
noncomputable def p5_1 : Code := cF (cF (cS b5))
noncomputable def p5_2 : Code := cF (cF (cS (cF (cS b5))))
noncomputable def p5_3 : Code := cF (cF (cS (cS b5)))
noncomputable def p5_4 : Code := cF (cF (cS (cF (cS (cS b5)))))
noncomputable def p5_5 : Code := cF (cS (cS (cS b5)))
noncomputable def p5_6 : Code := cF (cS (cS (cS (cS b5))))
noncomputable def p5_7 : Code := cF (cS (cS (cS (cS (cS b5)))))
noncomputable def p6_0 : Code := cF b6
noncomputable def p6_1 : Code := cF (cF (cS b6))
noncomputable def p6_2 : Code := cF (cF (cS (cF (cS b6))))
noncomputable def p6_3 : Code := cF (cS (cS b6))
noncomputable def p6_4 : Code := cF (cS (cS (cS b6)))
theorem b7_is : b7 = .seq p7_0 (.seq p7_1 (.seq p7_2 (.seq p7_3 .ret))) := by kernel_rfl
theorem b5_is : b5 = .seq p5_0 (.seq (.seq p5_1 (.cond (.tmp 10) (.seq p5_2 .ret) .skip)) (.seq (.seq p5_3 (.cond (.tmp 13) (.seq p5_4 .ret) .skip)) (.seq p5_5 (.seq p5_6 (.seq p5_7 .ret))))) := by kernel_rfl
theorem b6_is : b6 = .seq p6_0 (.seq (.seq p6_1 (.cond (.tmp 9) (.seq p6_2 .ret) .skip)) (.seq p6_3 (.seq p6_4 .ret))) := by kernel_rfl
theorem yield_at {ops : Array Oper} {T : Array Value} {j d : Nat} {o : Oper} {b : Bool} (h1 : ops[j]? = some o) (h2 : o.dst = some d) (h3 : T[d]? = some (.bool b)) : yielded ops T j = some b := by
  unfold yielded
  rw [h1, Option.bind_some, h2, Option.bind_some, h3]
theorem wanted_yes {o : Oper} {y : Nat → Option Bool} {j : Nat} (h : o.guard = some (j, true)) (hy : y j = some true) : Region.wanted o y = true := by
  unfold Region.wanted
  rw [h]
  simp [hy]
theorem p7_0_is : p7_0 = .region 0 (cO p7_0) false := by kernel_rfl
theorem p7_0_n : (cO p7_0).size = 1 := by kernel_rfl
theorem p7_0_back : edgesBack (cO p7_0) = true := by kernel_rfl
theorem op7_0_0 : ∃ o, (cO p7_0)[0]? = some o ∧ o.op = Op.assign (Operand.const (Value.bool false)) ∧ o.dst = some 0 ∧ o.guard = none ∧ deps o = [] := ⟨_, rfl, rfl, rfl, rfl, rfl⟩
theorem p7_1_is : p7_1 = .region 1 (cO p7_1) false := by kernel_rfl
theorem p7_1_n : (cO p7_1).size = 3 := by kernel_rfl
theorem p7_1_back : edgesBack (cO p7_1) = true := by kernel_rfl
theorem op7_1_0 : ∃ o, (cO p7_1)[0]? = some o ∧ o.op = Op.build 31 #[(0, Operand.const (Value.int IntKind.u32 1)), (1, Operand.const (Value.int IntKind.u32 2)), (2, Operand.const (Value.int IntKind.u32 3))] ∧ o.dst = some 4 ∧ o.guard = none ∧ deps o = [] := ⟨_, rfl, rfl, rfl, rfl, rfl⟩
theorem op7_1_1 : ∃ o, (cO p7_1)[1]? = some o ∧ o.op = Op.alloc 31 ∧ o.dst = some 1 ∧ o.guard = none ∧ deps o = [] := ⟨_, rfl, rfl, rfl, rfl, rfl⟩
theorem op7_1_2 : ∃ o, (cO p7_1)[2]? = some o ∧ o.op = Op.store 31 (Operand.tmp 1) (Operand.tmp 4) ∧ o.dst = none ∧ o.guard = none ∧ deps o = [1, 0, 0, 1] := ⟨_, rfl, rfl, rfl, rfl, rfl⟩
theorem p7_2_is : p7_2 = .region 2 (cO p7_2) false := by kernel_rfl
theorem p7_2_n : (cO p7_2).size = 8 := by kernel_rfl
theorem p7_2_back : edgesBack (cO p7_2) = true := by kernel_rfl
theorem op7_2_0 : ∃ o, (cO p7_2)[0]? = some o ∧ o.op = Op.makeSlice 22 (Operand.const (Value.int IntKind.i64 64)) (Operand.const (Value.int IntKind.i64 64)) ∧ o.dst = some 6 ∧ o.guard = none ∧ deps o = [] := ⟨_, rfl, rfl, rfl, rfl, rfl⟩
theorem op7_2_1 : ∃ o, (cO p7_2)[1]? = some o ∧ o.op = Op.call { callee := Callee.value (Operand.func 8), args := #[Operand.tmp 6], argTypes := #[22] } ∧ o.dst = some 7 ∧ o.guard = none ∧ deps o = [0] := ⟨_, rfl, rfl, rfl, rfl, rfl⟩
theorem op7_2_2 : ∃ o, (cO p7_2)[2]? = some o ∧ o.op = Op.move (Operand.tmp 7) ∧ o.dst = some 5 ∧ o.guard = none ∧ deps o = [1] := ⟨_, rfl, rfl, rfl, rfl, rfl⟩
theorem op7_2_3 : ∃ o, (cO p7_2)[3]? = some o ∧ o.op = Op.extract (Operand.tmp 5) 0 ∧ o.dst = some 8 ∧ o.guard = none ∧ deps o = [2] := ⟨_, rfl, rfl, rfl, rfl, rfl⟩
theorem op7_2_4 : ∃ o, (cO p7_2)[4]? = some o ∧ o.op = Op.extract (Operand.tmp 5) 1 ∧ o.dst = some 9 ∧ o.guard = none ∧ deps o = [2] := ⟨_, rfl, rfl, rfl, rfl, rfl⟩
theorem op7_2_5 : ∃ o, (cO p7_2)[5]? = some o ∧ o.op = Op.alloc 25 ∧ o.dst = some 2 ∧ o.guard = none ∧ deps o = [] := ⟨_, rfl, rfl, rfl, rfl, rfl⟩
theorem op7_2_6 : ∃ o, (cO p7_2)[6]? = some o ∧ o.op = Op.store 25 (Operand.tmp 2) (Operand.tmp 8) ∧ o.dst = none ∧ o.guard = none ∧ deps o = [5, 3, 1, 0, 1, 2, 3, 5] := ⟨_, rfl, rfl, rfl, rfl, rfl⟩
theorem op7_2_7 : ∃ o, (cO p7_2)[7]? = some o ∧ o.op = Op.assign (Operand.tmp 9) ∧ o.dst = some 3 ∧ o.guard = none ∧ deps o = [4, 6, 0, 1, 2, 3, 4, 5, 6] := ⟨_, rfl, rfl, rfl, rfl, rfl⟩
theorem p7_3_is : p7_3 = .region 3 (cO p7_3) true := by kernel_rfl
theorem p7_3_n : (cO p7_3).size = 13 := by kernel_rfl
theorem p7_3_back : edgesBack (cO p7_3) = true := by kernel_rfl
theorem op7_3_0 : ∃ o, (cO p7_3)[0]? = some o ∧ o.op = Op.load 31 (Operand.tmp 1) ∧ o.dst = some 10 ∧ o.guard = none ∧ deps o = [] := ⟨_, rfl, rfl, rfl, rfl, rfl⟩
theorem op7_3_1 : ∃ o, (cO p7_3)[1]? = some o ∧ o.op = Op.call { callee := Callee.value (Operand.func 12), args := #[Operand.tmp 10, Operand.const (Value.slice none 0 0)], argTypes := #[31, 22] } ∧ o.dst = some 11 ∧ o.guard = none ∧ deps o = [0] := ⟨_, rfl, rfl, rfl, rfl, rfl⟩
theorem op7_3_2 : ∃ o, (cO p7_3)[2]? = some o ∧ o.op = Op.load 31 (Operand.tmp 1) ∧ o.dst = some 12 ∧ o.guard = none ∧ deps o = [] := ⟨_, rfl, rfl, rfl, rfl, rfl⟩
theorem op7_3_3 : ∃ o, (cO p7_3)[3]? = some o ∧ o.op = Op.binOp BinOp.eql 31 (Operand.tmp 11) (Operand.tmp 12) 31 ∧ o.dst = some 13 ∧ o.guard = none ∧ deps o = [1, 2] := ⟨_, rfl, rfl, rfl, rfl, rfl⟩
theorem op7_3_4 : ∃ o, (cO p7_3)[4]? = some o ∧ o.op = Op.move (Operand.tmp 13) ∧ o.dst = some 14 ∧ o.guard = none ∧ deps o = [3, 1] := ⟨_, rfl, rfl, rfl, rfl, rfl⟩
theorem op7_3_5 : ∃ o, (cO p7_3)[5]? = some o ∧ o.op = Op.move (Operand.tmp 3) ∧ o.dst = some 15 ∧ o.guard = some (4, true) ∧ deps o = [4] := ⟨_, rfl, rfl, rfl, rfl, rfl⟩
theorem op7_3_6 : ∃ o, (cO p7_3)[6]? = some o ∧ o.op = Op.pick (Operand.tmp 14) (Operand.tmp 15) (Operand.const (Value.bool false)) ∧ o.dst = some 16 ∧ o.guard = none ∧ deps o = [4, 5] := ⟨_, rfl, rfl, rfl, rfl, rfl⟩
theorem op7_3_7 : ∃ o, (cO p7_3)[7]? = some o ∧ o.op = Op.move (Operand.tmp 16) ∧ o.dst = some 17 ∧ o.guard = none ∧ deps o = [6, 4] := ⟨_, rfl, rfl, rfl, rfl, rfl⟩
theorem op7_3_8 : ∃ o, (cO p7_3)[8]? = some o ∧ o.op = Op.load 25 (Operand.tmp 2) ∧ o.dst = some 18 ∧ o.guard = some (7, true) ∧ deps o = [7] := ⟨_, rfl, rfl, rfl, rfl, rfl⟩
theorem op7_3_9 : ∃ o, (cO p7_3)[9]? = some o ∧ o.op = Op.build 25 #[] ∧ o.dst = some 19 ∧ o.guard = some (7, true) ∧ deps o = [7] := ⟨_, rfl, rfl, rfl, rfl, rfl⟩
theorem op7_3_10 : ∃ o, (cO p7_3)[10]? = some o ∧ o.op = Op.binOp BinOp.eql 25 (Operand.tmp 18) (Operand.tmp 19) 25 ∧ o.dst = some 20 ∧ o.guard = some (7, true) ∧ deps o = [8, 9, 7] := ⟨_, rfl, rfl, rfl, rfl, rfl⟩
theorem op7_3_11 : ∃ o, (cO p7_3)[11]? = some o ∧ o.op = Op.pick (Operand.tmp 17) (Operand.tmp 20) (Operand.const (Value.bool false)) ∧ o.dst = some 21 ∧ o.guard = none ∧ deps o = [7, 10] := ⟨_, rfl, rfl, rfl, rfl, rfl⟩
theorem op7_3_12 : ∃ o, (cO p7_3)[12]? = some o ∧ o.op = Op.assign (Operand.tmp 21) ∧ o.dst = some 0 ∧ o.guard = none ∧ deps o = [11, 7, 0, 1, 2, 3, 4, 5, 6, 7, 8, 9, 10, 11] := ⟨_, rfl, rfl, rfl, rfl, rfl⟩
theorem yield7_3_4 {T : Array Value} (h : T[14]? = some (.bool true)) : yielded (cO p7_3) T 4 = some true := by
  obtain ⟨o, h1, _, h2, _⟩ := op7_3_4
  exact yield_at h1 h2 h
theorem yield7_3_7 {T : Array Value} (h : T[17]? = some (.bool true)) : yielded (cO p7_3) T 7 = some true := by
  obtain ⟨o, h1, _, h2, _⟩ := op7_3_7
  exact yield_at h1 h2 h
theorem p5_0_is : p5_0 = .region 0 (cO p5_0) false := by kernel_rfl
theorem p5_0_n : (cO p5_0).size = 2 := by kernel_rfl
theorem p5_0_back : edgesBack (cO p5_0) = true := by kernel_rfl
theorem op5_0_0 : ∃ o, (cO p5_0)[0]? = some o ∧ o.op = Op.box 31 (Operand.tmp 0) ∧ o.dst = some 3 ∧ o.guard = none ∧ deps o = [] := ⟨_, rfl, rfl, rfl, rfl, rfl⟩
theorem op5_0_1 : ∃ o, (cO p5_0)[1]? = some o ∧ o.op = Op.assign (Operand.const (Value.bool false)) ∧ o.dst = some 6 ∧ o.guard = none ∧ deps o = [] := ⟨_, rfl, rfl, rfl, rfl, rfl⟩
theorem p5_1_is : p5_1 = .region 1 (cO p5_1) false := by kernel_rfl
theorem p5_1_n : (cO p5_1).size = 2 := by kernel_rfl
theorem p5_1_back : edgesBack (cO p5_1) = true := by kernel_rfl
theorem op5_1_0 : ∃ o, (cO p5_1)[0]? = some o ∧ o.op = Op.call { callee := Callee.value (Operand.func 7), args := #[], argTypes := #[] } ∧ o.dst = some 9 ∧ o.guard = none ∧ deps o = [] := ⟨_, rfl, rfl, rfl, rfl, rfl⟩
theorem op5_1_1 : ∃ o, (cO p5_1)[1]? = some o ∧ o.op = Op.unOp UnOp.not 4 (Operand.tmp 9) ∧ o.dst = some 10 ∧ o.guard = none ∧ deps o = [0] := ⟨_, rfl, rfl, rfl, rfl, rfl⟩
theorem p5_2_is : p5_2 = .region 2 (cO p5_2) false := by kernel_rfl
theorem p5_2_n : (cO p5_2).size = 1 := by kernel_rfl
theorem p5_2_back : edgesBack (cO p5_2) = true := by kernel_rfl
theorem op5_2_0 : ∃ o, (cO p5_2)[0]? = some o ∧ o.op = Op.assign (Operand.const (Value.bool false)) ∧ o.dst = some 6 ∧ o.guard = none ∧ deps o = [] := ⟨_, rfl, rfl, rfl, rfl, rfl⟩
theorem p5_3_is : p5_3 = .region 3 (cO p5_3) false := by kernel_rfl
theorem p5_3_n : (cO p5_3).size = 3 := by kernel_rfl
theorem p5_3_back : edgesBack (cO p5_3) = true := by kernel_rfl
theorem op5_3_0 : ∃ o, (cO p5_3)[0]? = some o ∧ o.op = Op.move (Operand.tmp 1) ∧ o.dst = some 11 ∧ o.guard = none ∧ deps o = [] := ⟨_, rfl, rfl, rfl, rfl, rfl⟩
theorem op5_3_1 : ∃ o, (cO p5_3)[1]? = some o ∧ o.op = Op.call { callee := Callee.builtin Builtin.len, args := #[Operand.tmp 11], argTypes := #[22] } ∧ o.dst = some 12 ∧ o.guard = none ∧ deps o = [0] := ⟨_, rfl, rfl, rfl, rfl, rfl⟩
theorem op5_3_2 : ∃ o, (cO p5_3)[2]? = some o ∧ o.op = Op.binOp BinOp.gtr 3 (Operand.tmp 12) (Operand.const (Value.int IntKind.i64 400)) 3 ∧ o.dst = some 13 ∧ o.guard = none ∧ deps o = [1] := ⟨_, rfl, rfl, rfl, rfl, rfl⟩
theorem p5_4_is : p5_4 = .region 4 (cO p5_4) false := by kernel_rfl
theorem p5_4_n : (cO p5_4).size = 1 := by kernel_rfl
theorem p5_4_back : edgesBack (cO p5_4) = true := by kernel_rfl
theorem op5_4_0 : ∃ o, (cO p5_4)[0]? = some o ∧ o.op = Op.assign (Operand.const (Value.bool true)) ∧ o.dst = some 6 ∧ o.guard = none ∧ deps o = [] := ⟨_, rfl, rfl, rfl, rfl, rfl⟩
theorem p5_5_is : p5_5 = .region 5 (cO p5_5) false := by kernel_rfl
theorem p5_5_n : (cO p5_5).size = 5 := by kernel_rfl
theorem p5_5_back : edgesBack (cO p5_5) = true := by kernel_rfl
theorem op5_5_0 : ∃ o, (cO p5_5)[0]? = some o ∧ o.op = Op.load 31 (Operand.tmp 3) ∧ o.dst = some 14 ∧ o.guard = none ∧ deps o = [] := ⟨_, rfl, rfl, rfl, rfl, rfl⟩
theorem op5_5_1 : ∃ o, (cO p5_5)[1]? = some o ∧ o.op = Op.move (Operand.tmp 1) ∧ o.dst = some 15 ∧ o.guard = none ∧ deps o = [] := ⟨_, rfl, rfl, rfl, rfl, rfl⟩
theorem op5_5_2 : ∃ o, (cO p5_5)[2]? = some o ∧ o.op = Op.call { callee := Callee.value (Operand.func 12), args := #[Operand.tmp 14, Operand.tmp 15], argTypes := #[31, 22] } ∧ o.dst = some 16 ∧ o.guard = none ∧ deps o = [0, 1] := ⟨_, rfl, rfl, rfl, rfl, rfl⟩
theorem op5_5_3 : ∃ o, (cO p5_5)[3]? = some o ∧ o.op = Op.alloc 31 ∧ o.dst = some 7 ∧ o.guard = none ∧ deps o = [] := ⟨_, rfl, rfl, rfl, rfl, rfl⟩
theorem op5_5_4 : ∃ o, (cO p5_5)[4]? = some o ∧ o.op = Op.store 31 (Operand.tmp 7) (Operand.tmp 16) ∧ o.dst = none ∧ o.guard = none ∧ deps o = [3, 2, 2, 0, 1, 2, 3] := ⟨_, rfl, rfl, rfl, rfl, rfl⟩
theorem p5_6_is : p5_6 = .region 6 (cO p5_6) false := by kernel_rfl
theorem p5_6_n : (cO p5_6).size = 9 := by kernel_rfl
theorem p5_6_back : edgesBack (cO p5_6) = true := by kernel_rfl
theorem op5_6_0 : ∃ o, (cO p5_6)[0]? = some o ∧ o.op = Op.move (Operand.tmp 2) ∧ o.dst = some 17 ∧ o.guard = none ∧ deps o = [] := ⟨_, rfl, rfl, rfl, rfl, rfl⟩
theorem op5_6_1 : ∃ o, (cO p5_6)[1]? = some o ∧ o.op = Op.convert 5 3 (Operand.tmp 17) ∧ o.dst = some 18 ∧ o.guard = none ∧ deps o = [0] := ⟨_, rfl, rfl, rfl, rfl, rfl⟩
theorem op5_6_2 : ∃ o, (cO p5_6)[2]? = some o ∧ o.op = Op.binOp BinOp.mul 3 (Operand.tmp 18) (Operand.const (Value.int IntKind.i64 64)) 3 ∧ o.dst = some 19 ∧ o.guard = none ∧ deps o = [1] := ⟨_, rfl, rfl, rfl, rfl, rfl⟩
theorem op5_6_3 : ∃ o, (cO p5_6)[3]? = some o ∧ o.op = Op.move (Operand.tmp 1) ∧ o.dst = some 20 ∧ o.guard = none ∧ deps o = [] := ⟨_, rfl, rfl, rfl, rfl, rfl⟩
theorem op5_6_4 : ∃ o, (cO p5_6)[4]? = some o ∧ o.op = Op.call { callee := Callee.builtin Builtin.len, args := #[Operand.tmp 20], argTypes := #[22] } ∧ o.dst = some 21 ∧ o.guard = none ∧ deps o = [3] := ⟨_, rfl, rfl, rfl, rfl, rfl⟩
theorem op5_6_5 : ∃ o, (cO p5_6)[5]? = some o ∧ o.op = Op.binOp BinOp.quo 3 (Operand.tmp 21) (Operand.const (Value.int IntKind.i64 64)) 3 ∧ o.dst = some 22 ∧ o.guard = none ∧ deps o = [4] := ⟨_, rfl, rfl, rfl, rfl, rfl⟩
theorem op5_6_6 : ∃ o, (cO p5_6)[6]? = some o ∧ o.op = Op.binOp BinOp.mul 3 (Operand.tmp 22) (Operand.const (Value.int IntKind.i64 64)) 3 ∧ o.dst = some 23 ∧ o.guard = none ∧ deps o = [5] := ⟨_, rfl, rfl, rfl, rfl, rfl⟩
theorem op5_6_7 : ∃ o, (cO p5_6)[7]? = some o ∧ o.op = Op.call { callee := Callee.builtin Builtin.min, args := #[Operand.tmp 19, Operand.tmp 23], argTypes := #[3, 3] } ∧ o.dst = some 24 ∧ o.guard = none ∧ deps o = [2, 6] := ⟨_, rfl, rfl, rfl, rfl, rfl⟩
theorem op5_6_8 : ∃ o, (cO p5_6)[8]? = some o ∧ o.op = Op.assign (Operand.tmp 24) ∧ o.dst = some 8 ∧ o.guard = none ∧ deps o = [7, 0, 1, 2, 3, 4, 5, 6, 7] := ⟨_, rfl, rfl, rfl, rfl, rfl⟩
theorem p5_7_is : p5_7 = .region 7 (cO p5_7) true := by kernel_rfl
theorem p5_7_n : (cO p5_7).size = 31 := by kernel_rfl
theorem p5_7_back : edgesBack (cO p5_7) = true := by kernel_rfl
theorem op5_7_0 : ∃ o, (cO p5_7)[0]? = some o ∧ o.op = Op.load 31 (Operand.tmp 7) ∧ o.dst = some 25 ∧ o.guard = none ∧ deps o = [] := ⟨_, rfl, rfl, rfl, rfl, rfl⟩
theorem op5_7_1 : ∃ o, (cO p5_7)[1]? = some o ∧ o.op = Op.load 31 (Operand.tmp 3) ∧ o.dst = some 26 ∧ o.guard = none ∧ deps o = [] := ⟨_, rfl, rfl, rfl, rfl, rfl⟩
theorem op5_7_2 : ∃ o, (cO p5_7)[2]? = some o ∧ o.op = Op.move (Operand.tmp 1) ∧ o.dst = some 27 ∧ o.guard = none ∧ deps o = [] := ⟨_, rfl, rfl, rfl, rfl, rfl⟩
theorem op5_7_3 : ∃ o, (cO p5_7)[3]? = some o ∧ o.op = Op.call { callee := Callee.value (Operand.func 13), args := #[Operand.tmp 26, Operand.tmp 27], argTypes := #[31, 22] } ∧ o.dst = some 28 ∧ o.guard = none ∧ deps o = [1, 2] := ⟨_, rfl, rfl, rfl, rfl, rfl⟩
theorem op5_7_4 : ∃ o, (cO p5_7)[4]? = some o ∧ o.op = Op.binOp BinOp.eql 31 (Operand.tmp 25) (Operand.tmp 28) 31 ∧ o.dst = some 29 ∧ o.guard = none ∧ deps o = [0, 3] := ⟨_, rfl, rfl, rfl, rfl, rfl⟩
theorem op5_7_5 : ∃ o, (cO p5_7)[5]? = some o ∧ o.op = Op.move (Operand.tmp 29) ∧ o.dst = some 30 ∧ o.guard = none ∧ deps o = [4, 3] := ⟨_, rfl, rfl, rfl, rfl, rfl⟩
theorem op5_7_6 : ∃ o, (cO p5_7)[6]? = some o ∧ o.op = Op.load 31 (Operand.tmp 3) ∧ o.dst = some 31 ∧ o.guard = some (5, true) ∧ deps o = [5] := ⟨_, rfl, rfl, rfl, rfl, rfl⟩
theorem op5_7_7 : ∃ o, (cO p5_7)[7]? = some o ∧ o.op = Op.move (Operand.tmp 1) ∧ o.dst = some 32 ∧ o.guard = some (5, true) ∧ deps o = [5] := ⟨_, rfl, rfl, rfl, rfl, rfl⟩
theorem op5_7_8 : ∃ o, (cO p5_7)[8]? = some o ∧ o.op = Op.move (Operand.tmp 8) ∧ o.dst = some 33 ∧ o.guard = some (5, true) ∧ deps o = [5] := ⟨_, rfl, rfl, rfl, rfl, rfl⟩
theorem op5_7_9 : ∃ o, (cO p5_7)[9]? = some o ∧ o.op = Op.slice 22 (Operand.tmp 32) none (some (Operand.tmp 33)) none ∧ o.dst = some 34 ∧ o.guard = some (5, true) ∧ deps o = [7, 8, 5] := ⟨_, rfl, rfl, rfl, rfl, rfl⟩
theorem op5_7_10 : ∃ o, (cO p5_7)[10]? = some o ∧ o.op = Op.call { callee := Callee.value (Operand.func 12), args := #[Operand.tmp 31, Operand.tmp 34], argTypes := #[31, 22] } ∧ o.dst = some 35 ∧ o.guard = some (5, true) ∧ deps o = [6, 9, 5, 5] := ⟨_, rfl, rfl, rfl, rfl, rfl⟩
theorem op5_7_11 : ∃ o, (cO p5_7)[11]? = some o ∧ o.op = Op.move (Operand.tmp 1) ∧ o.dst = some 36 ∧ o.guard = some (5, true) ∧ deps o = [5] := ⟨_, rfl, rfl, rfl, rfl, rfl⟩
theorem op5_7_12 : ∃ o, (cO p5_7)[12]? = some o ∧ o.op = Op.move (Operand.tmp 8) ∧ o.dst = some 37 ∧ o.guard = some (5, true) ∧ deps o = [5] := ⟨_, rfl, rfl, rfl, rfl, rfl⟩
theorem op5_7_13 : ∃ o, (cO p5_7)[13]? = some o ∧ o.op = Op.slice 22 (Operand.tmp 36) (some (Operand.tmp 37)) none none ∧ o.dst = some 38 ∧ o.guard = some (5, true) ∧ deps o = [11, 12, 5] := ⟨_, rfl, rfl, rfl, rfl, rfl⟩
theorem op5_7_14 : ∃ o, (cO p5_7)[14]? = some o ∧ o.op = Op.call { callee := Callee.value (Operand.func 12), args := #[Operand.tmp 35, Operand.tmp 38], argTypes := #[31, 22] } ∧ o.dst = some 39 ∧ o.guard = some (5, true) ∧ deps o = [10, 13, 10, 5] := ⟨_, rfl, rfl, rfl, rfl, rfl⟩
theorem op5_7_15 : ∃ o, (cO p5_7)[15]? = some o ∧ o.op = Op.load 31 (Operand.tmp 7) ∧ o.dst = some 40 ∧ o.guard = some (5, true) ∧ deps o = [5] := ⟨_, rfl, rfl, rfl, rfl, rfl⟩
theorem op5_7_16 : ∃ o, (cO p5_7)[16]? = some o ∧ o.op = Op.binOp BinOp.eql 31 (Operand.tmp 39) (Operand.tmp 40) 31 ∧ o.dst = some 41 ∧ o.guard = some (5, true) ∧ deps o = [14, 15, 5] := ⟨_, rfl, rfl, rfl, rfl, rfl⟩
theorem op5_7_17 : ∃ o, (cO p5_7)[17]? = some o ∧ o.op = Op.pick (Operand.tmp 30) (Operand.tmp 41) (Operand.const (Value.bool false)) ∧ o.dst = some 42 ∧ o.guard = none ∧ deps o = [5, 16] := ⟨_, rfl, rfl, rfl, rfl, rfl⟩
theorem op5_7_18 : ∃ o, (cO p5_7)[18]? = some o ∧ o.op = Op.move (Operand.tmp 42) ∧ o.dst = some 43 ∧ o.guard = none ∧ deps o = [17, 14] := ⟨_, rfl, rfl, rfl, rfl, rfl⟩
theorem op5_7_19 : ∃ o, (cO p5_7)[19]? = some o ∧ o.op = Op.load 31 (Operand.tmp 3) ∧ o.dst = some 44 ∧ o.guard = some (18, true) ∧ deps o = [18] := ⟨_, rfl, rfl, rfl, rfl, rfl⟩
theorem op5_7_20 : ∃ o, (cO p5_7)[20]? = some o ∧ o.op = Op.move (Operand.tmp 1) ∧ o.dst = some 45 ∧ o.guard = some (18, true) ∧ deps o = [18] := ⟨_, rfl, rfl, rfl, rfl, rfl⟩
theorem op5_7_21 : ∃ o, (cO p5_7)[21]? = some o ∧ o.op = Op.move (Operand.tmp 1) ∧ o.dst = some 46 ∧ o.guard = some (18, true) ∧ deps o = [18] := ⟨_, rfl, rfl, rfl, rfl, rfl⟩
theorem op5_7_22 : ∃ o, (cO p5_7)[22]? = some o ∧ o.op = Op.call { callee := Callee.builtin Builtin.len, args := #[Operand.tmp 46], argTypes := #[22] } ∧ o.dst = some 47 ∧ o.guard = some (18, true) ∧ deps o = [21, 18] := ⟨_, rfl, rfl, rfl, rfl, rfl⟩
theorem op5_7_23 : ∃ o, (cO p5_7)[23]? = some o ∧ o.op = Op.binOp BinOp.quo 3 (Operand.tmp 47) (Operand.const (Value.int IntKind.i64 64)) 3 ∧ o.dst = some 48 ∧ o.guard = some (18, true) ∧ deps o = [22, 18] := ⟨_, rfl, rfl, rfl, rfl, rfl⟩
theorem op5_7_24 : ∃ o, (cO p5_7)[24]? = some o ∧ o.op = Op.binOp BinOp.mul 3 (Operand.tmp 48) (Operand.const (Value.int IntKind.i64 64)) 3 ∧ o.dst = some 49 ∧ o.guard = some (18, true) ∧ deps o = [23, 18] := ⟨_, rfl, rfl, rfl, rfl, rfl⟩
theorem op5_7_25 : ∃ o, (cO p5_7)[25]? = some o ∧ o.op = Op.slice 22 (Operand.tmp 45) none (some (Operand.tmp 49)) none ∧ o.dst = some 50 ∧ o.guard = some (18, true) ∧ deps o = [20, 24, 18] := ⟨_, rfl, rfl, rfl, rfl, rfl⟩
theorem op5_7_26 : ∃ o, (cO p5_7)[26]? = some o ∧ o.op = Op.call { callee := Callee.value (Operand.func 12), args := #[Operand.tmp 44, Operand.tmp 50], argTypes := #[31, 22] } ∧ o.dst = some 51 ∧ o.guard = some (18, true) ∧ deps o = [19, 25, 18, 18] := ⟨_, rfl, rfl, rfl, rfl, rfl⟩
theorem op5_7_27 : ∃ o, (cO p5_7)[27]? = some o ∧ o.op = Op.load 31 (Operand.tmp 7) ∧ o.dst = some 52 ∧ o.guard = some (18, true) ∧ deps o = [18] := ⟨_, rfl, rfl, rfl, rfl, rfl⟩
theorem op5_7_28 : ∃ o, (cO p5_7)[28]? = some o ∧ o.op = Op.binOp BinOp.eql 31 (Operand.tmp 51) (Operand.tmp 52) 31 ∧ o.dst = some 53 ∧ o.guard = some (18, true) ∧ deps o = [26, 27, 18] := ⟨_, rfl, rfl, rfl, rfl, rfl⟩
theorem op5_7_29 : ∃ o, (cO p5_7)[29]? = some o ∧ o.op = Op.pick (Operand.tmp 43) (Operand.tmp 53) (Operand.const (Value.bool false)) ∧ o.dst = some 54 ∧ o.guard = none ∧ deps o = [18, 28] := ⟨_, rfl, rfl, rfl, rfl, rfl⟩
theorem op5_7_30 : ∃ o, (cO p5_7)[30]? = some o ∧ o.op = Op.assign (Operand.tmp 54) ∧ o.dst = some 6 ∧ o.guard = none ∧ deps o = [29, 26, 0, 1, 2, 3, 4, 5, 6, 7, 8, 9, 10, 11, 12, 13, 14, 15, 16, 17, 18, 19, 20, 21, 22, 23, 24, 25, 26, 27, 28, 29] := ⟨_, rfl, rfl, rfl, rfl, rfl⟩
theorem yield5_7_5 {T : Array Value} (h : T[30]? = some (.bool true)) : yielded (cO p5_7) T 5 = some true := by
  obtain ⟨o, h1, _, h2, _⟩ := op5_7_5
  exact yield_at h1 h2 h
theorem yield5_7_18 {T : Array Value} (h : T[43]? = some (.bool true)) : yielded (cO p5_7) T 18 = some true := by
  obtain ⟨o, h1, _, h2, _⟩ := op5_7_18
  exact yield_at h1 h2 h
theorem p6_0_is : p6_0 = .region 0 (cO p6_0) false := by kernel_rfl
theorem p6_0_n : (cO p6_0).size = 4 := by kernel_rfl
theorem p6_0_back : edgesBack (cO p6_0) = true := by kernel_rfl
theorem op6_0_0 : ∃ o, (cO p6_0)[0]? = some o ∧ o.op = Op.box 31 (Operand.tmp 0) ∧ o.dst = some 3 ∧ o.guard = none ∧ deps o = [] := ⟨_, rfl, rfl, rfl, rfl, rfl⟩
theorem op6_0_1 : ∃ o, (cO p6_0)[1]? = some o ∧ o.op = Op.box 36 (Operand.tmp 1) ∧ o.dst = some 4 ∧ o.guard = none ∧ deps o = [] := ⟨_, rfl, rfl, rfl, rfl, rfl⟩
theorem op6_0_2 : ∃ o, (cO p6_0)[2]? = some o ∧ o.op = Op.box 36 (Operand.tmp 2) ∧ o.dst = some 5 ∧ o.guard = none ∧ deps o = [] := ⟨_, rfl, rfl, rfl, rfl, rfl⟩
theorem op6_0_3 : ∃ o, (cO p6_0)[3]? = some o ∧ o.op = Op.assign (Operand.const (Value.bool false)) ∧ o.dst = some 6 ∧ o.guard = none ∧ deps o = [] := ⟨_, rfl, rfl, rfl, rfl, rfl⟩
theorem p6_1_is : p6_1 = .region 1 (cO p6_1) false := by kernel_rfl
theorem p6_1_n : (cO p6_1).size = 2 := by kernel_rfl
theorem p6_1_back : edgesBack (cO p6_1) = true := by kernel_rfl
theorem op6_1_0 : ∃ o, (cO p6_1)[0]? = some o ∧ o.op = Op.call { callee := Callee.value (Operand.func 7), args := #[], argTypes := #[] } ∧ o.dst = some 8 ∧ o.guard = none ∧ deps o = [] := ⟨_, rfl, rfl, rfl, rfl, rfl⟩
theorem op6_1_1 : ∃ o, (cO p6_1)[1]? = some o ∧ o.op = Op.unOp UnOp.not 4 (Operand.tmp 8) ∧ o.dst = some 9 ∧ o.guard = none ∧ deps o = [0] := ⟨_, rfl, rfl, rfl, rfl, rfl⟩
theorem p6_2_is : p6_2 = .region 2 (cO p6_2) false := by kernel_rfl
theorem p6_2_n : (cO p6_2).size = 1 := by kernel_rfl
theorem p6_2_back : edgesBack (cO p6_2) = true := by kernel_rfl
theorem op6_2_0 : ∃ o, (cO p6_2)[0]? = some o ∧ o.op = Op.assign (Operand.const (Value.bool false)) ∧ o.dst = some 6 ∧ o.guard = none ∧ deps o = [] := ⟨_, rfl, rfl, rfl, rfl, rfl⟩
theorem p6_3_is : p6_3 = .region 3 (cO p6_3) true := by kernel_rfl
theorem p6_3_n : (cO p6_3).size = 9 := by kernel_rfl
theorem p6_3_back : edgesBack (cO p6_3) = true := by kernel_rfl
theorem op6_3_0 : ∃ o, (cO p6_3)[0]? = some o ∧ o.op = Op.load 31 (Operand.tmp 3) ∧ o.dst = some 10 ∧ o.guard = none ∧ deps o = [] := ⟨_, rfl, rfl, rfl, rfl, rfl⟩
theorem op6_3_1 : ∃ o, (cO p6_3)[1]? = some o ∧ o.op = Op.buildSlice 22 0 #[] ∧ o.dst = some 11 ∧ o.guard = none ∧ deps o = [] := ⟨_, rfl, rfl, rfl, rfl, rfl⟩
theorem op6_3_2 : ∃ o, (cO p6_3)[2]? = some o ∧ o.op = Op.slice 36 (Operand.tmp 4) none none none ∧ o.dst = some 12 ∧ o.guard = none ∧ deps o = [] := ⟨_, rfl, rfl, rfl, rfl, rfl⟩
theorem op6_3_3 : ∃ o, (cO p6_3)[3]? = some o ∧ o.op = Op.call { callee := Callee.builtin Builtin.append, args := #[Operand.tmp 11, Operand.tmp 12], argTypes := #[22, 22] } ∧ o.dst = some 13 ∧ o.guard = none ∧ deps o = [1, 2] := ⟨_, rfl, rfl, rfl, rfl, rfl⟩
theorem op6_3_4 : ∃ o, (cO p6_3)[4]? = some o ∧ o.op = Op.slice 36 (Operand.tmp 5) none none none ∧ o.dst = some 14 ∧ o.guard = none ∧ deps o = [] := ⟨_, rfl, rfl, rfl, rfl, rfl⟩
theorem op6_3_5 : ∃ o, (cO p6_3)[5]? = some o ∧ o.op = Op.call { callee := Callee.builtin Builtin.append, args := #[Operand.tmp 13, Operand.tmp 14], argTypes := #[22, 22] } ∧ o.dst = some 15 ∧ o.guard = none ∧ deps o = [3, 4, 3] := ⟨_, rfl, rfl, rfl, rfl, rfl⟩
theorem op6_3_6 : ∃ o, (cO p6_3)[6]? = some o ∧ o.op = Op.call { callee := Callee.value (Operand.func 12), args := #[Operand.tmp 10, Operand.tmp 15], argTypes := #[31, 22] } ∧ o.dst = some 16 ∧ o.guard = none ∧ deps o = [0, 5, 5] := ⟨_, rfl, rfl, rfl, rfl, rfl⟩
theorem op6_3_7 : ∃ o, (cO p6_3)[7]? = some o ∧ o.op = Op.alloc 31 ∧ o.dst = some 7 ∧ o.guard = none ∧ deps o = [] := ⟨_, rfl, rfl, rfl, rfl, rfl⟩
theorem op6_3_8 : ∃ o, (cO p6_3)[8]? = some o ∧ o.op = Op.store 31 (Operand.tmp 7) (Operand.tmp 16) ∧ o.dst = none ∧ o.guard = none ∧ deps o = [7, 6, 6, 0, 1, 2, 3, 4, 5, 6, 7] := ⟨_, rfl, rfl, rfl, rfl, rfl⟩
theorem p6_4_is : p6_4 = .region 4 (cO p6_4) true := by kernel_rfl
theorem p6_4_n : (cO p6_4).size = 17 := by kernel_rfl
theorem p6_4_back : edgesBack (cO p6_4) = true := by kernel_rfl
theorem op6_4_0 : ∃ o, (cO p6_4)[0]? = some o ∧ o.op = Op.load 31 (Operand.tmp 7) ∧ o.dst = some 17 ∧ o.guard = none ∧ deps o = [] := ⟨_, rfl, rfl, rfl, rfl, rfl⟩
theorem op6_4_1 : ∃ o, (cO p6_4)[1]? = some o ∧ o.op = Op.load 31 (Operand.tmp 3) ∧ o.dst = some 18 ∧ o.guard = none ∧ deps o = [] := ⟨_, rfl, rfl, rfl, rfl, rfl⟩
theorem op6_4_2 : ∃ o, (cO p6_4)[2]? = some o ∧ o.op = Op.slice 36 (Operand.tmp 4) none none none ∧ o.dst = some 19 ∧ o.guard = none ∧ deps o = [] := ⟨_, rfl, rfl, rfl, rfl, rfl⟩
theorem op6_4_3 : ∃ o, (cO p6_4)[3]? = some o ∧ o.op = Op.call { callee := Callee.value (Operand.func 12), args := #[Operand.tmp 18, Operand.tmp 19], argTypes := #[31, 22] } ∧ o.dst = some 20 ∧ o.guard = none ∧ deps o = [1, 2] := ⟨_, rfl, rfl, rfl, rfl, rfl⟩
theorem op6_4_4 : ∃ o, (cO p6_4)[4]? = some o ∧ o.op = Op.slice 36 (Operand.tmp 5) none none none ∧ o.dst = some 21 ∧ o.guard = none ∧ deps o = [] := ⟨_, rfl, rfl, rfl, rfl, rfl⟩
theorem op6_4_5 : ∃ o, (cO p6_4)[5]? = some o ∧ o.op = Op.call { callee := Callee.value (Operand.func 12), args := #[Operand.tmp 20, Operand.tmp 21], argTypes := #[31, 22] } ∧ o.dst = some 22 ∧ o.guard = none ∧ deps o = [3, 4, 3] := ⟨_, rfl, rfl, rfl, rfl, rfl⟩
theorem op6_4_6 : ∃ o, (cO p6_4)[6]? = some o ∧ o.op = Op.binOp BinOp.eql 31 (Operand.tmp 17) (Operand.tmp 22) 31 ∧ o.dst = some 23 ∧ o.guard = none ∧ deps o = [0, 5] := ⟨_, rfl, rfl, rfl, rfl, rfl⟩
theorem op6_4_7 : ∃ o, (cO p6_4)[7]? = some o ∧ o.op = Op.move (Operand.tmp 23) ∧ o.dst = some 24 ∧ o.guard = none ∧ deps o = [6, 5] := ⟨_, rfl, rfl, rfl, rfl, rfl⟩
theorem op6_4_8 : ∃ o, (cO p6_4)[8]? = some o ∧ o.op = Op.load 31 (Operand.tmp 7) ∧ o.dst = some 25 ∧ o.guard = some (7, true) ∧ deps o = [7] := ⟨_, rfl, rfl, rfl, rfl, rfl⟩
theorem op6_4_9 : ∃ o, (cO p6_4)[9]? = some o ∧ o.op = Op.load 31 (Operand.tmp 3) ∧ o.dst = some 26 ∧ o.guard = some (7, true) ∧ deps o = [7] := ⟨_, rfl, rfl, rfl, rfl, rfl⟩
theorem op6_4_10 : ∃ o, (cO p6_4)[10]? = some o ∧ o.op = Op.slice 36 (Operand.tmp 4) none none none ∧ o.dst = some 27 ∧ o.guard = some (7, true) ∧ deps o = [7] := ⟨_, rfl, rfl, rfl, rfl, rfl⟩
theorem op6_4_11 : ∃ o, (cO p6_4)[11]? = some o ∧ o.op = Op.call { callee := Callee.value (Operand.func 13), args := #[Operand.tmp 26, Operand.tmp 27], argTypes := #[31, 22] } ∧ o.dst = some 28 ∧ o.guard = some (7, true) ∧ deps o = [9, 10, 7, 7] := ⟨_, rfl, rfl, rfl, rfl, rfl⟩
theorem op6_4_12 : ∃ o, (cO p6_4)[12]? = some o ∧ o.op = Op.slice 36 (Operand.tmp 5) none none none ∧ o.dst = some 29 ∧ o.guard = some (7, true) ∧ deps o = [7] := ⟨_, rfl, rfl, rfl, rfl, rfl⟩
theorem op6_4_13 : ∃ o, (cO p6_4)[13]? = some o ∧ o.op = Op.call { callee := Callee.value (Operand.func 13), args := #[Operand.tmp 28, Operand.tmp 29], argTypes := #[31, 22] } ∧ o.dst = some 30 ∧ o.guard = some (7, true) ∧ deps o = [11, 12, 11, 7] := ⟨_, rfl, rfl, rfl, rfl, rfl⟩
theorem op6_4_14 : ∃ o, (cO p6_4)[14]? = some o ∧ o.op = Op.binOp BinOp.eql 31 (Operand.tmp 25) (Operand.tmp 30) 31 ∧ o.dst = some 31 ∧ o.guard = some (7, true) ∧ deps o = [8, 13, 7] := ⟨_, rfl, rfl, rfl, rfl, rfl⟩
theorem op6_4_15 : ∃ o, (cO p6_4)[15]? = some o ∧ o.op = Op.pick (Operand.tmp 24) (Operand.tmp 31) (Operand.const (Value.bool false)) ∧ o.dst = some 32 ∧ o.guard = none ∧ deps o = [7, 14] := ⟨_, rfl, rfl, rfl, rfl, rfl⟩
theorem op6_4_16 : ∃ o, (cO p6_4)[16]? = some o ∧ o.op = Op.assign (Operand.tmp 32) ∧ o.dst = some 6 ∧ o.guard = none ∧ deps o = [15, 13, 0, 1, 2, 3, 4, 5, 6, 7, 8, 9, 10, 11, 12, 13, 14, 15] := ⟨_, rfl, rfl, rfl, rfl, rfl⟩
theorem yield6_4_7 {T : Array Value} (h : T[24]? = some (.bool true)) : yielded (cO p6_4) T 7 = some true := by
  obtain ⟨o, h1, _, h2, _⟩ := op6_4_7
  exact yield_at h1 h2 h
end Go.Proofs.YtfnncplokombgaaDoor
