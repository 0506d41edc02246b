/- Part 38 of 39 of what the proof of this law needs. Put together by a program out of the texts: CwN TsG TsF Leaves. -/
import Derived.Test.YtdobjciaikofdaaGreatDoorTopShakeAll37
import Derived.Conc.LeavingOf
import Derived.Deep.DeepHandedRow
import Derived.Test.YtdobjciaikofdaaGreatDoorRows
import Derived.JoinedOf
import Derived.Conc.Holds
import Derived.Handed
import Derived.Leaving
import Derived.SevenTiedAt
namespace Go.Proofs.YtdobjciaikofdaaGreatDoor
section
open Go Go.Conc Go.RowKit Go.ChangeShapes
theorem weightsAll_mem {H : Type} {P : Program} {e : TypeId} : ∀ {l : List (DataW H)} {i : Nat} {d : DataW H}, l[i]? = some d -> ∀ n ∈ d.weights P e, n ∈ DataW.weightsAll P e l
 | d0 :: l, 0, d, h, n, hn => by
  simp only [List.getElem?_cons_zero, Option.some.injEq] at h
  subst h
  simp only [DataW.weightsAll, List.mem_append]
  exact .inl hn
 | d0 :: l, i + 1, d, h, n, hn => by
  simp only [List.getElem?_cons_succ] at h
  simp only [DataW.weightsAll, List.mem_append]
  exact .inr (weightsAll_mem h n hn)
 | [], _, _, h, _, _ => by simp at h
theorem tame_of {w : World} {a : Addr} {v : Value} (h : w.cell? a = some v) : Tame w a.block := by
 obtain ⟨c, e, fr, h1, _⟩ := cell_parts h
 exact ⟨c, e, fr, h1⟩
theorem open_pcs {H : Type} {enc : TypeId × Value -> H} {P : Program} {W : World} {base : Nat} {spare : Nat -> Bool} {held : Bool} {t e b : TypeId} {a : Option Addr} {len cap : Nat} {d : DataW H} {ps : List MemPlace}
  (hu : P.underlying t = some (.slice e)) (he : P.underlying e = some (.slice b)) (hb : P.underlying b = some (.int .u8)) (ce : P.cellsOf e = 1) (cb : P.cellsOf b = 1) (be : 0 < P.bytesOf e) (bb : 0 < P.bytesOf b)
  (h : DataW.Trod enc P W base spare held t (.slice a len cap) d ps) : ∃ A L C F, Pcs W a len A L C F /\ ((∀ n ∈ d.weights P t, n <= reachBytes) -> len <= reachBytes /\ ∀ i, i < len -> L i <= reachBytes) := by
 obtain ⟨fuel, hf⟩ := h
 rcases DataW.trod_slice hu hf with ⟨hcs, hx⟩ | ⟨x, l, c, elems, rest, n, _, hcs, hx, _, _, _, hlen, hel, _, _⟩
 ·simp [Value.cells] at hcs
  obtain ⟨rfl, rfl, rfl⟩ := hcs
  exact ⟨fun _ => none, fun _ => 0, fun _ => 0, fun _ _ => 0, ⟨fun h => absurd h (by omega), fun i hi => absurd hi (by omega), fun i hi => absurd hi (by omega), fun i hi => absurd hi (by omega), fun i hi => absurd hi (by omega)⟩, fun _ => ⟨Nat.zero_le _, fun i hi => absurd hi (by omega)⟩⟩
 ·simp [Value.cells] at hcs
  obtain ⟨rfl, rfl, rfl⟩ := hcs
  have each : ∀ i, ∃ y : Option Addr × Nat × Nat × (Nat -> Nat), i < len -> W.cell? (x.add i) = some (.slice y.1 y.2.1 y.2.2.1) /\ reads W y.1 y.2.1 .u8 (fun j => (y.2.2.2 j : Int)) /\ y.2.1 <= y.2.2.1 /\ (∀ j, j < y.2.1 -> y.2.2.2 j < 256) /\ ((∀ n ∈ d.weights P t, n <= reachBytes) -> y.2.1 <= reachBytes) := by
   intro i
   by_cases hi : i < len
   ·have h1 := hel i hi
    have hy : elems[i]? = some elems[i] := List.getElem?_eq_getElem (by omega)
    rw [hy, ce, Nat.mul_one, Option.bind_eq_some_iff] at h1
    obtain ⟨cs, hc, ht⟩ := h1
    have key : ∀ a2 l2 c2, cs = [.slice a2 l2 c2] -> ((∀ n ∈ d.weights P t, n <= reachBytes) -> l2 <= reachBytes) -> ∃ y : Option Addr × Nat × Nat × (Nat -> Nat), i < len -> W.cell? (x.add i) = some (.slice y.1 y.2.1 y.2.2.1) /\ reads W y.1 y.2.1 .u8 (fun j => (y.2.2.2 j : Int)) /\ y.2.1 <= y.2.2.1 /\ (∀ j, j < y.2.1 -> y.2.2.2 j < 256) /\ ((∀ n ∈ d.weights P t, n <= reachBytes) -> y.2.1 <= reachBytes) := by
     rintro a2 l2 c2 rfl hw
     obtain ⟨f, hr, _, hlc, _, hwf⟩ := open_reads (enc := enc) (P := P) (W := W) (base := base) (spare := spare) (held := held) (t := e) (e := b) (k := .u8) (a := a2) (len := l2) (cap := c2) he hb cb ⟨n, ht⟩
     refine ⟨⟨a2, l2, c2, fun j => (f j).toNat⟩, fun _ => ⟨cell_of_cells?_one hc, reads_ext (fun j hj => ?_) hr, hlc, fun j hj => ?_, hw⟩⟩
     ·have := bd_u8 (hwf j hj)
      dsimp only
      omega
     ·have := bd_u8 (hwf j hj)
      dsimp only
      omega
    rcases DataW.trod_slice he ht with ⟨h2, _⟩ | ⟨x2, l2, c2, elems2, rest2, _, _, h2, hx2, _, _, _, hlen2, _, _, _⟩
    ·exact key _ _ _ h2 fun _ => Nat.zero_le _
    ·refine key _ _ _ h2 fun hw => ?_
     have e1 : d = .slice (elems.map (·.1)) (rest.map (·.1)) := congrArg Prod.fst hx
     have e2 : elems[i].1 = .slice (elems2.map (·.1)) (rest2.map (·.1)) := by rw [hx2]
     have m1 : (elems2.length + rest2.length) * P.bytesOf b ∈ (elems[i].1).weights P e := by
      rw [e2]
      simp [DataW.weights, he]
     have m2 : (elems2.length + rest2.length) * P.bytesOf b ∈ d.weights P t := by
      rw [e1]
      simp only [DataW.weights, hu]
      exact List.mem_cons_of_mem _ (List.mem_append_left _ (weightsAll_mem (i := i) (d := elems[i].1) (by simp [hy]) _ m1))
     have m3 := hw _ m2
     have m4 : elems2.length + rest2.length <= (elems2.length + rest2.length) * P.bytesOf b := Nat.le_mul_of_pos_right _ bb
     omega
   ·exact ⟨⟨none, 0, 0, fun _ => 0⟩, fun h => absurd h hi⟩
  obtain ⟨Y, hY⟩ := Classical.axiomOfChoice each
  refine ⟨fun i => (Y i).1, fun i => (Y i).2.1, fun i => (Y i).2.2.1, fun i => (Y i).2.2.2, ⟨fun hp => ?_, fun i hi => (hY i hi).2.1, fun i hi => (hY i hi).2.2.1, fun i hi => (hY i hi).2.2.2.1, fun i hi hl => ?_⟩, fun hw => ⟨?_, fun i hi => (hY i hi).2.2.2.2 hw⟩⟩
  ·obtain ⟨bb, off, spot⟩ := x
   have hs : spot = none := by simpa [Addr.add] using World.cell?_spot (hY 0 hp).1
   subst hs
   exact ⟨bb, off, rfl, fun j hj => by rw [<- Go.WideShapes.add_plain]; exact (hY j hj).1⟩
  ·obtain ⟨b0, o0, e0, hc0⟩ := (hY i hi).2.1 hl
   exact ⟨b0, o0, e0, tame_of (hc0 0 hl)⟩
  ·have e1 : d = .slice (elems.map (·.1)) (rest.map (·.1)) := congrArg Prod.fst hx
   have m := hw ((elems.length + rest.length) * P.bytesOf e) (by rw [e1]; simp [DataW.weights, hu])
   have m4 : elems.length + rest.length <= (elems.length + rest.length) * P.bytesOf e := Nat.le_mul_of_pos_right _ be
   omega
theorem runs_good {P : Program} {Post : Value -> World -> Prop} {fr : Frame} {W : World} (h : RunsOn P Post (G fr []) W) :
  ∃ N last o w' t', runNT P (N + 1) (solo (G fr []) W) #[] = (.ended o w', t') /\ runN P N (solo (G fr []) W) = .next last /\ step P last = .ended o w' /\ Conc.Good P Post last o w' t' :=
 h #[G fr []] none #[] (fun _ => 0) W.drawn rfl (leavers_one _ _) (past_nil.mono (Nat.zero_le _))
theorem returnsInLeavingWide_of_run {H : Type} {enc : TypeId × Value -> H} {a : Assume} {C : Checked} {os : Os} {f : FuncId} {fn : Func} {s : OpenSpec} {F : Stop.Interp} {conds : List PathCond} {apart fresh handsOn again : Bool} {laid : List (String × DataW Unit)}
  (own : ownKnob C.prog.godebug = none) (started : os.Started) (hfn : C.prog.funcs[f]? = some fn)
  (witness : ∃ (w : World) (tape : Tape) (i : Input), w.os = os /\ (w.forCall tape i).Shaped C.prog /\ i.vars = [] /\ Input.okWide C.prog (w.forCall tape i) .any w.heap.size f i /\
   s.preRow enc C.prog fn conds apart laid (w.forCall tape i).memory i.args /\ a.holds C.prog (lone (Frame.enter C.prog f i.args .normal) [] (w.forCall tape i)))
  (runs : ∀ (W : World) (base : Nat) (args : Array Value) (ds gs : List (DataW H)) (before : List MemPlace),
   (∀ (j : Nat) t v, fn.params[j]? = some t -> args[j]? = some v -> Value.okWide C.prog W .any base t v) ->
   DataW.Whole enc C.prog fn.params.toList s.vars apart W args.toList ds gs before -> laidMetH C.prog laid W -> W.ShapedOpen C.prog ->
   (DataW.weightsEach C.prog (fn.params.toList ++ s.bare.plain.varTypes C.prog) (ds ++ gs)).all (· <= reachBytes) = true ->
   RunsOn C.prog (fun v W' => (s.at F).post enc C.prog fn apart fresh handsOn again W args v W') (G (Frame.enter C.prog f args .normal) []) W) :
  ReturnsInLeavingWide a C os f .any (s.preRow enc C.prog fn conds apart laid) ((s.at F).post enc C.prog fn apart fresh handsOn again) := by
 refine returnsInLeavingWide_of_good own started witness ?_
 intro w tape i _ hsh _ hok hpre _
 obtain ⟨_, _, _, fn', hfn', _, _, _, _, hval⟩ := hok
 have e : fn' = fn := Option.some.inj (hfn'.symm.trans hfn)
 subst e
 obtain ⟨⟨hp, hl⟩, hz⟩ := hpre
 obtain ⟨ds, gs, before, hw, _, _⟩ := OpenSpec.pre_parts hp
 have hw' := DataW.Whole.of_heap (w' := w.forCall tape i) (by rfl) hw
 obtain ⟨M, last, o, w', t', h1, h2, h3, h4⟩ := runs_good (runs (w.forCall tape i) w.heap.size i.args ds gs before hval hw' (hl.of_heap (by rfl)) hsh (hz.weights hw))
 exact ⟨M, last, o, w', t', h1, h2, h3, h4.mono fun v hp => ChangeSpec.post_blind hp⟩
theorem RunsOn.mono {P : Program} {Post Post' : Value -> World -> Prop} {g : Goroutine} {w : World} (h : RunsOn P Post g w) (hp : ∀ v w', Post v w' -> Post' v w') : RunsOn P Post' g w := by
 intro gs sl t q d h0 hL hP
 obtain ⟨N, last, o, w', t', h1, h2, h3, h4⟩ := h gs sl t q d h0 hL hP
 exact ⟨N, last, o, w', t', h1, h2, h3, h4.mono fun v x => hp v _ x⟩
theorem tame_global {P : Program} {W : World} (h : W.ShapedOpen P) {g : Nat} (hg : g < P.globals.size) (hz : (((begin P (fun _ _ => 0) default).world.heap[g]?).bind Obj.row?).isSome = true) : Tame W g := by
 obtain ⟨⟨zero, t⟩, e⟩ := Option.isSome_iff_exists.1 hz
 obtain ⟨cs, h1, _⟩ := h.1 g zero t hg e
 exact ⟨cs, t, _, h1⟩
def place {H : Type} (P : Program) : Nat -> TypeId -> DataW H -> List (Nat × Value)
 | 0, _, _ => []
 | n + 1, t, d => match P.underlying t, d with
  | some (.struct fs), .agg ds => (fs.toList.zip ds).flatMap fun x => (place P n x.1.type x.2).map fun y => (x.1.offset + y.1, y.2)
  | some (.array _ e), .agg ds => ds.zipIdx.flatMap fun x => (place P n e x.1).map fun y => (x.2 * P.cellsOf e + y.1, y.2)
  | some (.int k), .lit (.int _ z) => [(0, .int k z)]
  | some .string, .lit (.string l) => [(0, .string ⟨l.toArray⟩)]
  | _, _ => []
theorem place_at {H : Type} {enc : TypeId × Value -> H} {P : Program} {w : World} {base : Nat} {sp : Nat -> Bool} {held : Bool} : ∀ (n fuel : Nat) (t : TypeId) (cs : List Value) (d : DataW H) (p : List MemPlace), DataW.trod enc P w base sp held fuel t cs = some (d, p) -> ∀ x ∈ place P n t d, cs[x.1]? = some x.2 := by
 intro n
 induction n with
 | zero => intro fuel t cs d p _ x hx; cases hx
 | succ n ih =>
  intro fuel t cs d p h x hx
  have sub : ∀ {o m : Nat} {d' : DataW H} {t' : TypeId} {f' : Nat} {p' : List MemPlace} {y : Nat × Value}, DataW.trod enc P w base sp held f' t' ((cs.drop o).take m) = some (d', p') -> y ∈ place P n t' d' -> cs[o + y.1]? = some y.2 := by
   intro o m d' t' f' p' y h1 h2
   have h3 := ih _ _ _ _ _ h1 y h2
   rw [List.getElem?_take] at h3
   split at h3
   ·rw [List.getElem?_drop] at h3
    exact h3
   ·cases h3
  unfold place at hx
  split at hx
  ·rename_i fs ds hu
   obtain ⟨xs, m, _, e, _, hl, hi⟩ := DataW.trod_struct hu h
   have e1 : ds = xs.map (·.1) := by simpa using congrArg Prod.fst e
   subst e1
   obtain ⟨⟨f, d'⟩, hz, hx⟩ := List.mem_flatMap.1 hx
   obtain ⟨y, hy, rfl⟩ := List.mem_map.1 hx
   obtain ⟨i, hzi⟩ := List.getElem?_of_mem hz
   obtain ⟨h1, h2⟩ := List.getElem?_zip_eq_some.1 hzi
   rw [List.getElem?_map, Option.map_eq_some_iff] at h2
   obtain ⟨⟨d2, p2⟩, h2, rfl⟩ := h2
   have h4 := hi i f (by simpa using h1)
   rw [h2] at h4
   exact sub h4 hy
  ·rename_i k e ds hu
   obtain ⟨xs, m, _, e2, _, hl, hi⟩ := DataW.trod_array hu h
   have e1 : ds = xs.map (·.1) := by simpa using congrArg Prod.fst e2
   subst e1
   obtain ⟨⟨d', i⟩, hz, hx⟩ := List.mem_flatMap.1 hx
   obtain ⟨y, hy, rfl⟩ := List.mem_map.1 hx
   have h2 := List.mem_zipIdx_iff_getElem?.1 hz
   dsimp only at h2
   rw [List.getElem?_map, Option.map_eq_some_iff] at h2
   obtain ⟨⟨d2, p2⟩, h2, rfl⟩ := h2
   have h4 := hi i (by have := (List.getElem?_eq_some_iff.1 h2).1; omega)
   rw [h2] at h4
   exact sub h4 hy
  ·rename_i k k' z hu
   obtain ⟨z', rfl, e, _⟩ := DataW.trod_int hu h
   simp only [Prod.mk.injEq, DataW.lit.injEq, Lit.int.injEq] at e
   simp only [List.mem_singleton] at hx
   subst hx
   simp [e.1.2]
  ·rename_i l hu
   obtain ⟨s, rfl, e, _⟩ := DataW.trod_string hu h
   simp only [Prod.mk.injEq, DataW.lit.injEq, Lit.string.injEq] at e
   simp only [List.mem_singleton] at hx
   subst hx
   rw [e.1]
   rfl
  ·cases hx
theorem laid_mem {P : Program} {W : World} : ∀ {l : List (String × DataW Unit)} {ps : List MemPlace}, DataW.LaidVars P W l ps -> ∀ x ∈ l, ∃ g t cs fuel p, P.globalNamed x.1 = some g /\ (P.globals[g]?).map (·.type) = some t /\ W.var? P x.1 = some cs /\ DataW.trod (fun _ => ()) P W 0 (fun _ => true) false fuel t cs.toList = some (x.2, p)
 | [], _, _, x, hx => by cases hx
 | (n, d) :: r, ps, h, x, hx => by
  obtain ⟨g, t, cs, fuel, p, q, h1, h2, h3, h4, h5, _⟩ := h
  rcases List.mem_cons.1 hx with rfl | hx
  ·exact ⟨g, t, cs, fuel, p, h1, h2, h3, h4⟩
  ·exact laid_mem h5 x hx
theorem laid_cells {P : Program} {W : World} {laid : List (String × DataW Unit)} (h : laidMet P laid W) {name : String} {d : DataW Unit} {g : Nat} {t : TypeId} (hm : (name, d) ∈ laid) (hg : P.globalNamed name = some g) (ht : (P.globals[g]?).map (·.type) = some t) (n : Nat) : ∀ x ∈ place P n t d, W.cell? ⟨g, x.1, none⟩ = some x.2 := by
 obtain ⟨ps, hl, _⟩ := h
 obtain ⟨g', t', cs, fuel, p, h1, h2, h3, h4⟩ := laid_mem hl _ hm
 dsimp only at h1 h2 h3 h4
 obtain rfl := Option.some.inj (hg.symm.trans h1)
 obtain rfl := Option.some.inj (ht.symm.trans h2)
 intro x hx
 have := World.var?_cell h1 h3 x.1
 rw [this]
 simpa using place_at n _ _ _ _ _ h4 x hx
theorem laidMet_of_H {P : Program} {W : World} {laid : List (String × DataW Unit)} (h : laidMetH P laid W) (e : (laid.filter fun x => x.2.handleName?.isSome) = []) : laidMet P laid W := by
 unfold laidMetH at h
 rw [e] at h
 exact h
end
section
open Go.ChangeShapes Go.WideShapes Go.ChangeAt Go.RowKit
set_option maxRecDepth 100000
theorem int_of_shaped {W : World} (hs : W.ShapedOpen Tryz.prog) {g : Nat} (hg : g < Tryz.prog.globals.size) {z : Array Value} (hz : (((begin Tryz.prog (fun _ _ => 0) default).world.heap[g]?).bind Obj.row?) = some (z, 3)) (hn : z.size = 1) : ∃ m : Int, W.cell? ⟨g, 0, none⟩ = some (.int .i64 m) := by
 obtain ⟨cs, h1, h2, h3⟩ := hs.1 g z 3 hg hz
 obtain ⟨ts, e1, _, e3⟩ := h3 (by kernel_rfl)
 have e4 : Tryz.prog.cellTypes Tryz.prog.depth 3 = some [3] := by kernel_rfl
 have e5 : ts = [3] := Option.some.inj (e1.symm.trans e4)
 have h4 : 0 < cs.size := by omega
 have hv : cs[0]? = some cs[0] := Array.getElem?_eq_getElem h4
 obtain ⟨u, hu, hok⟩ := e3 0 cs[0] hv
 rw [e5] at hu
 obtain rfl : 3 = u := Option.some.inj hu
 obtain ⟨v, ev⟩ : ∃ v, v = cs[0] := ⟨_, rfl⟩
 rw [<- ev] at hok hv
 unfold Cell.ok at hok
 rw [Tryz.underlying3] at hok
 have hc : W.cell? ⟨g, 0, none⟩ = some v := by simp only [World.cell?, h1, Option.isSome_none, Bool.false_eq_true, if_false, hv]
 rw [hc]
 cases v
 case int k n => exact ⟨n, by rw [hok.1]⟩
 all_goals exact hok.elim
theorem ground_of {W : World} (hs : W.ShapedOpen Tryz.prog) (h : laidMetH Tryz.prog Rows.topShakeRow.laid W) : GW W := by
 have h' := laidMet_of_H h (by kernel_rfl)
 refine ⟨⟨⟨?_, ?_, ?_, ?_⟩, ⟨?_, ?_, ?_, ?_⟩⟩, ⟨?_, ?_⟩, ?_, ?_⟩
 case refine_1 | refine_2 | refine_3 | refine_4 =>
  intro a ha
  have key := laid_cells h' (name := "cribble/alg.entries") (d := Rows.laid_cribble_alg_entries) (g := 2) (t := 211) (by simp [Rows.topShakeRow]) (by kernel_rfl) (by kernel_rfl) 3
  have e : place Tryz.prog 3 211 (Rows.laid_cribble_alg_entries (H := Unit)) = (List.range 15).flatMap fun a => [(a * 4, .string (algW a)), (a * 4 + 1, .int .i64 (kindC a : Nat)), (a * 4 + 2, .int .i64 (digC a : Nat)), (a * 4 + 3, .int .i64 (blkC a : Nat))] := by kernel_rfl
  rw [e] at key
  exact key (_, _) (List.mem_flatMap.2 ⟨a, List.mem_range.2 ha, by simp⟩)
 case refine_5 | refine_6 | refine_7 | refine_8 =>
  have key := laid_cells h' (name := "cribble/custom.rates") (d := Rows.laid_cribble_custom_rates) (g := 1) (t := 181) (by simp [Rows.topShakeRow]) (by kernel_rfl) (by kernel_rfl) 3
  have e : place Tryz.prog 3 181 (Rows.laid_cribble_custom_rates (H := Unit)) = [(0, .int .i64 128), (1, .int .i64 168), (2, .int .i64 256), (3, .int .i64 136)] := by kernel_rfl
  rw [e] at key
  exact key (_, _) (by simp)
 case refine_9 =>
  intro j hj
  have key := laid_cells h' (name := "cribble/step.offsets") (d := Rows.laid_cribble_step_offsets) (g := 8) (t := 355) (by simp [Rows.topShakeRow]) (by kernel_rfl) (by kernel_rfl) 2
  have e : place Tryz.prog 2 355 (Rows.laid_cribble_step_offsets (H := Unit)) = (List.range 25).map fun j => (j, .int .i64 (offC j : Nat)) := by kernel_rfl
  rw [e] at key
  exact key (_, _) (List.mem_map.2 ⟨j, List.mem_range.2 hj, rfl⟩)
 case refine_10 =>
  intro j hj
  have key := laid_cells h' (name := "cribble/step.constants") (d := Rows.laid_cribble_step_constants) (g := 9) (t := 356) (by simp [Rows.topShakeRow]) (by kernel_rfl) (by kernel_rfl) 2
  have e : place Tryz.prog 2 356 (Rows.laid_cribble_step_constants (H := Unit)) = (List.range 24).map fun j => (j, .int .u64 (rcC j : Nat)) := by kernel_rfl
  rw [e] at key
  exact key (_, _) (List.mem_map.2 ⟨j, List.mem_range.2 hj, rfl⟩)
 case refine_11 => exact int_of_shaped hs (g := 6) (z := #[.int .i64 0]) (by decide +kernel) (by kernel_rfl) rfl
 case refine_12 =>
  intro g hg
  have h5 : g = 8 \/ g = 9 \/ g = 10 \/ g = 19 \/ g = 20 := by
   have h6 : g ∈ niceG := by simpa using hg
   simpa [niceG] using h6
  rcases h5 with rfl | rfl | rfl | rfl | rfl
  all_goals exact tame_global hs (by decide +kernel) (by kernel_rfl)
end
end Go.Proofs.YtdobjciaikofdaaGreatDoor
section
namespace Go.Proofs.YtdobjciaikofdaaGreatDoor.topShake
open Go
set_option maxRecDepth 100000
theorem band {a b : Bool} (h : a = true) (k : b = true) : (a && b) = true := by rw [h, k]; rfl
theorem j0 : ((Rows.topShakeRow.wf (OpenSpec.ofChange Rows.topShakeSpec)) : Bool) = true := by kernel_rfl
theorem j1 : ((laidOutB Tryz.prog) : Bool) = true := by kernel_rfl
theorem j2 : ((mapsRowed Tryz.prog) : Bool) = true := by kernel_rfl
theorem j3 : ((Tryz.f5.params.all (Tryz.prog.readableRec ·)) : Bool) = true := by kernel_rfl
theorem j4 : ((namedTie Tryz.prog Rows.topShakeRow.named Rows.topShakeSpec.vars) : Bool) = true := by kernel_rfl
theorem j5 : (((Rows.topShakeRow.stops == [])) : Bool) = true := by kernel_rfl
theorem j6 : (((Tryz.prog.stops == [])) : Bool) = true := by kernel_rfl
theorem j7 : (((Rows.topShakeRow.knobs == [])) : Bool) = true := by kernel_rfl
theorem j8 : (((Tryz.prog.stopKnobs == [])) : Bool) = true := by kernel_rfl
theorem j9 : (((Rows.topShakeRow.inPlace == Tryz.prog.inPlace 5)) : Bool) = true := by kernel_rfl
theorem j10 : (((Rows.topShakeRow.unfollowed == Tryz.prog.unfollowed 5)) : Bool) = true := by kernel_rfl
theorem j11 : (((Rows.topShakeRow.recurses == Tryz.prog.recurses 5)) : Bool) = true := by kernel_rfl
theorem j12 : (((Rows.topShakeRow.named == Tryz.prog.varsNamed 5)) : Bool) = true := by kernel_rfl
theorem j13 : (((Rows.topShakeRow.maps == (Tryz.f5.params.toList ++ Rows.topShakeSpec.plain.varTypes Tryz.prog).any (Tryz.prog.mapsRec ·))) : Bool) = true := by kernel_rfl
theorem j14 : (((Rows.topShakeRow.ifaces == (Tryz.f5.params.toList ++ Rows.topShakeSpec.plain.varTypes Tryz.prog).any (Tryz.prog.ifacesRec ·))) : Bool) = true := by kernel_rfl
theorem j15 : (((Rows.topShakeRow.mapsOut == Tryz.prog.mapsAmong Tryz.f5.resultTypes.toList)) : Bool) = true := by kernel_rfl
theorem j16 : (((Rows.topShakeRow.loops == (Tryz.f5.params.toList ++ Rows.topShakeSpec.plain.varTypes Tryz.prog).any (Tryz.prog.loopsFrom ·))) : Bool) = true := by kernel_rfl
theorem j17 : (((Rows.topShakeRow.wideKeys == (Tryz.f5.params.toList ++ Rows.topShakeSpec.plain.varTypes Tryz.prog ++ Tryz.f5.resultTypes.toList).any (Tryz.prog.wideKeysFrom ·))) : Bool) = true := by kernel_rfl
theorem j18 : ((Rows.topShakeSpec.vars.all (Tryz.prog.varReadable ·)) : Bool) = true := by kernel_rfl
theorem j19 : ((Tryz.f5.resultTypes.all (fun (t : TypeId) => Tryz.prog.readableRec t && decide (t < Tryz.prog.types.size))) : Bool) = true := by kernel_rfl
theorem j20 : (((Rows.topShakeRow.ifacesOut == Tryz.f5.resultTypes.toList.any (Tryz.prog.ifacesRec ·))) : Bool) = true := by kernel_rfl
theorem j21 : (((Rows.topShakeRow.loopsOut == Tryz.f5.resultTypes.toList.any (Tryz.prog.loopsFrom ·))) : Bool) = true := by kernel_rfl
theorem j22 : (((Rows.topShakeRow.plainKeys == Tryz.prog.plainKeys)) : Bool) = true := by kernel_rfl
theorem j23 : ((Rows.topShakeRow.shortTexts.isNone) : Bool) = true := by kernel_rfl
theorem j24 : ((Tryz.prog.stopsHeard) : Bool) = true := by kernel_rfl
theorem j25 : ((Tryz.prog.mayEnter) : Bool) = true := by kernel_rfl
theorem j26 : (((Rows.topShakeRow.lifted == Tryz.prog.liftsFinal)) : Bool) = true := by kernel_rfl
theorem j27 : (((Tryz.prog.make == some Rows.topShakeRow.make)) : Bool) = true := by kernel_rfl
theorem j28 : (((Rows.topShakeRow.kinds == (if Rows.topShakeRow.domain.isEmpty then [] else Tryz.f5.params.toList.map fun (t : TypeId) => match Tryz.prog.underlying t with | some (.int k) => some k | _ => none))) : Bool) = true := by kernel_rfl
theorem j29 : (((Rows.topShakeRow.pinned == Rows.topShakeRow.pinnedBy)) : Bool) = true := by kernel_rfl
theorem j30 : (((Rows.topShakeRow.veiled == (Tryz.f5.params.toList ++ Rows.topShakeSpec.plain.varTypes Tryz.prog ++ Tryz.f5.resultTypes.toList).any (Tryz.prog.veiledRec ·))) : Bool) = true := by kernel_rfl
theorem j31 : ((Rows.topShakeRow.veiledFits Tryz.prog Tryz.f5.params.toList (Tryz.f5.params.toList ++ Rows.topShakeSpec.plain.varTypes Tryz.prog ++ Tryz.f5.resultTypes.toList)) : Bool) = true := by kernel_rfl
theorem closed : joinedFacts Tryz.prog 5 Tryz.f5 Rows.topShakeSpec Rows.topShakeRow = true := band (band (band (band (band (band (band (band (band (band (band (band (band (band (band (band (band (band (band (band (band (band (band (band (band (band (band (band (band (band (band j0 j1) j2) j3) j4) j5) j6) j7) j8) j9) j10) j11) j12) j13) j14) j15) j16) j17) j18) j19) j20) j21) j22) j23) j24) j25) j26) j27) j28) j29) j30) j31
end Go.Proofs.YtdobjciaikofdaaGreatDoor.topShake
end
namespace Go.Proofs.YtdobjciaikofdaaGreatDoor
section
theorem tied_goes (L : Looks) (lk : Bool) {p : Pinned} {s : OpenSpec} {c : OpenClaim} (kinds : List LaidKind) (tests : Bool) (har : Bool × String) (hc : c.holds p s) (hw : c.wfByText s = true) (htie : c.laidByTextAt L p kinds tests)
  (hst : c.start = .entering) (hnb : c.noBlocks = false /\ c.again = false) (hm : p.checked.prog.mainIs = some (har.1, har.2.toList)) (hn : har.1 = true)
  (hl : ∀ f fn, p.checked.prog.funcNamed c.func = some f -> p.checked.prog.funcs[f]? = some fn -> lk = p.checked.prog.looks [] /\ ∀ (j : Nat) t, fn.params[j]? = some t -> p.checked.prog.wantsStandIn t = false)
  (hg : true = c.goesBy p.checked.prog) :
  Claim7.holds p (.plain s) { stood := { row := c, standIns := [], harness := har, looks := lk }, kinds := [], alts := [], goes := true, laidByText := true, laidKinds := kinds, laidTests := tests, laidLooks := L } := by
 have h6 : Claim7.isSixth { stood := { row := c, standIns := [], harness := har, looks := lk }, kinds := [] } = false := by simp [Claim7.isSixth, hn]
 refine ⟨Claim7.tied_new_at L kinds tests (Claim7.new_of_sixth hc har lk hst hnb hm h6 hl) hw, fun D hD => ?_, htie, (fun h => by cases h), hg⟩
 cases hD
end
end Go.Proofs.YtdobjciaikofdaaGreatDoor
