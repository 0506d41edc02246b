/- Part 13 of 20 of what the proof of this law needs. Merged by merge.py out of: CoP CoJ. -/
import Derived.Test.YtfnncplokombgaaDoorShortChainsAll11
import Derived.Test.YtfnncplokombgaaDoorShortChainsAll12
/- What a call does in company, out of what it does alone (37): one operation that yields a value. -/
namespace Go.Proofs.YtfnncplokombgaaDoor
open Go Go.Conc

theorem Path.trans {ρ σ τ : BRel} {O S O1 O2 : BSet} {A B C a b c : World} (p : Path ρ σ O S O1 A B a b) (_H : HRel σ B b) (q : Path σ τ O1 S O2 B C b c) : Path ρ τ O S O2 A C a c where
  os := q.os.trans p.os
  output := q.output.trans p.output
  tape := q.tape.trans p.tape
  size := Nat.le_trans p.size q.size
  lsize := Nat.le_trans p.lsize q.lsize
  keep := fun x hx hO hs => by
    have e1 := p.keep x hx hO hs
    have e2 := q.keep x (Nat.lt_of_lt_of_le hx p.size) (hO.imp (p.own x) id) fun y hy => by
      rcases p.fresh y x hy with h | ⟨_, h⟩
      · rcases Nat.lt_or_ge y A.heap.size with hl | hl
        · exact (p.stiff y hl).2 (hs y h)
        · obtain ⟨cc, e, hi, hg, _⟩ := hs y h
          have := (Array.getElem?_eq_some_iff.1 hg).1
          omega
      · omega
    rw [e2, e1]
  stiff := fun x hx => (q.stiff x (Nat.lt_of_lt_of_le hx p.lsize)).trans (p.stiff x hx)
  fresh := fun x y h => by
    rcases q.fresh x y h with h | ⟨h3, h4⟩
    · exact p.fresh x y h
    · exact .inr ⟨Nat.le_trans p.lsize h3, Nat.le_trans p.size h4⟩
  own := fun x h => q.own x (p.own x h)
  anew := fun x h => by
    have := p.size
    have := q.size
    rcases q.anew x h with h | h
    · rcases p.anew x h with h | h
      · exact .inl h
      · exact .inr ⟨h.1, by omega⟩
    · exact .inr ⟨by omega, h.2⟩
  sub := p.sub.trans q.sub
section
variable {P : Program} {m : Bool} {S : BSet} {X : BSet → Goroutine → World → Prop}
theorem stepG_value2 {b : Frame} {a : Act} {ops : Array Oper} {i : Nat} {rest : List Nat} {k : List Item} {cs : List Frame} {o : Oper} {v : Value} {w w' : World} {es : Array Event} (ho : ops[i]? = some o) (hw : Region.wanted o (yielded ops a.tmps) = true) (hk : b.kind ≠ .early) (hr : (execOp a.eval o).runT P w #[] = (.ok (.value v) w', es)) :
    stepG P m (G (b.at a (.inRegion ops (i :: rest) :: k)) cs) w = .go (G (b.at (a.put o.dst v) (.inRegion ops rest :: k)) cs) w' (seen P b.fn es) := by
  have e1 : ((execOp a.eval o).runT P w #[]).1 = .ok (.value v) w' := by rw [hr]
  have e2 : ((execOp a.eval o).runT P w #[]).2 = es := by rw [hr]
  rw [Sem.runT_eq] at e1 e2
  dsimp only at e1 e2
  rw [stepG_value ho hw hk e1]
  unfold listed
  rw [e2]
theorem eval_rel {ρ : BRel} (F : Fine ρ) {T T' : Array Value} (h : RowRel ρ T T') {ds ds' : List Deferred} (x : Operand) (hx : okO x = true) : VRel ρ (Act.eval ⟨T, ds⟩ x) (Act.eval ⟨T', ds'⟩ x) := by
  cases x with
  | tmp t => exact h.getD t
  | const v => exact flatV_rel hx ρ
  | global g => exact .ptr (.mk (F.tabs g hx) 0 none)
  | func f => exact .func f hx _ _ _ _ rfl rfl (fun i h1 => by simp at h1) (fun i h1 => by simp at h1)
/-- ONE OPERATION that yields a value -/
theorem op_piece (OK : ProgOk P) (hX : Closed P m S X) (L Ls : List Nat) (keep : Nat → Prop) {w : World} {O : BSet} (M : Meet S O L Ls w) {b : Frame} {T' : Array Value} (hT : ∀ i v, keep i → T'[i]? = some v → VRel (idL L) v v) {ops : Array Oper} {i : Nat} {rest : List Nat} {k : List Item} {ds : List Deferred} {cs : List Frame} {o : Oper}
    (ho : ops[i]? = some o) (hw : Region.wanted o (yielded ops T') = true) (hk : b.kind ≠ .early) (hok : okOp o.op = true) (v : Value) (R : Array Obj → Prop)
    (hE : ∀ (T : Array Value) (W : World), T.size = T'.size → (∀ i, keep i → T[i]? = T'[i]?) → W.heap = (ice L Ls w).heap → ∃ W', (execOp (Act.eval ⟨T, ds⟩) o).run P W = .ok (.value v) W' ∧ W'.drawn = W.drawn ∧ R W'.heap)
    (cont : ∀ (σ : BRel) (O1 : BSet) (v' : Value) (WE wE : World), Path (idL L) σ O S O1 (ice L Ls w) WE w wE → VRel σ v v' → HRel σ WE wE → Img σ O1 S WE → R WE.heap → X O1 (G (b.at (Act.put ⟨T', ds⟩ o.dst v') (.inRegion ops rest :: k)) cs) wE) :
    X O (G (b.at ⟨T', ds⟩ (.inRegion ops (i :: rest) :: k)) cs) w := by
  obtain ⟨T, hT1, hT2⟩ := dull_row (idL L) T' keep hT
  have H := M.rel
  have I := M.img
  obtain ⟨W', e1, e2, e3⟩ := hE T (ice L Ls w) hT1.1 hT2 rfl
  refine hX O _ w rfl fun w1 Ry => ?_
  have H1 := H.rely I Ry
  obtain ⟨σ, n', w2, es, h1, h2, h3, h4, h5, h6⟩ := (sim_op OK H.fine (o := o) hok (fun x hx => eval_rel H.fine hT1 (ds := ds) (ds' := ds) x hx)).runs (es := #[]) (es' := #[]) H1 (like_none (W' := w1) e2) (by rw [Sem.runT_eq, e1])
  rw [Array.empty_append] at h4
  have h2' : ∃ v', n' = .value v' ∧ VRel σ v v' := by
    cases h2
    exact ⟨_, rfl, by assumption⟩
  obtain ⟨v', rfl, hv⟩ := h2'
  have I2 : Img σ (grown O w1 w2) S W' := by
    intro x y hxy
    rcases h5.fresh x y hxy with hab1 | ⟨_, hb⟩
    · have hst := (h5.stiff x (H1.lt hab1).1)
      have := I x y hab1
      exact ⟨fun hn => .inl (this.1 fun z => hn (hst.2 z)), fun hy => (this.2 (hst.1 hy)).imp .inl id⟩
    · have : grown O w1 w2 y := .inr ⟨hb, (h3.lt hxy).2⟩
      exact ⟨fun _ => this, fun _ => .inl this⟩
  refine ⟨_, _, _, stepG_value2 ho hw hk h4, turn_guar I h5 fun e he => good_fit H1 h3 I h5 (h6 e (mem_seen he)), ?_⟩
  exact cont σ _ v' W' w2 (Path.step (T := (ice L Ls w).tape) H1 h1 Ry (by exact h5) (Path.refl σ _ S _ _)) hv h3 I2 e3
theorem stepG_skip2 {b : Frame} {a : Act} {ops : Array Oper} {i : Nat} {rest : List Nat} {k : List Item} {cs : List Frame} {o : Oper} {w w' : World} {es : Array Event} (ho : ops[i]? = some o) (hw : Region.wanted o (yielded ops a.tmps) = true) (hk : b.kind ≠ .early) (hr : (execOp a.eval o).runT P w #[] = (.ok .skip w', es)) :
    stepG P m (G (b.at a (.inRegion ops (i :: rest) :: k)) cs) w = .go (G (b.at (a.put o.dst undef) (.inRegion ops rest :: k)) cs) w' (seen P b.fn es) := by
  have e1 : ((execOp a.eval o).runT P w #[]).1 = .ok .skip w' := by rw [hr]
  have e2 : ((execOp a.eval o).runT P w #[]).2 = es := by rw [hr]
  rw [Sem.runT_eq] at e1 e2
  dsimp only at e1 e2
  have hfin : (b.at a (.inRegion ops (i :: rest) :: k)).finish undef = b.at (a.put o.dst undef) (.inRegion ops rest :: k) := by rw [Frame.finish_at, ho]; rfl
  have hk' : (b.kind == CallKind.early) = false := by simpa using hk
  rw [stepG_oper ho hw, ← hfin]
  simp [stepG.apply, e1, e2, G, Frame.at, hk', GStep.after]
/-- ONE OPERATION that yields nothing -/
theorem op_skip (OK : ProgOk P) (hX : Closed P m S X) (L Ls : List Nat) (keep : Nat → Prop) {w : World} {O : BSet} (M : Meet S O L Ls w) {b : Frame} {T' : Array Value} (hT : ∀ i v, keep i → T'[i]? = some v → VRel (idL L) v v) {ops : Array Oper} {i : Nat} {rest : List Nat} {k : List Item} {ds : List Deferred} {cs : List Frame} {o : Oper}
    (ho : ops[i]? = some o) (hw : Region.wanted o (yielded ops T') = true) (hk : b.kind ≠ .early) (hok : okOp o.op = true) (R : Array Obj → Prop)
    (hE : ∀ (T : Array Value) (W : World), T.size = T'.size → (∀ i, keep i → T[i]? = T'[i]?) → W.heap = (ice L Ls w).heap → ∃ W', (execOp (Act.eval ⟨T, ds⟩) o).run P W = .ok .skip W' ∧ W'.drawn = W.drawn ∧ R W'.heap)
    (cont : ∀ (σ : BRel) (O1 : BSet) (WE wE : World), Path (idL L) σ O S O1 (ice L Ls w) WE w wE → HRel σ WE wE → Img σ O1 S WE → R WE.heap → X O1 (G (b.at (Act.put ⟨T', ds⟩ o.dst undef) (.inRegion ops rest :: k)) cs) wE) :
    X O (G (b.at ⟨T', ds⟩ (.inRegion ops (i :: rest) :: k)) cs) w := by
  obtain ⟨T, hT1, hT2⟩ := dull_row (idL L) T' keep hT
  have H := M.rel
  have I := M.img
  obtain ⟨W', e1, e2, e3⟩ := hE T (ice L Ls w) hT1.1 hT2 rfl
  refine hX O _ w rfl fun w1 Ry => ?_
  have H1 := H.rely I Ry
  obtain ⟨σ, n', w2, es, h1, h2, h3, h4, h5, h6⟩ := (sim_op OK H.fine (o := o) hok (fun x hx => eval_rel H.fine hT1 (ds := ds) (ds' := ds) x hx)).runs (es := #[]) (es' := #[]) H1 (like_none (W' := w1) e2) (by rw [Sem.runT_eq, e1])
  rw [Array.empty_append] at h4
  have h2' : n' = .skip := by
    cases h2
    rfl
  subst h2'
  have I2 : Img σ (grown O w1 w2) S W' := by
    intro x y hxy
    rcases h5.fresh x y hxy with hab1 | ⟨_, hb⟩
    · have hst := (h5.stiff x (H1.lt hab1).1)
      have := I x y hab1
      exact ⟨fun hn => .inl (this.1 fun z => hn (hst.2 z)), fun hy => (this.2 (hst.1 hy)).imp .inl id⟩
    · have : grown O w1 w2 y := .inr ⟨hb, (h3.lt hxy).2⟩
      exact ⟨fun _ => this, fun _ => .inl this⟩
  refine ⟨_, _, _, stepG_skip2 ho hw hk h4, turn_guar I h5 fun e he => good_fit H1 h3 I h5 (h6 e (mem_seen he)), ?_⟩
  exact cont σ _ W' w2 (Path.step (T := (ice L Ls w).tape) H1 h1 Ry (by exact h5) (Path.refl σ _ S _ _)) h3 I2 e3
/-- A CALL of a function that is borne, by its lone contract -/
theorem call_piece (OK : ProgOk P) (hX : Closed P m S X) (L Ls : List Nat) {w : World} {O : BSet} (M : Meet S O L Ls w) {f : FuncId} {args : Array Value} (hf : niceF.contains f = true) (ha : ∀ v ∈ args, VRel (idL L) v v) (v : Value) (R : Array Obj → Prop) {c : Frame} {cs : List Frame}
    (hC : ∀ W : World, W.heap = (ice L Ls w).heap → Calls P f args W fun e w' => e = .returned v ∧ R w'.heap)
    (cont : ∀ (σ : BRel) (O1 : BSet) (v' : Value) (WE wE : World), Path (idL L) σ O S O1 (ice L Ls w) WE w wE → VRel σ v v' → HRel σ WE wE → Img σ O1 S WE → R WE.heap → X O1 (G (c.finish v') cs) wE) :
    X O (G (Frame.enter P f args .normal) (c :: cs)) w := by
  have H := M.rel
  have I := M.img
  obtain ⟨F, okf⟩ := enter_rel OK (ρ := idL L) hf (a := args) (a' := args) ⟨rfl, fun i h1 _ => ha _ (Array.getElem_mem h1)⟩
  have SR : SRel P (idL L) ⟨[], [], c :: cs⟩ (Frame.enter P f args .normal) [sent P] (Frame.enter P f args .normal) (c :: cs) := .base (low := ⟨[], [], c :: cs⟩) F rfl rfl
  have ok : OkS P (Frame.enter P f args .normal) [sent P] := ⟨okf, fun x hx => .inl (by simpa using hx)⟩
  let Stop : Frame → World → Prop := fun fr W => fr.leaving P W (.returned v) ∧ R W.heap
  have hpc : ∀ fr w, Stop fr w → if false = true then fr.mode = .run else ((⟨[], [], c :: cs⟩ : Low).todo = [] ∧ fr.mode = .returning) := by
    rintro fr w ⟨⟨h1, _⟩, _⟩
    rw [if_neg (by decide)]
    exact ⟨rfl, h1⟩
  have hEnds : Ends P Stop (Frame.enter P f args .normal) [sent P] (ice L Ls w) := by
    intro tp _
    obtain ⟨e, w', fr, ⟨rfl, hR⟩, ⟨n, hn⟩, _, h4⟩ := hC { ice L Ls w with tape := tp } rfl [sent P]
    exact ⟨n, fr, w', hn, h4, hR⟩
  have hR := road_of OK (low := ⟨[], [], c :: cs⟩) false hpc ⟨_, _, _, _, SR, H, ok⟩ hEnds
  refine follow OK (low := ⟨[], [], c :: cs⟩) false m hX hpc hR hEnds SR H ok I ?_
  rintro σ O1 frE frE' csE' WE wE p hS hH hI ⟨tp, ⟨l1, l2, l3, fn, l4, l5⟩, hRW⟩
  rcases hS.cases1 with ⟨_, _, hF⟩ | ⟨hl, _⟩
  · have hcs : csE' = c :: cs := by
      cases hS with
      | base => rfl
      | up h1 h2 h3 h4 t => cases t
    subst hcs
    obtain ⟨f1, f2, f3, f4, ⟨d, f5, f6⟩, f7, f8⟩ := hF
    have e2 : d = [] := by rw [l2] at f6; cases f6; rfl
    have e3 : frE'.mode = .returning := by
      rcases f7 with ⟨h, _⟩ | ⟨_, h⟩
      · rw [l1] at h; cases h
      · exact h
    have e6 : frE'.kind = .normal := (f2.1 rfl).trans l3
    obtain ⟨fn', tmps', todo', defers', mode', kind', roundOf'⟩ := frE'
    dsimp only at f1 f3 f5 e3 e6
    subst e2 e3 e6
    refine hX O1 _ wE rfl fun w1 Ry => ?_
    have H1 := hH.rely hI Ry
    obtain ⟨τ, v', w2, ds, h1, h2, h3, h4, h5, h6⟩ := (sim_results fn f3).runs (es := #[]) (es' := #[]) (H1.lone tp) (like_none (W' := w1) (rfl : ({ WE with tape := tp } : World).drawn = ({ WE with tape := tp } : World).drawn)) (by rw [Sem.runT_eq, l5])
    rw [Array.empty_append] at h4
    have hf' : P.funcs[fn']? = some fn := by rw [f1]; exact l4
    have hst : stepG P m (G ⟨fn', tmps', todo', defers', .returning, .normal, roundOf'⟩ (c :: cs)) w1 = .go (G (c.finish v') cs) w2 (seen P fn' ds) := by
      have e1 : ((results fn tmps').runT P w1 #[]).1 = .ok v' w2 := by rw [h4]
      have e2 : ((results fn tmps').runT P w1 #[]).2 = ds := by rw [h4]
      rw [Sem.runT_eq] at e1 e2
      dsimp only at e1 e2
      have f5' : defers' = [] := f5
      subst f5'
      simp [G, stepG, unwind, doReturn, hf', e1, e2, GStep.after]
    have I2 : Img τ (grown O1 w1 w2) S { WE with tape := tp } := by
      intro x y hxy
      rcases h5.fresh x y hxy with hab1 | ⟨_, hb⟩
      · have := hI x y hab1
        exact ⟨fun hn => .inl (this.1 hn), fun hy => (this.2 hy).imp .inl id⟩
      · have : grown O1 w1 w2 y := .inr ⟨hb, (h3.lt hxy).2⟩
        exact ⟨fun _ => this, fun _ => .inl this⟩
    refine ⟨_, _, _, hst, turn_guar (ρ := σ) (σ := τ) (W := { WE with tape := tp }) (W1 := { WE with tape := tp }) hI h5 fun e he => good_fit (H1.lone tp) h3 hI h5 (h6 e (mem_seen he)), ?_⟩
    have p2 : Path σ τ O1 S (grown O1 w1 w2) WE { WE with tape := tp } wE w2 := Path.step (T := tp) H1 h1 Ry h5 (Path.refl τ _ S _ _)
    exact cont τ _ v' { WE with tape := tp } w2 (p.trans hH p2) h2 h3 I2 hRW
  · exact absurd rfl hl
end
end Go.Proofs.YtfnncplokombgaaDoor

/- What a call does in company, out of what it does alone (36): the sender of schedules, whole. -/
namespace Go.Proofs.YtfnncplokombgaaDoor
open Go Go.Conc

theorem eval_tmp {T : Array Value} {ds : List Deferred} {i : Nat} {v : Value} (h : T[i]? = some v) : Act.eval ⟨T, ds⟩ (.tmp i) = v := by
  show T.getD i undef = v
  rw [Array.getD_eq_getD_getElem?, h]
  rfl
theorem served_at {b : Frame} {a : Act} {ops : Array Oper} {i : Nat} {rest : List Nat} {k : List Item} {cs : List Frame} {o : Oper} (v : Value) (ho : ops[i]? = some o) : Conc.served (G (b.at a (.inRegion ops (i :: rest) :: k)) cs) v = G (b.at (a.put o.dst v) (.inRegion ops rest :: k)) cs := by
  have h := Frame.finish_at b a ops i rest k v
  rw [ho] at h
  unfold Conc.served
  show ({ frame := (b.at a (.inRegion ops (i :: rest) :: k)).finish v, callers := cs, status := .running, dying := none, offers := none } : Goroutine) = _
  rw [h]
  rfl
/-- the number j schedule of the bytes f -/
def schedV (f : Nat → Int) (j : Nat) : Value := .agg (vals .u32 64 (fun i => (sched32 (word32 (fun i => f (64 * j + i))) i : Int)))
section
variable {S : BSet} {c oc bc ib off len : Nat} {f : Nat → Int} {n : Nat}
theorem keep01 {T' : Array Value} (h0 : T'[0]? = some (.pointer (some ⟨oc, 0, none⟩))) (h1 : T'[1]? = some (.pointer (some ⟨bc, 0, none⟩))) : ∀ i v, (i = 0 ∨ i = 1) → T'[i]? = some v → VRel (idL [0, 1, 2, ib, oc, bc]) v v := by
  intro i v hi hv
  rcases hi with rfl | rfl
  · rw [h0] at hv
    rw [← Option.some.inj hv]
    exact vrel_ptr (by simp)
  · rw [h1] at hv
    rw [← Option.some.inj hv]
    exact vrel_ptr (by simp)
/-- what is known behind a piece of the sender's -/
theorem after_piece (sh : Shared S oc ib) (hne : bc ∉ [0, 1, 2, ib, oc]) {j : Nat} {O O1 : BSet} {w wE WE : World} {σ : BRel} {TE TE' : Array Value} (hi : WI S c oc bc ib off len f j O w) (p : Path (idL [0, 1, 2, ib, oc, bc]) σ O S O1 (ice [0, 1, 2, ib, oc, bc] [0, 1, 2, ib, oc] w) WE w wE) (hT : RowRel σ TE TE') (hH : HRel σ WE wE)
    (h0 : TE[0]? = some (.pointer (some ⟨oc, 0, none⟩))) (h1 : TE[1]? = some (.pointer (some ⟨bc, 0, none⟩))) {o L cc : Nat} {t : TypeId} {j2 : Nat} (hb : WE.heap[bc]? = some (.cells #[.slice (some ⟨ib, o, none⟩) L cc] t (0, 0))) (hl : L + 64 * j2 = len ∧ L ≤ cc ∧ (64 ≤ L → o = off + 64 * j2)) :
    TE'[0]? = some (.pointer (some ⟨oc, 0, none⟩)) ∧ TE'[1]? = some (.pointer (some ⟨bc, 0, none⟩)) ∧ WI S c oc bc ib off len f j2 O1 wE := by
  have M := hi.meet sh hne
  refine ⟨hT.fixed h0 (fixed_ptr hH.fine (path_id p (by simp))), hT.fixed h1 (fixed_ptr hH.fine (path_id p (by simp))), ?_⟩
  have hst : ∀ b, b ∈ [0, 1, 2, ib, oc] → wE.heap[b]? = w.heap[b]? := fun b hb => path_stiff M p (by simp at hb ⊢; omega) hb
  exact hi.move (p.own bc hi.own) hst ⟨o, L, cc, t, hH.rowC (path_id p (by simp)) hb (fun v hv => by
    simp at hv
    subst hv
    exact fixed_slice hH.fine (path_id p (by simp)) _ _), hl⟩
theorem hk36 : ([dclose c] = [] → (baseD 36).kind = .normal) ∧ ([dclose c] ≠ [] → (baseD 36).kind = .deferred) := ⟨fun h => (by cases h), fun _ => rfl⟩
/-- the loop's head -/
theorem sender_head (sh : Shared S oc ib) (hne : bc ∉ [0, 1, 2, ib, oc]) {j : Nat} {T' : Array Value} {k : List Item} (hsz : T'.size = 18) (h0 : T'[0]? = some (.pointer (some ⟨oc, 0, none⟩))) (h1 : T'[1]? = some (.pointer (some ⟨bc, 0, none⟩)))
    (h : ∀ T' : Array Value, T'.size = 18 → T'[0]? = some (.pointer (some ⟨oc, 0, none⟩)) → T'[1]? = some (.pointer (some ⟨bc, 0, none⟩)) → All (PlanW Tryd.prog S c n (.tuple #[]) (schedV f) j) (WI S c oc bc ib off len f j) (G ((baseD 36).at ⟨T', [dclose c]⟩ (.code (if decide (64 + 64 * j ≤ len) = true then .skip else .exit 0) :: .code (.block 1 (.seq p36_2 (.seq p36_3 p36_4))) :: k)) [bornF Tryd.prog])) :
    All (PlanW Tryd.prog S c n (.tuple #[]) (schedV f) j) (WI S c oc bc ib off len f j) (G ((baseD 36).at ⟨T', [dclose c]⟩ (.code L36 :: k)) [bornF Tryd.prog]) := by
  have hX := PlanW.closed (P := Tryd.prog) (S := S) (c := c) (n := n) (z := .tuple #[]) (vals := schedV f) j
  have hst := WI.stab (c := c) (bc := bc) (off := off) (len := len) (f := f) sh j
  refine All.ctl hX hst (fun w => by rw [L36_is]; exact stepG_seq) ?_
  refine All.ctl hX hst (fun w => stepG_seq) ?_
  intro O w hi
  refine code_piece progOk hX [0, 1, 2, ib, oc, bc] [0, 1, 2, ib, oc] (fun i => i = 0 ∨ i = 1) (hi.meet sh hne) (keep01 h0 h1) hk36 (by kernel_rfl)
    (fun TE H => TE.size = 18 ∧ TE[0]? = some (.pointer (some ⟨oc, 0, none⟩)) ∧ TE[1]? = some (.pointer (some ⟨bc, 0, none⟩)) ∧ TE[7]? = some (.bool (decide (64 + 64 * j ≤ len))) ∧ H = (ice [0, 1, 2, ib, oc, bc] [0, 1, 2, ib, oc] w).heap) (fun T W hT hkp hW => ?_) ?_
  · obtain ⟨l1, l2, l3, o, L, cc, t, l4, l5, l6, l7, l8⟩ := hi.lone hne hW
    obtain ⟨x0, x1, x2, x3, x4, x5, x6, x7, x8, x9, x10, x11, x12, x13, x14, x15, x16, x17, rfl⟩ := lit18 (hT.trans hsz)
    obtain rfl : x0 = _ := Option.some.inj ((hkp 0 (.inl rfl)).trans h0)
    obtain rfl : x1 = _ := Option.some.inj ((hkp 1 (.inr rfl)).trans h1)
    exact Go.wp_mono (w36_1 x2 x3 x4 x5 x6 x7 x8 x9 x10 x11 x12 x13 x14 x15 x16 x17 oc bc _ L cc t W l5 (decide (64 + 64 * j ≤ len)) (decide_eq_decide.2 (by omega))) fun e a' w' ⟨q1, q2, q3, q4, q5, q6, q7⟩ => ⟨q1, q2, q3, q4, q5, q6, q7.trans hW⟩
  · rintro σ O1 TE TE' WE wE p hT hH _ ⟨r1, r2, r3, r4, r5⟩
    obtain ⟨l1, l2, l3, o, L, cc, t, l4, l5, l6⟩ := hi.lone hne (W := WE) r5
    obtain ⟨t0, t1, hi2⟩ := after_piece sh hne hi p hT hH r2 r3 l5 l6
    have t7 := hT.fixed r4 (fixed_bool _ _)
    exact All.ctl hX hst (fun w => stepG_cond (eval_tmp t7)) (h TE' (hT.1.symm.trans r1) t0 t1) O1 wE hi2
theorem op36_3a : ∃ o, (cO p36_3)[0]? = some o ∧ o.op = .load 58 (.tmp 0) ∧ o.dst = some 14 ∧ o.guard = none := ⟨_, rfl, rfl, rfl, rfl⟩
theorem op36_3b : ∃ o, (cO p36_3)[1]? = some o ∧ o.op = .load 25 (.tmp 2) ∧ o.dst = some 15 ∧ o.guard = none := ⟨_, rfl, rfl, rfl, rfl⟩
theorem run_load64 {a : Act} {o : Oper} {x : Operand} {g : Nat} {c : Array Value} {t : TypeId} {fr : Nat × Nat} (hop : o.op = .load 25 x) (hx : a.eval x = .pointer (some ⟨g, 0, none⟩)) (w : World) (hw : w.heap[g]? = some (.cells c t fr)) (hc : c.size = 64) : (execOp a.eval o).run Tryd.prog w = .ok (.value (.agg c)) w := by
  have h := run_loadVar_row (P := Tryd.prog) w g t 25 c fr _ hw Tryd.underlying25 rfl (by rw [hc]; kernel_rfl)
  unfold execOp
  simp only [hop, hx]
  simp only [Instr.loadAt, Instr.sureAddr, Sem.run_bind, Sem.run_pure, Result.andThen_ok, h]
/-- where the sender stands once a schedule is laid -/
structure WJ (S : BSet) (c oc bc ib off len : Nat) (f : Nat → Int) (j g : Nat) (sv : Nat → Nat) (O : BSet) (w : World) : Prop where
  wi : WI S c oc bc ib off len f j O w
  own : O g
  row : ∃ t, RowC w g (vals .u32 64 (fun i => (sv i : Int))) t
theorem WJ.stab {g : Nat} {sv : Nat → Nat} (sh : Shared S oc ib) (j : Nat) : Stab S (WJ S c oc bc ib off len f j g sv) := by
  intro O w w1 h R
  obtain ⟨t, ht⟩ := h.row
  exact ⟨WI.stab sh j O w w1 h.wi R, h.own, t, ht.of_eq (R.keep g (.inl h.own))⟩
theorem WJ.meet {g : Nat} {sv : Nat → Nat} {j : Nat} {O : BSet} {w : World} (h : WJ S c oc bc ib off len f j g sv O w) (sh : Shared S oc ib) (hne : bc ∉ [0, 1, 2, ib, oc]) : Meet S O [0, 1, 2, ib, oc, bc, g] [0, 1, 2, ib, oc, bc, g] w := by
  have M := h.wi.meet sh hne
  obtain ⟨t, ht⟩ := h.row
  refine ⟨fun x hx => ?_, fun b hb => ?_, fun b hb => ?_, fun b hb hn => absurd hb hn⟩
  · have := M.tabs x hx
    simp at this ⊢
    omega
  · by_cases hg : b = g
    · subst hg; exact ht.tame
    · exact M.tame b (by simp at hb ⊢; omega)
  · by_cases hg : b = g
    · subst hg; exact .inl h.own
    · have := M.own b (by simp at hb ⊢; omega)
      exact this.imp id fun x => ⟨x.1, hb⟩
theorem WJ.path {g : Nat} {sv : Nat → Nat} {j : Nat} {O O1 : BSet} {w wE WE : World} {σ : BRel} (h : WJ S c oc bc ib off len f j g sv O w) (sh : Shared S oc ib) (hne : bc ∉ [0, 1, 2, ib, oc]) (p : Path (idL [0, 1, 2, ib, oc, bc, g]) σ O S O1 (ice [0, 1, 2, ib, oc, bc, g] [0, 1, 2, ib, oc, bc, g] w) WE w wE) : WJ S c oc bc ib off len f j g sv O1 wE := by
  have M := h.meet sh hne
  have hs : ∀ b, b ∈ [0, 1, 2, ib, oc, bc, g] → wE.heap[b]? = w.heap[b]? := fun b hb => path_stiff M p hb hb
  obtain ⟨t, ht⟩ := h.row
  obtain ⟨o, L, cc, t2, h1, h2⟩ := h.wi.bcell
  exact ⟨h.wi.move (p.own bc h.wi.own) (fun b hb => hs b (by simp at hb ⊢; omega)) ⟨o, L, cc, t2, h1.of_eq (hs bc (by simp)), h2⟩, p.own g h.own, t, ht.of_eq (hs g (by simp))⟩
theorem kind36 : (baseD 36).kind ≠ .early := by intro h; cases h
theorem fixed_vals (σ : BRel) (n : Nat) (h : Nat → Int) (k : IntKind) : Fixed σ (.agg (vals k n h)) := fixed_agg fun v hv => by
  obtain ⟨i, hi, e⟩ := Array.mem_iff_getElem.1 hv
  rw [← e, vals_get]
  exact fixed_int _ _ _
theorem vrel_vals (ρ : BRel) (n : Nat) (h : Nat → Int) (k : IntKind) : ∀ v ∈ vals k n h, VRel ρ v v := fun v hv => by
  obtain ⟨i, hi, e⟩ := Array.mem_iff_getElem.1 hv
  rw [← e, vals_get]
  exact .int _ _
/-- the two loads, the send -/
theorem sender_send (sh : Shared S oc ib) (hne : bc ∉ [0, 1, 2, ib, oc]) {j g : Nat} (hjn : j < n) {T' : Array Value} {k : List Item} (hsz : T'.size = 18) (h0 : T'[0]? = some (.pointer (some ⟨oc, 0, none⟩))) (h1 : T'[1]? = some (.pointer (some ⟨bc, 0, none⟩))) (h2 : T'[2]? = some (.pointer (some ⟨g, 0, none⟩)))
    (h : ∀ T' : Array Value, T'.size = 18 → T'[0]? = some (.pointer (some ⟨oc, 0, none⟩)) → T'[1]? = some (.pointer (some ⟨bc, 0, none⟩)) → All (PlanW Tryd.prog S c n (.tuple #[]) (schedV f) (j + 1)) (WJ S c oc bc ib off len f j g (sched32 (word32 (fun i => f (64 * j + i))))) (G ((baseD 36).at ⟨T', [dclose c]⟩ k) [bornF Tryd.prog])) :
    All (PlanW Tryd.prog S c n (.tuple #[]) (schedV f) j) (WJ S c oc bc ib off len f j g (sched32 (word32 (fun i => f (64 * j + i))))) (G ((baseD 36).at ⟨T', [dclose c]⟩ (.code p36_3 :: k)) [bornF Tryd.prog]) := by
  have hX := PlanW.closed (P := Tryd.prog) (S := S) (c := c) (n := n) (z := .tuple #[]) (vals := schedV f) j
  have hX2 := PlanW.closed (P := Tryd.prog) (S := S) (c := c) (n := n) (z := .tuple #[]) (vals := schedV f) (j + 1)
  have hst := WJ.stab (c := c) (bc := bc) (off := off) (len := len) (f := f) (g := g) (sv := sched32 (word32 (fun i => f (64 * j + i)))) sh j
  obtain ⟨o1, a1, a2, a3, a4⟩ := op36_3a
  obtain ⟨o2, b1, b2, b3, b4⟩ := op36_3b
  obtain ⟨o3, c1, c2, c3, c4⟩ := op36_3
  have hr : List.range (cO p36_3).size = [0, 1, 2] := by kernel_rfl
  refine All.ctl hX hst (fun w => by rw [p36_3_is]; exact stepG_region) ?_
  rw [hr]
  intro O w hi
  have M := hi.meet sh hne
  refine op_piece progOk hX _ _ (fun i => i = 0) M (fun i v hi hv => by subst hi; rw [h0] at hv; rw [← Option.some.inj hv]; exact vrel_ptr (by simp)) a1 (wanted_none a4 _) kind36 (by rw [a2]; rfl) (.chan (some c)) (fun _ => True) (fun T W hT hkp hW => ?_) ?_
  · obtain ⟨e, fr, ho⟩ := hi.wi.ocell
    have hw : W.cell? ⟨oc, 0, none⟩ = some (.chan (some c)) := by
      rw [← ice_cell [0, 1, 2, ib, oc, bc, g] [0, 1, 2, ib, oc, bc, g] (w := w) (a := ⟨oc, 0, none⟩) (v := .chan (some c)) (by unfold World.cell?; rw [ho]; rfl) (.chan c)]
      exact heap_cell (by rw [hW])
    exact ⟨W, (run_loadC a2 (eval_tmp ((hkp 0 rfl).trans h0)) W hw).1, rfl, trivial⟩
  rintro σ O1 v' WE wE p hv _ _ _
  obtain rfl := fixed_chan σ c v' hv
  rw [a3]
  have hi2 := hi.path sh hne p
  have M2 := hi2.meet sh hne
  have hsz2 : (T'.setIfInBounds 14 (.chan (some c))).size = 18 := by simpa using hsz
  refine op_piece progOk hX _ _ (fun i => i = 2) (T' := T'.setIfInBounds 14 (.chan (some c))) M2 (fun i v hi hv => by subst hi; rw [Array.getElem?_setIfInBounds_ne (by decide), h2] at hv; rw [← Option.some.inj hv]; exact vrel_ptr (by simp)) b1 (wanted_none b4 _) kind36 (by rw [b2]; rfl) (schedV f j) (fun _ => True) (fun T W hT hkp hW => ?_) ?_
  · obtain ⟨t, ⟨⟨fr, hrow⟩, hth⟩⟩ := hi2.row
    obtain ⟨fr', hw, _⟩ := ice_cells [0, 1, 2, ib, oc, bc, g] [0, 1, 2, ib, oc, bc, g] (by simp) hrow
    rw [meek_all (vrel_vals _ _ _ _)] at hw
    exact ⟨W, run_load64 b2 (eval_tmp ((hkp 2 rfl).trans ((Array.getElem?_setIfInBounds_ne (by decide)).trans h2))) W (by rw [hW]; exact hw) (vals_size _ _ _), rfl, trivial⟩
  rintro σ2 O2 v2 WE2 wE2 p2 hv2 _ _ _
  obtain rfl := fixed_vals σ2 _ _ _ v2 hv2
  rw [b3]
  have hi3 := hi2.path sh hne p2
  have e14 : ((T'.setIfInBounds 14 (.chan (some c))).setIfInBounds 15 (schedV f j))[14]? = some (.chan (some c)) := by rw [Array.getElem?_setIfInBounds_ne (by decide), Array.getElem?_setIfInBounds_self_of_lt (by omega)]
  have e15 : ((T'.setIfInBounds 14 (.chan (some c))).setIfInBounds 15 (schedV f j))[15]? = some (schedV f j) := by rw [Array.getElem?_setIfInBounds_self_of_lt (by omega)]
  have hsend := fun w1 : World => run_send (P := Tryd.prog) (a := ⟨(T'.setIfInBounds 14 (.chan (some c))).setIfInBounds 15 (schedV f j), [dclose c]⟩) c2 (eval_tmp e14) w1
  refine .send rfl hjn (fun w1 _ => ?_) ?_
  · have := stepG_comm (P := Tryd.prog) (main := false) (b := baseD 36) (rest := []) (k := k) (cs := [bornF Tryd.prog]) c1 (wanted_none c4 _) kind36 (hsend w1).1
    rw [eval_tmp e15] at this
    refine Eq.trans this ?_
    unfold listed
    rw [(hsend w1).2, seen_none]
    rfl
  · rw [served_at undef c1, c3]
    refine All.ctl hX2 hst (fun w => stepG_region_end) (h ((T'.setIfInBounds 14 (.chan (some c))).setIfInBounds 15 (schedV f j)) (by simpa using hsz) ?_ ?_) O2 wE2 hi3
    · rw [Array.getElem?_setIfInBounds_ne (by decide), Array.getElem?_setIfInBounds_ne (by decide)]; exact h0
    · rw [Array.getElem?_setIfInBounds_ne (by decide), Array.getElem?_setIfInBounds_ne (by decide)]; exact h1
/-- the sender's loop -/
theorem sender_loop (sh : Shared S oc ib) (hne : bc ∉ [0, 1, 2, ib, oc]) (hf : ∀ i, i < len → 0 ≤ f i ∧ f i < 256) (hn : n = len / 64) : ∀ (r j : Nat) (T' : Array Value), j + r = n → T'.size = 18 → T'[0]? = some (.pointer (some ⟨oc, 0, none⟩)) → T'[1]? = some (.pointer (some ⟨bc, 0, none⟩)) →
    All (PlanW Tryd.prog S c n (.tuple #[]) (schedV f) j) (WI S c oc bc ib off len f j) (G ((baseD 36).at ⟨T', [dclose c]⟩ [.code L36, .inLoop L36, .inBlock 0]) [bornF Tryd.prog]) := by
  intro r
  induction r with
  | zero =>
    intro j T' hj hsz h0 h1
    have hX := PlanW.closed (P := Tryd.prog) (S := S) (c := c) (n := n) (z := .tuple #[]) (vals := schedV f) j
    have hst := WI.stab (c := c) (bc := bc) (off := off) (len := len) (f := f) sh j
    refine sender_head sh hne hsz h0 h1 fun T' hsz h0 h1 => ?_
    have hd : decide (64 + 64 * j ≤ len) = false := decide_eq_false (by omega)
    rw [hd, if_neg (by decide)]
    refine All.ctl hX hst (fun w => stepG_exit (k' := []) (by simp [exitTo])) ?_
    refine All.ctl hX hst (fun w => stepG_end) ?_
    intro O w hi
    exact .close rfl (by omega) fun w1 buf s r tm R hch => ⟨_, 2, close_step hch, sender_quits _ _, rfl⟩
  | succ r ih =>
    intro j T' hj hsz h0 h1
    have hX := PlanW.closed (P := Tryd.prog) (S := S) (c := c) (n := n) (z := .tuple #[]) (vals := schedV f) j
    have hst := WI.stab (c := c) (bc := bc) (off := off) (len := len) (f := f) sh j
    refine sender_head sh hne hsz h0 h1 fun T' hsz h0 h1 => ?_
    have hd : decide (64 + 64 * j ≤ len) = true := decide_eq_true (by omega)
    rw [hd, if_pos rfl]
    refine All.ctl hX hst (fun w => stepG_skip) ?_
    refine All.ctl hX hst (fun w => stepG_block) ?_
    refine All.ctl hX hst (fun w => stepG_seq) ?_
    intro O w hi
    have hbl : bc < w.heap.size := by obtain ⟨_, _, _, _, ⟨⟨_, h⟩, _⟩, _⟩ := hi.bcell; exact (Array.getElem?_eq_some_iff.1 h).1
    refine code_piece progOk hX [0, 1, 2, ib, oc, bc] [0, 1, 2, ib, oc] (fun i => i = 0 ∨ i = 1) (hi.meet sh hne) (keep01 h0 h1) hk36 (by kernel_rfl)
      (fun TE H => TE.size = 18 ∧ TE[0]? = some (.pointer (some ⟨oc, 0, none⟩)) ∧ TE[1]? = some (.pointer (some ⟨bc, 0, none⟩)) ∧ (∀ k, k < w.heap.size → H[k]? = (ice [0, 1, 2, ib, oc, bc] [0, 1, 2, ib, oc] w).heap[k]?) ∧ ∃ g t, TE[2]? = some (.pointer (some ⟨g, 0, none⟩)) ∧ w.heap.size ≤ g ∧ H[g]? = some (.cells (vals .u32 64 (fun i => (sched32 (word32 (fun i => f (64 * j + i))) i : Int))) t (0, 0))) (fun T W hT hkp hW => ?_) ?_
    · obtain ⟨l1, l2, l3, o, L, cc, t, l4, l5, l6, l7, l8⟩ := hi.lone hne hW
      obtain ⟨x0, x1, x2, x3, x4, x5, x6, x7, x8, x9, x10, x11, x12, x13, x14, x15, x16, x17, rfl⟩ := lit18 (hT.trans hsz)
      obtain rfl : x0 = _ := Option.some.inj ((hkp 0 (.inl rfl)).trans h0)
      obtain rfl : x1 = _ := Option.some.inj ((hkp 1 (.inr rfl)).trans h1)
      have hws : W.heap.size = w.heap.size := by rw [hW, ice_size]
      refine Go.wp_mono (w36_2 x2 x3 x4 x5 x6 x7 x8 x9 x10 x11 x12 x13 x14 x15 x16 x17 oc bc ib o L cc t (fun i => f (64 * j + i)) W l5 (by omega) l7 (fun i hi => ?_) (fun i hi => hf _ (by omega)) l1) fun e a' w' ⟨q1, q2, q3, q4, q5, q6, g, t, q7, q8, q9⟩ => ⟨q1, q2, q3, q4, q5, fun k hk => by rw [q6 k (by omega), hW], g, t, q7, by omega, q9⟩
      rw [l8 (by omega), Nat.add_assoc]
      exact l2 _ (by omega)
    · rintro σ O1 TE TE' WE wE p hT hH hI ⟨r1, r2, r3, r4, g, t, r5, r6, r7⟩
      obtain ⟨l1, l2, l3, o, L, cc, t2, l4, l5, l6⟩ := hi.lone hne (W := ice [0, 1, 2, ib, oc, bc] [0, 1, 2, ib, oc] w) rfl
      obtain ⟨t0, t1, hi2⟩ := after_piece sh hne hi p hT hH r2 r3 (by rw [r4 bc hbl]; exact l5) l6
      obtain ⟨v', t2', hv⟩ := hT.get r5
      cases hv with
      | ptr ha =>
        cases ha with
        | @mk _ g' hb _ _ =>
        have hrow := hH.rowC hb r7 (fun v hv => by
          obtain ⟨i, hi, e⟩ := Array.mem_iff_getElem.1 hv
          rw [← e, vals_get]
          exact fixed_int _ _ _)
        have hown : O1 g' := (hI g g' hb).1 (by
          rintro ⟨c', e', hh, h3, h4⟩
          rw [r7] at h3
          injection h3 with h3
          injection h3 with h5 h6 h7
          injection h7 with h8 h9
          rw [← h5, ← h9, vals_size] at h4
          omega)
        refine All.ctl hX (WJ.stab (c := c) (bc := bc) (off := off) (len := len) (f := f) (g := g') (sv := sched32 (word32 (fun i => f (64 * j + i)))) sh j) (fun w => stepG_seq) (sender_send sh hne (by omega) (hT.1.symm.trans r1) t0 t1 t2' fun T' hsz h0 h1 => ?_) O1 wE ⟨hi2, hown, t, hrow⟩
        intro O w hj'
        have hi := hj'.wi
        have hX2 := PlanW.closed (P := Tryd.prog) (S := S) (c := c) (n := n) (z := .tuple #[]) (vals := schedV f) (j + 1)
        have hst2 := WI.stab (c := c) (bc := bc) (off := off) (len := len) (f := f) sh (j + 1)
        obtain ⟨l1, l2, l3, o, L, cc, t2, l4, l5, l6, l7, l8⟩ := hi.lone hne (W := ice [0, 1, 2, ib, oc, bc] [0, 1, 2, ib, oc] w) rfl
        refine code_piece progOk hX2 [0, 1, 2, ib, oc, bc] [0, 1, 2, ib, oc] (fun i => i = 0 ∨ i = 1) (hi.meet sh hne) (keep01 h0 h1) hk36 (by kernel_rfl)
          (fun TE H => TE.size = 18 ∧ TE[0]? = some (.pointer (some ⟨oc, 0, none⟩)) ∧ TE[1]? = some (.pointer (some ⟨bc, 0, none⟩)) ∧ H[bc]? = some (.cells #[.slice (some ⟨ib, if cc = 64 then o else o + 64, none⟩) (L - 64) (cc - 64)] t2 (0, 0))) (fun T W hT hkp hW => ?_) ?_
        · obtain ⟨x0, x1, x2, x3, x4, x5, x6, x7, x8, x9, x10, x11, x12, x13, x14, x15, x16, x17, rfl⟩ := lit18 (hT.trans hsz)
          obtain rfl : x0 = _ := Option.some.inj ((hkp 0 (.inl rfl)).trans h0)
          obtain rfl : x1 = _ := Option.some.inj ((hkp 1 (.inr rfl)).trans h1)
          exact Go.wp_mono (w36_4 x2 x3 x4 x5 x6 x7 x8 x9 x10 x11 x12 x13 x14 x15 x16 x17 oc bc ib o L cc t2 W (by rw [hW]; exact l5) (by omega) l7) fun e a' w' ⟨q1, q2, q3, q4, q5, _, q7⟩ => ⟨q1, q2, q3, q4, q5, q7⟩
        · rintro σ O1 TE TE' WE wE p hT hH _ ⟨r1, r2, r3, r4⟩
          obtain ⟨t0, t1, hi2⟩ := after_piece (j2 := j + 1) sh hne hi p hT hH r2 r3 r4 ⟨by omega, by omega, fun h => by rw [if_neg (by omega)]; have := l8 (by omega); omega⟩
          refine All.ctl hX2 hst2 (fun w => stepG_inBlock) (All.ctl hX2 hst2 (fun w => stepG_inLoop) (ih (j + 1) TE' (by omega) (hT.1.symm.trans r1) t0 t1)) O1 wE hi2
theorem stepG_deferV {P : Program} {m : Bool} {b : Frame} {a : Act} {ops : Array Oper} {i : Nat} {rest : List Nat} {k : List Item} {cs : List Frame} {o : Oper} {d : Deferred} {w : World} (ho : ops[i]? = some o) (hw : Region.wanted o (yielded ops a.tmps) = true) (hk : b.kind ≠ .early) (hr : (execOp a.eval o).run P w = .ok (.defer d) w ∧ (execOp a.eval o).events P w #[] = #[]) :
    stepG P m (G (b.at a (.inRegion ops (i :: rest) :: k)) cs) w = .go (G (b.at (Act.put ⟨a.tmps, d :: a.defers⟩ o.dst undef) (.inRegion ops rest :: k)) cs) w #[] := by
  have hk' : (b.kind == CallKind.early) = false := by simpa using hk
  have hfin : ({ b.at a (.inRegion ops (i :: rest) :: k) with defers := d :: a.defers } : Frame).finish undef = b.at (Act.put ⟨a.tmps, d :: a.defers⟩ o.dst undef) (.inRegion ops rest :: k) := by
    have := Frame.finish_at b ⟨a.tmps, d :: a.defers⟩ ops i rest k undef
    rw [ho] at this
    exact this
  rw [stepG_oper ho hw, ← hfin]
  simp [stepG.apply, hr.1, hr.2, G, Frame.at, hk', GStep.after, seen_none]
/-- the sender, from its beginning -/
theorem sender_plan (sh : Shared S oc ib) (hne : bc ∉ [0, 1, 2, ib, oc]) (hf : ∀ i, i < len → 0 ≤ f i ∧ f i < 256) (hn : n = len / 64) :
    ∀ O w, WI S c oc bc ib off len f 0 O w → PlanW Tryd.prog S c n (.tuple #[]) (schedV f) 0 O (born Tryd.prog (dgo oc bc)) w := by
  intro O w hi
  have hX := PlanW.closed (P := Tryd.prog) (S := S) (c := c) (n := n) (z := .tuple #[]) (vals := schedV f) 0
  have hst := WI.stab (c := c) (bc := bc) (off := off) (len := len) (f := f) sh 0
  refine hX O _ w rfl fun w1 R => ⟨_, _, _, born_step oc bc w1, Guar.refl O w1, ?_⟩
  rw [grown_self]
  have hi1 := hst O w w1 hi R
  clear R hi w
  obtain ⟨T0, hT0⟩ : ∃ T0 : Array Value, T0 = #[.pointer (some ⟨oc, 0, none⟩), .pointer (some ⟨bc, 0, none⟩)] ++ Array.replicate 16 undef := ⟨_, rfl⟩
  have hsz : T0.size = 18 := by rw [hT0]; simp
  have h0 : T0[0]? = some (.pointer (some ⟨oc, 0, none⟩)) := by rw [hT0, Array.getElem?_append_left (by simp)]; simp
  have h1 : T0[1]? = some (.pointer (some ⟨bc, 0, none⟩)) := by rw [hT0, Array.getElem?_append_left (by simp)]; simp
  rw [← hT0]
  obtain ⟨o1, a1, a2, a3, a4⟩ := op36_0
  obtain ⟨o2, b1, b2, b3, b4, b5⟩ := op36_0b
  have hr : List.range (cO p36_0).size = [0, 1] := by kernel_rfl
  refine All.ctl hX hst (fun w => by rw [b36_is]; exact stepG_seq) (All.ctl hX hst (fun w => by rw [p36_0_is]; exact stepG_region) ?_) O w1 hi1
  rw [hr]
  intro O w hi
  have M := hi.meet sh hne
  refine op_piece progOk hX _ _ (fun i => i = 0) M (fun i v hi hv => by subst hi; rw [h0] at hv; rw [← Option.some.inj hv]; exact vrel_ptr (by simp)) a1 (wanted_none a4 _) kind36 (by rw [a2]; rfl) (.chan (some c)) (fun H => H = (ice [0, 1, 2, ib, oc, bc] [0, 1, 2, ib, oc] w).heap) (fun T W hT hkp hW => ?_) ?_
  · obtain ⟨e, fr, ho⟩ := hi.ocell
    have hw : W.cell? ⟨oc, 0, none⟩ = some (.chan (some c)) := by
      rw [← ice_cell [0, 1, 2, ib, oc, bc] [0, 1, 2, ib, oc] (w := w) (a := ⟨oc, 0, none⟩) (v := .chan (some c)) (by unfold World.cell?; rw [ho]; rfl) (.chan c)]
      exact heap_cell (by rw [hW])
    exact ⟨W, (run_loadC a2 (eval_tmp ((hkp 0 rfl).trans h0)) W hw).1, rfl, hW⟩
  rintro σ O1 v' WE wE p hv hH _ hR
  obtain rfl := fixed_chan σ c v' hv
  rw [a3]
  have hst2 : ∀ b, b ∈ [0, 1, 2, ib, oc] → wE.heap[b]? = w.heap[b]? := fun b hb => path_stiff M p (by simp at hb ⊢; omega) hb
  obtain ⟨l1, l2, l3, o, L, cc, t, l4, l5, l6⟩ := hi.lone hne (W := WE) hR
  have hi2 : WI S c oc bc ib off len f 0 O1 wE := hi.move (p.own bc hi.own) hst2 ⟨o, L, cc, t, hH.rowC (path_id p (by simp)) l5 (fun v hv => by
    simp at hv
    subst hv
    exact fixed_slice hH.fine (path_id p (by simp)) _ _), l6⟩
  clear hT0
  have e4 : (T0.setIfInBounds 4 (.chan (some c)))[4]? = some (.chan (some c)) := by rw [Array.getElem?_setIfInBounds_self_of_lt (by omega)]
  generalize hT1 : T0.setIfInBounds 4 (.chan (some c)) = T1 at e4
  have hdf := fun w1 : World => run_defer (P := Tryd.prog) (a := ⟨T1, []⟩) b2 b5 (eval_tmp e4) w1
  show PlanW Tryd.prog S c n (.tuple #[]) (schedV f) 0 O1 (G ((baseD 36).at ⟨T0.setIfInBounds 4 (.chan (some c)), []⟩ _) _) wE
  rw [hT1]
  refine All.ctl hX hst (fun w => stepG_deferV (a := ⟨T1, []⟩) b1 (wanted_none b4 _) kind36 (hdf w)) ?_ O1 wE hi2
  rw [b3]
  refine All.ctl hX hst (fun w => stepG_region_end) (All.ctl hX hst (fun w => stepG_block) (All.ctl hX hst (fun w => stepG_loop) ?_))
  refine sender_loop sh hne hf hn n 0 T1 (by omega) (by rw [← hT1]; simpa using hsz) ?_ ?_
  · rw [← hT1, Array.getElem?_setIfInBounds_ne (by decide)]; exact h0
  · rw [← hT1, Array.getElem?_setIfInBounds_ne (by decide)]; exact h1
end
end Go.Proofs.YtfnncplokombgaaDoor
