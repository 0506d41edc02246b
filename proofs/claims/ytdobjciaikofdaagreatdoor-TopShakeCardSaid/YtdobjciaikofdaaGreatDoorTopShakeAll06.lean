/- Part 6 of 39 of what the proof of this law needs. Put together by a program out of the texts: SimN SimO SimP. -/
import Derived.Test.YtdobjciaikofdaaGreatDoorTopShakeAll05
import Derived.Laws.Sem
namespace Go.Proofs.YtdobjciaikofdaaGreatDoor
section
open Go Go.Conc
theorem Turn.like {ρ σ : BRel} {W w W1 W' w' : World} (T : Turn ρ σ W w W' w') (h : Like W W1 W') : Like w W1 w' := by
 intro i q hi
 have h1 := T.drawn
 have h2 := T.ldrawn
 rw [T.ltape, T.tape]
 have := h (w.drawn - W.drawn + i) q (by omega)
 rw [show W.drawn + (w.drawn - W.drawn + i) = w.drawn + i by omega, show W'.drawn + (w.drawn - W.drawn + i) = w'.drawn + i by omega] at this
 exact this
theorem like_none {W w W' : World} (h : w.drawn = W.drawn) : Like W w W' := fun i q hi => by omega
theorem enterLoop_drawn {P : Program} {fn : FuncId} {t : Array Value} {ps : Array Tmp} {a b : Code} {r : Option Nat} {W w : World} {x : Nat × List Deferred} {es : Array Event}
  (h : (Instr.enterLoop fn t ps a b r).runT P W #[] = (.ok x w, es)) : w.drawn = W.drawn := by
 cases r with
 | none => cases h; rfl
 | some l =>
  have e : (Instr.enterLoop fn t ps a b (some l)).runT P W #[] = match W.heap[l]? with
    | some (.cells ..) => (.halt (.stuck "getObj: a row of cells") W, #[])
    | some o => ((match o with
      | .loop r => Sem.new (.loop { state := .ready, pending := none, fn, tmps := t, params := ps, assign := a, body := b, defers := r.defers }) fun x => Sem.pure (x, ([] : List Deferred))
      | _ => Sem.halt (.stuck "range over a function: no such loop"))).runT P W (#[].push ⟨.obj l, false, o.isChan⟩)
    | none => (.halt (.stuck "getObj: no such block") W, #[]) := by
   show (Sem.getObj l _).runT P W #[] = _
   unfold Sem.runT
   rcases W.heap[l]? with _ | o
   ·rfl
   ·cases o <;> rfl
  rw [e] at h
  clear e
  generalize W.heap[l]? = q at h
  rcases q with _ | o
  ·cases h
  ·cases o <;> first | (cases h; done) | (cases h; rfl)
theorem silent {P : Program} {ρ : BRel} {low : Low} {W W1 W' : World} {fn fn' : FuncId} {tmps tmps' : Array Value} {x x' : Item} {k k' T T' : List Item} {d d' : List Deferred} {kd kd' : CallKind} {ro ro' : Option Nat} {cs cs' : List Frame} {g1 : Goroutine} {es1 : Array Event}
  (S : SRel P ρ low ⟨fn, tmps, x :: k, d, .run, kd, ro⟩ cs ⟨fn', tmps', x' :: k', d', .run, kd', ro'⟩ cs') (H : HRel ρ W W')
  (hT : ∀ lt, ILRel ρ lt (x :: k) (x' :: k') -> ILRel ρ lt T T') (hok : (x :: k).all okI = true -> T.all okI = true)
  (hgo : GStep.go (G ⟨fn, tmps, T, d, .run, kd, ro⟩ cs) W #[] = .go g1 W1 es1) :
  Out P ρ low W W1 W' ⟨fn, tmps, x :: k, d, .run, kd, ro⟩ cs g1.frame g1.callers (.go (G ⟨fn', tmps', T', d', .run, kd', ro'⟩ cs') W' #[]) := by
 cases hgo
 exact ⟨ρ, ⟨fn', tmps', T', d', .run, kd', ro'⟩, cs', W', #[], BLe.refl _, S.top (fun lt ld h => ⟨h.fn, h.kind, h.tmps, hT lt h.todo, h.defers, h.mode, h.round⟩) rfl rfl rfl, H, rfl, Turn.refl _ _ _, fun e he => by simp at he, fun h => ⟨hok h.1, h.2⟩⟩
theorem all_tail {x : Item} {k : List Item} (h : (x :: k).all okI = true) : k.all okI = true := by
 rw [List.all_cons, Bool.and_eq_true] at h
 exact h.2
theorem all_head {x : Item} {k : List Item} (h : (x :: k).all okI = true) : okI x = true := by
 rw [List.all_cons, Bool.and_eq_true] at h
 exact h.1
theorem map_one (x : Operand) (f : Operand -> Value) : (#[x] : Array Operand).map f = #[f x] := by simp
theorem oper_is {P : Program} {fr : Frame} {cs : List Frame} {W : World} {o : Oper} (h : fr.oper? = some o) (ho : okOp o.op = true) : stepG.oper P true fr cs none W = stepG.apply P true fr cs none (execOp fr.eval o) W := by
 unfold stepG.oper
 rw [h]
 dsimp only
 split
 ·rename_i h2
  rw [h2] at ho
  cases ho
 ·rfl
theorem step_run {P : Program} (OK : ProgOk P) {ρ : BRel} {low : Low} {fr fr' : Frame} {cs cs' : List Frame} {W W1 W' : World} {g1 : Goroutine} {es1 : Array Event} (m : Bool)
  (S : SRel P ρ low fr cs fr' cs') (hm : fr.mode = .run) (H : HRel ρ W W') (hlike : Like W W1 W') (hhead : headOk fr.todo = true) (hstop : fr.todo = [] -> cs.length ≠ 1 \/ low.todo = [])
  (hgo : stepG P true (G fr cs) W = .go g1 W1 es1) (hst : g1.status = .running) (hd : g1.dying = none) :
  BadS P W1 g1.frame g1.callers \/ Out P ρ low W W1 W' fr cs g1.frame g1.callers (stepG P m (G fr' cs') W') := by
 obtain ⟨lt, ld, hF, hlt, hlt2⟩ : ∃ lt ld, FRel ρ lt ld fr fr' /\ (fr.roundOf = none \/ lt = []) /\ (fr.todo = [] -> lt = []) := by
  rcases S.cases1 with ⟨h1, h2, h3⟩ | ⟨h1, h2⟩
  ·exact ⟨_, _, h3, .inl h2, fun e => (hstop e).elim (fun h => absurd (by rw [h1]; rfl) h) id⟩
  ·exact ⟨_, _, h2, .inr rfl, fun _ => rfl⟩
 obtain ⟨fn, tmps, todo, defers, mode, kind, roundOf⟩ := fr
 obtain ⟨fn', tmps', todo', defers', mode', kind', roundOf'⟩ := fr'
 dsimp only at hm hhead hlt hlt2
 subst hm
 have hmode' : mode' = .run := by
  rcases hF.mode with ⟨_, h⟩ | ⟨h, _⟩
  ·exact h
  ·cases h
 subst hmode'
 have hfn : fn' = fn := hF.fn
 subst hfn
 have hto := hF.todo
 have hround := hF.round
 dsimp only at hto hround
 have nonone : ∀ c, (none : Option Code) = some c -> okC c = true := fun c e => by cases e
 cases hto with
 | nil =>
  have hlt0 : lt = [] := hlt2 rfl
  subst hlt0
  have e1 : stepG P true (G ⟨fn', tmps, [], defers, .run, kind, roundOf⟩ cs) W = leaveG P true ⟨fn', tmps, [], defers, .run, kind, roundOf⟩ cs W none := by cases roundOf <;> rfl
  have e2 : stepG P m (G ⟨fn', tmps', [], defers', .run, kind', roundOf'⟩ cs') W' = leaveG P m ⟨fn', tmps', [], defers', .run, kind', roundOf'⟩ cs' W' none := by cases roundOf' <;> rfl
  rw [e1] at hgo
  rw [e2]
  exact .inr (leave_out m nonone S rfl H hlike hgo)
 | cons hx ht =>
  cases hx with
  | inBlock id => exact .inr (silent S H (fun lt h => by cases h with | cons _ h => exact h) all_tail hgo)
  | inScope b => exact .inr (silent S H (fun lt h => by cases h with | cons _ h => exact h) all_tail hgo)
  | inLoop b =>
   exact .inr (silent S H (T := .code b :: .inLoop b :: _) (T' := .code b :: .inLoop b :: _) (fun lt h => by cases h with | cons _ h => exact .cons (.code b) (.cons (.inLoop b) h))
    (fun h => by simp only [List.all_cons, Bool.and_eq_true]; exact ⟨all_head h, all_head h, all_tail h⟩) hgo)
  | inRegion ops todo =>
   cases todo with
   | nil => exact .inr (silent S H (fun lt h => by cases h with | cons _ h => exact h) all_tail hgo)
   | cons i rest =>
    rename_i k k'
    have hy : yielded ops tmps' = yielded ops tmps := hF.yielded ops
    have e1 : stepG P true (G ⟨fn', tmps, .inRegion ops (i :: rest) :: k, defers, .run, kind, roundOf⟩ cs) W = if ((ops[i]?).map (Region.wanted · (yielded ops tmps))).getD false then stepG.oper P true ⟨fn', tmps, .inRegion ops (i :: rest) :: k, defers, .run, kind, roundOf⟩ cs none W else .go (G (Frame.finish ⟨fn', tmps, .inRegion ops (i :: rest) :: k, defers, .run, kind, roundOf⟩ undef) cs) W #[] := rfl
    have e2 : stepG P m (G ⟨fn', tmps', .inRegion ops (i :: rest) :: k', defers', .run, kind', roundOf'⟩ cs') W' = if ((ops[i]?).map (Region.wanted · (yielded ops tmps'))).getD false then stepG.oper P true ⟨fn', tmps', .inRegion ops (i :: rest) :: k', defers', .run, kind', roundOf'⟩ cs' none W' else .go (G (Frame.finish ⟨fn', tmps', .inRegion ops (i :: rest) :: k', defers', .run, kind', roundOf'⟩ undef) cs') W' #[] := rfl
    rw [e1] at hgo
    rw [e2, hy]
    by_cases hc : ((ops[i]?).map (Region.wanted · (yielded ops tmps))).getD false = true
    ·rw [if_pos hc] at hgo ⊢
     rcases ho : ops[i]? with _ | o
     ·rw [ho] at hc; cases hc
     ·have hok : okOp o.op = true := by
       have h2 : (match ops[i]? with | some o => okOp o.op | none => true) = true := hhead
       rw [ho] at h2
       exact h2
      rw [oper_is (by exact ho) hok] at hgo ⊢
      exact apply_out OK (sim_op OK H.fine hok (fun x hx => hF.eval H.fine x hx) (fun _ => ⟨rfl, rfl⟩)) S (by simp) rfl H hlike hgo hst hd
    ·rw [if_neg hc] at hgo ⊢
     cases hgo
     exact .inr ⟨ρ, _, _, W', #[], BLe.refl _, S.finish (by simp) (flatV_rel rfl ρ), H, rfl, Turn.refl _ _ _, fun e he => by simp at he, fun h => ⟨okFr_finish h.1 _, h.2⟩⟩
  | inRange hr => cases hgo
  | endRange hr =>
   rename_i k k' l l'
   have e1 : ∀ (m : Bool) (fn : FuncId) (tmps : Array Value) (l : Nat) (k : List Item) (d : List Deferred) (kd : CallKind) (ro : Option Nat) (cs : List Frame) (W : World), stepG P m (G ⟨fn, tmps, .endRangeFunc l :: k, d, .run, kd, ro⟩ cs) W =
     GStep.after (seen P fn ((Instr.endLoop l).runT P W #[]).2) (match ((Instr.endLoop l).runT P W #[]).1 with
      | .ok jump w => .go (G ⟨fn, tmps, (jump.map Item.code).toList ++ k, d, .run, kd, ro⟩ cs) w #[]
      | .halt (.panic v) w => .go (G (Frame.raise ⟨fn, tmps, .endRangeFunc l :: k, d, .run, kd, ro⟩ [{ v, recovered := false }]) cs) w #[]
      | .halt _ w => .ended (.stuck "range over a function: no such loop" (Frame.pos P ⟨fn, tmps, .endRangeFunc l :: k, d, .run, kd, ro⟩)) w #[]) := fun _ _ _ _ _ _ _ _ _ _ => rfl
   rw [e1] at hgo
   rw [e1]
   rcases hrun : (Instr.endLoop l).runT P W #[] with ⟨r, es⟩
   rw [hrun] at hgo
   dsimp only at hgo
   cases r with
   | halt h w =>
    obtain ⟨hok, σ, W2', hl, H2⟩ := (sim_endLoop (P := P) hr).halts H hrun
    cases h with
    | panic v =>
     obtain ⟨es2, h1, _⟩ := after_go hgo
     cases h1
     exact .inl (S.bad H2 hl _)
    | _ =>
     obtain ⟨es2, h1, _⟩ := after_go hgo
     cases h1
   | ok j w =>
    obtain ⟨es2, h1, _⟩ := after_go hgo
    cases h1
    obtain ⟨σ, j', W1', ds, g1, ⟨hj, hjok⟩, g3, g4, g5, g6⟩ := (sim_endLoop (P := P) hr).runs (es' := #[]) H hlike hrun
    subst hj
    rw [g4]
    refine .inr ⟨σ, ⟨fn', tmps', (j.map Item.code).toList ++ k', defers', .run, kind', roundOf'⟩, cs', W1', _, g1, (S.mono g1).top (fun lt ld h => ⟨h.fn, h.kind, h.tmps, ?_, h.defers, h.mode, h.round⟩) rfl rfl rfl, g3, rfl, g5, fun e he => g6 e (by have := mem_seen2 he; simpa using this), fun h => ⟨?_, h.2⟩⟩
    ·have := h.todo
     cases this with
     | cons _ ht =>
      rcases j with _ | c
      ·exact ht
      ·exact .cons (.code c) ht
    ·have := all_tail h.1
     rcases j with _ | c
     ·exact this
     ·show (Item.code c :: k).all okI = true
      rw [List.all_cons, Bool.and_eq_true]
      exact ⟨hjok c rfl, this⟩
  | beginRound =>
   refine apply_out OK ?_ S (by simp) rfl H hlike hgo hst hd
   cases hround with
   | none => exact .halt
   | some h => exact sim_unit (sim_beginRound h)
  | code c =>
   cases c with
   | skip => exact .inr (silent S H (fun lt h => by cases h with | cons _ h => exact h) all_tail hgo)
   | label l => exact .inr (silent S H (fun lt h => by cases h with | cons _ h => exact h) all_tail hgo)
   | seq a b =>
    exact .inr (silent S H (T := .code a :: .code b :: _) (T' := .code a :: .code b :: _) (fun lt h => by cases h with | cons _ h => exact .cons (.code a) (.cons (.code b) h))
     (fun h => by have := all_head h; simp only [okI, okC, Bool.and_eq_true] at this; simp only [List.all_cons, Bool.and_eq_true]; exact ⟨this.1, this.2, all_tail h⟩) hgo)
   | block id b =>
    exact .inr (silent S H (T := .code b :: .inBlock id :: _) (T' := .code b :: .inBlock id :: _) (fun lt h => by cases h with | cons _ h => exact .cons (.code b) (.cons (.inBlock id) h))
     (fun h => by simp only [List.all_cons, Bool.and_eq_true]; exact ⟨all_head h, rfl, all_tail h⟩) hgo)
   | loop b =>
    exact .inr (silent S H (T := .code b :: .inLoop b :: _) (T' := .code b :: .inLoop b :: _) (fun lt h => by cases h with | cons _ h => exact .cons (.code b) (.cons (.inLoop b) h))
     (fun h => by simp only [List.all_cons, Bool.and_eq_true]; exact ⟨all_head h, all_head h, all_tail h⟩) hgo)
   | scope b =>
    exact .inr (silent S H (T := .code b :: .inScope b :: _) (T' := .code b :: .inScope b :: _) (fun lt h => by cases h with | cons _ h => exact .cons (.code b) (.cons (.inScope b) h))
     (fun h => by simp only [List.all_cons, Bool.and_eq_true]; exact ⟨all_head h, all_head h, all_tail h⟩) hgo)
   | refuse why => cases hgo
   | ret =>
    rename_i k k'
    have e1 : stepG P true (G ⟨fn', tmps, .code .ret :: k, defers, .run, kind, roundOf⟩ cs) W = leaveG P true ⟨fn', tmps, .code .ret :: k, defers, .run, kind, roundOf⟩ cs W (some .ret) := by cases roundOf <;> rfl
    have e2 : stepG P m (G ⟨fn', tmps', .code .ret :: k', defers', .run, kind', roundOf'⟩ cs') W' = leaveG P m ⟨fn', tmps', .code .ret :: k', defers', .run, kind', roundOf'⟩ cs' W' (some .ret) := by cases roundOf' <;> rfl
    rw [e1] at hgo
    rw [e2]
    exact .inr (leave_out m (fun c e => by cases e; rfl) S rfl H hlike hgo)
   | cond c a b =>
    rename_i k k'
    have hv := hF.eval H.fine c (by simpa [headOk] using hhead)
    have e1 : ∀ (m : Bool) (fn : FuncId) (tmps : Array Value) (k : List Item) (d : List Deferred) (kd : CallKind) (ro : Option Nat) (cs : List Frame) (W : World), stepG P m (G ⟨fn, tmps, .code (.cond c a b) :: k, d, .run, kd, ro⟩ cs) W =
      match Frame.eval ⟨fn, tmps, .code (.cond c a b) :: k, d, .run, kd, ro⟩ c with
      | .bool q => .go (G ⟨fn, tmps, .code (if q then a else b) :: k, d, .run, kd, ro⟩ cs) W #[]
      | _ => .ended (.stuck "cond: bool expected" (Frame.pos P ⟨fn, tmps, .code (.cond c a b) :: k, d, .run, kd, ro⟩)) W #[] := fun _ _ _ _ _ _ _ _ _ => rfl
    rw [e1] at hgo
    rw [e1]
    generalize Frame.eval ⟨fn', tmps, .code (.cond c a b) :: k, defers, .run, kind, roundOf⟩ c = v at hv hgo
    generalize Frame.eval ⟨fn', tmps', .code (.cond c a b) :: k', defers', .run, kind', roundOf'⟩ c = v' at hv ⊢
    cases hv <;> first | (cases hgo; done) | skip
    rename_i q
    dsimp only at hgo ⊢
    refine .inr (silent S H (T := .code (if q then a else b) :: k) (T' := .code (if q then a else b) :: k') (fun lt h => by cases h with | cons _ h => exact .cons (.code _) h) (fun h => ?_) hgo)
    have h1 := all_head h
    simp only [okI, okC, Bool.and_eq_true] at h1
    rw [List.all_cons, Bool.and_eq_true]
    refine ⟨?_, all_tail h⟩
    cases q
    ·exact h1.2
    ·exact h1.1.2
   | exit id =>
    rename_i k k'
    have e1 : ∀ (m : Bool) (fn : FuncId) (tmps : Array Value) (k : List Item) (d : List Deferred) (kd : CallKind) (ro : Option Nat) (cs : List Frame) (W : World), stepG P m (G ⟨fn, tmps, .code (.exit id) :: k, d, .run, kd, ro⟩ cs) W =
      match exitTo id k with
      | some r => .go (G ⟨fn, tmps, r, d, .run, kd, ro⟩ cs) W #[]
      | none => leaveG P m ⟨fn, tmps, .code (.exit id) :: k, d, .run, kd, ro⟩ cs W (some (.exit id)) := by
     intro m fn tmps k d kd ro cs W
     show (exitTo id k).elim _ _ = _
     rcases exitTo id k with _ | r
     ·cases ro <;> rfl
     ·rfl
    rw [e1] at hgo
    rw [e1]
    obtain ⟨x1, x2⟩ := exitTo_rel ht id
    rcases hx : exitTo id k with _ | r
    ·rw [hx] at hgo
     rcases hlt with hro | hl0
     ·subst hro
      cases hgo
     ·rw [x2 hl0 hx]
      exact .inr (leave_out m (fun c e => by cases e; rfl) S rfl H hlike hgo)
    ·rw [hx] at hgo
     obtain ⟨r', h1, _, _⟩ := x1 r hx
     rw [h1]
     refine .inr (silent S H (T := r) (T' := r') (fun lt h => ?_) (fun h => ?_) hgo)
     ·cases h with
      | cons _ h =>
       obtain ⟨r2, h3, h4, _⟩ := (exitTo_rel h id).1 r hx
       rw [h1] at h3
       cases h3
       exact h4
     ·obtain ⟨_, _, _, h5⟩ := x1 r hx
      exact h5 (all_tail h)
   | goto id =>
    rename_i k k'
    have e1 : ∀ (m : Bool) (fn : FuncId) (tmps : Array Value) (k : List Item) (d : List Deferred) (kd : CallKind) (ro : Option Nat) (cs : List Frame) (W : World), stepG P m (G ⟨fn, tmps, .code (.goto id) :: k, d, .run, kd, ro⟩ cs) W =
      match gotoIn id k with
      | some r => .go (G ⟨fn, tmps, r, d, .run, kd, ro⟩ cs) W #[]
      | none => leaveG P m ⟨fn, tmps, .code (.goto id) :: k, d, .run, kd, ro⟩ cs W (some (.goto id)) := by
     intro m fn tmps k d kd ro cs W
     show (gotoIn id k).elim _ _ = _
     rcases gotoIn id k with _ | r
     ·cases ro <;> rfl
     ·rfl
    rw [e1] at hgo
    rw [e1]
    obtain ⟨x1, x2⟩ := gotoIn_rel ht id
    rcases hx : gotoIn id k with _ | r
    ·rw [hx] at hgo
     rcases hlt with hro | hl0
     ·subst hro
      cases hgo
     ·rw [x2 hl0 hx]
      exact .inr (leave_out m (fun c e => by cases e; rfl) S rfl H hlike hgo)
    ·rw [hx] at hgo
     obtain ⟨r', h1, _, _⟩ := x1 r hx
     rw [h1]
     refine .inr (silent S H (T := r) (T' := r') (fun lt h => ?_) (fun h => ?_) hgo)
     ·cases h with
      | cons _ h =>
       obtain ⟨r2, h3, h4, _⟩ := (gotoIn_rel h id).1 r hx
       rw [h1] at h3
       cases h3
       exact h4
     ·obtain ⟨_, _, _, h5⟩ := x1 r hx
      exact h5 (all_tail h)
   | rangeFunc f ps a b =>
    rename_i k k'
    have hh : okO f = true /\ okC a = true /\ okC b = true := by
     have h2 : (okO f && okC a && okC b) = true := hhead
     simp only [Bool.and_eq_true] at h2
     exact ⟨h2.1.1, h2.1.2, h2.2⟩
    have e1 : ∀ (m : Bool) (fn : FuncId) (tmps : Array Value) (k : List Item) (d : List Deferred) (kd : CallKind) (ro : Option Nat) (cs : List Frame) (W : World), stepG P m (G ⟨fn, tmps, .code (.rangeFunc f ps a b) :: k, d, .run, kd, ro⟩ cs) W =
      GStep.after (seen P fn ((Instr.enterLoop fn tmps ps a b ro).runT P W #[]).2) (match ((Instr.enterLoop fn tmps ps a b ro).runT P W #[]).1 with
       | .ok (l, mark) w => stepG.apply P true ⟨fn, tmps, .inRangeFunc l :: k, mark ++ d, .run, kd, ro⟩ cs none (do let d <- Deferred.ofValue (Frame.eval ⟨fn, tmps, .inRangeFunc l :: k, mark ++ d, .run, kd, ro⟩ f) (#[Operand.const (.func (.yield l) #[] #[])].map (Frame.eval ⟨fn, tmps, .inRangeFunc l :: k, mark ++ d, .run, kd, ro⟩)); invoke d.target d.args) w
       | .halt _ w => .ended (.stuck "range over a function: no such loop" (Frame.pos P ⟨fn, tmps, .code (.rangeFunc f ps a b) :: k, d, .run, kd, ro⟩)) w #[]) := by
     intro m fn tmps k d kd ro cs W
     rfl
    rw [e1] at hgo
    rw [e1]
    have hsim := sim_enterLoop (P := P) fn' hF.tmps ps hh.2.1 hh.2.2 hround
    dsimp only at hsim
    rcases hrun : (Instr.enterLoop fn' tmps ps a b roundOf).runT P W #[] with ⟨r, es⟩
    rw [hrun] at hgo
    dsimp only at hgo
    cases r with
    | halt h w =>
     obtain ⟨es2, h1, _⟩ := after_go hgo
     cases h1
    | ok x w =>
     obtain ⟨l, mark⟩ := x
     obtain ⟨es2, h1, _⟩ := after_go hgo
     dsimp only at h1
     obtain ⟨σ, ⟨l', mark'⟩, w', ds, y1, ⟨y2, y3⟩, y4, y5, y6, y7⟩ := hsim.runs (es' := #[]) H (like_none (enterLoop_drawn hrun)) hrun
     rw [y5]
     dsimp only at y2 y3 ⊢
     have S1 : SRel P σ low ⟨fn', tmps, .inRangeFunc l :: k, mark ++ defers, .run, kind, roundOf⟩ cs ⟨fn', tmps', .inRangeFunc l' :: k', mark' ++ defers', .run, kind', roundOf'⟩ cs' :=
      (S.mono y1).top (fun lt ld h => ⟨h.fn, h.kind, h.tmps, by have := h.todo; cases this with | cons _ h => exact .cons (.inRange y2) h, by
       obtain ⟨d, h2, h3⟩ := h.defers
       exact ⟨mark' ++ d, by dsimp only at h2 ⊢; rw [h2, List.append_assoc], y3.append h3⟩, h.mode, h.round⟩) rfl rfl rfl
     obtain ⟨lt1, ld1, hF1⟩ := S1.frel
     have hv := hF1.eval y4.fine f hh.1
     rw [map_one] at h1
     rw [map_one]
     rcases apply_out OK (sim_callVal OK hv (RowRel.one (VRel.yield y2))) S1 (by simp) rfl y4 (y6.like hlike) h1 hst hd with hb | ⟨τ, fr1, cs1, W1', es3, z1, z2, z3, z4, z5, z6, z7⟩
     ·exact .inl hb
     ·refine .inr ⟨τ, fr1, cs1, W1', seen P fn' (#[] ++ ds) ++ es3, y1.trans z1, z2, z3, congrArg (GStep.after (seen P fn' (#[] ++ ds))) z4, y6.trans H z5, fun e he => ?_, fun h => z7 ⟨?_, h.2⟩⟩
      ·rcases Array.mem_append.1 he with he | he
       ·have := mem_seen he
        exact GoodEv.fwd y4 z1 z5 (y7 e (by simpa using this))
       ·exact z6 e he
      ·show (Item.inRangeFunc l :: k).all okI = true
       rw [List.all_cons, Bool.and_eq_true]
       exact ⟨rfl, all_tail h.1⟩
   | region id ops draw =>
    rename_i k k'
    cases draw with
    | false =>
     refine .inr (silent S H (T := .inRegion ops (List.range ops.size) :: k) (T' := .inRegion ops (List.range ops.size) :: k') (fun lt h => by cases h with | cons _ h => exact .cons (.inRegion ops _) h) (fun h => ?_) hgo)
     have h1 := all_head h
     rw [List.all_cons, Bool.and_eq_true]
     exact ⟨h1, all_tail h⟩
    | true =>
     have e1 : ∀ (m : Bool) (tmps : Array Value) (k : List Item) (d : List Deferred) (kd : CallKind) (ro : Option Nat) (cs : List Frame) (W : World), stepG P m (G ⟨fn', tmps, .code (.region id ops true) :: k, d, .run, kd, ro⟩ cs) W =
       .go (G ⟨fn', tmps, .inRegion ops (Region.schedule (P.follows .mixedOrders) ops (W.tape W.drawn (.order fn' id))) :: k, d, .run, kd, ro⟩ cs) { W with drawn := W.drawn + 1 } #[] := fun _ _ _ _ _ _ _ _ => rfl
     rw [e1] at hgo
     rw [e1]
     cases hgo
     have ht0 := hlike 0 (.order fn' id) (by simp)
     simp only [Nat.add_zero] at ht0
     rw [<- ht0]
     refine .inr ⟨ρ, ⟨fn', tmps', .inRegion ops (Region.schedule (P.follows .mixedOrders) ops (W.tape W.drawn (.order fn' id))) :: k', defers', .run, kind', roundOf'⟩, cs', { W' with drawn := W'.drawn + 1 }, #[], BLe.refl _, S.top (fun lt ld h => ⟨h.fn, h.kind, h.tmps, by have := h.todo; cases this with | cons _ h => exact .cons (.inRegion ops _) h, h.defers, h.mode, h.round⟩) rfl rfl rfl, ⟨H.fine, H.many, H.objs, H.thaw⟩, rfl, ⟨rfl, rfl, rfl, Nat.le_refl _, Nat.le_refl _, fun _ _ _ => rfl, fun _ _ => Iff.rfl, fun _ _ h => .inl h, by simp only; omega, Nat.le_succ _, rfl⟩, fun e he => by simp at he, fun h => ⟨?_, h.2⟩⟩
     have h1 := all_head h.1
     show (Item.inRegion ops _ :: k).all okI = true
     rw [List.all_cons, Bool.and_eq_true]
     exact ⟨h1, all_tail h.1⟩
end
section
open Go Go.Conc
abbrev LRs : BRel -> List Value -> List Value -> Prop := fun ρ l l' => LRel ρ l l'
theorem sim_mapM {α : Type} {P : Program} {f f' : α -> Sem Value} : ∀ (l : List α) {ρ : BRel}, (∀ σ x, BLe ρ σ -> Sim P VR σ (f x) (f' x)) -> Sim P LRs ρ (l.mapM f) (l.mapM f')
 | [], _, _ => .pure .nil
 | x :: l, ρ, h => by
  rw [List.mapM_cons, List.mapM_cons]
  refine Sim.bind (h ρ x (BLe.refl _)) ?_
  intro σ v v' hl hv
  refine Sim.bind (sim_mapM l fun τ y hl2 => h τ y (hl.trans hl2)) ?_
  intro τ vs vs' hl2 hvs
  exact .pure (.cons (hv.mono hl2) hvs)
theorem LRel.row {ρ : BRel} {l l' : List Value} (h : LRel ρ l l') : RowRel ρ l.toArray l'.toArray := by
 induction h with
 | nil => exact RowRel.nil ρ
 | cons hv _ ih =>
  have := (RowRel.one hv).append ih
  simpa using this
theorem sim_results {P : Program} {ρ : BRel} (fn : Func) {t t' : Array Value} (ht : RowRel ρ t t') : Sim P VR ρ (results fn t) (results fn t') := by
 unfold results
 rw [Array.mapM_eq_mapM_toList, Array.mapM_eq_mapM_toList]
 refine Sim.bind (Sim.bind (sim_mapM _ ?_) ?_ (R2 := RR)) ?_
 ·intro σ x hl
  cases x with
  | tmp t => exact .pure ((ht.mono hl).getD t)
  | cell a t =>
   refine Sim.bind (sim_asAddr ((ht.mono hl).getD a)) ?_
   intro τ b b' _ hb
   exact sim_loadVar hb t
 ·intro σ l l' _ hl
  exact .pure hl.row
 ·intro σ l l' _ hl
  refine .pure ?_
  obtain ⟨h1, h2⟩ := hl
  by_cases h : l.size = 1
  ·have h' : l'.size = 1 := h1 ▸ h
   simp only [h, h', dite_true]
   exact h2 0 _ _
  ·have h' : ¬ l'.size = 1 := h1 ▸ h
   simp only [h, h', dite_false]
   exact .tuple _ _ h1 h2
theorem step_ret {P : Program} {ρ : BRel} {low : Low} {fr fr' : Frame} {cs cs' : List Frame} {W W1 W' : World} {g1 : Goroutine} {es1 : Array Event} (m : Bool)
  (S : SRel P ρ low fr cs fr' cs') (hm : fr.mode = .returning) (hnl : ¬ (cs.length = 1 /\ fr.defers = [])) (H : HRel ρ W W') (hlike : Like W W1 W')
  (hgo : stepG P true (G fr cs) W = .go g1 W1 es1) : Out P ρ low W W1 W' fr cs g1.frame g1.callers (stepG P m (G fr' cs') W') := by
 obtain ⟨lt, ld, hF, hup⟩ : ∃ lt ld, FRel ρ lt ld fr fr' /\ (cs.length = 1 \/ (cs.length ≠ 1 /\ ld = [])) := by
  rcases S.cases1 with ⟨h1, h2, h3⟩ | ⟨h1, h2⟩
  ·exact ⟨_, _, h3, .inl (by rw [h1]; rfl)⟩
  ·exact ⟨_, _, h2, .inr ⟨h1, rfl⟩⟩
 obtain ⟨fn, tmps, todo, defers, mode, kind, roundOf⟩ := fr
 obtain ⟨fn', tmps', todo', defers', mode', kind', roundOf'⟩ := fr'
 dsimp only at hm
 subst hm
 have hmode' : mode' = .returning := by
  rcases hF.mode with ⟨h, _⟩ | ⟨_, h⟩
  ·cases h
  ·exact h
 subst hmode'
 have hfn : fn' = fn := hF.fn
 subst hfn
 obtain ⟨d, hd, hD⟩ := hF.defers
 dsimp only at hd hD
 subst hd
 have e0 : ∀ (m : Bool) (tmps : Array Value) (k : List Item) (d : List Deferred) (kd : CallKind) (ro : Option Nat) (cs : List Frame) (W : World), stepG P m (G ⟨fn', tmps, k, d, .returning, kd, ro⟩ cs) W = unwind P m ⟨fn', tmps, k, d, .returning, kd, ro⟩ cs none W := fun _ _ _ _ _ _ _ _ => rfl
 rw [e0] at hgo
 rw [e0]
 cases hD with
 | cons hr ht =>
  rename_i r r' ds ds'
  have e1 : ∀ (m : Bool) (tmps : Array Value) (k : List Item) (r : Nat) (ds : List Deferred) (kd : CallKind) (ro : Option Nat) (cs : List Frame) (W : World), unwind P m ⟨fn', tmps, k, ⟨.collected r, #[]⟩ :: ds, .returning, kd, ro⟩ cs none W =
    GStep.after (seen P fn' ((Instr.takeDeferred r).runT P W #[]).2) (match ((Instr.takeDeferred r).runT P W #[]).1 with
     | .ok calls w => .go (G ⟨fn', tmps, k, calls ++ ds, .returning, kd, ro⟩ cs) w #[]
     | .halt _ w => .ended (.stuck "the deferred calls of a range-over-func loop have been taken" (Frame.pos P ⟨fn', tmps, k, ⟨.collected r, #[]⟩ :: ds, .returning, kd, ro⟩)) w #[]) := fun _ _ _ _ _ _ _ _ _ => rfl
  rw [e1] at hgo
  rw [List.cons_append, e1]
  rcases hrun : (Instr.takeDeferred r).runT P W #[] with ⟨x, es⟩
  rw [hrun] at hgo
  dsimp only at hgo
  cases x with
  | halt h w =>
   obtain ⟨es2, h1, _⟩ := after_go hgo
   cases h1
  | ok calls w =>
   obtain ⟨es2, h1, _⟩ := after_go hgo
   cases h1
   obtain ⟨σ, calls', W1', ds1, y1, ⟨y2, y3⟩, y4, y5, y6, y7⟩ := (sim_takeDeferred (P := P) hr).runs (es' := #[]) H hlike hrun
   subst y2 y3
   rw [y5]
   refine ⟨σ, ⟨fn', tmps', todo', ds' ++ ld, .returning, kind', roundOf'⟩, cs', W1', _, y1, (S.mono y1).top (fun lt2 ld2 h => ⟨h.fn, h.kind, h.tmps, h.todo, ?_, h.mode, h.round⟩) rfl rfl rfl, y4, rfl, y6, fun e he => y7 e (by have := mem_seen2 he; simpa using this), fun h => h⟩
   obtain ⟨d2, h2, h3⟩ := h.defers
   dsimp only at h2 h3
   cases h3 with
   | cons hr2 ht2 =>
    rename_i r2 l2
    simp only [List.cons_append, List.cons.injEq] at h2
    exact ⟨l2, by dsimp only; exact h2.2, ht2⟩
 | nil =>
  rcases hup with hcs | ⟨hlen, hld⟩
  ·exact absurd ⟨hcs, rfl⟩ hnl
  ·subst hld
   have e1 : ∀ (m : Bool) (tmps : Array Value) (k : List Item) (kd : CallKind) (ro : Option Nat) (cs : List Frame) (W : World), unwind P m ⟨fn', tmps, k, [], .returning, kd, ro⟩ cs none W = match P.funcs[fn']? with
     | none => doReturn P m ⟨fn', tmps, k, [], .returning, kd, ro⟩ cs none (tmps.getD 0 undef) W
     | some fn => GStep.after (seen P fn' ((results fn tmps).runT P W #[]).2) (match ((results fn tmps).runT P W #[]).1 with
      | .ok v w => doReturn P m ⟨fn', tmps, k, [], .returning, kd, ro⟩ cs none v w
      | .halt (.stuck s) w => .ended (.stuck s (Frame.pos P ⟨fn', tmps, k, [], .returning, kd, ro⟩)) w #[]
      | .halt _ w => .ended (.stuck "return: the result variables cannot be read" (Frame.pos P ⟨fn', tmps, k, [], .returning, kd, ro⟩)) w #[]) := fun _ _ _ _ _ _ _ => rfl
   rw [e1] at hgo
   rw [List.append_nil, e1]
   have S2 : SRel P ρ low ⟨fn', tmps, todo, [], .returning, kind, roundOf⟩ cs ⟨fn', tmps', todo', [], .returning, kind', roundOf'⟩ cs' := S
   generalize P.funcs[fn']? = q at hgo ⊢
   rcases q with _ | fn
   ·obtain ⟨h1, _, _, fr1', cs1', k1, k2, k3⟩ := return_out (W' := W') m S2 hlen (hF.tmps.getD 0) hgo
    subst h1
    dsimp only at k1 ⊢
    rw [k1]
    exact ⟨ρ, fr1', cs1', W', #[], BLe.refl _, k2, H, rfl, Turn.refl _ _ _, fun e he => by simp at he, k3⟩
   ·dsimp only at hgo ⊢
    have hsim := sim_results (P := P) fn hF.tmps
    dsimp only at hsim
    rcases hrun : (results fn tmps).runT P W #[] with ⟨x, es⟩
    rw [hrun] at hgo
    dsimp only at hgo
    cases x with
    | halt h w =>
     obtain ⟨es2, h1, _⟩ := after_go hgo
     cases h <;> cases h1
    | ok v w =>
     obtain ⟨es2, h1, _⟩ := after_go hgo
     obtain ⟨σ0, v0, hl0, hv0⟩ := hsim.rel H hrun
     obtain ⟨hw, _, _⟩ := return_out (W' := W') m (S2.mono hl0) hlen hv0 h1
     subst hw
     obtain ⟨σ, v', W1', ds, y1, y2, y3, y4, y5, y6⟩ := hsim.runs (es' := #[]) H hlike hrun
     obtain ⟨_, _, _, fr1', cs1', k1, k2, k3⟩ := return_out (W' := W1') m (S2.mono y1) hlen y2 h1
     rw [y4]
     dsimp only
     rw [k1]
     exact ⟨σ, fr1', cs1', W1', _, y1, k2, y3, rfl, y5, fun e he => y6 e (by have := mem_seen2 he; simpa using this), k3⟩
end
section
open Go Go.Conc
def Only (X : GStep) : Prop := (∃ o w es, X = .ended o w es) \/ ∃ fr cs w es, X = .go (G fr cs) w es
theorem only_go {fr : Frame} {cs : List Frame} {w : World} {es : Array Event} : Only (.go (G fr cs) w es) := .inr ⟨_, _, _, _, rfl⟩
theorem only_ended {o : Outcome} {w : World} {es : Array Event} : Only (.ended o w es) := .inl ⟨_, _, _, rfl⟩
theorem Only.after {X : GStep} (h : Only X) (es : Array Event) : Only (GStep.after es X) := by
 rcases h with ⟨o, w, e, rfl⟩ | ⟨fr, cs, w, e, rfl⟩
 ·exact only_ended
 ·exact only_go
theorem apply_only {P : Program} {ρ : BRel} {fr : Frame} {cs : List Frame} {W W' : World} {s s' : Sem Next} (hs : Sim P NR ρ s s') (hn : noCall fr.todo = true) (H : HRel ρ W W') : Only (stepG.apply P true fr cs none s W) := by
 rcases hr : s.runT P W #[] with ⟨r, es⟩
 cases r with
 | ok n w =>
  obtain ⟨σ0, n', hl0, hn'⟩ := hs.rel H hr
  cases hn' with
  | value hv => obtain ⟨es2, e1, _⟩ := apply_value (fr := fr) (cs := cs) hr; rw [e1]; exact only_go
  | skip => obtain ⟨es2, e1, _⟩ := apply_skip (fr := fr) (cs := cs) hr; rw [e1]; exact only_go
  | enter f hf ha => obtain ⟨es2, e1, _⟩ := apply_enter (fr := fr) (cs := cs) hr hn; rw [e1]; exact only_go
  | round hl f ht x y hx hy => obtain ⟨es2, e1, _⟩ := apply_round (fr := fr) (cs := cs) hr; rw [e1]; exact only_go
 | halt h w =>
  obtain ⟨hok, _⟩ := hs.halts H hr
  unfold stepG.apply
  dsimp only
  rw [if_pos rfl, hr]
  refine Only.after ?_ _
  cases h with
  | panic v => exact only_go
  | stuck why => exact only_ended
  | unsupported u => cases u <;> first | exact only_ended | cases hok
  | _ => cases hok
theorem return_only {P : Program} {fr : Frame} {cs : List Frame} {v : Value} {w : World} (h : fr.kind = .normal) (hcs : cs ≠ []) : Only (doReturn P true fr cs none v w) := by
 unfold doReturn
 rcases cs with _ | ⟨c, cs⟩
 ·exact absurd rfl hcs
 ·dsimp only
  rw [h]
  exact only_go
theorem SRel.cs_ne {P : Program} {ρ : BRel} {low : Low} {fr fr' : Frame} {cs cs' : List Frame} (h : SRel P ρ low fr cs fr' cs') : cs ≠ [] := by
 cases h <;> simp
theorem leave_only {P : Program} {ρ : BRel} {low : Low} {fr fr' : Frame} {cs cs' : List Frame} {W : World} {j : Option Code} (S : SRel P ρ low fr cs fr' cs') : Only (leaveG P true fr cs W j) := by
 unfold leaveG
 split
 ·split
  ·exact only_go
  ·exact only_go
  ·exact only_ended
 ·dsimp only
  refine Only.after ?_ _
  split
  ·exact return_only S.kind S.cs_ne
  ·exact only_ended
theorem run_only {P : Program} (OK : ProgOk P) {ρ : BRel} {low : Low} {fr fr' : Frame} {cs cs' : List Frame} {W W' : World}
  (S : SRel P ρ low fr cs fr' cs') (hm : fr.mode = .run) (H : HRel ρ W W') (hhead : headOk fr.todo = true) : Only (stepG P true (G fr cs) W) := by
 obtain ⟨lt, ld, hF⟩ := S.frel
 obtain ⟨fn, tmps, todo, defers, mode, kind, roundOf⟩ := fr
 obtain ⟨fn', tmps', todo', defers', mode', kind', roundOf'⟩ := fr'
 dsimp only at hm hhead
 subst hm
 have hto := hF.todo
 have hround := hF.round
 dsimp only at hto hround
 cases hto with
 | nil =>
  have e1 : stepG P true (G ⟨fn, tmps, [], defers, .run, kind, roundOf⟩ cs) W = leaveG P true ⟨fn, tmps, [], defers, .run, kind, roundOf⟩ cs W none := by cases roundOf <;> rfl
  rw [e1]
  exact leave_only S
 | cons hx ht =>
  rename_i x x' k k'
  cases hx with
  | inBlock id => exact only_go
  | inScope b => exact only_go
  | inLoop b => exact only_go
  | inRegion ops todo =>
   cases todo with
   | nil => exact only_go
   | cons i rest =>
    have e1 : stepG P true (G ⟨fn, tmps, .inRegion ops (i :: rest) :: k, defers, .run, kind, roundOf⟩ cs) W = if ((ops[i]?).map (Region.wanted · (yielded ops tmps))).getD false then stepG.oper P true ⟨fn, tmps, .inRegion ops (i :: rest) :: k, defers, .run, kind, roundOf⟩ cs none W else .go (G (Frame.finish ⟨fn, tmps, .inRegion ops (i :: rest) :: k, defers, .run, kind, roundOf⟩ undef) cs) W #[] := rfl
    rw [e1]
    split
    ·rcases ho : ops[i]? with _ | o
     ·have e2 : stepG.oper P true ⟨fn, tmps, .inRegion ops (i :: rest) :: k, defers, .run, kind, roundOf⟩ cs none W = .ended (.stuck "no operation here" (Frame.pos P ⟨fn, tmps, .inRegion ops (i :: rest) :: k, defers, .run, kind, roundOf⟩)) W #[] := by
       unfold stepG.oper Frame.oper?
       dsimp only
       rw [ho]
      rw [e2]
      exact only_ended
     ·have hok : okOp o.op = true := by
       have h2 : (match ops[i]? with | some o => okOp o.op | none => true) = true := hhead
       rw [ho] at h2
       exact h2
      rw [oper_is (by exact ho) hok]
      exact apply_only (sim_op OK H.fine hok (fun x hx => hF.eval H.fine x hx) (fun _ => ⟨rfl, rfl⟩)) rfl H
    ·exact only_go
  | inRange hr => exact only_ended
  | endRange hr =>
   refine Only.after ?_ _
   split
   ·exact only_go
   ·exact only_go
   ·exact only_ended
  | beginRound =>
   refine apply_only (W' := W') (ρ := ρ) ?_ rfl H (s' := do roundOf'.elim (stuck "beginRound: no round") Instr.beginRound; pure .skip)
   cases hround with
   | none => exact .halt
   | some h => exact sim_unit (sim_beginRound h)
  | code c =>
   cases c with
   | skip => exact only_go
   | label l => exact only_go
   | seq a b => exact only_go
   | block id b => exact only_go
   | loop b => exact only_go
   | scope b => exact only_go
   | refuse why => exact only_ended
   | ret =>
    have e1 : stepG P true (G ⟨fn, tmps, .code .ret :: k, defers, .run, kind, roundOf⟩ cs) W = leaveG P true ⟨fn, tmps, .code .ret :: k, defers, .run, kind, roundOf⟩ cs W (some .ret) := by cases roundOf <;> rfl
    rw [e1]
    exact leave_only S
   | cond c a b =>
    have e1 : stepG P true (G ⟨fn, tmps, .code (.cond c a b) :: k, defers, .run, kind, roundOf⟩ cs) W =
      match Frame.eval ⟨fn, tmps, .code (.cond c a b) :: k, defers, .run, kind, roundOf⟩ c with
      | .bool q => .go (G ⟨fn, tmps, .code (if q then a else b) :: k, defers, .run, kind, roundOf⟩ cs) W #[]
      | _ => .ended (.stuck "cond: bool expected" (Frame.pos P ⟨fn, tmps, .code (.cond c a b) :: k, defers, .run, kind, roundOf⟩)) W #[] := rfl
    rw [e1]
    split
    ·exact only_go
    ·exact only_ended
   | exit id =>
    have e1 : stepG P true (G ⟨fn, tmps, .code (.exit id) :: k, defers, .run, kind, roundOf⟩ cs) W =
      match exitTo id k with
      | some r => .go (G ⟨fn, tmps, r, defers, .run, kind, roundOf⟩ cs) W #[]
      | none => leaveG P true ⟨fn, tmps, .code (.exit id) :: k, defers, .run, kind, roundOf⟩ cs W (some (.exit id)) := by
     show (exitTo id k).elim _ _ = _
     rcases exitTo id k with _ | r
     ·cases roundOf <;> rfl
     ·rfl
    rw [e1]
    split
    ·exact only_go
    ·exact leave_only S
   | goto id =>
    have e1 : stepG P true (G ⟨fn, tmps, .code (.goto id) :: k, defers, .run, kind, roundOf⟩ cs) W =
      match gotoIn id k with
      | some r => .go (G ⟨fn, tmps, r, defers, .run, kind, roundOf⟩ cs) W #[]
      | none => leaveG P true ⟨fn, tmps, .code (.goto id) :: k, defers, .run, kind, roundOf⟩ cs W (some (.goto id)) := by
     show (gotoIn id k).elim _ _ = _
     rcases gotoIn id k with _ | r
     ·cases roundOf <;> rfl
     ·rfl
    rw [e1]
    split
    ·exact only_go
    ·exact leave_only S
   | rangeFunc f ps a b =>
    have hh : okO f = true /\ okC a = true /\ okC b = true := by
     have h2 : (okO f && okC a && okC b) = true := hhead
     simp only [Bool.and_eq_true] at h2
     exact ⟨h2.1.1, h2.1.2, h2.2⟩
    have e1 : stepG P true (G ⟨fn, tmps, .code (.rangeFunc f ps a b) :: k, defers, .run, kind, roundOf⟩ cs) W =
      GStep.after (seen P fn ((Instr.enterLoop fn tmps ps a b roundOf).runT P W #[]).2) (match ((Instr.enterLoop fn tmps ps a b roundOf).runT P W #[]).1 with
       | .ok (l, mark) w => stepG.apply P true ⟨fn, tmps, .inRangeFunc l :: k, mark ++ defers, .run, kind, roundOf⟩ cs none (do let d <- Deferred.ofValue (Frame.eval ⟨fn, tmps, .inRangeFunc l :: k, mark ++ defers, .run, kind, roundOf⟩ f) (#[Operand.const (.func (.yield l) #[] #[])].map (Frame.eval ⟨fn, tmps, .inRangeFunc l :: k, mark ++ defers, .run, kind, roundOf⟩)); invoke d.target d.args) w
       | .halt _ w => .ended (.stuck "range over a function: no such loop" (Frame.pos P ⟨fn, tmps, .code (.rangeFunc f ps a b) :: k, defers, .run, kind, roundOf⟩)) w #[]) := rfl
    rw [e1]
    refine Only.after ?_ _
    have hsim := sim_enterLoop (P := P) fn hF.tmps ps hh.2.1 hh.2.2 hround
    dsimp only at hsim
    rcases hrun : (Instr.enterLoop fn tmps ps a b roundOf).runT P W #[] with ⟨r, es⟩
    cases r with
    | halt h w => exact only_ended
    | ok x w =>
     obtain ⟨l, mark⟩ := x
     obtain ⟨σ, ⟨l', mark'⟩, w', ds, y1, ⟨y2, y3⟩, y4, y5, y6, y7⟩ := hsim.runs (es' := #[]) H (like_none (enterLoop_drawn hrun)) hrun
     dsimp only at y2 y3 ⊢
     rw [map_one]
     have hv : VRel σ (Frame.eval ⟨fn, tmps, .inRangeFunc l :: k, mark ++ defers, .run, kind, roundOf⟩ f) (Frame.eval ⟨fn', tmps', .code (.rangeFunc f ps a b) :: k', defers', mode', kind', roundOf'⟩ f) :=
      FRel.eval y4.fine (fr := ⟨fn, tmps, .inRangeFunc l :: k, mark ++ defers, .run, kind, roundOf⟩) (fr' := ⟨fn', tmps', .inRangeFunc l' :: k', mark' ++ defers', mode', kind', roundOf'⟩) ⟨hF.fn, hF.kind, hF.tmps.mono y1, .cons (.inRange y2) (ht.mono y1), by
       obtain ⟨d, h2, h3⟩ := hF.defers
       exact ⟨mark' ++ d, by dsimp only at h2 ⊢; rw [h2, List.append_assoc], y3.append (h3.mono y1)⟩, hF.mode, hround.mono y1⟩ f hh.1
     exact apply_only (sim_callVal OK hv (RowRel.one (VRel.yield y2))) rfl y4
   | region id ops draw =>
    cases draw with
    | false => exact only_go
    | true =>
     have e1 : stepG P true (G ⟨fn, tmps, .code (.region id ops true) :: k, defers, .run, kind, roundOf⟩ cs) W =
       .go (G ⟨fn, tmps, .inRegion ops (Region.schedule (P.follows .mixedOrders) ops (W.tape W.drawn (.order fn id))) :: k, defers, .run, kind, roundOf⟩ cs) { W with drawn := W.drawn + 1 } #[] := rfl
     rw [e1]
     exact only_go
theorem ret_only {P : Program} {ρ : BRel} {low : Low} {fr fr' : Frame} {cs cs' : List Frame} {W : World}
  (S : SRel P ρ low fr cs fr' cs') (hm : fr.mode = .returning) : Only (stepG P true (G fr cs) W) := by
 obtain ⟨lt, ld, hF⟩ := S.frel
 obtain ⟨fn, tmps, todo, defers, mode, kind, roundOf⟩ := fr
 dsimp only at hm
 subst hm
 obtain ⟨d, hd, hD⟩ := hF.defers
 dsimp only at hd hD
 cases hD with
 | cons hr ht =>
  refine Only.after ?_ _
  split
  ·exact only_go
  ·exact only_ended
 | nil =>
  have e1 : stepG P true (G ⟨fn, tmps, todo, [], .returning, kind, roundOf⟩ cs) W = match P.funcs[fn]? with
     | none => doReturn P true ⟨fn, tmps, todo, [], .returning, kind, roundOf⟩ cs none (tmps.getD 0 undef) W
     | some f => GStep.after (seen P fn ((results f tmps).runT P W #[]).2) (match ((results f tmps).runT P W #[]).1 with
      | .ok v w => doReturn P true ⟨fn, tmps, todo, [], .returning, kind, roundOf⟩ cs none v w
      | .halt (.stuck s) w => .ended (.stuck s (Frame.pos P ⟨fn, tmps, todo, [], .returning, kind, roundOf⟩)) w #[]
      | .halt _ w => .ended (.stuck "return: the result variables cannot be read" (Frame.pos P ⟨fn, tmps, todo, [], .returning, kind, roundOf⟩)) w #[]) := rfl
  rw [e1]
  split
  ·exact return_only S.kind S.cs_ne
  ·refine Only.after ?_ _
   split
   ·exact return_only S.kind S.cs_ne
   ·exact only_ended
   ·exact only_ended
end
end Go.Proofs.YtdobjciaikofdaaGreatDoor
