/- Part 9 of 39 of what the proof of this law needs. Put together by a program out of the texts: SimY SimZ CoA CoB UnA UnB. -/
import Derived.Test.YtdobjciaikofdaaGreatDoorTopShakeAll08
import Derived.Conc.CrowdSel
namespace Go.Proofs.YtdobjciaikofdaaGreatDoor
section
open Go Go.Conc
open Go.ConcN (sumTo upd sumTo_upd upd_ne upd_same le_sumTo)
theorem quits_awake {P : Program} {n d : Nat} {g : Goroutine} (h : QuitsD P n d g) : awake g := awake_of (h.status.elim .inl fun x => .inr (.inr x))
theorem quits_offers {P : Program} {n d : Nat} {g : Goroutine} (h : QuitsD P n d g) (c : Nat) (b : Bool) : offersAt g c b = [] := offersAt_of_not_blocked (by rcases h.status with h | h <;> rw [h] <;> intro x <;> cases x) c b
theorem get_same {gs : Array Goroutine} {k : Nat} {x y : Goroutine} (h : gs[k]? = some y) (f : Goroutine -> Goroutine) : ((gs.map f).setIfInBounds k x)[k]? = some x := by
 have := (Array.getElem?_eq_some_iff.1 h).1
 simp [this]
theorem get_set {gs : Array Goroutine} {k : Nat} {x y : Goroutine} (h : gs[k]? = some y) : (gs.setIfInBounds k x)[k]? = some x := by
 have := (Array.getElem?_eq_some_iff.1 h).1
 simp [this]
def Word (c : Nat) (op : MemOp) : Prop := op.act.touch? = none /\ (op.act ≠ .mark .disable /\ op.act ≠ .mark .enable) /\ ∀ B, c < B -> op.act.low B
theorem Word.send {c g k : Nat} {fn : FuncId} {pos : String} : Word c { g, fn, pos, act := .send c k } := ⟨rfl, ⟨fun h => (by cases h), fun h => (by cases h)⟩, fun _ h => h⟩
theorem Word.sendDone {c g k : Nat} {fn : FuncId} {pos : String} : Word c { g, fn, pos, act := .sendDone c k } := ⟨rfl, ⟨fun h => (by cases h), fun h => (by cases h)⟩, fun _ h => h⟩
theorem Word.recv {c g k m : Nat} {fn : FuncId} {pos : String} : Word c { g, fn, pos, act := .recv c k m } := ⟨rfl, ⟨fun h => (by cases h), fun h => (by cases h)⟩, fun _ h => h⟩
theorem Word.recvDone {c g k : Nat} {fn : FuncId} {pos : String} : Word c { g, fn, pos, act := .recvDone c k } := ⟨rfl, ⟨fun h => (by cases h), fun h => (by cases h)⟩, fun _ h => h⟩
theorem Word.recvClosed {c g : Nat} {fn : FuncId} {pos : String} : Word c { g, fn, pos, act := .recvClosed c } := ⟨rfl, ⟨fun h => (by cases h), fun h => (by cases h)⟩, fun _ h => h⟩
theorem words_nil {c x : Nat} {fn : FuncId} {pos : String} {u : Array MemOp} (h : ∀ op ∈ u, Word c op) : ∀ op ∈ MemOp.ofEvents x fn pos #[] ++ u, Word c op := by
 intro op hop
 rcases Array.mem_append.1 hop with h1 | h1
 ·rw [ofEvents_eq] at h1
  simp at h1
 ·exact h op h1
section
variable {P : Program} {Post : Value -> World -> Prop} {S : BSet} {c n wk : Nat} {z : Value} {vals : Nat -> Value} {K : BSet -> Goroutine -> World -> Prop}
theorem pick_lv {gs : Array Goroutine} {w : World} {sl : Option (Nat × Nat)} {t : Trace} {q : Nat -> Nat} {a2 : Goroutine} (h0 : gs[0]? = some a2) (hr : a2.status = .running) (hL : Leavers P t gs q) :
  ∃ d sl', stepT P (crowd gs w sl) = runT P (crowd gs (w.at d) sl') 0 \/ ∃ k g g' es m, 0 < k /\ k < gs.size /\ gs[k]? = some g /\ stepT P (crowd gs w sl) = (.next (crowd ((gs.map (woken P g g' (w.at d))).setIfInBounds k g') (w.at d) sl'), MemOp.ofEvents k g.frame.fn g.frame.place es) /\ (∀ e ∈ es, e.mute = true) /\ q k = m + 1 /\
   QuitsD P m (Deaf (t ++ MemOp.ofEvents k g.frame.fn g.frame.place es) k) g' := by
 have haw : ∀ g ∈ gs, awake g := by
  intro g hg
  obtain ⟨i, hi, rfl⟩ := Array.mem_iff_getElem.1 hg
  rcases Nat.eq_zero_or_pos i with rfl | hpos
  ·have : gs[0] = a2 := by simpa [Array.getElem?_eq_getElem hi] using h0
   rw [this]; exact awake_of (.inl hr)
  ·exact quits_awake (hL.old i _ hpos (Array.getElem?_eq_getElem hi))
 obtain ⟨i, g, d, sl', hi, hg, hst⟩ := crowd_pick (P := P) (w := w) (sl := sl) haw ⟨0, a2, h0, hr⟩
 refine ⟨d, sl', ?_⟩
 rcases Nat.eq_zero_or_pos i with rfl | hpos
 ·exact .inl hst
 ·obtain ⟨g', es, m, h1, h2, h3, h4⟩ := leaver_step (w := w.at d) (sl := sl') hpos hi (hL.old i g hpos hi) hg
  exact .inr ⟨i, g, g', es, m, hpos, (Array.getElem?_eq_some_iff.1 hi).1, hi, hst.trans h1, h2, h3, h4⟩
theorem Leavers.move {gs : Array Goroutine} {w : World} {t : Trace} {q : Nat -> Nat} {k m : Nat} {g g' : Goroutine} {es : Array Event} {fn : FuncId} {pos : String} (hL : Leavers P t gs q) (hlt : k < gs.size) (hm : ∀ e ∈ es, e.mute = true) (hq : q k = m + 1) (hq' : QuitsD P m (Deaf (t ++ MemOp.ofEvents k fn pos es) k) g') :
  Leavers P (t ++ MemOp.ofEvents k fn pos es) ((gs.map (woken P g g' w)).setIfInBounds k g') (upd q k m) /\ sumTo ((gs.map (woken P g g' w)).setIfInBounds k g').size (upd q k m) + 1 <= sumTo gs.size q := by
 have hu := mute_ops (x := k) (fn := fn) (pos := pos) hm 0
 have hd : ∀ j, j ≠ k -> Deaf (t ++ MemOp.ofEvents k fn pos es) j = Deaf t j := fun j hj => Deaf_other t (Ne.symm hj) _ fun op hop => (hu op hop).1
 refine ⟨⟨fun j y h1 h3 => ?_, fun j hj => ?_⟩, ?_⟩
 ·by_cases hjk : k = j
  ·subst hjk
   rw [Array.getElem?_setIfInBounds_self_of_lt (by simpa using hlt)] at h3
   obtain rfl := Option.some.inj h3
   rw [upd_same]
   exact hq'
  ·rw [Array.getElem?_setIfInBounds_ne hjk, Array.getElem?_map] at h3
   obtain ⟨y2, hz, rfl⟩ := Option.map_eq_some_iff.1 h3
   have hqj := hL.old j y2 h1 hz
   rw [woken_quitsD hqj, upd_ne q m (Ne.symm hjk), hd j (Ne.symm hjk)]
   exact hqj
 ·have hj' : gs.size <= j := by simpa using hj
  rw [hd j (by omega)]
  exact hL.above j hj'
 ·have : sumTo gs.size (upd q k m) + q k = sumTo gs.size q + m := sumTo_upd q m id hlt
  simp only [Array.size_setIfInBounds, Array.size_map]
  omega
theorem past_of {t : Trace} {B : Nat} (h1 : ∀ said, ¬ Race said t) (h2 : ∀ i a, touchAt t i = some a -> a.loc.isMemory = true -> Knows t 0 i) (h3 : Deaf t 0 = 0) (h4 : ∀ op ∈ t, op.act.low B) : Past (fun _ => False) B t := by
 refine ⟨h1, fun i a ha hm => .inl (h2 i a ha hm), ?_, h3, h4⟩
 rintro i g hg hne ⟨x, hx, hm, _⟩
 obtain ⟨q, y, hy, hyg, hb⟩ := h2 i x hx hm
 rcases hb with rfl | hb
 ·unfold Trace.g? at hg
  rw [hy] at hg
  simp at hg
  omega
 ·exact ⟨q, by simp [Trace.g?, hy, hyg], hb⟩
theorem partners_lv {gs : Array Goroutine} {t : Trace} {q : Nat -> Nat} (hL : Leavers P t gs q) (r : Nat) (b : Bool) : partners (gs.setIfInBounds 0 ph) r b = [] := by
 refine partners_nil fun j g hj => ?_
 rcases getElem?_stand gs 0 j g hj with ⟨_, rfl⟩ | ⟨h1, h2⟩
 ·exact offersAt_ph r b
 ·exact quits_offers (hL.old j g (by omega) h2) r b
theorem lv_set {gs : Array Goroutine} {t u : Trace} {q : Nat -> Nat} {x : Goroutine} (hL : Leavers P t gs q) (hd : ∀ k, Deaf (t ++ u) k = Deaf t k) : Leavers P (t ++ u) (gs.setIfInBounds 0 x) q :=
 ⟨fun k g h1 h2 => by
  rw [Array.getElem?_setIfInBounds_ne (by omega)] at h2
  rw [hd]
  exact hL.old k g h1 h2, fun k hk => by rw [hd]; exact hL.above k (by simpa using hk)⟩
end
end
section
open Go Go.Conc
open Go.ConcN (sumTo upd sumTo_upd upd_ne upd_same le_sumTo)
section
variable {P : Program} {Post : Value -> World -> Prop} {S : BSet} {c n wk : Nat} {z zs : Value} {vals : Nat -> Value} {mb wb : Bool} {a b : Goroutine} {i j : Nat} {O0 O1 : BSet} {wM wW : World} {gs : Array Goroutine} {w : World} {sl : Option (Nat × Nat)} {t : Trace} {q : Nat -> Nat}
theorem same_offers {a2 a : Goroutine} (h : SameG a2 a) (r : Nat) (d : Bool) : offersAt a2 r d = [] := offersAt_of_not_blocked (by rw [h.run]; intro x; cases x) r d
theorem Sit.words {gs' : Array Goroutine} {w' : World} {u : Trace} (h : Sit P S c wk O0 O1 gs w t q) (hgs : ∀ k, 0 < k -> k ≠ wk -> gs'[k]? = gs[k]?) (hsz : gs'.size = gs.size) (hw : w'.heap.size = w.heap.size) (hu : ∀ op ∈ u, Word c op) : Sit P S c wk O0 O1 gs' w' (t ++ u) q :=
 h.still hgs hsz hw fun op hop => ⟨(hu op hop).1, (hu op hop).2.1, (hu op hop).2.2 _ h.loc⟩
theorem set1 {x : Goroutine} {m k : Nat} (h : m ≠ k) : (gs.setIfInBounds m x)[k]? = gs[k]? := Array.getElem?_setIfInBounds_ne h
end
end
section
open Go Go.Conc
open Go.ConcN (sumTo upd sumTo_upd upd_ne upd_same le_sumTo)
section
variable {P : Program} {Post : Value -> World -> Prop} {S : BSet} {c n wk : Nat} {z zs : Value} {vals : Nat -> Value} {mb wb : Bool} {a b : Goroutine} {i j : Nat} {O0 O1 : BSet} {wM wW : World} {gs : Array Goroutine} {w : World} {sl : Option (Nat × Nat)} {t : Trace} {q : Nat -> Nat} {K : BSet -> Goroutine -> World -> Prop}
theorem mayWake_same {a2 a : Goroutine} (h : SameG a2 a) : mayWake P a2 = mayWake P a := by
 unfold mayWake
 rw [h.frame]
end
end
section
open Go Go.Conc
open Go.ConcN (sumTo upd sumTo_upd upd_ne upd_same le_sumTo)
def RunsOn (P : Program) (Post : Value -> World -> Prop) (g : Goroutine) (w : World) : Prop :=
 ∀ gs sl t q d, gs[0]? = some g -> Leavers P t gs q -> Past (fun _ => False) w.heap.size t -> Concl P Post gs (w.at d) sl t
theorem fin_loop {P : Program} {Post : Value -> World -> Prop} {g : Goroutine} {w : World} (hr : g.status = .running)
  (H : ∀ gs sl t q d, gs[0]? = some g -> Leavers P t gs q -> Past (fun _ => False) w.heap.size t -> (∃ gs' w' ops, runT P (crowd gs (w.at d) sl) 0 = (.next (crowd gs' w' sl), ops) /\ Concl P Post gs' w' sl (t ++ ops)) \/
   ∃ o w' ops, runT P (crowd gs (w.at d) sl) 0 = (.ended o w', ops) /\ ∀ d2 sl2, Good P Post (crowd gs (w.at d2) sl2) o w' (t ++ ops)) : RunsOn P Post g w := by
 have key : ∀ N gs sl t q d, gs[0]? = some g -> Leavers P t gs q -> Past (fun _ => False) w.heap.size t -> sumTo gs.size q <= N -> Concl P Post gs (w.at d) sl t := by
  intro N
  induction N with
  | zero =>
   intro gs sl t q d h0 hL hP hN
   obtain ⟨d', sl', hst | ⟨k, g2, g', es, m, h1, h2, h3, h4, h5, h6, h7⟩⟩ := pick_lv (w := w.at d) (sl := sl) h0 hr hL
   ·rcases H gs sl' t q d' h0 hL hP with ⟨gs', w', ops, e1, e2⟩ | ⟨o, w', ops, e1, e2⟩
    ·exact Concl.step (hst.trans e1) e2
    ·exact ⟨0, _, o, w', t ++ ops, by simp [runNT, hst.trans e1], rfl, by simp [step, hst.trans e1], e2 _ _⟩
   ·have := le_sumTo (f := q) h2
    omega
  | succ N ihN =>
   intro gs sl t q d h0 hL hP hN
   obtain ⟨d', sl', hst | ⟨k, g2, g', es, m, h1, h2, h3, h4, h5, h6, h7⟩⟩ := pick_lv (w := w.at d) (sl := sl) h0 hr hL
   ·rcases H gs sl' t q d' h0 hL hP with ⟨gs', w', ops, e1, e2⟩ | ⟨o, w', ops, e1, e2⟩
    ·exact Concl.step (hst.trans e1) e2
    ·exact ⟨0, _, o, w', t ++ ops, by simp [runNT, hst.trans e1], rfl, by simp [step, hst.trans e1], e2 _ _⟩
   ·obtain ⟨hL2, hsum⟩ := Leavers.move (w := (w.at d).at d') (g := g2) hL h2 h5 h6 h7
    refine Concl.step h4 (ihN _ sl' _ _ d' ?_ hL2 (hP.mute (by omega) h5) (by omega))
    rw [Array.getElem?_setIfInBounds_ne (by omega), Array.getElem?_map, h0]
    simp [woken_run hr]
 exact fun gs sl t q d h0 hL hP => key _ gs sl t q d h0 hL hP (Nat.le_refl _)
theorem fit_evl {O S : BSet} {w w' : World} {e : Event} (h : Fit O S w w' e) : EvL (fun _ => False) w'.heap.size e :=
 ⟨fun _ _ hf => hf.elim, (fit_act h).2.2.1, (fit_act h).2.2.2, (fit_act h).2.1⟩
theorem RunsOn.closed {P : Program} {Post : Value -> World -> Prop} (S : BSet) : Closed P true S (fun _ g w => RunsOn P Post g w) := by
 intro O g w hr h
 refine fin_loop hr fun gs sl t q d h0 hL hP => .inl ?_
 obtain ⟨g', w', es, e, G, F⟩ := h (w.at d) (Rely.at _ _ _ _)
 refine ⟨_, _, _, runT_crowd_go h0 (show stepG P (0 == 0) g (w.at d) = _ from e), ?_⟩
 obtain ⟨f1, f2, f3⟩ := fit_ops (x := 0) (fn := g.frame.fn) (pos := g.frame.place) G.evs
 have e2 : w' = w'.at w'.drawn := rfl
 rw [e2]
 refine F _ sl _ q w'.drawn (get_same h0 _) ⟨fun k y k1 k2 => lv_keep (wk := 0) (.inl rfl) f1 (fun k g k1 _ k3 => hL.old k g k1 k3) k y k1 (by omega) k2, fun k hk => ?_⟩ ((hP.mono (show w.heap.size <= w'.heap.size from G.size)).own fun e he => fit_evl (G.evs e he))
 have hk' : gs.size <= k := by simpa using hk
 have := (Array.getElem?_eq_some_iff.1 h0).1
 rw [Deaf_other t (by omega) _ f1]
 exact hL.above k hk'
theorem fin_end {P : Program} {Post : Value -> World -> Prop} {g : Goroutine} {w : World} (hr : g.status = .running) (h : ∀ d, ∃ v w' es, stepG P true g (w.at d) = .ended (.done v) w' es /\ (∀ e ∈ es, EvL (fun _ => False) w.heap.size e) /\ Post v w') : RunsOn P Post g w := by
 refine fin_loop hr fun gs sl t q d h0 hL hP => .inr ?_
 obtain ⟨v, w', es, e, hes, hp⟩ := h d
 have hP' := hP.own (fn := g.frame.fn) (pos := g.frame.place) hes
 refine ⟨_, _, _, runT_many_ended h0 (show stepG P (0 == 0) g (w.at d) = _ from e), fun d2 sl2 => ⟨v, rfl, hp, hP'.clean, hP'.over, ⟨fun x hx => ?_, rfl⟩, fun j x hx hj => ?_⟩⟩
 ·obtain ⟨j, hj⟩ := List.mem_iff_getElem?.1 hx
  rw [List.getElem?_drop] at hj
  exact ⟨_, (hL.old (1 + j) x (by omega) (by simpa [crowd] using hj)).leaves⟩
 ·have hq := hL.old j x (by omega) hx
  refine ⟨q j, ?_⟩
  have e : (t ++ MemOp.ofEvents 0 g.frame.fn g.frame.place es).deaf j (t ++ MemOp.ofEvents 0 g.frame.fn g.frame.place es).size = Deaf t j :=
   Deaf_other t (g := j) (g' := 0) (by omega) _ (fun op hop => by obtain ⟨e, _, rfl⟩ := Go.Conc.mem_ofEvents hop; rfl)
  rw [e]
  exact hq.hears _
end
section
open Go Go.Conc
open Go.ConcN (sumTo upd sumTo_upd upd_ne upd_same le_sumTo)
abbrev selC (c : Nat) (v zs : Value) (st : Nat) (z2 : Value) : Array CommCase := #[scase c v zs, rcase st z2]
abbrev took (z2 : Value) : Value := .tuple #[goInt 0, .bool false, z2]
theorem finish_sel (P : Program) (g : Goroutine) (c : Nat) (v zs : Value) (st : Nat) (z2 : Value) : g.finishComm P (selC c v zs st z2) .select 0 undef false = Conc.served g (took z2) := by
 simp [Goroutine.finishComm, commResult, selC, scase, rcase, Conc.served, took]
section
variable {P : Program} {gs : Array Goroutine} {w w₁ : World} {sl : Option (Nat × Nat)} {i j : Nat} {g g₂ gj : Goroutine} {es : Array Event} {c cap s r k st : Nat} {buf : Array Value} {closed tm : Bool} {v z zj zs z2 : Value} {blocking : Bool} {shape shj : CommShape} {cs : Array CommCase}
theorem no_stop (hs : ∃ cap s r tm, w₁.heap[st]? = some (.chan cap #[] false s r tm)) (hst : partners (gs.setIfInBounds i ph) st true = []) : ∀ (m : Nat) (c' : CommCase), m ≠ 0 -> (selC c v zs st z2)[m]? = some c' -> NoWays w₁ (gs.setIfInBounds i ph) c' := by
 intro m c' hm hc'
 obtain ⟨cap, s, r, tm, hs⟩ := hs
 match m with
 | 1 =>
  obtain rfl := Option.some.inj hc'
  exact ways_recv_none hs hst
 | m + 2 => simp at hc'
theorem un_send_meets (hi : gs[i]? = some g) (h : stepG P (i == 0) g w = .comm g₂ (selC c v zs st z2) true .select w₁ es) (hc : w₁.heap[c]? = some (.chan cap buf false s r tm)) (hs : ∃ cap s r tm, w₁.heap[st]? = some (.chan cap #[] false s r tm))
  (hst : partners (gs.setIfInBounds i ph) st true = []) (hij : j ≠ i) (hj : gs[j]? = some (parked gj #[rcase c zj] shj)) (hp : partners (gs.setIfInBounds i ph) c false = [(j, 0)]) :
  runT P (crowd gs w sl) i = (.next (crowd ((gs.setIfInBounds j (gj.finishComm P #[rcase c zj] shj 0 v true)).setIfInBounds i (g₂.finishComm P (selC c v zs st z2) .select 0 undef false)) (w₁.setChan c cap buf false (s + 1) (r + 1) tm) sl),
   MemOp.ofEvents i g.frame.fn g.frame.place es ++ #[{ g := i, fn := g₂.frame.fn, pos := g₂.frame.place, act := .send c s }, { g := j, fn := gj.frame.fn, pos := gj.frame.place, act := .recv c r cap },
    { g := i, fn := g₂.frame.fn, pos := g₂.frame.place, act := .sendDone c s }, { g := j, fn := gj.frame.fn, pos := gj.frame.place, act := .recvDone c r }]) := by
 have hw : ways w₁ (gs.setIfInBounds i ph) (scase c v zs) = [.partner j 0] := by simp [ways, scase, hc, hp]
 have ho := no_stop (c := c) (v := v) (zs := zs) (z2 := z2) hs hst
 have hk : (selC c v zs st z2)[0]? = some (scase c v zs) := rfl
 have hj' := stand_get (i := i) hij hj
 have hfp := finishPartner_at P (gs.setIfInBounds i ph) hj' (cs := #[rcase c zj]) (sh := shj) rfl 0 v
 have hgd : (gs.setIfInBounds i ph).getD j default = parked gj #[rcase c zj] shj := by rw [Array.getD_eq_getD_getElem?, hj']; rfl
 rw [runT_crowd_comm hi h]
 unfold communicate
 simp only [ready_one hk (by rw [hw]; simp) ho, hw]
 rw [if_neg]
 ·simp [choose, Sem.run, Question.forced, bind, Sem.bind, pure, scase, crowd, hc, hfp, hgd, set_stand2, rcase, parked, World.setChan]
  rfl
 ·rw [Bool.not_eq_true]; exact any_ill (made_of_one hk (made_send v zs hc) ho)
theorem un_recv_meets (hi : gs[i]? = some g) (h : stepG P (i == 0) g w = .comm g₂ #[rcase c z] blocking shape w₁ es) (hc : w₁.heap[c]? = some (.chan cap #[] closed s r tm)) (hij : j ≠ i) (hj : gs[j]? = some (parked gj (selC c v zs st z2) .select)) (hp : partners (gs.setIfInBounds i ph) c true = [(j, 0)]) :
  runT P (crowd gs w sl) i = (.next (crowd ((gs.setIfInBounds j (gj.finishComm P (selC c v zs st z2) .select 0 undef false)).setIfInBounds i (g₂.finishComm P #[rcase c z] shape 0 v true)) (w₁.setChan c cap #[] closed (s + 1) (r + 1) tm) sl),
   MemOp.ofEvents i g.frame.fn g.frame.place es ++ #[{ g := j, fn := gj.frame.fn, pos := gj.frame.place, act := .send c s }, { g := i, fn := g₂.frame.fn, pos := g₂.frame.place, act := .recv c r cap },
    { g := j, fn := gj.frame.fn, pos := gj.frame.place, act := .sendDone c s }, { g := i, fn := g₂.frame.fn, pos := g₂.frame.place, act := .recvDone c r }]) := by
 rw [runT_crowd_comm hi h]
 have hj' := stand_get (i := i) hij hj
 have hfp := finishPartner_at P (gs.setIfInBounds i ph) hj' (cs := selC c v zs st z2) (sh := .select) rfl 0 undef
 have hgd : (gs.setIfInBounds i ph).getD j default = parked gj (selC c v zs st z2) .select := by rw [Array.getD_eq_getD_getElem?, hj']; rfl
 have hov : offeredValue (gs.setIfInBounds i ph) j 0 = v := by simp [offeredValue, hj', parked, scase]
 have h0 : (selC c v zs st z2)[0]? = some (scase c v zs) := rfl
 simp only [h0, Option.map_some, Option.getD_some, scase, Option.isNone_some] at hfp
 simp [communicate, ways, rcase, hc, hp, choose, Sem.run, Question.forced, bind, Sem.bind, pure, World.setChan, crowd, hfp, hgd, hov, set_stand2, parked]
 rfl
theorem offers_sel_send (r : Nat) : offersAt (parked g (selC c v zs st z2) .select) r true = if c = r then [0] else [] := by
 by_cases h : c = r <;> simp [offersAt, parked, scase, rcase, h]
theorem woken_sel (a a' : Goroutine) {s' r' cap' : Nat} {tm' : Bool} {buf' : Array Value} (hc : w.heap[c]? = some (.chan cap buf false s r tm)) (hs : w.heap[st]? = some (.chan cap' buf' false s' r' tm')) : woken P a a' w (parked g (selC c v zs st z2) .select) = parked g (selC c v zs st z2) .select := by
 unfold woken
 split
 ·simp [Goroutine.again, parked, scase, rcase, hc, hs]
 ·rfl
end
inductive PlanU (P : Program) (S : BSet) (c st n : Nat) (z z2 : Value) (vals : Nat -> Value) : Nat -> BSet -> Goroutine -> World -> Prop
 | go {j : Nat} {O : BSet} {g : Goroutine} {w : World} (hr : g.status = .running) (ho : ∀ w1, Rely O S w w1 -> ∃ g' w' es, stepG P false g w1 = .go g' w' es /\ Guar O S w1 w' es)
   (h : ∀ w1 g' w' es, Rely O S w w1 -> stepG P false g w1 = .go g' w' es -> PlanU P S c st n z z2 vals j (grown O w1 w') g' w') : PlanU P S c st n z z2 vals j O g w
 | send {j : Nat} {O : BSet} {g : Goroutine} {w : World} (hr : g.status = .running) (hj : j < n) (hc : ∀ w1, Rely O S w w1 -> stepG P false g w1 = .comm g (selC c (vals j) z st z2) true .select w1 #[])
   (h : PlanU P S c st n z z2 vals (j + 1) O (Conc.served g (took z2)) w) : PlanU P S c st n z z2 vals j O g w
 | close {j : Nat} {O : BSet} {g : Goroutine} {w : World} (hr : g.status = .running) (hj : j = n)
   (hc : ∀ w1 s r tm, Rely O S w w1 -> w1.heap[c]? = some (.chan 0 #[] false s r tm) -> ∃ g' k, stepG P false g w1 = .go g' (w1.setChan c 0 #[] true s r tm) #[⟨.obj c, false, true⟩, ⟨.obj c, true, true⟩] /\ QuitsD P k 0 g' /\ mayWake P g = true) : PlanU P S c st n z z2 vals j O g w
section
variable {P : Program} {S : BSet} {c st n : Nat} {z z2 : Value} {vals : Nat -> Value}
theorem PlanU.closed (j : Nat) : Closed P false S (PlanU P S c st n z z2 vals j) := by
 intro O g w hr h
 refine .go hr (fun w1 R => ?_) fun w1 g' w' es R e => ?_
 ·obtain ⟨g', w', es, h1, h2, _⟩ := h w1 R
  exact ⟨g', w', es, h1, h2⟩
 ·obtain ⟨g2, w2, es2, h1, _, h3⟩ := h w1 R
  rw [e] at h1
  injection h1 with a1 a2 _
  subst a1 a2
  exact h3
theorem PlanU.running {j : Nat} {O : BSet} {g : Goroutine} {w : World} (h : PlanU P S c st n z z2 vals j O g w) : g.status = .running := by cases h <;> assumption
end
def OpenAt (c : Nat) (w : World) : Prop := ∃ s r tm, w.heap[c]? = some (.chan 0 #[] false s r tm)
theorem OpenAt.guar {O S : BSet} {c : Nat} {w w' : World} {es : Array Event} (h : OpenAt c w) (G : Guar O S w w' es) (hc : ¬ O c) : OpenAt c w' := by
 obtain ⟨s, r, tm, h1⟩ := h
 exact ⟨s, r, tm, by rw [G.keep c (Array.getElem?_eq_some_iff.1 h1).1 hc]; exact h1⟩
theorem OpenAt.other {c d cap : Nat} {buf : Array Value} {cl : Bool} {s r : Nat} {tm : Bool} {w : World} (h : OpenAt d w) (hd : d ≠ c) : OpenAt d (w.setChan c cap buf cl s r tm) := by
 obtain ⟨s, r, tm, h1⟩ := h
 exact ⟨s, r, tm, (setChan_ne hd).trans h1⟩
end
section
open Go Go.Conc
open Go.ConcN (sumTo upd sumTo_upd upd_ne upd_same le_sumTo)
section
variable {P : Program} {Post : Value -> World -> Prop} {S : BSet} {c n wk : Nat} {z : Value} {vals : Nat -> Value} {K : BSet -> Goroutine -> World -> Prop}
structure TU (P : Program) (S : BSet) (c n wk : Nat) (a : Goroutine) (i : Nat) (O : BSet) (wM : World) (gs : Array Goroutine) (w : World) (t : Trace) (q : Nat -> Nat) (a2 : Goroutine) (Oy : BSet) (pc : Nat) : Prop where
 same : SameG a2 a
 g0 : gs[0]? = some a2
 lv : Leavers P t gs q
 rely : Rely O S wM w
 chan : (i = n /\ ∃ s r tm, w.heap[c]? = some (.chan 0 #[] true s r tm))
 geo : Geo O Oy S c
 hy : ∀ b, Oy b -> b < w.heap.size
 hs : ∀ b, S b -> b < w.heap.size
 tx : TX 0 wk Oy S c t
 shut : ShutAt t wk c pc
 seen : ∀ op ∈ t, op.act.low w.heap.size
theorem TU.at {a : Goroutine} {i : Nat} {O : BSet} {wM : World} {gs : Array Goroutine} {w : World} {t : Trace} {q : Nat -> Nat} {a2 : Goroutine} {Oy : BSet} {pc : Nat} (h : TU P S c n wk a i O wM gs w t q a2 Oy pc) (d : Nat) : TU P S c n wk a i O wM gs (w.at d) t q a2 Oy pc :=
 ⟨h.same, h.g0, h.lv, h.rely.trans (Rely.at _ _ _ _), h.chan, h.geo, h.hy, h.hs, h.tx, h.shut, h.seen⟩
theorem tail_loopU {a : Goroutine} {i : Nat} {O : BSet} {wM : World} (HM : ∀ gs w sl t q a2 Oy pc, TU P S c n wk a i O wM gs w t q a2 Oy pc -> ∃ gs' w' ops, runT P (crowd gs w sl) 0 = (.next (crowd gs' w' sl), ops) /\ Concl P Post gs' w' sl (t ++ ops)) :
  ∀ (N : Nat) (gs : Array Goroutine) (w : World) (sl : Option (Nat × Nat)) (t : Trace) (q : Nat -> Nat) (a2 : Goroutine) (Oy : BSet) (pc : Nat), TU P S c n wk a i O wM gs w t q a2 Oy pc -> sumTo gs.size q <= N -> Concl P Post gs w sl t := by
 intro N
 induction N with
 | zero =>
  intro gs w sl t q a2 Oy pc I hN
  obtain ⟨d, sl', hst | ⟨k, g, g', es, m, h1, h2, h3, h4, h5, h6, h7⟩⟩ := pick_lv (w := w) (sl := sl) I.g0 I.same.run I.lv
  ·obtain ⟨gs', w', ops, e1, e2⟩ := HM gs (w.at d) sl' t q a2 Oy pc (I.at d)
   exact Concl.step (hst.trans e1) e2
  ·have := le_sumTo (f := q) h2
   omega
 | succ N ihN =>
  intro gs w sl t q a2 Oy pc I hN
  obtain ⟨d, sl', hst | ⟨k, g, g', es, m, h1, h2, h3, h4, h5, h6, h7⟩⟩ := pick_lv (w := w) (sl := sl) I.g0 I.same.run I.lv
  ·obtain ⟨gs', w', ops, e1, e2⟩ := HM gs (w.at d) sl' t q a2 Oy pc (I.at d)
   exact Concl.step (hst.trans e1) e2
  ·have hu := mute_ops (x := k) (fn := g.frame.fn) (pos := g.frame.place) h5 w.heap.size
   obtain ⟨hL2, hsum⟩ := Leavers.move (w := w.at d) (g := g) I.lv h2 h5 h6 h7
   refine Concl.step h4 (ihN _ (w.at d) sl' _ _ a2 Oy pc ⟨I.same, ?_, hL2, I.rely.trans (Rely.at _ _ _ _), I.chan, I.geo, I.hy, I.hs, I.tx.still (fun op hop => (hu op hop).2.1) (Deaf_other t (by omega) _ fun op hop => (hu op hop).1), I.shut.app fun op hop _ => (hu op hop).2.1, seen_app I.seen fun op hop => (hu op hop).2.2⟩ (by omega))
   rw [Array.getElem?_setIfInBounds_ne (by omega), Array.getElem?_map, I.g0]
   simp [woken_run I.same.run]
theorem tailU (hwk : 0 < wk) (hK : ∀ O g w gs sl t q, K O g w -> gs[0]? = some g -> Leavers P t gs q -> Past (fun _ => False) w.heap.size t -> Concl P Post gs w sl t) {i : Nat} {O : BSet} {a : Goroutine} {wM : World} (hM : PlanM P S c n z vals K i O a wM) :
  ∀ (gs : Array Goroutine) (w : World) (sl : Option (Nat × Nat)) (t : Trace) (q : Nat -> Nat) (a2 : Goroutine) (Oy : BSet) (pc : Nat), TU P S c n wk a i O wM gs w t q a2 Oy pc -> Concl P Post gs w sl t := by
 have quiet : ∀ {u : Array MemOp} {t : Trace}, (∀ op ∈ u, Word c op) -> ∀ k, Deaf (t ++ u) k = Deaf t k := fun {u t} hu k => Go.ConcN.Deaf_still t k u fun op hop => (hu op hop).2.1
 induction hM with
 | @go i O a wM hr ho h ih =>
  intro gs w sl t q a2 Oy pc I
  refine tail_loopU ?_ _ gs w sl t q a2 Oy pc I (Nat.le_refl _)
  intro gs w sl t q a2 Oy pc I
  obtain ⟨hin, s, r, tm, hc⟩ := I.chan
  have hlc : c < w.heap.size := (Array.getElem?_eq_some_iff.1 hc).1
  obtain ⟨g', w', es, e, gu⟩ := ho w I.rely
  refine ⟨_, _, _, runT_crowd_go I.g0 ((I.same.step true _).trans e), ?_⟩
  obtain ⟨f1, f2, f3⟩ := fit_ops (x := 0) (fn := a2.frame.fn) (pos := a2.frame.place) gu.evs
  have G2 := I.geo.grow (w := w) (w' := w') I.hy I.hs hlc
  refine ih _ _ _ _ I.rely e _ _ _ _ q g' Oy pc ⟨SameG.refl (h _ _ _ _ I.rely e).running, get_same I.g0 _, ⟨fun k y k1 k2 => lv_keep (wk := 0) (.inl rfl) f1 (fun k g k1 _ k3 => I.lv.old k g k1 k3) k y k1 (by omega) k2, fun k hk => ?_⟩,
   Rely.refl _ _ _, ⟨hin, s, r, tm, by rw [gu.keep c hlc I.geo.cx]; exact hc⟩, G2, fun b hb => Nat.lt_of_lt_of_le (I.hy b hb) gu.size, fun b hb => Nat.lt_of_lt_of_le (I.hs b hb) gu.size,
   I.tx.own G2 f1 (fun op hop v hv _ => .inl (f2 op hop v hv)) ((fit_deaf gu.evs t).trans I.tx.d), I.shut.app fun op hop hg => ?_, seen_app (fun op hop => MemAct.low_mono gu.size (I.seen op hop)) f3⟩
  ·have hk' : gs.size <= k := by simpa using hk
   have := (Array.getElem?_eq_some_iff.1 I.g0).1
   rw [Deaf_other t (by omega) _ f1]
   exact I.lv.above k hk'
  ·have := f1 op hop
   omega
 | @recv i O a wM hr hc h he _ =>
  intro gs w sl t q a2 Oy pc I
  refine tail_loopU ?_ _ gs w sl t q a2 Oy pc I (Nat.le_refl _)
  intro gs w sl t q a2 Oy pc I
  obtain ⟨hin, s, r, tm, hch⟩ := I.chan
  have hlc : c < w.heap.size := (Array.getElem?_eq_some_iff.1 hch).1
  have hcm : stepG P (0 == 0) a2 w = .comm a #[rcase c z] true (.recv true) w #[] := (I.same.step true _).trans (hc w I.rely)
  ·refine ⟨_, _, _, crowd_recv_closed I.g0 hcm hch (partners_lv I.lv c true), ?_⟩
   obtain ⟨u, hu⟩ : ∃ u, u = MemOp.ofEvents 0 a2.frame.fn a2.frame.place #[] ++ #[({ g := 0, fn := a.frame.fn, pos := a.frame.place, act := .recvClosed c } : MemOp)] := ⟨_, rfl⟩
   rw [<- hu]
   have hw : ∀ op ∈ u, Word c op := by
    rw [hu]
    exact words_nil fun op hop => by simp at hop; subst hop; exact .recvClosed
   have hu2 : u = #[({ g := 0, fn := a.frame.fn, pos := a.frame.place, act := .recvClosed c } : MemOp)] := by
    rw [hu, ofEvents_eq]
    simp
   refine hK O _ w _ sl _ q (he hin w I.rely) (get_set I.g0) (lv_set I.lv (quiet hw)) (past_of (fun said => race_still (I.tx.clean said) fun op hop => (hw op hop).1) ?_ ((quiet hw 0).trans I.tx.d) (seen_app I.seen fun op hop => (hw op hop).2.2 _ hlc))
   rw [hu2]
   exact I.tx.closed I.shut rfl rfl
end
structure JU (P : Program) (S : BSet) (c st n wk : Nat) (z zs z2 : Value) (vals : Nat -> Value) (mb : Bool) (a : Goroutine) (i : Nat) (O0 : BSet) (wM : World) (wb : Bool) (b : Goroutine) (j : Nat) (O1 : BSet) (wW : World)
  (gs : Array Goroutine) (w : World) (t : Trace) (q : Nat -> Nat) : Prop where
 ga : ∃ a2, gs[0]? = some a2 /\ (mb = true -> a2 = parked a #[rcase c z] (.recv true)) /\ (mb = false -> SameG a2 a)
 gb : ∃ b2, gs[wk]? = some b2 /\ (wb = true -> b2 = parked b (selC c (vals j) zs st z2) .select) /\ (wb = false -> SameG b2 b)
 rm : Rely O0 S wM w
 rw' : Rely O1 S wW w
 ch : OpenAt c w
 sp : OpenAt st w
 ss : S st
 jn : j <= n
 ij : i = j
 nb : mb = true -> wb = false
 atr : mb = true -> ∀ w1, Rely O0 S wM w1 -> stepG P true a w1 = .comm a #[rcase c z] true (.recv true) w1 #[]
 ats : wb = true -> ∀ w1, Rely O1 S wW w1 -> stepG P false b w1 = .comm b (selC c (vals j) zs st z2) true .select w1 #[]
 ra : a.status = .running
 rb : b.status = .running
 sit : Sit P S c wk O0 O1 gs w t q
section
variable {P : Program} {Post : Value -> World -> Prop} {S : BSet} {c st n wk : Nat} {z zs z2 : Value} {vals : Nat -> Value} {mb wb : Bool} {a b : Goroutine} {i j : Nat} {O0 O1 : BSet} {wM wW : World} {gs : Array Goroutine} {w : World} {sl : Option (Nat × Nat)} {t : Trace} {q : Nat -> Nat}
theorem JU.ne (h : JU P S c st n wk z zs z2 vals mb a i O0 wM wb b j O1 wW gs w t q) : st ≠ c := fun e => h.sit.geo.cs (e ▸ h.ss)
theorem JU.at (h : JU P S c st n wk z zs z2 vals mb a i O0 wM wb b j O1 wW gs w t q) (d : Nat) : JU P S c st n wk z zs z2 vals mb a i O0 wM wb b j O1 wW gs (w.at d) t q :=
 ⟨h.ga, h.gb, h.rm.trans (Rely.at _ _ _ _), h.rw'.trans (Rely.at _ _ _ _), h.ch, h.sp, h.ss, h.jn, h.ij, h.nb, h.atr, h.ats, h.ra, h.rb, h.sit.at d⟩
theorem woken_mainU {g g' : Goroutine} {w' : World} {cl : Bool} {a2 : Goroutine} (hc : OpenAt c w') (h1 : cl = true -> a2 = parked a #[rcase c z] (.recv true)) (h2 : cl = false -> SameG a2 a) : woken P g g' w' a2 = a2 := by
 obtain ⟨s, r, tm, hc⟩ := hc
 cases cl with
 | true => rw [h1 rfl]; exact woken_recv_open _ _ hc
 | false => exact woken_run (h2 rfl).run
theorem woken_workerU {g g' : Goroutine} {w' : World} {cl : Bool} {b2 : Goroutine} {v : Value} (hc : OpenAt c w') (hs : OpenAt st w') (h1 : cl = true -> b2 = parked b (selC c v zs st z2) .select) (h2 : cl = false -> SameG b2 b) : woken P g g' w' b2 = b2 := by
 obtain ⟨s, r, tm, hc⟩ := hc
 obtain ⟨s', r', tm', hs⟩ := hs
 cases cl with
 | true => rw [h1 rfl]; exact woken_sel _ _ hc hs
 | false => exact woken_run (h2 rfl).run
theorem JU.main_go (h : JU P S c st n wk z zs z2 vals false a i O0 wM wb b j O1 wW gs w t q) {g' : Goroutine} {w' : World} {es : Array Event} (e : stepG P true a w = .go g' w' es) (G : Guar O0 S w w' es) (hr : g'.status = .running) :
  ∃ gs' ops, runT P (crowd gs w sl) 0 = (.next (crowd gs' w' sl), ops) /\ JU P S c st n wk z zs z2 vals false g' i (grown O0 w w') w' wb b j O1 wW gs' w' (t ++ ops) q := by
 obtain ⟨a2, ha, _, hs⟩ := h.ga
 obtain ⟨b2, hb, hb1, hb2⟩ := h.gb
 have hs := hs rfl
 have h0 : 0 < gs.size := (Array.getElem?_eq_some_iff.1 ha).1
 have hc := h.ch.guar G h.sit.geo.cx
 have hsp := h.sp.guar G fun x => h.sit.geo.xs st x h.ss
 have hne : (0 : Nat) ≠ wk := by have := h.sit.pos; omega
 refine ⟨_, _, runT_crowd_go ha ((hs.step true _).trans e), ⟨g', get_same ha _, fun h => (by cases h), fun _ => SameG.refl hr⟩, ⟨b2, ?_, hb1, hb2⟩, Rely.refl _ _ _, G.rely h.sit.geo h.sit.lo1 h.sit.los h.rw', hc, hsp, h.ss, h.jn, h.ij, fun h => (by cases h), fun h => (by cases h), h.ats, hr, h.rb, h.sit.go0 G h0⟩
 rw [Array.getElem?_setIfInBounds_ne hne, Array.getElem?_map, hb]
 exact congrArg some (woken_workerU hc hsp hb1 hb2)
theorem JU.work_go (h : JU P S c st n wk z zs z2 vals mb a i O0 wM false b j O1 wW gs w t q) {g' : Goroutine} {w' : World} {es : Array Event} (e : stepG P false b w = .go g' w' es) (G : Guar O1 S w w' es) (hr : g'.status = .running) :
  ∃ gs' ops, runT P (crowd gs w sl) wk = (.next (crowd gs' w' sl), ops) /\ JU P S c st n wk z zs z2 vals mb a i O0 wM false g' j (grown O1 w w') w' gs' w' (t ++ ops) q := by
 obtain ⟨a2, ha, ha1, ha2⟩ := h.ga
 obtain ⟨b2, hb, _, hs⟩ := h.gb
 have hs := hs rfl
 have h0 : wk < gs.size := (Array.getElem?_eq_some_iff.1 hb).1
 have hc := h.ch.guar G h.sit.geo.cy
 have hsp := h.sp.guar G fun x => h.sit.geo.ys st x h.ss
 have hne : wk ≠ 0 := by have := h.sit.pos; omega
 have hb0 : (wk == 0) = false := by simpa using hne
 refine ⟨_, _, runT_crowd_go hb (by rw [hb0]; exact (hs.step false _).trans e), ⟨a2, ?_, ha1, ha2⟩, ⟨g', get_same hb _, fun h => (by cases h), fun _ => SameG.refl hr⟩, G.rely h.sit.geo.symm h.sit.lo0 h.sit.los h.rm, Rely.refl _ _ _, hc, hsp, h.ss, h.jn, h.ij, fun _ => rfl, h.atr, fun h => (by cases h), h.ra, hr, h.sit.go1 G h0⟩
 rw [Array.getElem?_setIfInBounds_ne hne, Array.getElem?_map, ha]
 exact congrArg some (woken_mainU hc ha1 ha2)
theorem JU.offers (h : JU P S c st n wk z zs z2 vals mb a i O0 wM wb b j O1 wW gs w t q) {k : Nat} {g : Goroutine} (h1 : k ≠ 0) (h2 : k ≠ wk) (hk : gs[k]? = some g) (r : Nat) (d : Bool) : offersAt g r d = [] :=
 quits_offers (h.sit.lv k g (by omega) h2 hk) r d
theorem JU.no_recv (h : JU P S c st n wk z zs z2 vals false a i O0 wM wb b j O1 wW gs w t q) : partners (gs.setIfInBounds wk ph) c false = [] := by
 refine partners_nil fun k g hk => ?_
 rcases getElem?_stand gs wk k g hk with ⟨_, rfl⟩ | ⟨h1, h2⟩
 ·exact offersAt_ph c false
 ·by_cases hk0 : k = 0
  ·subst hk0
   obtain ⟨a2, ha, _, hs⟩ := h.ga
   rw [h2] at ha
   rw [Option.some.inj ha]
   exact same_offers (hs rfl) c false
  ·exact h.offers hk0 h1 h2 c false
theorem JU.no_stop (h : JU P S c st n wk z zs z2 vals mb a i O0 wM wb b j O1 wW gs w t q) : partners (gs.setIfInBounds wk ph) st true = [] := by
 refine partners_nil fun k g hk => ?_
 rcases getElem?_stand gs wk k g hk with ⟨_, rfl⟩ | ⟨h1, h2⟩
 ·exact offersAt_ph st true
 ·by_cases hk0 : k = 0
  ·subst hk0
   obtain ⟨a2, ha, ha1, ha2⟩ := h.ga
   rw [h2] at ha
   rw [Option.some.inj ha]
   cases hm : mb with
   | false => exact same_offers (ha2 hm) st true
   | true => rw [ha1 hm]; exact offersAt_parked_recv' ..
  ·exact h.offers hk0 h1 h2 st true
theorem JU.no_send (h : JU P S c st n wk z zs z2 vals mb a i O0 wM false b j O1 wW gs w t q) : partners (gs.setIfInBounds 0 ph) c true = [] := by
 refine partners_nil fun k g hk => ?_
 rcases getElem?_stand gs 0 k g hk with ⟨_, rfl⟩ | ⟨h1, h2⟩
 ·exact offersAt_ph c true
 ·by_cases hkw : k = wk
  ·subst hkw
   obtain ⟨b2, hb, _, hs⟩ := h.gb
   rw [h2] at hb
   rw [Option.some.inj hb]
   exact same_offers (hs rfl) c true
  ·exact h.offers h1 hkw h2 c true
theorem JU.one_recv (h : JU P S c st n wk z zs z2 vals true a i O0 wM wb b j O1 wW gs w t q) : partners (gs.setIfInBounds wk ph) c false = [(0, 0)] := by
 obtain ⟨a2, ha, ha1, _⟩ := h.ga
 obtain rfl := ha1 rfl
 have hne : (0 : Nat) ≠ wk := by have := h.sit.pos; omega
 rw [partners_one (j := 0) (stand_get hne ha) fun k g h0 hk => ?_, offersAt_parked_recv, if_pos rfl]
 ·rfl
 ·rcases getElem?_stand gs wk k g hk with ⟨_, rfl⟩ | ⟨h1, h2⟩
  ·exact offersAt_ph c false
  ·exact h.offers h0 h1 h2 c false
theorem JU.one_send (h : JU P S c st n wk z zs z2 vals mb a i O0 wM true b j O1 wW gs w t q) : partners (gs.setIfInBounds 0 ph) c true = [(wk, 0)] := by
 obtain ⟨b2, hb, hb1, _⟩ := h.gb
 obtain rfl := hb1 rfl
 have hne : wk ≠ 0 := by have := h.sit.pos; omega
 rw [partners_one (j := wk) (stand_get hne hb) fun k g h0 hk => ?_, offers_sel_send, if_pos rfl]
 ·rfl
 ·rcases getElem?_stand gs 0 k g hk with ⟨_, rfl⟩ | ⟨h1, h2⟩
  ·exact offersAt_ph c true
  ·exact h.offers h1 h0 h2 c true
theorem JU.recv_meets (h : JU P S c st n wk z zs z2 vals false a i O0 wM true b j O1 wW gs w t q) (hjn : j < n) (hc : ∀ w1, Rely O0 S wM w1 -> stepG P true a w1 = .comm a #[rcase c z] true (.recv true) w1 #[]) :
  ∃ gs' w' ops, runT P (crowd gs w sl) 0 = (.next (crowd gs' w' sl), ops) /\ JU P S c st n wk z zs z2 vals false (Conc.served a (.tuple #[vals i, .bool true])) (i + 1) O0 wM false (Conc.served b (took z2)) (j + 1) O1 wW gs' w' (t ++ ops) q := by
 obtain ⟨a2, ha, _, hs⟩ := h.ga
 obtain ⟨b2, hb, hb1, _⟩ := h.gb
 obtain rfl := hb1 rfl
 obtain ⟨s, r, tm, hch⟩ := h.ch
 obtain rfl := h.ij
 have hne : (0 : Nat) ≠ wk := by have := h.sit.pos; omega
 have hcm : stepG P (0 == 0) a2 w = .comm a #[rcase c z] true (.recv true) w #[] := ((hs rfl).step true _).trans (hc w h.rm)
 refine ⟨_, _, _, un_recv_meets ha hcm hch (Ne.symm hne) hb h.one_send, ?_⟩
 rw [finish_sel]
 refine ⟨⟨_, get_set (y := a2) (by rw [set1 (Ne.symm hne)]; exact ha), fun h => (by cases h), fun _ => SameG.refl rfl⟩, ⟨_, by rw [set1 hne]; exact get_set hb, fun h => (by cases h), fun _ => SameG.refl rfl⟩, h.rm.chan h.sit.geo.cx h.sit.geo.cs, h.rw'.chan h.sit.geo.cy h.sit.geo.cs,
  ⟨s + 1, r + 1, tm, setChan_get h.sit.loc⟩, h.sp.other h.ne, h.ss, by omega, rfl, fun h => (by cases h), fun h => (by cases h), fun h => (by cases h), rfl, rfl,
  h.sit.words (fun k h1 h2 => by rw [set1 (by omega), set1 (Ne.symm h2)]) (by simp) setChan_size (words_nil fun op hop => ?_)⟩
 simp at hop
 rcases hop with rfl | rfl | rfl | rfl
 ·exact .send
 ·exact .recv
 ·exact .sendDone
 ·exact .recvDone
theorem JU.recv_waits (h : JU P S c st n wk z zs z2 vals false a i O0 wM false b j O1 wW gs w t q) (hc : ∀ w1, Rely O0 S wM w1 -> stepG P true a w1 = .comm a #[rcase c z] true (.recv true) w1 #[]) :
  ∃ gs' ops, runT P (crowd gs w sl) 0 = (.next (crowd gs' w sl), ops) /\ JU P S c st n wk z zs z2 vals true a i O0 wM false b j O1 wW gs' w (t ++ ops) q := by
 obtain ⟨a2, ha, _, hs⟩ := h.ga
 obtain ⟨b2, hb, hb1, hb2⟩ := h.gb
 obtain ⟨s, r, tm, hch⟩ := h.ch
 have hne : (0 : Nat) ≠ wk := by have := h.sit.pos; omega
 have hcm : stepG P (0 == 0) a2 w = .comm a #[rcase c z] true (.recv true) w #[] := ((hs rfl).step true _).trans (hc w h.rm)
 refine ⟨_, _, crowd_waits ha hcm (fun cc hcc => ?_), ⟨⟨_, get_set ha, fun _ => rfl, fun h => (by cases h)⟩, ⟨b2, by rw [set1 hne]; exact hb, hb1, hb2⟩, h.rm, h.rw', h.ch, h.sp, h.ss, h.jn, h.ij, fun _ => rfl, fun _ => hc, h.ats, h.ra, h.rb,
  h.sit.words (fun k h1 _ => set1 (by omega)) (by simp) rfl (fun op hop => ?_)⟩⟩
 ·simp at hcc
  subst hcc
  exact ways_recv_none hch h.no_send
 ·rw [ofEvents_eq] at hop
  simp at hop
theorem JU.send_meets (h : JU P S c st n wk z zs z2 vals true a i O0 wM false b j O1 wW gs w t q) (hjn : j < n) (hc : ∀ w1, Rely O1 S wW w1 -> stepG P false b w1 = .comm b (selC c (vals j) zs st z2) true .select w1 #[]) :
  ∃ gs' w' ops, runT P (crowd gs w sl) wk = (.next (crowd gs' w' sl), ops) /\ JU P S c st n wk z zs z2 vals false (Conc.served a (.tuple #[vals i, .bool true])) (i + 1) O0 wM false (Conc.served b (took z2)) (j + 1) O1 wW gs' w' (t ++ ops) q := by
 obtain ⟨a2, ha, ha1, _⟩ := h.ga
 obtain rfl := ha1 rfl
 obtain ⟨b2, hb, _, hs⟩ := h.gb
 obtain ⟨s, r, tm, hch⟩ := h.ch
 obtain ⟨s', r', tm', hsp⟩ := h.sp
 obtain rfl := h.ij
 have hne : wk ≠ 0 := by have := h.sit.pos; omega
 have hb0 : (wk == 0) = false := by simpa using hne
 have hcm : stepG P (wk == 0) b2 w = .comm b (selC c (vals i) zs st z2) true .select w #[] := by rw [hb0]; exact ((hs rfl).step false _).trans (hc w h.rw')
 refine ⟨_, _, _, un_send_meets hb hcm hch ⟨0, s', r', tm', hsp⟩ h.no_stop (Ne.symm hne) ha h.one_recv, ?_⟩
 rw [finish_sel]
 refine ⟨⟨_, by rw [set1 hne]; exact get_set ha, fun h => (by cases h), fun _ => SameG.refl rfl⟩, ⟨_, get_set (y := b2) (by rw [set1 (Ne.symm hne)]; exact hb), fun h => (by cases h), fun _ => SameG.refl rfl⟩, h.rm.chan h.sit.geo.cx h.sit.geo.cs, h.rw'.chan h.sit.geo.cy h.sit.geo.cs,
  ⟨s + 1, r + 1, tm, setChan_get h.sit.loc⟩, h.sp.other h.ne, h.ss, by omega, rfl, fun h => (by cases h), fun h => (by cases h), fun h => (by cases h), rfl, rfl,
  h.sit.words (fun k h1 h2 => by rw [set1 (Ne.symm h2), set1 (by omega)]) (by simp) setChan_size (words_nil fun op hop => ?_)⟩
 simp at hop
 rcases hop with rfl | rfl | rfl | rfl
 ·exact .send
 ·exact .recv
 ·exact .sendDone
 ·exact .recvDone
theorem JU.send_waits (h : JU P S c st n wk z zs z2 vals false a i O0 wM false b j O1 wW gs w t q) (hc : ∀ w1, Rely O1 S wW w1 -> stepG P false b w1 = .comm b (selC c (vals j) zs st z2) true .select w1 #[]) :
  ∃ gs' ops, runT P (crowd gs w sl) wk = (.next (crowd gs' w sl), ops) /\ JU P S c st n wk z zs z2 vals false a i O0 wM true b j O1 wW gs' w (t ++ ops) q := by
 obtain ⟨a2, ha, ha1, ha2⟩ := h.ga
 obtain ⟨b2, hb, _, hs⟩ := h.gb
 obtain ⟨s, r, tm, hch⟩ := h.ch
 obtain ⟨s', r', tm', hsp⟩ := h.sp
 have hne : wk ≠ 0 := by have := h.sit.pos; omega
 have hb0 : (wk == 0) = false := by simpa using hne
 have hcm : stepG P (wk == 0) b2 w = .comm b (selC c (vals j) zs st z2) true .select w #[] := by rw [hb0]; exact ((hs rfl).step false _).trans (hc w h.rw')
 refine ⟨_, _, crowd_waits hb hcm (fun cc hcc => ?_), ⟨⟨a2, by rw [set1 hne]; exact ha, ha1, ha2⟩, ⟨_, get_set hb, fun _ => rfl, fun h => (by cases h)⟩, h.rm, h.rw', h.ch, h.sp, h.ss, h.jn, h.ij, fun h => (by cases h), h.atr, fun _ => hc, h.ra, h.rb,
  h.sit.words (fun k _ h2 => set1 (Ne.symm h2)) (by simp) rfl (fun op hop => ?_)⟩⟩
 ·simp at hcc
  rcases hcc with rfl | rfl
  ·exact ways_send_none hch (Nat.zero_le _) h.no_recv
  ·exact ways_recv_none hsp h.no_stop
 ·rw [ofEvents_eq] at hop
  simp at hop
end
end
end Go.Proofs.YtdobjciaikofdaaGreatDoor
