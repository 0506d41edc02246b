/- Part 10 of 39 of what the proof of this law needs. Put together by a program out of the texts: UnC CoC CoD CoE CoF. -/
import Derived.Test.YtdobjciaikofdaaGreatDoorTopShakeAll09
import Derived.Test.YtdobjciaikofdaaGreatDoorProg
import Derived.KernelRfl
namespace Go.Proofs.YtdobjciaikofdaaGreatDoor
section
open Go Go.Conc
open Go.ConcN (sumTo upd sumTo_upd upd_ne upd_same le_sumTo)
section
variable {P : Program} {Post : Value -> World -> Prop} {S : BSet} {c st n wk : Nat} {z zs z2 : Value} {vals : Nat -> Value} {mb wb : Bool} {a b : Goroutine} {i j : Nat} {O0 O1 : BSet} {wM wW : World} {gs : Array Goroutine} {w : World} {sl : Option (Nat × Nat)} {t : Trace} {q : Nat -> Nat} {K : BSet -> Goroutine -> World -> Prop}
theorem JU.pick (sl : Option (Nat × Nat)) (h : JU P S c st n wk z zs z2 vals mb a i O0 wM wb b j O1 wW gs w t q) :
  ∃ d sl', (mb = false /\ stepT P (crowd gs w sl) = runT P (crowd gs (w.at d) sl') 0) \/ (wb = false /\ stepT P (crowd gs w sl) = runT P (crowd gs (w.at d) sl') wk) \/
   ∃ gs' u q', stepT P (crowd gs w sl) = (.next (crowd gs' (w.at d) sl'), u) /\ JU P S c st n wk z zs z2 vals mb a i O0 wM wb b j O1 wW gs' (w.at d) (t ++ u) q' /\ sumTo gs'.size q' + 1 <= sumTo gs.size q := by
 obtain ⟨a2, ha, ha1, ha2⟩ := h.ga
 obtain ⟨b2, hb, hb1, hb2⟩ := h.gb
 have hne : wk ≠ 0 := by have := h.sit.pos; omega
 have sa : a2.status = .running \/ a2.status = .blocked := by
  cases hm : mb with
  | false => exact .inl (ha2 hm).run
  | true => rw [ha1 hm]; exact .inr rfl
 have sb : b2.status = .running \/ b2.status = .blocked := by
  cases hm : wb with
  | false => exact .inl (hb2 hm).run
  | true => rw [hb1 hm]; exact .inr rfl
 have haw : ∀ g ∈ gs, awake g := by
  intro g hg
  obtain ⟨k, hk, rfl⟩ := Array.mem_iff_getElem.1 hg
  have hk' := Array.getElem?_eq_getElem hk
  by_cases h0 : k = 0
  ·subst h0
   rw [ha] at hk'
   rw [<- Option.some.inj hk']
   exact awake_of (sa.imp id .inl)
  ·by_cases hw : k = wk
   ·subst hw
    rw [hb] at hk'
    rw [<- Option.some.inj hk']
    exact awake_of (sb.imp id .inl)
   ·exact quits_awake (h.sit.lv k _ (by omega) hw hk')
 have hsome : ∃ (k : Nat) (g : Goroutine), gs[k]? = some g /\ g.status = .running := by
  cases hm : mb with
  | false => exact ⟨0, a2, ha, (ha2 hm).run⟩
  | true =>
   cases hw : wb with
   | false => exact ⟨wk, b2, hb, (hb2 hw).run⟩
   | true => rw [h.nb hm] at hw; cases hw
 obtain ⟨k, g, d, sl', hk, hg, hst⟩ := crowd_pick (P := P) (w := w) (sl := sl) haw hsome
 refine ⟨d, sl', ?_⟩
 by_cases h0 : k = 0
 ·subst h0
  refine .inl ⟨?_, hst⟩
  cases hm : mb with
  | false => rfl
  | true =>
   rw [ha] at hk
   rw [<- Option.some.inj hk, ha1 hm] at hg
   cases hg
 ·by_cases hw : k = wk
  ·subst hw
   refine .inr (.inl ⟨?_, hst⟩)
   cases hm : wb with
   | false => rfl
   | true =>
    rw [hb] at hk
    rw [<- Option.some.inj hk, hb1 hm] at hg
    cases hg
  ·have hk0 : 0 < k := by omega
   have hlt := (Array.getElem?_eq_some_iff.1 hk).1
   have hI := h.at d
   obtain ⟨g', es, m, h1, h2, h3, h4⟩ := leaver_step (w := w.at d) (sl := sl') hk0 hk (h.sit.lv k g hk0 hw hk) hg
   refine .inr (.inr ⟨_, _, upd q k m, hst.trans h1, ⟨⟨a2, ?_, ha1, ha2⟩, ⟨b2, ?_, hb1, hb2⟩, hI.rm, hI.rw', hI.ch, hI.sp, hI.ss, hI.jn, hI.ij, hI.nb, hI.atr, hI.ats, hI.ra, hI.rb, hI.sit.leave hk0 hw hlt h2 h4⟩, ?_⟩)
   ·rw [set1 h0, Array.getElem?_map, ha]
    exact congrArg some (woken_mainU hI.ch ha1 ha2)
   ·rw [set1 hw, Array.getElem?_map, hb]
    exact congrArg some (woken_workerU hI.ch hI.sp hb1 hb2)
   ·have : sumTo gs.size (upd q k m) + q k = sumTo gs.size q + m := sumTo_upd q m id hlt
    simp only [Array.size_setIfInBounds, Array.size_map]
    omega
theorem JU.close (h : JU P S c st n wk z zs z2 vals mb a i O0 wM false b n O1 wW gs w t q) (hc : ∀ w1 s r tm, Rely O1 S wW w1 -> w1.heap[c]? = some (.chan 0 #[] false s r tm) -> ∃ g' k, stepG P false b w1 = .go g' (w1.setChan c 0 #[] true s r tm) #[⟨.obj c, false, true⟩, ⟨.obj c, true, true⟩] /\ QuitsD P k 0 g' /\ mayWake P b = true) :
  ∃ gs' w' ops q' a2 Oy pc, runT P (crowd gs w sl) wk = (.next (crowd gs' w' sl), ops) /\ TU P S c n wk a i O0 wM gs' w' (t ++ ops) q' a2 Oy pc := by
 obtain ⟨a2, ha, ha1, ha2⟩ := h.ga
 obtain ⟨b2, hb, _, hs⟩ := h.gb
 obtain ⟨s, r, tm, hch⟩ := h.ch
 have hne : wk ≠ 0 := by have := h.sit.pos; omega
 have hb0 : (wk == 0) = false := by simpa using hne
 obtain ⟨g', k, e, hq, hmw⟩ := hc w s r tm h.rw' hch
 have hrun := runT_crowd_go (P := P) (sl := sl) hb (show stepG P (wk == 0) b2 w = _ by rw [hb0]; exact ((hs rfl).step false _).trans e)
 obtain ⟨u, hu⟩ : ∃ u, u = MemOp.ofEvents wk b2.frame.fn b2.frame.place #[⟨.obj c, false, true⟩, ⟨.obj c, true, true⟩] := ⟨_, rfl⟩
 have hu2 : u = #[{ g := wk, fn := b2.frame.fn, pos := b2.frame.place, act := .access ⟨.obj c, false, true⟩ }, { g := wk, fn := b2.frame.fn, pos := b2.frame.place, act := .close c }] := by
  rw [hu, ofEvents_eq]
  simp [MemAct.ofEvent]
 rw [<- hu] at hrun
 have hug : ∀ op ∈ u, op.g = wk := by
  intro op hop
  rw [hu2] at hop
  simp at hop
  rcases hop with rfl | rfl <;> rfl
 have hut : ∀ op ∈ u, ∀ v, op.act.touch? = some v -> v.loc = .obj c /\ v.kind = .atomic := by
  intro op hop v hv
  rw [hu2] at hop
  simp at hop
  rcases hop with rfl | rfl
  ·cases hv; exact ⟨rfl, rfl⟩
  ·cases hv
 have hudm : ∀ op ∈ u, op.act ≠ .mark .disable /\ op.act ≠ .mark .enable := by
  intro op hop
  rw [hu2] at hop
  simp at hop
  rcases hop with rfl | rfl <;> exact ⟨fun h => (by cases h), fun h => (by cases h)⟩
 have hul : ∀ op ∈ u, op.act.low w.heap.size := by
  intro op hop
  rw [hu2] at hop
  simp at hop
  rcases hop with rfl | rfl <;> exact h.sit.loc
 have hd : ∀ k, Deaf (t ++ u) k = Deaf t k := fun k => Go.ConcN.Deaf_still t k u hudm
 have T1 : TX wk 0 O0 S c (t ++ u) := h.sit.t1.own h.sit.geo.symm hug (fun op hop v hv _ => .inr (hut op hop v hv)) ((hd wk).trans h.sit.t1.d)
 have T0 : TX 0 wk O1 S c (t ++ u) := h.sit.t0.other (fun _ x => x) hug hne (fun op hop v hv _ => .inr (hut op hop v hv)) T1.clean
 have hg' : (g'.status != .blocked && g'.status != .waiting) = true := by rcases hq.status with x | x <;> rw [x] <;> rfl
 have hcl : (w.setChan c 0 #[] true s r tm).heap[c]? = some (.chan 0 #[] true s r tm) := setChan_get h.sit.loc
 refine ⟨_, _, u, upd q wk k, woken P b2 g' (w.setChan c 0 #[] true s r tm) a2, O1, t.size + 1, hrun, ⟨?_, ?_, ⟨fun m y h1 h2 => ?_, fun m hm => ?_⟩, h.rm.chan h.sit.geo.cx h.sit.geo.cs, ⟨h.ij, s, r, tm, hcl⟩, h.sit.geo, fun x hx => by rw [setChan_size]; exact h.sit.lo1 x hx, fun x hx => by rw [setChan_size]; exact h.sit.los x hx, T0, ⟨?_, ?_, fun m op v h1 h2 h3 => ?_⟩, seen_app (fun op hop => by rw [setChan_size]; exact h.sit.seen op hop) fun op hop => by rw [setChan_size]; exact hul op hop⟩⟩
 ·cases hm : mb with
  | false =>
   rw [woken_run (ha2 hm).run]
   exact ha2 hm
  | true =>
   rw [ha1 hm]
   unfold Go.Conc.woken
   rw [mayWake_same (hs rfl), hmw]
   rw [if_pos (by simpa using hg'), again_recv_closed hcl]
   exact ⟨rfl, rfl, rfl, rfl⟩
 ·rw [set1 hne, Array.getElem?_map, ha]
  rfl
 ·by_cases hmk : m = wk
  ·subst hmk
   rw [get_same hb] at h2
   rw [<- Option.some.inj h2, upd_same, hd, h.sit.t1.d]
   exact hq
  ·rw [set1 (Ne.symm hmk), Array.getElem?_map] at h2
   obtain ⟨x, hx, rfl⟩ := Option.map_eq_some_iff.1 h2
   have hqm := h.sit.lv m x h1 hmk hx
   rw [woken_quitsD hqm, upd_ne q k hmk, hd]
   exact hqm
 ·rw [hd]
  exact h.sit.above m (by simpa using hm)
 ·unfold Trace.act?
  rw [Array.getElem?_append_right (Nat.le_add_right _ _), hu2]
  simp
 ·refine ⟨wk, ?_, ?_⟩
  ·unfold Trace.g?
   rw [Array.getElem?_append_right (Nat.le_add_right _ _), hu2]
   simp
  ·have e1 : t ++ u = (t ++ #[u.getD 0 default]) ++ #[u.getD 1 default] := by rw [hu2]; apply Array.ext'; simp
   have e2 : t.size + 1 = (t ++ #[u.getD 0 default]).size := by simp
   rw [e1, e2, deaf_old (Nat.le_refl _)]
   show Deaf (t ++ #[u.getD 0 default]) wk = 0
   rw [Go.ConcN.Deaf_still t wk _ fun op hop => hudm op (by simp at hop; subst hop; rw [hu2]; simp)]
   exact h.sit.t1.d
 ·have hlast : (t ++ u)[t.size + 1]? = some { g := wk, fn := b2.frame.fn, pos := b2.frame.place, act := .close c } := by
   rw [Array.getElem?_append_right (Nat.le_add_right _ _), hu2]
   simp
  have hlt := lt_size_of_getElem? h1
  have hsz : (t ++ u).size = t.size + 2 := by rw [hu2]; simp
  by_cases hm : m = t.size + 1
  ·exact .inl hm
  ·exact .inr (hb_po (by omega) h1 hlast (by rw [h2]))
theorem jointU (hK : ∀ O g w gs sl t q, K O g w -> gs[0]? = some g -> Leavers P t gs q -> Past (fun _ => False) w.heap.size t -> Concl P Post gs w sl t) (hM : PlanM P S c n z vals K i O0 a wM) :
  ∀ {j : Nat} {O1 : BSet} {b : Goroutine} {wW : World}, PlanU P S c st n zs z2 vals j O1 b wW -> ∀ (mb wb : Bool) (gs : Array Goroutine) (w : World) (sl : Option (Nat × Nat)) (t : Trace) (q : Nat -> Nat), JU P S c st n wk z zs z2 vals mb a i O0 wM wb b j O1 wW gs w t q -> Concl P Post gs w sl t := by
 -- who is left but leavers: by their measure
 have loop : ∀ {mb : Bool} {a : Goroutine} {i : Nat} {O0 : BSet} {wM : World} {wb : Bool} {b : Goroutine} {j : Nat} {O1 : BSet} {wW : World},
   (∀ gs w sl t q, mb = false -> JU P S c st n wk z zs z2 vals mb a i O0 wM wb b j O1 wW gs w t q -> ∃ gs' w' ops, runT P (crowd gs w sl) 0 = (.next (crowd gs' w' sl), ops) /\ Concl P Post gs' w' sl (t ++ ops)) ->
   (∀ gs w sl t q, wb = false -> JU P S c st n wk z zs z2 vals mb a i O0 wM wb b j O1 wW gs w t q -> ∃ gs' w' ops, runT P (crowd gs w sl) wk = (.next (crowd gs' w' sl), ops) /\ Concl P Post gs' w' sl (t ++ ops)) ->
   ∀ gs w sl t q, JU P S c st n wk z zs z2 vals mb a i O0 wM wb b j O1 wW gs w t q -> Concl P Post gs w sl t := by
  intro mb a i O0 wM wb b j O1 wW H0 H1
  have key : ∀ N gs w sl t q, JU P S c st n wk z zs z2 vals mb a i O0 wM wb b j O1 wW gs w t q -> sumTo gs.size q <= N -> Concl P Post gs w sl t := by
   intro N
   induction N with
   | zero =>
    intro gs w sl t q I hN
    obtain ⟨d, sl', ⟨h1, h2⟩ | ⟨h1, h2⟩ | ⟨gs', u, q', h1, h2, h3⟩⟩ := I.pick sl
    ·obtain ⟨gs', w', ops, e1, e2⟩ := H0 _ _ sl' _ _ h1 (I.at d)
     exact Concl.step (h2.trans e1) e2
    ·obtain ⟨gs', w', ops, e1, e2⟩ := H1 _ _ sl' _ _ h1 (I.at d)
     exact Concl.step (h2.trans e1) e2
    ·omega
   | succ N ih =>
    intro gs w sl t q I hN
    obtain ⟨d, sl', ⟨h1, h2⟩ | ⟨h1, h2⟩ | ⟨gs', u, q', h1, h2, h3⟩⟩ := I.pick sl
    ·obtain ⟨gs', w', ops, e1, e2⟩ := H0 _ _ sl' _ _ h1 (I.at d)
     exact Concl.step (h2.trans e1) e2
    ·obtain ⟨gs', w', ops, e1, e2⟩ := H1 _ _ sl' _ _ h1 (I.at d)
     exact Concl.step (h2.trans e1) e2
    ·exact Concl.step h1 (ih _ _ _ _ _ h2 (by omega))
  exact fun gs w sl t q I => key _ gs w sl t q I (Nat.le_refl _)
 induction hM with
 | @go i O0 a wM hr ho h ihM =>
  intro j O1 b wW hW
  -- goroutine 0's own step
  have H0 : ∀ {j : Nat} {O1 : BSet} {b : Goroutine} {wW : World}, PlanU P S c st n zs z2 vals j O1 b wW -> ∀ (mb wb : Bool) gs w sl t q, mb = false -> JU P S c st n wk z zs z2 vals mb a i O0 wM wb b j O1 wW gs w t q -> ∃ gs' w' ops, runT P (crowd gs w sl) 0 = (.next (crowd gs' w' sl), ops) /\ Concl P Post gs' w' sl (t ++ ops) := by
   intro j O1 b wW hW mb wb gs w sl t q hmb I
   subst hmb
   obtain ⟨g', w', es, e, G⟩ := ho w I.rm
   obtain ⟨gs', ops, e1, I2⟩ := I.main_go (sl := sl) e G (h _ _ _ _ I.rm e).running
   exact ⟨gs', w', ops, e1, ihM _ _ _ _ I.rm e hW _ _ _ _ _ _ _ I2⟩
  have hmb : ∀ {mb wb : Bool} {j : Nat} {O1 : BSet} {b : Goroutine} {wW : World} {gs w t q}, JU P S c st n wk z zs z2 vals mb a i O0 wM wb b j O1 wW gs w t q -> mb = false := by
   intro mb wb j O1 b wW gs w t q I
   cases hm : mb with
   | false => rfl
   | true =>
    have e := I.atr hm w I.rm
    obtain ⟨g', w', es, e2, _⟩ := ho w I.rm
    rw [e] at e2
    cases e2
  induction hW with
  | @go j O1 b wW hrb hob hb ihW =>
   intro mb wb gs w sl t q I
   refine loop (H0 (.go hrb hob hb) mb wb) (fun gs w sl t q hwb I => ?_) gs w sl t q I
   subst hwb
   obtain ⟨g', w', es, e, G⟩ := hob w I.rw'
   obtain ⟨gs', ops, e1, I2⟩ := I.work_go (sl := sl) e G (hb _ _ _ _ I.rw' e).running
   exact ⟨gs', w', ops, e1, ihW _ _ _ _ I.rw' e _ _ _ _ _ _ _ I2⟩
  | @send j O1 b wW hrb hj hc hb ihW =>
   have full : ∀ gs w sl t q, JU P S c st n wk z zs z2 vals false a i O0 wM true b j O1 wW gs w t q -> Concl P Post gs w sl t :=
    loop (H0 (.send hrb hj hc hb) false true) fun gs w sl t q hwb I => by cases hwb
   intro mb wb gs w sl t q I
   obtain rfl := hmb I
   cases wb with
   | true => exact full gs w sl t q I
   | false =>
    refine loop (H0 (.send hrb hj hc hb) false false) (fun gs w sl t q _ I => ?_) gs w sl t q I
    obtain ⟨gs', ops, e1, I2⟩ := I.send_waits (sl := sl) hc
    exact ⟨gs', w, ops, e1, full _ _ _ _ _ I2⟩
  | @close j O1 b wW hrb hj hc =>
   subst hj
   intro mb wb gs w sl t q I
   refine loop (H0 (.close hrb rfl hc) mb wb) (fun gs w sl t q hwb I => ?_) gs w sl t q I
   subst hwb
   obtain ⟨gs', w', ops, q', a2, Oy, pc, e1, T⟩ := I.close (sl := sl) hc
   exact ⟨gs', w', ops, e1, tailU I.sit.pos hK (.go hr ho h) _ _ _ _ _ _ _ _ T⟩
 | @recv i O0 a wM hr hcm h he ihM =>
  intro j O1 b wW hW
  -- goroutine 0 receives, or is parked
  have H0 : ∀ {j : Nat} {O1 : BSet} {b : Goroutine} {wW : World}, PlanU P S c st n zs z2 vals j O1 b wW -> (∀ gs w sl t q, JU P S c st n wk z zs z2 vals true a i O0 wM false b j O1 wW gs w t q -> Concl P Post gs w sl t) ->
    ∀ (wb : Bool) gs w sl t q, JU P S c st n wk z zs z2 vals false a i O0 wM wb b j O1 wW gs w t q -> ∃ gs' w' ops, runT P (crowd gs w sl) 0 = (.next (crowd gs' w' sl), ops) /\ Concl P Post gs' w' sl (t ++ ops) := by
   intro j O1 b wW hW park wb gs w sl t q I
   cases wb with
   | false =>
    obtain ⟨gs', ops, e1, I2⟩ := I.recv_waits (sl := sl) hcm
    exact ⟨gs', w, ops, e1, park _ _ _ _ _ I2⟩
   | true =>
    cases hW with
    | go hrb hob hb =>
     have e := I.ats rfl w I.rw'
     obtain ⟨g', w', es, e2, _⟩ := hob w I.rw'
     rw [e] at e2
     cases e2
    | send hrb hj hc hb =>
     obtain ⟨gs', w', ops, e1, I2⟩ := I.recv_meets (sl := sl) hj hcm
     exact ⟨gs', w', ops, e1, ihM (by have := I.ij; omega) hb _ _ _ _ _ _ _ I2⟩
    | close hrb hj hc =>
     have e := I.ats rfl w I.rw'
     obtain ⟨s, r, tm, h1⟩ := I.ch
     obtain ⟨g', k, e2, _⟩ := hc w s r tm I.rw' h1
     rw [e] at e2
     cases e2
  induction hW with
  | @go j O1 b wW hrb hob hb ihW =>
   have H1 : ∀ (mb : Bool) gs w sl t q, JU P S c st n wk z zs z2 vals mb a i O0 wM false b j O1 wW gs w t q -> ∃ gs' w' ops, runT P (crowd gs w sl) wk = (.next (crowd gs' w' sl), ops) /\ Concl P Post gs' w' sl (t ++ ops) := by
    intro mb gs w sl t q I
    obtain ⟨g', w', es, e, G⟩ := hob w I.rw'
    obtain ⟨gs', ops, e1, I2⟩ := I.work_go (sl := sl) e G (hb _ _ _ _ I.rw' e).running
    exact ⟨gs', w', ops, e1, ihW _ _ _ _ I.rw' e _ _ _ _ _ _ _ I2⟩
   have hwb : ∀ {mb wb : Bool} {gs w t q}, JU P S c st n wk z zs z2 vals mb a i O0 wM wb b j O1 wW gs w t q -> wb = false := by
    intro mb wb gs w t q I
    cases hm : wb with
    | false => rfl
    | true =>
     have e := I.ats hm w I.rw'
     obtain ⟨g', w', es, e2, _⟩ := hob w I.rw'
     rw [e] at e2
     cases e2
   have park : ∀ gs w sl t q, JU P S c st n wk z zs z2 vals true a i O0 wM false b j O1 wW gs w t q -> Concl P Post gs w sl t :=
    loop (fun gs w sl t q h _ => by cases h) fun gs w sl t q _ I => H1 true gs w sl t q I
   intro mb wb gs w sl t q I
   obtain rfl := hwb I
   cases mb with
   | true => exact park gs w sl t q I
   | false => exact loop (fun gs w sl t q _ I => H0 (.go hrb hob hb) park false gs w sl t q I) (fun gs w sl t q _ I => H1 false gs w sl t q I) gs w sl t q I
  | @send j O1 b wW hrb hj hc hb ihW =>
   have park : ∀ gs w sl t q, JU P S c st n wk z zs z2 vals true a i O0 wM false b j O1 wW gs w t q -> Concl P Post gs w sl t := by
    refine loop (fun gs w sl t q h _ => by cases h) fun gs w sl t q _ I => ?_
    obtain ⟨gs', w', ops, e1, I2⟩ := I.send_meets (sl := sl) hj hc
    exact ⟨gs', w', ops, e1, ihM (by have := I.ij; omega) hb _ _ _ _ _ _ _ I2⟩
   have full : ∀ gs w sl t q, JU P S c st n wk z zs z2 vals false a i O0 wM true b j O1 wW gs w t q -> Concl P Post gs w sl t :=
    loop (fun gs w sl t q _ I => H0 (.send hrb hj hc hb) park true gs w sl t q I) fun gs w sl t q hwb I => by cases hwb
   intro mb wb gs w sl t q I
   cases mb with
   | true =>
    cases wb with
    | true => cases I.nb rfl
    | false => exact park gs w sl t q I
   | false =>
    cases wb with
    | true => exact full gs w sl t q I
    | false =>
     refine loop (fun gs w sl t q _ I => H0 (.send hrb hj hc hb) park false gs w sl t q I) (fun gs w sl t q _ I => ?_) gs w sl t q I
     obtain ⟨gs', ops, e1, I2⟩ := I.send_waits (sl := sl) hc
     exact ⟨gs', w, ops, e1, full _ _ _ _ _ I2⟩
  | @close j O1 b wW hrb hj hc =>
   subst hj
   have H1 : ∀ (mb : Bool) gs w sl t q, JU P S c st j wk z zs z2 vals mb a i O0 wM false b j O1 wW gs w t q -> ∃ gs' w' ops, runT P (crowd gs w sl) wk = (.next (crowd gs' w' sl), ops) /\ Concl P Post gs' w' sl (t ++ ops) := by
    intro mb gs w sl t q I
    obtain ⟨gs', w', ops, q', a2, Oy, pc, e1, T⟩ := I.close (sl := sl) hc
    exact ⟨gs', w', ops, e1, tailU I.sit.pos hK (.recv hr hcm h he) _ _ _ _ _ _ _ _ T⟩
   have hwb : ∀ {mb wb : Bool} {gs w t q}, JU P S c st j wk z zs z2 vals mb a i O0 wM wb b j O1 wW gs w t q -> wb = false := by
    intro mb wb gs w t q I
    cases hm : wb with
    | false => rfl
    | true =>
     have e := I.ats hm w I.rw'
     obtain ⟨s, r, tm, h1⟩ := I.ch
     obtain ⟨g', k, e2, _⟩ := hc w s r tm I.rw' h1
     rw [e] at e2
     cases e2
   have park : ∀ gs w sl t q, JU P S c st j wk z zs z2 vals true a i O0 wM false b j O1 wW gs w t q -> Concl P Post gs w sl t :=
    loop (fun gs w sl t q h _ => by cases h) fun gs w sl t q _ I => H1 true gs w sl t q I
   intro mb wb gs w sl t q I
   obtain rfl := hwb I
   cases mb with
   | true => exact park gs w sl t q I
   | false => exact loop (fun gs w sl t q _ I => H0 (.close hrb rfl hc) park false gs w sl t q I) (fun gs w sl t q _ I => H1 false gs w sl t q I) gs w sl t q I
end
theorem fin_spawnU {P : Program} {Post : Value -> World -> Prop} {S : BSet} {c st n : Nat} {z zs z2 : Value} {vals : Nat -> Value} {O0 O1 : BSet} {g g' child : Goroutine} {w : World} (hr : g.status = .running)
  (h : ∀ d, stepG P true g (w.at d) = .spawn g' child (w.at d) #[]) (hM : PlanM P S c n z vals (fun _ g w => RunsOn P Post g w) 0 O0 g' w) (hW : PlanU P S c st n zs z2 vals 0 O1 child w) (geo : Geo O0 O1 S c)
  (lo0 : ∀ b, O0 b -> b < w.heap.size) (lo1 : ∀ b, O1 b -> b < w.heap.size) (los : ∀ b, S b -> b < w.heap.size) (hch : OpenAt c w) (hsp : OpenAt st w) (hss : S st) : RunsOn P Post g w := by
 refine fin_loop hr fun gs sl t q d h0 hL hP => .inl ?_
 have hlt : 0 < gs.size := (Array.getElem?_eq_some_iff.1 h0).1
 refine ⟨_, _, _, runT_crowd_spawn h0 (show stepG P (0 == 0) g (w.at d) = _ from h d), ?_⟩
 obtain ⟨u, hu⟩ : ∃ u, u = ((MemOp.ofEvents 0 g.frame.fn g.frame.place #[]).push { g := 0, fn := g.frame.fn, pos := g.frame.place, act := .go gs.size } |>.push { g := gs.size, fn := child.frame.fn, pos := g.frame.place, act := .start }) := ⟨_, rfl⟩
 rw [<- hu]
 have hu2 : u = #[{ g := 0, fn := g.frame.fn, pos := g.frame.place, act := .go gs.size }, { g := gs.size, fn := child.frame.fn, pos := g.frame.place, act := .start }] := by
  rw [hu, ofEvents_eq]
  simp
 have hut : ∀ op ∈ u, op.act.touch? = none /\ (op.act ≠ .mark .disable /\ op.act ≠ .mark .enable) /\ op.act.low w.heap.size := by
  intro op hop
  rw [hu2] at hop
  simp at hop
  rcases hop with rfl | rfl <;> exact ⟨rfl, ⟨fun h => (by cases h), fun h => (by cases h)⟩, trivial⟩
 have hd : ∀ k, Deaf (t ++ u) k = Deaf t k := fun k => Go.ConcN.Deaf_still t k u fun op hop => (hut op hop).2.1
 have hcl : ∀ said, ¬ Race said (t ++ u) := fun said => race_still (hP.clean said) fun op hop => (hut op hop).1
 have hk0 : ∀ i op v, (t ++ u)[i]? = some op -> op.act.touch? = some v -> v.loc.isMemory = true -> i < t.size /\ Knows t 0 i := by
  intro i op v hi hv hm
  rcases getElem?_append_cases hi with ⟨hlt, hi'⟩ | ⟨_, hiu⟩
  ·refine ⟨hlt, ?_⟩
   rcases hP.known i v (by rw [touchAt_of hi']; exact hv) hm with h | ⟨h, _⟩
   ·exact h
   ·exact h.elim
  ·rw [(hut op hiu).1] at hv; cases hv
 have hgo : (t ++ u)[t.size]? = some { g := 0, fn := g.frame.fn, pos := g.frame.place, act := .go gs.size } := by
  rw [Array.getElem?_append_right (Nat.le_refl _), hu2]
  simp
 have hst : (t ++ u)[t.size + 1]? = some { g := gs.size, fn := child.frame.fn, pos := g.frame.place, act := .start } := by
  rw [Array.getElem?_append_right (Nat.le_add_right _ _), hu2]
  simp
 have hedge : HappensBefore (t ++ u) t.size (t.size + 1) := by
  refine .single (.inr ⟨.spawn (child := gs.size) (by rw [act?_of hgo]) (by rw [act?_of hst]) (by simp [Trace.g?, hst]), ⟨0, by simp [Trace.g?, hgo], ?_⟩, ⟨gs.size, by simp [Trace.g?, hst], ?_⟩⟩)
  ·rw [deaf_old (Nat.le_refl _)]
   exact hP.hears
  ·have e1 : t ++ u = (t ++ #[u.getD 0 default]) ++ #[u.getD 1 default] := by rw [hu2]; apply Array.ext'; simp
   have e2 : t.size + 1 = (t ++ #[u.getD 0 default]).size := by simp
   rw [e1, e2, deaf_old (Nat.le_refl _)]
   show Deaf (t ++ #[u.getD 0 default]) gs.size = 0
   rw [Go.ConcN.Deaf_still t gs.size _ fun op hop => (hut op (by simp at hop; subst hop; rw [hu2]; simp)).2.1]
   exact hL.above _ (Nat.le_refl _)
 refine jointU (z := z) (zs := zs) (z2 := z2) (fun O g w gs sl t q hF h0 hL hP => hF gs sl t q w.drawn h0 hL hP) hM hW false false _ _ _ _ q
  ⟨⟨g', by rw [Array.getElem?_push, if_neg (by simp; omega), Array.getElem?_setIfInBounds_self_of_lt hlt], fun h => (by cases h), fun _ => SameG.refl hM.running⟩, ⟨child, by rw [Array.getElem?_push, if_pos (by simp)], fun h => (by cases h), fun _ => SameG.refl hW.running⟩, Rely.at _ _ _ _, Rely.at _ _ _ _, hch, hsp, hss, Nat.zero_le _, rfl, fun h => (by cases h), fun h => (by cases h), fun h => (by cases h), hM.running, hW.running,
   ⟨hlt, fun k y k1 k2 k3 => ?_, fun k hk => ?_, geo, lo0, lo1, los, (by obtain ⟨_, _, _, hch⟩ := hch; exact (Array.getElem?_eq_some_iff.1 hch).1), ⟨hcl, fun i op v hi hv hm => .inl ((hk0 i op v hi hv hm).2.app u), (hd 0).trans hP.hears⟩, ⟨hcl, fun i op v hi hv hm => .inl ?_, (hd _).trans (hL.above _ (Nat.le_refl _))⟩, seen_app hP.seen fun op hop => (hut op hop).2.2⟩⟩
 ·rw [hd]
  refine hL.old k y k1 ?_
  rw [Array.getElem?_push] at k3
  rw [if_neg (by simpa using k2), Array.getElem?_setIfInBounds_ne (by omega)] at k3
  exact k3
 ·rw [hd]
  exact hL.above k (by simp at hk; omega)
 ·obtain ⟨h1, h2⟩ := hk0 i op v hi hv hm
  exact ⟨t.size + 1, _, hst, rfl, .inr ((h2.hb_new (Nat.le_refl _) hgo rfl).trans hedge)⟩
end
section
open Go Go.Conc
def idL (L : List Nat) : BRel := fun a b => a = b /\ a ∈ L
theorem idL_fine {L : List Nat} (h : ∀ g, niceG.contains g = true -> g ∈ L) : Fine (idL L) where
 left := fun _ _ _ h1 h2 => h1.1.symm.trans h2.1
 right := fun _ _ _ h1 h2 => h1.1.trans h2.1.symm
 low := fun _ _ h _ => h.1.symm
 high := fun _ _ h _ => h.1.symm
 tabs := fun g hg => ⟨rfl, h g hg⟩
theorem dull (ρ : BRel) : ∀ v' : Value, ∃ v, VRel ρ v v'
 | .bool b => ⟨_, .bool b⟩
 | .agg cs => by
  have h : ∀ i : Fin cs.size, ∃ v, VRel ρ v cs[i] := fun i => dull ρ cs[i]
  refine ⟨.agg (Array.ofFn fun i => (h i).choose), .agg _ _ (by simp) fun i h1 h2 => ?_⟩
  rw [Array.getElem_ofFn]
  exact (h ⟨i, h2⟩).choose_spec
 | .tuple cs => by
  have h : ∀ i : Fin cs.size, ∃ v, VRel ρ v cs[i] := fun i => dull ρ cs[i]
  refine ⟨.tuple (Array.ofFn fun i => (h i).choose), .tuple _ _ (by simp) fun i h1 h2 => ?_⟩
  rw [Array.getElem_ofFn]
  exact (h ⟨i, h2⟩).choose_spec
 | .int _ _ | .float _ _ | .complex _ _ _ | .string _ | .pointer _ | .slice _ _ _ | .map _ | .chan _ | .func _ _ _ | .nilFunc | .iface _ _ | .nilIface => ⟨idle, .idle _ rfl⟩
theorem dull_row (ρ : BRel) (T' : Array Value) (keep : Nat -> Prop) (h : ∀ i v, keep i -> T'[i]? = some v -> VRel ρ v v) : ∃ T, RowRel ρ T T' /\ ∀ i, keep i -> T[i]? = T'[i]? := by
 have hx : ∀ i : Fin T'.size, ∃ v, VRel ρ v T'[i] /\ (keep i -> v = T'[i]) := by
  intro i
  by_cases hk : keep i
  ·exact ⟨T'[i], h i _ hk (by simp), fun _ => rfl⟩
  ·obtain ⟨v, hv⟩ := dull ρ T'[i]
   exact ⟨v, hv, fun hk' => absurd hk' hk⟩
 refine ⟨Array.ofFn fun i => (hx i).choose, ⟨by simp, fun i h1 h2 => ?_⟩, fun i hk => ?_⟩
 ·rw [Array.getElem_ofFn]
  exact (hx ⟨i, h2⟩).choose_spec.1
 ·by_cases hi : i < T'.size
  ·rw [Array.getElem?_eq_getElem hi, Array.getElem?_eq_getElem (by simpa using hi), Array.getElem_ofFn]
   exact congrArg some ((hx ⟨i, hi⟩).choose_spec.2 hk)
  ·rw [Array.getElem?_eq_none (by rw [Array.size_ofFn]; omega), Array.getElem?_eq_none (by omega)]
theorem meek_ex (L : List Nat) (c : Array Value) : ∃ T, RowRel (idL L) T c /\ ∀ i : Nat, (∀ v, c[i]? = some v -> VRel (idL L) v v) -> T[i]? = c[i]? := dull_row (idL L) c (fun i : Nat => ∀ v, c[i]? = some v -> VRel (idL L) v v) fun _ v hk hv => hk v hv
noncomputable def meek (L : List Nat) (c : Array Value) : Array Value := (meek_ex L c).choose
theorem meek_rel (L : List Nat) (c : Array Value) : RowRel (idL L) (meek L c) c := (meek_ex L c).choose_spec.1
theorem meek_get {L : List Nat} {c : Array Value} {i : Nat} {v : Value} (h : c[i]? = some v) (hv : VRel (idL L) v v) : (meek L c)[i]? = some v := by
 exact ((meek_ex L c).choose_spec.2 i fun v' h' => by rw [h] at h'; cases h'; exact hv).trans h
theorem meek_all {L : List Nat} {c : Array Value} (h : ∀ v ∈ c, VRel (idL L) v v) : meek L c = c := by
 apply Array.ext_getElem?
 intro i
 exact (meek_ex L c).choose_spec.2 i fun v hv => h v (Array.mem_of_getElem? hv)
noncomputable def iceObj (L : List Nat) (fz : Bool) : Obj -> Obj
 | .cells c e (_, hi) => .cells (meek L c) e (if fz then (0, max c.size hi) else (0, 0))
 | o => o
noncomputable def ice (L Ls : List Nat) (w : World) : World := { w with heap := w.heap.mapIdx fun b o => if L.contains b then iceObj L (Ls.contains b) o else o }
theorem ice_size (L Ls : List Nat) (w : World) : (ice L Ls w).heap.size = w.heap.size := by simp [ice]
theorem ice_get (L Ls : List Nat) (w : World) (b : Nat) : (ice L Ls w).heap[b]? = (w.heap[b]?).map fun o => if L.contains b then iceObj L (Ls.contains b) o else o := by simp [ice, Array.getElem?_mapIdx]
theorem ice_out {L Ls : List Nat} {w : World} {b : Nat} (h : b ∉ L) : (ice L Ls w).heap[b]? = w.heap[b]? := by
 rw [ice_get]
 simp [h]
theorem ice_cells (L Ls : List Nat) {w : World} {b : Nat} {c : Array Value} {e : TypeId} {fr : Nat × Nat} (hb : b ∈ L) (h : w.heap[b]? = some (.cells c e fr)) : ∃ fr', (ice L Ls w).heap[b]? = some (.cells (meek L c) e fr') /\ (b ∉ Ls -> fr' = (0, 0)) /\ (b ∈ Ls -> fr' = (0, max c.size fr.2)) := by
 rw [ice_get, h]
 have hb' : L.contains b = true := by simpa using hb
 obtain ⟨lo, hi⟩ := fr
 by_cases hs : b ∈ Ls
 ·exact ⟨(0, max c.size hi), by simp [hb, hs, iceObj], fun h => absurd hs h, fun _ => rfl⟩
 ·exact ⟨(0, 0), by simp [hb, hs, iceObj], fun _ => rfl, fun h => absurd h hs⟩
theorem ice_row (L Ls : List Nat) {w : World} {b : Nat} {c : Array Value} {e : TypeId} {fr : Nat × Nat} (hb : b ∈ L) (hs : b ∉ Ls) (h : w.heap[b]? = some (.cells c e fr)) (hv : ∀ v ∈ c, VRel (idL L) v v) : (ice L Ls w).heap[b]? = some (.cells c e (0, 0)) := by
 obtain ⟨fr', h1, h2, _⟩ := ice_cells L Ls hb h
 rw [meek_all hv, h2 hs] at h1
 exact h1
theorem ice_cell (L Ls : List Nat) {w : World} {a : Addr} {v : Value} (h : w.cell? a = some v) (hv : VRel (idL L) v v) : (ice L Ls w).cell? a = some v := by
 obtain ⟨c, e, fr, h1, h2, h3⟩ := cell_parts h
 by_cases hb : a.block ∈ L
 ·obtain ⟨fr', h4, _⟩ := ice_cells L Ls hb h1
  unfold World.cell?
  rw [h4]
  simp only [h2]
  exact meek_get h3 hv
 ·unfold World.cell? at h ⊢
  rw [ice_out hb]
  exact h
theorem ice_stiff {L Ls : List Nat} {w : World} {b : Nat} {c : Array Value} {e : TypeId} {fr : Nat × Nat} (h : w.heap[b]? = some (.cells c e fr)) (hl : b ∈ L) (hb : b ∈ Ls) : Stiff (ice L Ls w) b := by
 obtain ⟨fr', h1, _, h2⟩ := ice_cells L Ls hl h
 rw [h2 hb] at h1
 exact ⟨_, e, _, h1, by rw [(meek_rel L c).1]; exact Nat.le_max_left _ _⟩
def Tame (w : World) (b : Nat) : Prop := ∃ c e fr, w.heap[b]? = some (.cells c e fr)
theorem ice_rel {L Ls : List Nat} {w : World} (h0 : ∀ g, niceG.contains g = true -> g ∈ L) (ht : ∀ b ∈ L, Tame w b) (hth : ∀ b ∈ L, b ∉ Ls -> ∀ off, w.frozen? ⟨b, off, none⟩ = false) : HRel (idL L) (ice L Ls w) w where
 fine := idL_fine h0
 many := by
  obtain ⟨_, _, _, h⟩ := ht 20 (h0 20 rfl)
  have := (Array.getElem?_eq_some_iff.1 h).1
  rw [ice_size]
  exact ⟨this, this⟩
 objs := fun b b' hb => by
  obtain ⟨rfl, hb⟩ := hb
  obtain ⟨c, e, fr, h⟩ := ht b hb
  obtain ⟨fr', h', _⟩ := ice_cells L Ls hb h
  exact ⟨_, _, h', h, .cells (meek_rel L c) e fr' fr⟩
 thaw := fun b b' off hb hf => by
  obtain ⟨rfl, hb⟩ := hb
  obtain ⟨c, e, fr, h⟩ := ht b hb
  obtain ⟨fr', h1, h2, h3⟩ := ice_cells L Ls hb h
  by_cases hs : b ∈ Ls
  ·unfold World.frozen? at hf ⊢
   dsimp only at hf ⊢
   rw [h1, h3 hs] at hf
   rw [h]
   obtain ⟨lo, hi⟩ := fr
   simp at hf ⊢
   omega
  ·exact hth b hb hs off
def Fixed (σ : BRel) (v : Value) : Prop := ∀ v', VRel σ v v' -> v' = v
theorem fixed_int (σ : BRel) (k : IntKind) (n : Int) : Fixed σ (.int k n) := fun v' h => by cases h; rfl
theorem fixed_bool (σ : BRel) (b : Bool) : Fixed σ (.bool b) := fun v' h => by cases h; rfl
theorem fixed_chan (σ : BRel) (r : Nat) : Fixed σ (.chan (some r)) := fun v' h => by cases h; rfl
theorem fixed_ptr {σ : BRel} (F : Fine σ) {a : Addr} (h : σ a.block a.block) : Fixed σ (.pointer (some a)) := fun v' hv => by
 cases hv with
 | ptr ha =>
  cases ha with
  | mk hb o s =>
   have := F.left _ _ _ hb h
   dsimp only at this
   rw [this]
theorem fixed_slice {σ : BRel} (F : Fine σ) {a : Addr} (h : σ a.block a.block) (l c : Nat) : Fixed σ (.slice (some a) l c) := fun v' hv => by
 cases hv with
 | slice ha =>
  cases ha with
  | mk hb o s =>
   have := F.left _ _ _ hb h
   dsimp only at this
   rw [this]
theorem RowRel.fixed {σ : BRel} {T T' : Array Value} (h : RowRel σ T T') {i : Nat} {v : Value} (hv : T[i]? = some v) (hf : Fixed σ v) : T'[i]? = some v := by
 obtain ⟨v', e, hr⟩ := h.get hv
 rw [e, hf v' hr]
theorem HRel.fixed {σ : BRel} {W w : World} (H : HRel σ W w) {b b' : Nat} (hb : σ b b') {c : Array Value} {e : TypeId} {fr : Nat × Nat} (hW : W.heap[b]? = some (.cells c e fr)) (hf : ∀ v ∈ c, Fixed σ v) : ∃ fr', w.heap[b']? = some (.cells c e fr') := by
 obtain ⟨o, o', h1, h2, h3⟩ := H.objs b b' hb
 rw [hW] at h1
 obtain rfl := Option.some.inj h1
 cases h3 with
 | cells hr _ _ fr' =>
  rename_i c'
  refine ⟨fr', ?_⟩
  rw [h2]
  have : c' = c := Array.ext hr.1.symm fun i h1 h2 => hf _ (Array.getElem_mem h2) _ (hr.2 i h2 h1)
  rw [this]
def RowC (w : World) (b : Nat) (c : Array Value) (e : TypeId) : Prop := (∃ fr, w.heap[b]? = some (.cells c e fr)) /\ ∀ off, w.frozen? ⟨b, off, none⟩ = false
theorem RowC.of_eq {w w1 : World} {b : Nat} {c : Array Value} {e : TypeId} (h : RowC w b c e) (he : w1.heap[b]? = w.heap[b]?) : RowC w1 b c e := by
 refine ⟨by rw [he]; exact h.1, fun off => ?_⟩
 have := h.2 off
 unfold World.frozen? at this ⊢
 dsimp only at this ⊢
 rw [he]
 exact this
def selfI : Item -> Bool
 | .code _ | .inBlock _ | .inLoop _ | .inScope _ | .inRegion _ _ | .beginRound => true
 | _ => false
theorem self_rel {x : Item} (h : selfI x = true) (ρ : BRel) : IRel ρ x x := by
 cases x <;> first | (cases h; done) | constructor
theorem self_eq {ρ : BRel} {x x' : Item} (h : selfI x = true) (hr : IRel ρ x x') : x' = x := by
 cases hr <;> first | rfl | cases h
theorem self_list {ρ : BRel} {low l l' : List Item} (h : ILRel ρ low l l') (hs : l.all selfI = true) : l' = l ++ low := by
 induction h with
 | nil => rfl
 | cons hx _ ih =>
  rw [List.all_cons, Bool.and_eq_true] at hs
  rw [self_eq hs.1 hx, ih hs.2]
  rfl
theorem list_self {low : List Item} (ρ : BRel) : ∀ {l : List Item}, l.all selfI = true -> ILRel ρ low l (l ++ low)
 | [], _ => .nil
 | x :: l, h => by
  rw [List.all_cons, Bool.and_eq_true] at h
  exact .cons (self_rel h.1 ρ) (list_self ρ h.2)
theorem piece {P : Program} (OK : ProgOk P) {m : Bool} {S : BSet} {X : BSet -> Goroutine -> World -> Prop} (hX : Closed P m S X) (L Ls : List Nat) {w : World} {O : BSet} (h0 : ∀ g, niceG.contains g = true -> g ∈ L) (ht : ∀ b ∈ L, Tame w b) (hO : ∀ b ∈ L, O b \/ (S b /\ b ∈ Ls)) (hth : ∀ b ∈ L, b ∉ Ls -> ∀ off, w.frozen? ⟨b, off, none⟩ = false)
  {b lb : Frame} (hfn : lb.fn = b.fn) (hlk : lb.kind = .normal) {T T' : Array Value} (hT : RowRel (idL L) T T') {xs ys k : List Item} {ds : List Deferred} {cs' : List Frame} (hk : (ds = [] -> b.kind = .normal) /\ (ds ≠ [] -> b.kind = .normal)) (hx : xs.all okI = true) (hxs : xs.all selfI = true) (hys : ys.all selfI = true) (Q : Array Value -> Array Obj -> Prop)
  (hE : ∀ W : World, W.heap = (ice L Ls w).heap -> ∃ TE WE, Steps P (lone (lb.at ⟨T, []⟩ xs) [sent P] W) (lone (lb.at ⟨TE, []⟩ ys) [sent P] WE) /\ Q TE WE.heap)
  (cont : ∀ (σ : BRel) (O1 : BSet) (TE TE' : Array Value) (WE wE : World), Path (idL L) σ O S O1 (ice L Ls w) WE w wE -> RowRel σ TE TE' -> HRel σ WE wE -> Img σ O1 S WE -> Q TE WE.heap -> X O1 (G (b.at ⟨TE', ds⟩ (ys ++ k)) cs') wE) :
  X O (G (b.at ⟨T', ds⟩ (xs ++ k)) cs') w := by
 have H := ice_rel (Ls := Ls) h0 ht hth
 have F : FRel (idL L) k ds (lb.at ⟨T, []⟩ xs) (b.at ⟨T', ds⟩ (xs ++ k)) := ⟨hfn.symm, ⟨fun h => (hk.1 h).trans hlk.symm, hk.2⟩, hT, list_self _ hxs, ⟨[], rfl, .nil⟩, .inl ⟨rfl, rfl⟩, .none⟩
 have SR : SRel P (idL L) ⟨k, ds, cs'⟩ (lb.at ⟨T, []⟩ xs) [sent P] (b.at ⟨T', ds⟩ (xs ++ k)) cs' := .base (low := ⟨k, ds, cs'⟩) F hlk rfl
 have ok : OkS P (lb.at ⟨T, []⟩ xs) [sent P] := ⟨hx, fun c hc => .inl (by simpa using hc)⟩
 let Stop : Frame -> World -> Prop := fun fr W => ∃ TE, fr = lb.at ⟨TE, []⟩ ys /\ Q TE W.heap
 have hpc : ∀ fr w, Stop fr w -> if true = true then fr.mode = .run else ((⟨k, ds, cs'⟩ : Low).todo = [] /\ fr.mode = .returning) := by
  rintro fr w ⟨TE, rfl, _⟩
  rw [if_pos rfl]
  rfl
 have hEnds : Ends P Stop (lb.at ⟨T, []⟩ xs) [sent P] (ice L Ls w) := by
  intro tp _
  obtain ⟨TE, WE, ⟨n, hn⟩, hq⟩ := hE { ice L Ls w with tape := tp } rfl
  exact ⟨n, _, _, hn, TE, rfl, hq⟩
 have hR := road_of OK (low := ⟨k, ds, cs'⟩) true hpc ⟨_, _, _, _, SR, H, ok⟩ hEnds
 refine follow OK (low := ⟨k, ds, cs'⟩) true m hX hpc hR hEnds SR H ok (fun a b' hab => ?_) ?_
 ·obtain ⟨rfl, hab⟩ := hab
  rcases hO a hab with h | ⟨h, hl⟩
  ·exact ⟨fun _ => h, fun _ => .inl h⟩
  ·obtain ⟨c, e, fr, hc⟩ := ht a hab
   exact ⟨fun hn => absurd (ice_stiff hc hab hl) hn, fun _ => .inr h⟩
 ·rintro σ O1 frE frE' csE' WE wE p hS hH hI ⟨tp, TE, rfl, hq⟩
  rcases hS.cases1 with ⟨_, _, hF⟩ | ⟨hl, _⟩
  ·have hcs : csE' = cs' := by
    cases hS with
    | base => rfl
    | up h1 h2 h3 h4 t => cases t
   have e : frE' = b.at ⟨frE'.tmps, ds⟩ (ys ++ k) := by
    obtain ⟨f1, f2, f3, f4, ⟨d, f5, f6⟩, f7, f8⟩ := hF
    obtain ⟨fn, tmps, todo, defers, mode, kind, roundOf⟩ := frE'
    dsimp only [Frame.at] at f1 f2 f3 f4 f5 f6 f7 f8 ⊢
    have e1 := self_list f4 hys
    have e2 : d = [] := by cases f6; rfl
    have e3 : mode = .run := by
     rcases f7 with ⟨_, h⟩ | ⟨h, _⟩
     ·exact h
     ·cases h
    have e4 : roundOf = none := by cases f8; rfl
    have e5 : kind = b.kind := by
     by_cases hd : ds = []
     ·rw [f2.1 hd, hk.1 hd]
      exact hlk
     ·rw [f2.2 hd, hk.2 hd]
    rw [f1, e1, f5, e2, e3, e4, e5, hfn]
    rfl
   rw [hcs, e]
   exact cont σ O1 TE _ WE wE p hF.tmps hH hI hq
  ·exact absurd rfl hl
end
section
open Go Go.Conc
def intB (P : Program) (t : TypeId) : Bool :=
 match P.info? t, P.underlying t with
 | some i, some (.int k) => match i.desc with | .int k' => k' == k | _ => false
 | _, _ => false
def sliceB (P : Program) (t : TypeId) : Bool := match P.underlying t with | some (.slice e) => zeroFlat P e | _ => false
def arrayB (P : Program) (t : TypeId) : Bool := match P.underlying t with | some (.array _ _) => true | _ => false
def structB (P : Program) (t : TypeId) : Bool := match P.underlying t with | some (.struct fs) => fs.all (fun f => match P.info? f.type with | some i => i.size != 0 | none => false) | _ => false
def funcB (P : Program) (f : FuncId) : Bool := match P.funcs[f]? with | some fn => !(fn.name == "runtime.NumGoroutine") && (match fn.body with | some b => okC b | none => false) | none => false
theorem all_of {α : Type} [BEq α] [LawfulBEq α] {l : List α} {p : α -> Bool} (h : l.all p = true) (x : α) (hx : l.contains x = true) : p x = true := by
 rw [List.all_eq_true] at h
 exact h x (by simpa using hx)
theorem progOk_of {P : Program} (h1 : flatT.all (zeroFlat P) = true) (h2 : intT.all (intB P) = true) (h3 : sliceT.all (sliceB P) = true) (h4 : arrayT.all (arrayB P) = true) (h5 : niceF.all (funcB P) = true) (h6 : P.globals.size = nGlob) (h7 : structT.all (structB P) = true) : ProgOk P where
 flat := all_of h1
 int := fun t ht => by
  have := all_of h2 t ht
  unfold intB at this
  split at this
  ·rename_i i k e1 e2
   split at this
   ·rename_i k' e3
    have : k' = k := by simpa using this
    subst this
    exact ⟨i, k', e1, e3, e2⟩
   ·cases this
  ·cases this
 slice := fun t ht => by
  have := all_of h3 t ht
  unfold sliceB at this
  split at this
  ·exact ⟨_, by assumption, this⟩
  ·cases this
 array := fun t ht => by
  have := all_of h4 t ht
  unfold arrayB at this
  split at this
  ·exact ⟨_, _, by assumption⟩
  ·cases this
 funcs := fun f hf => by
  have := all_of h5 f hf
  unfold funcB at this
  split at this
  ·rename_i fn e
   rw [Bool.and_eq_true] at this
   obtain ⟨k1, k2⟩ := this
   split at k2
   ·rename_i b e2
    exact ⟨fn, b, e, by simpa using k1, e2, k2⟩
   ·cases k2
  ·cases this
 globs := h6
 struct := fun t ht => by
  have := all_of h7 t ht
  unfold structB at this
  split at this
  ·rename_i fs e
   refine ⟨fs, e, fun k f hk => ?_⟩
   have h2 := Array.all_eq_true_iff_forall_mem.1 this f (Array.mem_of_getElem? hk)
   split at h2
   ·rename_i i hi
    exact ⟨i, hi, by simpa using h2⟩
   ·cases h2
  ·cases this
theorem progOk : ProgOk Tryz.prog := progOk_of (by kernel_rfl) (by kernel_rfl) (by kernel_rfl) (by kernel_rfl) (by kernel_rfl) (by kernel_rfl) (by kernel_rfl)
end
section
open Go Go.Conc
theorem steps_wp {P : Program} {c : Code} {R : Array Value -> Array Obj -> Prop} {a : Act} {W : World} (h : c.wp P (fun e a' w' => e = .normal /\ a'.defers = [] /\ R a'.tmps w'.heap) a W) (lb : Frame) (cs : List Frame) :
  ∃ TE WE, Steps P (lone (lb.at a [.code c]) cs W) (lone (lb.at ⟨TE, []⟩ []) cs WE) /\ R TE WE.heap := by
 obtain ⟨e, a', w', ⟨rfl, h1, h2⟩, h3⟩ := h lb [] cs
 obtain ⟨T, d⟩ := a'
 dsimp only at h1 h2
 subst h1
 exact ⟨T, w', h3, h2⟩
structure Meet (S : BSet) (O : BSet) (L Ls : List Nat) (w : World) : Prop where
 tabs : ∀ g, niceG.contains g = true -> g ∈ L
 tame : ∀ b ∈ L, Tame w b
 own : ∀ b ∈ L, O b \/ (S b /\ b ∈ Ls)
 thaw : ∀ b ∈ L, b ∉ Ls -> ∀ off, w.frozen? ⟨b, off, none⟩ = false
section
variable {P : Program} {m : Bool} {S : BSet} {X : BSet -> Goroutine -> World -> Prop}
theorem run_piece (OK : ProgOk P) (hX : Closed P m S X) (L Ls : List Nat) (keep : Nat -> Prop) {w : World} {O : BSet} (M : Meet S O L Ls w) {b : Frame} {T' : Array Value} (hT : ∀ i v, keep i -> T'[i]? = some v -> VRel (idL L) v v) {xs ys k : List Item} {ds : List Deferred} {cs' : List Frame}
  (hk : (ds = [] -> b.kind = .normal) /\ (ds ≠ [] -> b.kind = .normal)) (hx : xs.all okI = true) (hxs : xs.all selfI = true) (hys : ys.all selfI = true) (R : Array Value -> Array Obj -> Prop)
  (hE : ∀ (T : Array Value) (W : World) (lb : Frame), lb.fn = b.fn -> lb.kind = .normal -> T.size = T'.size -> (∀ i, keep i -> T[i]? = T'[i]?) -> W.heap = (ice L Ls w).heap -> ∃ TE WE, Steps P (lone (lb.at ⟨T, []⟩ xs) [sent P] W) (lone (lb.at ⟨TE, []⟩ ys) [sent P] WE) /\ R TE WE.heap)
  (cont : ∀ (σ : BRel) (O1 : BSet) (TE TE' : Array Value) (WE wE : World), Path (idL L) σ O S O1 (ice L Ls w) WE w wE -> RowRel σ TE TE' -> HRel σ WE wE -> Img σ O1 S WE -> R TE WE.heap -> X O1 (G (b.at ⟨TE', ds⟩ (ys ++ k)) cs') wE) :
  X O (G (b.at ⟨T', ds⟩ (xs ++ k)) cs') w := by
 obtain ⟨T, hT1, hT2⟩ := dull_row (idL L) T' keep hT
 exact piece OK hX L Ls M.tabs M.tame M.own M.thaw (b := b) (lb := { b with kind := .normal }) rfl rfl hT1 hk hx hxs hys R (fun W hW => hE T W _ rfl rfl hT1.1 hT2 hW) cont
theorem code_piece (OK : ProgOk P) (hX : Closed P m S X) (L Ls : List Nat) (keep : Nat -> Prop) {w : World} {O : BSet} (M : Meet S O L Ls w) {b : Frame} {T' : Array Value} (hT : ∀ i v, keep i -> T'[i]? = some v -> VRel (idL L) v v) {c : Code} {k : List Item} {ds : List Deferred} {cs' : List Frame}
  (hk : (ds = [] -> b.kind = .normal) /\ (ds ≠ [] -> b.kind = .normal)) (hc : okC c = true) (R : Array Value -> Array Obj -> Prop)
  (hE : ∀ (T : Array Value) (W : World), T.size = T'.size -> (∀ i, keep i -> T[i]? = T'[i]?) -> W.heap = (ice L Ls w).heap -> c.wp P (fun e a' w' => e = .normal /\ a'.defers = [] /\ R a'.tmps w'.heap) ⟨T, []⟩ W)
  (cont : ∀ (σ : BRel) (O1 : BSet) (TE TE' : Array Value) (WE wE : World), Path (idL L) σ O S O1 (ice L Ls w) WE w wE -> RowRel σ TE TE' -> HRel σ WE wE -> Img σ O1 S WE -> R TE WE.heap -> X O1 (G (b.at ⟨TE', ds⟩ k) cs') wE) :
  X O (G (b.at ⟨T', ds⟩ (.code c :: k)) cs') w :=
 run_piece (xs := [.code c]) (ys := []) OK hX L Ls keep M hT hk (by simp [okI, hc]) rfl rfl R (fun T W lb _ _ h1 h2 h3 => steps_wp (hE T W h1 h2 h3) lb _) cont
theorem grown_self (O : BSet) (w : World) : grown O w w = O := by
 funext b
 apply propext
 unfold grown
 constructor
 ·rintro (h | ⟨h1, h2⟩)
  ·exact h
  ·omega
 ·exact .inl
theorem Guar.refl (O : BSet) (w : World) : Guar O S w w #[] := ⟨rfl, rfl, rfl, Nat.le_refl _, fun _ _ _ => rfl, fun e he => by simp at he⟩
def Stab (S : BSet) (I : BSet -> World -> Prop) : Prop := ∀ O w w1, I O w -> Rely O S w w1 -> I O w1
def All (X : BSet -> Goroutine -> World -> Prop) (I : BSet -> World -> Prop) (g : Goroutine) : Prop := ∀ O w, I O w -> X O g w
theorem All.ctl (hX : Closed P m S X) {I : BSet -> World -> Prop} (hI : Stab S I) {fr fr' : Frame} {cs cs' : List Frame} (hs : ∀ w, stepG P m (G fr cs) w = .go (G fr' cs') w #[]) (h : All X I (G fr' cs')) : All X I (G fr cs) := by
 intro O w hi
 refine hX O _ w rfl fun w1 R => ⟨_, _, _, hs w1, Guar.refl O w1, ?_⟩
 rw [grown_self]
 exact h O w1 (hI O w w1 hi R)
theorem All.act (hX : Closed P m S X) {I : BSet -> World -> Prop} (hI : Stab S I) {fr : Frame} {cs : List Frame} (hs : ∀ O w, I O w -> ∃ g' w' es, stepG P m (G fr cs) w = .go g' w' es /\ Guar O S w w' es /\ X (grown O w w') g' w') : All X I (G fr cs) := by
 intro O w hi
 exact hX O _ w rfl fun w1 R => hs O w1 (hI O w w1 hi R)
theorem All.val (hX : Closed P m S X) {I : BSet -> World -> Prop} (hI : Stab S I) {b : Frame} {a : Act} {ops : Array Oper} {i : Nat} {rest : List Nat} {k : List Item} {cs : List Frame} {o : Oper} (v : Value) (ho : ops[i]? = some o) (hw : Region.wanted o (yielded ops a.tmps) = true) (hk : b.kind ≠ .early)
  (hr : ∀ w, (execOp a.eval o).run P w = .ok (.value v) w) (he : ∀ w, (execOp a.eval o).events P w #[] = #[]) (h : All X I (G (b.at (a.put o.dst v) (.inRegion ops rest :: k)) cs)) : All X I (G (b.at a (.inRegion ops (i :: rest) :: k)) cs) :=
 All.ctl hX hI (fun w => by rw [stepG_value ho hw hk (hr w)]; unfold listed; rw [he w, seen_none]) h
end
end
section
open Go Go.Conc
theorem stepG_leave2 {P : Program} {m : Bool} {b : Frame} {T : Array Value} {cs : List Frame} {w w' : World} {es : Array Event} {fn : Func} {todo : List Item} {c : Frame} {v : Value} (hn : b.kind = .normal) (hf : P.funcs[b.fn]? = some fn) (hr : (results fn T).runT P w #[] = (.ok v w', es)) :
  stepG P m (G { b.at ⟨T, []⟩ todo with mode := .returning } (c :: cs)) w = .go (G (c.finish v) cs) w' (seen P b.fn es) := by
 have e1 : ((results fn T).runT P w #[]).1 = .ok v w' := by rw [hr]
 have e2 : ((results fn T).runT P w #[]).2 = es := by rw [hr]
 rw [Sem.runT_eq] at e1 e2
 dsimp only at e1 e2
 simp [G, stepG, unwind, doReturn, Frame.at, hn, hf, e1, e2, GStep.after]
section
variable {P : Program} {m : Bool} {S : BSet} {X : BSet -> Goroutine -> World -> Prop}
end
end
end Go.Proofs.YtdobjciaikofdaaGreatDoor
