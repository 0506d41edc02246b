/- Part 10 of 20 of what the proof of this law needs. Merged by merge.py out of: CoA CoB. -/
import Derived.Test.YtfnncplokombgaaDoorShortChainsAll09
/- What a call does in company, out of what it does alone (27): a receiver and a sender, on whatever tape, come to where the receiver has found the channel closed. -/
namespace Go.Proofs.YtfnncplokombgaaDoor
open Go Go.Conc
open Go.ConcN (sumTo upd sumTo_upd upd_ne upd_same le_sumTo)

section
variable {P : Program} {Post : Value → World → Prop} {S : BSet} {c n wk : Nat} {z zs : Value} {vals : Nat → Value} {mb wb : Bool} {a b : Goroutine} {i j : Nat} {O0 O1 : BSet} {wM wW : World} {gs : Array Goroutine} {w : World} {sl : Option (Nat × Nat)} {t : Trace} {q : Nat → Nat} {K : BSet → Goroutine → World → Prop}
theorem mayWake_same {a2 a : Goroutine} (h : SameG a2 a) : mayWake P a2 = mayWake P a := by
  unfold mayWake
  rw [h.frame]
/-- who moves -/
theorem JI.pick (sl : Option (Nat × Nat)) (h : JI P S c n wk z zs vals mb a i O0 wM wb b j O1 wW gs w t q) :
    ∃ d sl', (mb = false ∧ stepT P (crowd gs w sl) = runT P (crowd gs (w.at d) sl') 0) ∨ (wb = false ∧ stepT P (crowd gs w sl) = runT P (crowd gs (w.at d) sl') wk) ∨
      ∃ gs' u q', stepT P (crowd gs w sl) = (.next (crowd gs' (w.at d) sl'), u) ∧ JI P S c n wk z zs vals mb a i O0 wM wb b j O1 wW gs' (w.at d) (t ++ u) q' ∧ sumTo gs'.size q' + 1 ≤ sumTo gs.size q := by
  obtain ⟨a2, ha, ha1, ha2⟩ := h.ga
  obtain ⟨b2, hb, hb1, hb2⟩ := h.gb
  have hne : wk ≠ 0 := by have := h.sit.pos; omega
  have sa : a2.status = .running ∨ a2.status = .blocked := by
    cases hm : mb with
    | false => exact .inl (ha2 hm).run
    | true => rw [ha1 hm]; exact .inr rfl
  have sb : b2.status = .running ∨ b2.status = .blocked := by
    cases hm : wb with
    | false => exact .inl (hb2 hm).run
    | true => rw [hb1 hm]; exact .inr rfl
  have haw : ∀ g ∈ gs, awake g := by
    intro g hg
    obtain ⟨k, hk, rfl⟩ := Array.mem_iff_getElem.1 hg
    have hk' := Array.getElem?_eq_getElem hk
    by_cases h0 : k = 0
    · subst h0
      rw [ha] at hk'
      rw [← Option.some.inj hk']
      exact awake_of (sa.imp id .inl)
    · by_cases hw : k = wk
      · subst hw
        rw [hb] at hk'
        rw [← Option.some.inj hk']
        exact awake_of (sb.imp id .inl)
      · exact quits_awake (h.sit.lv k _ (by omega) hw hk')
  have hsome : ∃ (k : Nat) (g : Goroutine), gs[k]? = some g ∧ g.status = .running := by
    cases hm : mb with
    | false => exact ⟨0, a2, ha, (ha2 hm).run⟩
    | true =>
      cases hw : wb with
      | false => exact ⟨wk, b2, hb, (hb2 hw).run⟩
      | true => have := h.mbi hm; have := h.wbi hw; omega
  obtain ⟨k, g, d, sl', hk, hg, hst⟩ := crowd_pick (P := P) (w := w) (sl := sl) haw hsome
  refine ⟨d, sl', ?_⟩
  by_cases h0 : k = 0
  · subst h0
    refine .inl ⟨?_, hst⟩
    cases hm : mb with
    | false => rfl
    | true =>
      rw [ha] at hk
      rw [← Option.some.inj hk, ha1 hm] at hg
      cases hg
  · by_cases hw : k = wk
    · subst hw
      refine .inr (.inl ⟨?_, hst⟩)
      cases hm : wb with
      | false => rfl
      | true =>
        rw [hb] at hk
        rw [← Option.some.inj hk, hb1 hm] at hg
        cases hg
    · have hk0 : 0 < k := by omega
      have hlt := (Array.getElem?_eq_some_iff.1 hk).1
      have hI := h.at d
      obtain ⟨g', es, m, h1, h2, h3, h4⟩ := leaver_step (w := w.at d) (sl := sl') hk0 hk (h.sit.lv k g hk0 hw hk) hg
      refine .inr (.inr ⟨_, _, upd q k m, hst.trans h1, ⟨⟨a2, ?_, ha1, ha2⟩, ⟨b2, ?_, hb1, hb2⟩, hI.rm, hI.rw', hI.ch, hI.jn, hI.cap, hI.mbi, hI.wbi, hI.atr, hI.ats, hI.ra, hI.rb, hI.sit.leave hk0 hw hlt h2 h4⟩, ?_⟩)
      · rw [set1 h0, Array.getElem?_map, ha]
        exact congrArg some (woken_main hI.ch ha1 ha2)
      · rw [set1 hw, Array.getElem?_map, hb]
        exact congrArg some (woken_worker hI.ch hb1 hb2)
      · have : sumTo gs.size (upd q k m) + q k = sumTo gs.size q + m := sumTo_upd q m id hlt
        simp only [Array.size_setIfInBounds, Array.size_map]
        omega
/-- the worker closes the channel -/
theorem JI.close (h : JI P S c n wk z zs vals mb a i O0 wM false b n O1 wW gs w t q) (hc : ∀ w1 buf s r tm, Rely O1 S wW w1 → w1.heap[c]? = some (.chan 4 buf false s r tm) → ∃ g' k, stepG P false b w1 = .go g' (w1.setChan c 4 buf true s r tm) #[⟨.obj c, false, true⟩, ⟨.obj c, true, true⟩] ∧ QuitsD P k 0 g' ∧ mayWake P b = true) :
    ∃ gs' w' ops q' a2 Oy pc, runT P (crowd gs w sl) wk = (.next (crowd gs' w' sl), ops) ∧ TI P S c n wk vals a i O0 wM gs' w' (t ++ ops) q' a2 Oy pc := by
  obtain ⟨a2, ha, ha1, ha2⟩ := h.ga
  obtain ⟨b2, hb, _, hs⟩ := h.gb
  obtain ⟨buf, s, r, tm, hch, n1, n2⟩ := h.ch
  have hne : wk ≠ 0 := by have := h.sit.pos; omega
  have hb0 : (wk == 0) = false := by simpa using hne
  obtain ⟨g', k, e, hq, hmw⟩ := hc w buf s r tm h.rw' hch
  have hrun := runT_crowd_go (P := P) (sl := sl) hb (show stepG P (wk == 0) b2 w = _ by rw [hb0]; exact ((hs rfl).step false _).trans e)
  obtain ⟨u, hu⟩ : ∃ u, u = MemOp.ofEvents wk b2.frame.fn b2.frame.place #[⟨.obj c, false, true⟩, ⟨.obj c, true, true⟩] := ⟨_, rfl⟩
  have hu2 : u = #[{ g := wk, fn := b2.frame.fn, pos := b2.frame.place, act := .access ⟨.obj c, false, true⟩ }, { g := wk, fn := b2.frame.fn, pos := b2.frame.place, act := .close c }] := by
    rw [hu, ofEvents_eq]
    simp [MemAct.ofEvent]
  rw [← hu] at hrun
  have hug : ∀ op ∈ u, op.g = wk := by
    intro op hop
    rw [hu2] at hop
    simp at hop
    rcases hop with rfl | rfl <;> rfl
  have hut : ∀ op ∈ u, ∀ v, op.act.touch? = some v → v.loc = .obj c ∧ v.kind = .atomic := by
    intro op hop v hv
    rw [hu2] at hop
    simp at hop
    rcases hop with rfl | rfl
    · cases hv; exact ⟨rfl, rfl⟩
    · cases hv
  have hudm : ∀ op ∈ u, op.act ≠ .mark .disable ∧ op.act ≠ .mark .enable := by
    intro op hop
    rw [hu2] at hop
    simp at hop
    rcases hop with rfl | rfl <;> exact ⟨fun h => (by cases h), fun h => (by cases h)⟩
  have hul : ∀ op ∈ u, op.act.low w.heap.size := by
    intro op hop
    rw [hu2] at hop
    simp at hop
    rcases hop with rfl | rfl <;> exact h.sit.loc
  have hd : ∀ k, Deaf (t ++ u) k = Deaf t k := fun k => Go.ConcN.Deaf_still t k u hudm
  have T1 : TX wk 0 O0 S c (t ++ u) := h.sit.t1.own h.sit.geo.symm hug (fun op hop v hv _ => .inr (hut op hop v hv)) ((hd wk).trans h.sit.t1.d)
  have T0 : TX 0 wk O1 S c (t ++ u) := h.sit.t0.other (fun _ x => x) hug hne (fun op hop v hv _ => .inr (hut op hop v hv)) T1.clean
  have hg' : (g'.status != .blocked && g'.status != .waiting) = true := by rcases hq.status with x | x <;> rw [x] <;> rfl
  have hcl : (w.setChan c 4 buf true s r tm).heap[c]? = some (.chan 4 buf true s r tm) := setChan_get h.sit.loc
  refine ⟨_, _, u, upd q wk k, woken P b2 g' (w.setChan c 4 buf true s r tm) a2, O1, t.size + 1, hrun, ⟨?_, ?_, ⟨fun m y h1 h2 => ?_, fun m hm => ?_⟩, h.rm.chan h.sit.geo.cx h.sit.geo.cs, ⟨buf, s, r, tm, hcl, n1, n2⟩, h.sit.geo, fun x hx => by rw [setChan_size]; exact h.sit.lo1 x hx, fun x hx => by rw [setChan_size]; exact h.sit.los x hx, T0, ⟨?_, ?_, fun m op v h1 h2 h3 => ?_⟩, seen_app (fun op hop => by rw [setChan_size]; exact h.sit.seen op hop) fun op hop => by rw [setChan_size]; exact hul op hop⟩⟩
  · cases hm : mb with
    | false =>
      rw [woken_run (ha2 hm).run]
      exact ha2 hm
    | true =>
      rw [ha1 hm]
      unfold Go.Conc.woken
      rw [mayWake_same (hs rfl), hmw]
      rw [if_pos (by simpa using hg'), again_recv_closed hcl]
      exact ⟨rfl, rfl, rfl, rfl⟩
  · rw [set1 hne, Array.getElem?_map, ha]
    rfl
  · by_cases hmk : m = wk
    · subst hmk
      rw [get_same hb] at h2
      rw [← Option.some.inj h2, upd_same, hd, h.sit.t1.d]
      exact hq
    · rw [set1 (Ne.symm hmk), Array.getElem?_map] at h2
      obtain ⟨x, hx, rfl⟩ := Option.map_eq_some_iff.1 h2
      have hqm := h.sit.lv m x h1 hmk hx
      rw [woken_quitsD hqm, upd_ne q k hmk, hd]
      exact hqm
  · rw [hd]
    exact h.sit.above m (by simpa using hm)
  · unfold Trace.act?
    rw [Array.getElem?_append_right (Nat.le_add_right _ _), hu2]
    simp
  · refine ⟨wk, ?_, ?_⟩
    · unfold Trace.g?
      rw [Array.getElem?_append_right (Nat.le_add_right _ _), hu2]
      simp
    · have e1 : t ++ u = (t ++ #[u.getD 0 default]) ++ #[u.getD 1 default] := by rw [hu2]; apply Array.ext'; simp
      have e2 : t.size + 1 = (t ++ #[u.getD 0 default]).size := by simp
      rw [e1, e2, deaf_old (Nat.le_refl _)]
      show Deaf (t ++ #[u.getD 0 default]) wk = 0
      rw [Go.ConcN.Deaf_still t wk _ fun op hop => hudm op (by simp at hop; subst hop; rw [hu2]; simp)]
      exact h.sit.t1.d
  · have hlast : (t ++ u)[t.size + 1]? = some { g := wk, fn := b2.frame.fn, pos := b2.frame.place, act := .close c } := by
      rw [Array.getElem?_append_right (Nat.le_add_right _ _), hu2]
      simp
    have hlt := lt_size_of_getElem? h1
    have hsz : (t ++ u).size = t.size + 2 := by rw [hu2]; simp
    by_cases hm : m = t.size + 1
    · exact .inl hm
    · exact .inr (hb_po (by omega) h1 hlast (by rw [h2]))
/-- ████ A RECEIVER AND A SENDER ████ -/
theorem joint (hK : ∀ O g w gs sl t q, K O g w → gs[0]? = some g → Leavers P t gs q → Past (fun _ => False) w.heap.size t → Concl P Post gs w sl t) (hM : PlanM P S c n z vals K i O0 a wM) :
    ∀ {j : Nat} {O1 : BSet} {b : Goroutine} {wW : World}, PlanW P S c n zs vals j O1 b wW → ∀ (mb wb : Bool) (gs : Array Goroutine) (w : World) (sl : Option (Nat × Nat)) (t : Trace) (q : Nat → Nat), JI P S c n wk z zs vals mb a i O0 wM wb b j O1 wW gs w t q → Concl P Post gs w sl t := by
  -- who is left but leavers: by their measure
  have loop : ∀ {mb : Bool} {a : Goroutine} {i : Nat} {O0 : BSet} {wM : World} {wb : Bool} {b : Goroutine} {j : Nat} {O1 : BSet} {wW : World},
      (∀ gs w sl t q, mb = false → JI P S c n wk z zs vals mb a i O0 wM wb b j O1 wW gs w t q → ∃ gs' w' ops, runT P (crowd gs w sl) 0 = (.next (crowd gs' w' sl), ops) ∧ Concl P Post gs' w' sl (t ++ ops)) →
      (∀ gs w sl t q, wb = false → JI P S c n wk z zs vals mb a i O0 wM wb b j O1 wW gs w t q → ∃ gs' w' ops, runT P (crowd gs w sl) wk = (.next (crowd gs' w' sl), ops) ∧ Concl P Post gs' w' sl (t ++ ops)) →
      ∀ gs w sl t q, JI P S c n wk z zs vals mb a i O0 wM wb b j O1 wW gs w t q → Concl P Post gs w sl t := by
    intro mb a i O0 wM wb b j O1 wW H0 H1
    have key : ∀ N gs w sl t q, JI P S c n wk z zs vals mb a i O0 wM wb b j O1 wW gs w t q → sumTo gs.size q ≤ N → Concl P Post gs w sl t := by
      intro N
      induction N with
      | zero =>
        intro gs w sl t q I hN
        obtain ⟨d, sl', ⟨h1, h2⟩ | ⟨h1, h2⟩ | ⟨gs', u, q', h1, h2, h3⟩⟩ := I.pick sl
        · obtain ⟨gs', w', ops, e1, e2⟩ := H0 _ _ sl' _ _ h1 (I.at d)
          exact Concl.step (h2.trans e1) e2
        · obtain ⟨gs', w', ops, e1, e2⟩ := H1 _ _ sl' _ _ h1 (I.at d)
          exact Concl.step (h2.trans e1) e2
        · omega
      | succ N ih =>
        intro gs w sl t q I hN
        obtain ⟨d, sl', ⟨h1, h2⟩ | ⟨h1, h2⟩ | ⟨gs', u, q', h1, h2, h3⟩⟩ := I.pick sl
        · obtain ⟨gs', w', ops, e1, e2⟩ := H0 _ _ sl' _ _ h1 (I.at d)
          exact Concl.step (h2.trans e1) e2
        · obtain ⟨gs', w', ops, e1, e2⟩ := H1 _ _ sl' _ _ h1 (I.at d)
          exact Concl.step (h2.trans e1) e2
        · exact Concl.step h1 (ih _ _ _ _ _ h2 (by omega))
    exact fun gs w sl t q I => key _ gs w sl t q I (Nat.le_refl _)
  induction hM with
  | @go i O0 a wM hr ho h ihM =>
    intro j O1 b wW hW
    -- goroutine 0's own step
    have H0 : ∀ {j : Nat} {O1 : BSet} {b : Goroutine} {wW : World}, PlanW P S c n zs vals j O1 b wW → ∀ (mb wb : Bool) gs w sl t q, mb = false → JI P S c n wk z zs vals mb a i O0 wM wb b j O1 wW gs w t q → ∃ gs' w' ops, runT P (crowd gs w sl) 0 = (.next (crowd gs' w' sl), ops) ∧ Concl P Post gs' w' sl (t ++ ops) := by
      intro j O1 b wW hW mb wb gs w sl t q hmb I
      subst hmb
      obtain ⟨g', w', es, e, G⟩ := ho w I.rm
      obtain ⟨gs', ops, e1, I2⟩ := I.main_go (sl := sl) e G (h _ _ _ _ I.rm e).running
      exact ⟨gs', w', ops, e1, ihM _ _ _ _ I.rm e hW _ _ _ _ _ _ _ I2⟩
    have hmb : ∀ {mb wb : Bool} {j : Nat} {O1 : BSet} {b : Goroutine} {wW : World} {gs w t q}, JI P S c n wk z zs vals mb a i O0 wM wb b j O1 wW gs w t q → mb = false := by
      intro mb wb j O1 b wW gs w t q I
      cases hm : mb with
      | false => rfl
      | true =>
        have e := I.atr hm w I.rm
        obtain ⟨g', w', es, e2, _⟩ := ho w I.rm
        rw [e] at e2
        cases e2
    induction hW with
    | @go j O1 b wW hrb hob hb ihW =>
      intro mb wb gs w sl t q I
      refine loop (H0 (.go hrb hob hb) mb wb) (fun gs w sl t q hwb I => ?_) gs w sl t q I
      subst hwb
      obtain ⟨g', w', es, e, G⟩ := hob w I.rw'
      obtain ⟨gs', ops, e1, I2⟩ := I.work_go (sl := sl) e G (hb _ _ _ _ I.rw' e).running
      exact ⟨gs', w', ops, e1, ihW _ _ _ _ I.rw' e _ _ _ _ _ _ _ I2⟩
    | @send j O1 b wW hrb hj hc hb ihW =>
      have full : ∀ gs w sl t q, JI P S c n wk z zs vals false a i O0 wM true b j O1 wW gs w t q → Concl P Post gs w sl t :=
        loop (H0 (.send hrb hj hc hb) false true) fun gs w sl t q hwb I => by cases hwb
      intro mb wb gs w sl t q I
      obtain rfl := hmb I
      cases wb with
      | true => exact full gs w sl t q I
      | false =>
        refine loop (H0 (.send hrb hj hc hb) false false) (fun gs w sl t q _ I => ?_) gs w sl t q I
        by_cases hij : j < i + 4
        · obtain ⟨gs', w', ops, e1, I2⟩ := I.send_room (sl := sl) hj hc hij
          exact ⟨gs', w', ops, e1, ihW _ _ _ _ _ _ _ I2⟩
        · by_cases h4 : j = i + 4
          · obtain ⟨gs', ops, e1, I2, _⟩ := I.send_waits (sl := sl) hc h4
            exact ⟨gs', w, ops, e1, full _ _ _ _ _ I2⟩
          · have := I.cap; omega
    | @close j O1 b wW hrb hj hc =>
      subst hj
      intro mb wb gs w sl t q I
      refine loop (H0 (.close hrb rfl hc) mb wb) (fun gs w sl t q hwb I => ?_) gs w sl t q I
      subst hwb
      obtain ⟨gs', w', ops, q', a2, Oy, pc, e1, T⟩ := I.close (sl := sl) hc
      exact ⟨gs', w', ops, e1, tail I.sit.pos hK (.go hr ho h) _ _ _ _ _ _ _ _ T⟩
  | @recv i O0 a wM hr hcm h he ihM =>
    intro j O1 b wW hW
    -- goroutine 0 receives, or is parked
    have H0 : ∀ {j : Nat} {O1 : BSet} {b : Goroutine} {wW : World}, PlanW P S c n zs vals j O1 b wW → (∀ gs w sl t q, JI P S c n wk z zs vals true a i O0 wM false b j O1 wW gs w t q → Concl P Post gs w sl t) →
        ∀ (wb : Bool) gs w sl t q, JI P S c n wk z zs vals false a i O0 wM wb b j O1 wW gs w t q → ∃ gs' w' ops, runT P (crowd gs w sl) 0 = (.next (crowd gs' w' sl), ops) ∧ Concl P Post gs' w' sl (t ++ ops) := by
      intro j O1 b wW hW park wb gs w sl t q I
      have hle : i ≤ j := by obtain ⟨_, _, _, _, _, h1, _⟩ := I.ch; omega
      by_cases hij : i = j
      · obtain ⟨hwb, gs', ops, e1, I2, _⟩ := I.recv_waits (sl := sl) hcm hij
        subst hwb
        exact ⟨gs', w, ops, e1, park _ _ _ _ _ I2⟩
      · cases wb with
        | false =>
          obtain ⟨gs', w', ops, e1, I2⟩ := I.recv_buf (sl := sl) hcm (by omega)
          exact ⟨gs', w', ops, e1, ihM (by have := I.jn; omega) hW _ _ _ _ _ _ _ I2⟩
        | true =>
          cases hW with
          | go hrb hob hb =>
            have e := I.ats rfl w I.rw'
            obtain ⟨g', w', es, e2, _⟩ := hob w I.rw'
            rw [e] at e2
            cases e2
          | send hrb hj hc hb =>
            obtain ⟨gs', w', ops, e1, I2⟩ := I.recv_refill (sl := sl) hj hcm
            exact ⟨gs', w', ops, e1, ihM (by omega) hb _ _ _ _ _ _ _ I2⟩
          | close hrb hj hc =>
            have e := I.ats rfl w I.rw'
            obtain ⟨buf, s, r, tm, h1, _⟩ := I.ch
            obtain ⟨g', k, e2, _⟩ := hc w buf s r tm I.rw' h1
            rw [e] at e2
            cases e2
    induction hW with
    | @go j O1 b wW hrb hob hb ihW =>
      have H1 : ∀ (mb : Bool) gs w sl t q, JI P S c n wk z zs vals mb a i O0 wM false b j O1 wW gs w t q → ∃ gs' w' ops, runT P (crowd gs w sl) wk = (.next (crowd gs' w' sl), ops) ∧ Concl P Post gs' w' sl (t ++ ops) := by
        intro mb gs w sl t q I
        obtain ⟨g', w', es, e, G⟩ := hob w I.rw'
        obtain ⟨gs', ops, e1, I2⟩ := I.work_go (sl := sl) e G (hb _ _ _ _ I.rw' e).running
        exact ⟨gs', w', ops, e1, ihW _ _ _ _ I.rw' e _ _ _ _ _ _ _ I2⟩
      have hwb : ∀ {mb wb : Bool} {gs w t q}, JI P S c n wk z zs vals mb a i O0 wM wb b j O1 wW gs w t q → wb = false := by
        intro mb wb gs w t q I
        cases hm : wb with
        | false => rfl
        | true =>
          have e := I.ats hm w I.rw'
          obtain ⟨g', w', es, e2, _⟩ := hob w I.rw'
          rw [e] at e2
          cases e2
      have park : ∀ gs w sl t q, JI P S c n wk z zs vals true a i O0 wM false b j O1 wW gs w t q → Concl P Post gs w sl t :=
        loop (fun gs w sl t q h _ => by cases h) fun gs w sl t q _ I => H1 true gs w sl t q I
      intro mb wb gs w sl t q I
      obtain rfl := hwb I
      cases mb with
      | true => exact park gs w sl t q I
      | false => exact loop (fun gs w sl t q _ I => H0 (.go hrb hob hb) park false gs w sl t q I) (fun gs w sl t q _ I => H1 false gs w sl t q I) gs w sl t q I
    | @send j O1 b wW hrb hj hc hb ihW =>
      have park : ∀ gs w sl t q, JI P S c n wk z zs vals true a i O0 wM false b j O1 wW gs w t q → Concl P Post gs w sl t := by
        refine loop (fun gs w sl t q h _ => by cases h) fun gs w sl t q _ I => ?_
        obtain ⟨gs', w', ops, e1, I2⟩ := I.send_meets (sl := sl) hj hc
        exact ⟨gs', w', ops, e1, ihM (by have := I.mbi rfl; omega) hb _ _ _ _ _ _ _ I2⟩
      have full : ∀ gs w sl t q, JI P S c n wk z zs vals false a i O0 wM true b j O1 wW gs w t q → Concl P Post gs w sl t :=
        loop (fun gs w sl t q _ I => H0 (.send hrb hj hc hb) park true gs w sl t q I) fun gs w sl t q hwb I => by cases hwb
      intro mb wb gs w sl t q I
      cases mb with
      | true =>
        cases wb with
        | true => have := I.mbi rfl; have := I.wbi rfl; omega
        | false => exact park gs w sl t q I
      | false =>
        cases wb with
        | true => exact full gs w sl t q I
        | false =>
          refine loop (fun gs w sl t q _ I => H0 (.send hrb hj hc hb) park false gs w sl t q I) (fun gs w sl t q _ I => ?_) gs w sl t q I
          by_cases hij : j < i + 4
          · obtain ⟨gs', w', ops, e1, I2⟩ := I.send_room (sl := sl) hj hc hij
            exact ⟨gs', w', ops, e1, ihW _ _ _ _ _ _ _ I2⟩
          · by_cases h4 : j = i + 4
            · obtain ⟨gs', ops, e1, I2, _⟩ := I.send_waits (sl := sl) hc h4
              exact ⟨gs', w, ops, e1, full _ _ _ _ _ I2⟩
            · have := I.cap; omega
    | @close j O1 b wW hrb hj hc =>
      subst hj
      have H1 : ∀ (mb : Bool) gs w sl t q, JI P S c j wk z zs vals mb a i O0 wM false b j O1 wW gs w t q → ∃ gs' w' ops, runT P (crowd gs w sl) wk = (.next (crowd gs' w' sl), ops) ∧ Concl P Post gs' w' sl (t ++ ops) := by
        intro mb gs w sl t q I
        obtain ⟨gs', w', ops, q', a2, Oy, pc, e1, T⟩ := I.close (sl := sl) hc
        exact ⟨gs', w', ops, e1, tail I.sit.pos hK (.recv hr hcm h he) _ _ _ _ _ _ _ _ T⟩
      have hwb : ∀ {mb wb : Bool} {gs w t q}, JI P S c j wk z zs vals mb a i O0 wM wb b j O1 wW gs w t q → wb = false := by
        intro mb wb gs w t q I
        cases hm : wb with
        | false => rfl
        | true =>
          have e := I.ats hm w I.rw'
          obtain ⟨buf, s, r, tm, h1, _⟩ := I.ch
          obtain ⟨g', k, e2, _⟩ := hc w buf s r tm I.rw' h1
          rw [e] at e2
          cases e2
      have park : ∀ gs w sl t q, JI P S c j wk z zs vals true a i O0 wM false b j O1 wW gs w t q → Concl P Post gs w sl t :=
        loop (fun gs w sl t q h _ => by cases h) fun gs w sl t q _ I => H1 true gs w sl t q I
      intro mb wb gs w sl t q I
      obtain rfl := hwb I
      cases mb with
      | true => exact park gs w sl t q I
      | false => exact loop (fun gs w sl t q _ I => H0 (.close hrb rfl hc) park false gs w sl t q I) (fun gs w sl t q _ I => H1 false gs w sl t q I) gs w sl t q I
end
end Go.Proofs.YtfnncplokombgaaDoor

/- What a call does in company, out of what it does alone (28): goroutine 0 beside leavers alone; where it starts a sender. -/
namespace Go.Proofs.YtfnncplokombgaaDoor
open Go Go.Conc
open Go.ConcN (sumTo upd sumTo_upd upd_ne upd_same le_sumTo)

/-- from here goroutine 0's run ends well, whoever leaves beside it -/
def RunsOn (P : Program) (Post : Value → World → Prop) (g : Goroutine) (w : World) : Prop :=
  ∀ gs sl t q d, gs[0]? = some g → Leavers P t gs q → Past (fun _ => False) w.heap.size t → Concl P Post gs (w.at d) sl t
theorem fin_loop {P : Program} {Post : Value → World → Prop} {g : Goroutine} {w : World} (hr : g.status = .running)
    (H : ∀ gs sl t q d, gs[0]? = some g → Leavers P t gs q → Past (fun _ => False) w.heap.size t → (∃ gs' w' ops, runT P (crowd gs (w.at d) sl) 0 = (.next (crowd gs' w' sl), ops) ∧ Concl P Post gs' w' sl (t ++ ops)) ∨
      ∃ o w' ops, runT P (crowd gs (w.at d) sl) 0 = (.ended o w', ops) ∧ ∀ d2 sl2, Good P Post (crowd gs (w.at d2) sl2) o w' (t ++ ops)) : RunsOn P Post g w := by
  have key : ∀ N gs sl t q d, gs[0]? = some g → Leavers P t gs q → Past (fun _ => False) w.heap.size t → sumTo gs.size q ≤ N → Concl P Post gs (w.at d) sl t := by
    intro N
    induction N with
    | zero =>
      intro gs sl t q d h0 hL hP hN
      obtain ⟨d', sl', hst | ⟨k, g2, g', es, m, h1, h2, h3, h4, h5, h6, h7⟩⟩ := pick_lv (w := w.at d) (sl := sl) h0 hr hL
      · rcases H gs sl' t q d' h0 hL hP with ⟨gs', w', ops, e1, e2⟩ | ⟨o, w', ops, e1, e2⟩
        · exact Concl.step (hst.trans e1) e2
        · exact ⟨0, _, o, w', t ++ ops, by simp [runNT, hst.trans e1], rfl, by simp [step, hst.trans e1], e2 _ _⟩
      · have := le_sumTo (f := q) h2
        omega
    | succ N ihN =>
      intro gs sl t q d h0 hL hP hN
      obtain ⟨d', sl', hst | ⟨k, g2, g', es, m, h1, h2, h3, h4, h5, h6, h7⟩⟩ := pick_lv (w := w.at d) (sl := sl) h0 hr hL
      · rcases H gs sl' t q d' h0 hL hP with ⟨gs', w', ops, e1, e2⟩ | ⟨o, w', ops, e1, e2⟩
        · exact Concl.step (hst.trans e1) e2
        · exact ⟨0, _, o, w', t ++ ops, by simp [runNT, hst.trans e1], rfl, by simp [step, hst.trans e1], e2 _ _⟩
      · obtain ⟨hL2, hsum⟩ := Leavers.move (w := (w.at d).at d') (g := g2) hL h2 h5 h6 h7
        refine Concl.step h4 (ihN _ sl' _ _ d' ?_ hL2 (hP.mute (by omega) h5) (by omega))
        rw [Array.getElem?_setIfInBounds_ne (by omega), Array.getElem?_map, h0]
        simp [woken_run hr]
  exact fun gs sl t q d h0 hL hP => key _ gs sl t q d h0 hL hP (Nat.le_refl _)
theorem fit_evl {O S : BSet} {w w' : World} {e : Event} (h : Fit O S w w' e) : EvL (fun _ => False) w'.heap.size e :=
  ⟨fun _ _ hf => hf.elim, (fit_act h).2.2.1, (fit_act h).2.2.2, (fit_act h).2.1⟩
/-- the others do nothing that goroutine 0 sees -/
theorem RunsOn.closed {P : Program} {Post : Value → World → Prop} (S : BSet) : Closed P true S (fun _ g w => RunsOn P Post g w) := by
  intro O g w hr h
  refine fin_loop hr fun gs sl t q d h0 hL hP => .inl ?_
  obtain ⟨g', w', es, e, G, F⟩ := h (w.at d) (Rely.at _ _ _ _)
  refine ⟨_, _, _, runT_crowd_go h0 (show stepG P (0 == 0) g (w.at d) = _ from e), ?_⟩
  obtain ⟨f1, f2, f3⟩ := fit_ops (x := 0) (fn := g.frame.fn) (pos := g.frame.place) G.evs
  have e2 : w' = w'.at w'.drawn := rfl
  rw [e2]
  refine F _ sl _ q w'.drawn (get_same h0 _) ⟨fun k y k1 k2 => lv_keep (wk := 0) (.inl rfl) f1 (fun k g k1 _ k3 => hL.old k g k1 k3) k y k1 (by omega) k2, fun k hk => ?_⟩ ((hP.mono (show w.heap.size ≤ w'.heap.size from G.size)).own fun e he => fit_evl (G.evs e he))
  have hk' : gs.size ≤ k := by simpa using hk
  have := (Array.getElem?_eq_some_iff.1 h0).1
  rw [Deaf_other t (by omega) _ f1]
  exact hL.above k hk'
/-- goroutine 0 returns -/
theorem fin_end {P : Program} {Post : Value → World → Prop} {g : Goroutine} {w : World} (hr : g.status = .running) (h : ∀ d, ∃ v w' es, stepG P true g (w.at d) = .ended (.done v) w' es ∧ (∀ e ∈ es, EvL (fun _ => False) w.heap.size e) ∧ Post v w') : RunsOn P Post g w := by
  refine fin_loop hr fun gs sl t q d h0 hL hP => .inr ?_
  obtain ⟨v, w', es, e, hes, hp⟩ := h d
  have hP' := hP.own (fn := g.frame.fn) (pos := g.frame.place) hes
  refine ⟨_, _, _, runT_many_ended h0 (show stepG P (0 == 0) g (w.at d) = _ from e), fun d2 sl2 => ⟨v, rfl, hp, hP'.clean, hP'.over, ⟨fun x hx => ?_, rfl⟩, fun j x hx hj => ?_⟩⟩
  · obtain ⟨j, hj⟩ := List.mem_iff_getElem?.1 hx
    rw [List.getElem?_drop] at hj
    exact ⟨_, (hL.old (1 + j) x (by omega) (by simpa [crowd] using hj)).leaves⟩
  · have hq := hL.old j x (by omega) hx
    refine ⟨q j, ?_⟩
    have e : (t ++ MemOp.ofEvents 0 g.frame.fn g.frame.place es).deaf j (t ++ MemOp.ofEvents 0 g.frame.fn g.frame.place es).size = Deaf t j :=
      Deaf_other t (g := j) (g' := 0) (by omega) _ (fun op hop => by obtain ⟨e, _, rfl⟩ := Go.Conc.mem_ofEvents hop; rfl)
    rw [e]
    exact hq.hears _
/-- goroutine 0 starts a sender, and receives -/
theorem fin_spawn {P : Program} {Post : Value → World → Prop} {S : BSet} {c n : Nat} {z zs : Value} {vals : Nat → Value} {O0 O1 : BSet} {g g' child : Goroutine} {w : World} {s r : Nat} {tm : Bool} (hr : g.status = .running)
    (h : ∀ d, stepG P true g (w.at d) = .spawn g' child (w.at d) #[]) (hM : PlanM P S c n z vals (fun _ g w => RunsOn P Post g w) 0 O0 g' w) (hW : PlanW P S c n zs vals 0 O1 child w) (geo : Geo O0 O1 S c)
    (lo0 : ∀ b, O0 b → b < w.heap.size) (lo1 : ∀ b, O1 b → b < w.heap.size) (los : ∀ b, S b → b < w.heap.size) (hch : w.heap[c]? = some (.chan 4 #[] false s r tm)) : RunsOn P Post g w := by
  refine fin_loop hr fun gs sl t q d h0 hL hP => .inl ?_
  have hlt : 0 < gs.size := (Array.getElem?_eq_some_iff.1 h0).1
  refine ⟨_, _, _, runT_crowd_spawn h0 (show stepG P (0 == 0) g (w.at d) = _ from h d), ?_⟩
  obtain ⟨u, hu⟩ : ∃ u, u = ((MemOp.ofEvents 0 g.frame.fn g.frame.place #[]).push { g := 0, fn := g.frame.fn, pos := g.frame.place, act := .go gs.size } |>.push { g := gs.size, fn := child.frame.fn, pos := g.frame.place, act := .start }) := ⟨_, rfl⟩
  rw [← hu]
  have hu2 : u = #[{ g := 0, fn := g.frame.fn, pos := g.frame.place, act := .go gs.size }, { g := gs.size, fn := child.frame.fn, pos := g.frame.place, act := .start }] := by
    rw [hu, ofEvents_eq]
    simp
  have hut : ∀ op ∈ u, op.act.touch? = none ∧ (op.act ≠ .mark .disable ∧ op.act ≠ .mark .enable) ∧ op.act.low w.heap.size := by
    intro op hop
    rw [hu2] at hop
    simp at hop
    rcases hop with rfl | rfl <;> exact ⟨rfl, ⟨fun h => (by cases h), fun h => (by cases h)⟩, trivial⟩
  have hd : ∀ k, Deaf (t ++ u) k = Deaf t k := fun k => Go.ConcN.Deaf_still t k u fun op hop => (hut op hop).2.1
  have hcl : ∀ said, ¬ Race said (t ++ u) := fun said => race_still (hP.clean said) fun op hop => (hut op hop).1
  have hk0 : ∀ i op v, (t ++ u)[i]? = some op → op.act.touch? = some v → v.loc.isMemory = true → i < t.size ∧ Knows t 0 i := by
    intro i op v hi hv hm
    rcases getElem?_append_cases hi with ⟨hlt, hi'⟩ | ⟨_, hiu⟩
    · refine ⟨hlt, ?_⟩
      rcases hP.known i v (by rw [touchAt_of hi']; exact hv) hm with h | ⟨h, _⟩
      · exact h
      · exact h.elim
    · rw [(hut op hiu).1] at hv; cases hv
  have hgo : (t ++ u)[t.size]? = some { g := 0, fn := g.frame.fn, pos := g.frame.place, act := .go gs.size } := by
    rw [Array.getElem?_append_right (Nat.le_refl _), hu2]
    simp
  have hst : (t ++ u)[t.size + 1]? = some { g := gs.size, fn := child.frame.fn, pos := g.frame.place, act := .start } := by
    rw [Array.getElem?_append_right (Nat.le_add_right _ _), hu2]
    simp
  have hedge : HappensBefore (t ++ u) t.size (t.size + 1) := by
    refine .single (.inr ⟨.spawn (child := gs.size) (by rw [act?_of hgo]) (by rw [act?_of hst]) (by simp [Trace.g?, hst]), ⟨0, by simp [Trace.g?, hgo], ?_⟩, ⟨gs.size, by simp [Trace.g?, hst], ?_⟩⟩)
    · rw [deaf_old (Nat.le_refl _)]
      exact hP.hears
    · have e1 : t ++ u = (t ++ #[u.getD 0 default]) ++ #[u.getD 1 default] := by rw [hu2]; apply Array.ext'; simp
      have e2 : t.size + 1 = (t ++ #[u.getD 0 default]).size := by simp
      rw [e1, e2, deaf_old (Nat.le_refl _)]
      show Deaf (t ++ #[u.getD 0 default]) gs.size = 0
      rw [Go.ConcN.Deaf_still t gs.size _ fun op hop => (hut op (by simp at hop; subst hop; rw [hu2]; simp)).2.1]
      exact hL.above _ (Nat.le_refl _)
  refine joint (z := z) (zs := zs) (fun O g w gs sl t q hF h0 hL hP => hF gs sl t q w.drawn h0 hL hP) hM hW false false _ _ _ _ q
    ⟨⟨g', by rw [Array.getElem?_push, if_neg (by simp; omega), Array.getElem?_setIfInBounds_self_of_lt hlt], fun h => (by cases h), fun _ => SameG.refl hM.running⟩, ⟨child, by rw [Array.getElem?_push, if_pos (by simp)], fun h => (by cases h), fun _ => SameG.refl hW.running⟩, Rely.at _ _ _ _, Rely.at _ _ _ _, ⟨#[], s, r, tm, hch, rfl, fun k hk => by simp at hk⟩, Nat.zero_le _, Nat.zero_le _, fun h => (by cases h), fun h => (by cases h), fun h => (by cases h), fun h => (by cases h), hM.running, hW.running,
      ⟨hlt, fun k y k1 k2 k3 => ?_, fun k hk => ?_, geo, lo0, lo1, los, (Array.getElem?_eq_some_iff.1 hch).1, ⟨hcl, fun i op v hi hv hm => .inl ((hk0 i op v hi hv hm).2.app u), (hd 0).trans hP.hears⟩, ⟨hcl, fun i op v hi hv hm => .inl ?_, (hd _).trans (hL.above _ (Nat.le_refl _))⟩, seen_app hP.seen fun op hop => (hut op hop).2.2⟩⟩
  · rw [hd]
    refine hL.old k y k1 ?_
    rw [Array.getElem?_push] at k3
    rw [if_neg (by simpa using k2), Array.getElem?_setIfInBounds_ne (by omega)] at k3
    exact k3
  · rw [hd]
    exact hL.above k (by simp at hk; omega)
  · obtain ⟨h1, h2⟩ := hk0 i op v hi hv hm
    exact ⟨t.size + 1, _, hst, rfl, .inr ((h2.hb_new (Nat.le_refl _) hgo rfl).trans hedge)⟩
end Go.Proofs.YtfnncplokombgaaDoor
