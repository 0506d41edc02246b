/- Part 9 of 20 of what the proof of this law needs. Merged by merge.py out of: SimX SimY SimZ. -/
import Derived.Test.YtfnncplokombgaaDoorShortChainsAll08
/- What a call does in company, out of what it does alone (24): a receiver and a sender, step by step, on whatever tape. -/
namespace Go.Proofs.YtfnncplokombgaaDoor
open Go Go.Conc
open Go.ConcN (sumTo upd sumTo_upd upd_ne upd_same)

/-- what goroutine 0 is about: n values are to be received, i have been; then the channel is found closed -/
inductive PlanM (P : Program) (S : BSet) (c n : Nat) (z : Value) (vals : Nat → Value) (K : BSet → Goroutine → World → Prop) : Nat → BSet → Goroutine → World → Prop
  | go {i : Nat} {O : BSet} {g : Goroutine} {w : World} (hr : g.status = .running) (ho : ∀ w1, Rely O S w w1 → ∃ g' w' es, stepG P true g w1 = .go g' w' es ∧ Guar O S w1 w' es)
      (h : ∀ w1 g' w' es, Rely O S w w1 → stepG P true g w1 = .go g' w' es → PlanM P S c n z vals K i (grown O w1 w') g' w') : PlanM P S c n z vals K i O g w
  | recv {i : Nat} {O : BSet} {g : Goroutine} {w : World} (hr : g.status = .running) (hc : ∀ w1, Rely O S w w1 → stepG P true g w1 = .comm g #[rcase c z] true (.recv true) w1 #[])
      (h : i < n → PlanM P S c n z vals K (i + 1) O (Conc.served g (.tuple #[vals i, .bool true])) w) (he : i = n → ∀ w1, Rely O S w w1 → K O (Conc.served g (.tuple #[z, .bool false])) w1) : PlanM P S c n z vals K i O g w
/-- what the worker is about: j of n values have been sent; then it closes the channel -/
inductive PlanW (P : Program) (S : BSet) (c n : Nat) (z : Value) (vals : Nat → Value) : Nat → BSet → Goroutine → World → Prop
  | go {j : Nat} {O : BSet} {g : Goroutine} {w : World} (hr : g.status = .running) (ho : ∀ w1, Rely O S w w1 → ∃ g' w' es, stepG P false g w1 = .go g' w' es ∧ Guar O S w1 w' es)
      (h : ∀ w1 g' w' es, Rely O S w w1 → stepG P false g w1 = .go g' w' es → PlanW P S c n z vals j (grown O w1 w') g' w') : PlanW P S c n z vals j O g w
  | send {j : Nat} {O : BSet} {g : Goroutine} {w : World} (hr : g.status = .running) (hj : j < n) (hc : ∀ w1, Rely O S w w1 → stepG P false g w1 = .comm g #[scase c (vals j) z] true .send w1 #[])
      (h : PlanW P S c n z vals (j + 1) O (Conc.served g undef) w) : PlanW P S c n z vals j O g w
  | close {j : Nat} {O : BSet} {g : Goroutine} {w : World} (hr : g.status = .running) (hj : j = n)
      (hc : ∀ w1 buf s r tm, Rely O S w w1 → w1.heap[c]? = some (.chan 4 buf false s r tm) → ∃ g' k, stepG P false g w1 = .go g' (w1.setChan c 4 buf true s r tm) #[⟨.obj c, false, true⟩, ⟨.obj c, true, true⟩] ∧ QuitsD P k 0 g' ∧ mayWake P g = true) : PlanW P S c n z vals j O g w
section
variable {P : Program} {S : BSet} {c n : Nat} {z : Value} {vals : Nat → Value} {K : BSet → Goroutine → World → Prop}
theorem PlanM.closed (i : Nat) : Closed P true S (PlanM P S c n z vals K i) := by
  intro O g w hr h
  refine .go hr (fun w1 R => ?_) fun w1 g' w' es R e => ?_
  · obtain ⟨g', w', es, h1, h2, _⟩ := h w1 R
    exact ⟨g', w', es, h1, h2⟩
  · obtain ⟨g2, w2, es2, h1, _, h3⟩ := h w1 R
    rw [e] at h1
    injection h1 with a1 a2 _
    subst a1 a2
    exact h3
theorem PlanW.closed (j : Nat) : Closed P false S (PlanW P S c n z vals j) := by
  intro O g w hr h
  refine .go hr (fun w1 R => ?_) fun w1 g' w' es R e => ?_
  · obtain ⟨g', w', es, h1, h2, _⟩ := h w1 R
    exact ⟨g', w', es, h1, h2⟩
  · obtain ⟨g2, w2, es2, h1, _, h3⟩ := h w1 R
    rw [e] at h1
    injection h1 with a1 a2 _
    subst a1 a2
    exact h3
theorem PlanM.running {i : Nat} {O : BSet} {g : Goroutine} {w : World} (h : PlanM P S c n z vals K i O g w) : g.status = .running := by cases h <;> assumption
theorem PlanW.running {j : Nat} {O : BSet} {g : Goroutine} {w : World} (h : PlanW P S c n z vals j O g w) : g.status = .running := by cases h <;> assumption
end
/-- one goroutine, whatever it offers -/
structure SameG (a2 a : Goroutine) : Prop where
  frame : a2.frame = a.frame
  callers : a2.callers = a.callers
  dying : a2.dying = a.dying
  run : a2.status = .running
theorem SameG.refl {a : Goroutine} (h : a.status = .running) : SameG a a := ⟨rfl, rfl, rfl, h⟩
theorem SameG.step {a2 a : Goroutine} (h : SameG a2 a) {P : Program} (m : Bool) (w : World) : stepG P m a2 w = stepG P m a w := stepG_same h.frame h.callers h.dying w
/-- the channel holds the values from number i to ahead of number j -/
def ChanAt (vals : Nat → Value) (c i j : Nat) (shut : Bool) (w : World) : Prop := ∃ buf s r tm, w.heap[c]? = some (.chan 4 buf shut s r tm) ∧ buf.size + i = j ∧ ∀ k, k < buf.size → buf[k]? = some (vals (i + k))
theorem setChan_get {w : World} {c cap : Nat} {buf : Array Value} {cl : Bool} {s r : Nat} {tm : Bool} (h : c < w.heap.size) : (w.setChan c cap buf cl s r tm).heap[c]? = some (.chan cap buf cl s r tm) := by
  unfold World.setChan
  simp [h]
theorem setChan_ne {w : World} {c cap b : Nat} {buf : Array Value} {cl : Bool} {s r : Nat} {tm : Bool} (h : b ≠ c) : (w.setChan c cap buf cl s r tm).heap[b]? = w.heap[b]? := by
  unfold World.setChan
  exact Array.getElem?_setIfInBounds_ne (Ne.symm h)
theorem setChan_size {w : World} {c cap : Nat} {buf : Array Value} {cl : Bool} {s r : Nat} {tm : Bool} : (w.setChan c cap buf cl s r tm).heap.size = w.heap.size := by
  unfold World.setChan
  simp
theorem Rely.chan {O S : BSet} {w0 w : World} {c cap : Nat} {buf : Array Value} {cl : Bool} {s r : Nat} {tm : Bool} (R : Rely O S w0 w) (h1 : ¬ O c) (h2 : ¬ S c) : Rely O S w0 (w.setChan c cap buf cl s r tm) :=
  R.trans ⟨rfl, rfl, rfl, Nat.le_of_eq setChan_size.symm, fun b hb => setChan_ne fun e => by subst e; exact hb.elim h1 h2⟩
end Go.Proofs.YtfnncplokombgaaDoor

/- What a call does in company, out of what it does alone (25): a receiver whose sender has closed the channel. -/
namespace Go.Proofs.YtfnncplokombgaaDoor
open Go Go.Conc
open Go.ConcN (sumTo upd sumTo_upd upd_ne upd_same le_sumTo)

theorem quits_awake {P : Program} {n d : Nat} {g : Goroutine} (h : QuitsD P n d g) : awake g := awake_of (h.status.elim .inl fun x => .inr (.inr x))
theorem quits_offers {P : Program} {n d : Nat} {g : Goroutine} (h : QuitsD P n d g) (c : Nat) (b : Bool) : offersAt g c b = [] := offersAt_of_not_blocked (by rcases h.status with h | h <;> rw [h] <;> intro x <;> cases x) c b
theorem get_same {gs : Array Goroutine} {k : Nat} {x y : Goroutine} (h : gs[k]? = some y) (f : Goroutine → Goroutine) : ((gs.map f).setIfInBounds k x)[k]? = some x := by
  have := (Array.getElem?_eq_some_iff.1 h).1
  simp [this]
theorem get_set {gs : Array Goroutine} {k : Nat} {x y : Goroutine} (h : gs[k]? = some y) : (gs.setIfInBounds k x)[k]? = some x := by
  have := (Array.getElem?_eq_some_iff.1 h).1
  simp [this]
/-- words of a communication -/
def Word (c : Nat) (op : MemOp) : Prop := op.act.touch? = none ∧ (op.act ≠ .mark .disable ∧ op.act ≠ .mark .enable) ∧ ∀ B, c < B → op.act.low B
theorem Word.send {c g k : Nat} {fn : FuncId} {pos : String} : Word c { g, fn, pos, act := .send c k } := ⟨rfl, ⟨fun h => (by cases h), fun h => (by cases h)⟩, fun _ h => h⟩
theorem Word.sendDone {c g k : Nat} {fn : FuncId} {pos : String} : Word c { g, fn, pos, act := .sendDone c k } := ⟨rfl, ⟨fun h => (by cases h), fun h => (by cases h)⟩, fun _ h => h⟩
theorem Word.recv {c g k m : Nat} {fn : FuncId} {pos : String} : Word c { g, fn, pos, act := .recv c k m } := ⟨rfl, ⟨fun h => (by cases h), fun h => (by cases h)⟩, fun _ h => h⟩
theorem Word.recvDone {c g k : Nat} {fn : FuncId} {pos : String} : Word c { g, fn, pos, act := .recvDone c k } := ⟨rfl, ⟨fun h => (by cases h), fun h => (by cases h)⟩, fun _ h => h⟩
theorem Word.recvClosed {c g : Nat} {fn : FuncId} {pos : String} : Word c { g, fn, pos, act := .recvClosed c } := ⟨rfl, ⟨fun h => (by cases h), fun h => (by cases h)⟩, fun _ h => h⟩
theorem words_nil {c x : Nat} {fn : FuncId} {pos : String} {u : Array MemOp} (h : ∀ op ∈ u, Word c op) : ∀ op ∈ MemOp.ofEvents x fn pos #[] ++ u, Word c op := by
  intro op hop
  rcases Array.mem_append.1 hop with h1 | h1
  · rw [ofEvents_eq] at h1
    simp at h1
  · exact h op h1
theorem buf_next {vals : Nat → Value} {i : Nat} {buf : Array Value} (h : ∀ k, k < buf.size → buf[k]? = some (vals (i + k))) (h0 : 0 < buf.size) : buf.getD 0 undef = vals i ∧ (buf.extract 1 buf.size).size + 1 = buf.size ∧ ∀ k, k < (buf.extract 1 buf.size).size → (buf.extract 1 buf.size)[k]? = some (vals (i + 1 + k)) := by
  have h1 := h 0 h0
  refine ⟨?_, by simp; omega, fun k hk => ?_⟩
  · rw [Array.getD_eq_getD_getElem?, h1]
    rfl
  · have hk' : k < buf.size - 1 := by simpa using hk
    have h2 := h (1 + k) (by omega)
    rw [Array.getElem?_extract, if_pos (by omega), h2]
    congr 2
    omega
section
variable {P : Program} {Post : Value → World → Prop} {S : BSet} {c n wk : Nat} {z : Value} {vals : Nat → Value} {K : BSet → Goroutine → World → Prop}
theorem pick_lv {gs : Array Goroutine} {w : World} {sl : Option (Nat × Nat)} {t : Trace} {q : Nat → Nat} {a2 : Goroutine} (h0 : gs[0]? = some a2) (hr : a2.status = .running) (hL : Leavers P t gs q) :
    ∃ d sl', stepT P (crowd gs w sl) = runT P (crowd gs (w.at d) sl') 0 ∨ ∃ k g g' es m, 0 < k ∧ k < gs.size ∧ gs[k]? = some g ∧ stepT P (crowd gs w sl) = (.next (crowd ((gs.map (woken P g g' (w.at d))).setIfInBounds k g') (w.at d) sl'), MemOp.ofEvents k g.frame.fn g.frame.place es) ∧ (∀ e ∈ es, e.mute = true) ∧ q k = m + 1 ∧
      QuitsD P m (Deaf (t ++ MemOp.ofEvents k g.frame.fn g.frame.place es) k) g' := by
  have haw : ∀ g ∈ gs, awake g := by
    intro g hg
    obtain ⟨i, hi, rfl⟩ := Array.mem_iff_getElem.1 hg
    rcases Nat.eq_zero_or_pos i with rfl | hpos
    · have : gs[0] = a2 := by simpa [Array.getElem?_eq_getElem hi] using h0
      rw [this]; exact awake_of (.inl hr)
    · exact quits_awake (hL.old i _ hpos (Array.getElem?_eq_getElem hi))
  obtain ⟨i, g, d, sl', hi, hg, hst⟩ := crowd_pick (P := P) (w := w) (sl := sl) haw ⟨0, a2, h0, hr⟩
  refine ⟨d, sl', ?_⟩
  rcases Nat.eq_zero_or_pos i with rfl | hpos
  · exact .inl hst
  · obtain ⟨g', es, m, h1, h2, h3, h4⟩ := leaver_step (w := w.at d) (sl := sl') hpos hi (hL.old i g hpos hi) hg
    exact .inr ⟨i, g, g', es, m, hpos, (Array.getElem?_eq_some_iff.1 hi).1, hi, hst.trans h1, h2, h3, h4⟩
theorem Leavers.move {gs : Array Goroutine} {w : World} {t : Trace} {q : Nat → Nat} {k m : Nat} {g g' : Goroutine} {es : Array Event} {fn : FuncId} {pos : String} (hL : Leavers P t gs q) (hlt : k < gs.size) (hm : ∀ e ∈ es, e.mute = true) (hq : q k = m + 1) (hq' : QuitsD P m (Deaf (t ++ MemOp.ofEvents k fn pos es) k) g') :
    Leavers P (t ++ MemOp.ofEvents k fn pos es) ((gs.map (woken P g g' w)).setIfInBounds k g') (upd q k m) ∧ sumTo ((gs.map (woken P g g' w)).setIfInBounds k g').size (upd q k m) + 1 ≤ sumTo gs.size q := by
  have hu := mute_ops (x := k) (fn := fn) (pos := pos) hm 0
  have hd : ∀ j, j ≠ k → Deaf (t ++ MemOp.ofEvents k fn pos es) j = Deaf t j := fun j hj => Deaf_other t (Ne.symm hj) _ fun op hop => (hu op hop).1
  refine ⟨⟨fun j y h1 h3 => ?_, fun j hj => ?_⟩, ?_⟩
  · by_cases hjk : k = j
    · subst hjk
      rw [Array.getElem?_setIfInBounds_self_of_lt (by simpa using hlt)] at h3
      obtain rfl := Option.some.inj h3
      rw [upd_same]
      exact hq'
    · rw [Array.getElem?_setIfInBounds_ne hjk, Array.getElem?_map] at h3
      obtain ⟨y2, hz, rfl⟩ := Option.map_eq_some_iff.1 h3
      have hqj := hL.old j y2 h1 hz
      rw [woken_quitsD hqj, upd_ne q m (Ne.symm hjk), hd j (Ne.symm hjk)]
      exact hqj
  · have hj' : gs.size ≤ j := by simpa using hj
    rw [hd j (by omega)]
    exact hL.above j hj'
  · have : sumTo gs.size (upd q k m) + q k = sumTo gs.size q + m := sumTo_upd q m id hlt
    simp only [Array.size_setIfInBounds, Array.size_map]
    omega
theorem past_of {t : Trace} {B : Nat} (h1 : ∀ said, ¬ Race said t) (h2 : ∀ i a, touchAt t i = some a → a.loc.isMemory = true → Knows t 0 i) (h3 : Deaf t 0 = 0) (h4 : ∀ op ∈ t, op.act.low B) : Past (fun _ => False) B t := by
  refine ⟨h1, fun i a ha hm => .inl (h2 i a ha hm), ?_, h3, h4⟩
  rintro i g hg hne ⟨x, hx, hm, _⟩
  obtain ⟨q, y, hy, hyg, hb⟩ := h2 i x hx hm
  rcases hb with rfl | hb
  · unfold Trace.g? at hg
    rw [hy] at hg
    simp at hg
    omega
  · exact ⟨q, by simp [Trace.g?, hy, hyg], hb⟩
/-- where a receiver stands whose sender has closed -/
structure TI (P : Program) (S : BSet) (c n wk : Nat) (vals : Nat → Value) (a : Goroutine) (i : Nat) (O : BSet) (wM : World) (gs : Array Goroutine) (w : World) (t : Trace) (q : Nat → Nat) (a2 : Goroutine) (Oy : BSet) (pc : Nat) : Prop where
  same : SameG a2 a
  g0 : gs[0]? = some a2
  lv : Leavers P t gs q
  rely : Rely O S wM w
  chan : ChanAt vals c i n true w
  geo : Geo O Oy S c
  hy : ∀ b, Oy b → b < w.heap.size
  hs : ∀ b, S b → b < w.heap.size
  tx : TX 0 wk Oy S c t
  shut : ShutAt t wk c pc
  seen : ∀ op ∈ t, op.act.low w.heap.size
theorem TI.at {a : Goroutine} {i : Nat} {O : BSet} {wM : World} {gs : Array Goroutine} {w : World} {t : Trace} {q : Nat → Nat} {a2 : Goroutine} {Oy : BSet} {pc : Nat} (h : TI P S c n wk vals a i O wM gs w t q a2 Oy pc) (d : Nat) : TI P S c n wk vals a i O wM gs (w.at d) t q a2 Oy pc :=
  ⟨h.same, h.g0, h.lv, h.rely.trans (Rely.at _ _ _ _), h.chan, h.geo, h.hy, h.hs, h.tx, h.shut, h.seen⟩
theorem tail_loop {a : Goroutine} {i : Nat} {O : BSet} {wM : World} (HM : ∀ gs w sl t q a2 Oy pc, TI P S c n wk vals a i O wM gs w t q a2 Oy pc → ∃ gs' w' ops, runT P (crowd gs w sl) 0 = (.next (crowd gs' w' sl), ops) ∧ Concl P Post gs' w' sl (t ++ ops)) :
    ∀ (N : Nat) (gs : Array Goroutine) (w : World) (sl : Option (Nat × Nat)) (t : Trace) (q : Nat → Nat) (a2 : Goroutine) (Oy : BSet) (pc : Nat), TI P S c n wk vals a i O wM gs w t q a2 Oy pc → sumTo gs.size q ≤ N → Concl P Post gs w sl t := by
  intro N
  induction N with
  | zero =>
    intro gs w sl t q a2 Oy pc I hN
    obtain ⟨d, sl', hst | ⟨k, g, g', es, m, h1, h2, h3, h4, h5, h6, h7⟩⟩ := pick_lv (w := w) (sl := sl) I.g0 I.same.run I.lv
    · obtain ⟨gs', w', ops, e1, e2⟩ := HM gs (w.at d) sl' t q a2 Oy pc (I.at d)
      exact Concl.step (hst.trans e1) e2
    · have := le_sumTo (f := q) h2
      omega
  | succ N ihN =>
    intro gs w sl t q a2 Oy pc I hN
    obtain ⟨d, sl', hst | ⟨k, g, g', es, m, h1, h2, h3, h4, h5, h6, h7⟩⟩ := pick_lv (w := w) (sl := sl) I.g0 I.same.run I.lv
    · obtain ⟨gs', w', ops, e1, e2⟩ := HM gs (w.at d) sl' t q a2 Oy pc (I.at d)
      exact Concl.step (hst.trans e1) e2
    · have hu := mute_ops (x := k) (fn := g.frame.fn) (pos := g.frame.place) h5 w.heap.size
      obtain ⟨hL2, hsum⟩ := Leavers.move (w := w.at d) (g := g) I.lv h2 h5 h6 h7
      refine Concl.step h4 (ihN _ (w.at d) sl' _ _ a2 Oy pc ⟨I.same, ?_, hL2, I.rely.trans (Rely.at _ _ _ _), I.chan, I.geo, I.hy, I.hs, I.tx.still (fun op hop => (hu op hop).2.1) (Deaf_other t (by omega) _ fun op hop => (hu op hop).1), I.shut.app fun op hop _ => (hu op hop).2.1, seen_app I.seen fun op hop => (hu op hop).2.2⟩ (by omega))
      rw [Array.getElem?_setIfInBounds_ne (by omega), Array.getElem?_map, I.g0]
      simp [woken_run I.same.run]
/-- no one is parked -/
theorem partners_lv {gs : Array Goroutine} {t : Trace} {q : Nat → Nat} (hL : Leavers P t gs q) (r : Nat) (b : Bool) : partners (gs.setIfInBounds 0 ph) r b = [] := by
  refine partners_nil fun j g hj => ?_
  rcases getElem?_stand gs 0 j g hj with ⟨_, rfl⟩ | ⟨h1, h2⟩
  · exact offersAt_ph r b
  · exact quits_offers (hL.old j g (by omega) h2) r b
theorem lv_set {gs : Array Goroutine} {t u : Trace} {q : Nat → Nat} {x : Goroutine} (hL : Leavers P t gs q) (hd : ∀ k, Deaf (t ++ u) k = Deaf t k) : Leavers P (t ++ u) (gs.setIfInBounds 0 x) q :=
  ⟨fun k g h1 h2 => by
    rw [Array.getElem?_setIfInBounds_ne (by omega)] at h2
    rw [hd]
    exact hL.old k g h1 h2, fun k hk => by rw [hd]; exact hL.above k (by simpa using hk)⟩
/-- ████ A RECEIVER WHOSE SENDER HAS CLOSED ████ -/
theorem tail (hwk : 0 < wk) (hK : ∀ O g w gs sl t q, K O g w → gs[0]? = some g → Leavers P t gs q → Past (fun _ => False) w.heap.size t → Concl P Post gs w sl t) {i : Nat} {O : BSet} {a : Goroutine} {wM : World} (hM : PlanM P S c n z vals K i O a wM) :
    ∀ (gs : Array Goroutine) (w : World) (sl : Option (Nat × Nat)) (t : Trace) (q : Nat → Nat) (a2 : Goroutine) (Oy : BSet) (pc : Nat), TI P S c n wk vals a i O wM gs w t q a2 Oy pc → Concl P Post gs w sl t := by
  have quiet : ∀ {u : Array MemOp} {t : Trace}, (∀ op ∈ u, Word c op) → ∀ k, Deaf (t ++ u) k = Deaf t k := fun {u t} hu k => Go.ConcN.Deaf_still t k u fun op hop => (hu op hop).2.1
  induction hM with
  | @go i O a wM hr ho h ih =>
    intro gs w sl t q a2 Oy pc I
    refine tail_loop ?_ _ gs w sl t q a2 Oy pc I (Nat.le_refl _)
    intro gs w sl t q a2 Oy pc I
    obtain ⟨buf, s, r, tm, hc, hb1, hb2⟩ := I.chan
    have hlc : c < w.heap.size := (Array.getElem?_eq_some_iff.1 hc).1
    obtain ⟨g', w', es, e, gu⟩ := ho w I.rely
    refine ⟨_, _, _, runT_crowd_go I.g0 ((I.same.step true _).trans e), ?_⟩
    obtain ⟨f1, f2, f3⟩ := fit_ops (x := 0) (fn := a2.frame.fn) (pos := a2.frame.place) gu.evs
    have G2 := I.geo.grow (w := w) (w' := w') I.hy I.hs hlc
    refine ih _ _ _ _ I.rely e _ _ _ _ q g' Oy pc ⟨SameG.refl (h _ _ _ _ I.rely e).running, get_same I.g0 _, ⟨fun k y k1 k2 => lv_keep (wk := 0) (.inl rfl) f1 (fun k g k1 _ k3 => I.lv.old k g k1 k3) k y k1 (by omega) k2, fun k hk => ?_⟩,
      Rely.refl _ _ _, ⟨buf, s, r, tm, by rw [gu.keep c hlc I.geo.cx]; exact hc, hb1, hb2⟩, G2, fun b hb => Nat.lt_of_lt_of_le (I.hy b hb) gu.size, fun b hb => Nat.lt_of_lt_of_le (I.hs b hb) gu.size,
      I.tx.own G2 f1 (fun op hop v hv _ => .inl (f2 op hop v hv)) ((fit_deaf gu.evs t).trans I.tx.d), I.shut.app fun op hop hg => ?_, seen_app (fun op hop => MemAct.low_mono gu.size (I.seen op hop)) f3⟩
    · have hk' : gs.size ≤ k := by simpa using hk
      have := (Array.getElem?_eq_some_iff.1 I.g0).1
      rw [Deaf_other t (by omega) _ f1]
      exact I.lv.above k hk'
    · have := f1 op hop
      omega
  | @recv i O a wM hr hc h he ih =>
    intro gs w sl t q a2 Oy pc I
    refine tail_loop ?_ _ gs w sl t q a2 Oy pc I (Nat.le_refl _)
    intro gs w sl t q a2 Oy pc I
    obtain ⟨buf, s, r, tm, hch, hb1, hb2⟩ := I.chan
    have hlc : c < w.heap.size := (Array.getElem?_eq_some_iff.1 hch).1
    have hcm : stepG P (0 == 0) a2 w = .comm a #[rcase c z] true (.recv true) w #[] := (I.same.step true _).trans (hc w I.rely)
    rcases Nat.eq_zero_or_pos buf.size with hz | hz
    · obtain rfl : buf = #[] := Array.eq_empty_of_size_eq_zero hz
      have hin : i = n := by simpa using hb1
      refine ⟨_, _, _, crowd_recv_closed I.g0 hcm hch (partners_lv I.lv c true), ?_⟩
      obtain ⟨u, hu⟩ : ∃ u, u = MemOp.ofEvents 0 a2.frame.fn a2.frame.place #[] ++ #[({ g := 0, fn := a.frame.fn, pos := a.frame.place, act := .recvClosed c } : MemOp)] := ⟨_, rfl⟩
      rw [← hu]
      have hw : ∀ op ∈ u, Word c op := by
        rw [hu]
        exact words_nil fun op hop => by simp at hop; subst hop; exact .recvClosed
      have hu2 : u = #[({ g := 0, fn := a.frame.fn, pos := a.frame.place, act := .recvClosed c } : MemOp)] := by
        rw [hu, ofEvents_eq]
        simp
      refine hK O _ w _ sl _ q (he hin w I.rely) (get_set I.g0) (lv_set I.lv (quiet hw)) (past_of (fun said => race_still (I.tx.clean said) fun op hop => (hw op hop).1) ?_ ((quiet hw 0).trans I.tx.d) (seen_app I.seen fun op hop => (hw op hop).2.2 _ hlc))
      rw [hu2]
      exact I.tx.closed I.shut rfl rfl
    · refine ⟨_, _, _, crowd_recv_buf I.g0 hcm hch hz (partners_lv I.lv c true), ?_⟩
      obtain ⟨n1, n2, n3⟩ := buf_next hb2 hz
      rw [n1]
      have hw : ∀ op ∈ MemOp.ofEvents 0 a2.frame.fn a2.frame.place #[] ++ #[({ g := 0, fn := a.frame.fn, pos := a.frame.place, act := .recv c r 4 } : MemOp), { g := 0, fn := a.frame.fn, pos := a.frame.place, act := .recvDone c r }], Word c op :=
        words_nil fun op hop => by
          simp at hop
          rcases hop with rfl | rfl
          · exact .recv
          · exact .recvDone
      refine ih (by omega) _ _ sl _ q (Conc.served a (.tuple #[vals i, .bool true])) Oy pc ⟨SameG.refl rfl, get_set I.g0, lv_set I.lv (quiet hw), I.rely.chan I.geo.cx I.geo.cs, ⟨_, s, r + 1, tm, setChan_get hlc, by omega, n3⟩, I.geo, fun b hb => by rw [setChan_size]; exact I.hy b hb, fun b hb => by rw [setChan_size]; exact I.hs b hb,
        I.tx.still (fun op hop => (hw op hop).1) (quiet hw 0), I.shut.app fun op hop _ => (hw op hop).1, seen_app (fun op hop => by rw [setChan_size]; exact I.seen op hop) fun op hop => (hw op hop).2.2 _ (by rw [setChan_size]; exact hlc)⟩
end
end Go.Proofs.YtfnncplokombgaaDoor

/- What a call does in company, out of what it does alone (26): a receiver and a sender: the machine's moves. -/
namespace Go.Proofs.YtfnncplokombgaaDoor
open Go Go.Conc
open Go.ConcN (sumTo upd sumTo_upd upd_ne upd_same le_sumTo)

/-- where receiver and sender stand -/
structure JI (P : Program) (S : BSet) (c n wk : Nat) (z zs : Value) (vals : Nat → Value) (mb : Bool) (a : Goroutine) (i : Nat) (O0 : BSet) (wM : World) (wb : Bool) (b : Goroutine) (j : Nat) (O1 : BSet) (wW : World)
    (gs : Array Goroutine) (w : World) (t : Trace) (q : Nat → Nat) : Prop where
  ga : ∃ a2, gs[0]? = some a2 ∧ (mb = true → a2 = parked a #[rcase c z] (.recv true)) ∧ (mb = false → SameG a2 a)
  gb : ∃ b2, gs[wk]? = some b2 ∧ (wb = true → b2 = parked b #[scase c (vals j) zs] .send) ∧ (wb = false → SameG b2 b)
  rm : Rely O0 S wM w
  rw' : Rely O1 S wW w
  ch : ChanAt vals c i j false w
  jn : j ≤ n
  cap : j ≤ i + 4
  mbi : mb = true → i = j
  wbi : wb = true → j = i + 4
  atr : mb = true → ∀ w1, Rely O0 S wM w1 → stepG P true a w1 = .comm a #[rcase c z] true (.recv true) w1 #[]
  ats : wb = true → ∀ w1, Rely O1 S wW w1 → stepG P false b w1 = .comm b #[scase c (vals j) zs] true .send w1 #[]
  ra : a.status = .running
  rb : b.status = .running
  sit : Sit P S c wk O0 O1 gs w t q
section
variable {P : Program} {Post : Value → World → Prop} {S : BSet} {c n wk : Nat} {z zs : Value} {vals : Nat → Value} {mb wb : Bool} {a b : Goroutine} {i j : Nat} {O0 O1 : BSet} {wM wW : World} {gs : Array Goroutine} {w : World} {sl : Option (Nat × Nat)} {t : Trace} {q : Nat → Nat}
theorem JI.at (h : JI P S c n wk z zs vals mb a i O0 wM wb b j O1 wW gs w t q) (d : Nat) : JI P S c n wk z zs vals mb a i O0 wM wb b j O1 wW gs (w.at d) t q :=
  ⟨h.ga, h.gb, h.rm.trans (Rely.at _ _ _ _), h.rw'.trans (Rely.at _ _ _ _), h.ch, h.jn, h.cap, h.mbi, h.wbi, h.atr, h.ats, h.ra, h.rb, h.sit.at d⟩
theorem woken_main {g g' : Goroutine} {w' : World} {cl : Bool} {a2 : Goroutine} (hc : ChanAt vals c i j false w') (h1 : cl = true → a2 = parked a #[rcase c z] (.recv true)) (h2 : cl = false → SameG a2 a) : woken P g g' w' a2 = a2 := by
  obtain ⟨buf, s, r, tm, hc, _⟩ := hc
  cases cl with
  | true => rw [h1 rfl]; exact woken_recv_open _ _ hc
  | false => exact woken_run (h2 rfl).run
theorem woken_worker {g g' : Goroutine} {w' : World} {cl : Bool} {b2 : Goroutine} {v : Value} (hc : ChanAt vals c i j false w') (h1 : cl = true → b2 = parked b #[scase c v zs] .send) (h2 : cl = false → SameG b2 b) : woken P g g' w' b2 = b2 := by
  obtain ⟨buf, s, r, tm, hc, _⟩ := hc
  cases cl with
  | true => rw [h1 rfl]; exact woken_send_open _ _ hc
  | false => exact woken_run (h2 rfl).run
theorem ChanAt.guar {O : BSet} {w' : World} {es : Array Event} {cl : Bool} (h : ChanAt vals c i j cl w) (G : Guar O S w w' es) (hc : ¬ O c) : ChanAt vals c i j cl w' := by
  obtain ⟨buf, s, r, tm, h1, h2⟩ := h
  exact ⟨buf, s, r, tm, by rw [G.keep c (Array.getElem?_eq_some_iff.1 h1).1 hc]; exact h1, h2⟩
/-- goroutine 0 goes on -/
theorem JI.main_go (h : JI P S c n wk z zs vals false a i O0 wM wb b j O1 wW gs w t q) {g' : Goroutine} {w' : World} {es : Array Event} (e : stepG P true a w = .go g' w' es) (G : Guar O0 S w w' es) (hr : g'.status = .running) :
    ∃ gs' ops, runT P (crowd gs w sl) 0 = (.next (crowd gs' w' sl), ops) ∧ JI P S c n wk z zs vals false g' i (grown O0 w w') w' wb b j O1 wW gs' w' (t ++ ops) q := by
  obtain ⟨a2, ha, _, hs⟩ := h.ga
  obtain ⟨b2, hb, hb1, hb2⟩ := h.gb
  have hs := hs rfl
  have h0 : 0 < gs.size := (Array.getElem?_eq_some_iff.1 ha).1
  have hc := h.ch.guar G h.sit.geo.cx
  have hne : (0 : Nat) ≠ wk := by have := h.sit.pos; omega
  refine ⟨_, _, runT_crowd_go ha ((hs.step true _).trans e), ⟨g', get_same ha _, fun h => (by cases h), fun _ => SameG.refl hr⟩, ⟨b2, ?_, hb1, hb2⟩, Rely.refl _ _ _, G.rely h.sit.geo h.sit.lo1 h.sit.los h.rw', hc, h.jn, h.cap, fun h => (by cases h), h.wbi, fun h => (by cases h), h.ats, hr, h.rb, h.sit.go0 G h0⟩
  rw [Array.getElem?_setIfInBounds_ne hne, Array.getElem?_map, hb]
  exact congrArg some (woken_worker hc hb1 hb2)
/-- the worker goes on -/
theorem JI.work_go (h : JI P S c n wk z zs vals mb a i O0 wM false b j O1 wW gs w t q) {g' : Goroutine} {w' : World} {es : Array Event} (e : stepG P false b w = .go g' w' es) (G : Guar O1 S w w' es) (hr : g'.status = .running) :
    ∃ gs' ops, runT P (crowd gs w sl) wk = (.next (crowd gs' w' sl), ops) ∧ JI P S c n wk z zs vals mb a i O0 wM false g' j (grown O1 w w') w' gs' w' (t ++ ops) q := by
  obtain ⟨a2, ha, ha1, ha2⟩ := h.ga
  obtain ⟨b2, hb, _, hs⟩ := h.gb
  have hs := hs rfl
  have h0 : wk < gs.size := (Array.getElem?_eq_some_iff.1 hb).1
  have hc := h.ch.guar G h.sit.geo.cy
  have hne : wk ≠ 0 := by have := h.sit.pos; omega
  have hb0 : (wk == 0) = false := by simpa using hne
  refine ⟨_, _, runT_crowd_go hb (by rw [hb0]; exact (hs.step false _).trans e), ⟨a2, ?_, ha1, ha2⟩, ⟨g', get_same hb _, fun h => (by cases h), fun _ => SameG.refl hr⟩, G.rely h.sit.geo.symm h.sit.lo0 h.sit.los h.rm, Rely.refl _ _ _, hc, h.jn, h.cap, h.mbi, fun h => (by cases h), h.atr, fun h => (by cases h), h.ra, hr, h.sit.go1 G h0⟩
  rw [Array.getElem?_setIfInBounds_ne hne, Array.getElem?_map, ha]
  exact congrArg some (woken_main hc ha1 ha2)
/-- whoever else is there offers nothing -/
theorem JI.offers (h : JI P S c n wk z zs vals mb a i O0 wM wb b j O1 wW gs w t q) {k : Nat} {g : Goroutine} (h1 : k ≠ 0) (h2 : k ≠ wk) (hk : gs[k]? = some g) (r : Nat) (d : Bool) : offersAt g r d = [] :=
  quits_offers (h.sit.lv k g (by omega) h2 hk) r d
theorem same_offers {a2 a : Goroutine} (h : SameG a2 a) (r : Nat) (d : Bool) : offersAt a2 r d = [] := offersAt_of_not_blocked (by rw [h.run]; intro x; cases x) r d
/-- nobody waits for a value -/
theorem JI.no_recv (h : JI P S c n wk z zs vals false a i O0 wM wb b j O1 wW gs w t q) : partners (gs.setIfInBounds wk ph) c false = [] := by
  refine partners_nil fun k g hk => ?_
  rcases getElem?_stand gs wk k g hk with ⟨_, rfl⟩ | ⟨h1, h2⟩
  · exact offersAt_ph c false
  · by_cases hk0 : k = 0
    · subst hk0
      obtain ⟨a2, ha, _, hs⟩ := h.ga
      rw [h2] at ha
      rw [Option.some.inj ha]
      exact same_offers (hs rfl) c false
    · exact h.offers hk0 h1 h2 c false
/-- nobody waits to send -/
theorem JI.no_send (h : JI P S c n wk z zs vals mb a i O0 wM false b j O1 wW gs w t q) : partners (gs.setIfInBounds 0 ph) c true = [] := by
  refine partners_nil fun k g hk => ?_
  rcases getElem?_stand gs 0 k g hk with ⟨_, rfl⟩ | ⟨h1, h2⟩
  · exact offersAt_ph c true
  · by_cases hkw : k = wk
    · subst hkw
      obtain ⟨b2, hb, _, hs⟩ := h.gb
      rw [h2] at hb
      rw [Option.some.inj hb]
      exact same_offers (hs rfl) c true
    · exact h.offers h1 hkw h2 c true
theorem JI.one_recv (h : JI P S c n wk z zs vals true a i O0 wM wb b j O1 wW gs w t q) : partners (gs.setIfInBounds wk ph) c false = [(0, 0)] := by
  obtain ⟨a2, ha, ha1, _⟩ := h.ga
  obtain rfl := ha1 rfl
  have hne : (0 : Nat) ≠ wk := by have := h.sit.pos; omega
  rw [partners_one (j := 0) (stand_get hne ha) fun k g h0 hk => ?_, offersAt_parked_recv, if_pos rfl]
  · rfl
  · rcases getElem?_stand gs wk k g hk with ⟨_, rfl⟩ | ⟨h1, h2⟩
    · exact offersAt_ph c false
    · exact h.offers h0 h1 h2 c false
theorem JI.one_send (h : JI P S c n wk z zs vals mb a i O0 wM true b j O1 wW gs w t q) : partners (gs.setIfInBounds 0 ph) c true = [(wk, 0)] := by
  obtain ⟨b2, hb, hb1, _⟩ := h.gb
  obtain rfl := hb1 rfl
  have hne : wk ≠ 0 := by have := h.sit.pos; omega
  rw [partners_one (j := wk) (stand_get hne hb) fun k g h0 hk => ?_, offersAt_parked_send, if_pos rfl]
  · rfl
  · rcases getElem?_stand gs 0 k g hk with ⟨_, rfl⟩ | ⟨h1, h2⟩
    · exact offersAt_ph c true
    · exact h.offers h1 h0 h2 c true
theorem Sit.words {gs' : Array Goroutine} {w' : World} {u : Trace} (h : Sit P S c wk O0 O1 gs w t q) (hgs : ∀ k, 0 < k → k ≠ wk → gs'[k]? = gs[k]?) (hsz : gs'.size = gs.size) (hw : w'.heap.size = w.heap.size) (hu : ∀ op ∈ u, Word c op) : Sit P S c wk O0 O1 gs' w' (t ++ u) q :=
  h.still hgs hsz hw fun op hop => ⟨(hu op hop).1, (hu op hop).2.1, (hu op hop).2.2 _ h.loc⟩
theorem set1 {x : Goroutine} {m k : Nat} (h : m ≠ k) : (gs.setIfInBounds m x)[k]? = gs[k]? := Array.getElem?_setIfInBounds_ne h
/-- goroutine 0 takes from the buffer -/
theorem JI.recv_buf (h : JI P S c n wk z zs vals false a i O0 wM false b j O1 wW gs w t q) (hc : ∀ w1, Rely O0 S wM w1 → stepG P true a w1 = .comm a #[rcase c z] true (.recv true) w1 #[]) (hij : i < j) :
    ∃ gs' w' ops, runT P (crowd gs w sl) 0 = (.next (crowd gs' w' sl), ops) ∧ JI P S c n wk z zs vals false (Conc.served a (.tuple #[vals i, .bool true])) (i + 1) O0 wM false b j O1 wW gs' w' (t ++ ops) q := by
  obtain ⟨a2, ha, _, hs⟩ := h.ga
  obtain ⟨b2, hb, hb1, hb2⟩ := h.gb
  obtain ⟨buf, s, r, tm, hch, n1, n2⟩ := h.ch
  have hne : (0 : Nat) ≠ wk := by have := h.sit.pos; omega
  obtain ⟨m1, m2, m3⟩ := buf_next n2 (by omega)
  have hcm : stepG P (0 == 0) a2 w = .comm a #[rcase c z] true (.recv true) w #[] := ((hs rfl).step true _).trans (hc w h.rm)
  refine ⟨_, _, _, crowd_recv_buf ha hcm hch (by omega) h.no_send, ?_⟩
  rw [m1]
  refine ⟨⟨_, get_set ha, fun h => (by cases h), fun _ => SameG.refl rfl⟩, ⟨b2, by rw [set1 hne]; exact hb, hb1, hb2⟩, h.rm.chan h.sit.geo.cx h.sit.geo.cs, h.rw'.chan h.sit.geo.cy h.sit.geo.cs, ⟨_, s, r + 1, tm, setChan_get h.sit.loc, by omega, m3⟩, h.jn, by have := h.cap; omega, fun h => (by cases h), fun h => (by cases h), fun h => (by cases h), fun h => (by cases h), rfl, h.rb,
    h.sit.words (fun k h1 _ => set1 (by omega)) (by simp) setChan_size (words_nil fun op hop => ?_)⟩
  simp at hop
  rcases hop with rfl | rfl
  · exact .recv
  · exact .recvDone
/-- goroutine 0 takes from the full buffer, and lets the worker in -/
theorem JI.recv_refill (h : JI P S c n wk z zs vals false a i O0 wM true b j O1 wW gs w t q) (hjn : j < n) (hc : ∀ w1, Rely O0 S wM w1 → stepG P true a w1 = .comm a #[rcase c z] true (.recv true) w1 #[]) :
    ∃ gs' w' ops, runT P (crowd gs w sl) 0 = (.next (crowd gs' w' sl), ops) ∧ JI P S c n wk z zs vals false (Conc.served a (.tuple #[vals i, .bool true])) (i + 1) O0 wM false (Conc.served b undef) (j + 1) O1 wW gs' w' (t ++ ops) q := by
  obtain ⟨a2, ha, _, hs⟩ := h.ga
  obtain ⟨b2, hb, hb1, _⟩ := h.gb
  obtain rfl := hb1 rfl
  obtain ⟨buf, s, r, tm, hch, n1, n2⟩ := h.ch
  have hj4 := h.wbi rfl
  have hne : (0 : Nat) ≠ wk := by have := h.sit.pos; omega
  obtain ⟨m1, m2, m3⟩ := buf_next n2 (by omega)
  have hcm : stepG P (0 == 0) a2 w = .comm a #[rcase c z] true (.recv true) w #[] := ((hs rfl).step true _).trans (hc w h.rm)
  refine ⟨_, _, _, crowd_recv_refill ha hcm hch (by omega) (Ne.symm hne) hb h.one_send, ?_⟩
  rw [m1]
  refine ⟨⟨_, get_set (y := a2) (by rw [set1 (Ne.symm hne)]; exact ha), fun h => (by cases h), fun _ => SameG.refl rfl⟩, ⟨_, by rw [set1 hne]; exact get_set hb, fun h => (by cases h), fun _ => SameG.refl rfl⟩, h.rm.chan h.sit.geo.cx h.sit.geo.cs, h.rw'.chan h.sit.geo.cy h.sit.geo.cs,
    ⟨_, s + 1, r + 1, tm, setChan_get h.sit.loc, by rw [Array.size_push]; omega, fun k hk => ?_⟩, by omega, by have := h.cap; omega, fun h => (by cases h), fun h => (by cases h), fun h => (by cases h), fun h => (by cases h), rfl, rfl,
    h.sit.words (fun k h1 h2 => by rw [set1 (by omega), set1 (Ne.symm h2)]) (by simp) setChan_size (words_nil fun op hop => ?_)⟩
  · rw [Array.size_push] at hk
    rw [Array.getElem?_push]
    split
    · rename_i hk2
      have : j = i + 1 + k := by omega
      rw [this]
    · exact m3 k (by omega)
  · simp at hop
    rcases hop with rfl | rfl | rfl | rfl
    · exact .recv
    · exact .recvDone
    · exact .send
    · exact .sendDone
/-- goroutine 0 waits -/
theorem JI.recv_waits (h : JI P S c n wk z zs vals false a i O0 wM wb b j O1 wW gs w t q) (hc : ∀ w1, Rely O0 S wM w1 → stepG P true a w1 = .comm a #[rcase c z] true (.recv true) w1 #[]) (hij : i = j) :
    wb = false ∧ ∃ gs' ops, runT P (crowd gs w sl) 0 = (.next (crowd gs' w sl), ops) ∧ JI P S c n wk z zs vals true a i O0 wM wb b j O1 wW gs' w (t ++ ops) q ∧ gs'.size = gs.size := by
  have hwb : wb = false := by
    cases hw : wb with
    | false => rfl
    | true => have := h.wbi hw; omega
  subst hwb
  obtain ⟨a2, ha, _, hs⟩ := h.ga
  obtain ⟨b2, hb, hb1, hb2⟩ := h.gb
  obtain ⟨buf, s, r, tm, hch, n1, n2⟩ := h.ch
  have hne : (0 : Nat) ≠ wk := by have := h.sit.pos; omega
  obtain rfl : buf = #[] := Array.eq_empty_of_size_eq_zero (by omega)
  have hcm : stepG P (0 == 0) a2 w = .comm a #[rcase c z] true (.recv true) w #[] := ((hs rfl).step true _).trans (hc w h.rm)
  refine ⟨rfl, _, _, crowd_waits ha hcm (fun cc hcc => ?_), ⟨⟨_, get_set ha, fun _ => rfl, fun h => (by cases h)⟩, ⟨b2, by rw [set1 hne]; exact hb, hb1, hb2⟩, h.rm, h.rw', ⟨#[], s, r, tm, hch, n1, n2⟩, h.jn, h.cap, fun _ => hij, h.wbi, fun _ => hc, h.ats, h.ra, h.rb,
    h.sit.words (fun k h1 _ => set1 (by omega)) (by simp) rfl (fun op hop => ?_)⟩, by simp⟩
  · simp at hcc
    subst hcc
    exact ways_recv_none hch h.no_send
  · rw [ofEvents_eq] at hop
    simp at hop
/-- the worker finds room -/
theorem JI.send_room (h : JI P S c n wk z zs vals false a i O0 wM false b j O1 wW gs w t q) (hjn : j < n) (hc : ∀ w1, Rely O1 S wW w1 → stepG P false b w1 = .comm b #[scase c (vals j) zs] true .send w1 #[]) (hij : j < i + 4) :
    ∃ gs' w' ops, runT P (crowd gs w sl) wk = (.next (crowd gs' w' sl), ops) ∧ JI P S c n wk z zs vals false a i O0 wM false (Conc.served b undef) (j + 1) O1 wW gs' w' (t ++ ops) q := by
  obtain ⟨a2, ha, ha1, ha2⟩ := h.ga
  obtain ⟨b2, hb, _, hs⟩ := h.gb
  obtain ⟨buf, s, r, tm, hch, n1, n2⟩ := h.ch
  have hne : wk ≠ 0 := by have := h.sit.pos; omega
  have hb0 : (wk == 0) = false := by simpa using hne
  have hcm : stepG P (wk == 0) b2 w = .comm b #[scase c (vals j) zs] true .send w #[] := by rw [hb0]; exact ((hs rfl).step false _).trans (hc w h.rw')
  refine ⟨_, _, _, crowd_send_room hb hcm hch (by omega) h.no_recv, ?_⟩
  refine ⟨⟨a2, by rw [set1 hne]; exact ha, ha1, ha2⟩, ⟨_, get_set hb, fun h => (by cases h), fun _ => SameG.refl rfl⟩, h.rm.chan h.sit.geo.cx h.sit.geo.cs, h.rw'.chan h.sit.geo.cy h.sit.geo.cs,
    ⟨_, s + 1, r, tm, setChan_get h.sit.loc, by rw [Array.size_push]; omega, fun k hk => ?_⟩, by omega, by have := h.cap; omega, fun h => (by cases h), fun h => (by cases h), fun h => (by cases h), fun h => (by cases h), h.ra, rfl,
    h.sit.words (fun k _ h2 => set1 (Ne.symm h2)) (by simp) setChan_size (words_nil fun op hop => ?_)⟩
  · rw [Array.size_push] at hk
    rw [Array.getElem?_push]
    split
    · rename_i hk2
      subst hk2
      congr 2
      omega
    · exact n2 k (by omega)
  · simp at hop
    rcases hop with rfl | rfl
    · exact .send
    · exact .sendDone
/-- the worker meets goroutine 0, which waits -/
theorem JI.send_meets (h : JI P S c n wk z zs vals true a i O0 wM false b j O1 wW gs w t q) (hjn : j < n) (hc : ∀ w1, Rely O1 S wW w1 → stepG P false b w1 = .comm b #[scase c (vals j) zs] true .send w1 #[]) :
    ∃ gs' w' ops, runT P (crowd gs w sl) wk = (.next (crowd gs' w' sl), ops) ∧ JI P S c n wk z zs vals false (Conc.served a (.tuple #[vals i, .bool true])) (i + 1) O0 wM false (Conc.served b undef) (j + 1) O1 wW gs' w' (t ++ ops) q := by
  obtain ⟨a2, ha, ha1, _⟩ := h.ga
  obtain rfl := ha1 rfl
  obtain ⟨b2, hb, _, hs⟩ := h.gb
  obtain ⟨buf, s, r, tm, hch, n1, n2⟩ := h.ch
  obtain rfl := h.mbi rfl
  have hne : wk ≠ 0 := by have := h.sit.pos; omega
  have hb0 : (wk == 0) = false := by simpa using hne
  have hcm : stepG P (wk == 0) b2 w = .comm b #[scase c (vals i) zs] true .send w #[] := by rw [hb0]; exact ((hs rfl).step false _).trans (hc w h.rw')
  refine ⟨_, _, _, crowd_send_meets hb hcm hch (Ne.symm hne) ha h.one_recv, ?_⟩
  refine ⟨⟨_, by rw [set1 hne]; exact get_set ha, fun h => (by cases h), fun _ => SameG.refl rfl⟩, ⟨_, get_set (y := b2) (by rw [set1 (Ne.symm hne)]; exact hb), fun h => (by cases h), fun _ => SameG.refl rfl⟩, h.rm.chan h.sit.geo.cx h.sit.geo.cs, h.rw'.chan h.sit.geo.cy h.sit.geo.cs,
    ⟨buf, s + 1, r + 1, tm, setChan_get h.sit.loc, by omega, fun k hk => by omega⟩, by omega, by omega, fun h => (by cases h), fun h => (by cases h), fun h => (by cases h), fun h => (by cases h), rfl, rfl,
    h.sit.words (fun k h1 h2 => by rw [set1 (Ne.symm h2), set1 (by omega)]) (by simp) setChan_size (words_nil fun op hop => ?_)⟩
  simp at hop
  rcases hop with rfl | rfl | rfl | rfl
  · exact .send
  · exact .recv
  · exact .sendDone
  · exact .recvDone
/-- the worker waits -/
theorem JI.send_waits (h : JI P S c n wk z zs vals false a i O0 wM false b j O1 wW gs w t q) (hc : ∀ w1, Rely O1 S wW w1 → stepG P false b w1 = .comm b #[scase c (vals j) zs] true .send w1 #[]) (hij : j = i + 4) :
    ∃ gs' ops, runT P (crowd gs w sl) wk = (.next (crowd gs' w sl), ops) ∧ JI P S c n wk z zs vals false a i O0 wM true b j O1 wW gs' w (t ++ ops) q ∧ gs'.size = gs.size := by
  obtain ⟨a2, ha, ha1, ha2⟩ := h.ga
  obtain ⟨b2, hb, _, hs⟩ := h.gb
  obtain ⟨buf, s, r, tm, hch, n1, n2⟩ := h.ch
  have hne : wk ≠ 0 := by have := h.sit.pos; omega
  have hb0 : (wk == 0) = false := by simpa using hne
  have hcm : stepG P (wk == 0) b2 w = .comm b #[scase c (vals j) zs] true .send w #[] := by rw [hb0]; exact ((hs rfl).step false _).trans (hc w h.rw')
  refine ⟨_, _, crowd_waits hb hcm (fun cc hcc => ?_), ⟨⟨a2, by rw [set1 hne]; exact ha, ha1, ha2⟩, ⟨_, get_set hb, fun _ => rfl, fun h => (by cases h)⟩, h.rm, h.rw', ⟨buf, s, r, tm, hch, n1, n2⟩, h.jn, h.cap, h.mbi, fun _ => hij, h.atr, fun _ => hc, h.ra, h.rb,
    h.sit.words (fun k _ h2 => set1 (Ne.symm h2)) (by simp) rfl (fun op hop => ?_)⟩, by simp⟩
  · simp at hcc
    subst hcc
    exact ways_send_none hch (by omega) h.no_recv
  · rw [ofEvents_eq] at hop
    simp at hop
end
end Go.Proofs.YtfnncplokombgaaDoor
