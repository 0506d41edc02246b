/- Part 5 of 39 of what the proof of this law needs. Put together by a program out of the texts: SimK SimL SimM. -/
import Derived.Test.YtdobjciaikofdaaGreatDoorTopShakeAll04
import Derived.Conc.Own
namespace Go.Proofs.YtdobjciaikofdaaGreatDoor
section
open Go Go.Conc
theorem sim_setLoop {P : Program} {ρ : BRel} {l l' : Nat} (h : ρ l l') {x x' : Loop} (hx : ORel ρ (.loop x) (.loop x')) : Sim P UR ρ (setObj l (.loop x)) (setObj l' (.loop x')) :=
 .setObj h (fun _ _ _ e => by cases e) hx (.pure trivial)
theorem sim_beginRound {P : Program} {ρ : BRel} {l l' : Nat} (h : ρ l l') : Sim P UR ρ (Instr.beginRound l) (Instr.beginRound l') := by
 refine Sim.bind (sim_getLoop h) ?_
 intro σ x x' hl hx
 cases hx with
 | loop s p fn ht ps x y hx hy hp hd =>
  refine Sim.bind (sim_setLoop (hl.1 _ _ h) (.loop _ p fn ht ps x y hx hy hp hd)) ?_
  intro τ _ _ _ _
  cases s <;> first | exact .pure trivial | exact sim_panic
theorem sim_endRound {P : Program} {ρ : BRel} {l l' : Nat} (h : ρ l l') {j : Option Code} (hj : ∀ c, j = some c -> okC c = true) : Sim P VR ρ (Instr.endRound l j) (Instr.endRound l' j) := by
 refine Sim.bind (sim_getLoop h) ?_
 intro σ x x' hl hx
 cases hx with
 | loop s p fn ht ps x y hx hy hp hd =>
  refine Sim.bind (sim_setLoop (hl.1 _ _ h) (.loop _ j fn ht ps x y hx hy hj hd)) ?_
  intro τ _ _ _ _
  exact .pure (.bool _)
theorem sim_endLoop {P : Program} {ρ : BRel} {l l' : Nat} (h : ρ l l') : Sim P (fun _ x x' => x = x' /\ ∀ c, x = some c -> okC c = true) ρ (Instr.endLoop l) (Instr.endLoop l') := by
 refine Sim.bind (sim_getLoop h) ?_
 intro σ x x' hl hx
 cases hx with
 | loop s p fn ht ps x y hx hy hp hd =>
  dsimp only
  split
  ·exact .dead (Dead.bind (dead_panic P _) _)
  ·refine Sim.bind (sim_setLoop (hl.1 _ _ h) (.loop _ p fn ht ps x y hx hy hp hd)) ?_
   intro τ _ _ _ _
   exact .pure ⟨rfl, hp⟩
inductive DRel (ρ : BRel) : List Deferred -> List Deferred -> Prop
 | nil : DRel ρ [] []
 | cons {r r' : Nat} {l l' : List Deferred} (h : ρ r r') (t : DRel ρ l l') : DRel ρ (⟨.collected r, #[]⟩ :: l) (⟨.collected r', #[]⟩ :: l')
theorem DRel.mono {ρ σ : BRel} (hl : BLe ρ σ) {l l' : List Deferred} (h : DRel ρ l l') : DRel σ l l' := by
 induction h with
 | nil => exact .nil
 | cons h _ ih => exact .cons (hl.1 _ _ h) ih
theorem DRel.append {ρ : BRel} {l l' m m' : List Deferred} (h : DRel ρ l l') (h2 : DRel ρ m m') : DRel ρ (l ++ m) (l' ++ m') := by
 induction h with
 | nil => exact h2
 | cons h _ ih => exact .cons h ih
inductive RRel (ρ : BRel) : Option Nat -> Option Nat -> Prop
 | none : RRel ρ none none
 | some {l l' : Nat} (h : ρ l l') : RRel ρ (some l) (some l')
theorem sim_enterLoop {P : Program} {ρ : BRel} (fn : FuncId) {t t' : Array Value} (ht : RowRel ρ t t') (ps : Array Tmp) {a b : Code} (ha : okC a = true) (hb : okC b = true) {r r' : Option Nat} (hr : RRel ρ r r') :
  Sim P (fun σ (x x' : Nat × List Deferred) => σ x.1 x'.1 /\ DRel σ x.2 x'.2) ρ (Instr.enterLoop fn t ps a b r) (Instr.enterLoop fn t' ps a b r') := by
 have tail : ∀ (σ : BRel) (d d' : Nat) (m m' : List Deferred), BLe ρ σ -> σ d d' -> DRel σ m m' -> Sim P (fun σ (x x' : Nat × List Deferred) => σ x.1 x'.1 /\ DRel σ x.2 x'.2) σ
   (do pure (<- newObj (.loop { state := .ready, pending := none, fn, tmps := t, params := ps, assign := a, body := b, defers := d }), m))
   (do pure (<- newObj (.loop { state := .ready, pending := none, fn, tmps := t', params := ps, assign := a, body := b, defers := d' }), m')) := by
  intro σ d d' m m' hl hd hm
  exact .new (.loop _ _ fn (ht.mono hl) ps a b ha hb (fun c e => by cases e) hd) (fun _ _ _ _ e => by cases e) fun τ x x' hl2 hx => .pure ⟨hx, hm.mono hl2⟩
 cases hr with
 | some h =>
  refine Sim.bind (sim_getLoop h) ?_
  intro σ x x' hl hx
  cases hx with
  | loop s p fn ht ps x y hx hy hp hd => exact tail σ _ _ _ _ hl hd .nil
 | none =>
  exact .new .noDefers (fun _ _ _ _ e => by cases e) fun σ x x' hl hx => tail σ x x' _ _ hl hx (.cons hx .nil)
theorem sim_takeDeferred {P : Program} {ρ : BRel} {l l' : Nat} (h : ρ l l') : Sim P (fun _ x x' => x = [] /\ x' = []) ρ (Instr.takeDeferred l) (Instr.takeDeferred l') := by
 refine .getObj h fun o o' ho => ?_
 cases ho with
 | noDefers => exact .setObj h (fun _ _ _ e => by cases e) .taken (.pure ⟨rfl, rfl⟩)
 | _ => exact .halt
inductive IRel (ρ : BRel) : Item -> Item -> Prop
 | code (c : Code) : IRel ρ (.code c) (.code c)
 | inBlock (id : Nat) : IRel ρ (.inBlock id) (.inBlock id)
 | inLoop (b : Code) : IRel ρ (.inLoop b) (.inLoop b)
 | inScope (b : Code) : IRel ρ (.inScope b) (.inScope b)
 | inRegion (ops : Array Oper) (todo : List Nat) : IRel ρ (.inRegion ops todo) (.inRegion ops todo)
 | inRange {l l' : Nat} (h : ρ l l') : IRel ρ (.inRangeFunc l) (.inRangeFunc l')
 | endRange {l l' : Nat} (h : ρ l l') : IRel ρ (.endRangeFunc l) (.endRangeFunc l')
 | beginRound : IRel ρ .beginRound .beginRound
theorem IRel.mono {ρ σ : BRel} (hl : BLe ρ σ) {x x' : Item} (h : IRel ρ x x') : IRel σ x x' := by
 cases h with
 | code c => exact .code c
 | inBlock id => exact .inBlock id
 | inLoop b => exact .inLoop b
 | inScope b => exact .inScope b
 | inRegion ops todo => exact .inRegion ops todo
 | inRange h => exact .inRange (hl.1 _ _ h)
 | endRange h => exact .endRange (hl.1 _ _ h)
 | beginRound => exact .beginRound
inductive ILRel (ρ : BRel) (low : List Item) : List Item -> List Item -> Prop
 | nil : ILRel ρ low [] low
 | cons {x x' : Item} {l l' : List Item} (h : IRel ρ x x') (t : ILRel ρ low l l') : ILRel ρ low (x :: l) (x' :: l')
theorem ILRel.mono {ρ σ : BRel} (hl : BLe ρ σ) {low l l' : List Item} (h : ILRel ρ low l l') : ILRel σ low l l' := by
 induction h with
 | nil => exact .nil
 | cons h _ ih => exact .cons (h.mono hl) ih
structure FRel (ρ : BRel) (lt : List Item) (ld : List Deferred) (fr fr' : Frame) : Prop where
 fn : fr'.fn = fr.fn
 kind : (ld = [] -> fr'.kind = fr.kind) /\ (ld ≠ [] -> fr'.kind = .normal)
 tmps : RowRel ρ fr.tmps fr'.tmps
 todo : ILRel ρ lt fr.todo fr'.todo
 defers : ∃ d, fr'.defers = d ++ ld /\ DRel ρ fr.defers d
 mode : (fr.mode = .run /\ fr'.mode = .run) \/ (fr.mode = .returning /\ fr'.mode = .returning)
 round : RRel ρ fr.roundOf fr'.roundOf
theorem RRel.mono {ρ σ : BRel} (hl : BLe ρ σ) {x x' : Option Nat} (h : RRel ρ x x') : RRel σ x x' := by
 cases h with
 | none => exact .none
 | some h => exact .some (hl.1 _ _ h)
theorem FRel.mono {ρ σ : BRel} (hl : BLe ρ σ) {lt : List Item} {ld : List Deferred} {fr fr' : Frame} (h : FRel ρ lt ld fr fr') : FRel σ lt ld fr fr' :=
 ⟨h.fn, h.kind, h.tmps.mono hl, h.todo.mono hl, by obtain ⟨d, h1, h2⟩ := h.defers; exact ⟨d, h1, h2.mono hl⟩, h.mode, h.round.mono hl⟩
structure Low where
 todo : List Item
 defers : List Deferred
 callers : List Frame
def sent (P : Program) : Frame := { fn := P.funcs.size, tmps := #[], todo := [.call ⟨.nil, #[]⟩ false "fmt's door" #[]], defers := [], mode := .run, kind := .normal }
inductive SRel (P : Program) (ρ : BRel) (low : Low) : Frame -> List Frame -> Frame -> List Frame -> Prop
 | base {fr fr' : Frame} (h : FRel ρ low.todo low.defers fr fr') (hk : fr.kind = .normal) (hro : fr.roundOf = none) : SRel P ρ low fr [sent P] fr' low.callers
 | up {fr fr' c c' : Frame} {cs cs' : List Frame} (h : FRel ρ [] [] fr fr') (hk : fr.kind = .normal) (hw : c.todo ≠ []) (hm : c.mode = .run) (t : SRel P ρ low c cs c' cs') : SRel P ρ low fr (c :: cs) fr' (c' :: cs')
theorem SRel.mono {P : Program} {ρ σ : BRel} (hl : BLe ρ σ) {low : Low} {fr fr' : Frame} {cs cs' : List Frame} (h : SRel P ρ low fr cs fr' cs') : SRel P σ low fr cs fr' cs' := by
 induction h with
 | base h hin hro => exact .base (h.mono hl) hin hro
 | up h hk hw hm _ ih => exact .up (h.mono hl) hk hw hm ih
theorem SRel.top {P : Program} {ρ : BRel} {low : Low} {fr fr' : Frame} {cs cs' : List Frame} (h : SRel P ρ low fr cs fr' cs') {g g' : Frame} (hg : ∀ lt ld, FRel ρ lt ld fr fr' -> FRel ρ lt ld g g') (_hf : g.fn = fr.fn) (hk : g.kind = fr.kind) (hr : g.roundOf = fr.roundOf) : SRel P ρ low g cs g' cs' := by
 cases h with
 | base h hk2 hro => exact .base (hg _ _ h) (by rw [hk]; exact hk2) (by rw [hr]; exact hro)
 | up h hk2 hw hm t => exact .up (hg _ _ h) (by rw [hk]; exact hk2) hw hm t
theorem SRel.frel {P : Program} {ρ : BRel} {low : Low} {fr fr' : Frame} {cs cs' : List Frame} (h : SRel P ρ low fr cs fr' cs') : ∃ lt ld, FRel ρ lt ld fr fr' := by
 cases h with
 | base h hin hro => exact ⟨_, _, h⟩
 | up h hk hw hm t => exact ⟨_, _, h⟩
theorem sent_catches (P : Program) : (sent P).catches P = true := by
 unfold Frame.catches sent
 simp
theorem SRel.ends {P : Program} {ρ : BRel} {low : Low} {fr fr' : Frame} {cs cs' : List Frame} (h : SRel P ρ low fr cs fr' cs') : ∃ pre, cs = pre ++ [sent P] := by
 induction h with
 | base h hk hro => exact ⟨[], rfl⟩
 | up h hk hw hm t ih =>
  obtain ⟨pre, e⟩ := ih
  exact ⟨_ :: pre, by rw [e]; rfl⟩
theorem SRel.kind {P : Program} {ρ : BRel} {low : Low} {fr fr' : Frame} {cs cs' : List Frame} (h : SRel P ρ low fr cs fr' cs') : fr.kind = .normal := by
 cases h with
 | base h hk hro => exact hk
 | up h hk hw hm t => exact hk
theorem SRel.cases1 {P : Program} {ρ : BRel} {low : Low} {fr fr' : Frame} {cs cs' : List Frame} (h : SRel P ρ low fr cs fr' cs') : (cs = [sent P] /\ fr.roundOf = none /\ FRel ρ low.todo low.defers fr fr') \/ (cs.length ≠ 1 /\ FRel ρ [] [] fr fr') := by
 cases h with
 | base h hk hro => exact .inl ⟨rfl, hro, h⟩
 | up h hk hw hm t =>
  refine .inr ⟨?_, h⟩
  cases t <;> simp
theorem RowRel.getD {ρ : BRel} {c c' : Array Value} (h : RowRel ρ c c') (i : Nat) : VRel ρ (c.getD i undef) (c'.getD i undef) := by
 rw [Array.getD_eq_getD_getElem?, Array.getD_eq_getD_getElem?]
 rcases e : c[i]? with _ | v
 ·rw [h.none e]
  exact flatV_rel rfl ρ
 ·obtain ⟨v', e', hv⟩ := h.get e
  rw [e']
  exact hv
theorem FRel.eval {ρ : BRel} (F : Fine ρ) {lt : List Item} {ld : List Deferred} {fr fr' : Frame} (h : FRel ρ lt ld fr fr') (x : Operand) (hx : okO x = true) : VRel ρ (fr.eval x) (fr'.eval x) := by
 cases x with
 | tmp t => exact h.tmps.getD t
 | const v => exact flatV_rel hx ρ
 | global g => exact .ptr (.mk (F.tabs g hx) 0 none)
 | func f => exact .func f hx _ _ _ _ rfl rfl (fun i h1 => by simp at h1) (fun i h1 => by simp at h1)
theorem FRel.yielded {ρ : BRel} {lt : List Item} {ld : List Deferred} {fr fr' : Frame} (h : FRel ρ lt ld fr fr') (ops : Array Oper) : yielded ops fr'.tmps = yielded ops fr.tmps := by
 funext j
 unfold Go.yielded
 rcases e : (ops[j]?).bind (·.dst) with _ | t
 ·rfl
 ·simp only [Option.bind_some]
  rcases e2 : fr.tmps[t]? with _ | v
  ·rw [h.tmps.none e2]
  ·obtain ⟨v', e', hv⟩ := h.tmps.get e2
   rw [e']
   cases hv <;> first | rfl | skip
   rename_i hi
   cases v' <;> first | rfl | cases hi
theorem FRel.finish {ρ : BRel} {lt : List Item} {ld : List Deferred} {fr fr' : Frame} (h : FRel ρ lt ld fr fr') (hne : fr.todo ≠ []) {v v' : Value} (hv : VRel ρ v v') : FRel ρ lt ld (fr.finish v) (fr'.finish v') := by
 obtain ⟨fn, tmps, todo, defers, mode, kind, roundOf⟩ := fr
 obtain ⟨fn', tmps', todo', defers', mode', kind', roundOf'⟩ := fr'
 obtain ⟨h1, h2, h3, h4, h5, h6, h7⟩ := h
 dsimp only at h1 h2 h3 h4 h5 h6 h7 hne
 cases h4 with
 | nil => exact absurd rfl hne
 | cons hx ht =>
  cases hx with
  | inRegion ops todo =>
   cases todo with
   | nil => exact ⟨h1, h2, h3, .cons (.inRegion ops []) ht, h5, h6, h7⟩
   | cons i rest =>
    refine ⟨h1, h2, ?_, .cons (.inRegion ops rest) ht, h5, h6, h7⟩
    dsimp only [Frame.finish]
    rcases (ops[i]?).bind (·.dst) with _ | d
    ·exact h3
    ·exact h3.set d hv
  | inRange hr => exact ⟨h1, h2, h3, .cons (.endRange hr) ht, h5, h6, h7⟩
  | beginRound => exact ⟨h1, h2, h3, ht, h5, h6, h7⟩
  | code c => exact ⟨h1, h2, h3, .cons (.code c) ht, h5, h6, h7⟩
  | inBlock id => exact ⟨h1, h2, h3, .cons (.inBlock id) ht, h5, h6, h7⟩
  | inLoop b => exact ⟨h1, h2, h3, .cons (.inLoop b) ht, h5, h6, h7⟩
  | inScope b => exact ⟨h1, h2, h3, .cons (.inScope b) ht, h5, h6, h7⟩
  | endRange hr => exact ⟨h1, h2, h3, .cons (.endRange hr) ht, h5, h6, h7⟩
end
section
open Go Go.Conc
def okI : Item -> Bool
 | .code c | .inLoop c | .inScope c => okC c
 | .inRegion ops _ => ops.all (fun o => okOp o.op)
 | .call .. | .extern .. => false
 | _ => true
def okFr (fr : Frame) : Bool := fr.todo.all okI
def OkS (P : Program) (fr : Frame) (cs : List Frame) : Prop := okFr fr = true /\ ∀ c ∈ cs, c = sent P \/ okFr c = true
def headOk : List Item -> Bool
 | .code (.cond c _ _) :: _ => okO c
 | .code (.rangeFunc f _ a b) :: _ => okO f && okC a && okC b
 | .inRegion ops (i :: _) :: _ => match ops[i]? with | some o => okOp o.op | none => true
 | _ => true
theorem headOk_of {fr : Frame} (h : okFr fr = true) : headOk fr.todo = true := by
 obtain ⟨fn, tmps, todo, defers, mode, kind, roundOf⟩ := fr
 unfold okFr at h
 dsimp only at h ⊢
 rcases todo with _ | ⟨x, k⟩
 ·rfl
 ·rw [List.all_cons, Bool.and_eq_true] at h
  obtain ⟨h, _⟩ := h
  cases x with
  | code c =>
   cases c with
   | cond c a b =>
    simp only [okI, okC, Bool.and_eq_true] at h
    exact h.1.1
   | rangeFunc f ps a b =>
    simp only [okI, okC] at h
    exact h
   | _ => rfl
  | inRegion ops todo =>
   cases todo with
   | nil => rfl
   | cons i rest =>
    simp only [okI] at h
    simp only [headOk]
    rcases e : ops[i]? with _ | o
    ·rfl
    ·exact Array.all_eq_true_iff_forall_mem.1 h o (Array.mem_of_getElem? e)
  | _ => rfl
def Out (P : Program) (ρ : BRel) (low : Low) (W W1 W' : World) (fr : Frame) (cs : List Frame) (fr1 : Frame) (cs1 : List Frame) (X : GStep) : Prop :=
 ∃ σ fr1' cs1' W1' es', BLe ρ σ /\ SRel P σ low fr1 cs1 fr1' cs1' /\ HRel σ W1 W1' /\ X = .go (G fr1' cs1') W1' es' /\ Turn ρ σ W W1 W' W1' /\ (∀ e ∈ es', GoodEv σ W1 e) /\ (OkS P fr cs -> OkS P fr1 cs1)
def Coll (ρ : BRel) (d : Deferred) : Prop := ∃ r r', d = ⟨.collected r, #[]⟩ /\ ρ r r'
def BadS (P : Program) (W : World) (fr : Frame) (cs : List Frame) : Prop :=
 (∃ ch, fr.mode = .panicking ch) /\ ∃ ρ W', HRel ρ W W' /\ (∀ d ∈ fr.defers, Coll ρ d) /\ (∀ c ∈ cs, ∀ d ∈ c.defers, Coll ρ d) /\ ∃ pre s, fr :: cs = pre ++ [s] /\ s.catches P = true
theorem DRel.coll {ρ : BRel} {l l' : List Deferred} (h : DRel ρ l l') : ∀ d ∈ l, Coll ρ d := by
 induction h with
 | nil => intro d hd; simp at hd
 | cons h _ ih =>
  intro d hd
  rcases List.mem_cons.1 hd with rfl | hd
  ·exact ⟨_, _, rfl, h⟩
  ·exact ih d hd
theorem FRel.coll {ρ : BRel} {lt : List Item} {ld : List Deferred} {fr fr' : Frame} (h : FRel ρ lt ld fr fr') : ∀ d ∈ fr.defers, Coll ρ d := by
 obtain ⟨d, _, h2⟩ := h.defers
 exact h2.coll
theorem SRel.coll {P : Program} {ρ : BRel} {low : Low} {fr fr' : Frame} {cs cs' : List Frame} (h : SRel P ρ low fr cs fr' cs') : (∀ d ∈ fr.defers, Coll ρ d) /\ ∀ c ∈ cs, ∀ d ∈ c.defers, Coll ρ d := by
 induction h with
 | base h hin hro => exact ⟨h.coll, fun c hc d hd => by simp at hc; subst hc; simp [sent] at hd⟩
 | up h hk hw hm t ih => exact ⟨h.coll, fun c hc => by
   rcases List.mem_cons.1 hc with rfl | hc
   ·exact ih.1
   ·exact ih.2 c hc⟩
theorem mem_seen {P : Program} {fn : FuncId} {es : Array Event} {e : Event} (h : e ∈ seen P fn es) : e ∈ es := by
 have key : ∀ (l : List Event) (q : Bool) (kept : Array Event), e ∈ (l.foldl (fun (q, kept) e => match e.loc with
   | .mark (.extern f) => ((P.funcs[f]?).any (·.norace), kept)
   | _ => (q, if q && !e.sync then kept else kept.push e)) (q, kept)).2 -> e ∈ kept \/ e ∈ l := by
  intro l
  induction l with
  | nil => intro q kept h; exact .inl h
  | cons x l ih =>
   intro q kept h
   rw [List.foldl_cons] at h
   have h2 := ih _ _ h
   rcases h2 with h2 | h2
   ·have : e ∈ kept \/ e = x := by
     split at h2
     ·exact .inl h2
     ·split at h2
      ·exact .inl h2
      ·rcases Array.mem_push.1 h2 with h3 | h3
       ·exact .inl h3
       ·exact .inr h3
    rcases this with h3 | h3
    ·exact .inl h3
    ·exact .inr (by rw [h3]; exact List.mem_cons_self)
   ·exact .inr (List.mem_cons_of_mem _ h2)
 unfold seen at h
 dsimp only at h
 rw [<- Array.foldl_toList] at h
 rcases key es.toList _ _ h with h | h
 ·simp at h
 ·simpa using h
theorem frame_raise_mode (fr : Frame) (vs : List PanicEntry) : ∃ ch, (fr.raise vs).mode = .panicking ch := by
 unfold Frame.raise
 split <;> exact ⟨_, rfl⟩
theorem frame_raise_defers (fr : Frame) (vs : List PanicEntry) : (fr.raise vs).defers = fr.defers := by
 unfold Frame.raise
 split <;> rfl
theorem SRel.bad {P : Program} {ρ σ : BRel} {low : Low} {fr fr' : Frame} {cs cs' : List Frame} (h : SRel P ρ low fr cs fr' cs') {W W' : World} (H : HRel σ W W') (hl : BLe ρ σ) (vs : List PanicEntry) : BadS P W (fr.raise vs) cs := by
 have hc := (h.mono hl).coll
 exact ⟨frame_raise_mode fr vs, σ, W', H, by rw [frame_raise_defers]; exact hc.1, hc.2, by
  obtain ⟨pre, e⟩ := h.ends
  exact ⟨fr.raise vs :: pre, sent P, by rw [e]; rfl, sent_catches P⟩⟩
theorem okFr_finish {fr : Frame} (h : okFr fr = true) (v : Value) : okFr (fr.finish v) = true := by
 obtain ⟨fn, tmps, todo, defers, mode, kind, roundOf⟩ := fr
 unfold okFr at h ⊢
 rcases todo with _ | ⟨x, k⟩
 ·rfl
 ·cases x with
  | inRegion ops todo =>
   cases todo with
   | nil => exact h
   | cons i rest => exact h
  | inRangeFunc l => exact h
  | beginRound =>
   rw [List.all_cons, Bool.and_eq_true] at h
   exact h.2
  | call d w r sv =>
   rw [List.all_cons, Bool.and_eq_true] at h
   cases h.1
  | extern r a =>
   rw [List.all_cons, Bool.and_eq_true] at h
   cases h.1
  | _ => exact h
theorem SRel.finish {P : Program} {ρ : BRel} {low : Low} {fr fr' : Frame} {cs cs' : List Frame} (h : SRel P ρ low fr cs fr' cs') (hne : fr.todo ≠ []) {v v' : Value} (hv : VRel ρ v v') : SRel P ρ low (fr.finish v) cs (fr'.finish v') cs' := by
 refine h.top (fun lt ld hf => hf.finish hne hv) ?_ ?_ ?_
 ·obtain ⟨fn, tmps, todo, defers, mode, kind, roundOf⟩ := fr
  unfold Frame.finish
  dsimp only
  split <;> rfl
 ·obtain ⟨fn, tmps, todo, defers, mode, kind, roundOf⟩ := fr
  unfold Frame.finish
  dsimp only
  split <;> rfl
 ·obtain ⟨fn, tmps, todo, defers, mode, kind, roundOf⟩ := fr
  unfold Frame.finish
  dsimp only
  split <;> rfl
theorem like_fake (W W1 W' : World) : Like W W1 { W' with tape := fun i q => W.tape (i - W'.drawn + W.drawn) q } := by
 intro i q _
 show W.tape (W.drawn + i) q = W.tape (W'.drawn + i - W'.drawn + W.drawn) q
 congr 1
 omega
theorem HRel.fake {ρ : BRel} {W W' : World} (H : HRel ρ W W') (t : Tape) : HRel ρ W { W' with tape := t } := ⟨H.fine, H.many, H.objs, H.thaw⟩
theorem Sim.rel {α : Type} {R : BRel -> α -> α -> Prop} {ρ : BRel} {s s' : Sem α} {P : Program} (h : Sim P R ρ s s') {W W' W1 : World} {es es1 : Array Event} {a : α} (H : HRel ρ W W') (hr : s.runT P W es = (.ok a W1, es1)) : ∃ σ a', BLe ρ σ /\ R σ a a' := by
 obtain ⟨σ, a', _, _, h1, h2, _⟩ := h.runs (es' := #[]) (H.fake _) (like_fake W W1 W') hr
 exact ⟨σ, a', h1, h2⟩
theorem mem_kept {P : Program} {fn : FuncId} {es : Array Event} {b : Bool} {e : Event} (h : e ∈ seen P fn (if b = true then #[] else es) ++ #[]) : e ∈ es := by
 rw [Array.append_empty] at h
 have := mem_seen h
 split at this
 ·simp at this
 ·exact this
def noCall : List Item -> Bool
 | .call .. :: _ | .extern .. :: _ => false
 | _ => true
theorem apply_value {P : Program} {fr : Frame} {cs : List Frame} {s : Sem Next} {W w : World} {v : Value} {es : Array Event} (hr : s.runT P W #[] = (.ok (.value v) w, es)) :
  ∃ es2, stepG.apply P true fr cs none s W = .go (G (fr.finish v) cs) w es2 /\ ∀ e ∈ es2, e ∈ es := by
 unfold stepG.apply
 dsimp only
 rw [if_pos rfl, hr]
 exact ⟨_, rfl, fun e he => mem_kept he⟩
theorem apply_skip {P : Program} {fr : Frame} {cs : List Frame} {s : Sem Next} {W w : World} {es : Array Event} (hr : s.runT P W #[] = (.ok .skip w, es)) :
  ∃ es2, stepG.apply P true fr cs none s W = .go (G (fr.finish undef) cs) w es2 /\ ∀ e ∈ es2, e ∈ es := by
 unfold stepG.apply
 dsimp only
 rw [if_pos rfl, hr]
 exact ⟨_, rfl, fun e he => mem_kept he⟩
theorem apply_enter {P : Program} {fr : Frame} {cs : List Frame} {s : Sem Next} {W w : World} {f : FuncId} {a : Array Value} {es : Array Event} (hr : s.runT P W #[] = (.ok (.enter f a) w, es)) (hn : noCall fr.todo = true) :
  ∃ es2, stepG.apply P true fr cs none s W = .go (G (Frame.enter P f a .normal) (fr :: cs)) w es2 /\ ∀ e ∈ es2, e ∈ es := by
 have hk : ∀ k : CallKind, k = .normal -> (GStep.go { frame := Frame.enter P f a k, callers := fr :: cs, status := .running, dying := none } w #[]) = .go (G (Frame.enter P f a .normal) (fr :: cs)) w #[] := by
  rintro k rfl
  rfl
 unfold stepG.apply
 dsimp only
 rw [if_pos rfl, hr]
 dsimp only
 rw [hk]
 ·exact ⟨_, rfl, fun e he => mem_kept he⟩
 ·rcases h : fr.todo with _ | ⟨x, k⟩
  ·rfl
  ·rw [h] at hn
   cases x <;> first | rfl | cases hn
theorem apply_round {P : Program} {fr : Frame} {cs : List Frame} {s : Sem Next} {W w : World} {l : Nat} {f : FuncId} {t : Array Value} {x y : Code} {es : Array Event} (hr : s.runT P W #[] = (.ok (.round l f t x y) w, es)) :
  ∃ es2, stepG.apply P true fr cs none s W = .go (G (Frame.round l f t x y .normal) (fr :: cs)) w es2 /\ ∀ e ∈ es2, e ∈ es := by
 unfold stepG.apply
 dsimp only
 rw [if_pos rfl, hr]
 exact ⟨_, rfl, fun e he => mem_kept he⟩
theorem ILRel.noCall {ρ : BRel} {low k k' : List Item} (h : ILRel ρ low k k') (hne : k ≠ []) : noCall k = true /\ noCall k' = true := by
 cases h with
 | nil => exact absurd rfl hne
 | cons hx ht => cases hx <;> exact ⟨rfl, rfl⟩
theorem enter_rel {P : Program} (OK : ProgOk P) {ρ : BRel} {f : FuncId} (hf : niceF.contains f = true) {a a' : Array Value} (ha : RowRel ρ a a') : FRel ρ [] [] (Frame.enter P f a .normal) (Frame.enter P f a' .normal) /\ okFr (Frame.enter P f a .normal) = true := by
 obtain ⟨fn, b, h1, h2, h3, h4⟩ := OK.funcs f hf
 refine ⟨⟨rfl, ⟨fun _ => rfl, fun h => absurd rfl h⟩, ?_, .cons (.code _) .nil, ⟨[], rfl, .nil⟩, .inl ⟨rfl, rfl⟩, .none⟩, ?_⟩
 ·refine ha.append ?_
  rw [ha.1]
  refine ⟨rfl, fun i h1 h2 => ?_⟩
  rw [Array.getElem_replicate]
  exact flatV_rel rfl ρ
 ·unfold okFr Frame.enter
  simp only [h1, Option.bind_some, h3, Option.getD_some, List.all_cons, List.all_nil, Bool.and_true, okI, h4]
theorem round_rel {ρ : BRel} {l l' : Nat} (hl : ρ l l') (f : FuncId) {t t' : Array Value} (ht : RowRel ρ t t') (x y : Code) : FRel ρ [] [] (Frame.round l f t x y .normal) (Frame.round l' f t' x y .normal) :=
 ⟨rfl, ⟨fun _ => rfl, fun h => absurd rfl h⟩, ht, .cons (.code _) (.cons .beginRound (.cons (.code _) .nil)), ⟨[], rfl, .nil⟩, .inl ⟨rfl, rfl⟩, .some hl⟩
theorem apply_out {P : Program} (OK : ProgOk P) {ρ : BRel} {low : Low} {fr fr' : Frame} {cs cs' : List Frame} {W W1 W' : World} {s s' : Sem Next} {g1 : Goroutine} {es1 : Array Event}
  (hs : Sim P NR ρ s s') (S : SRel P ρ low fr cs fr' cs') (hne : fr.todo ≠ []) (hm : fr.mode = .run) (H : HRel ρ W W') (hlike : Like W W1 W')
  (hgo : stepG.apply P true fr cs none s W = .go g1 W1 es1) (hst : g1.status = .running) (hd : g1.dying = none) :
  BadS P W1 g1.frame g1.callers \/ Out P ρ low W W1 W' fr cs g1.frame g1.callers (stepG.apply P true fr' cs' none s' W') := by
 obtain ⟨lt, ld, hF⟩ := S.frel
 obtain ⟨hk1, hk2⟩ := hF.todo.noCall hne
 rcases hr : s.runT P W #[] with ⟨r, es⟩
 cases r with
 | ok n w =>
  obtain ⟨σ0, n', hl0, hn⟩ := hs.rel H hr
  have main : W1 = w -> ∃ σ n' W1' ds, BLe ρ σ /\ NR σ n n' /\ HRel σ W1 W1' /\ s'.runT P W' #[] = (.ok n' W1', ds) /\ Turn ρ σ W W1 W' W1' /\ ∀ e ∈ ds, GoodEv σ W1 e := by
   rintro rfl
   obtain ⟨σ, n', W1', ds, h1, h2, h3, h4, h5, h6⟩ := hs.runs (es' := #[]) H hlike hr
   exact ⟨σ, n', W1', ds, h1, h2, h3, by rw [h4]; simp, h5, h6⟩
  refine .inr ?_
  cases hn with
  | value hv =>
   obtain ⟨es2, e1, _⟩ := apply_value (fr := fr) (cs := cs) hr
   rw [e1] at hgo
   cases hgo
   obtain ⟨σ, n', W1', ds, h1, h2, h3, h4, h5, h6⟩ := main rfl
   cases h2 with
   | value hv =>
    obtain ⟨es3, e3, h7⟩ := apply_value (fr := fr') (cs := cs') h4
    exact ⟨σ, _, _, W1', es3, h1, (S.mono h1).finish hne hv, h3, e3, h5, fun e he => h6 e (h7 e he), fun h => ⟨okFr_finish h.1 _, h.2⟩⟩
  | skip =>
   obtain ⟨es2, e1, _⟩ := apply_skip (fr := fr) (cs := cs) hr
   rw [e1] at hgo
   cases hgo
   obtain ⟨σ, n', W1', ds, h1, h2, h3, h4, h5, h6⟩ := main rfl
   cases h2 with
   | skip =>
    obtain ⟨es3, e3, h7⟩ := apply_skip (fr := fr') (cs := cs') h4
    exact ⟨σ, _, _, W1', es3, h1, (S.mono h1).finish hne (flatV_rel rfl σ), h3, e3, h5, fun e he => h6 e (h7 e he), fun h => ⟨okFr_finish h.1 _, h.2⟩⟩
  | enter f hf ha =>
   obtain ⟨es2, e1, _⟩ := apply_enter (fr := fr) (cs := cs) hr hk1
   rw [e1] at hgo
   cases hgo
   obtain ⟨σ, n', W1', ds, h1, h2, h3, h4, h5, h6⟩ := main rfl
   cases h2 with
   | enter f hf ha =>
    obtain ⟨es3, e3, h7⟩ := apply_enter (fr := fr') (cs := cs') h4 hk2
    obtain ⟨h8, h9⟩ := enter_rel OK hf ha
    refine ⟨σ, _, _, W1', es3, h1, .up h8 rfl hne hm (S.mono h1), h3, e3, h5, fun e he => h6 e (h7 e he), fun h => ⟨h9, fun c hc => ?_⟩⟩
    rcases List.mem_cons.1 hc with rfl | hc
    ·exact .inr h.1
    ·exact h.2 c hc
  | round hl f ht x y hx hy =>
   obtain ⟨es2, e1, _⟩ := apply_round (fr := fr) (cs := cs) hr
   rw [e1] at hgo
   cases hgo
   obtain ⟨σ, n', W1', ds, h1, h2, h3, h4, h5, h6⟩ := main rfl
   cases h2 with
   | round hl f ht x y hx hy =>
    obtain ⟨es3, e3, h7⟩ := apply_round (fr := fr') (cs := cs') h4
    refine ⟨σ, _, _, W1', es3, h1, SRel.up (round_rel hl f ht x y) rfl hne hm (S.mono h1), h3, e3, h5, fun e he => h6 e (h7 e he), fun h => ⟨?_, fun c hc => ?_⟩⟩
    ·simp only [okFr, G, Frame.round, List.all_cons, List.all_nil, okI, hx, hy, Bool.and_true]
    ·rcases List.mem_cons.1 hc with rfl | hc
     ·exact .inr h.1
     ·exact h.2 c hc
 | halt h w =>
  obtain ⟨hok, σ, W2', hl, H2⟩ := hs.halts H hr
  unfold stepG.apply at hgo
  dsimp only at hgo
  rw [if_pos rfl, hr] at hgo
  cases h with
  | panic v =>
   cases hgo
   exact .inl (S.bad H2 hl _)
  | stuck why => cases hgo
  | unsupported u => cases u <;> first | cases hgo | cases hok
  | _ => cases hok
end
section
open Go Go.Conc
theorem SRel.ne_sent {P : Program} {ρ : BRel} {low : Low} {fr fr' : Frame} {cs cs' : List Frame} (h : SRel P ρ low fr cs fr' cs') : fr ≠ sent P := by
 rintro rfl
 obtain ⟨lt, ld, hF⟩ := h.frel
 have := hF.todo
 unfold sent at this
 generalize fr'.todo = k at this
 cases this with
 | cons hx _ => cases hx
theorem return_out {P : Program} {ρ : BRel} {low : Low} {fr fr' : Frame} {cs cs' : List Frame} {W W1 W' : World} {v v' : Value} {g1 : Goroutine} {es1 : Array Event} (m : Bool)
  (S : SRel P ρ low fr cs fr' cs') (hcs : cs.length ≠ 1) (hv : VRel ρ v v') (hgo : doReturn P true fr cs none v W = .go g1 W1 es1) :
  W1 = W /\ es1 = #[] /\ g1 = G g1.frame g1.callers /\ ∃ fr1' cs1', doReturn P m fr' cs' none v' W' = .go (G fr1' cs1') W' #[] /\ SRel P ρ low g1.frame g1.callers fr1' cs1' /\ (OkS P fr cs -> OkS P g1.frame g1.callers) := by
 cases S with
 | base h hin hro => exact absurd rfl hcs
 | up h hk hw hm t =>
  rename_i c c' cs2 cs2'
  have hk' : fr'.kind = .normal := (h.kind.1 rfl).trans hk
  unfold doReturn at hgo ⊢
  dsimp only at hgo ⊢
  rw [hk] at hgo
  rw [hk']
  cases hgo
  refine ⟨rfl, rfl, rfl, _, _, rfl, t.finish hw hv, fun h => ⟨okFr_finish ?_ _, fun c hc => h.2 c (List.mem_cons_of_mem _ hc)⟩⟩
  rcases h.2 c (by simp) with h | h
  ·exact absurd h t.ne_sent
  ·exact h
def leaveG (P : Program) (m : Bool) (fr : Frame) (cs : List Frame) (W : World) (jump : Option Code) : GStep :=
 match fr.roundOf with
 | none => match jump with
  | none | some .ret => .go (G { fr with mode := .returning } cs) W #[]
  | _ => .ended (.stuck "exit, goto: no such block or label" (fr.pos P)) W #[]
 | some l =>
  let r := (Instr.endRound l jump).runT P W #[]
  GStep.after (seen P fr.fn r.2) (match r.1 with
   | .ok v w => doReturn P m fr cs none v w
   | .halt _ w => .ended (.stuck "range over a function: no such loop" (fr.pos P)) w #[])
theorem after_go {es es1 : Array Event} {X : GStep} {g : Goroutine} {W : World} (h : GStep.after es X = .go g W es1) : ∃ es2, X = .go g W es2 /\ es1 = es ++ es2 := by
 cases X <;> cases h
 exact ⟨_, rfl, rfl⟩
theorem mem_seen2 {P : Program} {fn : FuncId} {es : Array Event} {e : Event} (h : e ∈ seen P fn es ++ #[]) : e ∈ es := by
 rw [Array.append_empty] at h
 exact mem_seen h
theorem leave_out {P : Program} {ρ : BRel} {low : Low} {fr fr' : Frame} {cs cs' : List Frame} {W W1 W' : World} {j : Option Code} {g1 : Goroutine} {es1 : Array Event} (m : Bool)
  (hj : ∀ c, j = some c -> okC c = true) (S : SRel P ρ low fr cs fr' cs') (hm : fr.mode = .run) (H : HRel ρ W W') (hlike : Like W W1 W')
  (hgo : leaveG P true fr cs W j = .go g1 W1 es1) : Out P ρ low W W1 W' fr cs g1.frame g1.callers (leaveG P m fr' cs' W' j) := by
 obtain ⟨lt, ld, hF⟩ := S.frel
 have hr := hF.round
 obtain ⟨fn, tmps, todo, defers, mode, kind, roundOf⟩ := fr
 obtain ⟨fn', tmps', todo', defers', mode', kind', roundOf'⟩ := fr'
 dsimp only at hr hm
 subst hm
 unfold leaveG at hgo ⊢
 cases hr with
 | none =>
  have go : GStep.go (G ⟨fn, tmps, todo, defers, .returning, kind, none⟩ cs) W #[] = .go g1 W1 es1 -> Out P ρ low W W1 W' ⟨fn, tmps, todo, defers, .run, kind, none⟩ cs g1.frame g1.callers (.go (G ⟨fn', tmps', todo', defers', .returning, kind', none⟩ cs') W' #[]) := by
   intro hg
   cases hg
   refine ⟨ρ, ⟨fn', tmps', todo', defers', .returning, kind', none⟩, cs', W', #[], BLe.refl _, S.top (fun lt ld h => ⟨h.fn, h.kind, h.tmps, h.todo, h.defers, .inr ⟨rfl, rfl⟩, h.round⟩) rfl rfl rfl, H, rfl, Turn.refl _ _ _, fun e he => by simp at he, fun h => h⟩
  rcases j with _ | c
  ·exact go hgo
  ·cases c <;> first | exact go hgo | cases hgo
 | some hl =>
  have hlen : cs.length ≠ 1 := by
   rcases S.cases1 with ⟨_, h, _⟩ | ⟨h, _⟩
   ·cases h
   ·exact h
  dsimp only at hgo ⊢
  rename_i l l'
  rcases hrun : (Instr.endRound l j).runT P W #[] with ⟨r, es⟩
  rw [hrun] at hgo
  cases r with
  | halt h w =>
   obtain ⟨es2, h1, _⟩ := after_go hgo
   cases h1
  | ok v w =>
   obtain ⟨es2, h1, h2⟩ := after_go hgo
   dsimp only at h1
   obtain ⟨σ0, v0, hl0, hv0⟩ := (sim_endRound (P := P) hl hj).rel H hrun
   obtain ⟨hw, _, _⟩ := return_out (W' := W') m (S.mono hl0) hlen hv0 h1
   subst hw
   obtain ⟨σ, v', W1', ds, g1', g2, g3, g4, g5, g6⟩ := (sim_endRound (P := P) hl hj).runs (es' := #[]) H hlike hrun
   obtain ⟨_, _, _, fr1', cs1', k1, k2, k3⟩ := return_out (W' := W1') m (S.mono g1') hlen g2 h1
   rw [g4]
   refine ⟨σ, fr1', cs1', W1', _, g1', k2, g3, by dsimp only; rw [k1]; rfl, g5, fun e he => g6 e ?_, k3⟩
   have := mem_seen2 he
   simpa using this
theorem exitTo_rel {ρ : BRel} {low k k' : List Item} (h : ILRel ρ low k k') (id : Nat) : (∀ r, exitTo id k = some r -> ∃ r', exitTo id k' = some r' /\ ILRel ρ low r r' /\ (k.all okI = true -> r.all okI = true)) /\ (low = [] -> exitTo id k = none -> exitTo id k' = none) := by
 induction h with
 | nil => exact ⟨fun r e => by simp [exitTo] at e, fun h _ => by rw [h]; rfl⟩
 | cons hx ht ih =>
  cases hx with
  | inBlock id' =>
   unfold exitTo
   by_cases h : (id' == id) = true
   ·rw [if_pos h, if_pos h]
    exact ⟨fun r e => by cases e; exact ⟨_, rfl, ht, fun h => by simpa [okI] using h⟩, fun _ e => by cases e⟩
   ·rw [if_neg h, if_neg h]
    refine ⟨fun r e => ?_, ih.2⟩
    obtain ⟨r', h1, h2, h3⟩ := ih.1 r e
    exact ⟨r', h1, h2, fun h => h3 (by rw [List.all_cons, Bool.and_eq_true] at h; exact h.2)⟩
  | _ =>
   refine ⟨fun r e => ?_, ih.2⟩
   obtain ⟨r', h1, h2, h3⟩ := ih.1 r e
   exact ⟨r', h1, h2, fun h => h3 (by rw [List.all_cons, Bool.and_eq_true] at h; exact h.2)⟩
theorem okC_label {c : Code} {l : Nat} {r : Code} (hc : okC c = true) (h : findLabel c l = some r) : okC r = true := by
 induction c generalizing r with
 | seq a b iha ihb =>
  simp only [okC, Bool.and_eq_true] at hc
  unfold findLabel at h
  split at h
  ·rename_i rest e
   cases h
   simp only [okC, Bool.and_eq_true]
   exact ⟨iha hc.1 e, hc.2⟩
  ·exact ihb hc.2 h
 | label l' =>
  unfold findLabel at h
  split at h
  ·cases h; rfl
  ·cases h
 | _ => simp [findLabel] at h
theorem gotoIn_rel {ρ : BRel} {low k k' : List Item} (h : ILRel ρ low k k') (l : Nat) : (∀ r, gotoIn l k = some r -> ∃ r', gotoIn l k' = some r' /\ ILRel ρ low r r' /\ (k.all okI = true -> r.all okI = true)) /\ (low = [] -> gotoIn l k = none -> gotoIn l k' = none) := by
 induction h with
 | nil => exact ⟨fun r e => by simp [gotoIn] at e, fun h _ => by rw [h]; rfl⟩
 | cons hx ht ih =>
  cases hx with
  | inScope b =>
   unfold gotoIn
   rcases e : findLabel b l with _ | rest
   ·refine ⟨fun r e => ?_, ih.2⟩
    obtain ⟨r', h1, h2, h3⟩ := ih.1 r e
    exact ⟨r', h1, h2, fun h => h3 (by rw [List.all_cons, Bool.and_eq_true] at h; exact h.2)⟩
   ·refine ⟨fun r e2 => by
     cases e2
     refine ⟨_, rfl, .cons (.code _) (.cons (.inScope b) ht), fun h => ?_⟩
     rw [List.all_cons, Bool.and_eq_true] at h
     simp only [List.all_cons, okI, Bool.and_eq_true]
     exact ⟨okC_label h.1 e, h.1, h.2⟩, fun _ e2 => by cases e2⟩
  | _ =>
   refine ⟨fun r e => ?_, ih.2⟩
   obtain ⟨r', h1, h2, h3⟩ := ih.1 r e
   exact ⟨r', h1, h2, fun h => h3 (by rw [List.all_cons, Bool.and_eq_true] at h; exact h.2)⟩
end
end Go.Proofs.YtdobjciaikofdaaGreatDoor
