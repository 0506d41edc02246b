/- Part 8 of 39 of what the proof of this law needs. Put together by a program out of the texts: SimT SimU SimV SimW SimX. -/
import Derived.Test.YtdobjciaikofdaaGreatDoorTopShakeAll07
import Derived.Conc.Beside
import Derived.Conc.CrowdComm
import Derived.Conc.CrowdCom2
import Derived.Conc.Pipeline3
namespace Go.Proofs.YtdobjciaikofdaaGreatDoor
section
open Go Go.Conc
inductive Road (P : Program) (Stop : Frame -> World -> Prop) : Frame -> List Frame -> World -> Prop
 | stop {fr : Frame} {W : World} (h : ∃ T, Stop fr { W with tape := T }) : Road P Stop fr [sent P] W
 | step {fr : Frame} {cs : List Frame} {W : World} (ho : ∀ T : Tape, (∀ i q, i < W.drawn -> T i q = W.tape i q) -> ∃ fr1 cs1 W1 es, stepG P true (G fr cs) { W with tape := T } = .go (G fr1 cs1) W1 es)
  (h : ∀ (T : Tape) (fr1 : Frame) (cs1 : List Frame) (W1 : World) (es : Array Event), (∀ i q, i < W.drawn -> T i q = W.tape i q) -> stepG P true (G fr cs) { W with tape := T } = .go (G fr1 cs1) W1 es -> Road P Stop fr1 cs1 W1) : Road P Stop fr cs W
def Nice (P : Program) (low : Low) (fr : Frame) (cs : List Frame) (W : World) : Prop := ∃ ρ fr' cs' W', SRel P ρ low fr cs fr' cs' /\ HRel ρ W W' /\ OkS P fr cs
theorem Nice.tape {P : Program} {low : Low} {fr : Frame} {cs : List Frame} {W : World} (h : Nice P low fr cs W) (T : Tape) : Nice P low fr cs { W with tape := T } := by
 obtain ⟨ρ, fr', cs', W', S, H, ok⟩ := h
 exact ⟨ρ, fr', cs', W', S, ⟨H.fine, H.many, H.objs, H.thaw⟩, ok⟩
theorem Nice.hangs {P : Program} (OK : ProgOk P) {low : Low} {fr : Frame} {cs : List Frame} {W : World} (h : Nice P low fr cs W) : Hangs W (stepG P true (G fr cs) W) (fun T => stepG P true (G fr cs) { W with tape := T }) := by
 obtain ⟨ρ, fr', cs', W', S, H, ok⟩ := h
 obtain ⟨lt, ld, hF⟩ := S.frel
 rcases hF.mode with ⟨hm, _⟩ | ⟨hm, _⟩
 ·exact run_hangs OK S hm H (headOk_of ok.1)
 ·exact ret_hangs S hm H
def Ends (P : Program) (Stop : Frame -> World -> Prop) (fr : Frame) (cs : List Frame) (W : World) : Prop :=
 ∀ T : Tape, (∀ i q, i < W.drawn -> T i q = W.tape i q) -> ∃ n frE wE, runN P n (lone fr cs { W with tape := T }) = .next (lone frE [sent P] wE) /\ Stop frE wE
structure LS where
 fr : Frame
 cs : List Frame
 W : World
def Lost (P : Program) (low : Low) (Stop : Frame -> World -> Prop) (s : LS) : Prop := ¬ Road P Stop s.fr s.cs s.W /\ Nice P low s.fr s.cs s.W /\ Ends P Stop s.fr s.cs s.W
theorem Nice.next {P : Program} (OK : ProgOk P) {low : Low} {fr : Frame} {cs : List Frame} {W : World} (h : Nice P low fr cs W) (pc : Bool) {frE : Frame} {wE : World} {n : Nat} (hpc : if pc then frE.mode = .run else (low.todo = [] /\ frE.mode = .returning))
  (hrun : runN P n (lone fr cs W) = .next (lone frE [sent P] wE)) :
  (n = 0 /\ fr = frE /\ cs = [sent P] /\ W = wE) \/ ∃ n' fr1 cs1 W1 es, n = n' + 1 /\ runN P n' (lone fr1 cs1 W1) = .next (lone frE [sent P] wE) /\ stepG P true (G fr cs) W = .go (G fr1 cs1) W1 es /\ Nice P low fr1 cs1 W1 := by
 obtain ⟨ρ, fr', cs', W', S, H, ok⟩ := h
 rcases fut_step OK pc S H ok hpc hrun with h | ⟨n', fr1, cs1, W1, es, h1, h2, h3, h4⟩
 ·exact .inl h
 ·right
  obtain ⟨σ, fr1', cs1', W1', es', _, k2, k3, _, _, _, k7⟩ := h4 true _ (H.fake (fun i q => W.tape (i - W'.drawn + W.drawn) q)) (like_fake W W1 W')
  exact ⟨n', fr1, cs1, W1, es, h1, h2, h3, σ, fr1', cs1', W1', k2, k3, k7 ok⟩
theorem lost_next {P : Program} (OK : ProgOk P) {low : Low} (pc : Bool) {Stop : Frame -> World -> Prop} (hpc : ∀ fr w, Stop fr w -> if pc then fr.mode = .run else (low.todo = [] /\ fr.mode = .returning)) {s : LS} (h : Lost P low Stop s) :
  ∃ s1 es, (∀ i q, i < s.W.drawn -> s1.W.tape i q = s.W.tape i q) /\ stepG P true (G s.fr s.cs) { s.W with tape := s1.W.tape } = .go (G s1.fr s1.cs) s1.W es /\ s.W.drawn <= s1.W.drawn /\ Lost P low Stop s1 := by
 obtain ⟨h1, h2, h3⟩ := h
 have hstep : ¬ ∀ T : Tape, (∀ i q, i < s.W.drawn -> T i q = s.W.tape i q) -> ∃ fr1 cs1 W1 es, stepG P true (G s.fr s.cs) { s.W with tape := T } = .go (G fr1 cs1) W1 es /\ Road P Stop fr1 cs1 W1 := fun x => h1 (.step (fun T hT => by obtain ⟨a, b, c, d, e, _⟩ := x T hT; exact ⟨a, b, c, d, e⟩) fun T fr1 cs1 W1 es hT e => by
  obtain ⟨a, b, c, d, e2, hr⟩ := x T hT
  rw [e] at e2
  injection e2 with g1 g2 _
  injection g1 with g3 g4
  subst g3 g4 g2
  exact hr)
 have hstop : ∀ T : Tape, s.cs = [sent P] -> ¬ Stop s.fr { s.W with tape := T } := by
  intro T hc hs
  apply h1
  rw [hc]
  exact .stop ⟨T, hs⟩
 apply Classical.byContradiction
 intro hno
 apply hstep
 intro T hT
 obtain ⟨n, frE, wE, e1, e2⟩ := h3 T hT
 rcases (h2.tape T).next OK pc (hpc _ _ e2) e1 with ⟨_, k2, k3, k4⟩ | ⟨n', fr1, cs1, W1, es, k1, k2, k3, k4⟩
 ·exact absurd (by rw [k2, k4]; exact e2) (hstop T k3)
 ·refine ⟨fr1, cs1, W1, es, k3, Classical.byContradiction fun hr => hno ⟨⟨fr1, cs1, W1⟩, es, ?_⟩⟩
  obtain ⟨y1, y2⟩ := (h2.tape T).hangs OK _ _ _ k3
  have hW1 : W1.tape = T := by
   have := y2 T fun i q _ _ => rfl
   have k3' : stepG P true (G s.fr s.cs) { s.W with tape := T } = .go (G fr1 cs1) W1 es := k3
   have this' : stepG P true (G s.fr s.cs) { s.W with tape := T } = .go (G fr1 cs1) { W1 with tape := T } es := this
   rw [k3'] at this'
   injection this' with _ h2 _
   rw [h2]
  dsimp only
  refine ⟨fun i q hi => by rw [hW1]; exact hT i q hi, by rw [hW1]; exact k3, y1, hr, k4, ?_⟩
  intro T2 hT2
  dsimp only at hT2 ⊢
  rw [hW1] at hT2
  have hT2' : ∀ i q, i < s.W.drawn -> T2 i q = s.W.tape i q := fun i q hi => by rw [hT2 i q (Nat.lt_of_lt_of_le hi y1)]; exact hT i q hi
  obtain ⟨n2, frE2, wE2, e3, e4⟩ := h3 T2 hT2'
  have k5 := y2 T2 fun i q _ hj => hT2 i q hj
  rcases (h2.tape T2).next OK pc (hpc _ _ e4) e3 with ⟨_, z2, z3, z4⟩ | ⟨n3, fr2, cs2, W2, es2, z1, z2, z3, z4⟩
  ·exact absurd (by rw [z2, z4]; exact e4) (hstop T2 z3)
  ·have k5' : stepG P true (G s.fr s.cs) { s.W with tape := T2 } = .go (G fr1 cs1) { W1 with tape := T2 } es := k5
   rw [k5'] at z3
   injection z3 with g1 g2 g3
   injection g1 with g4 g5
   subst g4 g5
   exact ⟨n3, frE2, wE2, by rw [g2]; exact z2, e4⟩
open Classical in
theorem road_of {P : Program} (OK : ProgOk P) {low : Low} (pc : Bool) {Stop : Frame -> World -> Prop} (hpc : ∀ fr w, Stop fr w -> if pc then fr.mode = .run else (low.todo = [] /\ fr.mode = .returning)) {fr : Frame} {cs : List Frame} {W : World}
  (h1 : Nice P low fr cs W) (h2 : Ends P Stop fr cs W) : Road P Stop fr cs W := by
 apply Classical.byContradiction
 intro h0
 let nx : { s : LS // Lost P low Stop s } -> { s : LS // Lost P low Stop s } := fun s => ⟨(lost_next OK pc hpc s.2).choose, (lost_next OK pc hpc s.2).choose_spec.choose_spec.2.2.2⟩
 let sq : Nat -> { s : LS // Lost P low Stop s } := fun k => Nat.rec ⟨⟨fr, cs, W⟩, h0, h1, h2⟩ (fun _ s => nx s) k
 have hs : ∀ k, ∃ es, (∀ i q, i < (sq k).1.W.drawn -> (sq (k + 1)).1.W.tape i q = (sq k).1.W.tape i q) /\ stepG P true (G (sq k).1.fr (sq k).1.cs) { (sq k).1.W with tape := (sq (k + 1)).1.W.tape } = .go (G (sq (k + 1)).1.fr (sq (k + 1)).1.cs) (sq (k + 1)).1.W es /\ (sq k).1.W.drawn <= (sq (k + 1)).1.W.drawn := by
  intro k
  obtain ⟨es, h⟩ := (lost_next OK pc hpc (sq k).2).choose_spec
  exact ⟨es, h.1, h.2.1, h.2.2.1⟩
 have mono : ∀ k l, (sq k).1.W.drawn <= (sq (k + l)).1.W.drawn /\ ∀ i q, i < (sq k).1.W.drawn -> (sq (k + l)).1.W.tape i q = (sq k).1.W.tape i q := by
  intro k l
  induction l with
  | zero => exact ⟨Nat.le_refl _, fun _ _ _ => rfl⟩
  | succ l ih =>
   obtain ⟨es, g1, g2, g3⟩ := hs (k + l)
   refine ⟨Nat.le_trans ih.1 g3, fun i q hi => ?_⟩
   have := g1 i q (Nat.lt_of_lt_of_le hi ih.1)
   rw [show k + (l + 1) = k + l + 1 from rfl, this]
   exact ih.2 i q hi
 let T : Tape := fun i q => if h : ∃ k, i < (sq k).1.W.drawn then (sq h.choose).1.W.tape i q else 0
 have hT : ∀ k i q, i < (sq k).1.W.drawn -> T i q = (sq k).1.W.tape i q := by
  intro k i q hi
  have hx : ∃ k, i < (sq k).1.W.drawn := ⟨k, hi⟩
  show (if h : ∃ k, i < (sq k).1.W.drawn then (sq h.choose).1.W.tape i q else 0) = _
  rw [dif_pos hx]
  have hc := hx.choose_spec
  rcases Nat.le_total hx.choose k with hle | hle
  ·obtain ⟨l, e⟩ := Nat.exists_eq_add_of_le hle
   have := (mono hx.choose l).2 i q hc
   rw [<- e] at this
   exact this.symm
  ·obtain ⟨l, e⟩ := Nat.exists_eq_add_of_le hle
   have := (mono k l).2 i q hi
   rw [<- e] at this
   exact this
 have hrun : ∀ k, step P (lone (sq k).1.fr (sq k).1.cs { (sq k).1.W with tape := T }) = .next (lone (sq (k + 1)).1.fr (sq (k + 1)).1.cs { (sq (k + 1)).1.W with tape := T }) := by
  intro k
  obtain ⟨es, g1, g2, g3⟩ := hs k
  obtain ⟨y1, y2⟩ := ((sq k).2.2.1.tape (sq (k + 1)).1.W.tape).hangs OK _ _ _ g2
  have := y2 T fun i q _ hj => hT (k + 1) i q hj
  exact stepG_next this
 have key : ∀ n k, runN P n (lone (sq k).1.fr (sq k).1.cs { (sq k).1.W with tape := T }) = .next (lone (sq (k + n)).1.fr (sq (k + n)).1.cs { (sq (k + n)).1.W with tape := T }) := by
  intro n
  induction n with
  | zero => intro k; rfl
  | succ n ih =>
   intro k
   rw [runN_next (hrun k), ih (k + 1), show k + 1 + n = k + (n + 1) by omega]
 obtain ⟨n, frE, wE, e1, e2⟩ := h2 T fun i q hi => hT 0 i q hi
 have e3 := key n 0
 rw [show runN P n (lone (sq 0).1.fr (sq 0).1.cs { (sq 0).1.W with tape := T }) = _ from e1] at e3
 have e4 := Stepped.next.inj e3
 obtain ⟨q1, q2, q3⟩ := lone_inj e4
 apply (sq (0 + n)).2.1
 rw [<- q2]
 exact .stop ⟨T, by rw [<- q1, <- q3]; exact e2⟩
end
section
open Go Go.Conc
abbrev BSet := Nat -> Prop
structure Rely (O S : BSet) (w w1 : World) : Prop where
 os : w1.os = w.os
 output : w1.output = w.output
 tape : w1.tape = w.tape
 size : w.heap.size <= w1.heap.size
 keep : ∀ b, (O b \/ S b) -> w1.heap[b]? = w.heap[b]?
theorem Rely.refl (O S : BSet) (w : World) : Rely O S w w := ⟨rfl, rfl, rfl, Nat.le_refl _, fun _ _ => rfl⟩
theorem Rely.trans {O S : BSet} {a b c : World} (h : Rely O S a b) (h2 : Rely O S b c) : Rely O S a c :=
 ⟨h2.os.trans h.os, h2.output.trans h.output, h2.tape.trans h.tape, Nat.le_trans h.size h2.size, fun x hx => (h2.keep x hx).trans (h.keep x hx)⟩
theorem Rely.at (O S : BSet) (w : World) (d : Nat) : Rely O S w (w.at d) := ⟨rfl, rfl, rfl, Nat.le_refl _, fun _ _ => rfl⟩
def grown (O : BSet) (w w' : World) : BSet := fun b => O b \/ (w.heap.size <= b /\ b < w'.heap.size)
def Fit (O S : BSet) (w w' : World) (e : Event) : Prop :=
 e = ⟨.mark .noRoom, false, true⟩ \/ (e.sync = false /\ ∃ b, ((∃ a : Addr, e.loc = .cell a /\ a.block = b) \/ e.loc = .obj b) /\ b < w'.heap.size /\ (grown O w w' b \/ (S b /\ e.write = false)))
structure Guar (O S : BSet) (w w' : World) (es : Array Event) : Prop where
 os : w'.os = w.os
 output : w'.output = w.output
 tape : w'.tape = w.tape
 size : w.heap.size <= w'.heap.size
 keep : ∀ b, b < w.heap.size -> ¬ O b -> w'.heap[b]? = w.heap[b]?
 evs : ∀ e ∈ es, Fit O S w w' e
def Closed (P : Program) (m : Bool) (S : BSet) (X : BSet -> Goroutine -> World -> Prop) : Prop :=
 ∀ O g w, g.status = .running -> (∀ w1, Rely O S w w1 -> ∃ g' w' es, stepG P m g w1 = .go g' w' es /\ Guar O S w1 w' es /\ X (grown O w1 w') g' w') -> X O g w
structure Path (ρ σ : BRel) (O S O1 : BSet) (W W1 w w1 : World) : Prop where
 os : w1.os = w.os
 output : w1.output = w.output
 tape : w1.tape = w.tape
 size : w.heap.size <= w1.heap.size
 lsize : W.heap.size <= W1.heap.size
 keep : ∀ b, b < w.heap.size -> (O b \/ S b) -> (∀ a, ρ a b -> Stiff W a) -> w1.heap[b]? = w.heap[b]?
 stiff : ∀ a, a < W.heap.size -> (Stiff W1 a ↔ Stiff W a)
 fresh : ∀ a b, σ a b -> ρ a b \/ (W.heap.size <= a /\ w.heap.size <= b)
 own : ∀ b, O b -> O1 b
 anew : ∀ b, O1 b -> O b \/ (w.heap.size <= b /\ b < w1.heap.size)
 sub : BLe ρ σ
theorem Path.refl (ρ : BRel) (O S : BSet) (W w : World) : Path ρ ρ O S O W W w w :=
 ⟨rfl, rfl, rfl, Nat.le_refl _, Nat.le_refl _, fun _ _ _ _ => rfl, fun _ _ => Iff.rfl, fun _ _ h => .inl h, fun _ h => h, fun _ h => .inl h, BLe.refl _⟩
def Img (ρ : BRel) (O S : BSet) (W : World) : Prop := ∀ a b, ρ a b -> (¬ Stiff W a -> O b) /\ (Stiff W a -> O b \/ S b)
theorem stiff_tape {W : World} {T : Tape} {b : Nat} : Stiff { W with tape := T } b ↔ Stiff W b := Iff.rfl
theorem HRel.lone {ρ : BRel} {W W' : World} (H : HRel ρ W W') (T : Tape) : HRel ρ { W with tape := T } W' := ⟨H.fine, H.many, H.objs, H.thaw⟩
theorem HRel.rely {ρ : BRel} {O S : BSet} {W w w1 : World} (H : HRel ρ W w) (I : Img ρ O S W) (R : Rely O S w w1) : HRel ρ W w1 where
  fine := H.fine
  many := ⟨H.many.1, Nat.le_trans H.many.2 R.size⟩
  objs := fun b b' h => by
    obtain ⟨o, o', h1, h2, h3⟩ := H.objs b b' h
    refine ⟨o, o', h1, ?_, h3⟩
    rw [R.keep b' (by by_cases hs : Stiff W b
                      · exact (I b b' h).2 hs
                      · exact .inl ((I b b' h).1 hs))]
    exact h2
  thaw := fun b b' off h hf => by
    have := H.thaw b b' off h hf
    unfold World.frozen? at this ⊢
    dsimp only at this ⊢
    rw [R.keep b' (by by_cases hs : Stiff W b
                      · exact (I b b' h).2 hs
                      · exact .inl ((I b b' h).1 hs))]
    exact this
theorem Path.step {ρ σ τ : BRel} {O S O1 : BSet} {W W1 WE w w1 w2 wE : World} {T : Tape} (H : HRel ρ W w1) (hl : BLe ρ σ) (R : Rely O S w w1) (t : Turn ρ σ { W with tape := T } W1 w1 w2)
  (p : Path σ τ (grown O w1 w2) S O1 W1 WE w2 wE) : Path ρ τ O S O1 W WE w wE where
 os := p.os.trans (t.os.trans R.os)
 output := p.output.trans (t.output.trans R.output)
 tape := p.tape.trans (t.tape.trans R.tape)
 size := Nat.le_trans R.size (Nat.le_trans t.size p.size)
 lsize := Nat.le_trans (show W.heap.size <= W1.heap.size from t.lsize) p.lsize
 keep := fun b hb hO hs => by
  have hb1 := Nat.lt_of_lt_of_le hb R.size
  have e1 := R.keep b hO
  have e2 := t.keep b hb1 fun a ha => stiff_tape.2 (hs a ha)
  have e3 := p.keep b (Nat.lt_of_lt_of_le hb1 t.size) (hO.imp .inl id) fun a ha => by
   rcases t.fresh a b ha with h | ⟨_, h⟩
   ·exact (t.stiff a (H.lt h).1).2 (stiff_tape.2 (hs a h))
   ·omega
  rw [e3, e2, e1]
 stiff := fun a ha => (p.stiff a (Nat.lt_of_lt_of_le ha t.lsize)).trans ((t.stiff a ha).trans stiff_tape)
 fresh := fun a b h => by
  rcases p.fresh a b h with h | ⟨h3, h4⟩
  ·rcases t.fresh a b h with h | ⟨h3, h4⟩
   ·exact .inl h
   ·exact .inr ⟨h3, Nat.le_trans R.size h4⟩
  ·exact .inr ⟨Nat.le_trans t.lsize h3, Nat.le_trans R.size (Nat.le_trans t.size h4)⟩
 own := fun b h => p.own b (.inl h)
 anew := fun b h => by
  have := R.size
  have := t.size
  have := p.size
  rcases p.anew b h with (h | h) | h
  ·exact .inl h
  ·exact .inr ⟨by omega, by omega⟩
  ·exact .inr ⟨by omega, by omega⟩
 sub := hl.trans p.sub
theorem ends_next {P : Program} (OK : ProgOk P) {low : Low} (pc : Bool) {Stop : Frame -> World -> Prop} (hpc : ∀ fr w, Stop fr w -> if pc then fr.mode = .run else (low.todo = [] /\ fr.mode = .returning)) {fr fr1 : Frame} {cs cs1 : List Frame} {W W1 : World} {es : Array Event} {T : Tape}
  (h2 : Nice P low fr cs W) (h3 : Ends P Stop fr cs W) (hT : ∀ i q, i < W.drawn -> T i q = W.tape i q) (k3 : stepG P true (G fr cs) { W with tape := T } = .go (G fr1 cs1) W1 es)
  (hstop : ∀ T : Tape, cs = [sent P] -> ¬ Stop fr { W with tape := T }) : Ends P Stop fr1 cs1 W1 := by
 obtain ⟨y1, y2⟩ := (h2.tape T).hangs OK _ _ _ k3
 have hW1 : W1.tape = T := by
  have := y2 T fun i q _ _ => rfl
  have this' : stepG P true (G fr cs) { W with tape := T } = .go (G fr1 cs1) { W1 with tape := T } es := this
  rw [k3] at this'
  injection this' with _ h2 _
  rw [h2]
 intro T2 hT2
 rw [hW1] at hT2
 have hT2' : ∀ i q, i < W.drawn -> T2 i q = W.tape i q := fun i q hi => by rw [hT2 i q (Nat.lt_of_lt_of_le hi y1)]; exact hT i q hi
 obtain ⟨n2, frE2, wE2, e3, e4⟩ := h3 T2 hT2'
 have k5 := y2 T2 fun i q _ hj => hT2 i q hj
 rcases (h2.tape T2).next OK pc (hpc _ _ e4) e3 with ⟨_, z2, z3, z4⟩ | ⟨n3, fr2, cs2, W2, es2, z1, z2, z3, z4⟩
 ·exact absurd (by rw [z2, z4]; exact e4) (hstop T2 z3)
 ·have k5' : stepG P true (G fr cs) { W with tape := T2 } = .go (G fr1 cs1) { W1 with tape := T2 } es := k5
  rw [k5'] at z3
  injection z3 with g1 g2 g3
  injection g1 with g4 g5
  subst g4 g5
  exact ⟨n3, frE2, wE2, by rw [g2]; exact z2, e4⟩
theorem follow {P : Program} (OK : ProgOk P) {low : Low} (pc m : Bool) {S : BSet} {X : BSet -> Goroutine -> World -> Prop} (hX : Closed P m S X) {Stop : Frame -> World -> Prop} (hpc : ∀ fr w, Stop fr w -> if pc then fr.mode = .run else (low.todo = [] /\ fr.mode = .returning))
  {fr : Frame} {cs : List Frame} {W : World} (hr : Road P Stop fr cs W) : ∀ {ρ : BRel} {fr' : Frame} {cs' : List Frame} {w : World} {O : BSet}, Ends P Stop fr cs W -> SRel P ρ low fr cs fr' cs' -> HRel ρ W w -> OkS P fr cs -> Img ρ O S W ->
   (∀ (σ : BRel) (O1 : BSet) (frE frE' : Frame) (csE' : List Frame) (WE wE : World), Path ρ σ O S O1 W WE w wE -> SRel P σ low frE [sent P] frE' csE' -> HRel σ WE wE -> Img σ O1 S WE -> (∃ T, Stop frE { WE with tape := T }) -> X O1 (G frE' csE') wE) ->
   X O (G fr' cs') w := by
 induction hr with
 | stop h =>
  intro ρ fr' cs' w O _ hS H _ I cont
  exact cont ρ O _ _ _ _ _ (Path.refl ρ O S _ _) hS H I h
 | @step fr cs W ho h ih =>
  intro ρ fr' cs' w O hE hS H ok I cont
  by_cases hstop : cs = [sent P] /\ ∃ T : Tape, Stop fr { W with tape := T }
  ·obtain ⟨rfl, h5⟩ := hstop
   exact cont ρ O _ _ _ _ _ (Path.refl ρ O S _ _) hS H I h5
  refine hX O _ w rfl fun w1 R => ?_
  have H1 := H.rely I R
  obtain ⟨T, hTd⟩ : ∃ T : Tape, T = fun i q => if i < W.drawn then W.tape i q else w1.tape (i - W.drawn + w1.drawn) q := ⟨_, rfl⟩
  have hT : ∀ i q, i < W.drawn -> T i q = W.tape i q := by
   intro i q hi
   rw [hTd]
   exact if_pos hi
  obtain ⟨n, frE, wE, e1, e2⟩ := hE T hT
  rcases fut_step OK pc hS (H1.lone T) ok (hpc _ _ e2) e1 with ⟨_, k2, k3, k4⟩ | ⟨n', fr1, cs1, W1, es, k1, k2, k3, k4⟩
  ·exact absurd ⟨k3, T, by rw [k2, k4]; exact e2⟩ hstop
  obtain ⟨σ, fr1', cs1', w2, es', g1, g2, g3, g4, g5, g6, g7⟩ := k4 m w1 (H1.lone T) (by
   intro i q _
   show T (W.drawn + i) q = _
   rw [hTd]
   dsimp only
   rw [if_neg (by omega)]
   congr 1
   omega)
  have I2 : Img σ (grown O w1 w2) S W1 := by
   intro a b hab
   rcases g5.fresh a b hab with hab1 | ⟨_, hb⟩
   ·have hst := (g5.stiff a (H1.lt hab1).1).trans stiff_tape
    have := I a b hab1
    exact ⟨fun hn => .inl (this.1 fun x => hn (hst.2 x)), fun hy => (this.2 (hst.1 hy)).imp .inl id⟩
   ·have : grown O w1 w2 b := .inr ⟨hb, (g3.lt hab).2⟩
    exact ⟨fun _ => this, fun _ => .inl this⟩
  refine ⟨_, _, _, g4, ⟨g5.os, g5.output, g5.tape, g5.size, fun b hb hO => ?_, fun e he => ?_⟩, ?_⟩
  ·refine g5.keep b hb fun a ha => ?_
   refine Classical.byContradiction fun hn => ?_
   exact hO ((I a b ha).1 fun x => hn (stiff_tape.2 x))
  ·rcases g6 e he with h | ⟨h1, a, b, hab, hloc, hw⟩
   ·exact .inl h
   ·refine .inr ⟨h1, b, hloc, (g3.lt hab).2, ?_⟩
    by_cases hs : Stiff W1 a
    ·rcases (I2 a b hab).2 hs with h | h
     ·exact .inl h
     ·refine .inr ⟨h, ?_⟩
      cases hwr : e.write with
      | false => rfl
      | true => exact absurd hs (hw hwr)
    ·exact .inl ((I2 a b hab).1 hs)
  ·refine ih T fr1 cs1 W1 es hT k3 ?_ g2 g3 (g7 ok) I2 fun τ O1 frE frE' csE' WE wE p q1 q2 q3 q4 => cont τ O1 frE frE' csE' WE wE (Path.step H1 g1 R g5 p) q1 q2 q3 q4
   exact ends_next OK pc hpc ⟨ρ, fr', cs', w, hS, H, ok⟩ hE hT k3 fun T hc hs => hstop ⟨hc, T, hs⟩
end
section
open Go Go.Conc
def InOwn (O S : BSet) (x : Touch) : Prop := x.kind = .plain /\ ∃ b, ((∃ a : Addr, x.loc = .cell a /\ a.block = b) \/ x.loc = .obj b) /\ (O b \/ (S b /\ x.write = false))
theorem InOwn.mono {O O' S : BSet} {x : Touch} (h : InOwn O S x) (hl : ∀ b, O b -> O' b) : InOwn O' S x := by
 obtain ⟨h1, b, h2, h3⟩ := h
 exact ⟨h1, b, h2, h3.imp (hl b) id⟩
structure Geo (Ox Oy S : BSet) (c : Nat) : Prop where
 xy : ∀ b, Ox b -> Oy b -> False
 xs : ∀ b, Ox b -> S b -> False
 ys : ∀ b, Oy b -> S b -> False
 cx : ¬ Ox c
 cy : ¬ Oy c
 cs : ¬ S c
theorem Geo.symm {Ox Oy S : BSet} {c : Nat} (h : Geo Ox Oy S c) : Geo Oy Ox S c := ⟨fun b h1 h2 => h.xy b h2 h1, h.ys, h.xs, h.cy, h.cx, h.cs⟩
theorem loc_block {l : Loc} {b b' : Nat} (h : (∃ a : Addr, l = .cell a /\ a.block = b) \/ l = .obj b) (h' : (∃ a : Addr, l = .cell a /\ a.block = b') \/ l = .obj b') : b = b' := by
 rcases h with ⟨a, rfl, rfl⟩ | rfl <;> rcases h' with ⟨a', e, rfl⟩ | e <;> cases e <;> rfl
theorem Geo.still {Ox Oy S : BSet} {c : Nat} (G : Geo Ox Oy S c) {x y : Touch} (hx : InOwn Ox S x) (hy : InOwn Oy S y \/ (y.loc = .obj c /\ y.kind = .atomic)) (said : Bool) : ¬ y.conflicts said x := by
 rintro ⟨h1, _, h3, _⟩
 obtain ⟨_, b, hb, hx⟩ := hx
 rcases hy with ⟨_, b', hb', hy⟩ | ⟨hy, _⟩
 ·rw [h1] at hb'
  obtain rfl := loc_block hb hb'
  rcases hx with hx | ⟨hx, hxw⟩ <;> rcases hy with hy | ⟨hy, hyw⟩
  ·exact G.xy b hx hy
  ·exact G.xs b hx hy
  ·exact G.ys b hy hx
  ·rw [hxw, hyw] at h3
   simp at h3
 ·rw [<- h1, hy] at hb
  have : b = c := by
   rcases hb with ⟨a, e, _⟩ | e
   ·cases e
   ·cases e; rfl
  subst this
  rcases hx with hx | ⟨hx, _⟩
  ·exact G.cx hx
  ·exact G.cs hx
structure TX (x y : Nat) (Oy S : BSet) (c : Nat) (t : Trace) : Prop where
 clean : ∀ said, ¬ Race said t
 k : ∀ i op v, t[i]? = some op -> op.act.touch? = some v -> v.loc.isMemory = true -> Knows t x i \/ (op.g = y /\ (InOwn Oy S v \/ (v.loc = .obj c /\ v.kind = .atomic)))
 d : Deaf t x = 0
theorem TX.own {x y : Nat} {Ox Oy S : BSet} {c : Nat} {t u : Trace} (h : TX x y Oy S c t) (G : Geo Ox Oy S c) (hu : ∀ op ∈ u, op.g = x) (ho : ∀ op ∈ u, ∀ v, op.act.touch? = some v -> v.loc.isMemory = true -> InOwn Ox S v \/ (v.loc = .obj c /\ v.kind = .atomic))
  (hd : Deaf (t ++ u) x = 0) : TX x y Oy S c (t ++ u) where
 clean := fun said => noRace_append (h.clean said) hu fun i a ha op hop b hb hcf => by
  obtain ⟨opi, hi, hai⟩ := touch_of ha
  have hm : b.loc.isMemory = true := hcf.1 ▸ hcf.2.1
  rcases h.k i opi a hi hai hcf.2.1 with hk | ⟨_, hk⟩
  ·exact hk
  rcases ho op hop b hb hm with hb2 | ⟨hb2, hb3⟩
  ·exact absurd hcf (G.still hb2 hk said)
  ·rcases hk with ⟨_, b', hb', hy⟩ | ⟨_, hk⟩
   ·have : b' = c := by
     rw [hcf.1, hb2] at hb'
     rcases hb' with ⟨_, e, _⟩ | e
     ·cases e
     ·cases e; rfl
    subst this
    rcases hy with hy | ⟨hy, _⟩
    ·exact absurd hy G.cy
    ·exact absurd hy G.cs
   ·have := hcf.2.2.2
    rw [hk, hb3] at this
    simp at this
 k := fun i op v hi hv hm => by
  rcases getElem?_append_cases hi with ⟨_, hi'⟩ | ⟨_, hiu⟩
  ·exact (h.k i op v hi' hv hm).imp (·.app u) id
  ·have := knows_own hi
   rw [hu op hiu] at this
   exact .inl this
 d := hd
theorem TX.other {x y : Nat} {Oy Oy' S : BSet} {c : Nat} {t u : Trace} (h : TX x y Oy S c t) (hl : ∀ b, Oy b -> Oy' b) (hu : ∀ op ∈ u, op.g = y) (hne : y ≠ x) (ho : ∀ op ∈ u, ∀ v, op.act.touch? = some v -> v.loc.isMemory = true -> InOwn Oy' S v \/ (v.loc = .obj c /\ v.kind = .atomic))
  (hcl : ∀ said, ¬ Race said (t ++ u)) : TX x y Oy' S c (t ++ u) where
 clean := hcl
 k := fun i op v hi hv hm => by
  rcases getElem?_append_cases hi with ⟨_, hi'⟩ | ⟨_, hiu⟩
  ·rcases h.k i op v hi' hv hm with h1 | ⟨h1, h2⟩
   ·exact .inl (h1.app u)
   ·exact .inr ⟨h1, h2.imp (·.mono hl) id⟩
  ·exact .inr ⟨hu op hiu, ho op hiu v hv hm⟩
 d := (Deaf_other t hne u hu).trans h.d
theorem race_still {said : Bool} {t u : Trace} (h : ¬ Race said t) (hu : ∀ op ∈ u, op.act.touch? = none) : ¬ Race said (t ++ u) := by
 rintro ⟨i, j, hij, ⟨a, b, ha, hb, hc⟩, n1, n2⟩
 obtain ⟨x, hx, hxa⟩ := touch_of ha
 obtain ⟨y, hy, hyb⟩ := touch_of hb
 rcases getElem?_append_cases hy with ⟨_, hy'⟩ | ⟨_, hyu⟩
 ·rcases getElem?_append_cases hx with ⟨_, hx'⟩ | ⟨_, hxu⟩
  ·exact h ⟨i, j, hij, ⟨a, b, by simp [Trace.act?, hx', hxa], by simp [Trace.act?, hy', hyb], hc⟩, fun e => n1 (hb_app u e), fun e => n2 (hb_app u e)⟩
  ·rw [hu x hxu] at hxa; cases hxa
 ·rw [hu y hyu] at hyb; cases hyb
theorem TX.still {x y : Nat} {Oy S : BSet} {c : Nat} {t u : Trace} (h : TX x y Oy S c t) (hu : ∀ op ∈ u, op.act.touch? = none) (hd : Deaf (t ++ u) x = Deaf t x) : TX x y Oy S c (t ++ u) where
 clean := fun said => race_still (h.clean said) hu
 k := fun i op v hi hv hm => by
  rcases getElem?_append_cases hi with ⟨_, hi'⟩ | ⟨_, hiu⟩
  ·exact (h.k i op v hi' hv hm).imp (·.app u) id
  ·rw [hu op hiu] at hv; cases hv
 d := hd.trans h.d
structure ShutAt (t : Trace) (y c pc : Nat) : Prop where
 act : t.act? pc = some (.close c)
 heard : t.heard pc
 all : ∀ i op v, t[i]? = some op -> op.g = y -> op.act.touch? = some v -> Before t i pc
theorem ShutAt.app {t u : Trace} {y c pc : Nat} (h : ShutAt t y c pc) (hu : ∀ op ∈ u, op.g = y -> op.act.touch? = none) : ShutAt (t ++ u) y c pc := by
 have hp := lt_of_act? h.act
 refine ⟨by rw [act?_old hp]; exact h.act, ?_, fun i op v hi hg hv => ?_⟩
 ·obtain ⟨g, h1, h2⟩ := h.heard
  exact ⟨g, by unfold Trace.g? at h1 ⊢; rw [getElem?_append_old hp]; exact h1, by rw [deaf_old (Nat.le_of_lt hp)]; exact h2⟩
 ·rcases getElem?_append_cases hi with ⟨_, hi'⟩ | ⟨_, hiu⟩
  ·exact (h.all i op v hi' hg hv).app u
  ·rw [hu op hiu hg] at hv; cases hv
theorem TX.closed {x y : Nat} {Oy S : BSet} {c : Nat} {t : Trace} {pc : Nat} (h : TX x y Oy S c t) (hs : ShutAt t y c pc) {op : MemOp} (hg : op.g = x) (ha : op.act = .recvClosed c) :
  ∀ i a, touchAt (t ++ #[op]) i = some a -> a.loc.isMemory = true -> Knows (t ++ #[op]) x i := by
 intro i a hia hm
 obtain ⟨opi, hi, hai⟩ := touch_of hia
 rcases getElem?_append_cases hi with ⟨_, hi'⟩ | ⟨_, hiu⟩
 ·rcases h.k i opi a hi' hai hm with h1 | ⟨h1, _⟩
  ·exact h1.app _
  ·have hb := hs.all i opi a hi' h1 hai
   have hp := lt_of_act? hs.act
   have hlast : (t ++ #[op])[t.size]? = some op := by rw [Array.getElem?_append_right (Nat.le_refl _)]; simp
   refine ⟨t.size, op, hlast, hg, .inr (Before.hb (hb.app _) (.single (.inr ⟨.closed (c := c) (by rw [act?_old hp]; exact hs.act) (by rw [act?_of hlast, ha]), ?_, ?_⟩)))⟩
   ·obtain ⟨g, h1, h2⟩ := hs.heard
    exact ⟨g, by unfold Trace.g? at h1 ⊢; rw [getElem?_append_old hp]; exact h1, by rw [deaf_old (Nat.le_of_lt hp)]; exact h2⟩
   ·refine ⟨x, by simp [Trace.g?, hg], ?_⟩
    rw [deaf_old (Nat.le_refl _)]
    exact h.d
 ·have : opi = op := by simpa using hiu
  subst this
  rw [ha] at hai
  cases hai
end
section
open Go Go.Conc
open Go.ConcN (sumTo upd sumTo_upd upd_ne upd_same)
def Concl (P : Program) (Post : Value -> World -> Prop) (gs : Array Goroutine) (w : World) (sl : Option (Nat × Nat)) (t : Trace) : Prop :=
 ∃ N last o w' t', runNT P (N + 1) (crowd gs w sl) t = (.ended o w', t') /\ runN P N (crowd gs w sl) = .next last /\ step P last = .ended o w' /\ Good P Post last o w' t'
theorem Concl.step {P : Program} {Post : Value -> World -> Prop} {gs gs' : Array Goroutine} {w w' : World} {sl sl' : Option (Nat × Nat)} {t : Trace} {ops : Array MemOp} (hs : stepT P (crowd gs w sl) = (.next (crowd gs' w' sl'), ops)) (h : Concl P Post gs' w' sl' (t ++ ops)) : Concl P Post gs w sl t := by
 obtain ⟨N, last, o, w2, t2, h1, h2, h3, h4⟩ := h
 exact ⟨N + 1, last, o, w2, t2, by rw [runNT_succ_next hs]; exact h1, by rw [runN_succ_next hs]; exact h2, h3, h4⟩
theorem fit_act {O S : BSet} {w w' : World} {e : Event} (h : Fit O S w w' e) : (∀ x, (MemAct.ofEvent e).touch? = some x -> InOwn (grown O w w') S x) /\ (MemAct.ofEvent e).low w'.heap.size /\ e.loc ≠ .mark .disable /\ e.loc ≠ .mark .enable := by
 obtain ⟨loc, wr, sy⟩ := e
 rcases h with h | ⟨hs, b, hl, hb, ho⟩
 ·cases h
  exact ⟨fun x hx => (by cases hx), trivial, fun h => (by cases h), fun h => (by cases h)⟩
 ·dsimp only at hs hl ho
  subst hs
  rcases hl with ⟨a, rfl, rfl⟩ | rfl
  ·refine ⟨fun x hx => ?_, hb, fun h => (by cases h), fun h => (by cases h)⟩
   cases hx
   exact ⟨rfl, _, .inl ⟨a, rfl, rfl⟩, ho⟩
  ·have ea : MemAct.ofEvent ⟨.obj b, wr, false⟩ = .access ⟨.obj b, wr, false⟩ := by cases wr <;> rfl
   rw [ea]
   refine ⟨fun x hx => ?_, hb, fun h => (by cases h), fun h => (by cases h)⟩
   cases hx
   exact ⟨rfl, _, .inr rfl, ho⟩
section
variable {O S : BSet} {w w' : World} {es : Array Event} {x : Nat} {fn : FuncId} {pos : String}
theorem fit_ops (h : ∀ e ∈ es, Fit O S w w' e) : (∀ op ∈ MemOp.ofEvents x fn pos es, op.g = x) /\ (∀ op ∈ MemOp.ofEvents x fn pos es, ∀ v, op.act.touch? = some v -> InOwn (grown O w w') S v) /\ ∀ op ∈ MemOp.ofEvents x fn pos es, op.act.low w'.heap.size := by
 refine ⟨fun op hop => ?_, fun op hop v hv => ?_, fun op hop => ?_⟩ <;> obtain ⟨e, he, rfl⟩ := Go.Conc.mem_ofEvents hop
 ·rfl
 ·exact (fit_act (h e he)).1 v hv
 ·exact (fit_act (h e he)).2.1
theorem fit_deaf (h : ∀ e ∈ es, Fit O S w w' e) (t : Trace) : Deaf (t ++ MemOp.ofEvents x fn pos es) x = Deaf t x := by
 rw [Deaf_own]
 exact deafBehind_still (fun e he => (fit_act (h e he)).2.2) _
end
structure Sit (P : Program) (S : BSet) (c wk : Nat) (O0 O1 : BSet) (gs : Array Goroutine) (w : World) (t : Trace) (q : Nat -> Nat) : Prop where
 pos : 0 < wk
 lv : ∀ k g, 0 < k -> k ≠ wk -> gs[k]? = some g -> QuitsD P (q k) (Deaf t k) g
 above : ∀ k, gs.size <= k -> Deaf t k = 0
 geo : Geo O0 O1 S c
 lo0 : ∀ b, O0 b -> b < w.heap.size
 lo1 : ∀ b, O1 b -> b < w.heap.size
 los : ∀ b, S b -> b < w.heap.size
 loc : c < w.heap.size
 t0 : TX 0 wk O1 S c t
 t1 : TX wk 0 O0 S c t
 seen : ∀ op ∈ t, op.act.low w.heap.size
theorem Geo.grow {Ox Oy S : BSet} {c : Nat} {w w' : World} (G : Geo Ox Oy S c) (hy : ∀ b, Oy b -> b < w.heap.size) (hs : ∀ b, S b -> b < w.heap.size) (hc : c < w.heap.size) : Geo (grown Ox w w') Oy S c where
 xy := fun b h1 h2 => by
  rcases h1 with h1 | ⟨h1, _⟩
  ·exact G.xy b h1 h2
  ·have := hy b h2; omega
 xs := fun b h1 h2 => by
  rcases h1 with h1 | ⟨h1, _⟩
  ·exact G.xs b h1 h2
  ·have := hs b h2; omega
 ys := G.ys
 cx := fun h => by
  rcases h with h | ⟨h, _⟩
  ·exact G.cx h
  ·omega
 cy := G.cy
 cs := G.cs
theorem Guar.rely {Ox Oy S : BSet} {c : Nat} {w0 w w' : World} {es : Array Event} (G : Guar Ox S w w' es) (g : Geo Ox Oy S c) (hy : ∀ b, Oy b -> b < w.heap.size) (hs : ∀ b, S b -> b < w.heap.size) (R : Rely Oy S w0 w) : Rely Oy S w0 w' :=
 R.trans ⟨G.os, G.output, G.tape, G.size, fun b hb => by
  rcases hb with hb | hb
  ·exact G.keep b (hy b hb) fun h => g.xy b h hb
  ·exact G.keep b (hs b hb) fun h => g.xs b h hb⟩
theorem lv_keep {P : Program} {wk x : Nat} {gs : Array Goroutine} {w' : World} {t u : Trace} {q : Nat -> Nat} {g g' : Goroutine} (hx : x = 0 \/ x = wk) (hu : ∀ op ∈ u, op.g = x) (lv : ∀ k g, 0 < k -> k ≠ wk -> gs[k]? = some g -> QuitsD P (q k) (Deaf t k) g) :
  ∀ k y, 0 < k -> k ≠ wk -> ((gs.map (woken P g g' w')).setIfInBounds x g')[k]? = some y -> QuitsD P (q k) (Deaf (t ++ u) k) y := by
 intro k y h1 h2 h3
 have hne : x ≠ k := by rcases hx with rfl | rfl <;> omega
 rw [Array.getElem?_setIfInBounds_ne hne, Array.getElem?_map] at h3
 obtain ⟨z, hz, rfl⟩ := Option.map_eq_some_iff.1 h3
 have hq := lv k z h1 h2 hz
 rw [woken_quitsD hq, Deaf_other t hne u hu]
 exact hq
section
variable {P : Program} {S : BSet} {c wk : Nat} {O0 O1 : BSet} {gs : Array Goroutine} {w w' : World} {t : Trace} {q : Nat -> Nat} {a2 g' : Goroutine} {es : Array Event} {fn : FuncId} {pos : String}
theorem Sit.go0 (h : Sit P S c wk O0 O1 gs w t q) (G : Guar O0 S w w' es) (h0 : 0 < gs.size) :
  Sit P S c wk (grown O0 w w') O1 ((gs.map (woken P a2 g' w')).setIfInBounds 0 g') w' (t ++ MemOp.ofEvents 0 fn pos es) q := by
 obtain ⟨f1, f2, f3⟩ := fit_ops (x := 0) (fn := fn) (pos := pos) G.evs
 have hg := h.geo.grow (w' := w') h.lo1 h.los h.loc
 have hx : TX 0 wk O1 S c (t ++ MemOp.ofEvents 0 fn pos es) := h.t0.own hg f1 (fun op hop v hv _ => .inl (f2 op hop v hv)) ((fit_deaf G.evs t).trans h.t0.d)
 have hne : (0 : Nat) ≠ wk := by have := h.pos; omega
 exact ⟨h.pos, lv_keep (.inl rfl) f1 h.lv, fun k hk => by
   have hk' : gs.size <= k := by simpa using hk
   rw [Deaf_other t (by omega) _ f1]; exact h.above k hk', hg,
  fun b hb => hb.elim (fun x => Nat.lt_of_lt_of_le (h.lo0 b x) G.size) (fun x => x.2), fun b hb => Nat.lt_of_lt_of_le (h.lo1 b hb) G.size, fun b hb => Nat.lt_of_lt_of_le (h.los b hb) G.size, Nat.lt_of_lt_of_le h.loc G.size,
  hx, h.t1.other (fun _ x => .inl x) f1 hne (fun op hop v hv _ => .inl (f2 op hop v hv)) hx.clean,
  seen_app (fun op hop => MemAct.low_mono G.size (h.seen op hop)) f3⟩
theorem Sit.go1 (h : Sit P S c wk O0 O1 gs w t q) (G : Guar O1 S w w' es) (h0 : wk < gs.size) :
  Sit P S c wk O0 (grown O1 w w') ((gs.map (woken P a2 g' w')).setIfInBounds wk g') w' (t ++ MemOp.ofEvents wk fn pos es) q := by
 obtain ⟨f1, f2, f3⟩ := fit_ops (x := wk) (fn := fn) (pos := pos) G.evs
 have hg := h.geo.symm.grow (w' := w') h.lo0 h.los h.loc
 have hx : TX wk 0 O0 S c (t ++ MemOp.ofEvents wk fn pos es) := h.t1.own hg f1 (fun op hop v hv _ => .inl (f2 op hop v hv)) ((fit_deaf G.evs t).trans h.t1.d)
 have hne : wk ≠ 0 := by have := h.pos; omega
 exact ⟨h.pos, lv_keep (.inr rfl) f1 h.lv, fun k hk => by
   have hk' : gs.size <= k := by simpa using hk
   rw [Deaf_other t (by omega) _ f1]; exact h.above k hk', hg.symm,
  fun b hb => Nat.lt_of_lt_of_le (h.lo0 b hb) G.size, fun b hb => hb.elim (fun x => Nat.lt_of_lt_of_le (h.lo1 b x) G.size) (fun x => x.2), fun b hb => Nat.lt_of_lt_of_le (h.los b hb) G.size, Nat.lt_of_lt_of_le h.loc G.size,
  h.t0.other (fun _ x => .inl x) f1 hne (fun op hop v hv _ => .inl (f2 op hop v hv)) hx.clean, hx,
  seen_app (fun op hop => MemAct.low_mono G.size (h.seen op hop)) f3⟩
theorem Sit.at (h : Sit P S c wk O0 O1 gs w t q) (d : Nat) : Sit P S c wk O0 O1 gs (w.at d) t q := ⟨h.pos, h.lv, h.above, h.geo, h.lo0, h.lo1, h.los, h.loc, h.t0, h.t1, h.seen⟩
theorem Sit.still {gs' : Array Goroutine} {u : Trace} (h : Sit P S c wk O0 O1 gs w t q) (hgs : ∀ k, 0 < k -> k ≠ wk -> gs'[k]? = gs[k]?) (hsz : gs'.size = gs.size) (hw : w'.heap.size = w.heap.size)
  (hu : ∀ op ∈ u, op.act.touch? = none /\ (op.act ≠ .mark .disable /\ op.act ≠ .mark .enable) /\ op.act.low w.heap.size) : Sit P S c wk O0 O1 gs' w' (t ++ u) q := by
 have hd : ∀ k, Deaf (t ++ u) k = Deaf t k := fun k => Go.ConcN.Deaf_still t k u fun op hop => (hu op hop).2.1
 exact ⟨h.pos, fun k g h1 h2 h3 => by rw [hd]; exact h.lv k g h1 h2 (by rw [<- hgs k h1 h2]; exact h3), fun k hk => by rw [hd]; exact h.above k (by rw [<- hsz]; exact hk), h.geo, by rw [hw]; exact h.lo0, by rw [hw]; exact h.lo1, by rw [hw]; exact h.los, by rw [hw]; exact h.loc,
  h.t0.still (fun op hop => (hu op hop).1) (hd 0), h.t1.still (fun op hop => (hu op hop).1) (hd wk), by rw [hw]; exact seen_app h.seen fun op hop => (hu op hop).2.2⟩
end
theorem leaver_step {P : Program} {gs : Array Goroutine} {w : World} {sl : Option (Nat × Nat)} {t : Trace} {q : Nat -> Nat} {k : Nat} {g : Goroutine} (hk : 0 < k) (hi : gs[k]? = some g) (hq : QuitsD P (q k) (Deaf t k) g) (hr : g.status = .running) :
  ∃ g' es m, runT P (crowd gs w sl) k = (.next (crowd ((gs.map (woken P g g' w)).setIfInBounds k g') w sl), MemOp.ofEvents k g.frame.fn g.frame.place es) /\ (∀ e ∈ es, e.mute = true) /\ q k = m + 1 /\
   QuitsD P m (Deaf (t ++ MemOp.ofEvents k g.frame.fn g.frame.place es) k) g' := by
 cases hqi : q k with
 | zero => rw [hqi] at hq; rw [hq.1] at hr; cases hr
 | succ m =>
  rw [hqi] at hq
  rcases hq with ⟨hf, _⟩ | ⟨_, g', es, hm, hstp, hq'⟩
  ·rw [hf] at hr; cases hr
  have hi0 : (k == 0) = false := by simp; omega
  exact ⟨g', es, m, runT_crowd_go hi (by rw [hi0]; exact hstp w), hm, rfl, by rw [Deaf_own]; exact hq'⟩
theorem mute_ops {x : Nat} {fn : FuncId} {pos : String} {es : Array Event} (h : ∀ e ∈ es, e.mute = true) (B : Nat) : ∀ op ∈ MemOp.ofEvents x fn pos es, op.g = x /\ op.act.touch? = none /\ op.act.low B := by
 intro op hop
 obtain ⟨e, he, rfl⟩ := Go.Conc.mem_ofEvents hop
 exact ⟨rfl, touch_mute (h e he), low_mute (h e he) B⟩
section
variable {P : Program} {S : BSet} {c wk : Nat} {O0 O1 : BSet} {gs : Array Goroutine} {w : World} {t : Trace} {q : Nat -> Nat} {g g' : Goroutine} {es : Array Event} {fn : FuncId} {pos : String}
theorem Sit.leave (h : Sit P S c wk O0 O1 gs w t q) {k m : Nat} (hk : 0 < k) (hkw : k ≠ wk) (hlt : k < gs.size) (hm : ∀ e ∈ es, e.mute = true) (hq' : QuitsD P m (Deaf (t ++ MemOp.ofEvents k fn pos es) k) g') :
  Sit P S c wk O0 O1 ((gs.map (woken P g g' w)).setIfInBounds k g') w (t ++ MemOp.ofEvents k fn pos es) (upd q k m) := by
 have hu := mute_ops (x := k) (fn := fn) (pos := pos) hm w.heap.size
 have hd : ∀ j, j ≠ k -> Deaf (t ++ MemOp.ofEvents k fn pos es) j = Deaf t j := fun j hj => Deaf_other t (Ne.symm hj) _ fun op hop => (hu op hop).1
 refine ⟨h.pos, fun j y h1 h2 h3 => ?_, fun j hj => ?_, h.geo, h.lo0, h.lo1, h.los, h.loc, h.t0.still (fun op hop => (hu op hop).2.1) (hd 0 (by omega)), h.t1.still (fun op hop => (hu op hop).2.1) (hd wk (Ne.symm hkw)), seen_app h.seen fun op hop => (hu op hop).2.2⟩
 ·by_cases hjk : k = j
  ·subst hjk
   rw [Array.getElem?_setIfInBounds_self_of_lt (by simpa using hlt)] at h3
   obtain rfl := Option.some.inj h3
   rw [upd_same]
   exact hq'
  ·rw [Array.getElem?_setIfInBounds_ne hjk, Array.getElem?_map] at h3
   obtain ⟨z, hz, rfl⟩ := Option.map_eq_some_iff.1 h3
   have hqj := h.lv j z h1 h2 hz
   rw [woken_quitsD hqj, upd_ne q m (Ne.symm hjk), hd j (Ne.symm hjk)]
   exact hqj
 ·have hj' : gs.size <= j := by simpa using hj
  rw [hd j (by omega)]
  exact h.above j hj'
end
end
section
open Go Go.Conc
open Go.ConcN (sumTo upd sumTo_upd upd_ne upd_same)
inductive PlanM (P : Program) (S : BSet) (c n : Nat) (z : Value) (vals : Nat -> Value) (K : BSet -> Goroutine -> World -> Prop) : Nat -> BSet -> Goroutine -> World -> Prop
 | go {i : Nat} {O : BSet} {g : Goroutine} {w : World} (hr : g.status = .running) (ho : ∀ w1, Rely O S w w1 -> ∃ g' w' es, stepG P true g w1 = .go g' w' es /\ Guar O S w1 w' es)
   (h : ∀ w1 g' w' es, Rely O S w w1 -> stepG P true g w1 = .go g' w' es -> PlanM P S c n z vals K i (grown O w1 w') g' w') : PlanM P S c n z vals K i O g w
 | recv {i : Nat} {O : BSet} {g : Goroutine} {w : World} (hr : g.status = .running) (hc : ∀ w1, Rely O S w w1 -> stepG P true g w1 = .comm g #[rcase c z] true (.recv true) w1 #[])
   (h : i < n -> PlanM P S c n z vals K (i + 1) O (Conc.served g (.tuple #[vals i, .bool true])) w) (he : i = n -> ∀ w1, Rely O S w w1 -> K O (Conc.served g (.tuple #[z, .bool false])) w1) : PlanM P S c n z vals K i O g w
section
variable {P : Program} {S : BSet} {c n : Nat} {z : Value} {vals : Nat -> Value} {K : BSet -> Goroutine -> World -> Prop}
theorem PlanM.closed (i : Nat) : Closed P true S (PlanM P S c n z vals K i) := by
 intro O g w hr h
 refine .go hr (fun w1 R => ?_) fun w1 g' w' es R e => ?_
 ·obtain ⟨g', w', es, h1, h2, _⟩ := h w1 R
  exact ⟨g', w', es, h1, h2⟩
 ·obtain ⟨g2, w2, es2, h1, _, h3⟩ := h w1 R
  rw [e] at h1
  injection h1 with a1 a2 _
  subst a1 a2
  exact h3
theorem PlanM.running {i : Nat} {O : BSet} {g : Goroutine} {w : World} (h : PlanM P S c n z vals K i O g w) : g.status = .running := by cases h <;> assumption
end
structure SameG (a2 a : Goroutine) : Prop where
 frame : a2.frame = a.frame
 callers : a2.callers = a.callers
 dying : a2.dying = a.dying
 run : a2.status = .running
theorem SameG.refl {a : Goroutine} (h : a.status = .running) : SameG a a := ⟨rfl, rfl, rfl, h⟩
theorem SameG.step {a2 a : Goroutine} (h : SameG a2 a) {P : Program} (m : Bool) (w : World) : stepG P m a2 w = stepG P m a w := stepG_same h.frame h.callers h.dying w
theorem setChan_get {w : World} {c cap : Nat} {buf : Array Value} {cl : Bool} {s r : Nat} {tm : Bool} (h : c < w.heap.size) : (w.setChan c cap buf cl s r tm).heap[c]? = some (.chan cap buf cl s r tm) := by
 unfold World.setChan
 simp [h]
theorem setChan_ne {w : World} {c cap b : Nat} {buf : Array Value} {cl : Bool} {s r : Nat} {tm : Bool} (h : b ≠ c) : (w.setChan c cap buf cl s r tm).heap[b]? = w.heap[b]? := by
 unfold World.setChan
 exact Array.getElem?_setIfInBounds_ne (Ne.symm h)
theorem setChan_size {w : World} {c cap : Nat} {buf : Array Value} {cl : Bool} {s r : Nat} {tm : Bool} : (w.setChan c cap buf cl s r tm).heap.size = w.heap.size := by
 unfold World.setChan
 simp
theorem Rely.chan {O S : BSet} {w0 w : World} {c cap : Nat} {buf : Array Value} {cl : Bool} {s r : Nat} {tm : Bool} (R : Rely O S w0 w) (h1 : ¬ O c) (h2 : ¬ S c) : Rely O S w0 (w.setChan c cap buf cl s r tm) :=
 R.trans ⟨rfl, rfl, rfl, Nat.le_of_eq setChan_size.symm, fun b hb => setChan_ne fun e => by subst e; exact hb.elim h1 h2⟩
end
end Go.Proofs.YtdobjciaikofdaaGreatDoor
