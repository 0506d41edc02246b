/- Part 20 of 39 of what the proof of this law needs. Put together by a program out of the texts: LnB LnC. -/
import Derived.Test.YtdobjciaikofdaaGreatDoorTopShakeAll19
namespace Go.Proofs.YtdobjciaikofdaaGreatDoor
section
open Go Go.Conc
theorem Veil.put {w0 W w : World} (V : Veil w0 W w) {r : Nat} {o : Obj} (hp : plainO o = true) : Veil w0 { W with heap := W.heap.setIfInBounds r o } { w with heap := w.heap.setIfInBounds r o } where
 os := V.os
 output := V.output
 size := by simpa using V.size
 same := fun b hb => by
  dsimp only at hb ⊢
  by_cases hbr : r = b
  ·subst hbr
   by_cases hl : r < W.heap.size
   ·rw [Array.getElem?_setIfInBounds_self_of_lt hl, Array.getElem?_setIfInBounds_self_of_lt (by rw [V.size]; exact hl)]
   ·rw [Array.getElem?_eq_none (by have := V.size; simp; omega), Array.getElem?_eq_none (by simp; omega)]
  ·rw [Array.getElem?_setIfInBounds_ne hbr] at hb ⊢
   rw [Array.getElem?_setIfInBounds_ne hbr]
   exact V.same b hb
 veil := fun b hb => by
  dsimp only at hb ⊢
  by_cases hbr : r = b
  ·subst hbr
   by_cases hl : r < W.heap.size
   ·rw [Array.getElem?_setIfInBounds_self_of_lt hl] at hb
    cases hb
    cases hp
   ·rw [Array.getElem?_eq_none (by simp; omega)] at hb
    cases hb
  ·rw [Array.getElem?_setIfInBounds_ne hbr] at hb ⊢
   exact V.veil b hb
theorem Fair.put {W : World} (F : Fair W) {r : Nat} {o : Obj} (ho : lnO o) : Fair { W with heap := W.heap.setIfInBounds r o } := by
 intro b x hb
 dsimp only at hb
 by_cases hbr : r = b
 ·subst hbr
  by_cases hl : r < W.heap.size
  ·rw [Array.getElem?_setIfInBounds_self_of_lt hl] at hb
   cases hb
   exact ho
  ·rw [Array.getElem?_eq_none (by simp; omega)] at hb
   cases hb
 ·rw [Array.getElem?_setIfInBounds_ne hbr] at hb
  exact F b x hb
theorem Veil.push {w0 W w : World} (V : Veil w0 W w) {o : Obj} (hp : plainO o = true) : Veil w0 { W with heap := W.heap.push o } { w with heap := w.heap.push o } where
 os := V.os
 output := V.output
 size := by simpa using V.size
 same := fun b hb => by
  dsimp only at hb ⊢
  rw [Array.getElem?_push] at hb ⊢
  rw [Array.getElem?_push, V.size]
  by_cases h : b = W.heap.size
  ·rw [if_pos h, if_pos h]
  ·rw [if_neg h] at hb
   rw [if_neg h, if_neg h]
   exact V.same b hb
 veil := fun b hb => by
  dsimp only at hb ⊢
  rw [Array.getElem?_push] at hb
  rw [Array.getElem?_push, V.size]
  by_cases h : b = W.heap.size
  ·rw [if_pos h] at hb
   cases hb
   cases hp
  ·rw [if_neg h] at hb
   rw [if_neg h]
   exact V.veil b hb
theorem Fair.push {W : World} (F : Fair W) {o : Obj} (ho : lnO o) : Fair { W with heap := W.heap.push o } := by
 intro b x hb
 dsimp only at hb
 rw [Array.getElem?_push] at hb
 split at hb
 ·cases hb; exact ho
 ·exact F b x hb
theorem Veil.cells {w0 W w : World} (V : Veil w0 W w) (r : Nat) (f : Obj -> Obj) (hf : ∀ o, (∀ c e fr, o ≠ .cells c e fr) -> f o = o) (hg : ∀ c e fr, ∃ c' e' fr', f (.cells c e fr) = .cells c' e' fr') : Veil w0 { W with heap := W.heap.modify r f } { w with heap := w.heap.modify r f } where
 os := V.os
 output := V.output
 size := by simpa using V.size
 same := fun b hb => by
  dsimp only at hb ⊢
  rw [Array.getElem?_modify] at hb ⊢
  rw [Array.getElem?_modify]
  split at hb
  ·rename_i h
   subst h
   rw [if_pos rfl]
   rcases V.obj r with h | ⟨h1, o, h2, h3⟩
   ·rw [h, if_pos rfl]
   ·exfalso
    apply hb
    rw [h1]
    show some (f (.coro none)) = _
    rw [hf _ (fun c e fr x => by cases x)]
  ·rename_i h
   rw [if_neg h, if_neg h]
   exact V.same b hb
 veil := fun b hb => by
  dsimp only at hb ⊢
  rw [Array.getElem?_modify] at hb
  rw [Array.getElem?_modify]
  split at hb
  ·rename_i h
   subst h
   rw [if_pos rfl]
   have hW : W.heap[r]? = some (Obj.coro none) := by
    rcases hx : W.heap[r]? with _ | o
    ·rw [hx] at hb; cases hb
    ·rw [hx] at hb
     have hb' : f o = .coro none := Option.some.inj hb
     by_cases hc : ∀ c e fr, o ≠ .cells c e fr
     ·rw [hf o hc] at hb'
      rw [hb']
     ·exfalso
      apply hc
      intro c e fr ho
      subst ho
      obtain ⟨c', e', fr', h⟩ := hg c e fr
      rw [h] at hb'
      cases hb'
   obtain ⟨h1, o, h2, h3⟩ := V.veil r hW
   have hfo : f o = o := by
    apply hf
    intro c e fr ho
    subst ho
    rcases h3 with h3 | h3 <;> cases h3
   refine ⟨?_, o, ?_, h3⟩
   ·rw [<- h1, h2]; show some (f o) = _; rw [hfo]
   ·rw [h2]; show some (f o) = _; rw [hfo]
  ·rename_i h
   rw [if_neg h]
   exact V.veil b hb
theorem Fair.cells {W : World} (F : Fair W) (r : Nat) (f : Obj -> Obj) (hf : ∀ o, (∀ c e fr, o ≠ .cells c e fr) -> f o = o) (hg : ∀ c e fr, ∃ c' e' fr', f (.cells c e fr) = .cells c' e' fr') : Fair { W with heap := W.heap.modify r f } := by
 intro b x hb
 dsimp only at hb
 rw [Array.getElem?_modify] at hb
 split at hb
 ·rename_i h
  subst h
  rcases hx : W.heap[r]? with _ | o
  ·rw [hx] at hb; cases hb
  ·rw [hx] at hb
   have hb' : f o = x := Option.some.inj hb
   by_cases hc : ∀ c e fr, o ≠ .cells c e fr
   ·rw [hf o hc] at hb'
    rw [<- hb']
    exact F r o hx
   ·rw [<- hb']
    rcases o with ⟨c, e, fr⟩ | _ | _ | _ | _ | _ | _ | _ | _ | _ | _ | _
    case cells => obtain ⟨c', e', fr', h⟩ := hg c e fr; rw [h]; trivial
    all_goals exact absurd (fun c e fr x => by cases x) hc
 ·exact F b x hb
theorem Veil.setCell {w0 W w : World} (V : Veil w0 W w) (a : Addr) (v : Value) : Veil w0 (W.setCell a v) (w.setCell a v) :=
 V.cells a.block _ (fun o ho => by cases o <;> first | rfl | exact absurd rfl (ho _ _ _)) (fun c e fr => ⟨_, _, _, rfl⟩)
theorem Fair.setCell {W : World} (F : Fair W) (a : Addr) (v : Value) : Fair (W.setCell a v) :=
 F.cells a.block _ (fun o ho => by cases o <;> first | rfl | exact absurd rfl (ho _ _ _)) (fun c e fr => ⟨_, _, _, rfl⟩)
theorem Veil.freeze {w0 W w : World} (V : Veil w0 W w) (a : Addr) (n : Nat) : Veil w0 (W.freeze a n) (w.freeze a n) := by
 unfold World.freeze
 by_cases h : n = 0
 ·rw [if_pos h, if_pos h]; exact V
 ·rw [if_neg h, if_neg h]
  exact V.cells a.block _ (fun o ho => by cases o <;> first | rfl | exact absurd rfl (ho _ _ _)) (fun c e fr => ⟨_, _, _, rfl⟩)
theorem Fair.freeze {W : World} (F : Fair W) (a : Addr) (n : Nat) : Fair (W.freeze a n) := by
 unfold World.freeze
 by_cases h : n = 0
 ·rw [if_pos h]; exact F
 ·rw [if_neg h]
  exact F.cells a.block _ (fun o ho => by cases o <;> first | rfl | exact absurd rfl (ho _ _ _)) (fun c e fr => ⟨_, _, _, rfl⟩)
theorem viewLoad_low {W : World} {P : Program} {at_ : Addr} {u : TypeId} {k : Addr} {m : Bool} {x : Value} {l : List Addr} (h : W.viewLoad P at_ u k m = .ok (x, l)) : ∀ a ∈ l, a.block < W.heap.size := by
 unfold World.viewLoad at h
 rcases hs : W.seen P at_ u k m with e | y
 ·rw [hs] at h; cases h
 ·rw [hs] at h
  have hlow := seen_low hs
  obtain ⟨y1, y2, y3, y4, y5, y6⟩ := y
  dsimp only [bind, Except.bind] at h
  split at h
  ·cases h
   intro a ha
   obtain ⟨z, _, rfl⟩ := List.mem_map.1 ha
   exact hlow
  ·cases h
theorem farLoad_low {W : World} {P : Program} {a : Addr} {m : Bool} {x : Value} {l : List Addr} (h : W.farLoad P a m = .ok (x, l)) : ∀ a ∈ l, a.block < W.heap.size := by
 unfold World.farLoad at h
 split at h
 ·split at h
  ·cases h
   exact viewLoad_low ‹_›
  ·cases h
 ·cases h
theorem Veil.viewStore {w0 W w : World} (V : Veil w0 W w) (F : Fair W) (P : Program) (at_ : Addr) (u : TypeId) (k : Addr) (v : Value) (m : Bool) :
  (∃ e, W.viewStore P at_ u k v m = .error e /\ w.viewStore P at_ u k v m = .error e) \/ ∃ W1 w1 l, W.viewStore P at_ u k v m = .ok (W1, l) /\ w.viewStore P at_ u k v m = .ok (w1, l) /\ Veil w0 W1 w1 /\ Fair W1 /\ (∀ a ∈ l, a.block < W.heap.size) /\ W1.heap.size = W.heap.size /\ W1.drawn = W.drawn /\ W1.tape = W.tape /\ w1.drawn = w.drawn /\ w1.tape = w.tape := by
 have hs2 := V.seen P at_ u k m
 unfold World.viewStore
 rw [hs2]
 rcases hs : W.seen P at_ u k m with e | y
 ·dsimp only [bind, Except.bind]
  split
  ·exact .inl ⟨_, rfl, rfl⟩
  ·exact .inl ⟨_, rfl, rfl⟩
 ·have hlow := seen_low hs
  obtain ⟨y1, y2, y3, y4, y5, y6⟩ := y
  dsimp only [bind, Except.bind]
  by_cases ht : (!tight P P.depth u) = true
  ·rw [if_pos ht, if_pos ht]
   exact .inl ⟨_, rfl, rfl⟩
  ·rw [if_neg ht, if_neg ht]
   rcases hv : v.bytes? with _ | bytes
   ·exact .inl ⟨_, rfl, rfl⟩
   ·dsimp only
    by_cases hl : some bytes.length ≠ Option.map (fun x => x.length) y5.bytes?
    ·rw [if_pos hl, if_pos hl]
     exact .inl ⟨_, rfl, rfl⟩
    ·rw [if_neg hl, if_neg hl]
     generalize List.foldlM (m := Except String) _ y1 y6 = z
     rcases z with e | z
     ·exact .inl ⟨_, rfl, rfl⟩
     ·refine .inr ⟨_, _, _, rfl, rfl, V.put rfl, F.put trivial, fun a ha => ?_, Array.size_setIfInBounds .., rfl, rfl, rfl, rfl⟩
      obtain ⟨z, _, rfl⟩ := List.mem_map.1 ha
      exact hlow
theorem noCell_fair {W : World} (a : Addr) (s : String) : lnH (W.noCell a s) = true := by
 unfold World.noCell
 split <;> rfl
theorem noCell_same {W w : World} {a : Addr} (h : w.heap[a.block]? = W.heap[a.block]?) (s : String) : w.noCell a s = W.noCell a s := by
 unfold World.noCell
 rw [h]
theorem far_same {w0 W w : World} (V : Veil w0 W w) {a : Addr} (h : w.heap[a.block]? = W.heap[a.block]?) (P : Program) (m : Bool) : w.farLoad P a m = W.farLoad P a m := by
 unfold World.farLoad
 rw [noCell_same h, h]
 simp only [V.viewLoad]
theorem far_veil {W : World} {a : Addr} (h : W.heap[a.block]? = some (Obj.coro none)) (P : Program) (m : Bool) (v : Value) : (∃ s, W.farLoad P a m = .error (.stuck s)) /\ ∃ s, W.farStore P a v m = .error (.stuck s) := by
 unfold World.farLoad World.farStore World.noCell
 rw [h]
 exact ⟨⟨_, rfl⟩, ⟨_, rfl⟩⟩
theorem Veil.farStore {w0 W w : World} (V : Veil w0 W w) (F : Fair W) (P : Program) (a : Addr) (v : Value) (m : Bool) (h : w.heap[a.block]? = W.heap[a.block]?) :
  (∃ e, W.farStore P a v m = .error e /\ w.farStore P a v m = .error e /\ lnH e = true) \/ ∃ W1 w1 l, W.farStore P a v m = .ok (W1, l) /\ w.farStore P a v m = .ok (w1, l) /\ Veil w0 W1 w1 /\ Fair W1 /\ (∀ a ∈ l, a.block < W.heap.size) /\ W1.heap.size = W.heap.size /\ W1.drawn = W.drawn /\ W1.tape = W.tape /\ w1.drawn = w.drawn /\ w1.tape = w.tape := by
 have hn := fun s => noCell_fair (W := W) a s
 unfold World.farStore
 rw [h, noCell_same h]
 rcases hb : W.heap[a.block]? with _ | o
 ·exact .inl ⟨_, rfl, rfl, hn _⟩
 ·cases o
  case view at_ u =>
   dsimp only
   rcases V.viewStore F P at_ u a v m with ⟨e, e1, e2⟩ | ⟨W1, w1, l, e1, e2, hr⟩
   ·rw [e1, e2]; exact .inl ⟨_, rfl, rfl, rfl⟩
   ·rw [e1, e2]; exact .inr ⟨_, _, _, rfl, rfl, hr⟩
  all_goals exact .inl ⟨_, rfl, rfl, hn _⟩
theorem farLoad_halt {W : World} {P : Program} {a : Addr} {m : Bool} {h : Halt} (e : W.farLoad P a m = .error h) : lnH h = true := by
 unfold World.farLoad at e
 split at e
 ·split at e
  ·cases e
  ·cases e; rfl
 ·cases e
  exact noCell_fair a _
structure Both {α : Type} (R : α -> Prop) (w0 : World) (W w : World) (r r' : Result α) (es : Array Event) : Prop where
 rel : (∃ a, r = .ok a (resWorld r) /\ r' = .ok a (resWorld r') /\ R a) \/ ∃ h, r = .halt h (resWorld r) /\ r' = .halt h (resWorld r') /\ lnH h = true
 veil : Veil w0 (resWorld r) (resWorld r')
 fair : Fair (resWorld r)
 mild : ∀ e ∈ es, MildE (resWorld r').heap.size e
 size : W.heap.size <= (resWorld r).heap.size
 ltape : (resWorld r).tape = W.tape
 tape : (resWorld r').tape = w.tape
 drawn : (resWorld r').drawn + W.drawn = (resWorld r).drawn + w.drawn
 ldrawn : W.drawn <= (resWorld r).drawn
theorem Tunes.step {W w : World} {hi : Nat} (h : Tunes W w hi) {W1 w1 : World} (hd : W1.drawn = W.drawn + 1) (hd' : w1.drawn = w.drawn + 1) (ht : W1.tape = W.tape) (ht' : w1.tape = w.tape) : Tunes W1 w1 hi := by
 intro i q hi'
 have := h (i + 1) q (by omega)
 rw [ht, ht', hd, hd', show W.drawn + 1 + i = W.drawn + (i + 1) by omega, show w.drawn + 1 + i = w.drawn + (i + 1) by omega]
 exact this
theorem Both.at {α : Type} {R : α -> Prop} {w0 W w W1 w1 : World} {r r' : Result α} {es e1 : Array Event} (b : Both R w0 W1 w1 r r' es) (hs : W.heap.size <= W1.heap.size) (hd : w1.drawn + W.drawn = W1.drawn + w.drawn) (hl : W.drawn <= W1.drawn) (ht : W1.tape = W.tape) (ht' : w1.tape = w.tape) (hm : ∀ e ∈ e1, MildE w1.heap.size e) (hsz : w1.heap.size = W1.heap.size) : Both R w0 W w r r' (e1 ++ es) where
 rel := b.rel
 veil := b.veil
 fair := b.fair
 mild := fun e he => by
  rcases Array.mem_append.1 he with h | h
  ·exact (hm e h).mono (by rw [b.veil.size, hsz]; exact b.size)
  ·exact b.mild e h
 size := Nat.le_trans hs b.size
 ltape := b.ltape.trans ht
 tape := b.tape.trans ht'
 drawn := by have := b.drawn; omega
 ldrawn := by have := b.ldrawn; omega
def Shows {α : Type} (R : α -> Prop) (w0 W w : World) (x x' : Result α × Array Event) (es' : Array Event) : Prop :=
 (∃ m W1, x.1 = .halt (.stuck m) W1) \/ (W.drawn <= (resWorld x.1).drawn /\ (Tunes W w (resWorld x.1).drawn -> ∃ es2, x'.2 = es' ++ es2 /\ Both R w0 W w x.1 x'.1 es2))
theorem Shows.at {α : Type} {R : α -> Prop} {w0 W w W1 w1 : World} {x x' : Result α × Array Event} {es' e1 : Array Event} (b : Shows R w0 W1 w1 x x' (es' ++ e1)) (hs : W.heap.size <= W1.heap.size) (hd : w1.drawn = w.drawn) (hd2 : W1.drawn = W.drawn) (ht : W1.tape = W.tape) (ht' : w1.tape = w.tape) (hm : ∀ e ∈ e1, MildE w1.heap.size e) (hsz : w1.heap.size = W1.heap.size) : Shows R w0 W w x x' es' := by
 rcases b with h | ⟨h1, h2⟩
 ·exact .inl h
 ·refine .inr ⟨by omega, fun T => ?_⟩
  obtain ⟨es2, e, b⟩ := h2 (fun i q hi => by rw [ht, ht', hd, hd2]; rw [hd2] at hi; exact T i q hi)
  exact ⟨e1 ++ es2, by rw [e, Array.append_assoc], b.at hs (by omega) (by omega) ht ht' hm hsz⟩
theorem Shows.here {α : Type} {R : α -> Prop} {w0 W w : World} {r r' : Result α} {e es' : Array Event} (hr : (∃ a, r = .ok a W /\ r' = .ok a w /\ R a) \/ ∃ h, r = .halt h W /\ r' = .halt h w /\ lnH h = true) (V : Veil w0 W w) (F : Fair W) : Shows R w0 W w (r, e) (r', es') es' := by
 refine .inr ?_
 rcases hr with ⟨a, rfl, rfl, h⟩ | ⟨h, rfl, rfl, hh⟩
 ·exact ⟨Nat.le_refl _, fun _ => ⟨#[], by simp, ⟨.inl ⟨a, rfl, rfl, h⟩, V, F, fun e he => by simp at he, Nat.le_refl _, rfl, rfl, Nat.add_comm _ _, Nat.le_refl _⟩⟩⟩
 ·exact ⟨Nat.le_refl _, fun _ => ⟨#[], by simp, ⟨.inr ⟨h, rfl, rfl, hh⟩, V, F, fun e he => by simp at he, Nat.le_refl _, rfl, rfl, Nat.add_comm _ _, Nat.le_refl _⟩⟩⟩
theorem shows_nil {α : Type} {R : α -> Prop} {w0 W w : World} {x x' : Result α × Array Event} {es' : Array Event} (h : Shows R w0 W w x x' es') : Shows R w0 W w x x' (es' ++ #[]) := by rw [Array.append_empty]; exact h
theorem push_app (es : Array Event) (e : Event) : es.push e = es ++ #[e] := by simp
theorem freeze_size (W : World) (a : Addr) (n : Nat) : (W.freeze a n).heap.size = W.heap.size /\ (W.freeze a n).drawn = W.drawn /\ (W.freeze a n).tape = W.tape := by
 unfold World.freeze
 split
 ·exact ⟨rfl, rfl, rfl⟩
 ·exact ⟨by simp, rfl, rfl⟩
theorem cell_low {W : World} {a : Addr} {v : Value} (h : W.cell? a = some v) : a.block < W.heap.size := by
 unfold World.cell? at h
 rcases hb : W.heap[a.block]? with _ | o
 ·rw [hb] at h; cases h
 ·exact (Array.getElem?_eq_some_iff.1 hb).1
theorem mild_list {l : List Addr} {B : Nat} (h : ∀ a ∈ l, a.block < B) (wr sy : Bool) : ∀ e ∈ l.toArray.map (fun a => (⟨.cell a, wr, sy⟩ : Event)), MildE B e := by
 intro e he
 obtain ⟨a, ha, rfl⟩ := Array.mem_map.1 he
 exact mild_cell (h a (by simpa using ha))
def agg? : Value -> Bool
 | .agg _ | .tuple _ => true
 | _ => false
theorem store_runT {α : Type} {P : Program} {m : Mode} {a : Addr} {v : Value} (hv : agg? v = false) (k : Sem α) (W : World) (es : Array Event) : (Sem.store m a v k).runT P W es = match W.cell? a with
  | some _ => if W.frozen? a then (.halt (.unsupported (.unsafePointer "a write to bytes that a string shares")) W, es) else k.runT P (W.setCell a v) (es.push ⟨.cell a, true, m == .atomic⟩)
  | none => match W.farStore P a v (m == .atomic) with
   | .ok (w, touched) => k.runT P w (es ++ touched.toArray.map (⟨.cell ·, true, m == .atomic⟩))
   | .error h => (.halt h W, es) := by
 cases v <;> first | (simp [agg?] at hv; done) | (simp only [Sem.runT]; rfl)
theorem Tidy.both {P : Program} {α : Type} {R : α -> Prop} {s : Sem α} (h : Tidy P R s) : ∀ {w0 W w : World} (_ : Veil w0 W w) (_ : Fair W) (es es' : Array Event), Shows R w0 W w (s.runT P W es) (s.runT P w es') es' := by
 induction h with
 | pure h => intro w0 W w V F es es'; exact Shows.here (.inl ⟨_, rfl, rfl, h⟩) V F
 | @load m a k _ ih =>
  intro w0 W w V F es es'
  simp only [Sem.runT]
  rw [V.cell]
  rcases hc : W.cell? a with _ | v
  ·dsimp only
   rcases V.obj a.block with hsame | ⟨hv, _⟩
   case inr =>
    obtain ⟨⟨x, hx⟩, _⟩ := far_veil hv P (m == .atomic) .nilIface
    rw [hx]
    exact .inl ⟨_, _, rfl⟩
   rw [far_same V hsame]
   rcases hf : W.farLoad P a (m == .atomic) with e | ⟨v, l⟩
   ·exact Shows.here (.inr ⟨_, rfl, rfl, farLoad_halt hf⟩) V F
   ·exact (ih v V F _ _).at (Nat.le_refl _) rfl rfl rfl rfl (by rw [V.size]; exact mild_list (farLoad_low hf) _ _) V.size
  ·dsimp only
   rw [push_app es']
   exact (ih v V F _ _).at (Nat.le_refl _) rfl rfl rfl rfl (fun e he => by
    have : e = ⟨.cell a, false, m == .atomic⟩ := by simpa using he
    rw [this, V.size] ; exact mild_cell (cell_low hc)) V.size
 | @store m a v k _ ih =>
  intro w0 W w V F es es'
  cases hv : agg? v with
  | true => cases v <;> first | (cases hv; done) | exact Shows.here (.inr ⟨_, rfl, rfl, rfl⟩) V F
  | false =>
   rw [store_runT hv, store_runT hv, V.cell, V.frozen]
   rcases hc : W.cell? a with _ | u
   ·dsimp only
    rcases V.obj a.block with hsame | ⟨hv2, _⟩
    case inr =>
     obtain ⟨_, ⟨x, hx⟩⟩ := far_veil hv2 P (m == .atomic) v
     rw [hx]
     exact .inl ⟨_, _, rfl⟩
    rcases V.farStore F P a v (m == .atomic) hsame with ⟨e, e1, e2, e3⟩ | ⟨W1, w1, l, e1, e2, V1, F1, hl, hs, hd, ht, hd', ht'⟩
    ·rw [e1, e2]
     exact Shows.here (.inr ⟨_, rfl, rfl, e3⟩) V F
    ·rw [e1, e2]
     exact (ih V1 F1 _ _).at (by omega) hd' hd ht ht' (mild_list (fun a ha => by rw [V1.size, hs]; exact hl a ha) _ _) V1.size
   ·dsimp only
    by_cases hf : W.frozen? a = true
    ·rw [if_pos hf, if_pos hf]
     exact Shows.here (.inr ⟨_, rfl, rfl, rfl⟩) V F
    ·rw [if_neg hf, if_neg hf, push_app es']
     have V1 := V.setCell a v
     exact (ih V1 (F.setCell a v) _ _).at (by simp [World.setCell]) rfl rfl rfl rfl (fun e he => by
      have : e = ⟨.cell a, true, m == .atomic⟩ := by simpa using he
      rw [this, V1.size]; exact mild_cell (by have := cell_low hc; simpa [World.setCell] using this)) V1.size
 | @new o k ho hp _ ih =>
  intro w0 W w V F es es'
  simp only [Sem.runT]
  rw [V.size]
  have V1 := V.push hp
  have this := ih W.heap.size V1 (F.push ho) es es'
  exact (shows_nil this).at (W := W) (w := w) (by simp) rfl rfl rfl rfl (fun e he => by simp at he) V1.size
 | shape _ ih =>
  intro w0 W w V F es es'
  simp only [Sem.runT]
  rw [V.shape]
  exact ih _ V F es es'
 | @freeze a n k _ ih =>
  intro w0 W w V F es es'
  simp only [Sem.runT]
  have V1 := V.freeze a n
  obtain ⟨a1, a2, a3⟩ := freeze_size W a n
  obtain ⟨b1, b2, b3⟩ := freeze_size w a n
  have this := ih V1 (F.freeze a n) es es'
  exact (shows_nil this).at (W := W) (w := w) (by omega) b2 a2 a3 b3 (fun e he => by simp at he) V1.size
 | frozen _ ih =>
  intro w0 W w V F es es'
  simp only [Sem.runT]
  rw [V.frozen]
  exact ih _ V F es es'
 | @getObj r k hb _ ih =>
  intro w0 W w V F es es'
  have ho : ∀ o, W.heap[r]? = some o -> w.heap[r]? = some o -> Shows R w0 W w (Sem.runT P (.getObj r k) W es) (Sem.runT P (.getObj r k) w es') es' := by
   intro o h1 h2
   simp only [Sem.runT, h1, h2]
   have hl := (Array.getElem?_eq_some_iff.1 h2).1
   have hF := F r o h1
   have key : Shows R w0 W w ((k o).runT P W (es.push ⟨.obj r, false, o.isChan⟩)) ((k o).runT P w (es'.push ⟨.obj r, false, o.isChan⟩)) es' := by
    rw [push_app es']
    exact (ih o hF V F _ _).at (Nat.le_refl _) rfl rfl rfl rfl (fun e he => by
     have : e = ⟨.obj r, false, o.isChan⟩ := by simpa using he
     rw [this]; exact mild_obj hl) V.size
   cases o <;> first | exact key | exact Shows.here (.inr ⟨_, rfl, rfl, rfl⟩) V F
  rcases V.obj r with h | ⟨h1, o, h2, h3⟩
  ·rcases hx : W.heap[r]? with _ | o
   ·simp only [Sem.runT, h, hx]
    exact Shows.here (.inr ⟨_, rfl, rfl, rfl⟩) V F
   ·exact ho o hx (h.trans hx)
  ·have hl := (Array.getElem?_eq_some_iff.1 h2).1
   rcases hb with ⟨m, hm⟩ | ⟨q1, q2⟩
   ·refine .inl ⟨m, W, ?_⟩
    simp only [Sem.runT, h1, hm]
   ·have key : Shows R w0 W w ((k (.coro none)).runT P W (es.push ⟨.obj r, false, false⟩)) ((k (.coro none)).runT P w (es'.push ⟨.obj r, false, false⟩)) es' := by
     rw [push_app es']
     exact (ih (.coro none) trivial V F _ _).at (Nat.le_refl _) rfl rfl rfl rfl (fun e he => by
      have : e = ⟨.obj r, false, false⟩ := by simpa using he
      rw [this]; exact mild_obj hl) V.size
    simp only [Sem.runT, h1, h2]
    cases o <;> first | (cases h3; done) | (dsimp only [Obj.isChan]; (first | rw [q1] | rw [q2]); exact key)
 | @setObj r o k ho hp _ ih =>
  intro w0 W w V F es es'
  have V1 := V.put (r := r) hp
  have hgo : ∀ x y, W.heap[r]? = some x -> w.heap[r]? = some y -> (∀ c e fr, x ≠ .cells c e fr) -> (∀ c e fr, y ≠ .cells c e fr) -> Shows R w0 W w (Sem.runT P (.setObj r o k) W es) (Sem.runT P (.setObj r o k) w es') es' := by
   intro x y h1 h2 n1 n2
   have hl := (Array.getElem?_eq_some_iff.1 h2).1
   have key : Shows R w0 W w (k.runT P { W with heap := W.heap.setIfInBounds r o } (es.push ⟨.obj r, true, o.isChan⟩)) (k.runT P { w with heap := w.heap.setIfInBounds r o } (es'.push ⟨.obj r, true, o.isChan⟩)) es' := by
    rw [push_app es']
    exact (ih V1 (F.put ho) _ _).at (by simp) rfl rfl rfl rfl (fun e he => by
     have : e = ⟨.obj r, true, o.isChan⟩ := by simpa using he
     rw [this]; exact mild_obj (by simpa using hl)) V1.size
   simp only [Sem.runT, h1, h2]
   cases x <;> cases y <;> first | exact key | exact absurd rfl (n1 _ _ _) | exact absurd rfl (n2 _ _ _)
  rcases V.obj r with h | ⟨h1, y, h2, h3⟩
  ·rcases hx : W.heap[r]? with _ | x
   ·simp only [Sem.runT, h, hx]
    exact Shows.here (.inr ⟨_, rfl, rfl, rfl⟩) V F
   ·by_cases hc : ∀ c e fr, x ≠ .cells c e fr
    ·exact hgo x x hx (h.trans hx) hc hc
    ·simp only [Sem.runT, h, hx]
     cases x <;> first | exact Shows.here (.inr ⟨_, rfl, rfl, rfl⟩) V F | exact absurd (fun c e fr z => by cases z) hc
  ·exact hgo _ _ h1 h2 (fun c e fr z => by cases z) (fun c e fr z => by subst z; cases h3)
 | @choose q k _ ih =>
  intro w0 W w V F es es'
  simp only [Sem.runT]
  by_cases hq : q.forced = true
  ·rw [if_pos hq, if_pos hq]
   exact ih _ V F es es'
  ·rw [if_neg hq, if_neg hq]
   have V1 : ∀ d d', Veil w0 { W with drawn := d } { w with drawn := d' } := fun d d' => ⟨V.os, V.output, V.size, V.same, V.veil⟩
   have i0 := ih (q.cut (W.tape W.drawn q)) (V1 (W.drawn + 1) (w.drawn + 1)) (show Fair { W with drawn := W.drawn + 1 } from F) es es'
   rcases i0 with h | ⟨h1, h2⟩
   ·exact .inl h
   ·have h1' : W.drawn + 1 <= _ := h1
    refine .inr ⟨by omega, fun T => ?_⟩
    have e0 := T 0 q (by omega)
    simp only [Nat.add_zero] at e0
    rw [<- e0]
    obtain ⟨es2, e, b⟩ := h2 (T.step rfl rfl rfl rfl)
    refine ⟨es2, e, ?_⟩
    have := b.at (W := W) (w := w) (e1 := #[]) (Nat.le_refl _) (by show w.drawn + 1 + W.drawn = W.drawn + 1 + w.drawn; omega) (by show W.drawn <= W.drawn + 1; omega) rfl rfl (fun e he => by simp at he) V.size
    rw [Array.empty_append] at this
    exact this
 | @env k _ ih =>
  intro w0 W w V F es es'
  have e1 : ∀ w : World, w.sys .env = (.strings w.os.env, w) := fun w => rfl
  simp only [Sem.runT, e1, V.os]
  rw [push_app es']
  exact (ih _ V F _ _).at (Nat.le_refl _) rfl rfl rfl rfl (fun e he => by
   have : e = ⟨.output, true, false⟩ := by simpa using he
   rw [this]; exact ⟨fun _ _ x => x.elim, by simp, by simp, trivial⟩) V.size
 | program _ ih => intro w0 W w V F es es'; simp only [Sem.runT]; exact ih V F es es'
 | @mark m k hm _ ih =>
  intro w0 W w V F es es'
  simp only [Sem.runT]
  rw [push_app es']
  exact (ih V F _ _).at (Nat.le_refl _) rfl rfl rfl rfl (fun e he => by
   have : e = ⟨.mark m, false, true⟩ := by simpa using he
   rw [this]; exact mild_mark hm) V.size
 | halt hh => intro w0 W w V F es es'; exact Shows.here (.inr ⟨_, rfl, rfl, hh⟩) V F
end
section
open Go Go.Conc
section
variable {P : Program} {α β : Type} {R : β -> Prop}
theorem tidy_getObj {r : Nat} {f : Obj -> Sem β} (hb : (∃ s, f (.coro none) = .halt (.stuck s)) \/ ((∀ x, f (.loop x) = f (.coro none)) /\ ∀ x, f (.deferred x) = f (.coro none))) (h : ∀ o, lnO o -> Tidy P R (f o)) : Tidy P R (getObj r >>= f) :=
 Tidy.getObj (k := f) hb h
theorem tidy_setObj {r : Nat} {o : Obj} {f : Unit -> Sem β} (ho : lnO o) (hp : plainO o = true) (h : Tidy P R (f ())) : Tidy P R (setObj r o >>= f) :=
 Tidy.setObj (k := f ()) ho hp h
theorem tidy_newObj {o : Obj} {f : Nat -> Sem β} (ho : lnO o) (hp : plainO o = true) (h : ∀ n, Tidy P R (f n)) : Tidy P R (newObj o >>= f) :=
 Tidy.new (k := f) ho hp h
theorem tidy_stuck {s : String} : Tidy P R (stuck s : Sem β) := .halt rfl
theorem tidy_program {f : Program -> Sem β} (h : Tidy P R (f P)) : Tidy P R (program >>= f) := Tidy.program (k := f) h
theorem tidy_load {a : Addr} {m : Mode} {f : Value -> Sem β} (h : ∀ v, Tidy P R (f v)) : Tidy P R (Go.load a m >>= f) := Tidy.load (k := f) h
theorem tidy_goPanic {v : Value} : Tidy P R (goPanic v : Sem β) := .halt rfl
theorem tidy_typeInfo {t : TypeId} {f : TypeInfo -> Sem β} (h : ∀ i, Tidy P R (f i)) : Tidy P R (typeInfo t >>= f) := by
 refine Tidy.bind (R := fun _ => True) ?_ fun i _ => h i
 unfold typeInfo
 refine tidy_program ?_
 split
 ·exact .pure trivial
 ·exact tidy_stuck
theorem tidy_underlying {t : TypeId} {f : TypeDesc -> Sem β} (h : ∀ i, Tidy P R (f i)) : Tidy P R (underlying t >>= f) := by
 refine Tidy.bind (R := fun _ => True) ?_ fun i _ => h i
 unfold underlying
 refine tidy_program ?_
 split
 ·exact .pure trivial
 ·exact tidy_stuck
theorem tidy_newVar {t : TypeId} {v : Value} {f : Addr -> Sem β} (h : ∀ i, Tidy P R (f i)) : Tidy P R (newVar t v >>= f) := by
 refine Tidy.bind (R := fun _ => True) ?_ fun i _ => h i
 unfold newVar newRow
 exact tidy_newObj trivial rfl fun _ => .pure trivial
theorem tidy_elemOf {t : TypeId} {f : TypeId -> Sem β} (h : ∀ i, Tidy P R (f i)) : Tidy P R (elemOf t >>= f) := by
 refine Tidy.bind (R := fun _ => True) ?_ fun i _ => h i
 unfold elemOf
 refine tidy_underlying fun d => ?_
 split
 ·exact .pure trivial
 ·exact tidy_stuck
theorem tidy_panic {e : RuntimeError} : Tidy P R (runtimePanic e : Sem β) := by
 unfold runtimePanic
 refine tidy_program ?_
 cases e
 case typeAssertion => exact tidy_elemOf fun _ => tidy_newVar fun _ => tidy_goPanic
 case panicNil => first | exact tidy_goPanic | exact tidy_elemOf fun _ => tidy_newVar fun _ => tidy_goPanic
 all_goals exact tidy_goPanic
theorem tidy_getLoop {l : Nat} {f : Loop -> Sem β} (h : ∀ x, lnO (.loop x) -> Tidy P R (f x)) : Tidy P R (Instr.getLoop l >>= f) := by
 have e : (Instr.getLoop l >>= f) = Sem.getObj l (fun o => (match o with | .loop r => pure r | _ => stuck "range over a function: no such loop" : Sem Loop).bind f) := rfl
 rw [e]
 refine .getObj (.inl ⟨_, rfl⟩) fun o ho => ?_
 cases o <;> first | exact h _ ho | exact tidy_stuck
theorem tidy_enterLoop {fn : FuncId} {t : Array Value} {ps : Array Tmp} {a b : Code} {o : Option Nat} (ha : lnC true a = true) (hb : lnC true b = true) : Tidy P (fun x => x.2.all lnD = true) (Instr.enterLoop fn t ps a b o) := by
 unfold Instr.enterLoop
 cases o with
 | some l =>
  refine tidy_getLoop fun x _ => ?_
  refine Tidy.bind (R := fun y => y = (x.defers, [])) (.pure rfl) ?_
  rintro _ rfl
  exact tidy_newObj ⟨ha, hb, fun c hc => by cases hc⟩ rfl fun _ => .pure rfl
 | none =>
  refine tidy_newObj rfl rfl fun r => ?_
  refine Tidy.bind (R := fun y => y = (r, [{ target := Target.collected r, args := #[] }])) (.pure rfl) ?_
  rintro _ rfl
  exact tidy_newObj ⟨ha, hb, fun c hc => by cases hc⟩ rfl fun _ => .pure rfl
end
def lnN : Next -> Prop
 | .value _ | .skip | .enter _ _ | .recover => True
 | .round _ _ _ x y => lnC true x = true /\ lnC true y = true
 | .defer d => lnD d = true
 | _ => False
def lnX : Next -> Prop
 | .spawn _ | .comm .. => True
 | n => lnN n
theorem lnX_of {n : Next} (h : lnN n) : lnX n := by
 cases n <;> first | exact h | exact trivial
section
variable {P : Program}
theorem tidy_yield {l : Nat} {args : Array Value} : Tidy P lnN (Instr.yield l args) := by
 unfold Instr.yield
 refine tidy_getLoop fun x hx => ?_
 split
 ·exact Tidy.bind (R := fun _ => True) tidy_stuck fun _ _ => .pure ⟨hx.1, hx.2.1⟩
 ·exact .pure ⟨hx.1, hx.2.1⟩
theorem tidy_beginRound {l : Nat} : Tidy P (fun _ => True) (Instr.beginRound l) := by
 unfold Instr.beginRound
 refine tidy_getLoop fun x hx => ?_
 refine tidy_setObj hx rfl ?_
 split
 ·exact .pure trivial
 all_goals exact tidy_panic
def jumpC (j : Option Code) : Prop := ∀ c, j = some c -> lnC true c = true /\ lnC false c = true
theorem tidy_endRound {l : Nat} {j : Option Code} (hj : jumpC j) : Tidy P (fun _ => True) (Instr.endRound l j) := by
 unfold Instr.endRound
 refine tidy_getLoop fun x hx => ?_
 exact tidy_setObj ⟨hx.1, hx.2.1, hj⟩ rfl (.pure trivial)
theorem tidy_endLoop {l : Nat} : Tidy P jumpC (Instr.endLoop l) := by
 unfold Instr.endLoop
 refine tidy_getLoop fun x hx => ?_
 split
 ·exact Tidy.bind (R := fun _ => False) tidy_panic fun _ h => h.elim
 ·exact tidy_setObj hx rfl (.pure hx.2.2)
theorem tidy_takeDeferred {b : Nat} : Tidy P (fun ds => ds.all lnD = true) (Instr.takeDeferred b) := by
 unfold Instr.takeDeferred
 refine tidy_getObj (.inl ⟨_, rfl⟩) fun o ho => ?_
 cases o
 case deferred c =>
  cases c with
  | none => exact tidy_stuck
  | some ds => exact tidy_setObj trivial rfl (.pure ho)
 all_goals exact tidy_stuck
theorem tidy_loadCellsFrom (a : Addr) : ∀ (n i : Nat) (acc : Array Value), Tidy P (fun _ => True) (loadCellsFrom a i n acc)
 | 0, _, _ => .pure trivial
 | n + 1, i, _ => tidy_load fun _ => tidy_loadCellsFrom a n (i + 1) _
theorem tidy_isAgg {t : TypeId} : Tidy P (fun _ => True) (isAgg t) := by
 unfold isAgg
 refine tidy_underlying fun d => ?_
 split <;> exact .pure trivial
theorem tidy_sizeOf {t : TypeId} : Tidy P (fun _ => True) (sizeOf t) := tidy_typeInfo fun _ => .pure trivial
theorem tidy_loadVar {t : TypeId} {a : Addr} : Tidy P (fun _ => True) (loadVar t a) := by
 unfold loadVar
 refine Tidy.bind tidy_isAgg fun b _ => ?_
 split
 ·refine Tidy.bind tidy_sizeOf fun n _ => ?_
  exact Tidy.bind (tidy_loadCellsFrom a n 0 #[]) fun _ _ => .pure trivial
 ·exact Tidy.load fun _ => .pure trivial
theorem tidy_mapM {α β : Type} {f : α -> Sem β} (h : ∀ x, Tidy P (fun _ => True) (f x)) : ∀ l : List α, Tidy P (fun _ => True) (l.mapM f)
 | [] => by rw [List.mapM_nil]; exact .pure trivial
 | x :: l => by
  rw [List.mapM_cons]
  exact Tidy.bind (h x) fun _ _ => Tidy.bind (tidy_mapM h l) fun _ _ => .pure trivial
theorem tidy_mapMA {α β : Type} {f : α -> Sem β} (h : ∀ x, Tidy P (fun _ => True) (f x)) (l : Array α) : Tidy P (fun _ => True) (l.mapM f) := by
 rw [Array.mapM_eq_mapM_toList]
 show Tidy P _ (List.toArray <$> l.toList.mapM f)
 rw [<- bind_pure_comp]
 exact Tidy.bind (tidy_mapM h _) fun _ _ => .pure trivial
theorem tidy_asAddr {v : Value} : Tidy P (fun _ => True) (asAddr v) := by
 unfold asAddr
 split <;> first | exact .pure trivial | exact tidy_stuck | exact tidy_panic
theorem tidy_results {fn : Func} {t : Array Value} : Tidy P (fun _ => True) (results fn t) := by
 unfold results
 refine Tidy.bind (R := fun _ => True) (tidy_mapMA (fun x => ?_) _) fun vs _ => .pure trivial
 cases x with
 | tmp t => exact .pure trivial
 | cell a t => exact Tidy.bind tidy_asAddr fun _ _ => tidy_loadVar
end
end
end Go.Proofs.YtdobjciaikofdaaGreatDoor
