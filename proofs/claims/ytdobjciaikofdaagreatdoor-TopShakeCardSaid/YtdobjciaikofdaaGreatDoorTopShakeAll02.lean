/- Part 2 of 39 of what the proof of this law needs. Put together by a program out of the texts: SimB. -/
import Derived.Test.YtdobjciaikofdaaGreatDoorTopShakeAll01
namespace Go.Proofs.YtdobjciaikofdaaGreatDoor
section
open Go
def Stiff (W : World) (b : Nat) : Prop := ∃ c e hi, W.heap[b]? = some (.cells c e (0, hi)) /\ c.size <= hi
structure HRel (ρ : BRel) (W W' : World) : Prop where
 fine : Fine ρ
 many : nGlob <= W.heap.size /\ nGlob <= W'.heap.size
 objs : ∀ b b', ρ b b' -> ∃ o o', W.heap[b]? = some o /\ W'.heap[b']? = some o' /\ ORel ρ o o'
 thaw : ∀ b b' off, ρ b b' -> W.frozen? ⟨b, off, none⟩ = false -> W'.frozen? ⟨b', off, none⟩ = false
def Like (W W1 W' : World) : Prop := ∀ i q, W.drawn + i < W1.drawn -> W.tape (W.drawn + i) q = W'.tape (W'.drawn + i) q
structure Turn (ρ σ : BRel) (W W1 W' W1' : World) : Prop where
 os : W1'.os = W'.os
 output : W1'.output = W'.output
 tape : W1'.tape = W'.tape
 size : W'.heap.size <= W1'.heap.size
 lsize : W.heap.size <= W1.heap.size
 keep : ∀ b', b' < W'.heap.size -> (∀ b, ρ b b' -> Stiff W b) -> W1'.heap[b']? = W'.heap[b']?
 stiff : ∀ b, b < W.heap.size -> (Stiff W1 b ↔ Stiff W b)
 fresh : ∀ b b', σ b b' -> ρ b b' \/ (W.heap.size <= b /\ W'.heap.size <= b')
 drawn : W1'.drawn + W.drawn = W1.drawn + W'.drawn
 ldrawn : W.drawn <= W1.drawn
 ltape : W1.tape = W.tape
def GoodEv (σ : BRel) (W : World) (e : Event) : Prop := e = ⟨.mark .noRoom, false, true⟩ \/ (e.sync = false /\ ∃ b b', σ b b' /\ ((∃ a : Addr, e.loc = .cell a /\ a.block = b') \/ e.loc = .obj b') /\ (e.write = true -> ¬ Stiff W b))
theorem HRel.lt {ρ : BRel} {W W' : World} (H : HRel ρ W W') {b b' : Nat} (h : ρ b b') : b < W.heap.size /\ b' < W'.heap.size := by
 obtain ⟨o, o', h1, h2, _⟩ := H.objs b b' h
 exact ⟨(Array.getElem?_eq_some_iff.1 h1).1, (Array.getElem?_eq_some_iff.1 h2).1⟩
theorem HRel.cell {ρ : BRel} {W W' : World} (H : HRel ρ W W') {a a' : Addr} (ha : ARel ρ a a') {v : Value} (hv : W.cell? a = some v) : ∃ v', W'.cell? a' = some v' /\ VRel ρ v v' := by
 cases ha with | mk hb o s =>
 obtain ⟨x, x', h1, h2, h3⟩ := H.objs _ _ hb
 unfold World.cell? at hv ⊢
 rw [h1] at hv
 rw [h2]
 cases h3 with
 | cells h e fr fr' =>
  simp only at hv ⊢
  by_cases hs : s.isSome = true
  ·rw [if_pos hs] at hv; cases hv
  ·rw [if_neg hs] at hv ⊢
   obtain ⟨hlt, rfl⟩ := Array.getElem?_eq_some_iff.1 hv
   have hlt' := hlt
   rw [h.1] at hlt'
   exact ⟨_, Array.getElem?_eq_getElem hlt', h.2 _ hlt hlt'⟩
 | loop => cases hv
 | noDefers => cases hv
 | taken => cases hv
 | number => cases hv
theorem HRel.far {ρ : BRel} {W W' : World} (H : HRel ρ W W') {P : Program} {a a' : Addr} (ha : ARel ρ a a') (m : Bool) : ∃ h, W.farLoad P a m = .error h := by
 cases ha with | mk hb o s =>
 obtain ⟨x, x', h1, h2, h3⟩ := H.objs _ _ hb
 unfold World.farLoad
 simp only [h1]
 cases h3 <;> exact ⟨_, rfl⟩
theorem HRel.farS {ρ : BRel} {W W' : World} (H : HRel ρ W W') {P : Program} {a a' : Addr} (ha : ARel ρ a a') (v : Value) (m : Bool) : ∃ h, W.farStore P a v m = .error h := by
 cases ha with | mk hb o s =>
 obtain ⟨x, x', h1, h2, h3⟩ := H.objs _ _ hb
 unfold World.farStore
 simp only [h1]
 cases h3 <;> exact ⟨_, rfl⟩
theorem HRel.shape {ρ : BRel} {W W' : World} (H : HRel ρ W W') {b b' : Nat} (hb : ρ b b') : W'.shape? b' = W.shape? b := by
 obtain ⟨x, x', h1, h2, h3⟩ := H.objs _ _ hb
 unfold World.shape?
 rw [h1, h2]
 cases h3 with
 | cells h e fr fr' => simp only [h.1]
 | loop => rfl
 | noDefers => rfl
 | taken => rfl
 | number => rfl
theorem Turn.refl (ρ : BRel) (W W' : World) : Turn ρ ρ W W W' W' := ⟨rfl, rfl, rfl, Nat.le_refl _, Nat.le_refl _, fun _ _ _ => rfl, fun _ _ => Iff.rfl, fun _ _ h => .inl h, Nat.add_comm _ _, Nat.le_refl _, rfl⟩
theorem Turn.trans {ρ σ τ : BRel} {A B C A' B' C' : World} (H : HRel ρ A A') (h : Turn ρ σ A B A' B') (h2 : Turn σ τ B C B' C') : Turn ρ τ A C A' C' where
 os := h2.os.trans h.os
 output := h2.output.trans h.output
 tape := h2.tape.trans h.tape
 size := Nat.le_trans h.size h2.size
 lsize := Nat.le_trans h.lsize h2.lsize
 keep := fun b' hb hs => (h2.keep b' (Nat.lt_of_lt_of_le hb h.size) fun b hr => by
  rcases h.fresh b b' hr with h3 | ⟨_, h3⟩
  ·exact (h.stiff b (H.lt h3).1).2 (hs b h3)
  ·omega).trans (h.keep b' hb hs)
 stiff := fun b hb => (h2.stiff b (Nat.lt_of_lt_of_le hb h.lsize)).trans (h.stiff b hb)
 fresh := fun b b' hr => by
  rcases h2.fresh b b' hr with h3 | ⟨h3, h4⟩
  ·exact h.fresh b b' h3
  ·exact .inr ⟨Nat.le_trans h.lsize h3, Nat.le_trans h.size h4⟩
 drawn := by have := h.drawn; have := h2.drawn; omega
 ldrawn := Nat.le_trans h.ldrawn h2.ldrawn
 ltape := h2.ltape.trans h.ltape
theorem ask_drawn {α : Type} : ∀ (a : Ask α) (w : World), w.drawn <= (w.ask a).2.drawn
 | .done _, _ => Nat.le_refl _
 | .ask what range k, w => by
  unfold World.ask
  simp only
  split
  ·exact ask_drawn (k 0) w
  ·exact Nat.le_trans (Nat.le_succ _) (ask_drawn _ { w with drawn := w.drawn + 1 })
theorem sys_drawn (w : World) (c : Sys) : w.drawn <= (w.sys c).2.drawn := by
 unfold World.sys
 have := ask_drawn (Kernel.perform c w.os) w
 split
 ·exact Nat.le_refl _
 ·rename_i h
  rw [h] at this
  exact this
theorem farStore_drawn {P : Program} {w : World} {a : Addr} {v : Value} {m : Bool} {w2 : World} {l : List Addr} (h : w.farStore P a v m = .ok (w2, l)) : w2.drawn = w.drawn := by
 unfold World.farStore at h
 split at h
 ·rename_i b u _
  split at h
  ·rename_i r hr
   cases h
   unfold World.viewStore at hr
   simp only [bind, Except.bind, pure, Except.pure] at hr
   repeat' split at hr
   all_goals first | (cases hr; done) | (cases hr; rfl)
  ·cases h
 ·cases h
theorem runT_drawn {α : Type} (P : Program) (s : Sem α) : ∀ {W W1 : World} {es es1 : Array Event} {a : α}, s.runT P W es = (.ok a W1, es1) -> W.drawn <= W1.drawn := by
 induction s with
 | pure a => intro W W1 es es1 x h; simp only [Sem.runT] at h; cases h; exact Nat.le_refl _
 | load m a k ih =>
  intro W W1 es es1 x h
  simp only [Sem.runT] at h
  split at h
  ·exact ih _ h
  ·split at h
   ·exact ih _ h
   ·cases h
 | store m a v k ih =>
  intro W W1 es es1 x h
  cases v <;> simp only [Sem.runT] at h
  all_goals first | (cases h; done) | skip
  all_goals
   split at h
   ·split at h
    ·cases h
    ·exact ih (W := World.setCell _ _ _) h
   ·split at h
    ·rename_i hf
     rw [<- farStore_drawn hf]
     exact ih h
    ·cases h
 | new o k ih => intro W W1 es es1 x h; simp only [Sem.runT] at h; exact ih _ (W := { W with heap := W.heap.push o }) h
 | shape r k ih => intro W W1 es es1 x h; simp only [Sem.runT] at h; exact ih _ h
 | freeze a n k ih =>
  intro W W1 es es1 x h
  simp only [Sem.runT] at h
  have := ih h
  unfold World.freeze at this
  split at this <;> exact this
 | frozen a k ih => intro W W1 es es1 x h; simp only [Sem.runT] at h; exact ih _ h
 | getObj r k ih =>
  intro W W1 es es1 x h
  simp only [Sem.runT] at h
  split at h
  ·cases h
  ·exact ih _ h
  ·cases h
 | setObj r o k ih =>
  intro W W1 es es1 x h
  simp only [Sem.runT] at h
  split at h
  ·cases h
  ·exact ih (W := { W with heap := W.heap.setIfInBounds r o }) h
  ·cases h
 | choose q k ih =>
  intro W W1 es es1 x h
  simp only [Sem.runT] at h
  split at h
  ·exact ih _ h
  ·exact Nat.le_trans (Nat.le_succ _) (ih _ h)
 | sys c k ih => intro W W1 es es1 x h; simp only [Sem.runT] at h; exact Nat.le_trans (sys_drawn _ _) (ih _ h)
 | program k ih => intro W W1 es es1 x h; simp only [Sem.runT] at h; exact ih _ h
 | mark m k ih => intro W W1 es es1 x h; simp only [Sem.runT] at h; exact ih h
 | halt h0 => intro W W1 es es1 x h; simp only [Sem.runT] at h; cases h
theorem GoodEv.fwd {ρ σ : BRel} {W W' W1 W1' : World} {e : Event} (H : HRel ρ W W') (hl : BLe ρ σ) (T : Turn ρ σ W W1 W' W1') (h : GoodEv ρ W e) : GoodEv σ W1 e := by
 rcases h with h | ⟨h1, b, b', h2, h3, h5⟩
 ·exact .inl h
 ·exact .inr ⟨h1, b, b', hl.1 _ _ h2, h3, fun hw h => h5 hw ((T.stiff b (H.lt h2).1).1 h)⟩
theorem runT_store {α : Type} {P : Program} {a : Addr} {v : Value} (hv : soloV v = true) (k : Sem α) (W : World) (es : Array Event) : (Sem.store .plain a v k).runT P W es = match W.cell? a with
  | some _ => if W.frozen? a then (.halt (.unsupported (.unsafePointer "a write to bytes that a string shares")) W, es) else k.runT P (W.setCell a v) (es.push ⟨.cell a, true, Mode.plain == .atomic⟩)
  | none => match W.farStore P a v (Mode.plain == .atomic) with
   | .ok (w, touched) => k.runT P w (es ++ touched.toArray.map (⟨.cell ·, true, Mode.plain == .atomic⟩))
   | .error h => (.halt h W, es) := by
 cases v <;> first | (simp [soloV] at hv; done) | (simp only [Sem.runT]; rfl)
theorem VRel.solo {ρ : BRel} {v v' : Value} (h : VRel ρ v v') : soloV v' = soloV v := by
 cases h <;> first | rfl | skip
 rename_i h
 cases v' <;> first | rfl | cases h
theorem setCell_heap (W : World) (a : Addr) (v : Value) (b : Nat) : (W.setCell a v).heap[b]? = if a.block = b then (W.heap[b]?).map (fun | .cells c e fr => .cells (if a.spot.isSome then c else c.setIfInBounds a.off v) e fr | o => o) else W.heap[b]? := by
 unfold World.setCell
 simp only [Array.getElem?_modify]
 split
 ·rfl
 ·rfl
theorem cell_parts {W : World} {a : Addr} {v : Value} (h : W.cell? a = some v) : ∃ c e fr, W.heap[a.block]? = some (.cells c e fr) /\ a.spot.isSome = false /\ c[a.off]? = some v := by
 unfold World.cell? at h
 split at h
 ·rename_i c e fr hh
  by_cases hs : a.spot.isSome = true
  ·rw [if_pos hs] at h; cases h
  ·rw [if_neg hs] at h
   exact ⟨c, e, fr, hh, by simpa using hs, h⟩
 ·cases h
theorem not_stiff {W : World} {a : Addr} {v : Value} (h : W.cell? a = some v) (hf : W.frozen? a = false) : ¬ Stiff W a.block := by
 rintro ⟨c, e, hi, hh, hc⟩
 obtain ⟨c1, e1, fr1, h1, _, h3⟩ := cell_parts h
 rw [hh] at h1
 cases h1
 have := (Array.getElem?_eq_some_iff.1 h3).1
 unfold World.frozen? at hf
 rw [hh] at hf
 simp at hf
 omega
theorem shape_setCell (W : World) (a : Addr) (v : Value) (b : Nat) : (∃ c e fr, W.heap[b]? = some (.cells c e fr) /\ ∃ c', (W.setCell a v).heap[b]? = some (.cells c' e fr) /\ c'.size = c.size) \/ ((∀ c e fr, W.heap[b]? ≠ some (.cells c e fr)) /\ (W.setCell a v).heap[b]? = W.heap[b]?) := by
 rw [setCell_heap]
 by_cases hx : ∃ c e fr, W.heap[b]? = some (.cells c e fr)
 ·obtain ⟨c, e, fr, hh⟩ := hx
  refine .inl ⟨c, e, fr, hh, ?_⟩
  rw [hh]
  split
  ·refine ⟨_, rfl, ?_⟩
   split
   ·rfl
   ·simp
  ·exact ⟨c, rfl, rfl⟩
 ·refine .inr ⟨fun c e fr h => hx ⟨c, e, fr, h⟩, ?_⟩
  split
  ·rcases hh : W.heap[b]? with _ | o
   ·rfl
   ·cases o <;> first | rfl | exact absurd ⟨_, _, _, hh⟩ hx
  ·rfl
theorem stiff_setCell {W : World} {a : Addr} {v : Value} {b : Nat} : Stiff (W.setCell a v) b ↔ Stiff W b := by
 unfold Stiff
 rcases shape_setCell W a v b with ⟨c, e, fr, h1, c', h2, h3⟩ | ⟨h1, h2⟩
 ·rw [h1, h2]
  constructor
  ·rintro ⟨c2, e2, hi, h4, h5⟩
   cases h4
   exact ⟨_, _, _, rfl, by omega⟩
  ·rintro ⟨c2, e2, hi, h4, h5⟩
   cases h4
   exact ⟨_, _, _, rfl, by omega⟩
 ·rw [h2]
theorem frozen_setCell (W : World) (a x : Addr) (v : Value) : (W.setCell a v).frozen? x = W.frozen? x := by
 unfold World.frozen?
 rw [setCell_heap]
 by_cases e : a.block = x.block
 ·rw [if_pos e]
  rcases W.heap[x.block]? with _ | o
  ·rfl
  ·cases o <;> rfl
 ·rw [if_neg e]
theorem RowRel.set {ρ : BRel} {c c' : Array Value} (h : RowRel ρ c c') (i : Nat) {v v' : Value} (hv : VRel ρ v v') : RowRel ρ (c.setIfInBounds i v) (c'.setIfInBounds i v') := by
 refine ⟨by simp [h.1], fun j h1 h2 => ?_⟩
 rw [Array.getElem_setIfInBounds, Array.getElem_setIfInBounds]
 ·by_cases hji : i = j
  ·rw [if_pos hji, if_pos hji]; exact hv
  ·rw [if_neg hji, if_neg hji]; exact h.2 j _ _
 ·simpa using h2
 ·simpa using h1
theorem HRel.setCell {ρ : BRel} {W W' : World} (H : HRel ρ W W') {a a' : Addr} (ha : ARel ρ a a') {v v' : Value} (hv : VRel ρ v v') : HRel ρ (W.setCell a v) (W'.setCell a' v') where
 fine := H.fine
 many := by simpa [World.setCell] using H.many
 objs := fun b b' hb => by
  obtain ⟨o, o', h1, h2, h3⟩ := H.objs b b' hb
  rw [setCell_heap, setCell_heap, h1, h2]
  cases ha with | @mk c c' hc off sp =>
  simp only
  by_cases e : c = b
  ·subst e
   have e' : c' = b' := H.fine.left _ _ _ hc hb
   rw [if_pos rfl, if_pos e']
   cases h3 with
   | cells h e fr fr' =>
    refine ⟨_, _, rfl, rfl, ?_⟩
    simp only
    by_cases hs : sp.isSome = true
    ·rw [if_pos hs, if_pos hs]; exact .cells h e fr fr'
    ·rw [if_neg hs, if_neg hs]; exact .cells (h.set _ hv) e fr fr'
   | loop s p fn h ps x y hx hy hp hd => exact ⟨_, _, rfl, rfl, .loop s p fn h ps x y hx hy hp hd⟩
   | noDefers => exact ⟨_, _, rfl, rfl, .noDefers⟩
   | taken => exact ⟨_, _, rfl, rfl, .taken⟩
   | number h l => exact ⟨_, _, rfl, rfl, .number h l⟩
  ·have e' : ¬ c' = b' := fun x => e (H.fine.right _ _ _ (x ▸ hc) hb)
   rw [if_neg e, if_neg e']
   exact ⟨o, o', rfl, rfl, h3⟩
 thaw := fun b b' off hb hf => by
  rw [frozen_setCell] at hf ⊢
  exact H.thaw b b' off hb hf
theorem Turn.setCell {ρ : BRel} {W W' : World} {a a' : Addr} (ha : ARel ρ a a') {v v' : Value} (hns : ¬ Stiff W a.block) : Turn ρ ρ W (W.setCell a v) W' (W'.setCell a' v') where
 os := rfl
 output := rfl
 tape := rfl
 size := by simp [World.setCell]
 lsize := by simp [World.setCell]
 keep := fun b' _ hs => by
  rw [setCell_heap]
  cases ha with | @mk c c' hc off sp =>
  rw [if_neg]
  intro e
  exact hns (hs c (by have e2 : c' = b' := e; rw [<- e2]; exact hc))
 stiff := fun b _ => stiff_setCell
 fresh := fun _ _ h => .inl h
 drawn := Nat.add_comm _ _
 ldrawn := Nat.le_refl _
 ltape := rfl
def BNew (ρ : BRel) (r r' : Nat) : BRel := fun b b' => ρ b b' \/ (b = r /\ b' = r')
theorem push_old (h : Array Obj) (o : Obj) {b : Nat} (hb : b < h.size) : (h.push o)[b]? = h[b]? := by
 rw [Array.getElem?_push, if_neg (by omega)]
theorem push_new (h : Array Obj) (o : Obj) : (h.push o)[h.size]? = some o := by
 rw [Array.getElem?_push, if_pos rfl]
theorem Dead.runs {α : Type} {s : Sem α} {P : Program} (h : Dead P s) : ∀ {W W1 : World} {es es1 : Array Event} {a : α}, s.runT P W es ≠ (.ok a W1, es1) := by
 induction h with
 | new _ ih => intro W W1 es es1 x hr; simp only [Sem.runT] at hr; exact ih _ hr
 | shape _ ih => intro W W1 es es1 x hr; simp only [Sem.runT] at hr; exact ih _ hr
 | frozen _ ih => intro W W1 es es1 x hr; simp only [Sem.runT] at hr; exact ih _ hr
 | choose _ ih =>
  intro W W1 es es1 x hr
  simp only [Sem.runT] at hr
  split at hr
  ·exact ih _ hr
  ·exact ih _ hr
 | program _ ih => intro W W1 es es1 x hr; simp only [Sem.runT] at hr; exact ih hr
 | mark _ ih => intro W W1 es es1 x hr; simp only [Sem.runT] at hr; exact ih hr
 | stop h hh => intro W W1 es es1 x hr; simp only [Sem.runT] at hr; cases hr
theorem HRel.noInit {ρ : BRel} {W W' : World} (H : HRel ρ W W') {a a' : Addr} (ha : ARel ρ a a') (s : String) : okH (W.noCell a s) = true := by
 cases ha with | mk hb o sp =>
 obtain ⟨x, x', h1, h2, h3⟩ := H.objs _ _ hb
 unfold World.noCell
 simp only [h1]
 cases h3 <;> rfl
theorem HRel.farH {ρ : BRel} {W W' : World} (H : HRel ρ W W') {P : Program} {a a' : Addr} (ha : ARel ρ a a') {m : Bool} {h : Halt} (e : W.farLoad P a m = .error h) : okH h = true := by
 have := H.noInit ha "load: no such cell"
 cases ha with | mk hb o sp =>
 obtain ⟨x, x', h1, h2, h3⟩ := H.objs _ _ hb
 unfold World.farLoad at e
 simp only [h1] at e
 cases h3 <;> (cases e; exact this)
theorem HRel.farSH {ρ : BRel} {W W' : World} (H : HRel ρ W W') {P : Program} {a a' : Addr} (ha : ARel ρ a a') {v : Value} {m : Bool} {h : Halt} (e : W.farStore P a v m = .error h) : okH h = true := by
 have := H.noInit ha "store: no such cell"
 cases ha with | mk hb o sp =>
 obtain ⟨x, x', h1, h2, h3⟩ := H.objs _ _ hb
 unfold World.farStore at e
 simp only [h1] at e
 cases h3 <;> (cases e; exact this)
theorem HRel.grown {ρ : BRel} {W W' : World} (H : HRel ρ W W') (o : Obj) : HRel ρ { W with heap := W.heap.push o } W' := by
 refine ⟨H.fine, ⟨by have := H.many.1; simp; omega, H.many.2⟩, fun b b' hb => ?_, fun b b' off hb hf => H.thaw b b' off hb ?_⟩
 ·obtain ⟨x, x', h1, h2, h3⟩ := H.objs b b' hb
  exact ⟨x, x', by show (W.heap.push o)[b]? = _; rw [push_old _ _ (H.lt hb).1]; exact h1, h2, h3⟩
 ·unfold World.frozen? at hf ⊢
  simp only at hf ⊢
  rw [push_old _ _ (H.lt hb).1] at hf
  exact hf
theorem Dead.halts {α : Type} {s : Sem α} {P : Program} (h : Dead P s) : ∀ {ρ : BRel} {W W' W1 : World} {es es1 : Array Event} {x : Halt}, HRel ρ W W' -> s.runT P W es = (.halt x W1, es1) -> okH x = true /\ HRel ρ W1 W' := by
 induction h with
 | new _ ih => intro ρ W W' W1 es es1 x H hr; simp only [Sem.runT] at hr; exact ih _ (H.grown _) hr
 | shape _ ih => intro ρ W W' W1 es es1 x H hr; simp only [Sem.runT] at hr; exact ih _ H hr
 | frozen _ ih => intro ρ W W' W1 es es1 x H hr; simp only [Sem.runT] at hr; exact ih _ H hr
 | choose _ ih =>
  intro ρ W W' W1 es es1 x H hr
  simp only [Sem.runT] at hr
  split at hr
  ·exact ih _ H hr
  ·exact ih _ (W := { W with drawn := W.drawn + 1 }) ⟨H.fine, H.many, H.objs, H.thaw⟩ hr
 | program _ ih => intro ρ W W' W1 es es1 x H hr; simp only [Sem.runT] at hr; exact ih H hr
 | mark _ ih => intro ρ W W' W1 es es1 x H hr; simp only [Sem.runT] at hr; exact ih H hr
 | stop h hh => intro ρ W W' W1 es es1 x H hr; simp only [Sem.runT] at hr; cases hr; exact ⟨hh, H⟩
theorem set_get (h : Array Obj) (q b : Nat) (z : Obj) (hq : q < h.size) : (h.setIfInBounds q z)[b]? = if q = b then some z else h[b]? := by
 rw [Array.getElem?_setIfInBounds]
 by_cases e : q = b
 ·subst e; simp [hq]
 ·simp [e]
theorem HRel.push {ρ : BRel} {W W' : World} (H : HRel ρ W W') {o o' : Obj} (ho : ORel ρ o o') (hfr : ∀ c e lo hi, o' = .cells c e (lo, hi) -> lo = 0 /\ hi = 0) : BLe ρ (BNew ρ W.heap.size W'.heap.size) /\ HRel (BNew ρ W.heap.size W'.heap.size) { W with heap := W.heap.push o } { W' with heap := W'.heap.push o' } := by
 have hl0 : ∀ b b', ρ b b' -> BNew ρ W.heap.size W'.heap.size b b' := fun _ _ h => .inl h
 have hfine : Fine (BNew ρ W.heap.size W'.heap.size) := by
  refine ⟨?_, ?_, ?_, ?_, fun g hg => .inl (H.fine.tabs g hg)⟩
  ·rintro a x y (h1 | ⟨h1, h1'⟩) (h2 | ⟨h2, h2'⟩)
   ·exact H.fine.left _ _ _ h1 h2
   ·have := (H.lt h1).1; omega
   ·have := (H.lt h2).1; omega
   ·omega
  ·rintro a b x (h1 | ⟨h1, h1'⟩) (h2 | ⟨h2, h2'⟩)
   ·exact H.fine.right _ _ _ h1 h2
   ·have := (H.lt h1).2; omega
   ·have := (H.lt h2).2; omega
   ·omega
  ·rintro a x (h1 | ⟨h1, h1'⟩) hg
   ·exact H.fine.low _ _ h1 hg
   ·have := H.many.1; omega
  ·rintro a x (h1 | ⟨h1, h1'⟩) hg
   ·exact H.fine.high _ _ h1 hg
   ·have := H.many.2; omega
 have hl : BLe ρ (BNew ρ W.heap.size W'.heap.size) := ⟨hl0, fun _ => hfine⟩
 have H2 : HRel (BNew ρ W.heap.size W'.heap.size) { W with heap := W.heap.push o } { W' with heap := W'.heap.push o' } := by
  refine ⟨hfine, ⟨by have := H.many.1; simp; omega, by have := H.many.2; simp; omega⟩, ?_, ?_⟩
  ·rintro b b' (h1 | ⟨rfl, rfl⟩)
   ·obtain ⟨y, y', h3, h4, h5⟩ := H.objs b b' h1
    exact ⟨y, y', by rw [push_old _ _ (H.lt h1).1]; exact h3, by rw [push_old _ _ (H.lt h1).2]; exact h4, h5.mono hl⟩
   ·exact ⟨o, o', push_new _ _, push_new _ _, ho.mono hl⟩
  ·rintro b b' off (h1 | ⟨rfl, rfl⟩) hf
   ·unfold World.frozen? at hf ⊢
    simp only at hf ⊢
    rw [push_old _ _ (H.lt h1).1] at hf
    rw [push_old _ _ (H.lt h1).2]
    exact H.thaw b b' off h1 hf
   ·unfold World.frozen?
    simp only
    rw [push_new]
    rcases o' with ⟨c, e, lo, hi⟩ | _ | _ | _ | _ | _ | _ | _ | _ | _ | _ | _ <;> try rfl
    obtain ⟨rfl, rfl⟩ := hfr c e lo hi rfl
    simp
 exact ⟨hl, H2⟩
theorem HRel.setObj {ρ : BRel} {W W' : World} (H : HRel ρ W W') {r r' : Nat} (hr0 : ρ r r') {o o' : Obj} (hn : ∀ c e f, o ≠ .cells c e f) (ho : ORel ρ o o') : HRel ρ { W with heap := W.heap.setIfInBounds r o } { W' with heap := W'.heap.setIfInBounds r' o' } := by
 have hlt := H.lt hr0
 have hset := set_get
 have hn' : ∀ c e f, o' ≠ .cells c e f := by
  intro c e f he
  cases ho with
  | cells h e fr fr' => exact hn _ _ _ rfl
  | loop => cases he
  | noDefers => cases he
  | taken => cases he
  | number => cases he
 refine ⟨H.fine, by simp; exact H.many, ?_, ?_⟩
 ·intro b b' hb
  obtain ⟨z, z', g1, g2, g3⟩ := H.objs b b' hb
  simp only
  rw [hset _ _ _ _ hlt.1, hset _ _ _ _ hlt.2]
  by_cases e : r = b
  ·subst e
   rw [if_pos rfl, if_pos (H.fine.left _ _ _ hr0 hb)]
   exact ⟨o, o', rfl, rfl, ho⟩
  ·rw [if_neg e, if_neg (fun (e' : r' = b') => e (H.fine.right _ _ _ (by rw [<- e']; exact hr0) hb))]
   exact ⟨z, z', g1, g2, g3⟩
 ·intro b b' off hb hf
  unfold World.frozen? at hf ⊢
  simp only at hf ⊢
  rw [hset _ _ _ _ hlt.1] at hf
  rw [hset _ _ _ _ hlt.2]
  by_cases e : r = b
  ·subst e
   rw [if_pos (H.fine.left _ _ _ hr0 hb)]
   rcases o' with ⟨c, e, f⟩ | _ | _ | _ | _ | _ | _ | _ | _ | _ | _ | _ <;> try rfl
   exact absurd rfl (hn' c e f)
  ·rw [if_neg e] at hf
   rw [if_neg (fun (e' : r' = b') => e (H.fine.right _ _ _ (by rw [<- e']; exact hr0) hb))]
   exact H.thaw b b' off hb hf
theorem Sim.halts {α : Type} {R : BRel -> α -> α -> Prop} {ρ : BRel} {s s' : Sem α} {P : Program} (h : Sim P R ρ s s') :
  ∀ {W W' W1 : World} {es es1 : Array Event} {x : Halt}, HRel ρ W W' -> s.runT P W es = (.halt x W1, es1) -> okH x = true /\ ∃ σ W1', BLe ρ σ /\ HRel σ W1 W1' := by
 induction h with
 | pure h => intro W W' W1 es es1 x H hr; simp only [Sem.runT] at hr; cases hr
 | load ha _ ih =>
  intro W W' W1 es es1 x H hr
  simp only [Sem.runT] at hr
  rename_i a a' _ _ _
  rcases hc : W.cell? a with _ | v
  ·rcases hf : W.farLoad P a (Mode.plain == .atomic) with y | y
   ·simp only [hc, hf] at hr
    cases hr
    exact ⟨H.farH ha hf, _, _, BLe.refl _, H⟩
   ·obtain ⟨z, hz⟩ := H.far (P := P) ha (Mode.plain == .atomic)
    rw [hz] at hf
    cases hf
  ·simp only [hc] at hr
   obtain ⟨v', hv', hvr⟩ := H.cell ha hc
   exact ih v v' hvr H hr
 | store ha hv _ ih =>
  intro W W' W1 es es1 x H hr
  rename_i a a' v v' _ _ _
  by_cases hsv : soloV v = true
  ·rw [runT_store hsv] at hr
   rcases hc : W.cell? a with _ | u
   ·rcases hf : W.farStore P a v (Mode.plain == .atomic) with y | y
    ·simp only [hc, hf] at hr
     cases hr
     exact ⟨H.farSH ha hf, _, _, BLe.refl _, H⟩
    ·obtain ⟨z, hz⟩ := H.farS (P := P) ha v (Mode.plain == .atomic)
     rw [hz] at hf
     cases hf
   ·simp only [hc] at hr
    by_cases hf : W.frozen? a = true
    ·rw [if_pos hf] at hr
     cases hr
     exact ⟨rfl, _, _, BLe.refl _, H⟩
    ·rw [if_neg hf] at hr
     exact ih (H.setCell ha hv) hr
  ·cases v <;> simp [soloV] at hsv <;> (simp only [Sem.runT] at hr; cases hr; exact ⟨rfl, _, _, BLe.refl _, H⟩)
 | new ho hfr _ ih =>
  intro W W' W1 es es1 x H hr
  simp only [Sem.runT] at hr
  obtain ⟨hl, H2⟩ := H.push ho hfr
  obtain ⟨h1, σ, W1', h2, h3⟩ := ih _ _ _ hl (.inr ⟨rfl, rfl⟩) H2 hr
  exact ⟨h1, σ, W1', hl.trans h2, h3⟩
 | room _ ih => intro W W' W1 es es1 x H hr; simp only [Sem.runT] at hr; exact ih H hr
 | shape hr0 _ ih => intro W W' W1 es es1 x H hr; simp only [Sem.runT] at hr; exact ih _ H hr
 | getObj hr0 _ ih =>
  intro W W' W1 es es1 x H hr
  simp only [Sem.runT] at hr
  obtain ⟨y, y', h1, h2, h3⟩ := H.objs _ _ hr0
  rw [h1] at hr
  cases h3 with
  | cells h e fr fr' => cases hr; exact ⟨rfl, _, _, BLe.refl _, H⟩
  | loop s p fn h ps x y hx hy hp hd => exact ih _ _ (.loop s p fn h ps x y hx hy hp hd) H hr
  | noDefers => exact ih _ _ .noDefers H hr
  | taken => exact ih _ _ .taken H hr
  | number h l => exact ih _ _ (.number h l) H hr
 | setObj hr0 hn ho _ ih =>
  intro W W' W1 es es1 x H hr
  simp only [Sem.runT] at hr
  obtain ⟨y, y', h1, h2, h3⟩ := H.objs _ _ hr0
  rw [h1] at hr
  cases h3 with
  | cells h e fr fr' => cases hr; exact ⟨rfl, _, _, BLe.refl _, H⟩
  | loop => exact ih (H.setObj hr0 hn ho) hr
  | noDefers => exact ih (H.setObj hr0 hn ho) hr
  | taken => exact ih (H.setObj hr0 hn ho) hr
  | number => exact ih (H.setObj hr0 hn ho) hr
 | choose _ ih =>
  intro W W' W1 es es1 x H hr
  simp only [Sem.runT] at hr
  split at hr
  ·exact ih _ H hr
  ·exact ih _ (W := { W with drawn := W.drawn + 1 }) ⟨H.fine, H.many, H.objs, H.thaw⟩ hr
 | program _ ih => intro W W' W1 es es1 x H hr; simp only [Sem.runT] at hr; exact ih H hr
 | dead h =>
  intro W W' W1 es es1 x H hr
  obtain ⟨h1, h2⟩ := h.halts H hr
  exact ⟨h1, _, _, BLe.refl _, h2⟩
theorem Sim.runs {α : Type} {R : BRel -> α -> α -> Prop} {ρ : BRel} {s s' : Sem α} {P : Program} (h : Sim P R ρ s s') :
  ∀ {W W' W1 : World} {es es1 es' : Array Event} {a : α}, HRel ρ W W' -> Like W W1 W' -> s.runT P W es = (.ok a W1, es1) ->
   ∃ σ a' W1' ds, BLe ρ σ /\ R σ a a' /\ HRel σ W1 W1' /\ s'.runT P W' es' = (.ok a' W1', es' ++ ds) /\ Turn ρ σ W W1 W' W1' /\ ∀ e ∈ ds, GoodEv σ W1 e := by
 induction h with
 | @pure ρ a a' h =>
  intro W W' W1 es es1 es' x H ht hr
  simp only [Sem.runT] at hr
  cases hr
  exact ⟨ρ, a', W', #[], BLe.refl _, h, H, by simp [Sem.runT], Turn.refl _ _ _, fun e he => by simp at he⟩
 | @load ρ a a' k k' ha _ ih =>
  intro W W' W1 es es1 es' x H ht hr
  simp only [Sem.runT] at hr ⊢
  rcases hc : W.cell? a with _ | v
  ·obtain ⟨y, hy⟩ := H.far (P := P) ha (Mode.plain == .atomic)
   simp only [hc, hy] at hr
   cases hr
  ·simp only [hc] at hr
   obtain ⟨v', hv', hvr⟩ := H.cell ha hc
   simp only [hv']
   obtain ⟨σ, a1, W1', ds, h1, h2, h3, h4, h5, h6⟩ := ih v v' hvr (es' := es'.push ⟨.cell a', false, Mode.plain == .atomic⟩) H ht hr
   refine ⟨σ, a1, W1', #[⟨.cell a', false, Mode.plain == .atomic⟩] ++ ds, h1, h2, h3, by rw [h4]; simp, h5, fun e he => ?_⟩
   simp only [Array.mem_append, Array.mem_singleton] at he
   rcases he with rfl | he
   ·cases ha with | mk hb o s => exact GoodEv.fwd H h1 h5 (.inr ⟨rfl, _, _, hb, .inl ⟨_, rfl, rfl⟩, fun hw => by cases hw⟩)
   ·exact h6 e he
 | @store ρ a a' v v' k k' ha hv _ ih =>
  intro W W' W1 es es1 es' x H ht hr
  by_cases hsv : soloV v = true
  ·rw [runT_store hsv] at hr
   rcases hc : W.cell? a with _ | u
   ·obtain ⟨y, hy⟩ := H.farS (P := P) ha v (Mode.plain == .atomic)
    simp only [hc, hy] at hr
    cases hr
   ·simp only [hc] at hr
    by_cases hf : W.frozen? a = true
    ·rw [if_pos hf] at hr; cases hr
    ·rw [if_neg hf] at hr
     have hf0 : W.frozen? a = false := by simpa using hf
     obtain ⟨u', hu', _⟩ := H.cell ha hc
     have hns := not_stiff hc hf0
     have hf' : W'.frozen? a' = false := by
      cases ha with | mk hb o s => exact H.thaw _ _ _ hb hf0
     rw [runT_store (by rw [hv.solo]; exact hsv)]
     simp only [hu', hf', Bool.false_eq_true, if_false]
     obtain ⟨σ, a1, W1', ds, h1, h2, h3, h4, h5, h6⟩ := ih (es' := es'.push ⟨.cell a', true, Mode.plain == .atomic⟩) (H.setCell ha hv) ht hr
     have T := (Turn.setCell ha (v := v) (v' := v') (W' := W') hns).trans H h5
     refine ⟨σ, a1, W1', #[⟨.cell a', true, Mode.plain == .atomic⟩] ++ ds, h1, h2, h3, by rw [h4]; simp, T, fun e he => ?_⟩
     simp only [Array.mem_append, Array.mem_singleton] at he
     rcases he with rfl | he
     ·cases ha with | mk hb o s => exact GoodEv.fwd H h1 T (.inr ⟨rfl, _, _, hb, .inl ⟨_, rfl, rfl⟩, fun _ => hns⟩)
     ·exact h6 e he
  ·cases v <;> simp [soloV] at hsv <;> (simp only [Sem.runT] at hr; cases hr)
 | @new ρ o o' k k' ho hfr _ ih =>
  intro W W' W1 es es1 es' x H ht hr
  simp only [Sem.runT] at hr ⊢
  obtain ⟨hl, H2⟩ := H.push ho hfr
  obtain ⟨σ, a1, W1', ds, h1, h2, h3, h4, h5, h6⟩ := ih _ _ _ hl (.inr ⟨rfl, rfl⟩) (es' := es') H2 ht hr
  have hst : ∀ b, b < W.heap.size -> (Stiff { W with heap := W.heap.push o } b ↔ Stiff W b) := fun b hb => by unfold Stiff; simp only; rw [push_old _ _ hb]
  have t1 : Turn ρ (BNew ρ W.heap.size W'.heap.size) W { W with heap := W.heap.push o } W' { W' with heap := W'.heap.push o' } := ⟨rfl, rfl, rfl, by simp, by simp, fun b' hb _ => push_old _ _ hb, hst, by
   rintro b b' (h | ⟨rfl, rfl⟩)
   ·exact .inl h
   ·exact .inr ⟨Nat.le_refl _, Nat.le_refl _⟩, Nat.add_comm _ _, Nat.le_refl _, rfl⟩
  exact ⟨σ, a1, W1', ds, hl.trans h1, h2, h3, h4, t1.trans H h5, h6⟩
 | room _ ih =>
  intro W W' W1 es es1 es' x H ht hr
  simp only [Sem.runT] at hr ⊢
  obtain ⟨σ, a1, W1', ds, g1, g2, g3, g4, g5, g6⟩ := ih (es' := es'.push ⟨.mark .noRoom, false, true⟩) H ht hr
  refine ⟨σ, a1, W1', #[⟨.mark .noRoom, false, true⟩] ++ ds, g1, g2, g3, by rw [g4]; simp, g5, fun e he => ?_⟩
  simp only [Array.mem_append, Array.mem_singleton] at he
  rcases he with rfl | he
  ·exact .inl rfl
  ·exact g6 e he
 | @shape ρ r r' k k' hr0 _ ih =>
  intro W W' W1 es es1 es' x H ht hr
  simp only [Sem.runT] at hr ⊢
  rw [H.shape hr0]
  exact ih _ H ht hr
 | @getObj ρ r r' k k' hr0 _ ih =>
  intro W W' W1 es es1 es' x H ht hr
  simp only [Sem.runT] at hr ⊢
  obtain ⟨y, y', h1, h2, h3⟩ := H.objs _ _ hr0
  have key : ∀ o o', ORel ρ o o' -> W.heap[r]? = some o -> W'.heap[r']? = some o' -> (∀ c e f, o ≠ .cells c e f) -> (k o).runT P W (es.push ⟨.obj r, false, o.isChan⟩) = (.ok x W1, es1) -> (o'.isChan = false) ->
    ∃ σ a' W1' ds, BLe ρ σ /\ R σ x a' /\ HRel σ W1 W1' /\ (k' o').runT P W' (es'.push ⟨.obj r', false, o'.isChan⟩) = (.ok a' W1', es' ++ ds) /\ Turn ρ σ W W1 W' W1' /\ ∀ e ∈ ds, GoodEv σ W1 e := by
   intro o o' ho _ _ _ hr2 hch
   obtain ⟨σ, a1, W1', ds, g1, g2, g3, g4, g5, g6⟩ := ih o o' ho (es' := es'.push ⟨.obj r', false, o'.isChan⟩) H ht hr2
   refine ⟨σ, a1, W1', #[⟨.obj r', false, o'.isChan⟩] ++ ds, g1, g2, g3, by rw [g4]; simp, g5, fun e he => ?_⟩
   simp only [Array.mem_append, Array.mem_singleton] at he
   rcases he with rfl | he
   ·exact GoodEv.fwd H g1 g5 (.inr ⟨hch, _, _, hr0, .inr rfl, fun hw => by cases hw⟩)
   ·exact g6 e he
  rw [h1] at hr
  rw [h2]
  cases h3 with
  | cells h e fr fr' => cases hr
  | loop s p fn h ps x y hx hy hp hd => exact key _ _ (.loop s p fn h ps x y hx hy hp hd) h1 h2 (fun _ _ _ => by simp) hr rfl
  | noDefers => exact key _ _ .noDefers h1 h2 (fun _ _ _ => by simp) hr rfl
  | taken => exact key _ _ .taken h1 h2 (fun _ _ _ => by simp) hr rfl
  | number h l => exact key _ _ (.number h l) h1 h2 (fun _ _ _ => by simp) hr rfl
 | @setObj ρ r r' o o' k k' hr0 hn ho _ ih =>
  intro W W' W1 es es1 es' x H ht hr
  simp only [Sem.runT] at hr ⊢
  obtain ⟨y, y', h1, h2, h3⟩ := H.objs _ _ hr0
  have hlt := H.lt hr0
  have hch : o'.isChan = false := by
   cases ho <;> rfl
  have hn' : ∀ c e f, o' ≠ .cells c e f := by
   intro c e f he
   cases ho with
   | cells h e fr fr' => exact hn _ _ _ rfl
   | loop => cases he
   | noDefers => cases he
   | taken => cases he
   | number => cases he
  have hset := set_get
  have hnc : ∀ c e f, y ≠ .cells c e f := by
   intro c e f he
   subst he
   rw [h1] at hr
   cases hr
  have hst : ∀ b, Stiff { W with heap := W.heap.setIfInBounds r o } b ↔ Stiff W b := by
   intro b
   unfold Stiff
   simp only
   rw [hset _ _ _ _ hlt.1]
   by_cases e : r = b
   ·subst e
    rw [if_pos rfl, h1]
    exact ⟨fun ⟨c, e, hi, x, _⟩ => absurd (Option.some.inj x) (hn _ _ _), fun ⟨c, e, hi, x, _⟩ => absurd (Option.some.inj x) (hnc _ _ _)⟩
   ·rw [if_neg e]
  have H2 := H.setObj hr0 hn ho
  have hns : ¬ Stiff W r := by
   rintro ⟨c, e, hi, hh, _⟩
   rw [h1] at hh
   exact hnc _ _ _ (Option.some.inj hh)
  have hr2 : k.runT P { W with heap := W.heap.setIfInBounds r o } (es.push ⟨.obj r, true, o.isChan⟩) = (.ok x W1, es1) := by
   rw [h1] at hr
   cases h3 with
   | cells h e fr fr' => cases hr
   | loop => exact hr
   | noDefers => exact hr
   | taken => exact hr
   | number => exact hr
  obtain ⟨σ, a1, W1', ds, g1, g2, g3, g4, g5, g6⟩ := ih (es' := es'.push ⟨.obj r', true, o'.isChan⟩) H2 ht hr2
  have t1 : Turn ρ ρ W { W with heap := W.heap.setIfInBounds r o } W' { W' with heap := W'.heap.setIfInBounds r' o' } := ⟨rfl, rfl, rfl, by simp, by simp, fun b' _ hs => by
   simp only
   rw [hset _ _ _ _ hlt.2, if_neg]
   rintro rfl
   exact hns (hs r hr0), fun b _ => hst b, fun _ _ h => .inl h, Nat.add_comm _ _, Nat.le_refl _, rfl⟩
  refine ⟨σ, a1, W1', #[⟨.obj r', true, o'.isChan⟩] ++ ds, g1, g2, g3, ?_, t1.trans H g5, fun e he => ?_⟩
  ·rw [h2]
   have : ∀ y', ORel ρ y y' -> (match some y' with
    | some (Obj.cells ..) => (Result.halt (.stuck "setObj: a row of cells") W', es')
    | some _ => k'.runT P { W' with heap := W'.heap.setIfInBounds r' o' } (es'.push ⟨.obj r', true, o'.isChan⟩)
    | none => (.halt (.stuck "setObj: no such block") W', es')) = k'.runT P { W' with heap := W'.heap.setIfInBounds r' o' } (es'.push ⟨.obj r', true, o'.isChan⟩) := by
    intro y' hy
    cases hy with
    | cells h e fr fr' => exact absurd rfl (hnc _ _ _)
    | loop => rfl
    | noDefers => rfl
    | taken => rfl
    | number => rfl
   refine (this y' h3).trans ?_
   rw [g4]; simp
  ·simp only [Array.mem_append, Array.mem_singleton] at he
   rcases he with rfl | he
   ·exact GoodEv.fwd H g1 (t1.trans H g5) (.inr ⟨hch, _, _, hr0, .inr rfl, fun _ => hns⟩)
   ·exact g6 e he
 | @choose ρ q k k' _ ih =>
  intro W W' W1 es es1 es' x H ht hr
  simp only [Sem.runT] at hr ⊢
  by_cases hq : q.forced = true
  ·rw [if_pos hq] at hr ⊢
   exact ih 0 H ht hr
  ·rw [if_neg hq] at hr ⊢
   have hd := runT_drawn P _ hr
   have hd2 : W.drawn < W1.drawn := hd
   have ht0 := ht 0 q (by simpa using hd2)
   simp only [Nat.add_zero] at ht0
   rw [<- ht0]
   have H2 : HRel ρ { W with drawn := W.drawn + 1 } { W' with drawn := W'.drawn + 1 } := ⟨H.fine, H.many, H.objs, H.thaw⟩
   have ht2 : Like { W with drawn := W.drawn + 1 } W1 { W' with drawn := W'.drawn + 1 } := fun i q hi => by
    have := ht (i + 1) q (by simp only at hi; omega)
    simp only
    rw [show W.drawn + 1 + i = W.drawn + (i + 1) by omega, show W'.drawn + 1 + i = W'.drawn + (i + 1) by omega]
    exact this
   obtain ⟨σ, a1, W1', ds, g1, g2, g3, g4, g5, g6⟩ := ih _ (es' := es') H2 ht2 hr
   have t1 : Turn ρ ρ W { W with drawn := W.drawn + 1 } W' { W' with drawn := W'.drawn + 1 } := ⟨rfl, rfl, rfl, Nat.le_refl _, Nat.le_refl _, fun _ _ _ => rfl, fun _ _ => Iff.rfl, fun _ _ h => .inl h, by simp only; omega, Nat.le_succ _, rfl⟩
   exact ⟨σ, a1, W1', ds, g1, g2, g3, g4, t1.trans H g5, g6⟩
 | program _ ih =>
  intro W W' W1 es es1 es' x H ht hr
  simp only [Sem.runT] at hr ⊢
  exact ih H ht hr
 | dead h =>
  intro W W' W1 es es1 es' x H ht hr
  exact absurd hr h.runs
end
end Go.Proofs.YtdobjciaikofdaaGreatDoor
