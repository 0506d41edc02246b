/- Part 22 of 39 of what the proof of this law needs. Put together by a program out of the texts: LnD LnL LnE LnF. -/
import Derived.Test.YtdobjciaikofdaaGreatDoorTopShakeAll20
import Derived.DyingOn
import Derived.Test.YtdobjciaikofdaaGreatDoorTopShakeAll21
import Derived.Test.YtdobjciaikofdaaGreatDoorProg
import Derived.KernelRfl
namespace Go.Proofs.YtdobjciaikofdaaGreatDoor
section
open Go Go.Conc
def lnI (r : Bool) : Item -> Bool
 | .code c => lnC r c
 | .inBlock _ | .inRangeFunc _ | .endRangeFunc _ | .beginRound => true
 | .inLoop b | .inScope b => lnC r b
 | .inRegion ops _ => ops.all (fun o => lnOp r o.op)
 | _ => false
def lnF (fr : Frame) : Bool := fr.todo.all (lnI fr.roundOf.isSome) && fr.defers.all lnD
def lastKind : Frame -> List Frame -> CallKind
 | fr, [] => fr.kind
 | _, c :: cs => lastKind c cs
structure lnFs (fr : Frame) (cs : List Frame) : Prop where
 top : lnF fr = true
 all : ∀ c ∈ cs, lnF c = true
 kind : lastKind fr cs = .normal
def ending (P : Program) : Frame := { fn := P.funcs.size, tmps := #[], todo := [.call ⟨.nil, #[]⟩ false "fmt's door" #[]], defers := [], mode := .run, kind := .normal }
structure ProgLn (P : Program) : Prop where
 body : ∀ (f : FuncId) (fn : Func) (c : Code), P.funcs[f]? = some fn -> fn.body = some c -> lnC false c = true
 op : ∀ (ρ : Operand -> Value) (o : Oper) (r : Bool), lnOp r o.op = true -> Tidy P lnX (execOp ρ o)
 inv : ∀ t args, lnT t = true -> Tidy P lnN (invoke t args)
 back : P.follows .rangeFuncRecover = true
 ahead : P.follows .staticDataAhead = true
 val : ∀ (v : Value) (args : Array Value), Tidy P (fun d => lnD d = true) (Deferred.ofValue v args)
def mkG (c : Option (Array CommCase × Bool × CommShape)) (g : Goroutine) (w : World) (es : Array Event) : GStep := match c with
 | none => .go g w es
 | some (cs, b, sh) => .comm g cs b sh w es
theorem mkG_inj {c c' : Option (Array CommCase × Bool × CommShape)} {g g' : Goroutine} {w w' : World} {es es' : Array Event} (h : mkG c g w es = mkG c' g' w' es') : c = c' /\ g = g' /\ w = w' /\ es = es' := by
 rcases c with _ | ⟨a, b, d⟩ <;> rcases c' with _ | ⟨a', b', d'⟩
 ·cases h; exact ⟨rfl, rfl, rfl, rfl⟩
 ·cases h
 ·cases h
 ·cases h; exact ⟨rfl, rfl, rfl, rfl⟩
theorem mkG_after {c : Option (Array CommCase × Bool × CommShape)} {g : Goroutine} {w : World} {es es2 : Array Event} : GStep.after es (mkG c g w es2) = mkG c g w (es ++ es2) := by
 rcases c with _ | ⟨a, b, d⟩ <;> rfl
inductive Over (P : Program) : GStep -> Prop
 | ended {o : Outcome} {w : World} {es : Array Event} : Over P (.ended o w es)
 | spawn {g c : Goroutine} {w : World} {es : Array Event} : Over P (.spawn g c w es)
 | fatal {g : Goroutine} {w : World} {es : Array Event} (h : g.dyingOn P) : Over P (.go g w es)
theorem Over.after {P : Program} {X : GStep} (h : Over P X) (es : Array Event) : Over P (GStep.after es X) := by
 cases h with
 | ended => exact .ended
 | spawn => exact .spawn
 | fatal h => exact .fatal h
theorem not_over {P : Program} {c : Option (Array CommCase × Bool × CommShape)} {fr : Frame} {cs : List Frame} {w : World} {es : Array Event} (h : Over P (mkG c (G fr cs) w es)) : False := by
 rcases c with _ | ⟨a, b, d⟩
 ·generalize hx : mkG none (G fr cs) w es = x at h
  cases h with
  | ended => cases hx
  | spawn => cases hx
  | fatal h =>
   cases hx
   obtain ⟨_, d, hd, _⟩ := h
   cases hd
 ·generalize hx : mkG (some (a, b, d)) (G fr cs) w es = x at h
  cases h <;> cases hx
theorem mkG_popped {c : Option (Array CommCase × Bool × CommShape)} {fr fr2 e : Frame} {cs : List Frame} {w w2 : World} {es es2 : Array Event} (h : mkG c (G fr (cs ++ [e])) w es = .go (G fr2 []) w2 es2) : False := by
 rcases c with _ | ⟨a, b, d⟩
 ·injection h with a _ _
  injection a with _ b
  simp at b
 ·cases h
def StepBoth (P : Program) (tl : List Frame) (w0 W w : World) (X Y : GStep) : Prop :=
 Over P X \/ (∃ fr1 W1 es, X = .go (G fr1 []) W1 es /\ ((∃ v, fr1 = (ending P).finish v) \/ ∃ ch, fr1 = (ending P).raise ch)) \/ ∃ c fr1 cs1 W1 es, X = mkG c (G fr1 (cs1 ++ [ending P])) W1 es /\ lnFs fr1 cs1 /\ W.drawn <= W1.drawn /\ W1.tape = W.tape /\ Fair W1 /\ W.heap.size <= W1.heap.size /\
  (Tunes W w W1.drawn -> ∃ w1 es', Y = mkG c (G fr1 (cs1 ++ tl)) w1 es' /\ Veil w0 W1 w1 /\ (∀ e ∈ es', MildE w1.heap.size e) /\ w1.tape = w.tape /\ w1.drawn + W.drawn = W1.drawn + w.drawn)
section
variable {P : Program} {tl : List Frame}
theorem StepBoth.ended {w0 W w W1 : World} {o : Outcome} {es : Array Event} {Y : GStep} : StepBoth P tl w0 W w (.ended o W1 es) Y := .inl .ended
theorem StepBoth.popped {w0 W w W1 : World} {v : Value} {es : Array Event} {Y : GStep} : StepBoth P tl w0 W w (.go (G ((ending P).finish v) []) W1 es) Y := .inr (.inl ⟨_, _, _, rfl, .inl ⟨v, rfl⟩⟩)
theorem StepBoth.raised {w0 W w W1 : World} {ch : List PanicEntry} {es : Array Event} {Y : GStep} : StepBoth P tl w0 W w (.go (G ((ending P).raise ch) []) W1 es) Y := .inr (.inl ⟨_, _, _, rfl, .inr ⟨ch, rfl⟩⟩)
theorem StepBoth.mk {w0 W w : World} (c : Option (Array CommCase × Bool × CommShape)) (V : Veil w0 W w) (F : Fair W) {fr1 : Frame} {cs1 : List Frame} (h : lnFs fr1 cs1) : StepBoth P tl w0 W w (mkG c (G fr1 (cs1 ++ [ending P])) W #[]) (mkG c (G fr1 (cs1 ++ tl)) w #[]) :=
 .inr (.inr ⟨c, _, _, _, _, rfl, h, Nat.le_refl _, rfl, F, Nat.le_refl _, fun _ => ⟨_, _, rfl, V, fun e he => by simp at he, rfl, Nat.add_comm _ _⟩⟩)
theorem StepBoth.go {w0 W w : World} (V : Veil w0 W w) (F : Fair W) {fr1 : Frame} {cs1 : List Frame} (h : lnFs fr1 cs1) : StepBoth P tl w0 W w (.go (G fr1 (cs1 ++ [ending P])) W #[]) (.go (G fr1 (cs1 ++ tl)) w #[]) := StepBoth.mk none V F h
end
theorem Veil.self {W : World} : Veil W W W := ⟨rfl, rfl, rfl, fun _ _ => rfl, fun _ h => ⟨rfl, _, h, .inr rfl⟩⟩
theorem tunes_self {W : World} {hi : Nat} : Tunes W W hi := fun _ _ _ => rfl
theorem mem_seenL {P : Program} {fn : FuncId} {es : Array Event} {e : Event} (h : e ∈ seen P fn es) : e ∈ es := by
 have key : ∀ (l : List Event) (q : Bool) (kept : Array Event), e ∈ (l.foldl (fun (q, kept) e => match e.loc with
   | .mark (.extern f) => ((P.funcs[f]?).any (·.norace), kept)
   | _ => (q, if q && !e.sync then kept else kept.push e)) (q, kept)).2 -> e ∈ kept \/ e ∈ l := by
  intro l
  induction l with
  | nil => intro q kept h; exact .inl h
  | cons x l ih =>
   intro q kept h
   rw [List.foldl_cons] at h
   have h2 := ih _ _ h
   rcases h2 with h2 | h2
   ·split at h2
    ·exact .inl h2
    ·dsimp only at h2
     split at h2
     ·exact .inl h2
     ·rcases Array.mem_push.1 h2 with h3 | h3
      ·exact .inl h3
      ·exact .inr (by rw [h3]; exact List.mem_cons_self)
   ·exact .inr (List.mem_cons_of_mem _ h2)
 unfold seen at h
 dsimp only at h
 rw [<- Array.foldl_toList] at h
 rcases key es.toList _ #[] h with h | h
 ·simp at h
 ·simpa using h
theorem after_stepG {es : Array Event} {X : GStep} {g : Goroutine} {W : World} {es2 : Array Event} (h : X = .go g W es2) : GStep.after es X = .go g W (es ++ es2) := by rw [h]; rfl
theorem after_mkG {es : Array Event} {X : GStep} {c : Option (Array CommCase × Bool × CommShape)} {g : Goroutine} {W : World} {es2 : Array Event} (h : X = mkG c g W es2) : GStep.after es X = mkG c g W (es ++ es2) := by rw [h]; exact mkG_after
theorem Tunes.upTo {W w : World} {hi hi' : Nat} (h : Tunes W w hi) (hl : hi' <= hi) : Tunes W w hi' := fun i q h' => h i q (by omega)
theorem Tunes.from {W w W1 w1 : World} {hi : Nat} (h : Tunes W w hi) (ht : W1.tape = W.tape) (ht' : w1.tape = w.tape) (hd : w1.drawn + W.drawn = W1.drawn + w.drawn) (hl : W.drawn <= W1.drawn) : Tunes W1 w1 hi := by
 intro i q hi'
 have := h (W1.drawn - W.drawn + i) q (by omega)
 rw [ht, ht', show W1.drawn + i = W.drawn + (W1.drawn - W.drawn + i) by omega, show w1.drawn + i = w.drawn + (W1.drawn - W.drawn + i) by omega]
 exact this
theorem StepBoth.run {P : Program} {tl : List Frame} {α : Type} {R : α -> Prop} {s : Sem α} (hs : Tidy P R s) {w0 W w : World} (V : Veil w0 W w) (F : Fair W) {K K' : Result α -> GStep} {E E' : Array Event} (hE' : ∀ e ∈ E', e ∈ (s.runT P w #[]).2)
  (hok : ∀ w0 a W1 w1, R a -> Veil w0 W1 w1 -> Fair W1 -> StepBoth P tl w0 W1 w1 (K (.ok a W1)) (K' (.ok a w1))) (hhalt : ∀ w0 h W1 w1, lnH h = true -> Veil w0 W1 w1 -> Fair W1 -> StepBoth P tl w0 W1 w1 (K (.halt h W1)) (K' (.halt h w1)))
  (hst : ∀ m W1, ∃ o W2 es, K (.halt (.stuck m) W1) = .ended o W2 es) :
  StepBoth P tl w0 W w (GStep.after E (K (s.runT P W #[]).1)) (GStep.after E' (K' (s.runT P w #[]).1)) := by
 have hend : ∀ {o W2 es Y}, K (s.runT P W #[]).1 = .ended o W2 es -> StepBoth P tl w0 W w (GStep.after E (K (s.runT P W #[]).1)) Y := fun h => by rw [h]; exact .ended
 have hstuck : ∀ {m W1 Y}, (s.runT P W #[]).1 = .halt (.stuck m) W1 -> StepBoth P tl w0 W w (GStep.after E (K (s.runT P W #[]).1)) Y := fun {m W1 Y} h => by
  obtain ⟨o, W2, es, e2⟩ := hst m W1
  exact hend (by rw [h]; exact e2)
 rcases hs.both (Veil.self (W := W)) F #[] #[] with ⟨m, W1, e⟩ | ⟨_, hself⟩
 ·exact hstuck e
 obtain ⟨_, _, b0⟩ := hself tunes_self
 rcases hs.both V F #[] #[] with ⟨m, W1, e⟩ | ⟨_, hcomp⟩
 ·exact hstuck e
 have f0 := b0.fair
 have c1 := b0.size
 have c2 := b0.ltape
 have c3 := b0.ldrawn
 -- the goal out of what K does
 have main : ∀ (r1 : World -> Result α), (∀ w, resWorld (r1 w) = w) -> (s.runT P W #[]).1 = r1 (resWorld (s.runT P W #[]).1) -> (∀ w1, Tunes W w (resWorld (s.runT P W #[]).1).drawn -> (s.runT P w #[]).1 = r1 w1 -> True) ->
   (∀ w0 W1 w1, Veil w0 W1 w1 -> Fair W1 -> StepBoth P tl w0 W1 w1 (K (r1 W1)) (K' (r1 w1))) -> (Tunes W w (resWorld (s.runT P W #[]).1).drawn -> (s.runT P w #[]).1 = r1 (resWorld (s.runT P w #[]).1)) ->
   StepBoth P tl w0 W w (GStep.after E (K (s.runT P W #[]).1)) (GStep.after E' (K' (s.runT P w #[]).1)) := by
  intro r1 hr1 e1 _ hK hr2
  obtain ⟨W1, hW1⟩ : ∃ W1, resWorld (s.runT P W #[]).1 = W1 := ⟨_, rfl⟩
  rw [hW1] at f0 c1 c2 c3 e1 hr2 hcomp
  rcases hK W1 W1 W1 Veil.self f0 with hov | ⟨fr1, W2, es, e, hp⟩ | ⟨c, fr1, cs1, W2, es, e, g1, g2, g3, g4, g5, _⟩
  ·exact .inl (by rw [e1]; exact hov.after E)
  ·exact .inr (.inl ⟨fr1, W2, E ++ es, by rw [e1]; exact after_stepG e, hp⟩)
  ·refine .inr (.inr ⟨c, fr1, cs1, W2, E ++ es, by rw [e1]; exact after_mkG e, g1, Nat.le_trans c3 g2, g3.trans c2, g4, Nat.le_trans c1 g5, fun T => ?_⟩)
   have T1 := T.upTo g2
   have e2 := hr2 T1
   obtain ⟨es2, k1, b⟩ := hcomp T1
   obtain ⟨w1, hw1⟩ : ∃ w1, resWorld (s.runT P w #[]).1 = w1 := ⟨_, rfl⟩
   rw [hw1] at e2
   have bv := b.veil
   rw [hW1, hw1] at bv
   have bt := b.tape
   rw [hw1] at bt
   have bd := b.drawn
   rw [hW1, hw1] at bd
   have bm := b.mild
   rw [hw1] at bm
   rcases hK w0 W1 w1 bv f0 with hov | ⟨fr2, W3, es3, e3, _⟩ | ⟨c2, fr2, cs2, W3, es3, e3, _, _, _, _, _, hY⟩
   ·rw [e] at hov; exact (not_over hov).elim
   ·rw [e] at e3; exact (mkG_popped e3).elim
   ·rw [e] at e3
    obtain ⟨a0, a1, a2, _⟩ := mkG_inj e3
    injection a1 with a3 a4
    have a5 := List.append_cancel_right a4
    subst a3 a2 a5 a0
    obtain ⟨w2, es4, y1, y2, y3, y4, y5⟩ := hY (T.from c2 bt bd c3)
    refine ⟨w2, E' ++ es4, by rw [e2]; exact after_mkG y1, y2, fun x hx => ?_, y4.trans bt, by omega⟩
    rcases Array.mem_append.1 hx with hx | hx
    ·have := hE' x hx
     rw [k1, Array.empty_append] at this
     refine (bm x this).mono ?_
     rw [bv.size, y2.size]
     exact g5
    ·exact y3 x hx
 rcases b0.rel with ⟨a, e1, _, ha⟩ | ⟨h, e1, _, hh⟩
 ·refine main (fun w => .ok a w) (fun _ => rfl) e1 (fun _ _ _ => trivial) (fun w0 W1 w1 V1 F1 => hok w0 a W1 w1 ha V1 F1) fun T => ?_
  obtain ⟨es2, _, b⟩ := hcomp T
  rcases b.rel with ⟨a', e2, e3, _⟩ | ⟨h', e2, _, _⟩
  ·rw [e1] at e2
   cases e2
   exact e3
  ·rw [e1] at e2; cases e2
 ·refine main (fun w => .halt h w) (fun _ => rfl) e1 (fun _ _ _ => trivial) (fun w0 W1 w1 V1 F1 => hhalt w0 h W1 w1 hh V1 F1) fun T => ?_
  obtain ⟨es2, _, b⟩ := hcomp T
  rcases b.rel with ⟨a', e2, _, _⟩ | ⟨h', e2, e3, _⟩
  ·rw [e1] at e2; cases e2
  ·rw [e1] at e2
   cases e2
   exact e3
theorem StepBoth.run2 {P : Program} {tl : List Frame} {α : Type} {R : α -> Prop} {s : Sem α} (hs : Tidy P R s) {w0 W w : World} (V : Veil w0 W w) (F : Fair W) {cs cs' : List Frame} (B : List Frame -> Result α -> Array Event -> GStep) {X Y : GStep} (eX : X = B cs (s.runT P W #[]).1 (s.runT P W #[]).2) (eY : Y = B cs' (s.runT P w #[]).1 (s.runT P w #[]).2)
  (hE : ∀ cs r es, ∃ E, (∀ e ∈ E, e ∈ es) /\ B cs r es = GStep.after E (B cs r #[]))
  (hok : ∀ w0 a W1 w1, R a -> Veil w0 W1 w1 -> Fair W1 -> StepBoth P tl w0 W1 w1 (B cs (.ok a W1) #[]) (B cs' (.ok a w1) #[])) (hhalt : ∀ w0 h W1 w1, lnH h = true -> Veil w0 W1 w1 -> Fair W1 -> StepBoth P tl w0 W1 w1 (B cs (.halt h W1) #[]) (B cs' (.halt h w1) #[]))
  (hst : ∀ cs m W1, ∃ o W2 es, B cs (.halt (.stuck m) W1) #[] = .ended o W2 es) : StepBoth P tl w0 W w X Y := by
 obtain ⟨E1, _, e1⟩ := hE cs (s.runT P W #[]).1 (s.runT P W #[]).2
 obtain ⟨E2, h2, e2⟩ := hE cs' (s.runT P w #[]).1 (s.runT P w #[]).2
 rw [eX, eY, e1, e2]
 exact StepBoth.run hs V F (K := fun r => B cs r #[]) (K' := fun r => B cs' r #[]) h2 hok hhalt (hst cs)
end
section
open Go Go.Conc
set_option linter.unusedSectionVars false
set_option maxRecDepth 10000
section
variable {P : Program}
theorem t_globalAddr (n : String) : Tidy P (fun _ => True) (globalAddr n) := by
 unfold globalAddr
 exact tidy_auto
instance i_globalAddr (n : String) : TC P (globalAddr n) := ⟨t_globalAddr ..⟩
theorem t_extLoadBytes : ∀ (n : Nat) (a : Addr) (acc : ByteArray), Tidy P (fun _ => True) (Extern.Bytes.loadBytes a n acc)
 | 0, _, _ => .pure trivial
 | n + 1, a, acc => by
  have ih := t_extLoadBytes n
  unfold Extern.Bytes.loadBytes
  repeat' (first
   | (with_reducible first | exact TC.h | exact ih .. | refine tidy_program ?_ | refine tidy_getObj ?_ fun _ _ => ?_ | refine t_newObj ?_ ?_ | refine t_setObj ?_ ?_)
   | (show lnO _; exact trivial) | (show plainO _ = true; rfl) | exact .inl ⟨_, rfl⟩ | exact .inr ⟨fun _ => rfl, fun _ => rfl⟩
   | (with_reducible first | refine tidy_mapMA (fun _ => ?_) _ | refine tidy_mapM (fun _ => ?_) _ | refine t_forArray (fun _ _ => ?_) _ _ | refine t_forRange (fun _ _ => ?_) _ _ | refine t_forList (fun _ _ => ?_) _ _ | refine t_map ?_ | refine tidy_pureBind ?_ | refine Tidy.bind (R := fun _ => True) ?_ fun _ _ => ?_ | refine tidy_ifTT ?_ | refine tidy_ifNT ?_ | refine tidy_ifFF ?_ | refine tidy_ifNF ?_)
   | split | dsimp only)
instance i_extLoadBytes (n : Nat) (a : Addr) (acc : ByteArray) : TC P (Extern.Bytes.loadBytes a n acc) := ⟨t_extLoadBytes ..⟩
theorem t_extBytesOf (v : Value) : Tidy P (fun _ => True) (Extern.Bytes.bytesOf v) := by
 unfold Extern.Bytes.bytesOf
 exact tidy_auto
instance i_extBytesOf (v : Value) : TC P (Extern.Bytes.bytesOf v) := ⟨t_extBytesOf ..⟩
theorem t_extAsByte (v : Value) : Tidy P (fun _ => True) (Extern.Bytes.asByte v) := by
 unfold Extern.Bytes.asByte
 exact tidy_auto
instance i_extAsByte (v : Value) : TC P (Extern.Bytes.asByte v) := ⟨t_extAsByte ..⟩
theorem t_extMaxLen  : Tidy P (fun _ => True) (Extern.BytealgIndex.maxLen) := by
 unfold Extern.BytealgIndex.maxLen
 exact tidy_auto
instance i_extMaxLen  : TC P (Extern.BytealgIndex.maxLen) := ⟨t_extMaxLen ..⟩
theorem t_extDescribed (v : Value) : Tidy P (fun _ => True) (Extern.RuntimeError.described v) := by
 unfold Extern.RuntimeError.described
 exact tidy_auto
instance i_extDescribed (v : Value) : TC P (Extern.RuntimeError.described v) := ⟨t_extDescribed ..⟩
theorem t_extText (v : String) : Tidy P (fun _ => True) (Extern.RuntimeError.text v) := by
 unfold Extern.RuntimeError.text
 exact tidy_auto
instance i_extText (v : String) : TC P (Extern.RuntimeError.text v) := ⟨t_extText ..⟩
theorem t_extPkg (i : TypeInfo) : Tidy P (fun _ => True) (Extern.RuntimeError.pkgpathOf i) := by
 unfold Extern.RuntimeError.pkgpathOf
 exact tidy_auto
instance i_extPkg (i : TypeInfo) : TC P (Extern.RuntimeError.pkgpathOf i) := ⟨t_extPkg ..⟩
theorem t_extTypeAssertion (v : Array Value) : Tidy P (fun _ => True) (Extern.RuntimeError.typeAssertionError v) := by
 unfold Extern.RuntimeError.typeAssertionError
 exact tidy_auto
theorem t_extNoEscape (x : Array Value) : Tidy P (fun _ => True) (Extern.AbiNoEscape.same x) := by
 rcases x with ⟨_ | ⟨x, _ | ⟨y, l⟩⟩⟩
 ·exact .halt rfl
 ·exact .pure trivial
 ·exact .halt rfl
theorem t_extIndexByte (x : Array Value) : Tidy P (fun _ => True) (Extern.BytealgIndexByte.indexByte x) := by
 rcases x with ⟨_ | ⟨x, _ | ⟨y, _ | ⟨z, l⟩⟩⟩⟩
 ·exact .halt rfl
 ·exact .halt rfl
 ·show Tidy P _ (Extern.Bytes.bytesOf x >>= _)
  exact tidy_auto
 ·exact .halt rfl
theorem t_extCount (x : Array Value) : Tidy P (fun _ => True) (Extern.BytealgCount.count x) := by
 rcases x with ⟨_ | ⟨x, _ | ⟨y, _ | ⟨z, l⟩⟩⟩⟩
 ·exact .halt rfl
 ·exact .halt rfl
 ·show Tidy P _ (Extern.Bytes.bytesOf x >>= _)
  exact tidy_auto
 ·exact .halt rfl
theorem t_extIndex (x : Array Value) : Tidy P (fun _ => True) (Extern.BytealgIndex.index x) := by
 rcases x with ⟨_ | ⟨x, _ | ⟨y, _ | ⟨z, l⟩⟩⟩⟩
 ·exact .halt rfl
 ·exact .halt rfl
 ·show Tidy P _ (Extern.Bytes.bytesOf x >>= _)
  exact tidy_auto
 ·exact .halt rfl
theorem t_extThree (n : String) (x : Array Value) : Tidy P (fun _ => True) (Extern.MathBitsCarry.three n x) := by
 rcases x with ⟨_ | ⟨x, _ | ⟨y, _ | ⟨z, _ | ⟨u, l⟩⟩⟩⟩⟩
 ·exact .halt rfl
 ·exact .halt rfl
 ·exact .halt rfl
 ·show Tidy P _ (asInt z >>= _)
  exact tidy_auto
 ·exact .halt rfl
theorem t_extNoZero (p r : Array TypeId) (x : Array Value) : Tidy P (fun _ => True) (Extern.BytealgMakeNoZero.makeNoZero p r x) := by
 rcases x with ⟨_ | ⟨x, _ | ⟨y, l⟩⟩⟩
 ·exact .halt rfl
 ·cases x
  case int k n =>
   cases k
   case i64 =>
    show Tidy P _ (match r[0]? with | some t => _ | _ => _)
    exact tidy_auto
   all_goals exact .halt rfl
  all_goals exact .halt rfl
 ·exact .halt rfl
theorem t_extUnhashable (x : Array Value) : Tidy P (fun _ => True) (Extern.RuntimeError.unhashableTypeError x) := by
 rcases x with ⟨_ | ⟨x, _ | ⟨y, l⟩⟩⟩
 ·exact .halt rfl
 ·cases x
  case agg cs =>
   rcases cs with ⟨_ | ⟨x, _ | ⟨y, l⟩⟩⟩
   ·exact .halt rfl
   ·show Tidy P _ (Extern.RuntimeError.described x >>= _)
    exact tidy_auto
   ·exact .halt rfl
  all_goals exact .halt rfl
 ·exact .halt rfl
theorem t_extBounds (x : Array Value) : Tidy P (fun _ => True) (Extern.RuntimeError.boundsError x) := by
 rcases x with ⟨_ | ⟨x, _ | ⟨y, l⟩⟩⟩
 ·exact .halt rfl
 ·cases x
  case agg cs =>
   rcases cs with ⟨_ | ⟨x0, _ | ⟨x1, _ | ⟨x2, _ | ⟨x3, _ | ⟨x4, l⟩⟩⟩⟩⟩⟩
   case cons.cons.cons.cons.nil =>
    cases x0 <;> first | (exact .halt rfl) | skip
    cases x1 <;> first | (exact .halt rfl) | skip
    cases x2 <;> first | (exact .halt rfl) | skip
    cases x3 <;> first | (exact .halt rfl) | skip
    rename_i k1 n1 k2 n2 b k3 n3
    show Tidy P _ (match (if b && n1 < 0 then Extern.RuntimeError.boundsNegErrorFmts else Extern.RuntimeError.boundsErrorFmts)[n3.toNat]? with | some _ => _ | none => _)
    exact tidy_auto
   all_goals exact .halt rfl
  all_goals exact .halt rfl
 ·exact .halt rfl
end
end
section
open Go Go.Conc
section
variable {P : Program} {tl : List Frame} {w0 W w : World} {fr : Frame} {cs : List Frame}
theorem lastKind_with {fr fr' : Frame} (hk : fr'.kind = fr.kind) (cs : List Frame) : lastKind fr' cs = lastKind fr cs := by
 cases cs with
 | nil => exact hk
 | cons c cs => rfl
theorem lnFs.with {fr fr' : Frame} {cs : List Frame} (h : lnFs fr cs) (h' : lnF fr' = true) (hk : fr'.kind = fr.kind) : lnFs fr' cs := ⟨h', h.all, (lastKind_with hk cs).trans h.kind⟩
theorem lnFs.push {fr fr' : Frame} {cs : List Frame} (h : lnFs fr cs) (h' : lnF fr' = true) : lnFs fr' (fr :: cs) := ⟨h', fun c hc => by
 rcases List.mem_cons.1 hc with rfl | hc
 ·exact h.top
 ·exact h.all c hc, h.kind⟩
theorem lnFs.pop {fr c : Frame} {cs : List Frame} (h : lnFs fr (c :: cs)) : lnFs c cs := ⟨h.all c List.mem_cons_self, fun x hx => h.all x (List.mem_cons_of_mem _ hx), h.kind⟩
theorem finish_kind (fr : Frame) (v : Value) : (fr.finish v).kind = fr.kind := by
 unfold Frame.finish
 split <;> rfl
theorem raise_kind (fr : Frame) (vs : List PanicEntry) : (fr.raise vs).kind = fr.kind := by
 unfold Frame.raise
 split <;> rfl
theorem lnF_mode {fr : Frame} (m : FrameMode) (h : lnF fr = true) : lnF { fr with mode := m } = true := h
theorem lnF_parts {fr : Frame} (h : lnF fr = true) : fr.todo.all (lnI fr.roundOf.isSome) = true /\ fr.defers.all lnD = true := by
 unfold lnF at h
 rw [Bool.and_eq_true] at h
 exact h
theorem lnF_mk {fr : Frame} (h1 : fr.todo.all (lnI fr.roundOf.isSome) = true) (h2 : fr.defers.all lnD = true) : lnF fr = true := by
 unfold lnF
 rw [h1, h2]
 rfl
theorem lnF_finish {fr : Frame} (v : Value) (h : lnF fr = true) : lnF (fr.finish v) = true := by
 obtain ⟨h1, h2⟩ := lnF_parts h
 obtain ⟨fn, tmps, todo, defers, mode, kind, roundOf⟩ := fr
 unfold Frame.finish
 dsimp only at h1 h2 ⊢
 split
 all_goals first
  | (refine lnF_mk ?_ h2; simp_all [lnI]; done)
  | exact h
theorem lnF_raise {fr : Frame} (vs : List PanicEntry) (h : lnF fr = true) : lnF (fr.raise vs) = true := by
 unfold Frame.raise
 split <;> exact h
theorem lnF_enter (OK : ProgLn P) (f : FuncId) (args : Array Value) (k : CallKind) : lnF (Frame.enter P f args k) = true := by
 refine lnF_mk ?_ rfl
 unfold Frame.enter
 simp only [List.all_cons, List.all_nil, Bool.and_true, Option.isSome_none, lnI]
 rcases hf : P.funcs[f]? with _ | fn
 ·rfl
 ·rcases hb : fn.body with _ | c
  ·simp [hb]; rfl
  ·simp [hb]; exact OK.body f fn c hf hb
theorem tryRecover_two : ∀ {cs : List Frame} {fr : Frame}, lnFs fr cs -> (∀ x : List Frame, tryRecover fr (cs ++ x) = none) \/ ∃ v cs', (∀ x : List Frame, tryRecover fr (cs ++ x) = some (v, cs' ++ x)) /\ lnFs fr cs' := by
  intro cs
  induction cs with
  | nil =>
    intro fr h
    have hk : fr.kind = .normal := h.kind
    left
    intro x
    unfold tryRecover
    rw [hk]
  | cons c cs ih =>
    intro fr h
    have hp := h.pop
    cases hk : fr.kind
    case deferred =>
      cases hm : c.mode with
      | panicking ch =>
        rcases ch with _ | ⟨⟨v, r, g⟩, older⟩
        · left; intro x; unfold tryRecover; simp [hk, hm]
        · cases r <;> cases g <;> first
            | (left; intro x; unfold tryRecover; simp [hk, hm]; done)
            | (right
               refine ⟨v, { c with mode := .panicking ({ v, recovered := true } :: older) } :: cs, fun x => by unfold tryRecover; simp [hk, hm], ⟨h.top, fun y hy => ?_, ?_⟩⟩
               · rcases List.mem_cons.1 hy with rfl | hy
                 · exact lnF_mode _ hp.top
                 · exact hp.all y hy
               · exact (lastKind_with (fr := c) (fr' := { c with mode := .panicking ({ v, recovered := true } :: older) }) rfl cs).trans hp.kind)
      | _ => left; intro x; unfold tryRecover; simp [hk, hm]
    case wrapped =>
      rcases ih hp with h1 | ⟨v, cs', h1, h2⟩
      · left
        intro x
        have := h1 x
        show tryRecover fr (c :: (cs ++ x)) = none
        unfold tryRecover
        simp [hk, this]
      · right
        refine ⟨v, c :: cs', fun x => ?_, ⟨h.top, fun y hy => ?_, h2.kind⟩⟩
        · have := h1 x
          show tryRecover fr (c :: (cs ++ x)) = some (v, c :: (cs' ++ x))
          unfold tryRecover
          simp [hk, this]
        · rcases List.mem_cons.1 hy with rfl | hy
          · exact h2.top
          · exact h2.all y hy
    all_goals
      left
      intro x
      unfold tryRecover
      simp [hk]
def applyK (P : Program) (fr : Frame) (cs : List Frame) : Result Next -> GStep
 | .ok n w => stepG.apply P true fr cs none (.pure n) w
 | .halt h w => stepG.apply P true fr cs none (.halt h) w
def applyE (fr : Frame) (r : Result Next) (es : Array Event) : Array Event :=
 if fr.kind == .early then #[] else match r with
  | .halt .blocked _ | .halt .waiting _ | .halt (.unsupported (.initOrder _)) _ => #[]
  | _ => es
theorem after_nil (X : GStep) : GStep.after #[] X = X := by cases X <;> simp [GStep.after]
theorem seen_nil (fn : FuncId) : seen P fn #[] = #[] := rfl
theorem apply_is (s : Sem Next) (W : World) (cs : List Frame) : stepG.apply P true fr cs none s W = GStep.after (seen P fr.fn (applyE fr (s.runT P W #[]).1 (s.runT P W #[]).2)) (applyK P fr cs (s.runT P W #[]).1) := by
 rcases hr : s.runT P W #[] with ⟨r, es⟩
 have e1 : ∀ (X : GStep), GStep.after (seen P fr.fn (if (fr.kind == .early) = true then #[] else #[])) X = X := fun X => by
  split <;> (rw [seen_nil]; exact after_nil X)
 cases r with
 | ok n w =>
  unfold applyK applyE stepG.apply
  simp only [hr, Sem.runT, if_true, e1]
 | halt h w =>
  unfold applyK applyE stepG.apply
  simp only [hr, Sem.runT, if_true]
  cases h with
  | unsupported u => cases u <;> simp only [e1]
  | _ => simp only [e1]
theorem applyE_mem {r : Result Next} {es : Array Event} {e : Event} (h : e ∈ applyE fr r es) : e ∈ es := by
 unfold applyE at h
 split at h
 ·simp at h
 ·split at h <;> first | (simp at h; done) | exact h
theorem readies_none {r : Bool} : ∀ {c : Code}, lnC r c = true -> readies c = []
 | .region _ ops _, h => by
  simp only [lnC, Array.all_eq_true_iff_forall_mem] at h
  simp only [readies, List.filterMap_eq_nil_iff]
  intro o ho
  have := h o (by simpa using ho)
  split
  ·rename_i g hg
   rw [hg] at this
   cases this
  ·rfl
 | .seq a b, h => by
  simp only [lnC, Bool.and_eq_true] at h
  simp only [readies, readies_none h.1, readies_none h.2, List.append_nil]
 | .cond _ a b, h => by
  simp only [lnC, Bool.and_eq_true] at h
  simp only [readies, readies_none h.1, readies_none h.2, List.append_nil]
 | .rangeFunc _ _ a b, h => by
  simp only [lnC, Bool.and_eq_true] at h
  simp only [readies, readies_none h.1, readies_none h.2, List.append_nil]
 | .block _ c, h | .loop c, h | .scope c, h => by
  simp only [lnC] at h
  simp only [readies, readies_none h]
 | .skip, _ | .label _, _ | .exit _, _ | .goto _, _ | .ret, _ | .refuse _, _ => rfl
theorem early_ended (OK : ProgLn P) (g : Nat) (cs : List Frame) (w : World) : ∃ o w2 es, early P fr cs none g w = .ended o w2 es := by
 have hs : P.stepOf g = none := by
  unfold Program.stepOf
  rw [Array.findIdx?_eq_none_iff]
  intro f hf
  obtain ⟨i, hi⟩ := Array.mem_iff_getElem?.1 hf
  rcases hb : f.body with _ | c
  ·rfl
  ·have := OK.body i f c hi hb
   simp [readies_none this]
 unfold early
 simp only [OK.ahead, Bool.not_true, Bool.false_eq_true, if_false, hs]
 exact ⟨_, _, _, rfl⟩
theorem apply_both (OK : ProgLn P) {s : Sem Next} (hs : Tidy P lnX s) (hF : lnFs fr cs) (V : Veil w0 W w) (F : Fair W) : StepBoth P tl w0 W w (stepG.apply P true fr (cs ++ [ending P]) none s W) (stepG.apply P true fr (cs ++ tl) none s w) := by
 obtain ⟨h1, h2⟩ := lnF_parts hF.top
 -- the end of the computation, in either company
 have hok : ∀ w0 n W1 w1, lnX n -> Veil w0 W1 w1 -> Fair W1 -> StepBoth P tl w0 W1 w1 (applyK P fr (cs ++ [ending P]) (.ok n W1)) (applyK P fr (cs ++ tl) (.ok n w1)) := by
  intro w0 n W1 w1 hn V1 F1
  have hsf := fun v => StepBoth.go (P := P) (tl := tl) V1 F1 (fr1 := fr.finish v) (cs1 := cs) (hF.with (lnF_finish v hF.top) (finish_kind _ _))
  have ek : ∀ cs w, applyK P fr cs (.ok n w) = stepG.apply P true fr cs none (.pure n) w := fun cs w => rfl
  rw [ek, ek]
  cases n <;> first | (exact hn.elim) | skip
  case spawn d =>
   refine .inl ?_
   simp only [stepG.apply, Sem.runT, if_true, ite_self, seen_nil]
   repeat' split
   all_goals simp only [endThrow, after_nil]
   all_goals first | exact .spawn | exact .fatal (dieOf_okD (P := P) fr [] "go of nil func value" false W1)
  case comm cases b sh =>
   have := StepBoth.mk (P := P) (tl := tl) (some (cases, b, sh)) V1 F1 hF
   simpa [stepG.apply, Sem.runT, seen_nil, after_nil, G, mkG] using this
  case value v => simpa [stepG.apply, Sem.runT, seen_nil, after_nil, G] using hsf v
  case skip => simpa [stepG.apply, Sem.runT, seen_nil, after_nil, G] using hsf undef
  case enter f args =>
   have := StepBoth.go (P := P) (tl := tl) V1 F1 (fr1 := Frame.enter P f args .normal) (cs1 := fr :: cs) (hF.push (lnF_enter OK f args _))
   simp only [stepG.apply, Sem.runT, if_true, ite_self, seen_nil, after_nil]
   split
   ·rename_i hx
    rw [hx] at h1
    simp [lnI] at h1
   ·simpa [seen_nil, after_nil, G] using this
  case round l f t x y =>
   have := StepBoth.go (P := P) (tl := tl) V1 F1 (fr1 := Frame.round l f t x y .normal) (cs1 := fr :: cs) (hF.push (lnF_mk (by simp [Frame.round, lnI, hn.1, hn.2]) rfl))
   simpa [stepG.apply, Sem.runT, seen_nil, after_nil, G] using this
  case defer d =>
   have := StepBoth.go (P := P) (tl := tl) V1 F1 (fr1 := ({ fr with defers := d :: fr.defers }.finish undef)) (cs1 := cs) (hF.with (lnF_finish (fr := { fr with defers := d :: fr.defers }) undef (lnF_mk h1 (by rw [List.all_cons, h2, show lnD d = true from hn]; rfl))) (finish_kind _ _))
   simpa [stepG.apply, Sem.runT, seen_nil, after_nil, G] using this
  case recover =>
   simp only [stepG.apply, Sem.runT, if_true, ite_self, seen_nil, after_nil, OK.back]
   rcases tryRecover_two hF with h | ⟨v, cs', h, h3⟩
   ·simp only [h]
    have := hsf .nilIface
    cases hr : fr.roundOf <;> simpa [seen_nil, after_nil, G] using this
   ·have := StepBoth.go (P := P) (tl := tl) V1 F1 (fr1 := fr.finish v) (cs1 := cs') (h3.with (lnF_finish v hF.top) (finish_kind _ _))
    cases hr : fr.roundOf <;> simpa [h, seen_nil, after_nil, G] using this
 have hhalt : ∀ w0 h W1 w1, lnH h = true -> Veil w0 W1 w1 -> Fair W1 -> StepBoth P tl w0 W1 w1 (applyK P fr (cs ++ [ending P]) (.halt h W1)) (applyK P fr (cs ++ tl) (.halt h w1)) := by
  intro w0 h W1 w1 hh V1 F1
  have ek : ∀ cs w, applyK P fr cs (.halt h w) = stepG.apply P true fr cs none (.halt h) w := fun cs w => rfl
  rw [ek, ek]
  cases h with
  | panic v =>
   have := StepBoth.go (P := P) (tl := tl) V1 F1 (fr1 := fr.raise [{ v, recovered := false }]) (cs1 := cs) (hF.with (lnF_raise _ hF.top) (raise_kind _ _))
   simpa [stepG.apply, Sem.runT, seen_nil, after_nil, G] using this
  | stuck m => exact by simp only [stepG.apply, Sem.runT, if_true, ite_self, seen_nil, after_nil]; exact .ended
  | unsupported u =>
   cases u
   case initOrder g =>
    obtain ⟨o, w2, es, e⟩ := early_ended (fr := fr) OK g (cs ++ [ending P]) W1
    simp only [stepG.apply, Sem.runT, if_true, ite_self, seen_nil, e]
    exact .ended
   all_goals exact by simp only [stepG.apply, Sem.runT, if_true, ite_self, seen_nil, after_nil]; exact .ended
  | _ => cases hh
 rw [apply_is, apply_is]
 refine StepBoth.run2 hs V F (fun cs r es => GStep.after (seen P fr.fn (applyE fr r es)) (applyK P fr cs r)) rfl rfl (fun cs r es => ⟨seen P fr.fn (applyE fr r es), fun e he => applyE_mem (mem_seenL he), ?_⟩) ?_ ?_ ?_
 ·have : ∀ X, GStep.after (seen P fr.fn (applyE fr r #[])) X = X := fun X => by
   have : applyE fr r #[] = #[] := by unfold applyE; split <;> (try split) <;> rfl
   rw [this, seen_nil]; exact after_nil X
  rw [this]
 ·intro w0 n W1 w1 hn V1 F1
  have : ∀ r X, GStep.after (seen P fr.fn (applyE fr r #[])) X = X := fun r X => by
   have : applyE fr r #[] = #[] := by unfold applyE; split <;> (try split) <;> rfl
   rw [this, seen_nil]; exact after_nil X
  simp only [this]
  exact hok w0 n W1 w1 hn V1 F1
 ·intro w0 h W1 w1 hh V1 F1
  have : ∀ r X, GStep.after (seen P fr.fn (applyE fr r #[])) X = X := fun r X => by
   have : applyE fr r #[] = #[] := by unfold applyE; split <;> (try split) <;> rfl
   rw [this, seen_nil]; exact after_nil X
  simp only [this]
  exact hhalt w0 h W1 w1 hh V1 F1
 ·intro cs m W1
  have : ∀ r X, GStep.after (seen P fr.fn (applyE fr r #[])) X = X := fun r X => by
   have : applyE fr r #[] = #[] := by unfold applyE; split <;> (try split) <;> rfl
   rw [this, seen_nil]; exact after_nil X
  simp only [this]
  have ek : ∀ w, applyK P fr cs (.halt (.stuck m) w) = stepG.apply P true fr cs none (.halt (.stuck m)) w := fun w => rfl
  rw [ek]
  exact ⟨_, _, _, by simp [stepG.apply, Sem.runT, seen_nil, after_nil]; exact ⟨rfl, rfl, rfl⟩⟩
end
end
section
open Go Go.Conc
section
variable {P : Program} {tl : List Frame} {w0 W w : World} {fr : Frame} {cs : List Frame}
theorem return_both {v : Value} (hF : lnFs fr cs) (V : Veil w0 W w) (F : Fair W) : StepBoth P tl w0 W w (doReturn P true fr (cs ++ [ending P]) none v W) (doReturn P true fr (cs ++ tl) none v w) := by
 rcases cs with _ | ⟨c, cs⟩
 ·have hk : fr.kind = .normal := hF.kind
  have : doReturn P true fr ([] ++ [ending P]) none v W = .go (G ((ending P).finish v) []) W #[] := by
   unfold doReturn
   simp only [List.nil_append, hk]
   rfl
  rw [this]
  exact .popped
 ·have hp := hF.pop
  show StepBoth P tl w0 W w (doReturn P true fr (c :: (cs ++ [ending P])) none v W) (doReturn P true fr (c :: (cs ++ tl)) none v w)
  unfold doReturn
  have g1 := StepBoth.go (P := P) (tl := tl) V F (fr1 := c.finish v) (cs1 := cs) (hp.with (lnF_finish v hp.top) (finish_kind _ _))
  have g2 : ∀ m, StepBoth P tl w0 W w (.go (G { c with mode := m } (cs ++ [ending P])) W #[]) (.go (G { c with mode := m } (cs ++ tl)) w #[]) := fun m => StepBoth.go V F (fr1 := { c with mode := m }) (cs1 := cs) (hp.with (lnF_mode m hp.top) rfl)
  have g3 := StepBoth.go (P := P) (tl := tl) V F hp
  cases hk : fr.kind <;> dsimp only <;> first | exact g1 | exact g3 | skip
  all_goals
   split
   ·split
    ·exact g2 _
    ·exact g2 _
   ·exact g3
theorem deferred_both (OK : ProgLn P) {d : Deferred} (hd : lnD d = true) (hF : lnFs fr cs) (V : Veil w0 W w) (F : Fair W) : StepBoth P tl w0 W w (callDeferred P fr (cs ++ [ending P]) none d W) (callDeferred P fr (cs ++ tl) none d w) := by
 unfold callDeferred
 split
 ·split
  ·simp only [Bool.and_self, if_true]
   exact .ended
  all_goals
   simp only [Bool.and_false, Bool.false_eq_true, if_false]
   refine StepBoth.run2 (OK.inv d.target d.args hd) V F (cs := cs ++ [ending P]) (cs' := cs ++ tl) ?B ?eX ?eY ?hE ?hok ?hhalt ?hst
   case eX =>
    generalize (invoke d.target d.args).runT P W #[] = x
    generalize cs ++ [ending P] = c1
    rcases x with ⟨r, es⟩
    try dsimp only
    try rfl
   case eY =>
    generalize (invoke d.target d.args).runT P w #[] = x
    generalize cs ++ tl = c1
    rcases x with ⟨r, es⟩
    try dsimp only
   case hE =>
    intro c1 r es
    refine ⟨seen P fr.fn (match r with | .halt .blocked _ | .halt .waiting _ => #[] | _ => es), fun e he => ?_, ?_⟩
    ·have := mem_seenL he
     split at this <;> first | (simp at this; done) | exact this
    ·cases r with
     | ok n w => dsimp only; simp only [seen_nil, after_nil]
     | halt h w => cases h <;> dsimp only <;> simp only [seen_nil, after_nil]
   case hok =>
    intro w0 n W1 w1 hn V1 F1
    try dsimp only
    simp only [seen_nil, after_nil]
    cases n <;> first | (exact hn.elim) | skip
    case enter f args => exact StepBoth.go V1 F1 (fr1 := Frame.enter P f args .deferred) (cs1 := fr :: cs) (hF.push (lnF_enter OK f args _))
    case round l f t x y => exact StepBoth.go V1 F1 (fr1 := Frame.round l f t x y .deferred) (cs1 := fr :: cs) (hF.push (lnF_mk (by simp [Frame.round, lnI, hn.1, hn.2]) rfl))
    case recover =>
     dsimp only
     rcases tryRecover_two hF with h | ⟨v, cs', h, h3⟩
     ·simp only [h]
      cases hm : fr.mode <;> exact StepBoth.go V1 F1 hF
     ·simp only [h]
      cases hm : fr.mode <;> first | exact StepBoth.go V1 F1 hF | exact StepBoth.go V1 F1 h3
    all_goals exact StepBoth.go V1 F1 hF
   case hhalt =>
    intro w0 h W1 w1 hh V1 F1
    try dsimp only
    cases h with
    | panic v => simp only [seen_nil, after_nil]; exact StepBoth.go V1 F1 (fr1 := fr.raise [{ v, recovered := false }]) (cs1 := cs) (hF.with (lnF_raise _ hF.top) (raise_kind _ _))
    | stuck m => simp only [seen_nil, after_nil]; exact .ended
    | unsupported u => simp only [seen_nil, after_nil]; exact .ended
    | _ => cases hh
   case hst =>
    intro c1 m W1
    exact ⟨_, _, _, rfl⟩
 ·simp only [Bool.false_and, Bool.false_eq_true, if_false]
  refine StepBoth.run2 (OK.inv d.target d.args hd) V F (cs := cs ++ [ending P]) (cs' := cs ++ tl) ?B ?eX ?eY ?hE ?hok ?hhalt ?hst
  case eX =>
   generalize (invoke d.target d.args).runT P W #[] = x
   generalize cs ++ [ending P] = c1
   rcases x with ⟨r, es⟩
   try dsimp only
   try rfl
  case eY =>
   generalize (invoke d.target d.args).runT P w #[] = x
   generalize cs ++ tl = c1
   rcases x with ⟨r, es⟩
   try dsimp only
  case hE =>
   intro c1 r es
   refine ⟨seen P fr.fn (match r with | .halt .blocked _ | .halt .waiting _ => #[] | _ => es), fun e he => ?_, ?_⟩
   ·have := mem_seenL he
    split at this <;> first | (simp at this; done) | exact this
   ·cases r with
    | ok n w => dsimp only; simp only [seen_nil, after_nil]
    | halt h w => cases h <;> dsimp only <;> simp only [seen_nil, after_nil]
  case hok =>
   intro w0 n W1 w1 hn V1 F1
   try dsimp only
   simp only [seen_nil, after_nil]
   cases n <;> first | (exact hn.elim) | skip
   case enter f args => exact StepBoth.go V1 F1 (fr1 := Frame.enter P f args .deferred) (cs1 := fr :: cs) (hF.push (lnF_enter OK f args _))
   case round l f t x y => exact StepBoth.go V1 F1 (fr1 := Frame.round l f t x y .deferred) (cs1 := fr :: cs) (hF.push (lnF_mk (by simp [Frame.round, lnI, hn.1, hn.2]) rfl))
   case recover =>
    dsimp only
    rcases tryRecover_two hF with h | ⟨v, cs', h, h3⟩
    ·simp only [h]
     cases hm : fr.mode <;> exact StepBoth.go V1 F1 hF
    ·simp only [h]
     cases hm : fr.mode <;> first | exact StepBoth.go V1 F1 hF | exact StepBoth.go V1 F1 h3
   all_goals exact StepBoth.go V1 F1 hF
  case hhalt =>
   intro w0 h W1 w1 hh V1 F1
   try dsimp only
   cases h with
   | panic v => simp only [seen_nil, after_nil]; exact StepBoth.go V1 F1 (fr1 := fr.raise [{ v, recovered := false }]) (cs1 := cs) (hF.with (lnF_raise _ hF.top) (raise_kind _ _))
   | stuck m => simp only [seen_nil, after_nil]; exact .ended
   | unsupported u => simp only [seen_nil, after_nil]; exact .ended
   | _ => cases hh
  case hst =>
   intro c1 m W1
   exact ⟨_, _, _, rfl⟩
end
end
end Go.Proofs.YtdobjciaikofdaaGreatDoor
