/- Part 24 of 39 of what the proof of this law needs. Put together by a program out of the texts: LnHa LnH LnI LnJ. -/
import Derived.Test.YtdobjciaikofdaaGreatDoorTopShakeAll23
namespace Go.Proofs.YtdobjciaikofdaaGreatDoor
section
open Go Go.Conc
section
variable {P : Program} {tl : List Frame} {w0 W w : World}
def Moves (P : Program) (g : Goroutine) (w : World) (g' : Goroutine) (w' : World) : Prop := ∀ (gs : Array Goroutine) (sl : Option (Nat × Nat)), gs[0]? = some g -> (∀ r b, partners (gs.setIfInBounds 0 ph) r b = []) ->
 ∃ gs' fn pos es u, runT P (crowd gs w sl) 0 = (.next (crowd (gs'.setIfInBounds 0 g') w' sl), MemOp.ofEvents 0 fn pos es ++ u) /\ (gs' = gs \/ gs' = gs.map (woken P g g' w')) /\ (∀ e ∈ es, MildE w'.heap.size e) /\ Still w'.heap.size u
theorem Moves.of_go {g g' : Goroutine} {w' : World} {es : Array Event} (h : stepG P true g w = .go g' w' es) (hm : ∀ e ∈ es, MildE w'.heap.size e) : Moves P g w g' w' := fun gs sl h0 _ =>
 ⟨gs.map (woken P g g' w'), g.frame.fn, g.frame.place, es, #[], by rw [runT_crowd_go h0 (show stepG P (0 == 0) g w = _ from h), Array.append_empty], .inr rfl, hm, Still.nil⟩
theorem alone_partners (g : Goroutine) (r : Nat) (b : Bool) : partners ((#[g] : Array Goroutine).setIfInBounds 0 ph) r b = [] := by
 refine partners_nil fun j x hj => ?_
 rcases getElem?_stand _ 0 j x hj with ⟨_, rfl⟩ | ⟨h1, h2⟩
 ·exact offersAt_ph r b
 ·have : j < 1 := by simpa using (Array.getElem?_eq_some_iff.1 h2).1
  omega
theorem step_one {fr : Frame} {cs : List Frame} : step P (lone fr cs W) = (runT P (crowd #[G fr cs] W none) 0).1 := by
 rw [step, stepT, move_lone]
 rfl
theorem Moves.lone {fr fr1 : Frame} {cs cs1 : List Frame} {w' : World} (h : Moves P (G fr cs) w (G fr1 cs1) w') : step P (Go.lone fr cs w) = .next (Go.lone fr1 cs1 w') := by
 obtain ⟨gs', fn, pos, es, u, e, hg, _⟩ := h #[G fr cs] none rfl (alone_partners _)
 rw [step_one, e]
 rcases hg with rfl | rfl
 ·rfl
 ·simp [crowd, Go.lone, G]
def Gone (P : Program) (X : Stepped) : Prop := ∀ m, X = .next m -> ∀ n frE csE wE, runN P n m ≠ .next (lone frE (csE ++ [ending P]) wE)
theorem Gone.ended {o : Outcome} {w : World} : Gone P (.ended o w) := fun m h => by cases h
theorem runN_size : ∀ (n : Nat) {m m' : Machine}, runN P n m = .next m' -> m.gs.size <= m'.gs.size
 | 0, m, m', h => by cases h; exact Nat.le_refl _
 | n + 1, m, m', h => by
  rw [runN] at h
  cases hs : step P m with
  | ended o w => rw [hs] at h; cases h
  | next m1 =>
   rw [hs] at h
   exact Nat.le_trans (stepT_size P m m1 true hs) (runN_size n h)
theorem Gone.many {m : Machine} (h : 1 < m.gs.size) : Gone P (.next m) := by
 intro m' hm n frE csE wE e
 cases Stepped.next.inj hm
 have := runN_size n e
 have h1 : (lone frE (csE ++ [ending P]) wE).gs.size = 1 := rfl
 omega
theorem dying_never : ∀ (n : Nat) {g : Goroutine} {w : World} {frE : Frame} {csE : List Frame} {wE : World}, g.dyingOn P -> runN P n (oneG g w) ≠ .next (lone frE csE wE)
 | 0, g, w, frE, csE, wE, h => by
  intro e
  obtain ⟨_, d, hd, _⟩ := h
  have e1 : oneG g w = lone frE csE wE := Stepped.next.inj e
  have e2 : (#[g] : Array Goroutine) = #[G frE csE] := congrArg Machine.gs e1
  have e3 : g = G frE csE := by simpa using e2
  rw [e3] at hd
  cases hd
 | n + 1, g, w, frE, csE, wE, h => by
  rcases step_dyingOn (w := w) h with ⟨g', w1, hs, h'⟩ | ⟨o, w1, hs, _⟩
  ·rw [runN, hs]
   exact dying_never n h'
  ·rw [runN, hs]
   intro e
   cases e
theorem blocked_ends {g : Goroutine} {w : World} (h : g.status = .blocked) : ∃ o w', step P (oneG g w) = .ended o w' := by
 obtain ⟨fr, cs, st, dy, off⟩ := g
 simp only at h
 subst h
 obtain ⟨o', w', he, _⟩ := endWith_ended w 2 (bytes "fatal error: all goroutines are asleep - deadlock!\n") (.fatal "all goroutines are asleep - deadlock!")
 refine ⟨o', w', ?_⟩
 simp [step, stepT, move, ask, askOn, oneG, runnable_eq, due, ahead, Goroutine.canRun, List.range_succ, pure]
 rw [he]
theorem Gone.blocked {g : Goroutine} {w : World} (h : g.status = .blocked) : Gone P (.next (oneG g w)) := by
 intro m hm n frE csE wE e
 cases Stepped.next.inj hm
 cases n with
 | zero =>
  have e1 : oneG g w = lone frE (csE ++ [ending P]) wE := Stepped.next.inj e
  have e2 : (#[g] : Array Goroutine) = #[G frE (csE ++ [ending P])] := congrArg Machine.gs e1
  have e3 : g = G frE (csE ++ [ending P]) := by simpa using e2
  rw [e3] at h
  cases h
 | succ n =>
  obtain ⟨o, w', hs⟩ := blocked_ends (P := P) (w := w) h
  rw [runN, hs] at e
  cases e
theorem noRowL : (Extern.next "fmt's door").isNone = true := by rfl
theorem popped_step (v : Value) (W : World) : ∃ o w es, stepG P true (G ((ending P).finish v) []) W = .ended o w es := by
 have e : (Extern.next "fmt's door") = none := by
  have := noRowL
  cases h : Extern.next "fmt's door" with
  | none => rfl
  | some x => rw [h] at this; cases this
 simp only [ending, Frame.finish, G, stepG, stepG.exec, e, Option.elim]
 exact ⟨_, _, _, rfl⟩
theorem raised_step (ch : List PanicEntry) (W : World) : ∃ o w es, stepG P true (G ((ending P).raise ch) []) W = .ended o w es := by
 have hc : ((ending P).raise ch).catches P = true := raise_catches (sent_catches P) ch
 have e : stepG P true (G ((ending P).raise ch) []) W = unwind P true ((ending P).raise ch) [] none W := rfl
 rw [e]
 unfold unwind
 have hd : ((ending P).raise ch).defers = [] := rfl
 have hm : ((ending P).raise ch).mode = .panicking ch := rfl
 rw [hd, hm]
 dsimp only
 rw [if_pos hc]
 exact ⟨_, _, _, rfl⟩
theorem stepL_next {fr fr1 : Frame} {cs cs1 : List Frame} {W W1 : World} {es : Array Event} (h : stepG P true (G fr cs) W = .go (G fr1 cs1) W1 es) : step P (lone fr cs W) = .next (lone fr1 cs1 W1) := stepG_next h
theorem Gone.popped {fr : Frame} {W : World} (h : (∃ v, fr = (ending P).finish v) \/ ∃ ch, fr = (ending P).raise ch) : Gone P (.next (lone fr [] W)) := by
 intro m hm n frE csE wE e
 cases Stepped.next.inj hm
 cases n with
 | zero =>
  have e4 := Stepped.next.inj e
  obtain ⟨_, b, _⟩ := lone_inj e4
  simp at b
 | succ n =>
  obtain ⟨o, w, es2, e3⟩ : ∃ o w es, stepG P true (G fr []) W = .ended o w es := by
   rcases h with ⟨v, rfl⟩ | ⟨ch, rfl⟩
   ·exact popped_step v W
   ·exact raised_step ch W
  obtain ⟨o2, w2, e2⟩ := stepG_ended e3
  exact absurd e (runN_ended e2 n _)
theorem Gone.over {fr : Frame} {cs : List Frame} {W : World} (h : Over P (stepG P true (G fr cs) W)) : Gone P (step P (lone fr cs W)) := by
 generalize hx : stepG P true (G fr cs) W = x at h
 cases h with
 | ended =>
  obtain ⟨o2, w2, e2⟩ := stepG_ended hx
  rw [e2]
  exact .ended
 | spawn =>
  rw [step_one, runT_crowd_spawn (gs := #[G fr cs]) (i := 0) rfl (show stepG P (0 == 0) _ _ = _ from hx)]
  exact .many (by simp [crowd])
 | @fatal g w es h =>
  rw [step_one, runT_crowd_go (gs := #[G fr cs]) (i := 0) rfl (show stepG P (0 == 0) _ _ = _ from hx)]
  intro m hm n frE csE wE e
  have e0 : oneG g w = crowd ((Array.map (woken P (G fr cs) g w) #[G fr cs]).setIfInBounds 0 g) w none := by simp [oneG, crowd]
  have e1 : oneG g w = m := e0.trans (Stepped.next.inj hm)
  rw [<- e1] at e
  exact dying_never n h e
theorem veil_unique {a b : World} (h1 : Veil w0 W a) (h2 : Veil w0 W b) (ht : a.tape = b.tape) (hd : a.drawn = b.drawn) : a = b := by
 have hheap : a.heap = b.heap := by
  apply Array.ext_getElem?
  intro k
  by_cases hb : W.heap[k]? = some (Obj.coro none)
  ·exact (h1.veil k hb).1.trans (h2.veil k hb).1.symm
  ·exact (h1.same k hb).trans (h2.same k hb).symm
 have ho := h1.os.trans h2.os.symm
 have hp := h1.output.trans h2.output.symm
 obtain ⟨h1, h2, h3, h4, h5⟩ := a
 obtain ⟨g1, g2, g3, g4, g5⟩ := b
 dsimp only at ht hd hheap ho hp
 subst ht hd hheap ho hp
 rfl
theorem solo_both (OK : ProgLn P) {fr : Frame} {cs : List Frame} (hF : lnFs fr cs) (V : Veil w0 W w) (F : Fair W) : Gone P (step P (lone fr (cs ++ [ending P]) W)) \/
  ∃ fr1 cs1 W1, step P (lone fr (cs ++ [ending P]) W) = .next (lone fr1 (cs1 ++ [ending P]) W1) /\ lnFs fr1 cs1 /\ W.drawn <= W1.drawn /\ W1.tape = W.tape /\ Fair W1 /\ W.heap.size <= W1.heap.size /\
   (Tunes W w W1.drawn -> ∃ w1, Moves P (G fr (cs ++ tl)) w (G fr1 (cs1 ++ tl)) w1 /\ Veil w0 W1 w1 /\ w1.tape = w.tape /\ w1.drawn + W.drawn = W1.drawn + w.drawn) := by
 rcases step_both (tl := tl) OK hF V F with hov | ⟨fr1, W1, es, e, hp⟩ | ⟨c, fr1, cs1, W1, es, e, g1, g2, g3, g4, g5, hY⟩
 ·exact .inl (.over hov)
 ·refine .inl ?_
  rw [stepL_next e]
  exact .popped hp
 rcases c with _ | ⟨cases, b, sh⟩
 ·refine .inr ⟨fr1, cs1, W1, stepL_next e, g1, g2, g3, g4, g5, fun T => ?_⟩
  obtain ⟨w1, es', y1, y2, y3, y4, y5⟩ := hY T
  exact ⟨w1, Moves.of_go y1 y3, y2, y4, y5⟩
 ·have hstep : step P (lone fr (cs ++ [ending P]) W) = (communicate P (crowd #[G fr (cs ++ [ending P])] W none).rest ((#[G fr (cs ++ [ending P])] : Array Goroutine).setIfInBounds 0 ph) 0 (G fr1 (cs1 ++ [ending P])) cases b sh W1).1 := by
   rw [step_one, runT_crowd_comm (gs := #[G fr (cs ++ [ending P])]) (i := 0) rfl (show stepG P (0 == 0) _ _ = _ from e)]
  have cb := fun {w0 w1 : World} {rest' : Rest} {gs' : Array Goroutine} (V1 : Veil w0 W1 w1) (hp' : ∀ r b, partners gs' r b = []) =>
   comm_both (P := P) (tl := tl) (rest := (crowd #[G fr (cs ++ [ending P])] W none).rest) (rest' := rest') (gs := (#[G fr (cs ++ [ending P])] : Array Goroutine).setIfInBounds 0 ph) (gs' := gs') (cases := cases) (b := b) (sh := sh) g1 V1 g4 (alone_partners _) hp'
  rcases cb (rest' := (crowd #[G fr (cs ++ [ending P])] W none).rest) (Veil.self (W := W1)) (alone_partners (G fr (cs ++ [ending P]))) with ⟨o, W2, e2⟩ | ⟨g, W2, e2, hb⟩ | ⟨fr2, W2, e2, k1, k2, k3, k4, k5, _⟩
  ·refine .inl ?_
   rw [hstep, e2]
   exact .ended
  ·refine .inl ?_
   rw [hstep, e2]
   exact Gone.blocked (w := W2) hb
  ·refine .inr ⟨fr2, cs1, W2, by rw [hstep, e2]; rfl, k1, Nat.le_trans g2 k2, k3.trans g3, k4, Nat.le_trans g5 k5, fun T => ?_⟩
   obtain ⟨w1, es', y1, y2, y3, y4, y5⟩ := hY (T.upTo k2)
   have T2 : Tunes W1 w1 W2.drawn := T.from g3 y4 y5 g2
   -- the world it comes to does not hang on who leaves beside
   have key : ∀ (rest' : Rest) (gs' : Array Goroutine), (∀ r b, partners gs' r b = []) -> ∃ w2, (communicate P rest' gs' 0 (G fr1 (cs1 ++ tl)) cases b sh w1).1 = .next { world := w2, gs := gs'.setIfInBounds 0 (G fr2 (cs1 ++ tl)), rest := rest' } /\ Veil w0 W2 w2 /\ w2.tape = w1.tape /\ w2.drawn + W1.drawn = W2.drawn + w1.drawn /\ Still w2.heap.size (communicate P rest' gs' 0 (G fr1 (cs1 ++ tl)) cases b sh w1).2 := by
    intro rest' gs' hp'
    rcases cb (rest' := rest') y2 hp' with ⟨o, W3, e3⟩ | ⟨g, W3, e3, hb⟩ | ⟨fr3, W3, e3, _, _, _, _, _, hZ⟩
    ·rw [e2] at e3; cases e3
    ·rw [e2] at e3
     have e4 := Stepped.next.inj e3
     have e5 : (#[G fr2 (cs1 ++ [ending P])] : Array Goroutine) = #[g] := congrArg Machine.gs e4
     have e6 : G fr2 (cs1 ++ [ending P]) = g := by simpa using e5
     rw [<- e6] at hb
     cases hb
    ·rw [e2] at e3
     have e4 := Stepped.next.inj e3
     have e5 : (#[G fr2 (cs1 ++ [ending P])] : Array Goroutine) = #[G fr3 (cs1 ++ [ending P])] := congrArg Machine.gs e4
     have e6 : G fr2 (cs1 ++ [ending P]) = G fr3 (cs1 ++ [ending P]) := by simpa using e5
     have e7 : fr2 = fr3 := congrArg Goroutine.frame e6
     have e8 : W2 = W3 := congrArg Machine.world e4
     subst e7 e8
     exact hZ T2
   obtain ⟨w2, _, z2, z3, z4, _⟩ := key (crowd #[G fr (cs ++ [ending P])] W none).rest _ (alone_partners (G fr (cs ++ [ending P])))
   refine ⟨w2, fun gs sl h0 hp' => ?_, z2, z3.trans y4, by omega⟩
   obtain ⟨w3, x1, x2, x3, x4, x5⟩ := key (crowd gs w sl).rest _ hp'
   have : w3 = w2 := veil_unique x2 z2 (x3.trans z3.symm) (by omega)
   subst this
   refine ⟨gs, (G fr (cs ++ tl)).frame.fn, (G fr (cs ++ tl)).frame.place, es', _, ?_, .inl rfl, fun x hx => (y3 x hx).mono ?_, x5⟩
   ·rw [runT_crowd_comm h0 (show stepG P (0 == 0) _ _ = _ from y1)]
    refine Prod.ext ?_ rfl
    rw [x1, set_stand]
    rfl
   ·rw [x2.size, y2.size]
    exact k5
end
end
section
open Go Go.Conc
section
variable {P : Program}
inductive RoadL (P : Program) (Stop : Frame -> List Frame -> World -> Prop) : Frame -> List Frame -> World -> Prop
 | stop {fr : Frame} {cs : List Frame} {W : World} (h : ∃ T, Stop fr cs { W with tape := T }) : RoadL P Stop fr cs W
 | step {fr : Frame} {cs : List Frame} {W : World} (ho : ∀ T : Tape, (∀ i q, i < W.drawn -> T i q = W.tape i q) -> ∃ fr1 cs1 W1, step P (lone fr (cs ++ [ending P]) { W with tape := T }) = .next (lone fr1 (cs1 ++ [ending P]) W1))
  (h : ∀ (T : Tape) (fr1 : Frame) (cs1 : List Frame) (W1 : World), (∀ i q, i < W.drawn -> T i q = W.tape i q) -> step P (lone fr (cs ++ [ending P]) { W with tape := T }) = .next (lone fr1 (cs1 ++ [ending P]) W1) -> RoadL P Stop fr1 cs1 W1) : RoadL P Stop fr cs W
def EndsL (P : Program) (Stop : Frame -> List Frame -> World -> Prop) (fr : Frame) (cs : List Frame) (W : World) : Prop :=
 ∀ T : Tape, (∀ i q, i < W.drawn -> T i q = W.tape i q) -> ∃ n frE csE wE, runN P n (lone fr (cs ++ [ending P]) { W with tape := T }) = .next (lone frE (csE ++ [ending P]) wE) /\ Stop frE csE wE
structure LL where
 fr : Frame
 cs : List Frame
 W : World
def LostL (P : Program) (Stop : Frame -> List Frame -> World -> Prop) (s : LL) : Prop := ¬ RoadL P Stop s.fr s.cs s.W /\ lnFs s.fr s.cs /\ Fair s.W /\ EndsL P Stop s.fr s.cs s.W
theorem next_step (OK : ProgLn P) {fr : Frame} {cs : List Frame} {W : World} (hF : lnFs fr cs) (F : Fair W) {n : Nat} {frE : Frame} {csE : List Frame} {wE : World} (h : runN P n (lone fr (cs ++ [ending P]) W) = .next (lone frE (csE ++ [ending P]) wE)) :
  (n = 0 /\ fr = frE /\ cs = csE /\ W = wE) \/ ∃ n' fr1 cs1 W1, n = n' + 1 /\ step P (lone fr (cs ++ [ending P]) W) = .next (lone fr1 (cs1 ++ [ending P]) W1) /\ runN P n' (lone fr1 (cs1 ++ [ending P]) W1) = .next (lone frE (csE ++ [ending P]) wE) /\ lnFs fr1 cs1 /\ Fair W1 /\ W.drawn <= W1.drawn /\ W1.tape = W.tape := by
 cases n with
 | zero =>
  left
  have e := Stepped.next.inj h
  obtain ⟨a, b, c⟩ := lone_inj e
  exact ⟨rfl, a, List.append_cancel_right b, c⟩
 | succ n =>
  right
  rcases solo_both (tl := []) OK hF (Veil.self (W := W)) F with hd | ⟨fr1, cs1, W1, e, g1, g2, g3, g4, g5, _⟩
  ·exfalso
   rw [runN] at h
   cases hs : step P (lone fr (cs ++ [ending P]) W) with
   | ended o w => rw [hs] at h; cases h
   | next m =>
    rw [hs] at h
    exact hd m hs n frE csE wE h
  ·rw [runN_next e] at h
   exact ⟨n, fr1, cs1, W1, rfl, e, h, g1, g4, g2, g3⟩
theorem lone_next_inj {fr fr1 : Frame} {cs cs1 : List Frame} {e : Frame} {W W1 : World} (h : Stepped.next (lone fr (cs ++ [e]) W) = .next (lone fr1 (cs1 ++ [e]) W1)) : fr = fr1 /\ cs = cs1 /\ W = W1 := by
 obtain ⟨a, b, c⟩ := lone_inj (Stepped.next.inj h)
 exact ⟨a, List.append_cancel_right b, c⟩
theorem not_dead {fr : Frame} {cs : List Frame} {W : World} (h : Gone P (.next (lone fr (cs ++ [ending P]) W))) : False := h _ rfl 0 fr cs W rfl
theorem step_hangs (OK : ProgLn P) {fr fr1 : Frame} {cs cs1 : List Frame} {W W1 : World} (hF : lnFs fr cs) (F : Fair W) (h : step P (lone fr (cs ++ [ending P]) W) = .next (lone fr1 (cs1 ++ [ending P]) W1)) (T : Tape) (hT : ∀ i q, i < W1.drawn -> T i q = W.tape i q) :
  step P (lone fr (cs ++ [ending P]) { W with tape := T }) = .next (lone fr1 (cs1 ++ [ending P]) { W1 with tape := T }) := by
 have V : Veil W W { W with tape := T } := ⟨rfl, rfl, rfl, fun _ _ => rfl, fun _ h => ⟨rfl, _, h, .inr rfl⟩⟩
 have hself : ∀ b : Nat, W1.heap[b]? = some (Obj.coro none) -> W.heap[b]? = some (Obj.coro none) := by
  rcases solo_both (tl := [ending P]) OK hF (Veil.self (W := W)) F with hd | ⟨fr2, cs2, W2, e, _, _, _, _, _, hY⟩
  ·rw [h] at hd
   exact (not_dead hd).elim
  ·rw [h] at e
   obtain ⟨rfl, rfl, rfl⟩ := lone_next_inj e
   obtain ⟨w1, y1, y2, _, _⟩ := hY tunes_self
   have y3 := y1.lone
   rw [h] at y3
   obtain ⟨_, _, rfl⟩ := lone_next_inj y3
   intro b hb
   rw [<- hb]
   exact (y2.veil b hb).1.symm
 rcases solo_both (tl := [ending P]) OK hF V F with hd | ⟨fr2, cs2, W2, e, _, _, _, _, _, hY⟩
 ·rw [h] at hd
  exact (not_dead hd).elim
 ·rw [h] at e
  obtain ⟨rfl, rfl, rfl⟩ := lone_next_inj e
  obtain ⟨w1, y1, y2, y4, y5⟩ := hY (fun i q hi => (hT (W.drawn + i) q hi).symm)
  have y5' : w1.drawn + W.drawn = W1.drawn + W.drawn := y5
  have hd : w1.drawn = W1.drawn := by omega
  have V1 : Veil W W1 { W1 with tape := T } := ⟨rfl, rfl, rfl, fun _ _ => rfl, fun b hb => ⟨hb.trans (hself b hb).symm, _, hb, .inr rfl⟩⟩
  have e1 : w1 = { W1 with tape := T } := veil_unique y2 V1 y4 hd
  rw [<- e1]
  exact y1.lone
theorem lost_nextL (OK : ProgLn P) {Stop : Frame -> List Frame -> World -> Prop} {s : LL} (h : LostL P Stop s) :
  ∃ s1, (∀ i q, i < s.W.drawn -> s1.W.tape i q = s.W.tape i q) /\ step P (lone s.fr (s.cs ++ [ending P]) { s.W with tape := s1.W.tape }) = .next (lone s1.fr (s1.cs ++ [ending P]) s1.W) /\ s.W.drawn <= s1.W.drawn /\ LostL P Stop s1 := by
 obtain ⟨h1, h2, h3, h4⟩ := h
 have hstop : ∀ T : Tape, ¬ Stop s.fr s.cs { s.W with tape := T } := fun T hs => h1 (.stop ⟨T, hs⟩)
 have hstep : ¬ ∀ T : Tape, (∀ i q, i < s.W.drawn -> T i q = s.W.tape i q) -> ∃ fr1 cs1 W1, step P (lone s.fr (s.cs ++ [ending P]) { s.W with tape := T }) = .next (lone fr1 (cs1 ++ [ending P]) W1) /\ RoadL P Stop fr1 cs1 W1 := fun x => h1 (.step (fun T hT => by obtain ⟨a, b, c, e, _⟩ := x T hT; exact ⟨a, b, c, e⟩) fun T fr1 cs1 W1 hT e => by
  obtain ⟨a, b, c, e2, hr⟩ := x T hT
  rw [e] at e2
  obtain ⟨rfl, rfl, rfl⟩ := lone_next_inj e2
  exact hr)
 apply Classical.byContradiction
 intro hno
 apply hstep
 intro T hT
 obtain ⟨n, frE, csE, wE, e1, e2⟩ := h4 T hT
 have FT : Fair { s.W with tape := T } := h3
 rcases next_step OK h2 FT e1 with ⟨_, k2, k3, k4⟩ | ⟨n', fr1, cs1, W1, k1, k2, k3, k4, k5, k6, k7⟩
 ·exact absurd (by rw [k2, k3, k4]; exact e2) (hstop T)
 ·refine ⟨fr1, cs1, W1, k2, Classical.byContradiction fun hr => hno ⟨⟨fr1, cs1, W1⟩, ?_⟩⟩
  have k7' : W1.tape = T := k7
  dsimp only
  refine ⟨fun i q hi => by rw [k7']; exact hT i q hi, by rw [k7']; exact k2, k6, hr, k4, k5, ?_⟩
  intro T2 hT2
  dsimp only at hT2 ⊢
  rw [k7'] at hT2
  have k6' : s.W.drawn <= W1.drawn := k6
  have hT2' : ∀ i q, i < s.W.drawn -> T2 i q = s.W.tape i q := fun i q hi => by rw [hT2 i q (Nat.lt_of_lt_of_le hi k6')]; exact hT i q hi
  obtain ⟨n2, frE2, csE2, wE2, e3, e4⟩ := h4 T2 hT2'
  have k8 : step P (lone s.fr (s.cs ++ [ending P]) { s.W with tape := T2 }) = .next (lone fr1 (cs1 ++ [ending P]) { W1 with tape := T2 }) := step_hangs OK h2 FT k2 T2 hT2
  have FT2 : Fair { s.W with tape := T2 } := h3
  rcases next_step OK h2 FT2 e3 with ⟨_, z2, z3, z4⟩ | ⟨n3, fr2, cs2, W2, z1, z2, z3, _⟩
  ·exact absurd (by rw [z2, z3, z4]; exact e4) (hstop T2)
  ·rw [k8] at z2
   obtain ⟨rfl, rfl, rfl⟩ := lone_next_inj z2
   exact ⟨n3, frE2, csE2, wE2, z3, e4⟩
open Classical in
theorem roadL_of (OK : ProgLn P) {Stop : Frame -> List Frame -> World -> Prop} {fr : Frame} {cs : List Frame} {W : World} (h1 : lnFs fr cs) (h2 : Fair W) (h3 : EndsL P Stop fr cs W) : RoadL P Stop fr cs W := by
 apply Classical.byContradiction
 intro h0
 let nx : { s : LL // LostL P Stop s } -> { s : LL // LostL P Stop s } := fun s => ⟨(lost_nextL OK s.2).choose, (lost_nextL OK s.2).choose_spec.2.2.2⟩
 let sq : Nat -> { s : LL // LostL P Stop s } := fun k => Nat.rec ⟨⟨fr, cs, W⟩, h0, h1, h2, h3⟩ (fun _ s => nx s) k
 have hs : ∀ k, (∀ i q, i < (sq k).1.W.drawn -> (sq (k + 1)).1.W.tape i q = (sq k).1.W.tape i q) /\ step P (lone (sq k).1.fr ((sq k).1.cs ++ [ending P]) { (sq k).1.W with tape := (sq (k + 1)).1.W.tape }) = .next (lone (sq (k + 1)).1.fr ((sq (k + 1)).1.cs ++ [ending P]) (sq (k + 1)).1.W) /\ (sq k).1.W.drawn <= (sq (k + 1)).1.W.drawn := by
  intro k
  have h := (lost_nextL OK (sq k).2).choose_spec
  exact ⟨h.1, h.2.1, h.2.2.1⟩
 have mono : ∀ k l, (sq k).1.W.drawn <= (sq (k + l)).1.W.drawn /\ ∀ i q, i < (sq k).1.W.drawn -> (sq (k + l)).1.W.tape i q = (sq k).1.W.tape i q := by
  intro k l
  induction l with
  | zero => exact ⟨Nat.le_refl _, fun _ _ _ => rfl⟩
  | succ l ih =>
   obtain ⟨g1, g2, g3⟩ := hs (k + l)
   refine ⟨Nat.le_trans ih.1 g3, fun i q hi => ?_⟩
   have := g1 i q (Nat.lt_of_lt_of_le hi ih.1)
   rw [show k + (l + 1) = k + l + 1 from rfl, this]
   exact ih.2 i q hi
 let T : Tape := fun i q => if h : ∃ k, i < (sq k).1.W.drawn then (sq h.choose).1.W.tape i q else 0
 have hT : ∀ k i q, i < (sq k).1.W.drawn -> T i q = (sq k).1.W.tape i q := by
  intro k i q hi
  have hx : ∃ k, i < (sq k).1.W.drawn := ⟨k, hi⟩
  show (if h : ∃ k, i < (sq k).1.W.drawn then (sq h.choose).1.W.tape i q else 0) = _
  rw [dif_pos hx]
  have hc := hx.choose_spec
  rcases Nat.le_total hx.choose k with hle | hle
  ·obtain ⟨l, e⟩ := Nat.exists_eq_add_of_le hle
   have := (mono hx.choose l).2 i q hc
   rw [<- e] at this
   exact this.symm
  ·obtain ⟨l, e⟩ := Nat.exists_eq_add_of_le hle
   have := (mono k l).2 i q hi
   rw [<- e] at this
   exact this
 have hrun : ∀ k, step P (lone (sq k).1.fr ((sq k).1.cs ++ [ending P]) { (sq k).1.W with tape := T }) = .next (lone (sq (k + 1)).1.fr ((sq (k + 1)).1.cs ++ [ending P]) { (sq (k + 1)).1.W with tape := T }) := by
  intro k
  obtain ⟨g1, g2, g3⟩ := hs k
  have FT : Fair { (sq k).1.W with tape := (sq (k + 1)).1.W.tape } := (sq k).2.2.2.1
  exact step_hangs OK (sq k).2.2.1 FT g2 T fun i q hi => hT (k + 1) i q hi
 have key : ∀ n k, runN P n (lone (sq k).1.fr ((sq k).1.cs ++ [ending P]) { (sq k).1.W with tape := T }) = .next (lone (sq (k + n)).1.fr ((sq (k + n)).1.cs ++ [ending P]) { (sq (k + n)).1.W with tape := T }) := by
  intro n
  induction n with
  | zero => intro k; rfl
  | succ n ih =>
   intro k
   rw [runN_next (hrun k), ih (k + 1), show k + 1 + n = k + (n + 1) by omega]
 obtain ⟨n, frE, csE, wE, e1, e2⟩ := h3 T fun i q hi => hT 0 i q hi
 have e3 := key n 0
 rw [show runN P n (lone (sq 0).1.fr ((sq 0).1.cs ++ [ending P]) { (sq 0).1.W with tape := T }) = _ from e1] at e3
 have e4 := Stepped.next.inj e3
 obtain ⟨q1, q2, q3⟩ := lone_inj e4
 apply (sq (0 + n)).2.1
 exact .stop ⟨T, by rw [<- q1, <- List.append_cancel_right q2, <- q3]; exact e2⟩
end
end
section
open Go Go.Conc
open Go.ConcN (sumTo upd sumTo_upd upd_ne upd_same le_sumTo)
section
variable {P : Program} {Post : Value -> World -> Prop}
theorem past_still {B : Nat} {t : Trace} {u : Trace} (h : Past (fun _ => False) B t) (hu : Still B u) : Past (fun _ => False) B (t ++ u) := by
 refine past_of (fun said => race_still (h.clean said) fun op hop => (hu op hop).2.1) (fun i a ha hm => ?_) ?_ (seen_app h.seen fun op hop => (hu op hop).2.2.2)
 ·obtain ⟨x, hx, hxa⟩ := touch_of ha
  rcases getElem?_append_cases hx with ⟨_, hx'⟩ | ⟨_, hxu⟩
  ·rcases h.known i a (by rw [touchAt_of hx']; exact hxa) hm with h | ⟨h, _⟩
   ·exact h.app u
   ·exact h.elim
  ·rw [(hu x hxu).2.1] at hxa; cases hxa
 ·rw [Go.ConcN.Deaf_still t 0 u fun op hop => (hu op hop).2.2.1]
  exact h.hears
theorem RunsOn.moves {g : Goroutine} {w : World} (hr : g.status = .running) (h : ∀ d, ∃ g' w', Moves P g (w.at d) g' w' /\ w.heap.size <= w'.heap.size /\ RunsOn P Post g' w') : RunsOn P Post g w := by
 refine fin_loop hr fun gs sl t q d h0 hL hP => .inl ?_
 obtain ⟨g', w', hm, hs, F⟩ := h d
 obtain ⟨gs', fn, pos, es, u, e, hg, hes, hu⟩ := hm gs sl h0 fun r b => partners_lv hL r b
 refine ⟨_, _, _, e, ?_⟩
 have f1 : ∀ op ∈ MemOp.ofEvents 0 fn pos es ++ u, op.g = 0 := fun op hop => by
  rcases Array.mem_append.1 hop with hop | hop
  ·obtain ⟨e, _, rfl⟩ := Go.Conc.mem_ofEvents hop; rfl
  ·exact (hu op hop).1
 have hlt := (Array.getElem?_eq_some_iff.1 h0).1
 have hsz : gs'.size = gs.size := by rcases hg with rfl | rfl <;> simp
 have hpast : Past (fun _ => False) w'.heap.size (t ++ (MemOp.ofEvents 0 fn pos es ++ u)) := by
  rw [<- Array.append_assoc]
  exact past_still ((hP.mono hs).own fun e he => hes e he) hu
 have e2 : w' = w'.at w'.drawn := rfl
 rw [e2]
 refine F _ sl _ q w'.drawn (by rw [Array.getElem?_setIfInBounds_self_of_lt (by omega)]) ⟨fun k y k1 k2 => ?_, fun k hk => ?_⟩ hpast
 ·rcases hg with rfl | rfl
  ·rw [Array.getElem?_setIfInBounds_ne (by omega)] at k2
   rw [Deaf_other t (by omega) _ f1]
   exact hL.old k y k1 k2
  ·exact lv_keep (wk := 0) (.inl rfl) f1 (fun k g k1 _ k3 => hL.old k g k1 k3) k y k1 (by omega) k2
 ·have hk' : gs.size <= k := by simpa [hsz] using hk
  rw [Deaf_other t (by omega) _ f1]
  exact hL.above k hk'
theorem RunsOn.move {g : Goroutine} {w : World} (hr : g.status = .running) (h : ∀ d, ∃ g' w' es, stepG P true g (w.at d) = .go g' w' es /\ w.heap.size <= w'.heap.size /\ (∀ e ∈ es, MildE w'.heap.size e) /\ RunsOn P Post g' w') : RunsOn P Post g w :=
 RunsOn.moves hr fun d => by
  obtain ⟨g', w', es, e, hs, hm, F⟩ := h d
  exact ⟨g', w', Moves.of_go e hm, hs, F⟩
theorem followL (OK : ProgLn P) {Stop : Frame -> List Frame -> World -> Prop} {tl : List Frame} {fr : Frame} {cs : List Frame} {W : World} (hr : RoadL P Stop fr cs W) : ∀ {w0 w : World}, lnFs fr cs -> Fair W -> Veil w0 W w ->
  (∀ (frE : Frame) (csE : List Frame) (WE wE : World), (∃ T, Stop frE csE { WE with tape := T }) -> lnFs frE csE -> Fair WE -> Veil w0 WE wE -> wE.tape = w.tape -> w.heap.size <= wE.heap.size -> RunsOn P Post (G frE (csE ++ tl)) wE) -> RunsOn P Post (G fr (cs ++ tl)) w := by
 induction hr with
 | stop h => intro w0 w hF F V cont; exact cont _ _ _ _ h hF F V rfl (Nat.le_refl _)
 | @step fr cs W ho _ ih =>
  intro w0 w hF F V cont
  refine RunsOn.moves rfl fun d => ?_
  obtain ⟨T, hTd⟩ : ∃ T : Tape, T = fun i q => if i < W.drawn then W.tape i q else w.tape (i - W.drawn + d) q := ⟨_, rfl⟩
  have hT : ∀ i q, i < W.drawn -> T i q = W.tape i q := by
   intro i q hi
   rw [hTd]
   exact if_pos hi
  obtain ⟨fr1, cs1, W1, e⟩ := ho T hT
  have FT : Fair { W with tape := T } := F
  have VT : Veil w0 { W with tape := T } (w.at d) := ⟨V.os, V.output, V.size, V.same, V.veil⟩
  rcases solo_both (tl := tl) OK hF VT FT with hd | ⟨fr2, cs2, W2, e2, g1, g2, g3, g4, g5, hY⟩
  ·rw [e] at hd
   exact (not_dead hd).elim
  ·rw [e] at e2
   obtain ⟨rfl, rfl, rfl⟩ := lone_next_inj e2
   obtain ⟨w1, y1, y2, y4, y5⟩ := hY (by
    intro i q _
    show T (W.drawn + i) q = w.tape (d + i) q
    rw [hTd]
    dsimp only
    rw [if_neg (by omega)]
    congr 1
    omega)
   have hsz : w.heap.size <= w1.heap.size := by rw [y2.size, V.size]; exact g5
   refine ⟨_, w1, y1, hsz, ?_⟩
   exact ih T fr1 cs1 W1 hT e g1 g4 y2 fun frE csE WE wE q1 q2 q3 q4 q5 q6 => cont frE csE WE wE q1 q2 q3 q4 (q5.trans y4) (Nat.le_trans hsz q6)
def veilO (o : Obj) : Obj := if bears o = true then .coro none else o
def veiled (w : World) : World := { w with heap := w.heap.map veilO }
theorem veil_of (w : World) : Veil w (veiled w) w where
 os := rfl
 output := rfl
 size := by simp [veiled]
 same := fun b hb => by
  unfold veiled at hb ⊢
  dsimp only at hb ⊢
  rw [Array.getElem?_map] at hb ⊢
  rcases hx : w.heap[b]? with _ | o
  ·rfl
  ·rw [hx] at hb
   show some o = some (veilO o)
   unfold veilO
   split
   ·rename_i hbr
    exfalso
    apply hb
    show some (veilO o) = _
    unfold veilO
    rw [if_pos hbr]
   ·rfl
 veil := fun b hb => by
  unfold veiled at hb
  dsimp only at hb
  rw [Array.getElem?_map] at hb
  refine ⟨rfl, ?_⟩
  rcases hx : w.heap[b]? with _ | o
  ·rw [hx] at hb; cases hb
  ·rw [hx] at hb
   have h2 : veilO o = .coro none := Option.some.inj hb
   refine ⟨o, rfl, ?_⟩
   unfold veilO at h2
   split at h2
   ·exact .inl ‹_›
   ·exact .inr h2
theorem fair_of (w : World) : Fair (veiled w) := by
 intro b o hb
 unfold veiled at hb
 dsimp only at hb
 rw [Array.getElem?_map] at hb
 rcases hx : w.heap[b]? with _ | x
 ·rw [hx] at hb; cases hb
 ·rw [hx] at hb
  have h2 : veilO x = o := Option.some.inj hb
  subst h2
  unfold veilO
  split
  ·trivial
  ·rename_i hn
   cases x <;> first | trivial | exact absurd rfl hn
structure Alone (w W : World) : Prop where
 os : W.os = w.os
 output : W.output = w.output
 size : W.heap.size = w.heap.size
 obj : ∀ (b : Nat) (o : Obj), w.heap[b]? = some o -> bears o = false -> W.heap[b]? = some o
theorem alone_of (w : World) (T : Tape) : Alone w { veiled w with tape := T } where
 os := rfl
 output := rfl
 size := by simp [veiled]
 obj := fun b o hb hn => by
  unfold veiled
  dsimp only
  rw [Array.getElem?_map, hb]
  show some (veilO o) = some o
  unfold veilO
  rw [if_neg (by rw [hn]; simp)]
theorem Alone.cell {w W : World} (h : Alone w W) {a : Addr} {v : Value} (hv : w.cell? a = some v) : W.cell? a = some v := by
 unfold World.cell? at hv ⊢
 rcases hb : w.heap[a.block]? with _ | o
 ·rw [hb] at hv; cases hv
 ·rw [hb] at hv
  cases o <;> first | (cases hv; done) | skip
  rw [h.obj _ _ hb rfl]
  exact hv
theorem keep_back {w W W1 w1 : World} {T : Tape} (hW : W = { veiled w with tape := T }) (V : Veil w W1 w1) {b : Nat} (hk : W1.heap[b]? = W.heap[b]?) : w1.heap[b]? = w.heap[b]? := by
 subst hW
 by_cases h : W1.heap[b]? = some (Obj.coro none)
 ·exact (V.veil b h).1
 ·rw [V.same b h, hk]
  have h2 : (veiled w).heap[b]? ≠ some (Obj.coro none) := fun x => h (hk.trans x)
  exact ((veil_of w).same b h2).symm
theorem lone_call (OK : ProgLn P) {f : FuncId} {args : Array Value} {w : World} {c : Frame} {cs : List Frame} (Q : World -> Value -> World -> Prop)
  (hC : ∀ W, Alone w W -> Calls P f args W fun e W' => ∃ v, e = .returned v /\ Q W v W')
  (cont : ∀ (T : Tape) (v : Value) (W1 w1 : World), Q { veiled w with tape := T } v W1 -> Veil w W1 w1 -> w1.tape = w.tape -> w.heap.size <= w1.heap.size -> RunsOn P Post (G (c.finish v) cs) w1) : RunsOn P Post (G (Frame.enter P f args .normal) (c :: cs)) w := by
 let Stop : Frame -> List Frame -> World -> Prop := fun fr cs W => cs = [] /\ ∃ T v, fr.leaving P W (.returned v) /\ Q { veiled w with tape := T } v W
 have hF : lnFs (Frame.enter P f args .normal) [] := ⟨lnF_enter OK f args _, fun c hc => (by cases hc), rfl⟩
 have hE : EndsL P Stop (Frame.enter P f args .normal) [] (veiled w) := by
  intro T _
  obtain ⟨e, w', fr, ⟨v, rfl, hq⟩, ⟨n, hn⟩, _, h4⟩ := hC _ (alone_of w T) [ending P]
  exact ⟨n, fr, [], w', hn, rfl, T, v, h4, hq⟩
 have hroad := roadL_of OK hF (fair_of w) hE
 refine followL OK (tl := c :: cs) hroad hF (fair_of w) (veil_of w) ?_
 rintro frE csE WE wE ⟨T0, rfl, T, v, hl, hq⟩ hFE FE VE ht hsz
 obtain ⟨hm, hd, hk, fn, hf, hres⟩ := hl
 -- the return
 refine RunsOn.move rfl fun d => ?_
 have VT : Veil w { WE with tape := T0 } (wE.at d) := ⟨VE.os, VE.output, VE.size, VE.same, VE.veil⟩
 have WT : Fair { WE with tape := T0 } := FE
 have hrT : ((results fn frE.tmps).runT P { WE with tape := T0 } #[]).1 = .ok v { WE with tape := T0 } := by
  rw [Sem.runT_eq]; exact hres
 rcases (tidy_results (P := P) (fn := fn) (t := frE.tmps)).both VT WT #[] #[] with ⟨m, W1, e⟩ | ⟨_, hb⟩
 ·rw [hrT] at e; cases e
 ·rw [hrT] at hb
  obtain ⟨es2, e2, b⟩ := hb (fun i q hi => by have : ({ WE with tape := T0 } : World).drawn + i < ({ WE with tape := T0 } : World).drawn := hi; omega)
  rcases b.rel with ⟨x, q1, q2, _⟩ | ⟨h, q1, _, _⟩
  ·cases q1
   have bv := b.veil
   have bt := b.tape
   have bm := b.mild
   obtain ⟨w2, hw2⟩ : ∃ w2, resWorld ((results fn frE.tmps).runT P (wE.at d) #[]).1 = w2 := ⟨_, rfl⟩
   rw [hw2] at q2 bv bt bm
   have bv' : Veil w { WE with tape := T0 } w2 := bv
   have hrun : (results fn frE.tmps).runT P (wE.at d) #[] = (.ok v w2, es2) := Prod.ext q2 (by rw [e2, Array.empty_append])
   refine ⟨G (c.finish v) cs, w2, seen P frE.fn es2, ?_, by rw [bv'.size, <- VT.size]; exact Nat.le_refl _, fun e he => bm e (mem_seenL he), ?_⟩
   ·obtain ⟨fn', tmps, todo, defers, mode, kind, ro⟩ := frE
    dsimp only at hm hd hk hf hrun
    subst hm hd hk
    simp only [G, stepG, unwind, hf, List.nil_append]
    rw [hrun]
    simp [doReturn, GStep.after]
   ·exact cont T v { WE with tape := T0 } w2 hq bv' (bt.trans ht) (by rw [bv'.size]; have := VE.size; have h3 : ({ WE with tape := T0 } : World).heap.size = WE.heap.size := rfl; omega)
  ·cases q1
end
end
section
open Go Go.Conc
section
variable {P : Program} {Post : Value -> World -> Prop}
theorem RunsOn.drew {g : Goroutine} {w : World} (h : RunsOn P Post g w) (d : Nat) : RunsOn P Post g (w.at d) := by
 intro gs sl t q d' h0 hL hP
 have e : (w.at d).at d' = w.at d' := rfl
 rw [e]
 exact h gs sl t q d' h0 hL hP
theorem lone_steps (OK : ProgLn P) {fr : Frame} {w : World} {cs : List Frame} (hF : lnFs fr []) (Q : World -> Frame -> World -> Prop)
  (hC : ∀ W, Alone w W -> ∃ frE W', Steps P (lone fr [ending P] W) (lone frE [ending P] W') /\ Q W frE W')
  (cont : ∀ (T : Tape) (frE : Frame) (W1 w1 : World), Q { veiled w with tape := T } frE W1 -> Veil w W1 w1 -> w1.tape = w.tape -> w.heap.size <= w1.heap.size -> RunsOn P Post (G frE cs) w1) : RunsOn P Post (G fr cs) w := by
 let Stop : Frame -> List Frame -> World -> Prop := fun fr cs W => cs = [] /\ ∃ T, Q { veiled w with tape := T } fr W
 have hE : EndsL P Stop fr [] (veiled w) := by
  intro T _
  obtain ⟨frE, W', ⟨n, hn⟩, hq⟩ := hC _ (alone_of w T)
  exact ⟨n, frE, [], W', hn, rfl, T, hq⟩
 have hroad := roadL_of OK hF (fair_of w) hE
 refine followL OK (tl := cs) hroad hF (fair_of w) (veil_of w) ?_
 rintro frE csE WE wE ⟨T0, rfl, T, hq⟩ hFE FE VE ht hsz
 exact cont T frE _ wE hq ⟨VE.os, VE.output, VE.size, VE.same, VE.veil⟩ ht hsz
theorem lone_code (OK : ProgLn P) {b : Frame} {a : Act} {c : Code} {k : List Item} {w : World} {cs : List Frame} (hF : lnFs (b.at a (.code c :: k)) []) (Q : World -> Exit -> Act -> World -> Prop)
  (hC : ∀ W, Alone w W -> c.wp P (fun e a' W' => (e = .normal \/ e = .ret) /\ Q W e a' W') a W)
  (contN : ∀ (T : Tape) (a' : Act) (W1 w1 : World), Q { veiled w with tape := T } .normal a' W1 -> Veil w W1 w1 -> w1.tape = w.tape -> w.heap.size <= w1.heap.size -> RunsOn P Post (G (b.at a' k) cs) w1)
  (contR : ∀ (T : Tape) (a' : Act) (todo : List Item) (W1 w1 : World), Q { veiled w with tape := T } .ret a' W1 -> Veil w W1 w1 -> w1.tape = w.tape -> w.heap.size <= w1.heap.size -> RunsOn P Post (G { b.at a' todo with mode := .returning } cs) w1) : RunsOn P Post (G (b.at a (.code c :: k)) cs) w := by
 refine lone_steps OK hF (fun W fr W' => ∃ e a', Q W e a' W' /\ ((e = .normal /\ fr = b.at a' k) \/ (e = .ret /\ ∃ todo, fr = { b.at a' todo with mode := .returning }))) (fun W hW => ?_) ?_
 ·obtain ⟨e, a', W', ⟨he, hq⟩, hr⟩ := hC W hW b k [ending P]
  rcases he with rfl | rfl
  ·exact ⟨_, W', hr, .normal, a', hq, .inl ⟨rfl, rfl⟩⟩
  ·obtain ⟨todo, hr⟩ := hr
   exact ⟨_, W', hr, .ret, a', hq, .inr ⟨rfl, todo, rfl⟩⟩
 ·rintro T frE W1 w1 ⟨e, a', hq, ⟨rfl, rfl⟩ | ⟨rfl, todo, rfl⟩⟩ V ht hs
  ·exact contN T a' W1 w1 hq V ht hs
  ·exact contR T a' todo W1 w1 hq V ht hs
theorem same_world {w W1 w1 : World} {T : Tape} (V : Veil w W1 w1) (ht : w1.tape = w.tape) (hh : W1.heap = (veiled w).heap) (ho : W1.os = w.os) (hp : W1.output = w.output) : w1 = w.at w1.drawn := by
 have hheap : w1.heap = w.heap := Array.ext_getElem? fun b => keep_back (T := T) rfl V (by rw [hh])
 obtain ⟨h1, t1, d1, o1, p1⟩ := w1
 obtain ⟨h, t, d, o, p⟩ := w
 have e1 := V.os
 have e2 := V.output
 dsimp only at *
 subst ht hheap
 simp only [World.at]
 congr 1
 ·rw [e1, ho]
 ·rw [e2, hp]
end
end
end Go.Proofs.YtdobjciaikofdaaGreatDoor
