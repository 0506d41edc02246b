/- Part 7 of 39 of what the proof of this law needs. Put together by a program out of the texts: SimQ SimR SimS. -/
import Derived.Test.YtdobjciaikofdaaGreatDoorTopShakeAll06
namespace Go.Proofs.YtdobjciaikofdaaGreatDoor
section
open Go Go.Conc
theorem stepG_next {P : Program} {fr fr1 : Frame} {cs cs1 : List Frame} {W W1 : World} {es : Array Event} (h : stepG P true (G fr cs) W = .go (G fr1 cs1) W1 es) : step P (lone fr cs W) = .next (lone fr1 cs1 W1) := by
 refine step_lone_go ?_
 have h2 : stepG P true { frame := fr, callers := cs, status := .running, dying := none } W = .go (G fr1 cs1) W1 es := h
 rw [h2]
 rfl
theorem stepG_ended {P : Program} {fr : Frame} {cs : List Frame} {W W1 : World} {o : Outcome} {es : Array Event} (h : stepG P true (G fr cs) W = .ended o W1 es) : ∃ o w, step P (lone fr cs W) = .ended o w := by
 refine ⟨o, W1, step_lone_ended ?_⟩
 have h2 : stepG P true { frame := fr, callers := cs, status := .running, dying := none } W = .ended o W1 es := h
 rw [h2]
 rfl
theorem runN_next {P : Program} {m m1 : Machine} (h : step P m = .next m1) (n : Nat) : runN P (n + 1) m = runN P n m1 := by
 show (match step P m with | .next m => runN P n m | e => e) = _
 rw [h]
theorem runN_ended {P : Program} {m : Machine} {o : Outcome} {w : World} (h : step P m = .ended o w) (n : Nat) (m2 : Machine) : runN P (n + 1) m ≠ .next m2 := by
 show (match step P m with | .next m => runN P n m | e => e) ≠ _
 rw [h]
 intro h2
 cases h2
theorem lone_inj {fr fr1 : Frame} {cs cs1 : List Frame} {W W1 : World} (h : lone fr cs W = lone fr1 cs1 W1) : fr = fr1 /\ cs = cs1 /\ W = W1 := by
 unfold lone at h
 simp only [Machine.mk.injEq] at h
 obtain ⟨h1, h2, _⟩ := h
 have := congrArg (fun a : Array Goroutine => a[0]?) h2
 simp at this
 exact ⟨this.1, this.2, h1⟩
theorem noRow : (Extern.next "fmt's door").isNone = true := by rfl
theorem Coll.mono {ρ σ : BRel} (hl : BLe ρ σ) {d : Deferred} (h : Coll ρ d) : Coll σ d := by
 obtain ⟨r, r', h1, h2⟩ := h
 exact ⟨r, r', h1, hl.1 _ _ h2⟩
theorem raise_catches {P : Program} {fr : Frame} (h : fr.catches P = true) (vs : List PanicEntry) : (fr.raise vs).catches P = true := by
 unfold Frame.raise
 split <;> exact h
theorem bad_step {P : Program} {fr : Frame} {cs : List Frame} {W : World} (h : BadS P W fr cs) : (∃ o w es, stepG P true (G fr cs) W = .ended o w es) \/ ∃ fr1 cs1 W1 es, stepG P true (G fr cs) W = .go (G fr1 cs1) W1 es /\ BadS P W1 fr1 cs1 := by
 obtain ⟨⟨ch, hm⟩, ρ, W', H, h1, h2, pre, s, h3, h4⟩ := h
 obtain ⟨fn, tmps, todo, defers, mode, kind, roundOf⟩ := fr
 dsimp only at hm h1
 subst hm
 rcases defers with _ | ⟨d, ds⟩
 ·have e1 : stepG P true (G ⟨fn, tmps, todo, [], .panicking ch, kind, roundOf⟩ cs) W = unwind P true ⟨fn, tmps, todo, [], .panicking ch, kind, roundOf⟩ cs none W := rfl
  rw [e1]
  unfold unwind
  dsimp only
  by_cases hc : Frame.catches P ⟨fn, tmps, todo, [], .panicking ch, kind, roundOf⟩ = true
  ·rw [if_pos hc]
   exact .inl ⟨_, _, _, rfl⟩
  ·rw [if_neg hc]
   rcases cs with _ | ⟨c, cs⟩
   ·exfalso
    rcases pre with _ | ⟨p, pre⟩
    ·simp only [List.nil_append, List.cons.injEq, and_true] at h3
     exact hc (h3 ▸ h4)
    ·simp at h3
   ·refine .inr ⟨c.raise ch, cs, W, #[], rfl, frame_raise_mode c ch, ρ, W', H, ?_, fun x hx => h2 x (List.mem_cons_of_mem _ hx), ?_⟩
    ·rw [frame_raise_defers]
     exact h2 c (by simp)
    ·rcases pre with _ | ⟨p, pre⟩
     ·simp at h3
     ·rw [List.cons_append, List.cons.injEq] at h3
      obtain ⟨_, h3⟩ := h3
      rcases pre with _ | ⟨q, pre⟩
      ·simp only [List.nil_append, List.cons.injEq] at h3
       obtain ⟨rfl, rfl⟩ := h3
       exact ⟨[], _, rfl, raise_catches h4 ch⟩
      ·rw [List.cons_append, List.cons.injEq] at h3
       obtain ⟨rfl, rfl⟩ := h3
       exact ⟨c.raise ch :: pre, s, rfl, h4⟩
 ·obtain ⟨r, r', rfl, hr⟩ := h1 d (by simp)
  have e1 : stepG P true (G ⟨fn, tmps, todo, ⟨.collected r, #[]⟩ :: ds, .panicking ch, kind, roundOf⟩ cs) W =
    GStep.after (seen P fn ((Instr.takeDeferred r).runT P W #[]).2) (match ((Instr.takeDeferred r).runT P W #[]).1 with
     | .ok calls w => .go (G ⟨fn, tmps, todo, calls ++ ds, .panicking ch, kind, roundOf⟩ cs) w #[]
     | .halt _ w => .ended (.stuck "the deferred calls of a range-over-func loop have been taken" (Frame.pos P ⟨fn, tmps, todo, ⟨.collected r, #[]⟩ :: ds, .panicking ch, kind, roundOf⟩)) w #[]) := rfl
  rw [e1]
  rcases hrun : (Instr.takeDeferred r).runT P W #[] with ⟨x, es⟩
  cases x with
  | halt h w => exact .inl ⟨_, _, _, rfl⟩
  | ok calls w =>
   obtain ⟨σ, calls', W1', ds1, y1, ⟨y2, _⟩, y4, _, _, _⟩ := (sim_takeDeferred (P := P) hr).runs (es' := #[]) (H.fake _) (like_fake W w W') hrun
   subst y2
   refine .inr ⟨⟨fn, tmps, todo, ds, .panicking ch, kind, roundOf⟩, cs, w, _, rfl, ⟨ch, rfl⟩, σ, W1', y4, fun d hd => (h1 d (List.mem_cons_of_mem _ hd)).mono y1, fun c hc d hd => (h2 c hc d hd).mono y1, ?_⟩
   rcases pre with _ | ⟨p, pre⟩
   ·simp only [List.nil_append, List.cons.injEq] at h3
    obtain ⟨rfl, rfl⟩ := h3
    exact ⟨[], _, rfl, h4⟩
   ·rw [List.cons_append, List.cons.injEq] at h3
    obtain ⟨_, rfl⟩ := h3
    exact ⟨_ :: pre, s, rfl, h4⟩
theorem bad_run {P : Program} : ∀ (n : Nat) {fr : Frame} {cs : List Frame} {W : World}, BadS P W fr cs -> ∀ {frE : Frame} {cE : List Frame} {wE : World}, (∀ ch, frE.mode ≠ .panicking ch) -> runN P n (lone fr cs W) ≠ .next (lone frE cE wE)
 | 0, fr, cs, W, h, frE, cE, wE, hE => by
  intro e
  have e2 : Stepped.next (lone fr cs W) = .next (lone frE cE wE) := e
  obtain ⟨h1, _, _⟩ := lone_inj (Stepped.next.inj e2)
  obtain ⟨⟨ch, hm⟩, _⟩ := h
  exact hE ch (by rw [<- h1]; exact hm)
 | n + 1, fr, cs, W, h, frE, cE, wE, hE => by
  rcases bad_step h with ⟨o, w, es, e⟩ | ⟨fr1, cs1, W1, es, e, hb⟩
  ·obtain ⟨o, w, e⟩ := stepG_ended e
   exact runN_ended e n _
  ·rw [runN_next (stepG_next e)]
   exact bad_run n hb hE
theorem popped_run {P : Program} (v : Value) (n : Nat) (W : World) {frE : Frame} {wE : World} : runN P n (lone ((sent P).finish v) [] W) ≠ .next (lone frE [sent P] wE) := by
 cases n with
 | zero =>
  intro e
  have e2 : Stepped.next (lone ((sent P).finish v) [] W) = .next (lone frE [sent P] wE) := e
  obtain ⟨_, h, _⟩ := lone_inj (Stepped.next.inj e2)
  cases h
 | succ n =>
  have e : stepG P true (G ((sent P).finish v) []) W = (Extern.next "fmt's door").elim (.ended (.stuck ("no extern row " ++ "fmt's door") (Frame.pos P ((sent P).finish v))) W #[]) fun x => stepG.apply P true ((sent P).finish v) [] none (x (#[].push v)) W := rfl
  have h : Extern.next "fmt's door" = none := Option.isNone_iff_eq_none.1 noRow
  rw [h] at e
  obtain ⟨o, w, e⟩ := stepG_ended e
  exact runN_ended e n _
theorem leaving_zero {P : Program} {fr : Frame} {W : World} (hk : fr.kind = .normal) (hm : fr.mode = .returning) (hd : fr.defers = []) : ∀ {n : Nat} {frE : Frame} {wE : World}, runN P n (lone fr [sent P] W) = .next (lone frE [sent P] wE) -> n = 0 := by
 intro n frE wE h
 cases n with
 | zero => rfl
 | succ n =>
  exfalso
  obtain ⟨fn, tmps, todo, defers, mode, kind, roundOf⟩ := fr
  dsimp only at hk hm hd
  subst hk hm hd
  have ret : ∀ (v : Value) (w : World), doReturn P true ⟨fn, tmps, todo, [], .returning, .normal, roundOf⟩ [sent P] none v w = .go (G ((sent P).finish v) []) w #[] := fun v w => rfl
  have e1 : stepG P true (G ⟨fn, tmps, todo, [], .returning, .normal, roundOf⟩ [sent P]) W = match P.funcs[fn]? with
     | none => doReturn P true ⟨fn, tmps, todo, [], .returning, .normal, roundOf⟩ [sent P] none (tmps.getD 0 undef) W
     | some f => GStep.after (seen P fn ((results f tmps).runT P W #[]).2) (match ((results f tmps).runT P W #[]).1 with
      | .ok v w => doReturn P true ⟨fn, tmps, todo, [], .returning, .normal, roundOf⟩ [sent P] none v w
      | .halt (.stuck s) w => .ended (.stuck s (Frame.pos P ⟨fn, tmps, todo, [], .returning, .normal, roundOf⟩)) w #[]
      | .halt _ w => .ended (.stuck "return: the result variables cannot be read" (Frame.pos P ⟨fn, tmps, todo, [], .returning, .normal, roundOf⟩)) w #[]) := rfl
  rcases hf : P.funcs[fn]? with _ | f
  ·rw [hf] at e1
   have e2 : stepG P true (G ⟨fn, tmps, todo, [], .returning, .normal, roundOf⟩ [sent P]) W = .go (G ((sent P).finish (tmps.getD 0 undef)) []) W #[] := e1
   rw [runN_next (stepG_next e2)] at h
   exact popped_run _ _ _ h
  ·rw [hf] at e1
   dsimp only at e1
   rcases hr : (results f tmps).runT P W #[] with ⟨x, es⟩
   rw [hr] at e1
   cases x with
   | ok v w =>
    have e2 : stepG P true (G ⟨fn, tmps, todo, [], .returning, .normal, roundOf⟩ [sent P]) W = .go (G ((sent P).finish v) []) w (seen P fn es ++ #[]) := e1
    rw [runN_next (stepG_next e2)] at h
    exact popped_run _ _ _ h
   | halt x w =>
    cases x <;> (obtain ⟨o, w, e⟩ := stepG_ended e1; exact runN_ended e n _ h)
theorem returning_run {P : Program} {ρ : BRel} {low : Low} {fr fr' : Frame} {cs' : List Frame} : ∀ (n : Nat) {W W' : World} {frE : Frame} {wE : World}, SRel P ρ low fr [sent P] fr' cs' -> fr.mode = .returning -> HRel ρ W W' -> runN P n (lone fr [sent P] W) = .next (lone frE [sent P] wE) -> frE.mode = .returning := by
 intro n
 induction n generalizing ρ fr fr' cs' with
 | zero =>
  intro W W' frE wE S hm H h
  have e2 : Stepped.next (lone fr [sent P] W) = .next (lone frE [sent P] wE) := h
  obtain ⟨h1, _, _⟩ := lone_inj (Stepped.next.inj e2)
  rw [<- h1]
  exact hm
 | succ n ih =>
  intro W W' frE wE S hm H h
  by_cases hd : fr.defers = []
  ·have := leaving_zero S.kind hm hd h
   omega
  ·rcases ret_only S hm (W := W) with ⟨o, w, es, e⟩ | ⟨fr1, cs1, W1, es, e⟩
   ·obtain ⟨o, w, e⟩ := stepG_ended e
    exact absurd h (runN_ended e n _)
   ·rw [runN_next (stepG_next e)] at h
    obtain ⟨σ, fr1', cs1', W1', es', h1, h2, h3, h4, h5, h6, h7⟩ := step_ret true S hm (fun x => hd x.2) (H.fake (fun i q => W.tape (i - W'.drawn + W.drawn) q)) (like_fake W W1 W') e
    have hc : cs1 = [sent P] /\ fr1.mode = .returning := by
     obtain ⟨fn, tmps, todo, defers, mode, kind, roundOf⟩ := fr
     dsimp only at hm hd
     subst hm
     obtain ⟨lt, ld, hF⟩ := S.frel
     obtain ⟨d, hd2, hD⟩ := hF.defers
     dsimp only at hd2 hD
     cases hD with
     | nil => exact absurd rfl hd
     | cons hr ht =>
      rename_i r r' ds ds'
      have e1 : stepG P true (G ⟨fn, tmps, todo, ⟨.collected r, #[]⟩ :: ds, .returning, kind, roundOf⟩ [sent P]) W =
        GStep.after (seen P fn ((Instr.takeDeferred r).runT P W #[]).2) (match ((Instr.takeDeferred r).runT P W #[]).1 with
         | .ok calls w => .go (G ⟨fn, tmps, todo, calls ++ ds, .returning, kind, roundOf⟩ [sent P]) w #[]
         | .halt _ w => .ended (.stuck "the deferred calls of a range-over-func loop have been taken" (Frame.pos P ⟨fn, tmps, todo, ⟨.collected r, #[]⟩ :: ds, .returning, kind, roundOf⟩)) w #[]) := rfl
      rw [e1] at e
      generalize (Instr.takeDeferred r).runT P W #[] = q at e
      obtain ⟨x, es2⟩ := q
      cases x with
      | ok calls w =>
       obtain ⟨es3, k1, _⟩ := after_go e
       cases k1
       exact ⟨rfl, rfl⟩
      | halt x w =>
       obtain ⟨es3, k1, _⟩ := after_go e
       cases k1
    obtain ⟨rfl, hm1⟩ := hc
    exact ih (show SRel P σ low fr1 [sent P] fr1' cs1' from h2) hm1 h3 h
theorem fut_step {P : Program} (OK : ProgOk P) {ρ : BRel} {low : Low} {fr fr' : Frame} {cs cs' : List Frame} {W W' : World} {n : Nat} {frE : Frame} {wE : World} (pc : Bool)
  (S : SRel P ρ low fr cs fr' cs') (H : HRel ρ W W') (ok : OkS P fr cs) (hpc : if pc then frE.mode = .run else (low.todo = [] /\ frE.mode = .returning))
  (hrun : runN P n (lone fr cs W) = .next (lone frE [sent P] wE)) :
  (n = 0 /\ fr = frE /\ cs = [sent P] /\ W = wE) \/ ∃ n' fr1 cs1 W1 es, n = n' + 1 /\ runN P n' (lone fr1 cs1 W1) = .next (lone frE [sent P] wE) /\ stepG P true (G fr cs) W = .go (G fr1 cs1) W1 es /\
   ∀ (m : Bool) (W' : World), HRel ρ W W' -> Like W W1 W' -> Out P ρ low W W1 W' fr cs fr1 cs1 (stepG P m (G fr' cs') W') := by
 cases n with
 | zero =>
  have e2 : Stepped.next (lone fr cs W) = .next (lone frE [sent P] wE) := hrun
  obtain ⟨h1, h2, h3⟩ := lone_inj (Stepped.next.inj e2)
  exact .inl ⟨rfl, h1, h2, h3⟩
 | succ n =>
  right
  have hnb : ∀ ch, frE.mode ≠ .panicking ch := by
   intro ch h
   cases pc
   ·have := hpc.2
    rw [h] at this; cases this
   ·have h3 : frE.mode = .run := hpc
    rw [h] at h3; cases h3
  obtain ⟨lt, ld, hF⟩ := S.frel
  rcases hF.mode with ⟨hm, _⟩ | ⟨hm, _⟩
  ·have hstop : fr.todo = [] -> cs.length ≠ 1 \/ low.todo = [] := by
    intro ht
    cases pc
    ·exact .inr hpc.1
    ·refine .inl fun hl => ?_
     rcases S.cases1 with ⟨h1, h2, h3⟩ | ⟨h1, _⟩
     ·subst h1
      have e1 : stepG P true (G fr [sent P]) W = .go (G { fr with mode := .returning } [sent P]) W #[] := by
       obtain ⟨fn, tmps, todo, defers, mode, kind, roundOf⟩ := fr
       dsimp only at hm ht h2
       subst hm ht h2
       rfl
      rw [runN_next (stepG_next e1)] at hrun
      have S2 : SRel P ρ low { fr with mode := .returning } [sent P] { fr' with mode := .returning } cs' := S.top (fun lt ld h => ⟨h.fn, h.kind, h.tmps, h.todo, h.defers, .inr ⟨rfl, rfl⟩, h.round⟩) rfl rfl rfl
      have := returning_run n S2 rfl H hrun
      have h3 : frE.mode = .run := hpc
      rw [this] at h3; cases h3
     ·exact h1 hl
   have hhead := headOk_of ok.1
   rcases run_only OK S hm H hhead with ⟨o, w, es, e⟩ | ⟨fr1, cs1, W1, es, e⟩
   ·obtain ⟨o, w, e⟩ := stepG_ended e
    exact absurd hrun (runN_ended e n _)
   ·rw [runN_next (stepG_next e)] at hrun
    refine ⟨n, fr1, cs1, W1, es, rfl, hrun, e, fun m W' H hl => ?_⟩
    rcases step_run OK m S hm H hl hhead hstop e rfl rfl with hb | ho
    ·exact absurd hrun (bad_run n hb hnb)
    ·exact ho
  ·have hnl : ¬ (cs.length = 1 /\ fr.defers = []) := by
    rintro ⟨hl, hd⟩
    rcases S.cases1 with ⟨h1, h2, h3⟩ | ⟨h1, _⟩
    ·subst h1
     have := leaving_zero S.kind hm hd hrun
     omega
    ·exact h1 hl
   rcases ret_only S hm (W := W) with ⟨o, w, es, e⟩ | ⟨fr1, cs1, W1, es, e⟩
   ·obtain ⟨o, w, e⟩ := stepG_ended e
    exact absurd hrun (runN_ended e n _)
   ·rw [runN_next (stepG_next e)] at hrun
    exact ⟨n, fr1, cs1, W1, es, rfl, hrun, e, fun m W' H hl => step_ret m S hm hnl H hl e⟩
end
section
open Go Go.Conc
def retape {α : Type} (T : Tape) : Result α -> Result α
 | .ok a w => .ok a { w with tape := T }
 | .halt h w => .halt h { w with tape := T }
def resW {α : Type} : Result α -> World
 | .ok _ w => w
 | .halt _ w => w
def Same (W : World) (T : Tape) (hi : Nat) : Prop := ∀ i q, W.drawn <= i -> i < hi -> T i q = W.tape i q
theorem Dead.local {α : Type} {P : Program} {s : Sem α} (h : Dead P s) : ∀ {W : World} {es es1 : Array Event} {r : Result α}, s.runT P W es = (r, es1) ->
  W.drawn <= (resW r).drawn /\ (resW r).tape = W.tape /\ ∀ T, Same W T (resW r).drawn -> s.runT P { W with tape := T } es = (retape T r, es1) := by
 induction h with
 | new _ ih => intro W es es1 r hr; simp only [Sem.runT] at hr ⊢; exact ih _ (W := { W with heap := W.heap.push _ }) hr
 | shape _ ih => intro W es es1 r hr; simp only [Sem.runT] at hr ⊢; exact ih _ hr
 | frozen _ ih => intro W es es1 r hr; simp only [Sem.runT] at hr ⊢; exact ih _ hr
 | @choose q k _ ih =>
  intro W es es1 r hr
  simp only [Sem.runT] at hr ⊢
  by_cases hq : q.forced = true
  ·rw [if_pos hq] at hr
   simp only [if_pos hq]
   exact ih _ hr
  ·rw [if_neg hq] at hr
   simp only [if_neg hq]
   obtain ⟨h1, ht, h2⟩ := ih _ (W := { W with drawn := W.drawn + 1 }) hr
   have h1' : W.drawn + 1 <= (resW r).drawn := h1
   refine ⟨by omega, ht, fun T hT => ?_⟩
   rw [hT W.drawn q (Nat.le_refl _) (by omega)]
   exact h2 T fun i q hi hj => hT i q (by have : W.drawn + 1 <= i := hi; omega) hj
 | program _ ih => intro W es es1 r hr; simp only [Sem.runT] at hr ⊢; exact ih hr
 | mark _ ih => intro W es es1 r hr; simp only [Sem.runT] at hr ⊢; exact ih hr
 | stop h hh => intro W es es1 r hr; simp only [Sem.runT] at hr ⊢; cases hr; exact ⟨Nat.le_refl _, rfl, fun T _ => rfl⟩
theorem Sim.local {α : Type} {R : BRel -> α -> α -> Prop} {ρ : BRel} {s s' : Sem α} {P : Program} (h : Sim P R ρ s s') :
  ∀ {W W' : World} {es es1 : Array Event} {r : Result α}, HRel ρ W W' -> s.runT P W es = (r, es1) ->
   W.drawn <= (resW r).drawn /\ (resW r).tape = W.tape /\ ∀ T, Same W T (resW r).drawn -> s.runT P { W with tape := T } es = (retape T r, es1) := by
 induction h with
 | pure h => intro W W' es es1 r H hr; simp only [Sem.runT] at hr ⊢; cases hr; exact ⟨Nat.le_refl _, rfl, fun T _ => rfl⟩
 | load ha _ ih =>
  intro W W' es es1 r H hr
  rename_i a a' _ _ _
  simp only [Sem.runT] at hr ⊢
  have hcell : ∀ T, World.cell? { W with tape := T } a = W.cell? a := fun T => rfl
  simp only [hcell]
  rcases hc : W.cell? a with _ | v
  ·rcases hf : W.farLoad P a (Mode.plain == .atomic) with y | y
   ·simp only [hc, hf] at hr
    have hf2 : ∀ T, World.farLoad P { W with tape := T } a (Mode.plain == .atomic) = .error y := by
     intro T
     rw [<- hf]
     cases ha with | mk hb o sp =>
     obtain ⟨x, x', h1, h2, h3⟩ := H.objs _ _ hb
     unfold World.farLoad World.noCell
     simp only [h1]
     cases h3 <;> rfl
    cases hr
    exact ⟨Nat.le_refl _, rfl, fun T _ => by simp only [hf2]; rfl⟩
   ·obtain ⟨z, hz⟩ := H.far (P := P) ha (Mode.plain == .atomic)
    rw [hz] at hf
    cases hf
  ·simp only [hc] at hr
   obtain ⟨v', hv', hvr⟩ := H.cell ha hc
   exact ih v v' hvr H hr
 | store ha hv _ ih =>
  intro W W' es es1 r H hr
  rename_i a a' v v' _ _ _
  by_cases hsv : soloV v = true
  ·rw [runT_store hsv] at hr
   simp only [runT_store hsv]
   have hcell : ∀ T, World.cell? { W with tape := T } a = W.cell? a := fun T => rfl
   have hfr : ∀ T, World.frozen? { W with tape := T } a = W.frozen? a := fun T => rfl
   simp only [hcell, hfr]
   rcases hc : W.cell? a with _ | u
   ·rcases hf : W.farStore P a v (Mode.plain == .atomic) with y | y
    ·simp only [hc, hf] at hr
     have hf2 : ∀ T, World.farStore P { W with tape := T } a v (Mode.plain == .atomic) = .error y := by
      intro T
      rw [<- hf]
      cases ha with | mk hb o sp =>
      obtain ⟨x, x', h1, h2, h3⟩ := H.objs _ _ hb
      unfold World.farStore World.noCell
      simp only [h1]
      cases h3 <;> rfl
     cases hr
     exact ⟨Nat.le_refl _, rfl, fun T _ => by simp only [hf2]; rfl⟩
    ·obtain ⟨z, hz⟩ := H.farS (P := P) ha v (Mode.plain == .atomic)
     rw [hz] at hf
     cases hf
   ·simp only [hc] at hr ⊢
    by_cases hf : W.frozen? a = true
    ·rw [if_pos hf] at hr
     simp only [if_pos hf]
     cases hr
     exact ⟨Nat.le_refl _, rfl, fun T _ => rfl⟩
    ·rw [if_neg hf] at hr
     simp only [if_neg hf]
     exact ih (W := W.setCell a v) (H.setCell ha hv) hr
  ·cases v <;> simp [soloV] at hsv <;> (simp only [Sem.runT] at hr ⊢; cases hr; exact ⟨Nat.le_refl _, rfl, fun T _ => rfl⟩)
 | new ho hfr _ ih =>
  intro W W' es es1 r H hr
  simp only [Sem.runT] at hr ⊢
  obtain ⟨hl, H2⟩ := H.push ho hfr
  exact ih _ _ _ hl (.inr ⟨rfl, rfl⟩) H2 hr
 | room _ ih => intro W W' es es1 r H hr; simp only [Sem.runT] at hr ⊢; exact ih H hr
 | shape hr0 _ ih => intro W W' es es1 r H hr; simp only [Sem.runT] at hr ⊢; exact ih _ H hr
 | getObj hr0 _ ih =>
  intro W W' es es1 r H hr
  simp only [Sem.runT] at hr ⊢
  obtain ⟨y, y', h1, h2, h3⟩ := H.objs _ _ hr0
  simp only [h1] at hr ⊢
  cases h3 with
  | cells h e fr fr' => cases hr; exact ⟨Nat.le_refl _, rfl, fun T _ => rfl⟩
  | loop s p fn h ps x y hx hy hp hd => exact ih _ _ (.loop s p fn h ps x y hx hy hp hd) H hr
  | noDefers => exact ih _ _ .noDefers H hr
  | taken => exact ih _ _ .taken H hr
  | number h l => exact ih _ _ (.number h l) H hr
 | setObj hr0 hn ho _ ih =>
  intro W W' es es1 r H hr
  simp only [Sem.runT] at hr ⊢
  obtain ⟨y, y', h1, h2, h3⟩ := H.objs _ _ hr0
  simp only [h1] at hr ⊢
  cases h3 with
  | cells h e fr fr' => cases hr; exact ⟨Nat.le_refl _, rfl, fun T _ => rfl⟩
  | loop => exact ih (H.setObj hr0 hn ho) hr
  | noDefers => exact ih (H.setObj hr0 hn ho) hr
  | taken => exact ih (H.setObj hr0 hn ho) hr
  | number => exact ih (H.setObj hr0 hn ho) hr
 | @choose ρ q k k' _ ih =>
  intro W W' es es1 r H hr
  simp only [Sem.runT] at hr ⊢
  by_cases hq : q.forced = true
  ·rw [if_pos hq] at hr
   simp only [if_pos hq]
   exact ih _ H hr
  ·rw [if_neg hq] at hr
   simp only [if_neg hq]
   obtain ⟨h1, ht, h2⟩ := ih _ (W := { W with drawn := W.drawn + 1 }) ⟨H.fine, H.many, H.objs, H.thaw⟩ hr
   have h1' : W.drawn + 1 <= (resW r).drawn := h1
   refine ⟨by omega, ht, fun T hT => ?_⟩
   rw [hT W.drawn q (Nat.le_refl _) (by omega)]
   exact h2 T fun i q hi hj => hT i q (by have : W.drawn + 1 <= i := hi; omega) hj
 | program _ ih => intro W W' es es1 r H hr; simp only [Sem.runT] at hr ⊢; exact ih H hr
 | dead h => intro W W' es es1 r _ hr; exact h.local hr
end
section
open Go Go.Conc
def Hangs (W : World) (X : GStep) (F : Tape -> GStep) : Prop :=
 ∀ g1 W1 es, X = .go g1 W1 es -> W.drawn <= W1.drawn /\ ∀ T, Same W T W1.drawn -> F T = .go g1 { W1 with tape := T } es
theorem hangs_go {W : World} {g : Goroutine} {es : Array Event} : Hangs W (.go g W es) (fun T => .go g { W with tape := T } es) := by
 intro g1 W1 es1 h
 cases h
 exact ⟨Nat.le_refl _, fun T _ => rfl⟩
theorem hangs_ended {W w : World} {o : Outcome} {es : Array Event} {F : Tape -> GStep} : Hangs W (.ended o w es) F := by
 intro g1 W1 es1 h
 cases h
theorem Hangs.after {W : World} {X : GStep} {F : Tape -> GStep} (h : Hangs W X F) (es : Array Event) : Hangs W (GStep.after es X) (fun T => GStep.after es (F T)) := by
 intro g1 W1 es1 hx
 obtain ⟨es2, h1, rfl⟩ := after_go hx
 obtain ⟨h2, h3⟩ := h _ _ _ h1
 exact ⟨h2, fun T hT => by dsimp only; rw [h3 T hT]; rfl⟩
theorem apply_local {P : Program} {ρ : BRel} {fr : Frame} {cs : List Frame} {W W' : World} {s s' : Sem Next} (hs : Sim P NR ρ s s') (H : HRel ρ W W') : Hangs W (stepG.apply P true fr cs none s W) (fun T => stepG.apply P true fr cs none s { W with tape := T }) := by
 intro g1 W1 es1 hgo
 rcases hr : s.runT P W #[] with ⟨r, es⟩
 obtain ⟨h1, _, h2⟩ := hs.local H hr
 unfold stepG.apply at hgo
 dsimp only at hgo
 rw [if_pos rfl, hr] at hgo
 cases r with
 | ok n w =>
  obtain ⟨σ0, n', hl0, hn'⟩ := hs.rel H hr
  cases hn' with
  | value hv =>
   cases hgo
   refine ⟨h1, fun T hT => ?_⟩
   have := h2 T hT
   unfold stepG.apply
   dsimp only
   rw [if_pos rfl, this]
   rfl
  | skip =>
   cases hgo
   refine ⟨h1, fun T hT => ?_⟩
   have := h2 T hT
   unfold stepG.apply
   dsimp only
   rw [if_pos rfl, this]
   rfl
  | enter f hf ha =>
   cases hgo
   refine ⟨h1, fun T hT => ?_⟩
   have := h2 T hT
   unfold stepG.apply
   dsimp only
   rw [if_pos rfl, this]
   rfl
  | round hl f ht x y hx hy =>
   cases hgo
   refine ⟨h1, fun T hT => ?_⟩
   have := h2 T hT
   unfold stepG.apply
   dsimp only
   rw [if_pos rfl, this]
   rfl
 | halt h w =>
  obtain ⟨hok, _⟩ := hs.halts H hr
  cases h with
  | panic v =>
   cases hgo
   refine ⟨h1, fun T hT => ?_⟩
   have := h2 T hT
   unfold stepG.apply
   dsimp only
   rw [if_pos rfl, this]
   rfl
  | stuck why => cases hgo
  | unsupported u => cases u <;> first | cases hgo | cases hok
  | _ => cases hok
theorem return_hangs {P : Program} {fr : Frame} {cs : List Frame} {v : Value} {w : World} (h : fr.kind = .normal) : Hangs w (doReturn P true fr cs none v w) (fun T => doReturn P true fr cs none v { w with tape := T }) := by
 unfold doReturn
 rcases cs with _ | ⟨c, cs⟩
 ·dsimp only
  rw [h]
  dsimp only
  intro g1 W1 es1 hgo
  rcases hi : P.inits.idxOf? fr.fn with _ | k
  ·rw [hi] at hgo
   cases hgo
  ·rw [hi] at hgo
   cases hgo
   exact ⟨Nat.le_refl _, fun T _ => rfl⟩
 ·dsimp only
  rw [h]
  exact hangs_go
theorem Hangs.bind {P : Program} {α : Type} {R : BRel -> α -> α -> Prop} {ρ : BRel} {s s' : Sem α} (hs : Sim P R ρ s s') {W W' : World} (H : HRel ρ W W') {K : Result α × Array Event -> GStep}
  (hK : ∀ r es, Hangs (resW r) (K (r, es)) (fun T => K (retape T r, es))) : Hangs W (K (s.runT P W #[])) (fun T => K (s.runT P { W with tape := T } #[])) := by
 intro g1 W1 es1 hgo
 rcases hr : s.runT P W #[] with ⟨r, es⟩
 obtain ⟨h1, e, h2⟩ := hs.local H hr
 rw [hr] at hgo
 obtain ⟨h3, h4⟩ := hK r es _ _ _ hgo
 refine ⟨Nat.le_trans h1 h3, fun T hT => ?_⟩
 dsimp only
 rw [h2 T fun i q hi hj => hT i q hi (Nat.lt_of_lt_of_le hj h3)]
 refine h4 T fun i q hi hj => ?_
 rw [e]
 exact hT i q (Nat.le_trans h1 hi) hj
theorem leave_hangs {P : Program} {ρ : BRel} {low : Low} {fr fr' : Frame} {cs cs' : List Frame} {W W' : World} {j : Option Code} (hj : ∀ c, j = some c -> okC c = true) (S : SRel P ρ low fr cs fr' cs') (H : HRel ρ W W') :
  Hangs W (leaveG P true fr cs W j) (fun T => leaveG P true fr cs { W with tape := T } j) := by
 obtain ⟨lt, ld, hF⟩ := S.frel
 have hr := hF.round
 have hk := S.kind
 unfold leaveG
 generalize fr'.roundOf = ro' at hr
 generalize fr.roundOf = ro at hr ⊢
 cases hr with
 | none =>
  dsimp only
  rcases j with _ | c
  ·exact hangs_go
  ·cases c <;> first | exact hangs_go | exact hangs_ended
 | some hl =>
  rename_i l l'
  refine Hangs.bind (sim_endRound (P := P) hl hj) H (K := fun r => GStep.after (seen P fr.fn r.2) (match r.1 with
   | .ok v w => doReturn P true fr cs none v w
   | .halt _ w => .ended (.stuck "range over a function: no such loop" (fr.pos P)) w #[])) ?_
  intro r es
  refine Hangs.after ?_ _
  cases r with
  | ok v w => exact return_hangs hk
  | halt h w => exact hangs_ended
theorem oper_hangs {P : Program} {ρ : BRel} {fr : Frame} {cs : List Frame} {W W' : World} {o : Oper} (h : fr.oper? = some o) (ho : okOp o.op = true) {ev' : Operand -> Value} (hs : Sim P NR ρ (execOp fr.eval o) (execOp ev' o)) (H : HRel ρ W W') :
  Hangs W (stepG.oper P true fr cs none W) (fun T => stepG.oper P true fr cs none { W with tape := T }) := by
 have e : ∀ W, stepG.oper P true fr cs none W = stepG.apply P true fr cs none (execOp fr.eval o) W := fun W => oper_is h ho
 simp only [e]
 exact apply_local hs H
theorem run_hangs {P : Program} (OK : ProgOk P) {ρ : BRel} {low : Low} {fr fr' : Frame} {cs cs' : List Frame} {W W' : World}
  (S : SRel P ρ low fr cs fr' cs') (hm : fr.mode = .run) (H : HRel ρ W W') (hhead : headOk fr.todo = true) : Hangs W (stepG P true (G fr cs) W) (fun T => stepG P true (G fr cs) { W with tape := T }) := by
 obtain ⟨lt, ld, hF⟩ := S.frel
 obtain ⟨fn, tmps, todo, defers, mode, kind, roundOf⟩ := fr
 obtain ⟨fn', tmps', todo', defers', mode', kind', roundOf'⟩ := fr'
 dsimp only at hm hhead
 subst hm
 have hto := hF.todo
 have hround := hF.round
 dsimp only at hto hround
 have lv : ∀ j, (∀ c, j = some c -> okC c = true) -> Hangs W (leaveG P true ⟨fn, tmps, todo, defers, .run, kind, roundOf⟩ cs W j) (fun T => leaveG P true ⟨fn, tmps, todo, defers, .run, kind, roundOf⟩ cs { W with tape := T } j) := fun j hj => leave_hangs hj S H
 cases hto with
 | nil =>
  have e1 : ∀ W, stepG P true (G ⟨fn, tmps, [], defers, .run, kind, roundOf⟩ cs) W = leaveG P true ⟨fn, tmps, [], defers, .run, kind, roundOf⟩ cs W none := fun W => by cases roundOf <;> rfl
  simp only [e1]
  exact lv none (fun c e => by cases e)
 | cons hx ht =>
  rename_i x x' k k'
  cases hx with
  | inBlock id => exact hangs_go
  | inScope b => exact hangs_go
  | inLoop b => exact hangs_go
  | inRegion ops todo =>
   cases todo with
   | nil => exact hangs_go
   | cons i rest =>
    have e1 : ∀ W, stepG P true (G ⟨fn, tmps, .inRegion ops (i :: rest) :: k, defers, .run, kind, roundOf⟩ cs) W = if ((ops[i]?).map (Region.wanted · (yielded ops tmps))).getD false then stepG.oper P true ⟨fn, tmps, .inRegion ops (i :: rest) :: k, defers, .run, kind, roundOf⟩ cs none W else .go (G (Frame.finish ⟨fn, tmps, .inRegion ops (i :: rest) :: k, defers, .run, kind, roundOf⟩ undef) cs) W #[] := fun W => rfl
    simp only [e1]
    by_cases hc : ((ops[i]?).map (Region.wanted · (yielded ops tmps))).getD false = true
    ·simp only [if_pos hc]
     rcases ho : ops[i]? with _ | o
     ·rw [ho] at hc; cases hc
     ·have hok : okOp o.op = true := by
       have h2 : (match ops[i]? with | some o => okOp o.op | none => true) = true := hhead
       rw [ho] at h2
       exact h2
      exact oper_hangs (by exact ho) hok (sim_op OK H.fine hok (fun x hx => hF.eval H.fine x hx) (fun _ => ⟨rfl, rfl⟩)) H
    ·simp only [if_neg hc]
     exact hangs_go
  | inRange hr => exact hangs_ended
  | endRange hr =>
   rename_i l l'
   refine Hangs.bind (sim_endLoop (P := P) hr) H (K := fun r => GStep.after (seen P fn r.2) (match r.1 with
      | .ok jump w => .go (G ⟨fn, tmps, (jump.map Item.code).toList ++ k, defers, .run, kind, roundOf⟩ cs) w #[]
      | .halt (.panic v) w => .go (G (Frame.raise ⟨fn, tmps, .endRangeFunc l :: k, defers, .run, kind, roundOf⟩ [{ v, recovered := false }]) cs) w #[]
      | .halt _ w => .ended (.stuck "range over a function: no such loop" (Frame.pos P ⟨fn, tmps, .endRangeFunc l :: k, defers, .run, kind, roundOf⟩)) w #[])) ?_
   intro r es
   refine Hangs.after ?_ _
   cases r with
   | ok v w => exact hangs_go
   | halt h w => cases h <;> first | exact hangs_go | exact hangs_ended
  | beginRound =>
   refine apply_local (s := do roundOf.elim (stuck "beginRound: no round") Instr.beginRound; pure .skip) (s' := do roundOf'.elim (stuck "beginRound: no round") Instr.beginRound; pure .skip) ?_ H
   cases hround with
   | none => exact .halt
   | some h => exact sim_unit (sim_beginRound h)
  | code c =>
   cases c with
   | skip => exact hangs_go
   | label l => exact hangs_go
   | seq a b => exact hangs_go
   | block id b => exact hangs_go
   | loop b => exact hangs_go
   | scope b => exact hangs_go
   | refuse why => exact hangs_ended
   | ret =>
    have e1 : ∀ W, stepG P true (G ⟨fn, tmps, .code .ret :: k, defers, .run, kind, roundOf⟩ cs) W = leaveG P true ⟨fn, tmps, .code .ret :: k, defers, .run, kind, roundOf⟩ cs W (some .ret) := fun W => by cases roundOf <;> rfl
    simp only [e1]
    exact lv _ (fun c e => by cases e; rfl)
   | cond c a b =>
    have e1 : ∀ W, stepG P true (G ⟨fn, tmps, .code (.cond c a b) :: k, defers, .run, kind, roundOf⟩ cs) W =
      match Frame.eval ⟨fn, tmps, .code (.cond c a b) :: k, defers, .run, kind, roundOf⟩ c with
      | .bool q => .go (G ⟨fn, tmps, .code (if q then a else b) :: k, defers, .run, kind, roundOf⟩ cs) W #[]
      | _ => .ended (.stuck "cond: bool expected" (Frame.pos P ⟨fn, tmps, .code (.cond c a b) :: k, defers, .run, kind, roundOf⟩)) W #[] := fun W => rfl
    simp only [e1]
    generalize Frame.eval ⟨fn, tmps, .code (.cond c a b) :: k, defers, .run, kind, roundOf⟩ c = v
    cases v <;> first | exact hangs_go | exact hangs_ended
   | exit id =>
    have e1 : ∀ W, stepG P true (G ⟨fn, tmps, .code (.exit id) :: k, defers, .run, kind, roundOf⟩ cs) W =
      match exitTo id k with
      | some r => .go (G ⟨fn, tmps, r, defers, .run, kind, roundOf⟩ cs) W #[]
      | none => leaveG P true ⟨fn, tmps, .code (.exit id) :: k, defers, .run, kind, roundOf⟩ cs W (some (.exit id)) := by
     intro W
     show (exitTo id k).elim _ _ = _
     rcases exitTo id k with _ | r
     ·cases roundOf <;> rfl
     ·rfl
    simp only [e1]
    cases exitTo id k with
    | none => exact lv _ (fun c e => by cases e; rfl)
    | some r => exact hangs_go
   | goto id =>
    have e1 : ∀ W, stepG P true (G ⟨fn, tmps, .code (.goto id) :: k, defers, .run, kind, roundOf⟩ cs) W =
      match gotoIn id k with
      | some r => .go (G ⟨fn, tmps, r, defers, .run, kind, roundOf⟩ cs) W #[]
      | none => leaveG P true ⟨fn, tmps, .code (.goto id) :: k, defers, .run, kind, roundOf⟩ cs W (some (.goto id)) := by
     intro W
     show (gotoIn id k).elim _ _ = _
     rcases gotoIn id k with _ | r
     ·cases roundOf <;> rfl
     ·rfl
    simp only [e1]
    cases gotoIn id k with
    | none => exact lv _ (fun c e => by cases e; rfl)
    | some r => exact hangs_go
   | rangeFunc f ps a b =>
    have hh : okO f = true /\ okC a = true /\ okC b = true := by
     have h2 : (okO f && okC a && okC b) = true := hhead
     simp only [Bool.and_eq_true] at h2
     exact ⟨h2.1.1, h2.1.2, h2.2⟩
    have hsim := sim_enterLoop (P := P) fn hF.tmps ps hh.2.1 hh.2.2 hround
    dsimp only at hsim
    have e1 : ∀ W, stepG P true (G ⟨fn, tmps, .code (.rangeFunc f ps a b) :: k, defers, .run, kind, roundOf⟩ cs) W =
      GStep.after (seen P fn ((Instr.enterLoop fn tmps ps a b roundOf).runT P W #[]).2) (match ((Instr.enterLoop fn tmps ps a b roundOf).runT P W #[]).1 with
       | .ok (l, mark) w => stepG.apply P true ⟨fn, tmps, .inRangeFunc l :: k, mark ++ defers, .run, kind, roundOf⟩ cs none (do let d <- Deferred.ofValue (Frame.eval ⟨fn, tmps, .inRangeFunc l :: k, mark ++ defers, .run, kind, roundOf⟩ f) (#[Operand.const (.func (.yield l) #[] #[])].map (Frame.eval ⟨fn, tmps, .inRangeFunc l :: k, mark ++ defers, .run, kind, roundOf⟩)); invoke d.target d.args) w
       | .halt _ w => .ended (.stuck "range over a function: no such loop" (Frame.pos P ⟨fn, tmps, .code (.rangeFunc f ps a b) :: k, defers, .run, kind, roundOf⟩)) w #[]) := fun W => rfl
    intro g1 W1 es1 hgo
    rw [e1] at hgo
    rcases hrun : (Instr.enterLoop fn tmps ps a b roundOf).runT P W #[] with ⟨r, es⟩
    obtain ⟨h1, e, h2⟩ := hsim.local H hrun
    rw [hrun] at hgo
    cases r with
    | halt h w =>
     obtain ⟨es2, k1, _⟩ := after_go hgo
     cases k1
    | ok x w =>
     obtain ⟨l, mark⟩ := x
     obtain ⟨es2, k1, rfl⟩ := after_go hgo
     obtain ⟨σ, ⟨l', mark'⟩, w', ds, y1, ⟨y2, y3⟩, y4, y5, y6, y7⟩ := hsim.runs (es' := #[]) H (like_none (enterLoop_drawn hrun)) hrun
     dsimp only at y2 y3 k1
     rw [map_one] at k1
     have hv : VRel σ (Frame.eval ⟨fn, tmps, .inRangeFunc l :: k, mark ++ defers, .run, kind, roundOf⟩ f) (Frame.eval ⟨fn', tmps', .code (.rangeFunc f ps a b) :: k', defers', mode', kind', roundOf'⟩ f) :=
      FRel.eval y4.fine (fr := ⟨fn, tmps, .inRangeFunc l :: k, mark ++ defers, .run, kind, roundOf⟩) (fr' := ⟨fn', tmps', .inRangeFunc l' :: k', mark' ++ defers', mode', kind', roundOf'⟩) ⟨hF.fn, hF.kind, hF.tmps.mono y1, .cons (.inRange y2) (ht.mono y1), by
       obtain ⟨d, h2, h3⟩ := hF.defers
       exact ⟨mark' ++ d, by dsimp only at h2 ⊢; rw [h2, List.append_assoc], y3.append (h3.mono y1)⟩, hF.mode, hround.mono y1⟩ f hh.1
     obtain ⟨z1, z2⟩ := apply_local (cs := cs) (fr := ⟨fn, tmps, .inRangeFunc l :: k, mark ++ defers, .run, kind, roundOf⟩) (sim_callVal OK hv (RowRel.one (VRel.yield y2))) y4 _ _ _ k1
     have h1' : W.drawn <= w.drawn := h1
     refine ⟨Nat.le_trans h1' z1, fun T hT => ?_⟩
     have h3 := h2 T fun i q hi hj => hT i q hi (Nat.lt_of_lt_of_le hj z1)
     dsimp only
     rw [e1, h3]
     have h4 := z2 T fun i q hi hj => by
      have e' : w.tape = W.tape := e
      rw [e']
      exact hT i q (Nat.le_trans h1' hi) hj
     dsimp only [retape]
     rw [map_one]
     exact congrArg (GStep.after (seen P fn es)) h4
   | region id ops draw =>
    cases draw with
    | false => exact hangs_go
    | true =>
     have e1 : ∀ W, stepG P true (G ⟨fn, tmps, .code (.region id ops true) :: k, defers, .run, kind, roundOf⟩ cs) W =
       .go (G ⟨fn, tmps, .inRegion ops (Region.schedule (P.follows .mixedOrders) ops (W.tape W.drawn (.order fn id))) :: k, defers, .run, kind, roundOf⟩ cs) { W with drawn := W.drawn + 1 } #[] := fun W => rfl
     simp only [e1]
     intro g1 W1 es1 h
     cases h
     refine ⟨Nat.le_succ _, fun T hT => ?_⟩
     dsimp only
     rw [hT W.drawn _ (Nat.le_refl _) (Nat.lt_succ_self _)]
theorem ret_hangs {P : Program} {ρ : BRel} {low : Low} {fr fr' : Frame} {cs cs' : List Frame} {W W' : World}
  (S : SRel P ρ low fr cs fr' cs') (hm : fr.mode = .returning) (H : HRel ρ W W') : Hangs W (stepG P true (G fr cs) W) (fun T => stepG P true (G fr cs) { W with tape := T }) := by
 obtain ⟨lt, ld, hF⟩ := S.frel
 have hk := S.kind
 obtain ⟨fn, tmps, todo, defers, mode, kind, roundOf⟩ := fr
 dsimp only at hm hk
 subst hm hk
 obtain ⟨d, hd, hD⟩ := hF.defers
 dsimp only at hd hD
 cases hD with
 | cons hr ht =>
  rename_i r r' ds ds'
  refine Hangs.bind (sim_takeDeferred (P := P) hr) H (K := fun x => GStep.after (seen P fn x.2) (match x.1 with
    | .ok calls w => .go (G ⟨fn, tmps, todo, calls ++ ds, .returning, .normal, roundOf⟩ cs) w #[]
    | .halt _ w => .ended (.stuck "the deferred calls of a range-over-func loop have been taken" (Frame.pos P ⟨fn, tmps, todo, ⟨.collected r, #[]⟩ :: ds, .returning, .normal, roundOf⟩)) w #[])) ?_
  intro x es
  refine Hangs.after ?_ _
  cases x with
  | ok v w => exact hangs_go
  | halt h w => exact hangs_ended
 | nil =>
  have e1 : ∀ W, stepG P true (G ⟨fn, tmps, todo, [], .returning, .normal, roundOf⟩ cs) W = match P.funcs[fn]? with
     | none => doReturn P true ⟨fn, tmps, todo, [], .returning, .normal, roundOf⟩ cs none (tmps.getD 0 undef) W
     | some f => GStep.after (seen P fn ((results f tmps).runT P W #[]).2) (match ((results f tmps).runT P W #[]).1 with
      | .ok v w => doReturn P true ⟨fn, tmps, todo, [], .returning, .normal, roundOf⟩ cs none v w
      | .halt (.stuck s) w => .ended (.stuck s (Frame.pos P ⟨fn, tmps, todo, [], .returning, .normal, roundOf⟩)) w #[]
      | .halt _ w => .ended (.stuck "return: the result variables cannot be read" (Frame.pos P ⟨fn, tmps, todo, [], .returning, .normal, roundOf⟩)) w #[]) := fun W => rfl
  simp only [e1]
  cases P.funcs[fn]? with
  | none => exact return_hangs rfl
  | some f =>
   dsimp only
   refine Hangs.bind (sim_results (P := P) f hF.tmps) H (K := fun x => GStep.after (seen P fn x.2) (match x.1 with
      | .ok v w => doReturn P true ⟨fn, tmps, todo, [], .returning, .normal, roundOf⟩ cs none v w
      | .halt (.stuck s) w => .ended (.stuck s (Frame.pos P ⟨fn, tmps, todo, [], .returning, .normal, roundOf⟩)) w #[]
      | .halt _ w => .ended (.stuck "return: the result variables cannot be read" (Frame.pos P ⟨fn, tmps, todo, [], .returning, .normal, roundOf⟩)) w #[])) ?_
   intro x es
   refine Hangs.after ?_ _
   cases x with
   | ok v w => exact return_hangs rfl
   | halt h w => cases h <;> exact hangs_ended
end
end Go.Proofs.YtdobjciaikofdaaGreatDoor
