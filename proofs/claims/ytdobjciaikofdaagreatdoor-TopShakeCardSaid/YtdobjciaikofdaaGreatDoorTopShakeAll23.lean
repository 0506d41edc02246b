/- Part 23 of 39 of what the proof of this law needs. Put together by a program out of the texts: LnG LnGa. -/
import Derived.Test.YtdobjciaikofdaaGreatDoorTopShakeAll22
import Derived.Test.YtdobjciaikofdaaGreatDoorTopShakeAll09
namespace Go.Proofs.YtdobjciaikofdaaGreatDoor
section
open Go Go.Conc
section
variable {P : Program} {tl : List Frame} {w0 W w : World} {fr : Frame} {cs : List Frame}
theorem jump_none : jumpC none := fun c h => by cases h
theorem jump_ret : jumpC (some .ret) := fun c h => by cases h; exact ⟨rfl, rfl⟩
theorem jump_exit (id : Nat) : jumpC (some (.exit id)) := fun c h => by cases h; exact ⟨rfl, rfl⟩
theorem jump_goto (id : Nat) : jumpC (some (.goto id)) := fun c h => by cases h; exact ⟨rfl, rfl⟩
theorem exit_ln {r : Bool} {id : Nat} : ∀ {k k' : List Item}, exitTo id k = some k' -> k.all (lnI r) = true -> k'.all (lnI r) = true
 | [], _, h, _ => by cases h
 | x :: k, k', h, hk => by
  rw [List.all_cons, Bool.and_eq_true] at hk
  cases x <;> first | exact exit_ln (k := k) h hk.2 | skip
  rename_i id'
  unfold exitTo at h
  split at h
  ·cases h; exact hk.2
  ·exact exit_ln h hk.2
theorem find_ln {r : Bool} {l : Nat} : ∀ {c c' : Code}, findLabel c l = some c' -> lnC r c = true -> lnC r c' = true
 | .seq a b, c', h, hc => by
  simp only [lnC, Bool.and_eq_true] at hc
  unfold findLabel at h
  rcases ha : findLabel a l with _ | x
  ·rw [ha] at h; exact find_ln h hc.2
  ·rw [ha] at h
   cases h
   simp only [lnC, Bool.and_eq_true]
   exact ⟨find_ln ha hc.1, hc.2⟩
 | .label l', c', h, _ => by
  unfold findLabel at h
  split at h
  ·cases h; rfl
  ·cases h
 | .region .., _, h, _ | .cond .., _, h, _ | .block .., _, h, _ | .loop .., _, h, _ | .scope .., _, h, _ | .rangeFunc .., _, h, _ | .ret, _, h, _ | .skip, _, h, _ | .exit _, _, h, _ | .goto _, _, h, _ | .refuse _, _, h, _ => by cases h
theorem goto_ln {r : Bool} {l : Nat} : ∀ {k k' : List Item}, gotoIn l k = some k' -> k.all (lnI r) = true -> k'.all (lnI r) = true
 | [], _, h, _ => by cases h
 | x :: k, k', h, hk => by
  have hk0 := hk
  rw [List.all_cons, Bool.and_eq_true] at hk
  cases x <;> first | exact goto_ln (k := k) h hk.2 | skip
  rename_i body
  unfold gotoIn at h
  rcases hb : findLabel body l with _ | c
  ·rw [hb] at h; exact goto_ln h hk.2
  ·rw [hb] at h
   cases h
   rw [List.all_cons, hk0, show lnI r (.code c) = true from find_ln hb hk.1]
   rfl
theorem unwind_both (OK : ProgLn P) (hF : lnFs fr cs) (V : Veil w0 W w) (F : Fair W) : StepBoth P tl w0 W w (unwind P true fr (cs ++ [ending P]) none W) (unwind P true fr (cs ++ tl) none w) := by
 obtain ⟨h1, h2⟩ := lnF_parts hF.top
 obtain ⟨fn, tmps, todo, defers, mode, kind, ro⟩ := fr
 dsimp only at h1 h2
 rcases defers with _ | ⟨d, ds⟩
 ·cases mode with
  | run => exact .ended
  | panicking chain =>
   unfold unwind
   dsimp only
   split
   ·exact .ended
   ·rcases cs with _ | ⟨c, cs⟩
    ·exact .raised
    ·exact StepBoth.go V F (fr1 := c.raise chain) (cs1 := cs) (hF.pop.with (lnF_raise _ hF.pop.top) (raise_kind _ _))
  | returning =>
   unfold unwind
   dsimp only
   rcases hf : P.funcs[fn]? with _ | fd
   ·dsimp only
    exact return_both hF V F
   ·dsimp only
    refine StepBoth.run2 (tidy_results (P := P) (fn := fd) (t := tmps)) V F (cs := cs ++ [ending P]) (cs' := cs ++ tl) ?B1 ?eX1 ?eY1 ?hE1 ?hok1 ?hhalt1 ?hst1
    case eX1 =>
     generalize (results fd tmps).runT P W #[] = x
     generalize cs ++ [ending P] = c1
     rcases x with ⟨r, es⟩
     try dsimp only
     try rfl
    case eY1 =>
     all_goals
      generalize (results fd tmps).runT P w #[] = x
      generalize cs ++ tl = c1
      rcases x with ⟨r, es⟩
      try dsimp only
      try rfl
    case hE1 =>
     intro c1 r es
     exact ⟨seen P fn es, fun e he => mem_seenL he, by simp only [seen_nil, after_nil]⟩
    case hok1 =>
     intro w0 v W1 w1 hv V1 F1
     simp only [seen_nil, after_nil]
     exact return_both hF V1 F1
    case hhalt1 =>
     intro w0 h W1 w1 hh V1 F1
     simp only [seen_nil, after_nil]
     cases h <;> exact .ended
    case hst1 => intro c1 m W1; exact ⟨_, _, _, rfl⟩
 ·rw [List.all_cons, Bool.and_eq_true] at h2
  obtain ⟨tg, args⟩ := d
  have hrest : lnFs (⟨fn, tmps, todo, ds, mode, kind, ro⟩ : Frame) cs := hF.with (lnF_mk h1 h2.2) rfl
  cases tg
  case collected block =>
   unfold unwind
   dsimp only
   refine StepBoth.run2 (tidy_takeDeferred (P := P) (b := block)) V F (cs := cs ++ [ending P]) (cs' := cs ++ tl) ?B2 ?eX2 ?eY2 ?hE2 ?hok2 ?hhalt2 ?hst2
   case eX2 =>
    generalize (Instr.takeDeferred block).runT P W #[] = x
    generalize cs ++ [ending P] = c1
    rcases x with ⟨r, es⟩
    try dsimp only
    try rfl
   case eY2 =>
    all_goals
     generalize (Instr.takeDeferred block).runT P w #[] = x
     generalize cs ++ tl = c1
     rcases x with ⟨r, es⟩
     try dsimp only
     try rfl
   case hE2 =>
    intro c1 r es
    exact ⟨seen P fn es, fun e he => mem_seenL he, by simp only [seen_nil, after_nil]⟩
   case hok2 =>
    intro w0 v W1 w1 hv V1 F1
    simp only [seen_nil, after_nil]
    exact StepBoth.go V1 F1 (fr1 := ⟨fn, tmps, todo, v ++ ds, mode, kind, ro⟩) (cs1 := cs) (hF.with (lnF_mk h1 (by rw [List.all_append, hv, h2.2]; rfl)) rfl)
   case hhalt2 =>
    intro w0 h W1 w1 hh V1 F1
    simp only [seen_nil, after_nil]
    exact .ended
   case hst2 => intro c1 m W1; exact ⟨_, _, _, rfl⟩
  all_goals exact deferred_both OK h2.1 hrest V F
theorem exec_both (OK : ProgLn P) (hF : lnFs fr cs) (V : Veil w0 W w) (F : Fair W) (hm : fr.mode = .run) : StepBoth P tl w0 W w (stepG P true (G fr (cs ++ [ending P])) W) (stepG P true (G fr (cs ++ tl)) w) := by
 obtain ⟨h1, h2⟩ := lnF_parts hF.top
 obtain ⟨fn, tmps, todo, defers, mode, kind, ro⟩ := fr
 dsimp only at h1 h2 hm
 subst hm
 have go : ∀ k', k'.all (lnI ro.isSome) = true -> StepBoth P tl w0 W w (.go (G ⟨fn, tmps, k', defers, .run, kind, ro⟩ (cs ++ [ending P])) W #[]) (.go (G ⟨fn, tmps, k', defers, .run, kind, ro⟩ (cs ++ tl)) w #[]) := fun k' hk => StepBoth.go V F (hF.with (lnF_mk hk h2) rfl)
 have back : StepBoth P tl w0 W w (.go (G ⟨fn, tmps, todo, defers, .returning, kind, ro⟩ (cs ++ [ending P])) W #[]) (.go (G ⟨fn, tmps, todo, defers, .returning, kind, ro⟩ (cs ++ tl)) w #[]) := StepBoth.go V F (hF.with (lnF_mk h1 h2) rfl)
 rcases todo with _ | ⟨x, k⟩
 ·rcases ro with _ | l
  ·exact back
  ·refine StepBoth.run2 (tidy_endRound (P := P) (l := l) (j := none) (jump_none)) V F (cs := cs ++ [ending P]) (cs' := cs ++ tl) ?B3 ?eX3 ?eY3 ?hE3 ?hok3 ?hhalt3 ?hst3
   case eX3 =>
    simp only [G, stepG, stepG.exec]
    generalize (Instr.endRound l none).runT P W #[] = x
    generalize cs ++ [ending P] = c1
    rcases x with ⟨r, es⟩
    try dsimp only
    try rfl
   case eY3 =>
    simp only [G, stepG, stepG.exec]
    all_goals
     generalize (Instr.endRound l none).runT P w #[] = x
     generalize cs ++ tl = c1
     rcases x with ⟨r, es⟩
     try dsimp only
     try rfl
   case hE3 =>
    intro c1 r es
    exact ⟨seen P fn es, fun e he => mem_seenL he, by simp only [seen_nil, after_nil]⟩
   case hok3 =>
    intro w0 v W1 w1 hv V1 F1
    simp only [seen_nil, after_nil]
    exact return_both hF V1 F1
   case hhalt3 =>
    intro w0 h W1 w1 hh V1 F1
    simp only [seen_nil, after_nil]
    exact .ended
   case hst3 => intro c1 m W1; exact ⟨_, _, _, rfl⟩
 rw [List.all_cons, Bool.and_eq_true] at h1
 obtain ⟨hx, hk⟩ := h1
 cases x
 case inBlock id => exact go k hk
 case inScope b => exact go k hk
 case inLoop b => exact go (.code b :: .inLoop b :: k) (by rw [List.all_cons, List.all_cons, hk]; simp only [lnI] at hx ⊢; rw [hx]; rfl)
 case inRangeFunc l => exact .ended
 case call => cases hx
 case extern => cases hx
 case beginRound =>
  refine apply_both OK ?_ hF V F
  cases ro with
  | none => exact Tidy.halt rfl
  | some l => exact Tidy.bind tidy_beginRound fun _ _ => .pure trivial
 case endRangeFunc l =>
  refine StepBoth.run2 (tidy_endLoop (P := P) (l := l)) V F (cs := cs ++ [ending P]) (cs' := cs ++ tl) ?B4 ?eX4 ?eY4 ?hE4 ?hok4 ?hhalt4 ?hst4
  case eX4 =>
   simp only [G, stepG, stepG.exec]
   generalize (Instr.endLoop l).runT P W #[] = x
   generalize cs ++ [ending P] = c1
   rcases x with ⟨r, es⟩
   try dsimp only
   try rfl
  case eY4 =>
   simp only [G, stepG, stepG.exec]
   all_goals
    generalize (Instr.endLoop l).runT P w #[] = x
    generalize cs ++ tl = c1
    rcases x with ⟨r, es⟩
    try dsimp only
    try rfl
  case hE4 =>
   intro c1 r es
   exact ⟨seen P fn es, fun e he => mem_seenL he, by simp only [seen_nil, after_nil]⟩
  case hok4 =>
   intro w0 v W1 w1 hv V1 F1
   simp only [seen_nil, after_nil]
   refine StepBoth.go V1 F1 (fr1 := ⟨fn, tmps, (v.map Item.code).toList ++ k, defers, .run, kind, ro⟩) (cs1 := cs) (hF.with (lnF_mk ?_ h2) rfl)
   cases v with
   | none => exact hk
   | some c =>
    obtain ⟨q1, q2⟩ := hv c rfl
    show (Item.code c :: k).all (lnI ro.isSome) = true
    rw [List.all_cons, hk]
    cases ro <;> simp only [lnI, Option.isSome_none, Option.isSome_some, q1, q2, Bool.and_self]
  case hhalt4 =>
   intro w0 h W1 w1 hh V1 F1
   simp only [seen_nil, after_nil]
   cases h with
   | panic v => exact StepBoth.go V1 F1 (fr1 := (⟨fn, tmps, .endRangeFunc l :: k, defers, .run, kind, ro⟩ : Frame).raise [{ v, recovered := false }]) (cs1 := cs) (hF.with (lnF_raise _ hF.top) (raise_kind _ _))
   | _ => exact .ended
  case hst4 => intro c1 m W1; exact ⟨_, _, _, rfl⟩
 case inRegion ops is =>
  cases is with
  | nil => exact go k hk
  | cons i is =>
   have hops : ops.all (fun o => lnOp ro.isSome o.op) = true := hx
   by_cases hw : ((ops[i]?).map (Region.wanted · (yielded ops tmps))).getD false = true
   ·rcases ho : ops[i]? with _ | o
    ·rw [ho] at hw; cases hw
    ·have hlo : lnOp ro.isSome o.op = true := by
      rw [Array.all_eq_true_iff_forall_mem] at hops
      exact hops o (Array.mem_of_getElem? ho)
     have e : ∀ (c : List Frame) (W : World), stepG P true (G ⟨fn, tmps, .inRegion ops (i :: is) :: k, defers, .run, kind, ro⟩ c) W = stepG.apply P true ⟨fn, tmps, .inRegion ops (i :: is) :: k, defers, .run, kind, ro⟩ c none (execOp (Frame.eval ⟨fn, tmps, .inRegion ops (i :: is) :: k, defers, .run, kind, ro⟩) o) W := by
      intro c W
      have hw2 := hw
      rw [ho] at hw2
      simp only [G, stepG, stepG.exec, ho, hw2, if_true, stepG.oper, Frame.oper?]
      cases ro with
      | none => rfl
      | some l =>
       obtain ⟨a1, op, a2, a3, a4, a5⟩ := o
       cases op <;> first | rfl | skip
       rename_i c
       obtain ⟨cl, xs, ts⟩ := c
       cases cl <;> simp [lnOp] at hlo
     rw [e, e]
     exact apply_both OK (OK.op _ o _ hlo) hF V F
   ·have e : ∀ (c : List Frame) (W : World), stepG P true (G ⟨fn, tmps, .inRegion ops (i :: is) :: k, defers, .run, kind, ro⟩ c) W = .go (G ((⟨fn, tmps, .inRegion ops (i :: is) :: k, defers, .run, kind, ro⟩ : Frame).finish undef) c) W #[] := by
     intro c W
     have hf : ((ops[i]?).map (Region.wanted · (yielded ops tmps))).getD false = false := by
      cases hb : ((ops[i]?).map (Region.wanted · (yielded ops tmps))).getD false with
      | true => exact absurd hb hw
      | false => rfl
     simp only [G, stepG, stepG.exec, hf, Bool.false_eq_true, if_false]
    rw [e, e]
    exact StepBoth.go V F (hF.with (lnF_finish _ hF.top) (finish_kind _ _))
 case code c =>
  cases c
  case skip => exact go k hk
  case label => exact go k hk
  case seq a b => exact go (.code a :: .code b :: k) (by rw [List.all_cons, List.all_cons, hk]; simp only [lnI, lnC, Bool.and_eq_true] at hx ⊢; exact ⟨hx.1, hx.2, trivial⟩)
  case block id b => exact go (.code b :: .inBlock id :: k) (by rw [List.all_cons, List.all_cons, hk]; simp only [lnI, lnC] at hx ⊢; rw [hx]; rfl)
  case loop b => exact go (.code b :: .inLoop b :: k) (by rw [List.all_cons, List.all_cons, hk]; simp only [lnI, lnC] at hx ⊢; rw [hx]; rfl)
  case scope b => exact go (.code b :: .inScope b :: k) (by rw [List.all_cons, List.all_cons, hk]; simp only [lnI, lnC] at hx ⊢; rw [hx]; rfl)
  case refuse => exact .ended
  case cond c a b =>
   simp only [lnI, lnC, Bool.and_eq_true] at hx
   simp only [G, stepG, stepG.exec]
   split
   ·rename_i bb _
    cases bb
    ·exact go (.code b :: k) (by rw [List.all_cons, hk]; simp only [lnI, hx.2]; rfl)
    ·exact go (.code a :: k) (by rw [List.all_cons, hk]; simp only [lnI, hx.1]; rfl)
   ·exact .ended
  case region id ops draw =>
   have hops : ∀ is, (Item.inRegion ops is :: k).all (lnI ro.isSome) = true := fun is => by rw [List.all_cons, hk]; simp only [lnI, lnC] at hx ⊢; rw [hx]; rfl
   cases draw with
   | false => exact go _ (hops _)
   | true =>
    have e : ∀ (c : List Frame) (W : World), stepG P true (G ⟨fn, tmps, .code (.region id ops true) :: k, defers, .run, kind, ro⟩ c) W = .go (G ⟨fn, tmps, .inRegion ops (Region.schedule (P.follows .mixedOrders) ops (W.tape W.drawn (.order fn id))) :: k, defers, .run, kind, ro⟩ c) { W with drawn := W.drawn + 1 } #[] := by
     intro c W
     simp [G, stepG, stepG.exec, choose, Sem.run, Question.forced, Question.cut]
    rw [e, e]
    refine .inr (.inr ⟨none, _, cs, _, _, rfl, hF.with (lnF_mk (hops _) h2) rfl, Nat.le_succ _, rfl, F, Nat.le_refl _, fun T => ?_⟩)
    have t0 := T 0 (.order fn id) (Nat.lt_succ_self _)
    simp only [Nat.add_zero] at t0
    rw [<- t0]
    exact ⟨_, _, rfl, ⟨V.os, V.output, V.size, V.same, V.veil⟩, fun e he => by simp at he, rfl, by show w.drawn + 1 + W.drawn = W.drawn + 1 + w.drawn; omega⟩
  case ret =>
   rcases ro with _ | l
   ·exact back
   ·refine StepBoth.run2 (tidy_endRound (P := P) (l := l) (j := (some .ret)) (jump_ret)) V F (cs := cs ++ [ending P]) (cs' := cs ++ tl) ?B5 ?eX5 ?eY5 ?hE5 ?hok5 ?hhalt5 ?hst5
    case eX5 =>
     simp only [G, stepG, stepG.exec]
     generalize (Instr.endRound l (some .ret)).runT P W #[] = x
     generalize cs ++ [ending P] = c1
     rcases x with ⟨r, es⟩
     try dsimp only
     try rfl
    case eY5 =>
     simp only [G, stepG, stepG.exec]
     all_goals
      generalize (Instr.endRound l (some .ret)).runT P w #[] = x
      generalize cs ++ tl = c1
      rcases x with ⟨r, es⟩
      try dsimp only
      try rfl
    case hE5 =>
     intro c1 r es
     exact ⟨seen P fn es, fun e he => mem_seenL he, by simp only [seen_nil, after_nil]⟩
    case hok5 =>
     intro w0 v W1 w1 hv V1 F1
     simp only [seen_nil, after_nil]
     exact return_both hF V1 F1
    case hhalt5 =>
     intro w0 h W1 w1 hh V1 F1
     simp only [seen_nil, after_nil]
     exact .ended
    case hst5 => intro c1 m W1; exact ⟨_, _, _, rfl⟩
  case exit id =>
   rcases he : exitTo id k with _ | k'
   ·rcases ro with _ | l
    ·have e : ∀ (c : List Frame) (W : World), ∃ o es, stepG P true (G ⟨fn, tmps, .code (.exit id) :: k, defers, .run, kind, none⟩ c) W = .ended o W es := by
      intro c W
      simp only [G, stepG, stepG.exec, he, Option.elim]
      exact ⟨_, _, rfl⟩
     obtain ⟨o, es, h⟩ := e (cs ++ [ending P]) W
     rw [h]
     exact .ended
    ·refine StepBoth.run2 (tidy_endRound (P := P) (l := l) (j := some (.exit id)) (jump_exit id)) V F (cs := cs ++ [ending P]) (cs' := cs ++ tl) ?B6 ?eX6 ?eY6 ?hE6 ?hok6 ?hhalt6 ?hst6
     case eX6 =>
      simp only [G, stepG, stepG.exec, he, Option.elim]
      generalize (Instr.endRound l (some (.exit id))).runT P W #[] = x
      generalize cs ++ [ending P] = c1
      rcases x with ⟨r, es⟩
      try dsimp only
      try rfl
     case eY6 =>
      simp only [G, stepG, stepG.exec, he, Option.elim]
      all_goals
       generalize (Instr.endRound l (some (.exit id))).runT P w #[] = x
       generalize cs ++ tl = c1
       rcases x with ⟨r, es⟩
       try dsimp only
       try rfl
     case hE6 =>
      intro c1 r es
      exact ⟨seen P fn es, fun e he => mem_seenL he, by simp only [seen_nil, after_nil]⟩
     case hok6 =>
      intro w0 v W1 w1 hv V1 F1
      simp only [seen_nil, after_nil]
      exact return_both hF V1 F1
     case hhalt6 =>
      intro w0 h W1 w1 hh V1 F1
      simp only [seen_nil, after_nil]
      exact .ended
     case hst6 => intro c1 m W1; exact ⟨_, _, _, rfl⟩
   ·have e : ∀ (c : List Frame) (W : World), stepG P true (G ⟨fn, tmps, .code (.exit id) :: k, defers, .run, kind, ro⟩ c) W = .go (G ⟨fn, tmps, k', defers, .run, kind, ro⟩ c) W #[] := by
     intro c W
     simp only [G, stepG, stepG.exec, he, Option.elim]
    rw [e, e]
    exact go k' (exit_ln he hk)
  case goto id =>
   rcases he : gotoIn id k with _ | k'
   ·rcases ro with _ | l
    ·have e : ∀ (c : List Frame) (W : World), ∃ o es, stepG P true (G ⟨fn, tmps, .code (.goto id) :: k, defers, .run, kind, none⟩ c) W = .ended o W es := by
      intro c W
      simp only [G, stepG, stepG.exec, he, Option.elim]
      exact ⟨_, _, rfl⟩
     obtain ⟨o, es, h⟩ := e (cs ++ [ending P]) W
     rw [h]
     exact .ended
    ·refine StepBoth.run2 (tidy_endRound (P := P) (l := l) (j := some (.goto id)) (jump_goto id)) V F (cs := cs ++ [ending P]) (cs' := cs ++ tl) ?B7 ?eX7 ?eY7 ?hE7 ?hok7 ?hhalt7 ?hst7
     case eX7 =>
      simp only [G, stepG, stepG.exec, he, Option.elim]
      generalize (Instr.endRound l (some (.goto id))).runT P W #[] = x
      generalize cs ++ [ending P] = c1
      rcases x with ⟨r, es⟩
      try dsimp only
      try rfl
     case eY7 =>
      simp only [G, stepG, stepG.exec, he, Option.elim]
      all_goals
       generalize (Instr.endRound l (some (.goto id))).runT P w #[] = x
       generalize cs ++ tl = c1
       rcases x with ⟨r, es⟩
       try dsimp only
       try rfl
     case hE7 =>
      intro c1 r es
      exact ⟨seen P fn es, fun e he => mem_seenL he, by simp only [seen_nil, after_nil]⟩
     case hok7 =>
      intro w0 v W1 w1 hv V1 F1
      simp only [seen_nil, after_nil]
      exact return_both hF V1 F1
     case hhalt7 =>
      intro w0 h W1 w1 hh V1 F1
      simp only [seen_nil, after_nil]
      exact .ended
     case hst7 => intro c1 m W1; exact ⟨_, _, _, rfl⟩
   ·have e : ∀ (c : List Frame) (W : World), stepG P true (G ⟨fn, tmps, .code (.goto id) :: k, defers, .run, kind, ro⟩ c) W = .go (G ⟨fn, tmps, k', defers, .run, kind, ro⟩ c) W #[] := by
     intro c W
     simp only [G, stepG, stepG.exec, he, Option.elim]
    rw [e, e]
    exact go k' (goto_ln he hk)
  case rangeFunc f ps a b =>
   simp only [lnI, lnC, Bool.and_eq_true] at hx
   refine StepBoth.run2 (tidy_enterLoop (P := P) (fn := fn) (t := tmps) (ps := ps) (o := ro) hx.1 hx.2) V F (cs := cs ++ [ending P]) (cs' := cs ++ tl) ?B8 ?eX8 ?eY8 ?hE8 ?hok8 ?hhalt8 ?hst8
   case eX8 =>
    simp only [G, stepG, stepG.exec]
    generalize (Instr.enterLoop fn tmps ps a b ro).runT P W #[] = x
    generalize cs ++ [ending P] = c1
    rcases x with ⟨r, es⟩
    try dsimp only
    try rfl
   case eY8 =>
    simp only [G, stepG, stepG.exec]
    all_goals
     generalize (Instr.enterLoop fn tmps ps a b ro).runT P w #[] = x
     generalize cs ++ tl = c1
     rcases x with ⟨r, es⟩
     try dsimp only
     try rfl
   case hE8 =>
    intro c1 r es
    exact ⟨seen P fn es, fun e he => mem_seenL he, by simp only [seen_nil, after_nil]⟩
   case hok8 =>
    intro w0 v W1 w1 hv V1 F1
    simp only [seen_nil, after_nil]
    obtain ⟨l, mark⟩ := v
    refine apply_both OK ?_ (fr := ⟨fn, tmps, .inRangeFunc l :: k, mark ++ defers, .run, kind, ro⟩) (hF.with (lnF_mk ?_ ?_) rfl) V1 F1
    ·refine Tidy.bind (R := fun d => lnD d = true) ?_ fun d hd => (OK.inv _ _ hd).mono fun _ h => lnX_of h
     exact OK.val _ _
    ·rw [List.all_cons, hk]; rfl
    ·show (mark ++ defers).all lnD = true
     rw [List.all_append, h2, show mark.all lnD = true from hv]
     rfl
   case hhalt8 =>
    intro w0 h W1 w1 hh V1 F1
    simp only [seen_nil, after_nil]
    exact .ended
   case hst8 => intro c1 m W1; exact ⟨_, _, _, rfl⟩
theorem step_both (OK : ProgLn P) (hF : lnFs fr cs) (V : Veil w0 W w) (F : Fair W) : StepBoth P tl w0 W w (stepG P true (G fr (cs ++ [ending P])) W) (stepG P true (G fr (cs ++ tl)) w) := by
 cases hm : fr.mode with
 | run => exact exec_both OK hF V F hm
 | _ =>
  have e : ∀ (c : List Frame) (W : World), stepG P true (G fr c) W = unwind P true fr c none W := fun c W => by simp only [G, stepG, hm]
  rw [e, e]
  exact unwind_both OK hF V F
end
end
section
open Go Go.Conc
def Still (B : Nat) (u : Trace) : Prop := ∀ op ∈ u, op.g = 0 /\ op.act.touch? = none /\ (op.act ≠ .mark .disable /\ op.act ≠ .mark .enable) /\ op.act.low B
theorem Still.nil {B : Nat} : Still B #[] := fun op h => by simp at h
section
variable {P : Program} {tl : List Frame} {w0 W w : World}
theorem chan_same (V : Veil w0 W w) {r : Nat} (h : illMade W ⟨.chan (some r), none, undef⟩ = false) : w.heap[r]? = W.heap[r]? :=
 V.same r fun e => by simp [illMade, e] at h
theorem ill_chan {W : World} {c : CommCase} {r : Nat} (hc : c.chan = .chan (some r)) (h : illMade W c = false) : illMade W ⟨.chan (some r), none, undef⟩ = false := by
 unfold illMade at h ⊢
 rw [hc] at h
 exact h
theorem ill_same (V : Veil w0 W w) {c : CommCase} (h : illMade W c = false) : illMade w c = false := by
 have h' := h
 unfold illMade at h ⊢
 split at h
 ·rfl
 ·rename_i r e
  rw [chan_same V (ill_chan e h')]
  exact h
 ·cases h
theorem ways_same (V : Veil w0 W w) {gs gs' : Array Goroutine} (hp : ∀ r b, partners gs r b = []) (hp' : ∀ r b, partners gs' r b = []) {c : CommCase} (h : illMade W c = false) : ways w gs' c = ways W gs c := by
 unfold ways
 cases hc : c.chan with
 | chan o =>
  cases o with
  | none => rfl
  | some r =>
   dsimp only
   rw [chan_same V (ill_chan hc h)]
   simp only [hp, hp']
 | _ => rfl
theorem ways_alone {gs : Array Goroutine} (hp : ∀ r b, partners gs r b = []) {c : CommCase} {y : Way} (h : y ∈ ways W gs c) : ∀ j k, y ≠ .partner j k := by
 rintro j k rfl
 unfold ways at h
 split at h
 ·split at h
  ·split at h
   ·simp at h
   ·simp only [hp] at h
    split at h <;> simp at h
  ·split at h
   ·simp at h
   ·simp only [hp] at h
    split at h <;> simp at h
  ·simp at h
 ·simp at h
theorem ways_size {gs : Array Goroutine} {c : CommCase} (h : ways W gs c ≠ []) : 0 < W.heap.size := by
 unfold ways at h
 split at h
 ·rename_i r e
  rcases hb : W.heap[r]? with _ | o
  ·rw [hb] at h; exact absurd rfl h
  ·exact Nat.lt_of_le_of_lt (Nat.zero_le _) (Array.getElem?_eq_some_iff.1 hb).1
 ·exact absurd rfl h
def readyOf (w : World) (gs : Array Goroutine) (cases : Array CommCase) : List (Nat × CommCase × List Way) := (cases.zipIdx.toList.map fun (c, k) => (k, c, ways w gs c)).filter fun (_, _, ws) => !ws.isEmpty
theorem ready_mem {gs : Array Goroutine} {cases : Array CommCase} {x : Nat × CommCase × List Way} (h : x ∈ readyOf W gs cases) : x.2.1 ∈ cases /\ x.2.2 = ways W gs x.2.1 /\ x.2.2 ≠ [] := by
 unfold readyOf at h
 rw [List.mem_filter] at h
 obtain ⟨h1, h2⟩ := h
 simp only [List.mem_map, Prod.exists] at h1
 obtain ⟨c, k, hm, rfl⟩ := h1
 refine ⟨?_, rfl, fun e => ?_⟩
 ·have := Array.mem_zipIdx_iff_getElem?.1 (Array.mem_toList_iff.1 hm)
  exact Array.mem_of_getElem? (i := k) (by simpa using this)
 ·dsimp only at h2 e
  rw [e] at h2
  cases h2
theorem ready_same (V : Veil w0 W w) {gs gs' : Array Goroutine} {cases : Array CommCase} (hp : ∀ r b, partners gs r b = []) (hp' : ∀ r b, partners gs' r b = []) (h : ∀ c ∈ cases, illMade W c = false) : readyOf w gs' cases = readyOf W gs cases := by
 unfold readyOf
 congr 1
 refine List.map_congr_left ?_
 rintro ⟨c, k⟩ hm
 have := Array.mem_zipIdx_iff_getElem?.1 (Array.mem_toList_iff.1 hm)
 dsimp only
 rw [ways_same V hp hp' (h c (Array.mem_of_getElem? (i := k) (by simpa using this)))]
theorem pick_both {α : Type} {R : α -> Prop} {s : Sem α} (hs : Tidy P R s) (V : Veil w0 W w) (F : Fair W) {x : α} {W1 : World} (e : s.run P W = .ok x W1) :
  R x /\ Fair W1 /\ W1.tape = W.tape /\ W.drawn <= W1.drawn /\ W.heap.size <= W1.heap.size /\ (Tunes W w W1.drawn -> ∃ w1, s.run P w = .ok x w1 /\ Veil w0 W1 w1 /\ w1.tape = w.tape /\ w1.drawn + W.drawn = W1.drawn + w.drawn) := by
 have e' : (s.runT P W #[]).1 = .ok x W1 := by rw [Sem.runT_eq]; exact e
 rcases hs.both (Veil.self (W := W)) F #[] #[] with ⟨m, W2, e2⟩ | ⟨_, hself⟩
 ·rw [e'] at e2; cases e2
 obtain ⟨_, _, b0⟩ := hself tunes_self
 rw [e'] at b0
 have hR : R x := by
  rcases b0.rel with ⟨a, q1, _, q3⟩ | ⟨h, q1, _, _⟩
  ·cases q1; exact q3
  ·cases q1
 refine ⟨hR, b0.fair, b0.ltape, b0.ldrawn, b0.size, fun T => ?_⟩
 rcases hs.both V F #[] #[] with ⟨m, W2, e2⟩ | ⟨_, hb⟩
 ·rw [e'] at e2; cases e2
 rw [e'] at hb
 obtain ⟨_, _, b⟩ := hb T
 rcases b.rel with ⟨a, q1, q2, _⟩ | ⟨h, q1, _, _⟩
 ·cases q1
  refine ⟨resWorld (s.runT P w #[]).1, (show s.run P w = (s.runT P w #[]).1 by rw [Sem.runT_eq]).trans q2, b.veil, b.tape, b.drawn⟩
 ·cases q1
theorem halt_both {α : Type} {R : α -> Prop} {s : Sem α} (hs : Tidy P R s) (V : Veil w0 W w) (F : Fair W) {x : Value} {W1 : World} (e : s.run P W = .halt (.panic x) W1) :
  Fair W1 /\ W1.tape = W.tape /\ W.drawn <= W1.drawn /\ W.heap.size <= W1.heap.size /\ (Tunes W w W1.drawn -> ∃ w1, s.run P w = .halt (.panic x) w1 /\ Veil w0 W1 w1 /\ w1.tape = w.tape /\ w1.drawn + W.drawn = W1.drawn + w.drawn) := by
 have e' : (s.runT P W #[]).1 = .halt (.panic x) W1 := by rw [Sem.runT_eq]; exact e
 rcases hs.both (Veil.self (W := W)) F #[] #[] with ⟨m, W2, e2⟩ | ⟨_, hself⟩
 ·rw [e'] at e2; cases e2
 obtain ⟨_, _, b0⟩ := hself tunes_self
 rw [e'] at b0
 refine ⟨b0.fair, b0.ltape, b0.ldrawn, b0.size, fun T => ?_⟩
 rcases hs.both V F #[] #[] with ⟨m, W2, e2⟩ | ⟨_, hb⟩
 ·rw [e'] at e2; cases e2
 rw [e'] at hb
 obtain ⟨_, _, b⟩ := hb T
 rcases b.rel with ⟨a, q1, _, _⟩ | ⟨h, q1, q2, _⟩
 ·cases q1
 ·cases q1
  exact ⟨resWorld (s.runT P w #[]).1, (show s.run P w = (s.runT P w #[]).1 by rw [Sem.runT_eq]).trans q2, b.veil, b.tape, b.drawn⟩
theorem Veil.chan (V : Veil w0 W w) {r : Nat} {o o2 : Obj} (h : W.heap[r]? = some o) (h2 : o2 ≠ Obj.coro none) : Veil w0 { W with heap := W.heap.setIfInBounds r o2 } { w with heap := w.heap.setIfInBounds r o2 } where
 os := V.os
 output := V.output
 size := by simpa using V.size
 same := fun b hb => by
  have hlt := (Array.getElem?_eq_some_iff.1 h).1
  have hlt' : r < w.heap.size := by rw [V.size]; exact hlt
  by_cases hbr : r = b
  ·subst hbr
   simp [hlt, hlt']
  ·dsimp only at hb ⊢
   rw [Array.getElem?_setIfInBounds_ne hbr] at hb ⊢
   rw [Array.getElem?_setIfInBounds_ne hbr]
   exact V.same b hb
 veil := fun b hb => by
  have hlt := (Array.getElem?_eq_some_iff.1 h).1
  by_cases hbr : r = b
  ·subst hbr
   dsimp only at hb
   rw [Array.getElem?_setIfInBounds_self_of_lt hlt] at hb
   exact absurd (Option.some.inj hb) h2
  ·dsimp only at hb ⊢
   rw [Array.getElem?_setIfInBounds_ne hbr] at hb ⊢
   exact V.veil b hb
theorem Fair.chan (F : Fair W) {r : Nat} {o2 : Obj} (h : lnO o2) : Fair { W with heap := W.heap.setIfInBounds r o2 } := by
 intro b o hb
 dsimp only at hb
 by_cases hbr : r = b
 ·subst hbr
  rw [Array.getElem?_setIfInBounds] at hb
  simp only [if_true] at hb
  split at hb
  ·cases hb; exact h
  ·cases hb
 ·rw [Array.getElem?_setIfInBounds_ne hbr] at hb
  exact F b o hb
theorem ite_two {α β : Type} {C : α -> β -> Prop} {c c' : Prop} [Decidable c] [Decidable c'] {a b : α} {a' b' : β} (h : ¬ c) (h' : ¬ c') (hb : C b b') : C (if c then a else b) (if c' then a' else b') := by
 rw [if_neg h, if_neg h']
 exact hb
theorem ite_yes {α β : Type} {C : α -> β -> Prop} {c c' : Prop} [Decidable c] [Decidable c'] {a b : α} {a' b' : β} (h : c) (h' : c') (ha : C a a') : C (if c then a else b) (if c' then a' else b') := by
 rw [if_pos h, if_pos h']
 exact ha
def CommBoth (P : Program) (tl : List Frame) (w0 W w : World) (cs : List Frame) (rest rest' : Rest) (gs gs' : Array Goroutine) (X Y : Stepped × Array MemOp) : Prop :=
 (∃ o W1, X.1 = .ended o W1) \/ (∃ g W1, X.1 = .next { world := W1, gs := gs.setIfInBounds 0 g, rest := rest } /\ g.status = .blocked) \/
 ∃ fr1 W1, X.1 = .next { world := W1, gs := gs.setIfInBounds 0 (G fr1 (cs ++ [ending P])), rest := rest } /\ lnFs fr1 cs /\ W.drawn <= W1.drawn /\ W1.tape = W.tape /\ Fair W1 /\ W.heap.size <= W1.heap.size /\
  (Tunes W w W1.drawn -> ∃ w1, Y.1 = .next { world := w1, gs := gs'.setIfInBounds 0 (G fr1 (cs ++ tl)), rest := rest' } /\ Veil w0 W1 w1 /\ w1.tape = w.tape /\ w1.drawn + W.drawn = W1.drawn + w.drawn /\ Still w1.heap.size Y.2)
theorem comm_both {fr : Frame} {cs : List Frame} {rest rest' : Rest} {gs gs' : Array Goroutine} {cases : Array CommCase} {b : Bool} {sh : CommShape} (hF : lnFs fr cs) (V : Veil w0 W w) (F : Fair W) (hp : ∀ r b, partners gs r b = []) (hp' : ∀ r b, partners gs' r b = []) :
  CommBoth P tl w0 W w cs rest rest' gs gs' (communicate P rest gs 0 (G fr (cs ++ [ending P])) cases b sh W) (communicate P rest' gs' 0 (G fr (cs ++ tl)) cases b sh w) := by
 have hfin : ∀ v, lnFs (fr.finish v) cs := fun v => hF.with (lnF_finish v hF.top) (finish_kind _ _)
 have hra : ∀ ch, lnFs (fr.raise ch) cs := fun ch => hF.with (lnF_raise _ hF.top) (raise_kind _ _)
 unfold communicate
 dsimp only
 by_cases hill : cases.any (illMade W) = true
 ·refine .inl ?_
  rw [if_pos]
  ·exact ⟨_, _, rfl⟩
  ·exact hill
 have hno : ∀ c ∈ cases, illMade W c = false := by
  intro c hc
  rw [Bool.not_eq_true, Array.any_eq_false] at hill
  obtain ⟨k, hk, rfl⟩ := Array.mem_iff_getElem.1 hc
  simpa using hill k hk
 have hill' : ¬ cases.any (illMade w) = true := by
  rw [Bool.not_eq_true]
  exact any_ill fun c hc => ill_same V (hno c hc)
 refine ite_two hill hill' ?_
 have hr : List.filter (fun x : Nat × CommCase × List Way => !x.2.snd.isEmpty) (List.map (fun x : CommCase × Nat => (x.snd, x.fst, ways w gs' x.fst)) cases.zipIdx.toList) = readyOf W gs cases := ready_same V hp hp' hno
 have hr0 : List.filter (fun x : Nat × CommCase × List Way => !x.2.snd.isEmpty) (List.map (fun x : CommCase × Nat => (x.snd, x.fst, ways W gs x.fst)) cases.zipIdx.toList) = readyOf W gs cases := rfl
 rw [hr, hr0]
 have hrl : ∀ x ∈ readyOf W gs cases, _ := fun x hx => ready_mem hx
 generalize readyOf W gs cases = rl at hrl
 have hdone : ∀ (fr1 : Frame) (rest rest' : Rest), lnFs fr1 cs -> CommBoth P tl w0 W w cs rest rest' gs gs' (.next { world := W, gs := gs.setIfInBounds 0 (G fr1 (cs ++ [ending P])), rest := rest }, #[]) (.next { world := w, gs := gs'.setIfInBounds 0 (G fr1 (cs ++ tl)), rest := rest' }, #[]) :=
  fun fr1 rest rest' h => .inr (.inr ⟨fr1, W, rfl, h, Nat.le_refl _, rfl, F, Nat.le_refl _, fun _ => ⟨w, rfl, V, rfl, Nat.add_comm _ _, Still.nil⟩⟩)
 by_cases he : rl.isEmpty = true
 ·refine ite_yes he he ?_
  cases b with
  | true =>
   rw [if_pos rfl]
   cases waitingAt rest cases W with
   | none => exact .inl ⟨_, _, rfl⟩
   | some W1 => exact .inr (.inl ⟨_, _, rfl, rfl⟩)
  | false =>
   rw [if_neg (by simp), if_neg (by simp)]
   exact hdone _ rest rest' (hfin _)
 refine ite_two he he ?_
 have hsz : 0 < W.heap.size := by
  cases rl with
  | nil => exact absurd rfl he
  | cons x l =>
   obtain ⟨_, h2, h3⟩ := hrl x List.mem_cons_self
   rw [h2] at h3
   exact ways_size h3
 split
 ·exact .inl ⟨_, _, rfl⟩
 rename_i k c way W1 heq
 obtain ⟨hR, F1, t1, d1, s1, hc⟩ := pick_both (P := P) (w0 := w0) (w := w) (R := fun x : Nat × CommCase × Way => (∀ j k, x.2.2 ≠ .partner j k) /\ (x.2.1 ∈ cases \/ x.2.1 = default)) (by
  refine Tidy.bind (R := fun _ => True) (Tidy.choose fun _ => .pure trivial) fun a _ => ?_
  have hx : rl.getD a (0, default, []) ∈ rl \/ rl.getD a (0, default, []) = (0, default, []) := by
   rw [List.getD_eq_getElem?_getD]
   cases hl : rl[a]? with
   | none => exact .inr rfl
   | some y => exact .inl (List.mem_of_getElem? hl)
  generalize rl.getD a (0, default, []) = x at hx
  obtain ⟨k, c, ws⟩ := x
  refine Tidy.bind (R := fun _ => True) (Tidy.choose fun _ => .pure trivial) fun b _ => .pure ⟨?_, ?_⟩
  ·dsimp only
   rw [List.getD_eq_getElem?_getD]
   cases hl : ws[b]? with
   | none => intro j k h; cases h
   | some y =>
    rcases hx with hx | hx
    ·obtain ⟨_, h2, _⟩ := hrl _ hx
     dsimp only at h2
     subst h2
     exact ways_alone hp (List.mem_of_getElem? hl)
    ·cases hx
     simp at hl
  ·rcases hx with hx | hx
   ·exact .inl (hrl _ hx).1
   ·cases hx
    exact .inr rfl) V F heq
 obtain ⟨hR1, hR2⟩ := hR
 dsimp only at hR1 hR2
 have hrs : ∀ r, (match c.chan with | .chan (some r) => r | _ => 0) = r -> r < W1.heap.size := by
  rintro r rfl
  refine Nat.lt_of_lt_of_le ?_ s1
  rcases hR2 with hm | rfl
  ·have h1 := hno c hm
   unfold illMade at h1
   split
   ·rename_i r e
    rw [e] at h1
    dsimp only at h1
    rcases hb : W.heap[r]? with _ | o
    ·rw [hb] at h1; simp at h1
    ·exact (Array.getElem?_eq_some_iff.1 hb).1
   ·exact hsz
  ·exact hsz
 cases way with
 | partner j k' => exact (hR1 j k' rfl).elim
 | closed =>
  refine .inr (.inr ⟨_, W1, rfl, hfin _, d1, t1, F1, s1, fun T => ?_⟩)
  obtain ⟨w1, e2, V1, t2, d2⟩ := hc T
  rw [e2]
  refine ⟨w1, rfl, V1, t2, d2, fun op hop => ?_⟩
  obtain rfl := Array.mem_singleton.1 hop
  refine ⟨rfl, rfl, ⟨fun h => (by cases h), fun h => (by cases h)⟩, ?_⟩
  have := hrs _ rfl
  rw [V1.size]
  exact this
 | sendClosed =>
  try dsimp only
  split
  ·rename_i v W2 heq2
   obtain ⟨F2, t3, d3, s3, _⟩ := halt_both (P := P) (R := fun _ : Unit => True) tidy_panic (Veil.self (W := W1)) F1 heq2
   refine .inr (.inr ⟨_, W2, rfl, hra _, Nat.le_trans d1 d3, t3.trans t1, F2, Nat.le_trans s1 s3, fun T => ?_⟩)
   obtain ⟨w1, e2, V1, t2, d2⟩ := hc (T.upTo d3)
   obtain ⟨_, _, _, _, hc2⟩ := halt_both (P := P) (R := fun _ : Unit => True) tidy_panic V1 F1 heq2
   obtain ⟨w2, e3, V2, t4, d4⟩ := hc2 (T.from t1 t2 d2 d1)
   rw [e2]
   dsimp only
   rw [e3]
   exact ⟨w2, rfl, V2, t4.trans t2, by omega, Still.nil⟩
  ·exact .inl ⟨_, _, rfl⟩
 | buffer =>
  split
  ·contradiction
  ·contradiction
  ·rename_i cap buf closed sent rcvd tm v hch _ hsd
   have hsame := fun w1 (V1 : Veil w0 W1 w1) => (V1.same _ (by rw [hch]; simp)).trans hch
   refine .inr (.inr ⟨_, _, rfl, hfin _, d1, t1, F1.chan trivial, by simpa using s1, fun T => ?_⟩)
   obtain ⟨w1, e2, V1, t2, d2⟩ := hc T
   rw [e2]
   dsimp only
   rw [hsame w1 V1, hsd]
   refine ⟨_, rfl, V1.chan hch (by simp), t2, d2, fun op hop => ?_⟩
   have hlt : ∀ o, (match c.chan with | .chan (some r) => r | _ => 0) < (w1.heap.setIfInBounds (match c.chan with | .chan (some r) => r | _ => 0) o).size := by
    intro o
    have := hrs _ rfl
    rw [Array.size_setIfInBounds, V1.size]
    exact this
   simp only [List.mem_toArray, List.mem_cons, List.not_mem_nil, or_false] at hop
   rcases hop with rfl | rfl <;> exact ⟨rfl, rfl, ⟨fun h => (by cases h), fun h => (by cases h)⟩, hlt _⟩
  ·rename_i cap buf closed sent rcvd tm hch _ hsd
   have hsame := fun w1 (V1 : Veil w0 W1 w1) => (V1.same _ (by rw [hch]; simp)).trans hch
   simp only [hp]
   refine .inr (.inr ⟨_, _, rfl, hfin _, d1, t1, F1.chan trivial, by simpa using s1, fun T => ?_⟩)
   obtain ⟨w1, e2, V1, t2, d2⟩ := hc T
   rw [e2]
   dsimp only
   rw [hsame w1 V1, hsd]
   simp only [hp']
   refine ⟨_, rfl, V1.chan hch (by simp), t2, d2, fun op hop => ?_⟩
   have hlt : ∀ o, (match c.chan with | .chan (some r) => r | _ => 0) < (w1.heap.setIfInBounds (match c.chan with | .chan (some r) => r | _ => 0) o).size := by
    intro o
    have := hrs _ rfl
    rw [Array.size_setIfInBounds, V1.size]
    exact this
   simp only [List.mem_toArray, List.mem_cons, List.not_mem_nil, or_false] at hop
   rcases hop with rfl | rfl <;> exact ⟨rfl, rfl, ⟨fun h => (by cases h), fun h => (by cases h)⟩, hlt _⟩
  ·contradiction
  ·contradiction
  ·exact .inl ⟨_, _, rfl⟩
end
end
end Go.Proofs.YtdobjciaikofdaaGreatDoor
