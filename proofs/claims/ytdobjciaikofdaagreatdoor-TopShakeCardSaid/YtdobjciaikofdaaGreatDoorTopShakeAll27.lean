/- Part 27 of 39 of what the proof of this law needs. Put together by a program out of the texts: CwA Ha Hb. -/
import Derived.Test.YtdobjciaikofdaaGreatDoorTopShakeAll26
import Derived.Test.YtdobjciaikofdaaGreatDoorTopShakeAll16
namespace Go.Proofs.YtdobjciaikofdaaGreatDoor
section
open Go Go.Conc Go.RowKit
structure Seen (w : World) (W1 w1 : World) : Prop where
 veil : Veil w W1 w1
 tape : w1.tape = w.tape
 size : w.heap.size <= w1.heap.size
def CoCalls (f : FuncId) (args : Array Value) (w : World) (R : Value -> World -> Prop) : Prop :=
 ∀ (Post : Value -> World -> Prop) (c : Frame) (cs : List Frame), (∀ v w', R v w' -> RunsOn Tryz.prog Post (G (c.finish v) cs) w') -> RunsOn Tryz.prog Post (G (Frame.enter Tryz.prog f args .normal) (c :: cs)) w
def wpC (c : Code) (Q : Exit -> Array Value -> World -> Prop) (T : Array Value) (w : World) : Prop :=
 ∀ (Post : Value -> World -> Prop) (f : FuncId) (k : List Item) (cs : List Frame), k.all (lnI false) = true ->
  (∀ T' w', Q .normal T' w' -> RunsOn Tryz.prog Post (G ((base f).at ⟨T', []⟩ k) cs) w') ->
  (∀ T' todo w', Q .ret T' w' -> RunsOn Tryz.prog Post (G { (base f).at ⟨T', []⟩ todo with mode := .returning } cs) w') ->
  (∀ n T' w', Q (.exit n) T' w' -> ∃ k', exitTo n k = some k' /\ RunsOn Tryz.prog Post (G ((base f).at ⟨T', []⟩ k') cs) w') ->
  RunsOn Tryz.prog Post (G ((base f).at ⟨T, []⟩ (.code c :: k)) cs) w
def wpO (ops : Array Oper) (l : List Nat) (Q : Array Value -> World -> Prop) (T : Array Value) (w : World) : Prop :=
 ∀ (Post : Value -> World -> Prop) (f : FuncId) (k : List Item) (cs : List Frame), k.all (lnI false) = true ->
  (∀ T' w', Q T' w' -> RunsOn Tryz.prog Post (G ((base f).at ⟨T', []⟩ k) cs) w') ->
  RunsOn Tryz.prog Post (G ((base f).at ⟨T, []⟩ (.inRegion ops l :: k)) cs) w
section
variable {Q Q' : Exit -> Array Value -> World -> Prop} {T : Array Value} {w : World} {c d : Code}
theorem wpC_mono (h : wpC c Q T w) (hq : ∀ e T w, Q e T w -> Q' e T w) : wpC c Q' T w := fun Post f k cs hk hN hR hX =>
 h Post f k cs hk (fun T' w' q => hN T' w' (hq _ _ _ q)) (fun T' todo w' q => hR T' todo w' (hq _ _ _ q)) (fun n T' w' q => hX n T' w' (hq _ _ _ q))
theorem wpC_seq (hd : lnC false d = true) (h : wpC c (fun e T w => (e = .normal /\ wpC d Q T w) \/ (e ≠ .normal /\ Q e T w)) T w) : wpC (.seq c d) Q T w := by
 intro Post f k cs hk hN hR hX
 refine run_ctl (fun w => stepG_seq) ?_
 refine h Post f (.code d :: k) cs (by simp [lnI, hd, hk]) ?_ ?_ ?_
 ·rintro T' w' (⟨_, q⟩ | ⟨q, _⟩)
  ·exact q Post f k cs hk hN hR hX
  ·exact absurd rfl q
 ·rintro T' todo w' (⟨q, _⟩ | ⟨_, q⟩)
  ·cases q
  ·exact hR T' todo w' q
 ·rintro n T' w' (⟨q, _⟩ | ⟨_, q⟩)
  ·cases q
  ·exact hX n T' w' q
theorem wpC_lone {R : World -> Exit -> Array Value -> World -> Prop} (hc : lnC false c = true)
  (hL : ∀ W, Alone w W -> c.wp Tryz.prog (fun e a' W' => (e = .normal \/ e = .ret) /\ a'.defers = [] /\ R W e a'.tmps W') ⟨T, []⟩ W)
  (h : ∀ Tp e T' W1 w1, R { veiled w with tape := Tp } e T' W1 -> Seen w W1 w1 -> Q e T' w1) : wpC c Q T w := by
 intro Post f k cs hk hN hR hX
 have hF : lnFs ((base f).at ⟨T, []⟩ (.code c :: k)) [] := ⟨by
  show (List.all (Item.code c :: k) (lnI false) && List.all [] lnD) = true
  simp [lnI, hc, hk], fun c hc => (by cases hc), rfl⟩
 refine lone_code progLn hF (fun W e a' W' => a'.defers = [] /\ R W e a'.tmps W') (fun W hW => Go.wp_mono (hL W hW) fun e a' w' h => h) ?_ ?_
 ·rintro Tp ⟨T', ds⟩ W1 w1 ⟨hd, r⟩ V ht hs
  dsimp only at hd r
  subst hd
  exact hN T' w1 (h _ _ _ _ _ r ⟨V, ht, hs⟩)
 ·rintro Tp ⟨T', ds⟩ todo W1 w1 ⟨hd, r⟩ V ht hs
  dsimp only at hd r
  subst hd
  exact hR T' todo w1 (h _ _ _ _ _ r ⟨V, ht, hs⟩)
theorem wpC_cond {o : Operand} {t : Bool} (ht : Act.eval ⟨T, []⟩ o = .bool t) (h : wpC (if t then c else d) Q T w) : wpC (.cond o c d) Q T w := by
 intro Post f k cs hk hN hR hX
 exact run_ctl (fun w => stepG_cond ht) (h Post f k cs hk hN hR hX)
theorem wpC_ret (h : Q .ret T w) : wpC .ret Q T w := by
 intro Post f k cs hk hN hR hX
 exact run_ctl (fun w => stepG_ret') (hR T _ w h)
theorem wpC_skip (h : Q .normal T w) : wpC .skip Q T w := by
 intro Post f k cs hk hN hR hX
 exact run_ctl (fun w => by simp [G, stepG, stepG.exec, Frame.at]) (hN T w h)
theorem wpC_exit {n : Nat} (h : Q (.exit n) T w) : wpC (.exit n) Q T w := by
 intro Post f k cs hk hN hR hX
 obtain ⟨k', h1, h2⟩ := hX n T w h
 exact run_ctl (fun w => stepG_exit h1) h2
theorem wpC_block {n : Nat} (h : wpC c (fun e T w => ((e = .normal \/ e = .exit n) /\ Q .normal T w) \/ (e ≠ .normal /\ e ≠ .exit n /\ Q e T w)) T w) : wpC (.block n c) Q T w := by
 intro Post f k cs hk hN hR hX
 refine run_ctl (fun w => stepG_block) ?_
 refine h Post f (.inBlock n :: k) cs (by simp [lnI, hk]) ?_ ?_ ?_
 ·rintro T' w' (⟨_, q⟩ | ⟨q, _⟩)
  ·exact run_ctl (fun w => by simp [G, stepG, stepG.exec, Frame.at]) (hN T' w' q)
  ·exact absurd rfl q
 ·rintro T' todo w' (⟨q | q, _⟩ | ⟨_, _, q⟩)
  ·cases q
  ·cases q
  ·exact hR T' todo w' q
 ·rintro m T' w' (⟨q | q, q2⟩ | ⟨_, q, q2⟩)
  ·cases q
  ·cases q
   exact ⟨k, by simp [exitTo], hN T' w' q2⟩
  ·obtain ⟨k', h1, h2⟩ := hX m T' w' q2
   exact ⟨k', by rw [<- h1]; simp [exitTo]; intro e; subst e; exact absurd rfl q, h2⟩
theorem wpC_loop (hc : lnC false c = true) (I : Nat -> Array Value -> World -> Prop) {N : Nat} (h0 : I N T w)
  (h : ∀ N T w, I N T w -> wpC c (fun e T w => (e = .normal /\ ∃ M, M < N /\ I M T w) \/ (e ≠ .normal /\ Q e T w)) T w) : wpC (.loop c) Q T w := by
 intro Post f k cs hk hN hR hX
 have key : ∀ (N : Nat) (T : Array Value) (w : World), I N T w -> RunsOn Tryz.prog Post (G ((base f).at ⟨T, []⟩ (.code c :: .inLoop c :: k)) cs) w := by
  intro N
  induction N using Nat.strongRecOn with
  | _ N ih =>
   intro T w hI
   refine h N T w hI Post f (.inLoop c :: k) cs (by simp [lnI, hc, hk]) ?_ ?_ ?_
   ·rintro T' w' (⟨_, M, hM, q⟩ | ⟨q, _⟩)
    ·exact run_ctl (fun w => by simp [G, stepG, stepG.exec, Frame.at]) (ih M hM T' w' q)
    ·exact absurd rfl q
   ·rintro T' todo w' (⟨q, _⟩ | ⟨_, q⟩)
    ·cases q
    ·exact hR T' todo w' q
   ·rintro m T' w' (⟨q, _⟩ | ⟨_, q⟩)
    ·cases q
    ·exact hX m T' w' q
 exact run_ctl (fun w => stepG_loop) (key N T w h0)
theorem wpC_region {id : Nat} {ops : Array Oper} (h : wpO ops (List.range' 0 (ops.size - 0)) (Q .normal) T w) : wpC (.region id ops false) Q T w := by
 intro Post f k cs hk hN hR hX
 rw [Nat.sub_zero, <- List.range_eq_range'] at h
 exact run_ctl (fun w => stepG_region) (h Post f k cs hk hN)
end
section
variable {Q : Array Value -> World -> Prop} {T : Array Value} {w : World} {ops : Array Oper}
theorem wpO_nil (h : Q T w) : wpO ops [] Q T w := by
 intro Post f k cs hk hN
 exact run_ctl (fun w => stepG_region_end) (hN T w h)
theorem steps_ops {R : Act -> World -> Prop} (l l2 : List Nat) : ∀ (a : Act) (w : World), wpOps Tryz.prog ops (fun e a w => e = .normal /\ R a w) l a w -> ∀ (b : Frame) (k : List Item) (cs : List Frame),
  ∃ a' w', R a' w' /\ Steps Tryz.prog (lone (b.at a (.inRegion ops (l ++ l2) :: k)) cs w) (lone (b.at a' (.inRegion ops l2 :: k)) cs w') := by
 induction l with
 | nil => exact fun a w h b k cs => ⟨a, w, h.2, Steps.refl _ _⟩
 | cons i rest ih =>
  intro a w h b k cs
  simp only [wpOps] at h
  rw [List.cons_append]
  cases ho : ops[i]? with
  | none =>
   simp only [ho] at h
   obtain ⟨a', w', hq, harr⟩ := ih a w h b k cs
   have hs := step_op_skip (P := Tryz.prog) (b := b) (a := a) (k := k) (cs := cs) (w := w) (ops := ops) (i := i) (rest := rest ++ l2) (by simp [ho])
   simp only [ho, Option.bind_none, Act.put] at hs
   exact ⟨a', w', hq, (Steps.one hs).trans harr⟩
  | some o =>
   simp only [ho] at h
   by_cases hw : Region.wanted o (yielded ops a.tmps) = true
   ·simp only [hw, if_true] at h
    rcases h with h | ⟨_, a0, w0, hq, _⟩
    case inr => cases hq
    simp only [Oper.wp, Oper.upon] at h
    have hg := stepG_op (P := Tryz.prog) (b := b) (k := k) (cs := cs) (w := w) (rest := rest ++ l2) ho hw
    have hfin : ∀ v, (b.at a (.inRegion ops (i :: (rest ++ l2)) :: k)).finish v = b.at (a.put o.dst v) (.inRegion ops (rest ++ l2) :: k) := by
     intro v; rw [Frame.finish_at, ho]; rfl
    split at h
    ·rename_i v w' hr
     obtain ⟨a', w'', hq, harr⟩ := ih _ _ h b k cs
     refine ⟨a', w'', hq, (Steps.one (step_lone_go ?_)).trans harr⟩
     rw [hg, <- hfin]; simp [stepG.apply, hr]
    ·rename_i w' hr
     obtain ⟨a', w'', hq, harr⟩ := ih _ _ h b k cs
     refine ⟨a', w'', hq, (Steps.one (step_lone_go ?_)).trans harr⟩
     rw [hg, <- hfin]; simp [stepG.apply, hr]
    ·rename_i d w' hr
     obtain ⟨a', w'', hq, harr⟩ := ih _ _ h b k cs
     refine ⟨a', w'', hq, (Steps.one (step_lone_go ?_)).trans harr⟩
     have : ({ b.at a (.inRegion ops (i :: (rest ++ l2)) :: k) with defers := d :: a.defers } : Frame).finish undef =
       b.at ({ a with defers := d :: a.defers }.put o.dst undef) (.inRegion ops (rest ++ l2) :: k) := by
      have := Frame.finish_at b { a with defers := d :: a.defers } ops i (rest ++ l2) k undef
      rw [ho] at this; exact this
     rw [hg]; simp only [stepG.apply, Sem.runT_eq, hr, GStep.bare_after]
     exact congrArg (fun fr => GStep.go { frame := fr, callers := cs, status := .running, dying := none } w') this
    ·rename_i f args w' hr
     obtain ⟨e, w'', fr, hR, hsteps, _, hleave⟩ := h (b.at a (.inRegion ops (i :: (rest ++ l2)) :: k) :: cs)
     have henter : step Tryz.prog (lone (b.at a (.inRegion ops (i :: (rest ++ l2)) :: k)) cs w) =
       .next (lone (Frame.enter Tryz.prog f args .normal) (b.at a (.inRegion ops (i :: (rest ++ l2)) :: k) :: cs) w') :=
      step_lone_go (by rw [hg]; simp [stepG.apply, hr, Frame.at])
     cases e with
     | returned v =>
      obtain ⟨a', w₃, hq, harr⟩ := ih _ _ hR b k cs
      refine ⟨a', w₃, hq, .head henter (hsteps.trans (.head ?_ harr))⟩
      rw [<- hfin]; exact step_leave_returned hleave
     | panicked chain => cases hR.1
     | outgrown =>
      obtain ⟨a0, w0, hq, _⟩ := hR
      cases hq
    ·rename_i row args w' hr
     obtain ⟨v, w'', hR, hsteps⟩ := h (b.at a (.inRegion ops (i :: (rest ++ l2)) :: k)) cs
     have henter : step Tryz.prog (lone (b.at a (.inRegion ops (i :: (rest ++ l2)) :: k)) cs w) =
       .next (lone (Frame.ofRow Tryz.prog row args .normal) (b.at a (.inRegion ops (i :: (rest ++ l2)) :: k) :: cs) w') :=
      step_lone_go (by rw [hg]; simp [stepG.apply, hr, Frame.at])
     obtain ⟨a', w₃, hq, harr⟩ := ih _ _ hR b k cs
     refine ⟨a', w₃, hq, .head henter (Steps.trans ?_ harr)⟩
     rw [<- hfin]; exact hsteps
    ·cases h.1
    ·exact h.elim
   ·simp only [hw, if_false, Bool.false_eq_true] at h
    obtain ⟨a', w', hq, harr⟩ := ih _ _ h b k cs
    have hs := step_op_skip (P := Tryz.prog) (b := b) (a := a) (k := k) (cs := cs) (w := w) (ops := ops) (i := i) (rest := rest ++ l2)
     (by simp [ho]; simpa using hw)
    simp only [ho, Option.bind_some] at hs
    exact ⟨a', w', hq, (Steps.one hs).trans harr⟩
theorem wpOps_take {Q : Exit -> Act -> World -> Prop} : ∀ (m n : Nat), n + m <= ops.size -> wpOps Tryz.prog ops Q (List.range' n m) = wpList Tryz.prog ops Q ((ops.toList.drop n).take m) := by
 intro m
 induction m with
 | zero =>
  intro n _
  funext a w
  simp [wpOps, wpList]
 | succ m ih =>
  intro n h
  have hn : n < ops.size := by omega
  have e : (ops.toList.drop n).take (m + 1) = ops[n] :: (ops.toList.drop (n + 1)).take m := by
   rw [List.drop_eq_getElem_cons (by simpa using hn)]
   simp
  have h0 : ops[n]? = some ops[n] := Array.getElem?_eq_getElem hn
  funext a w
  rw [e]
  simp only [List.range'_succ, wpOps, h0, wpList, ih (n + 1) (by omega)]
theorem wpO_pre {R : World -> Array Value -> World -> Prop} (n m : Nat) (hnm : n + m <= ops.size) (hops : ops.all (fun o => lnOp false o.op) = true)
  (hL : ∀ W, Alone w W -> wpList Tryz.prog ops (fun e a' W' => e = .normal /\ a'.defers = [] /\ R W a'.tmps W') ((ops.toList.drop n).take m) ⟨T, []⟩ W)
  (h : ∀ Tp T' W1 w1, R { veiled w with tape := Tp } T' W1 -> Seen w W1 w1 -> wpO ops (List.range' (n + m) (ops.size - (n + m))) Q T' w1) : wpO ops (List.range' n (ops.size - n)) Q T w := by
 intro Post f k cs hk hN
 have hF : lnFs ((base f).at ⟨T, []⟩ (.inRegion ops (List.range' n (ops.size - n)) :: k)) [] := ⟨by
  show (List.all (Item.inRegion ops (List.range' n (ops.size - n)) :: k) (lnI false) && List.all [] lnD) = true
  simp only [List.all_cons, lnI, hops, hk, Bool.true_and, List.all_nil], fun c hc => (by cases hc), rfl⟩
 have el : List.range' n (ops.size - n) = List.range' n m ++ List.range' (n + m) (ops.size - (n + m)) := by
  rw [show ops.size - n = m + (ops.size - (n + m)) by omega, List.range'_append_1]
 refine lone_steps progLn hF (fun W fr W' => ∃ T', fr = (base f).at ⟨T', []⟩ (.inRegion ops (List.range' (n + m) (ops.size - (n + m))) :: k) /\ R W T' W') (fun W hW => ?_) ?_
 ·have h1 := hL W hW
  rw [<- wpOps_take m n hnm] at h1
  ·obtain ⟨⟨T', ds⟩, W', ⟨hd, r⟩, hs⟩ := steps_ops (R := fun a' W' => a'.defers = [] /\ R W a'.tmps W') _ (List.range' (n + m) (ops.size - (n + m))) _ _ h1 (base f) k [ending Tryz.prog]
   rw [<- el] at hs
   dsimp only at hd r
   subst hd
   exact ⟨_, W', hs, T', rfl, r⟩
 ·rintro Tp fr W1 w1 ⟨T', rfl, r⟩ V ht hs
  exact h _ _ _ _ r ⟨V, ht, hs⟩ Post f k cs hk hN
theorem wpO_last {R : World -> Array Value -> World -> Prop} (n : Nat) (hn : n <= ops.size) (hops : ops.all (fun o => lnOp false o.op) = true)
  (hL : ∀ W, Alone w W -> wpList Tryz.prog ops (fun e a' W' => e = .normal /\ a'.defers = [] /\ R W a'.tmps W') (ops.toList.drop n) ⟨T, []⟩ W)
  (h : ∀ Tp T' W1 w1, R { veiled w with tape := Tp } T' W1 -> Seen w W1 w1 -> Q T' w1) : wpO ops (List.range' n (ops.size - n)) Q T w := by
 refine wpO_pre (R := R) n (ops.size - n) (by omega) hops (fun W hW => ?_) fun Tp T' W1 w1 r s => ?_
 ·have e : (ops.toList.drop n).take (ops.size - n) = ops.toList.drop n := List.take_of_length_le (by simp)
  rw [e]
  exact hL W hW
 ·rw [show ops.size - (n + (ops.size - n)) = 0 by omega]
  exact wpO_nil (h _ _ _ _ r s)
theorem wpO_preL {l : List Oper} {R : World -> Array Value -> World -> Prop} (n m : Nat) (hnm : n + m <= l.toArray.size) (hops : l.toArray.all (fun o => lnOp false o.op) = true)
  (hL : ∀ W, Alone w W -> wpList Tryz.prog l.toArray (fun e a' W' => e = .normal /\ a'.defers = [] /\ R W a'.tmps W') ((l.drop n).take m) ⟨T, []⟩ W)
  (h : ∀ Tp T' W1 w1, R { veiled w with tape := Tp } T' W1 -> Seen w W1 w1 -> wpO l.toArray (List.range' (n + m) (l.toArray.size - (n + m))) Q T' w1) : wpO l.toArray (List.range' n (l.toArray.size - n)) Q T w :=
 wpO_pre n m hnm hops hL h
theorem wpO_lastL {l : List Oper} {R : World -> Array Value -> World -> Prop} (n : Nat) (hn : n <= l.toArray.size) (hops : l.toArray.all (fun o => lnOp false o.op) = true)
  (hL : ∀ W, Alone w W -> wpList Tryz.prog l.toArray (fun e a' W' => e = .normal /\ a'.defers = [] /\ R W a'.tmps W') (l.drop n) ⟨T, []⟩ W)
  (h : ∀ Tp T' W1 w1, R { veiled w with tape := Tp } T' W1 -> Seen w W1 w1 -> Q T' w1) : wpO l.toArray (List.range' n (l.toArray.size - n)) Q T w :=
 wpO_last n hn hops hL h
theorem wpO_call {n : Nat} {o : Oper} {f : FuncId} {args : Array Value} (ho : ops[n]? = some o) (hg : o.guard = none)
  (hr : ∀ w, (execOp (Act.eval ⟨T, []⟩) o).run Tryz.prog w = .ok (.enter f args) w /\ (execOp (Act.eval ⟨T, []⟩) o).events Tryz.prog w #[] = #[])
  (h : CoCalls f args w (fun v w1 => wpO ops (List.range' (n + 1) (ops.size - (n + 1))) Q (Act.put ⟨T, []⟩ o.dst v).tmps w1)) : wpO ops (List.range' n (ops.size - n)) Q T w := by
 intro Post g k cs hk hN
 have hn := (Array.getElem?_eq_some_iff.1 ho).1
 rw [show ops.size - n = (ops.size - (n + 1)) + 1 by omega, List.range'_succ]
 refine run_enter ho (wanted_none hg _) (fun h => by cases h) (fun w => (hr w).1) (fun w => (hr w).2) ?_
 refine h Post _ cs fun v w1 h1 => ?_
 rw [Frame.finish_at, ho]
 have e : Act.put ⟨T, []⟩ ((some o).bind (·.dst)) v = ⟨(Act.put ⟨T, []⟩ o.dst v).tmps, []⟩ := by
  show Act.put ⟨T, []⟩ o.dst v = _
  unfold Act.put
  split <;> rfl
 rw [e]
 exact h1 Post g k cs hk hN
end
section
variable {Q : Exit -> Array Value -> World -> Prop} {T T' : Array Value} {w W1 w1 : World} {Tp : Tape} {c d : Code}
theorem Seen.same (h : Seen w W1 w1) (e : W1 = { veiled w with tape := Tp }) : w1 = w.at w1.drawn := same_world (T := Tp) h.veil h.tape (by rw [e]) (by rw [e]; rfl) (by rw [e]; rfl)
theorem Seen.kept (h : Seen w W1 w1) (hb : Below w.heap.size { veiled w with tape := Tp } W1) : Kept w w1 := veil_kept h.veil h.tape hb
theorem wpC_at {n : Nat} (h : wpC c Q T w) : wpC c Q T (w.at n) := fun Post f k cs hk hN hR hX => (h Post f k cs hk hN hR hX).drew n
theorem wpO_at {ops : Array Oper} {l : List Nat} {Q : Array Value -> World -> Prop} {n : Nat} (h : wpO ops l Q T w) : wpO ops l Q T (w.at n) := fun Post f k cs hk hN => (h Post f k cs hk hN).drew n
structure Saw (w W W1 w1 : World) : Prop where
 seen : Seen w W1 w1
 beg : ∃ Tp, W = { veiled w with tape := Tp }
theorem Saw.kept {W : World} (h : Saw w W W1 w1) (hb : Below W.heap.size W W1) : Kept w w1 := by
 obtain ⟨Tp, rfl⟩ := h.beg
 exact h.seen.kept (Tp := Tp) (by rw [size_veiled] at hb; exact hb)
theorem Saw.grown {W : World} {r : Option Nat} (h : Saw w W W1 w1) (hb : W.grownBy W1 r) : w.grownBy w1 r := by
 obtain ⟨Tp, e⟩ := h.beg
 have hsz : W.heap.size = w.heap.size := by rw [e, size_veiled]
 exact ⟨by rw [h.seen.veil.os, hb.os, e]; rfl, h.seen.tape, by rw [h.seen.veil.output, hb.output, e]; rfl, h.seen.size, fun k hk hr => keep_back e h.seen.veil (hb.block k (by omega) hr)⟩
theorem Saw.size {W : World} (h : Saw w W W1 w1) : w1.heap.size = W1.heap.size := h.seen.veil.size
theorem Saw.cells {W : World} (h : Saw w W W1 w1) {b : Nat} {c : Array Value} {t : TypeId} {fr : Nat × Nat} (hb : W1.heap[b]? = some (.cells c t fr)) : w1.heap[b]? = some (.cells c t fr) := veil_new h.seen.veil hb (by simp)
theorem wpC_go (hc : lnC false c = true) (hd : lnC false d = true) (hL : ∀ W, Alone w W -> ∀ K : Exit -> Act -> World -> Prop, Hid (∀ T' W', (∀ w1, Saw w W W' w1 -> wpC d Q T' w1) -> K .normal ⟨T', []⟩ W') -> c.wp Tryz.prog K ⟨T, []⟩ W) : wpC (.seq c d) Q T w := by
 refine wpC_seq hd (wpC_lone (R := fun W e T2 W' => e = .normal /\ ∀ w1, Saw w W W' w1 -> wpC d Q T2 w1) hc (fun W hW => hL W hW _ (Lib.hid fun T' W' h => ⟨.inl rfl, rfl, rfl, h⟩)) ?_)
 rintro Tp e T2 W1 w1 ⟨rfl, h⟩ S1
 exact .inl ⟨rfl, h w1 ⟨S1, Tp, rfl⟩⟩
theorem wpC_still (hc : lnC false c = true) (hd : lnC false d = true) (hL : ∀ W, Alone w W -> ∀ K : Exit -> Act -> World -> Prop, Hid (∀ T', wpC d Q T' w -> K .normal ⟨T', []⟩ W) -> c.wp Tryz.prog K ⟨T, []⟩ W) : wpC (.seq c d) Q T w := by
 refine wpC_seq hd (wpC_lone (R := fun W e T2 W' => e = .normal /\ W' = W /\ wpC d Q T2 w) hc (fun W hW => hL W hW _ (Lib.hid fun T' h => ⟨.inl rfl, rfl, rfl, rfl, h⟩)) ?_)
 rintro Tp e T2 W1 w1 ⟨rfl, hW, h⟩ S1
 rw [S1.same hW]
 exact .inl ⟨rfl, wpC_at h⟩
theorem wpO_still {l : List Oper} {Q : Array Value -> World -> Prop} (n m : Nat) (hnm : n + m <= l.toArray.size) (hops : l.toArray.all (fun o => lnOp false o.op) = true)
  (hL : ∀ W, Alone w W -> ∀ K : Exit -> Act -> World -> Prop, Hid (∀ T', wpO l.toArray (List.range' (n + m) (l.toArray.size - (n + m))) Q T' w -> K .normal ⟨T', []⟩ W) -> wpList Tryz.prog l.toArray K ((l.drop n).take m) ⟨T, []⟩ W) :
  wpO l.toArray (List.range' n (l.toArray.size - n)) Q T w := by
 refine wpO_preL (R := fun W T2 W' => W' = W /\ wpO l.toArray (List.range' (n + m) (l.toArray.size - (n + m))) Q T2 w) n m hnm hops (fun W hW => hL W hW _ (Lib.hid fun T' h => ⟨rfl, rfl, rfl, h⟩)) ?_
 rintro Tp T2 W1 w1 ⟨hW, h⟩ S1
 rw [S1.same hW]
 exact wpO_at h
theorem wpO_done {l : List Oper} {Q : Array Value -> World -> Prop} (n : Nat) (hn : n <= l.toArray.size) (hops : l.toArray.all (fun o => lnOp false o.op) = true)
  (hL : ∀ W, Alone w W -> ∀ K : Exit -> Act -> World -> Prop, Hid (∀ T' W', (∀ w1, Saw w W W' w1 -> Q T' w1) -> K .normal ⟨T', []⟩ W') -> wpList Tryz.prog l.toArray K (l.drop n) ⟨T, []⟩ W) :
  wpO l.toArray (List.range' n (l.toArray.size - n)) Q T w := by
 refine wpO_lastL (R := fun W T2 W' => ∀ w1, Saw w W W' w1 -> Q T2 w1) n hn hops (fun W hW => hL W hW _ (Lib.hid fun T' W' h => ⟨rfl, rfl, h⟩)) ?_
 intro Tp T2 W1 w1 h S1
 exact h w1 ⟨S1, Tp, rfl⟩
theorem Saw.same {W : World} (h : Saw w W W w1) : w1 = w.at w1.drawn := by
 obtain ⟨Tp, e⟩ := h.beg
 exact h.seen.same e
end
section
variable {w : World} {f : FuncId} {args : Array Value} {R : Value -> World -> Prop}
theorem CoCalls.mono {R' : Value -> World -> Prop} (h : CoCalls f args w R) (hr : ∀ v w', R v w' -> R' v w') : CoCalls f args w R' := fun Post c cs hk => h Post c cs fun v w' x => hk v w' (hr v w' x)
theorem CoCalls.lone (Q : World -> Value -> World -> Prop) (hC : ∀ W, Alone w W -> Calls Tryz.prog f args W fun e W' => ∃ v, e = .returned v /\ Q W v W')
  (h : ∀ Tp v W1 w1, Q { veiled w with tape := Tp } v W1 -> Seen w W1 w1 -> R v w1) : CoCalls f args w R := fun _ _ _ hR =>
 lone_call progLn Q hC fun Tp v W1 w1 q V ht hs => hR v w1 (h Tp v W1 w1 q ⟨V, ht, hs⟩)
theorem run_back {Post : Value -> World -> Prop} {T : Array Value} {todo : List Item} {c : Frame} {cs : List Frame} {fn : Func} {v : Value} (hf : Tryz.prog.funcs[f]? = some fn)
  (hr : ∀ W, Alone w W -> (results fn T).run Tryz.prog W = .ok v W) (h : RunsOn Tryz.prog Post (G (c.finish v) cs) w) : RunsOn Tryz.prog Post (G { (base f).at ⟨T, []⟩ todo with mode := .returning } (c :: cs)) w := by
 refine RunsOn.move rfl fun d => ?_
 obtain ⟨W, hW⟩ : ∃ W : World, W = { veiled w with tape := w.tape } := ⟨_, rfl⟩
 have V0 := veil_of w
 have VT : Veil w W (w.at d) := by rw [hW]; exact ⟨V0.os, V0.output, V0.size, V0.same, V0.veil⟩
 have WT : Fair W := by rw [hW]; exact fair_of w
 have hrT : ((results fn T).runT Tryz.prog W #[]).1 = .ok v W := by
  rw [Sem.runT_eq]
  exact hr W (by rw [hW]; exact alone_of w _)
 rcases (tidy_results (P := Tryz.prog) (fn := fn) (t := T)).both VT WT #[] #[] with ⟨m, W1, e⟩ | ⟨_, hb⟩
 ·rw [hrT] at e; cases e
 ·rw [hrT] at hb
  obtain ⟨es2, e2, b⟩ := hb (fun i q hi => by have : W.drawn + i < W.drawn := hi; omega)
  rcases b.rel with ⟨x, q1, q2, _⟩ | ⟨h, q1, _, _⟩
  ·cases q1
   have bv := b.veil
   have bt := b.tape
   have bm := b.mild
   obtain ⟨w2, hw2⟩ : ∃ w2, resWorld ((results fn T).runT Tryz.prog (w.at d) #[]).1 = w2 := ⟨_, rfl⟩
   rw [hw2] at q2 bv bt bm
   have bv' : Veil w W w2 := bv
   have hrun : (results fn T).runT Tryz.prog (w.at d) #[] = (.ok v w2, es2) := Prod.ext q2 (by rw [e2, Array.empty_append])
   have e3 : w2 = w.at w2.drawn := by
    subst hW
    exact same_world (T := w.tape) bv' bt rfl rfl rfl
   refine ⟨G (c.finish v) cs, w2, seen Tryz.prog f es2, stepG_leave2 rfl hf hrun, by rw [bv'.size, <- VT.size]; exact Nat.le_refl _, fun e he => bm e (mem_seenL he), ?_⟩
   rw [e3]
   exact h.drew _
  ·cases q1
theorem CoCalls.body {fn : Func} {c : Code} {T0 : Array Value} (hf : Tryz.prog.funcs[f]? = some fn) (hb : fn.body = some c) (hT : T0 = args ++ Array.replicate (fn.ntmps - args.size) undef)
  (h : wpC c (fun e T' w' => e = .ret /\ ∃ v, (∀ W, Alone w' W -> (results fn T').run Tryz.prog W = .ok v W) /\ R v w') T0 w) : CoCalls f args w R := by
 intro Post c0 cs hR
 have e : Frame.enter Tryz.prog f args .normal = (base f).at ⟨T0, []⟩ [.code c] := by
  subst hT
  simp [Frame.enter, hf, hb, Frame.at, base]
 rw [e]
 refine h Post f [] (c0 :: cs) rfl ?_ ?_ ?_
 ·rintro T' w' ⟨q, _⟩
  cases q
 ·rintro T' todo w' ⟨_, v, h1, h2⟩
  exact run_back hf h1 (hR v w' h2)
 ·rintro n T' w' ⟨q, _⟩
  cases q
end
end
section
open Go.RowKit Go.Shelf Bt
attribute [local go_sem] vals_get? vals_get vals_size rowAt_at rowAt_past hasRow_at hasRow_past run_loadRow run_storeCells_row setRow_at setRow_past lt_s2 lt_s3 lt_s4 lt_s5 lt_s6
def wordL : List (List UInt8) := [[], [115, 104, 97, 50, 50, 52], [115, 104, 97, 50, 53, 54], [115, 104, 97, 51, 56, 52], [115, 104, 97, 53, 49, 50], [115, 104, 97, 53, 49, 50, 45, 50, 50, 52], [115, 104, 97, 53, 49, 50, 45, 50, 53, 54], [115, 104, 97, 51, 45, 50, 50, 52], [115, 104, 97, 51, 45, 50, 53, 54], [115, 104, 97, 51, 45, 51, 56, 52], [115, 104, 97, 51, 45, 53, 49, 50], [115, 104, 97, 107, 101, 49, 50, 56], [115, 104, 97, 107, 101, 50, 53, 54], [99, 115, 104, 97, 107, 101, 49, 50, 56], [99, 115, 104, 97, 107, 101, 50, 53, 54]]
def algW (a : Nat) : ByteArray := ⟨(wordL.getD a []).toArray⟩
def kindC (a : Nat) : Nat := [0, 1, 1, 1, 1, 1, 1, 2, 2, 2, 2, 3, 3, 4, 4].getD a 0
def digC (a : Nat) : Nat := [0, 28, 32, 48, 64, 28, 32, 28, 32, 48, 64, 32, 64, 32, 64].getD a 0
def blkC (a : Nat) : Nat := [0, 64, 64, 128, 128, 128, 128, 144, 136, 104, 72, 168, 136, 168, 136].getD a 0
structure TabE (w : World) : Prop where
 word : ∀ a, a < 15 -> w.cell? ⟨2, a * 4, none⟩ = some (.string (algW a))
 kind : ∀ a, a < 15 -> w.cell? ⟨2, a * 4 + 1, none⟩ = some (.int .i64 (kindC a : Nat))
 dig : ∀ a, a < 15 -> w.cell? ⟨2, a * 4 + 2, none⟩ = some (.int .i64 (digC a : Nat))
 blk : ∀ a, a < 15 -> w.cell? ⟨2, a * 4 + 3, none⟩ = some (.int .i64 (blkC a : Nat))
theorem cell_keep {w w1 : World} {r : Option Nat} {b o : Nat} {v : Value} (h : w.cell? ⟨b, o, none⟩ = some v) (hg : w.grownBy w1 r) (hr : some b ≠ r) : w1.cell? ⟨b, o, none⟩ = some v := by
 rw [World.cell?_of_block (hg.block _ (cell_lt h) hr)]
 exact h
theorem TabE.grown {w w1 : World} {r : Option Nat} (h : TabE w) (hg : w.grownBy w1 r) (hr : some 2 ≠ r) : TabE w1 :=
 ⟨fun a ha => cell_keep (h.word a ha) hg hr, fun a ha => cell_keep (h.kind a ha) hg hr, fun a ha => cell_keep (h.dig a ha) hg hr, fun a ha => cell_keep (h.blk a ha) hg hr⟩
theorem of_w (a : Nat) (ha : a < 15) (w : World) (ht : TabE w) :
  Calls Tryz.prog 83 #[.int .i64 a] w fun e w' => e = .returned (.agg #[.string (algW a), .int .i64 (kindC a : Nat), .int .i64 (digC a : Nat), .int .i64 (blkC a : Nat)]) /\ Below w.heap.size w w' := by
 have h0 := ht.word a ha
 have h1 := ht.kind a ha
 have h2 := ht.dig a ha
 have h3 := ht.blk a ha
 have hlt := cell_lt h0
 clear ht
 go_enter Tryz.func83, Tryz.ntmps83
 go_wp2
 exact bodyPost_ret (v := .agg #[.string (algW a), .int .i64 (kindC a : Nat), .int .i64 (digC a : Nat), .int .i64 (blkC a : Nat)]) (by simp [results, Tryz.results83, go_sem]) rfl ⟨rfl, bl_alloc (bl_refl w)⟩
theorem field_word (a b c d : Value) (w : World) : (Instr.field 147 (.agg #[a, b, c, d]) 0).run Tryz.prog w = .ok a w := by kernel_rfl
theorem field_kind (a b c d : Value) (w : World) : (Instr.field 147 (.agg #[a, b, c, d]) 1).run Tryz.prog w = .ok b w := by kernel_rfl
theorem field_dig (a b c d : Value) (w : World) : (Instr.field 147 (.agg #[a, b, c, d]) 2).run Tryz.prog w = .ok c w := by kernel_rfl
theorem field_blk (a b c d : Value) (w : World) : (Instr.field 147 (.agg #[a, b, c, d]) 3).run Tryz.prog w = .ok d w := by kernel_rfl
attribute [local go_sem] field_word field_kind field_dig field_blk
theorem kind_w (a : Nat) (ha : a < 15) (w : World) (ht : TabE w) :
  Calls Tryz.prog 57 #[.int .i64 a] w fun e w' => e = .returned (.int .i64 (kindC a : Nat)) /\ Below w.heap.size w w' := by
 have C : Hid (∀ w : World, TabE w -> Calls Tryz.prog 83 #[.int .i64 a] w fun e w' => e = .returned (.agg #[.string (algW a), .int .i64 (kindC a : Nat), .int .i64 (digC a : Nat), .int .i64 (blkC a : Nat)]) /\ Below w.heap.size w w') := Lib.hid fun w h => of_w a ha w h
 go_enter Tryz.func57, Tryz.ntmps57
 go_wp2_with (go_at_call 83; (with_reducible refine (C.out _ ht).mono ?_); rintro e w1 ⟨rfl, hB⟩)
 go_ret
 exact ⟨rfl, hB⟩
theorem dig_w (a : Nat) (ha : a < 15) (w : World) (ht : TabE w) :
  Calls Tryz.prog 61 #[.int .i64 a] w fun e w' => e = .returned (.int .i64 (digC a : Nat)) /\ Below w.heap.size w w' := by
 have C : Hid (∀ w : World, TabE w -> Calls Tryz.prog 83 #[.int .i64 a] w fun e w' => e = .returned (.agg #[.string (algW a), .int .i64 (kindC a : Nat), .int .i64 (digC a : Nat), .int .i64 (blkC a : Nat)]) /\ Below w.heap.size w w') := Lib.hid fun w h => of_w a ha w h
 go_enter Tryz.func61, Tryz.ntmps61
 go_wp2_with (go_at_call 83; (with_reducible refine (C.out _ ht).mono ?_); rintro e w1 ⟨rfl, hB⟩)
 go_ret
 exact ⟨rfl, hB⟩
theorem blk_w (a : Nat) (ha : a < 15) (w : World) (ht : TabE w) :
  Calls Tryz.prog 39 #[.int .i64 a] w fun e w' => e = .returned (.int .i64 (blkC a : Nat)) /\ Below w.heap.size w w' := by
 have C : Hid (∀ w : World, TabE w -> Calls Tryz.prog 83 #[.int .i64 a] w fun e w' => e = .returned (.agg #[.string (algW a), .int .i64 (kindC a : Nat), .int .i64 (digC a : Nat), .int .i64 (blkC a : Nat)]) /\ Below w.heap.size w w') := Lib.hid fun w h => of_w a ha w h
 go_enter Tryz.func39, Tryz.ntmps39
 go_wp2_with (go_at_call 83; (with_reducible refine (C.out _ ht).mono ?_); rintro e w1 ⟨rfl, hB⟩)
 go_ret
 exact ⟨rfl, hB⟩
theorem word_w (a : Nat) (ha : a < 15) (w : World) (ht : TabE w) :
  Calls Tryz.prog 256 #[.int .i64 a] w fun e w' => e = .returned (.string (algW a)) /\ Below w.heap.size w w' := by
 have C : Hid (∀ w : World, TabE w -> Calls Tryz.prog 83 #[.int .i64 a] w fun e w' => e = .returned (.agg #[.string (algW a), .int .i64 (kindC a : Nat), .int .i64 (digC a : Nat), .int .i64 (blkC a : Nat)]) /\ Below w.heap.size w w') := Lib.hid fun w h => of_w a ha w h
 go_enter Tryz.func256, Tryz.ntmps256
 go_wp2_with (go_at_call 83; (with_reducible refine (C.out _ ht).mono ?_); rintro e w1 ⟨rfl, hB⟩)
 go_ret
 exact ⟨rfl, hB⟩
end
section
open Go.RowKit Go.Shelf Bt
attribute [local go_sem] vals_get? vals_get vals_size rowAt_at rowAt_past hasRow_at hasRow_past run_loadRow run_storeCells_row setRow_at setRow_past lt_s2 lt_s3 lt_s4 lt_s5 lt_s6
def nmV (a1 : Option Addr) (c1 : Nat) (a2 : Option Addr) (c2 : Nat) : Value := .agg #[.slice a1 0 c1, .slice a2 0 c2]
theorem right1_w (a : Option Addr) (c : Nat) (w : World) : Calls Tryz.prog 102 #[.slice a 0 c] w fun e w' => e = .returned (.bool true) /\ w = w' := by
 go_enter Tryz.func102, Tryz.ntmps102
 go_wp2
 go_ret
 exact ⟨rfl, rfl⟩
theorem empty1_w (a : Option Addr) (c : Nat) (w : World) : Calls Tryz.prog 184 #[.slice a 0 c] w fun e w' => e = .returned (.bool true) /\ w = w' := by
 go_enter Tryz.func184, Tryz.ntmps184
 go_wp2
 go_ret
 exact ⟨rfl, rfl⟩
section
variable (a1 a2 : Option Addr) (c1 c2 : Nat)
theorem both_right_w (w : World) :
  Calls Tryz.prog 101 #[nmV a1 c1 a2 c2, .func (.func 102) #[] #[]] w fun e w' => e = .returned (.bool true) /\ Below w.heap.size w w' := by
 unfold nmV
 go_enter Tryz.func101, Tryz.ntmps101
 go_wp2_with (go_at_call 102; refine (right1_w _ _ _).mono ?_; rintro e w1 ⟨rfl, rfl⟩)
 go_ret
 exact ⟨rfl, bl_alloc (bl_refl w)⟩
theorem both_empty_w (w : World) :
  Calls Tryz.prog 101 #[nmV a1 c1 a2 c2, .func (.func 184) #[] #[]] w fun e w' => e = .returned (.bool true) /\ Below w.heap.size w w' := by
 unfold nmV
 go_enter Tryz.func101, Tryz.ntmps101
 go_wp2_with (go_at_call 184; refine (empty1_w _ _ _).mono ?_; rintro e w1 ⟨rfl, rfl⟩)
 go_ret
 exact ⟨rfl, bl_alloc (bl_refl w)⟩
theorem right_w (w : World) : Calls Tryz.prog 58 #[nmV a1 c1 a2 c2] w fun e w' => e = .returned (.bool true) /\ Below w.heap.size w w' := by
 unfold nmV
 go_enter Tryz.func58, Tryz.ntmps58
 go_wp2_with (go_at_call 101; refine (both_right_w a1 a2 c1 c2 _).mono ?_; rintro e w1 ⟨rfl, hB⟩)
 go_ret
 exact ⟨rfl, bl_call (bl_alloc (bl_refl w)) hB⟩
theorem empty_w (w : World) : Calls Tryz.prog 130 #[nmV a1 c1 a2 c2] w fun e w' => e = .returned (.bool true) /\ Below w.heap.size w w' := by
 unfold nmV
 go_enter Tryz.func130, Tryz.ntmps130
 go_wp2_with (go_at_call 101; refine (both_empty_w a1 a2 c1 c2 _).mono ?_; rintro e w1 ⟨rfl, hB⟩)
 go_ret
 exact ⟨rfl, bl_call (bl_alloc (bl_refl w)) hB⟩
theorem suffix_w (w : World) : Calls Tryz.prog 84 #[nmV a1 c1 a2 c2] w fun e w' => e = .returned (.int .i64 31) /\ Below w.heap.size w w' := by
 unfold nmV
 go_enter Tryz.func84, Tryz.ntmps84
 go_wp2_with (go_at_call 130; refine (empty_w a1 a2 c1 c2 _).mono ?_; rintro e w1 ⟨rfl, hB⟩)
 go_ret
 exact ⟨rfl, bl_call (bl_alloc (bl_refl w)) hB⟩
theorem check_w (a : Nat) (ha : a < 15) (hk : kindC a ≠ 0) (w : World) (ht : TabE w) :
  Calls Tryz.prog 22 #[.int .i64 a, nmV a1 c1 a2 c2] w fun e w' => e = .returned (.int .i64 0) /\ Below w.heap.size w w' := by
 unfold nmV
 have hlt := ht.word 0 (by omega)
 replace hlt := cell_lt hlt
 have CK : Hid (∀ w : World, TabE w -> Calls Tryz.prog 57 #[.int .i64 a] w fun e w' => e = .returned (.int .i64 (kindC a : Nat)) /\ Below w.heap.size w w') := Lib.hid fun w h => kind_w a ha w h
 obtain ⟨k, hk2⟩ : ∃ k, Hid (k = kindC a) := ⟨_, Lib.hid rfl⟩
 rw [<- hk2.out] at hk CK
 have HT : Hid (∀ {w' : World}, Below w.heap.size w w' -> TabE w') := Lib.hid fun hB => ht.grown (gb_below (r := none) hB) (by simp)
 clear ht
 go_enter Tryz.func22, Tryz.ntmps22
 go_wp2_with (first | (go_at_call 57; refine (CK.out _ (HT.out (bl_alloc (bl_refl w)))).mono ?_; rintro e w1 ⟨rfl, hB⟩; have q1 := fun o => hB.cell (p := ⟨w.heap.size, o, none⟩) (by simp); replace hB := Lib.hid hB) | (go_at_call 58; refine (right_w a1 a2 c1 c2 _).mono ?_; rintro e w2 ⟨rfl, hB2⟩))
 all_goals go_ret
 ·exact ⟨rfl, bl_call (bl_call (bl_alloc (bl_refl w)) hB.out) hB2⟩
 ·exact ⟨rfl, bl_call (bl_call (bl_alloc (bl_refl w)) hB.out) hB2⟩
end
end
end Go.Proofs.YtdobjciaikofdaaGreatDoor
