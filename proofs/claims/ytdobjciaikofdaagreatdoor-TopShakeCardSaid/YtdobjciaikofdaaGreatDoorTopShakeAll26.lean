/- Part 26 of 39 of what the proof of this law needs. Put together by a program out of the texts: WrL WrM. -/
import Derived.Test.YtdobjciaikofdaaGreatDoorTopShakeAll25
namespace Go.Proofs.YtdobjciaikofdaaGreatDoor
section
open Go Go.Conc Go.RowKit
theorem dep_of {o : Oper} {d : Nat} {listed : Array Bool} (h : (o.after.any fun e => Region.binds .any e && e.on == d) = true) (hd : ∀ e ∈ o.after, Region.binds .any e = true -> listed[e.on]? = some true) : listed[d]? = some true := by
 obtain ⟨e, he, hb⟩ := Array.any_eq_true'.1 h
 simp only [Bool.and_eq_true, beq_iff_eq] at hb
 rw [<- hb.2]
 exact hd e he hb.1
theorem pW5_is : pW5 = .region 5 (cO pW5) true := by kernel_rfl
theorem pW5_size : (cO pW5).size = 16 := by kernel_rfl
theorem pW5_back : edgesBack (cO pW5) = true := by kernel_rfl
theorem opW5_0 : ∃ o, (cO pW5)[0]? = some o /\ o.op = .move (.tmp 1) /\ o.dst = some 14 /\ o.guard = none := ⟨_, rfl, rfl, rfl, rfl⟩
theorem opW5_1 : ∃ o, (cO pW5)[1]? = some o /\ o.op = .move (.tmp 0) /\ o.dst = some 15 /\ o.guard = none := ⟨_, rfl, rfl, rfl, rfl⟩
theorem opW5_2 : ∃ o, (cO pW5)[2]? = some o /\ o.op = .nilCheck (.tmp 15) /\ o.dst = some 16 /\ o.guard = none /\ (o.after.any fun e => Region.binds .any e && e.on == 1) = true := ⟨_, rfl, rfl, rfl, rfl, by kernel_rfl⟩
theorem opW5_3 : ∃ o, (cO pW5)[3]? = some o /\ o.op = .fieldAddr 127 (.tmp 16) 0 /\ o.dst = some 17 /\ o.guard = none /\ (o.after.any fun e => Region.binds .any e && e.on == 2) = true := ⟨_, rfl, rfl, rfl, rfl, by kernel_rfl⟩
theorem opW5_4 : ∃ o, (cO pW5)[4]? = some o /\ o.op = .load 3 (.tmp 17) /\ o.dst = some 18 /\ o.guard = none /\ (o.after.any fun e => Region.binds .any e && e.on == 3) = true := ⟨_, rfl, rfl, rfl, rfl, by kernel_rfl⟩
theorem opW5_5 : ∃ o, (cO pW5)[5]? = some o /\ o.op = .move (.tmp 0) /\ o.dst = some 19 /\ o.guard = none := ⟨_, rfl, rfl, rfl, rfl⟩
theorem opW5_6 : ∃ o, (cO pW5)[6]? = some o /\ o.op = .nilCheck (.tmp 19) /\ o.dst = some 20 /\ o.guard = none /\ (o.after.any fun e => Region.binds .any e && e.on == 5) = true := ⟨_, rfl, rfl, rfl, rfl, by kernel_rfl⟩
theorem opW5_7 : ∃ o, (cO pW5)[7]? = some o /\ o.op = .fieldAddr 127 (.tmp 20) 3 /\ o.dst = some 21 /\ o.guard = none /\ (o.after.any fun e => Region.binds .any e && e.on == 6) = true := ⟨_, rfl, rfl, rfl, rfl, by kernel_rfl⟩
theorem opW5_8 : ∃ o, (cO pW5)[8]? = some o /\ o.op = .load 3 (.tmp 21) /\ o.dst = some 22 /\ o.guard = none /\ (o.after.any fun e => Region.binds .any e && e.on == 7) = true := ⟨_, rfl, rfl, rfl, rfl, by kernel_rfl⟩
theorem opW5_9 : ∃ o, (cO pW5)[9]? = some o /\ o.op = .binOp .sub 3 (.tmp 18) (.tmp 22) 3 /\ o.dst = some 23 /\ o.guard = none /\ (o.after.any fun e => Region.binds .any e && e.on == 4) = true /\ (o.after.any fun e => Region.binds .any e && e.on == 8) = true := ⟨_, rfl, rfl, rfl, rfl, by kernel_rfl, by kernel_rfl⟩
theorem opW5_10 : ∃ o, (cO pW5)[10]? = some o /\ o.op = .move (.tmp 0) /\ o.dst = some 24 /\ o.guard = none := ⟨_, rfl, rfl, rfl, rfl⟩
theorem opW5_11 : ∃ o, (cO pW5)[11]? = some o /\ o.op = .nilCheck (.tmp 24) /\ o.dst = some 25 /\ o.guard = none /\ (o.after.any fun e => Region.binds .any e && e.on == 10) = true := ⟨_, rfl, rfl, rfl, rfl, by kernel_rfl⟩
theorem opW5_12 : ∃ o, (cO pW5)[12]? = some o /\ o.op = .fieldAddr 127 (.tmp 25) 0 /\ o.dst = some 26 /\ o.guard = none /\ (o.after.any fun e => Region.binds .any e && e.on == 11) = true := ⟨_, rfl, rfl, rfl, rfl, by kernel_rfl⟩
theorem opW5_13 : ∃ o, (cO pW5)[13]? = some o /\ o.op = .load 3 (.tmp 26) /\ o.dst = some 27 /\ o.guard = none /\ (o.after.any fun e => Region.binds .any e && e.on == 12) = true := ⟨_, rfl, rfl, rfl, rfl, by kernel_rfl⟩
theorem opW5_14 : ∃ o, (cO pW5)[14]? = some o /\ o.op = .move (.tmp 6) /\ o.dst = some 28 /\ o.guard = none := ⟨_, rfl, rfl, rfl, rfl⟩
theorem opW5_15d : ∃ o, (cO pW5)[15]? = some o /\ (o.after.any fun e => Region.binds .any e && e.on == 0) = true /\ (o.after.any fun e => Region.binds .any e && e.on == 9) = true /\ (o.after.any fun e => Region.binds .any e && e.on == 13) = true /\ (o.after.any fun e => Region.binds .any e && e.on == 14) = true := ⟨_, rfl, by kernel_rfl, by kernel_rfl, by kernel_rfl, by kernel_rfl⟩
section
variable {a : Act} {o : Oper} {x y : Operand}
theorem run_nil {b k : Nat} (hop : o.op = .nilCheck x) (hx : a.eval x = .pointer (some ⟨b, k, none⟩)) (w : World) : (execOp a.eval o).run Tryz.prog w = .ok (.value (.pointer (some ⟨b, k, none⟩))) w /\ (execOp a.eval o).events Tryz.prog w #[] = #[] := by
 unfold execOp
 simp only [hop, hx]
 constructor
 ·simp [go_sem]
 ·simp [go_sem]
theorem run_f0 {b : Nat} (hop : o.op = .fieldAddr 127 x 0) (hx : a.eval x = .pointer (some ⟨b, 0, none⟩)) (w : World) : (execOp a.eval o).run Tryz.prog w = .ok (.value (.pointer (some ⟨b, 0, none⟩))) w /\ (execOp a.eval o).events Tryz.prog w #[] = #[] := by
 unfold execOp
 simp only [hop, hx]
 constructor
 ·simp [go_sem]
 ·simp [go_sem]
theorem run_f3 {b : Nat} (hop : o.op = .fieldAddr 127 x 3) (hx : a.eval x = .pointer (some ⟨b, 0, none⟩)) (w : World) : (execOp a.eval o).run Tryz.prog w = .ok (.value (.pointer (some ⟨b, 27, none⟩))) w /\ (execOp a.eval o).events Tryz.prog w #[] = #[] := by
 unfold execOp
 simp only [hop, hx]
 constructor
 ·simp [go_sem]
 ·simp [go_sem]
theorem run_sub {n m : Nat} (hop : o.op = .binOp .sub 3 x y 3) (hx : a.eval x = .int .i64 n) (hy : a.eval y = .int .i64 m) (hmn : m <= n) (hn : n < 1000) (w : World) : (execOp a.eval o).run Tryz.prog w = .ok (.value (.int .i64 (n - m : Nat))) w /\ (execOp a.eval o).events Tryz.prog w #[] = #[] := by
 have e : IntKind.i64.wrap ((n : Int) - (m : Int)) = ((n - m : Nat) : Int) := by rw [IntKind.wrap_i64]; omega
 unfold execOp
 simp only [hop, hx, hy]
 constructor
 ·simp [go_sem, e]
 ·simp [go_sem]
theorem run_loadA {n : Int} {b k : Nat} (hop : o.op = .load 3 x) (hx : a.eval x = .pointer (some ⟨b, k, none⟩)) (w : World) (hw : w.cell? ⟨b, k, none⟩ = some (.int .i64 n)) : (execOp a.eval o).run Tryz.prog w = .ok (.value (.int .i64 n)) w /\ (execOp a.eval o).events Tryz.prog w #[] = #[⟨.cell ⟨b, k, none⟩, false, false⟩] := by
 unfold execOp
 simp only [hop, hx]
 constructor
 ·simp [go_sem, hw]
 ·simp [go_sem]
  rw [hw]
  rfl
theorem run_callP {v1 v2 v3 v4 : Value} (hop : o.op = .call ⟨.value (.func 171), #[.tmp 14, .tmp 23, .tmp 27, .tmp 28], #[22, 3, 3, 283]⟩) (e1 : a.eval (.tmp 14) = v1) (e2 : a.eval (.tmp 23) = v2) (e3 : a.eval (.tmp 27) = v3) (e4 : a.eval (.tmp 28) = v4) (w : World) : (execOp a.eval o).run Tryz.prog w = .ok (.enter 171 #[v1, v2, v3, v4]) w /\ (execOp a.eval o).events Tryz.prog w #[] = #[] := by
 have t1 : a.tmps[14]?.getD undef = v1 := by rw [<- e1]; simp [Act.eval]
 have t2 : a.tmps[23]?.getD undef = v2 := by rw [<- e2]; simp [Act.eval]
 have t3 : a.tmps[27]?.getD undef = v3 := by rw [<- e3]; simp [Act.eval]
 have t4 : a.tmps[28]?.getD undef = v4 := by rw [<- e4]; simp [Act.eval]
 have hf := Tryz.func171
 have hb : Tryz.f171.body = some bPt := by unfold bPt; rfl
 have hn : ¬ Tryz.f171.name = "runtime.NumGoroutine" := by
  have h : (Tryz.f171.name == "runtime.NumGoroutine") = false := by rfl
  simpa using h
 unfold execOp
 simp only [hop]
 constructor
 ·simp [go_sem, t1, t2, t3, t4]
 ·simp [go_sem, t1, t2, t3, t4, callFunc, hf, hb, hn]
end
theorem enter_P (v1 v2 v3 v4 : Value) : Frame.enter Tryz.prog 171 #[v1, v2, v3, v4] .normal = (base 171).at ⟨#[v1, v2, v3, v4, undef, undef, undef, undef, undef, undef, undef, undef, undef], []⟩ [.code bPt] := by
 have hf := Tryz.func171
 have hb : Tryz.f171.body = some bPt := by unfold bPt; rfl
 simp [Frame.enter, hf, hb, Frame.at, base, Array.replicate]
section
variable {b len cap st : Nat} {s : Spg} {a0 : Option Addr} {w : World} {Post : Value -> World -> Prop}
def VW (b len cap st : Nat) (s : Spg) (a0 : Option Addr) : List Value := [.slice a0 len cap, .pointer (some ⟨b, 0, none⟩), .pointer (some ⟨b, 0, none⟩), .pointer (some ⟨b, 0, none⟩), .int .i64 s.rate, .pointer (some ⟨b, 0, none⟩), .pointer (some ⟨b, 0, none⟩), .pointer (some ⟨b, 27, none⟩), .int .i64 s.at_, .int .i64 (s.rate - s.at_ : Nat), .pointer (some ⟨b, 0, none⟩), .pointer (some ⟨b, 0, none⟩), .pointer (some ⟨b, 0, none⟩), .int .i64 s.rate, .chan (some st)]
structure InvW (b len cap st : Nat) (s : Spg) (a0 : Option Addr) (w : World) (listed : Array Bool) (T : Array Value) (w' : World) : Prop where
 world : w' = w
 size : T.size = 68
 t0 : T[0]? = some (.pointer (some ⟨b, 0, none⟩))
 t1 : T[1]? = some (.slice a0 len cap)
 t6 : T[6]? = some (.chan (some st))
 val : ∀ i v, (VW b len cap st s a0)[i]? = some v -> listed[i]? = some true -> T[14 + i]? = some v
 last : listed[15]? = some false
 closed : ∀ (i : Nat) (o : Oper), (cO pW5)[i]? = some o -> listed[i]? = some true -> ∀ e ∈ o.after, Region.binds .any e = true -> listed[e.on]? = some true
theorem InvW.set {listed : Array Bool} {T : Array Value} {w' : World} (h : InvW b len cap st s a0 w listed T w') (hls : listed.size = 16) {i : Nat} {o : Oper} (hi : i < 15) (ho : (cO pW5)[i]? = some o) (hd : ∀ e ∈ o.after, Region.binds .any e = true -> listed[e.on]? = some true) {v : Value} (hv : (VW b len cap st s a0)[i]? = some v) : InvW b len cap st s a0 w (listed.setIfInBounds i true) (T.setIfInBounds (14 + i) v) w' := by
 have mono : ∀ k, listed[k]? = some true -> (listed.setIfInBounds i true)[k]? = some true := fun k hk => by
  by_cases e : i = k
  ·subst e; exact Array.getElem?_setIfInBounds_self_of_lt (by omega)
  ·rw [Array.getElem?_setIfInBounds_ne e]; exact hk
 refine ⟨h.world, by simpa using h.size, by rw [Array.getElem?_setIfInBounds_ne (by omega)]; exact h.t0, by rw [Array.getElem?_setIfInBounds_ne (by omega)]; exact h.t1, by rw [Array.getElem?_setIfInBounds_ne (by omega)]; exact h.t6, fun k u hu hk => ?_, by rw [Array.getElem?_setIfInBounds_ne (by omega)]; exact h.last, fun k ok hk hl e he hb => ?_⟩
 ·by_cases e : i = k
  ·subst e
   rw [hv] at hu
   rw [Array.getElem?_setIfInBounds_self_of_lt (by rw [h.size]; omega)]
   exact hu
  ·rw [Array.getElem?_setIfInBounds_ne (by omega)]
   rw [Array.getElem?_setIfInBounds_ne e] at hk
   exact h.val k u hu hk
 ·by_cases e2 : i = k
  ·subst e2
   rw [ho] at hk
   cases hk
   exact mono _ (hd e he hb)
  ·rw [Array.getElem?_setIfInBounds_ne e2] at hl
   exact mono _ (h.closed k ok hk hl e he hb)
set_option maxHeartbeats 4000000 in
theorem region_W (hsp : Sp w b s) (hat : s.at_ <= s.rate) (hrt : s.rate <= 168) {T : Array Value} (hT : T.size = 68 /\ T[0]? = some (.pointer (some ⟨b, 0, none⟩)) /\ T[1]? = some (.slice a0 len cap) /\ T[6]? = some (.chan (some st))) {cs : List Frame}
  (h : ∀ T' : Array Value, (T'.size = 68 /\ T'[0]? = some (.pointer (some ⟨b, 0, none⟩)) /\ T'[1]? = some (.slice a0 len cap) /\ T'[6]? = some (.chan (some st))) -> RunsOn Tryz.prog Post (G ((base 171).at ⟨#[.slice a0 len cap, .int .i64 (s.rate - s.at_ : Nat), .int .i64 s.rate, .chan (some st), undef, undef, undef, undef, undef, undef, undef, undef, undef], []⟩ [.code bPt]) (frU st T' :: cs)) w) :
  RunsOn Tryz.prog Post (G ((base 105).at ⟨T, [dcloseW st]⟩ [.code pW5, .code (.block 0 (.loop LWr)), .code (.seq pW12 .ret)]) cs) w := by
 obtain ⟨g1, g2, g3, g4⟩ := hT
 rw [pW5_is]
 have c0 := hsp.rate
 have c27 := hsp.at_
 refine region_runs (Inv := InvW b len cap st s a0 w) rfl pW5_back ⟨rfl, g1, g2, g3, g4, fun i v hv hl => ?_, by rw [pW5_size]; rfl, fun i o ho hl => ?_⟩ (fun listed T w' i o rest hls ho hd hf hI hrest K => ?_) (fun listed T w' hall hI => ?_)
 ·exfalso
  rw [Array.getElem?_replicate] at hl
  split at hl <;> cases hl
 ·exfalso
  rw [Array.getElem?_replicate] at hl
  split at hl <;> cases hl
 ·have hi16 : i < 16 := by rw [<- pW5_size]; exact (Array.getElem?_eq_some_iff.1 ho).1
  rw [pW5_size] at hls
  obtain rfl := hI.world
  have hcase : i = 0 \/ i = 1 \/ i = 2 \/ i = 3 \/ i = 4 \/ i = 5 \/ i = 6 \/ i = 7 \/ i = 8 \/ i = 9 \/ i = 10 \/ i = 11 \/ i = 12 \/ i = 13 \/ i = 14 \/ i = 15 := by omega
  have h0 : ∀ ds, Act.eval ⟨T, ds⟩ (.tmp 0) = .pointer (some ⟨b, 0, none⟩) := fun ds => eval_tmp hI.t0
  have h1 : ∀ ds, Act.eval ⟨T, ds⟩ (.tmp 1) = .slice a0 len cap := fun ds => eval_tmp hI.t1
  have h6 : ∀ ds, Act.eval ⟨T, ds⟩ (.tmp 6) = .chan (some st) := fun ds => eval_tmp hI.t6
  rcases hcase with rfl | rfl | rfl | rfl | rfl | rfl | rfl | rfl | rfl | rfl | rfl | rfl | rfl | rfl | rfl | rfl
  ·obtain ⟨o', p1, p2, p3, p4⟩ := opW5_0
   obtain rfl : o = o' := Option.some.inj (ho.symm.trans p1)
   refine run_val (w' := w') (.slice a0 len cap) ho (wanted_none p4 _) kindW (fun d => by rw [(run_move p2 _).1, h1 _]) (fun d => (run_move p2 _).2) ⟨Nat.le_refl _, rfl, rfl, rfl⟩ ?_
   rw [p3]
   exact K _ _ (hI.set hls (by omega) ho hd rfl)
  ·obtain ⟨o', p1, p2, p3, p4⟩ := opW5_1
   obtain rfl : o = o' := Option.some.inj (ho.symm.trans p1)
   refine run_val (w' := w') (.pointer (some ⟨b, 0, none⟩)) ho (wanted_none p4 _) kindW (fun d => by rw [(run_move p2 _).1, h0 _]) (fun d => (run_move p2 _).2) ⟨Nat.le_refl _, rfl, rfl, rfl⟩ ?_
   rw [p3]
   exact K _ _ (hI.set hls (by omega) ho hd rfl)
  ·obtain ⟨o', p1, p2, p3, p4, q1⟩ := opW5_2
   obtain rfl : o = o' := Option.some.inj (ho.symm.trans p1)
   have d1 := eval_tmp (ds := [dcloseW st]) (hI.val 1 _ rfl (dep_of q1 hd))
   refine run_val (w' := w') (.pointer (some ⟨b, 0, none⟩)) ho (wanted_none p4 _) kindW (fun d => (run_nil p2 d1 _).1) (fun d => (run_nil p2 d1 _).2) ⟨Nat.le_refl _, rfl, rfl, rfl⟩ ?_
   rw [p3]
   exact K _ _ (hI.set hls (by omega) ho hd rfl)
  ·obtain ⟨o', p1, p2, p3, p4, q2⟩ := opW5_3
   obtain rfl : o = o' := Option.some.inj (ho.symm.trans p1)
   have d2 := eval_tmp (ds := [dcloseW st]) (hI.val 2 _ rfl (dep_of q2 hd))
   refine run_val (w' := w') (.pointer (some ⟨b, 0, none⟩)) ho (wanted_none p4 _) kindW (fun d => (run_f0 p2 d2 _).1) (fun d => (run_f0 p2 d2 _).2) ⟨Nat.le_refl _, rfl, rfl, rfl⟩ ?_
   rw [p3]
   exact K _ _ (hI.set hls (by omega) ho hd rfl)
  ·obtain ⟨o', p1, p2, p3, p4, q3⟩ := opW5_4
   obtain rfl : o = o' := Option.some.inj (ho.symm.trans p1)
   have d3 := eval_tmp (ds := [dcloseW st]) (hI.val 3 _ rfl (dep_of q3 hd))
   refine run_load1 (.int .i64 s.rate) ⟨b, 0, none⟩ ho (wanted_none p4 _) kindW c0 (fun w hw => run_loadA p2 d3 w hw) ?_
   rw [p3]
   exact K _ _ (hI.set hls (by omega) ho hd rfl)
  ·obtain ⟨o', p1, p2, p3, p4⟩ := opW5_5
   obtain rfl : o = o' := Option.some.inj (ho.symm.trans p1)
   refine run_val (w' := w') (.pointer (some ⟨b, 0, none⟩)) ho (wanted_none p4 _) kindW (fun d => by rw [(run_move p2 _).1, h0 _]) (fun d => (run_move p2 _).2) ⟨Nat.le_refl _, rfl, rfl, rfl⟩ ?_
   rw [p3]
   exact K _ _ (hI.set hls (by omega) ho hd rfl)
  ·obtain ⟨o', p1, p2, p3, p4, q5⟩ := opW5_6
   obtain rfl : o = o' := Option.some.inj (ho.symm.trans p1)
   have d5 := eval_tmp (ds := [dcloseW st]) (hI.val 5 _ rfl (dep_of q5 hd))
   refine run_val (w' := w') (.pointer (some ⟨b, 0, none⟩)) ho (wanted_none p4 _) kindW (fun d => (run_nil p2 d5 _).1) (fun d => (run_nil p2 d5 _).2) ⟨Nat.le_refl _, rfl, rfl, rfl⟩ ?_
   rw [p3]
   exact K _ _ (hI.set hls (by omega) ho hd rfl)
  ·obtain ⟨o', p1, p2, p3, p4, q6⟩ := opW5_7
   obtain rfl : o = o' := Option.some.inj (ho.symm.trans p1)
   have d6 := eval_tmp (ds := [dcloseW st]) (hI.val 6 _ rfl (dep_of q6 hd))
   refine run_val (w' := w') (.pointer (some ⟨b, 27, none⟩)) ho (wanted_none p4 _) kindW (fun d => (run_f3 p2 d6 _).1) (fun d => (run_f3 p2 d6 _).2) ⟨Nat.le_refl _, rfl, rfl, rfl⟩ ?_
   rw [p3]
   exact K _ _ (hI.set hls (by omega) ho hd rfl)
  ·obtain ⟨o', p1, p2, p3, p4, q7⟩ := opW5_8
   obtain rfl : o = o' := Option.some.inj (ho.symm.trans p1)
   have d7 := eval_tmp (ds := [dcloseW st]) (hI.val 7 _ rfl (dep_of q7 hd))
   refine run_load1 (.int .i64 s.at_) ⟨b, 27, none⟩ ho (wanted_none p4 _) kindW c27 (fun w hw => run_loadA p2 d7 w hw) ?_
   rw [p3]
   exact K _ _ (hI.set hls (by omega) ho hd rfl)
  ·obtain ⟨o', p1, p2, p3, p4, q4, q8⟩ := opW5_9
   obtain rfl : o = o' := Option.some.inj (ho.symm.trans p1)
   have d4 := eval_tmp (ds := [dcloseW st]) (hI.val 4 _ rfl (dep_of q4 hd))
   have d8 := eval_tmp (ds := [dcloseW st]) (hI.val 8 _ rfl (dep_of q8 hd))
   refine run_val (w' := w') (.int .i64 (s.rate - s.at_ : Nat)) ho (wanted_none p4 _) kindW (fun d => (run_sub p2 d4 d8 hat (by omega) _).1) (fun d => (run_sub p2 d4 d8 hat (by omega) _).2) ⟨Nat.le_refl _, rfl, rfl, rfl⟩ ?_
   rw [p3]
   exact K _ _ (hI.set hls (by omega) ho hd rfl)
  ·obtain ⟨o', p1, p2, p3, p4⟩ := opW5_10
   obtain rfl : o = o' := Option.some.inj (ho.symm.trans p1)
   refine run_val (w' := w') (.pointer (some ⟨b, 0, none⟩)) ho (wanted_none p4 _) kindW (fun d => by rw [(run_move p2 _).1, h0 _]) (fun d => (run_move p2 _).2) ⟨Nat.le_refl _, rfl, rfl, rfl⟩ ?_
   rw [p3]
   exact K _ _ (hI.set hls (by omega) ho hd rfl)
  ·obtain ⟨o', p1, p2, p3, p4, q10⟩ := opW5_11
   obtain rfl : o = o' := Option.some.inj (ho.symm.trans p1)
   have d10 := eval_tmp (ds := [dcloseW st]) (hI.val 10 _ rfl (dep_of q10 hd))
   refine run_val (w' := w') (.pointer (some ⟨b, 0, none⟩)) ho (wanted_none p4 _) kindW (fun d => (run_nil p2 d10 _).1) (fun d => (run_nil p2 d10 _).2) ⟨Nat.le_refl _, rfl, rfl, rfl⟩ ?_
   rw [p3]
   exact K _ _ (hI.set hls (by omega) ho hd rfl)
  ·obtain ⟨o', p1, p2, p3, p4, q11⟩ := opW5_12
   obtain rfl : o = o' := Option.some.inj (ho.symm.trans p1)
   have d11 := eval_tmp (ds := [dcloseW st]) (hI.val 11 _ rfl (dep_of q11 hd))
   refine run_val (w' := w') (.pointer (some ⟨b, 0, none⟩)) ho (wanted_none p4 _) kindW (fun d => (run_f0 p2 d11 _).1) (fun d => (run_f0 p2 d11 _).2) ⟨Nat.le_refl _, rfl, rfl, rfl⟩ ?_
   rw [p3]
   exact K _ _ (hI.set hls (by omega) ho hd rfl)
  ·obtain ⟨o', p1, p2, p3, p4, q12⟩ := opW5_13
   obtain rfl : o = o' := Option.some.inj (ho.symm.trans p1)
   have d12 := eval_tmp (ds := [dcloseW st]) (hI.val 12 _ rfl (dep_of q12 hd))
   refine run_load1 (.int .i64 s.rate) ⟨b, 0, none⟩ ho (wanted_none p4 _) kindW c0 (fun w hw => run_loadA p2 d12 w hw) ?_
   rw [p3]
   exact K _ _ (hI.set hls (by omega) ho hd rfl)
  ·obtain ⟨o', p1, p2, p3, p4⟩ := opW5_14
   obtain rfl : o = o' := Option.some.inj (ho.symm.trans p1)
   refine run_val (w' := w') (.chan (some st)) ho (wanted_none p4 _) kindW (fun d => by rw [(run_move p2 _).1, h6 _]) (fun d => (run_move p2 _).2) ⟨Nat.le_refl _, rfl, rfl, rfl⟩ ?_
   rw [p3]
   exact K _ _ (hI.set hls (by omega) ho hd rfl)
  ·obtain ⟨o', p1, p2, p3, p4⟩ := opW5_15
   obtain rfl : o = o' := Option.some.inj (ho.symm.trans p1)
   obtain ⟨o', p5, q0, q9, q13, q14⟩ := opW5_15d
   obtain rfl : o = o' := Option.some.inj (ho.symm.trans p5)
   have l0 := dep_of q0 hd
   have l9 := dep_of q9 hd
   have l13 := dep_of q13 hd
   have l14 := dep_of q14 hd
   obtain ⟨y9, z9, _, _, _, q4, q8⟩ := opW5_9
   have l4 := dep_of q4 (hI.closed 9 _ z9 l9)
   have l8 := dep_of q8 (hI.closed 9 _ z9 l9)
   obtain ⟨y4, z4, _, _, _, q3⟩ := opW5_4
   have l3 := dep_of q3 (hI.closed 4 _ z4 l4)
   obtain ⟨y3, z3, _, _, _, q2⟩ := opW5_3
   have l2 := dep_of q2 (hI.closed 3 _ z3 l3)
   obtain ⟨y2, z2, _, _, _, q1⟩ := opW5_2
   have l1 := dep_of q1 (hI.closed 2 _ z2 l2)
   obtain ⟨y8, z8, _, _, _, q7⟩ := opW5_8
   have l7 := dep_of q7 (hI.closed 8 _ z8 l8)
   obtain ⟨y7, z7, _, _, _, q6⟩ := opW5_7
   have l6 := dep_of q6 (hI.closed 7 _ z7 l7)
   obtain ⟨y6, z6, _, _, _, q5⟩ := opW5_6
   have l5 := dep_of q5 (hI.closed 6 _ z6 l6)
   obtain ⟨y13, z13, _, _, _, q12⟩ := opW5_13
   have l12 := dep_of q12 (hI.closed 13 _ z13 l13)
   obtain ⟨y12, z12, _, _, _, q11⟩ := opW5_12
   have l11 := dep_of q11 (hI.closed 12 _ z12 l12)
   obtain ⟨y11, z11, _, _, _, q10⟩ := opW5_11
   have l10 := dep_of q10 (hI.closed 11 _ z11 l11)
   have hr : rest = [] := hrest fun j hj hne => by
    rw [pW5_size] at hj
    have hj2 : j = 0 \/ j = 1 \/ j = 2 \/ j = 3 \/ j = 4 \/ j = 5 \/ j = 6 \/ j = 7 \/ j = 8 \/ j = 9 \/ j = 10 \/ j = 11 \/ j = 12 \/ j = 13 \/ j = 14 := by omega
    rcases hj2 with rfl | rfl | rfl | rfl | rfl | rfl | rfl | rfl | rfl | rfl | rfl | rfl | rfl | rfl | rfl <;> assumption
   subst hr
   have hcall := fun w1 : World => run_callP (a := ⟨T, [dcloseW st]⟩) p2 (eval_tmp (hI.val 0 _ rfl l0)) (eval_tmp (hI.val 9 _ rfl l9)) (eval_tmp (hI.val 13 _ rfl l13)) (eval_tmp (hI.val 14 _ rfl l14)) w1
   refine run_enter ho (wanted_none p4 _) kindW (fun w => (hcall w).1) (fun w => (hcall w).2) ?_
   rw [enter_P]
   exact h T ⟨hI.size, hI.t0, hI.t1, hI.t6⟩
 ·exfalso
  have h1 := hall 15 (by rw [pW5_size]; omega)
  rw [hI.last] at h1
  cases h1
end
end
section
open Go Go.Conc Go.RowKit
theorem parts_count (off len cap : Nat) {fst rt : Nat} (hf : 0 < fst) (hr : 0 < rt) : ∃ n, (∀ j, j < n -> 0 < lU off len cap fst rt j) /\ lU off len cap fst rt n = 0 := by
 have hb : ∀ j, lU off len cap fst rt j <= len - j := by
  intro j
  induction j with
  | zero => exact Nat.le_refl _
  | succ j ih =>
   rw [lU_succ]
   have h1 : nU off len cap fst rt j = min (roomU fst rt j) (lU off len cap fst rt j) := rfl
   have h2 : 0 < roomU fst rt j := by unfold roomU; split <;> assumption
   omega
 have hex : ∃ n, lU off len cap fst rt n = 0 := ⟨len, by have := hb len; omega⟩
 obtain ⟨n, hn, hmin⟩ : ∃ n, lU off len cap fst rt n = 0 /\ ∀ j, j < n -> ¬ lU off len cap fst rt j = 0 := by
  obtain ⟨m, hm⟩ := hex
  induction m using Nat.strongRecOn with
  | _ m ih =>
   by_cases h : ∃ j, j < m /\ lU off len cap fst rt j = 0
   ·obtain ⟨j, hj, h0⟩ := h
    exact ih j hj h0
   ·exact ⟨m, hm, fun j hj h0 => h ⟨j, hj, h0⟩⟩
 exact ⟨n, fun j hj => by have := hmin j hj; omega, hn⟩
theorem enter_W (v0 v1 : Value) : Frame.enter Tryz.prog 105 #[v0, v1] .normal = (base 105).at ⟨#[v0, v1] ++ Array.replicate 66 undef, []⟩ [.code bWr] := by
 have hf := Tryz.func105
 have hb : Tryz.f105.body = some bWr := by unfold bWr; rfl
 simp [Frame.enter, hf, hb, Frame.at, base]
theorem close_stepW {st : Nat} {T : Array Value} {todo : List Item} {cs : List Frame} {w : World} {buf : Array Value} {s r cp : Nat} {tm : Bool} (hc : w.heap[st]? = some (.chan cp buf false s r tm)) :
  stepG Tryz.prog true (G { (base 105).at ⟨T, [dcloseW st]⟩ todo with mode := .returning } cs) w = .go (G { (base 105).at ⟨T, []⟩ todo with mode := .returning } cs) (w.setChan st cp buf true s r tm) #[⟨.obj st, false, true⟩, ⟨.obj st, true, true⟩] := by
 have hr := run_close_open (P := Tryz.prog) #[251] 0 hc
 have he := events_close_open (P := Tryz.prog) (es := #[]) #[251] 0 hc
 have hq : (Tryz.prog.funcs[105]?).any (·.norace) = false := by kernel_rfl
 have h1 : (builtin .close #[251] 0 #[false] #[.chan (some st)]).run Tryz.prog w = .ok (.value (.tuple #[])) (w.setChan st cp buf true s r tm) := by
  simp [go_sem, hr, World.setChan]
 have h2 : (builtin .close #[251] 0 #[false] #[.chan (some st)]).events Tryz.prog w #[] = #[⟨.obj st, false, true⟩, ⟨.obj st, true, true⟩] := by
  simp [go_sem, he]
 have h3 : seen Tryz.prog 105 #[⟨.obj st, false, true⟩, ⟨.obj st, true, true⟩] = #[⟨.obj st, false, true⟩, ⟨.obj st, true, true⟩] := seen_eq hq (by intro e he f; simp at he; rcases he with rfl | rfl <;> simp)
 simp [G, stepG, unwind, callDeferred, Frame.at, dcloseW, invoke, base, GStep.after, h1, h2, h3]
section
variable {b ib off len cap st n : Nat} {f : Nat -> Nat} {w0 w : World} {s : Spg} {a0 : Option Addr} {Post : Value -> World -> Prop}
theorem end_W {c : Nat} (hk : w0.grownBy w (some b)) {s2 : Spg} (hsp : Sp w b s2) {tm : Bool} (hst : w.heap[st]? = some (.chan 0 #[] false 0 0 tm)) (gst : w0.heap.size <= st) (hbl : b < w0.heap.size) {T : Array Value} (ht : UT b st c (.slice a0 len cap) T) {c0 : Frame} {cs : List Frame}
  (cont : ∀ w' : World, w0.grownBy w' (some b) -> Sp w' b s2 -> RunsOn Tryz.prog Post (G (c0.finish (.tuple #[.int .i64 len, .int .i64 0])) cs) w') :
  RunsOn Tryz.prog Post (G ((base 105).at ⟨T, [dcloseW st]⟩ [.code (.seq pW12 .ret)]) (c0 :: cs)) w := by
 refine run_ctl (fun w => stepG_seq) ?_
 refine lone_code progLn ⟨by kernel_rfl, fun c hc => (by cases hc), rfl⟩ (fun W e a' W' => e = .normal /\ a'.defers = [dcloseW st] /\ a'.tmps[4]? = some (.int .i64 len) /\ a'.tmps[5]? = some (.int .i64 0) /\ W' = W) (fun W _ => Go.wp_mono (wE ht.size ht.s0 ht.s1 W) fun e a' w' ⟨h1, h2, h3, h4, h5, h6, h7, h8⟩ => ⟨.inl h1, h1, h5, h6, h7, h8⟩) ?_ (fun _ _ _ _ _ h => by cases h.1)
 rintro Tp ⟨T2, ds⟩ W1 w1 ⟨_, hd, e4, e5, hW1⟩ V ht hs
 dsimp only at hd e4 e5
 subst hd
 have hB : Below w.heap.size { veiled w with tape := Tp } W1 := by
  rw [hW1]
  exact ⟨rfl, rfl, rfl, Nat.le_refl _, fun _ _ => rfl⟩
 have K1 := veil_kept V ht hB
 clear V hB hW1
 have hstl := (Array.getElem?_eq_some_iff.1 hst).1
 have hst1 : w1.heap[st]? = some (.chan 0 #[] false 0 0 tm) := (K1.keep _ hstl).trans hst
 have hgk : w0.grownBy w1 (some b) := gb_trans hk ⟨K1.os, K1.tape, K1.output, K1.size, fun k hk _ => K1.keep k hk⟩
 have hsp1 : Sp w1 b s2 := hsp.grown (r := none) ⟨K1.os, K1.tape, K1.output, K1.size, fun k hk _ => K1.keep k hk⟩ (by simp)
 refine run_ctl (fun w => stepG_ret') ?_
 refine RunsOn.move rfl fun d => ⟨_, _, _, close_stepW (w := w1.at d) hst1, ?_, ?_, ?_⟩
 ·rw [setChan_size]
  exact Nat.le_refl _
 ·intro e he
  have hl := (Array.getElem?_eq_some_iff.1 hst1).1
  rw [setChan_size]
  simp at he
  rcases he with rfl | rfl <;> exact mild_obj hl
 ·have hres : Tryz.f105.results = #[.tmp 4, .tmp 5] := rfl
  have g4 : T2.getD 4 undef = .int .i64 len := by rw [Array.getD_eq_getD_getElem?, e4]; rfl
  have g5 : T2.getD 5 undef = .int .i64 0 := by rw [Array.getD_eq_getD_getElem?, e5]; rfl
  refine run_ctl (fun w => stepG_leave (v := .tuple #[.int .i64 len, .int .i64 0]) rfl rfl Tryz.func105 ?_ ?_) ?_
  ·dsimp only
   rw [results_tmp2 hres, g4, g5]
  ·exact events_results_tmp2 hres _ _
  ·have hne : ∀ k, k < w0.heap.size -> ((w1.at d).setChan st 0 #[] true 0 0 tm).heap[k]? = w1.heap[k]? := fun k hk => setChan_ne (w := w1.at d) (by omega)
   refine cont _ ⟨hgk.os, hgk.tape, hgk.output, by rw [setChan_size]; exact hgk.size, fun k hk hr => (hne k hk).trans (hgk.block k hk hr)⟩ ?_
   obtain ⟨t, fr, h1, h2⟩ := hsp1
   exact ⟨t, fr, (hne b hbl).trans h1, h2⟩
set_option maxRecDepth 100000 in
theorem write_runs (W0 : WGround b ib off len f s w) (hrd : s.rd = false) (hcap : len <= cap) (h0 : 0 < len -> a0 = some ⟨ib, off, none⟩) {c0 : Frame} {cs : List Frame}
  (cont : ∀ (n : Nat) (w' : World), (∀ j, j < n -> 0 < lU off len cap (s.rate - s.at_) s.rate j) -> lU off len cap (s.rate - s.at_) s.rate n = 0 -> w.grownBy w' (some b) -> Sp w' b (sU s len cap off f n) -> RunsOn Tryz.prog Post (G (c0.finish (.tuple #[.int .i64 len, .int .i64 0])) cs) w') :
  RunsOn Tryz.prog Post (G (Frame.enter Tryz.prog 105 #[.pointer (some ⟨b, 0, none⟩), .slice a0 len cap] .normal) (c0 :: cs)) w := by
 obtain ⟨n, hn1, hn2⟩ := parts_count off len cap (fst := s.rate - s.at_) (rt := s.rate) (by have := W0.room; omega) W0.ok.pos
 rw [enter_W]
 obtain ⟨T0, hT0⟩ : ∃ T0 : Array Value, T0 = #[.pointer (some ⟨b, 0, none⟩), .slice a0 len cap] ++ Array.replicate 66 undef := ⟨_, rfl⟩
 have s0 : T0.size = 68 := by rw [hT0]; simp
 have p0 : T0[0]? = some (.pointer (some ⟨b, 0, none⟩)) := by rw [hT0, Array.getElem?_append_left (by simp)]; simp
 have p1 : T0[1]? = some (.slice a0 len cap) := by rw [hT0, Array.getElem?_append_left (by simp)]; simp
 rw [<- hT0]
 clear hT0
 have same : ∀ (w w1 W1 : World) (Tp : Tape), W1 = { veiled w with tape := Tp } -> Veil w W1 w1 -> w1.tape = w.tape -> Kept w w1 := fun w w1 W1 Tp e V ht => veil_kept (T := Tp) V ht (by rw [e]; exact ⟨rfl, rfl, rfl, Nat.le_refl _, fun _ _ => rfl⟩)
 refine run_ctl (fun w => step_code bWr_is2) ?_
 -- the results' beginning
 refine lone_code progLn ⟨by kernel_rfl, fun c hc => (by cases hc), rfl⟩ (fun W e a' W' => e = .normal /\ a'.tmps.size = 68 /\ a'.tmps[0]? = some (.pointer (some ⟨b, 0, none⟩)) /\ a'.tmps[1]? = some (.slice a0 len cap) /\ a'.defers = [] /\ W' = W) (fun W _ => Go.wp_mono (wA s0 p0 p1 W) fun e a' w' ⟨h1, h2, h3, h4, h5, h6⟩ => ⟨.inl h1, h1, h2, h3, h4, h5, h6⟩) ?_ (fun _ _ _ _ _ h => by cases h.1)
 rintro Tp ⟨T1, ds⟩ W1 w1 ⟨_, s1, q0, q1, hd, hW⟩ V ht hs
 dsimp only at s1 q0 q1 hd
 subst hd
 have K1 := same _ _ _ Tp hW V ht
 clear V ht hs hW s0 p0 p1 T0
 -- is it read?
 refine run_ctl (fun w => stepG_seq) ?_
 have hc1 : w1.cell? ⟨b, 28, none⟩ = some (.bool false) := K1.cell (by rw [W0.sp.rd, hrd])
 refine lone_code progLn ⟨by kernel_rfl, fun c hc => (by cases hc), rfl⟩ (fun W e a' W' => e = .normal /\ a'.tmps.size = 68 /\ a'.tmps[0]? = some (.pointer (some ⟨b, 0, none⟩)) /\ a'.tmps[1]? = some (.slice a0 len cap) /\ a'.defers = [] /\ W' = W) (fun W hA => Go.wp_mono (wB s1 q0 q1 W (hA.cell hc1)) fun e a' w' ⟨h1, h2, h3, h4, h5, h6⟩ => ⟨.inl h1, h1, h2, h3, h4, h5, h6⟩) ?_ (fun _ _ _ _ _ h => by cases h.1)
 rintro Tp ⟨T2, ds⟩ W2 w2 ⟨_, s2, r0, r1, hd, hW⟩ V ht hs
 dsimp only at s2 r0 r1 hd
 subst hd
 have K2 := same _ _ _ Tp hW V ht
 clear V ht hs hW s1 q0 q1 T1 hc1
 -- stop
 refine run_ctl (fun w => stepG_seq) ?_
 refine lone_code progLn ⟨by kernel_rfl, fun c hc => (by cases hc), rfl⟩ (fun W e a' W' => e = .normal /\ a'.tmps.size = 68 /\ a'.tmps[0]? = some (.pointer (some ⟨b, 0, none⟩)) /\ a'.tmps[1]? = some (.slice a0 len cap) /\ a'.defers = [] /\ a'.tmps[6]? = some (.chan (some W.heap.size)) /\ W' = W.alloc (.chan 0 #[] false 0 0 false)) (fun W _ => Go.wp_mono (wC s2 r0 r1 W) fun e a' w' ⟨h1, h2, h3, h4, h5, h6, h7⟩ => ⟨.inl h1, h1, h2, h3, h4, h5, h6, h7⟩) ?_ (fun _ _ _ _ _ h => by cases h.1)
 rintro Tp ⟨T3, ds⟩ W3 w3 ⟨_, s3, t0, t1, hd, t6, hW⟩ V ht hs
 dsimp only at s3 t0 t1 t6 hd
 subst hd
 rw [size_veiled] at t6
 obtain ⟨hB, u1, u2⟩ := one_new (size_veiled w2 Tp) hW
 have K3 := veil_kept V ht hB
 rw [<- V.size] at u2
 have c3 := veil_new V u1 (by simp)
 clear V ht hs hW u1 hB s2 r0 r1 T2
 obtain ⟨st, hst⟩ : ∃ st, st = w2.heap.size := ⟨_, rfl⟩
 rw [<- hst] at c3 t6
 -- the deferred close
 refine run_ctl (fun w => stepG_seq) ?_
 refine lone_code progLn ⟨by kernel_rfl, fun c hc => (by cases hc), rfl⟩ (fun W e a' W' => e = .normal /\ a'.tmps.size = 68 /\ a'.tmps[0]? = some (.pointer (some ⟨b, 0, none⟩)) /\ a'.tmps[1]? = some (.slice a0 len cap) /\ a'.defers = [dcloseW st] /\ a'.tmps[6]? = some (.chan (some st)) /\ W' = W) (fun W _ => Go.wp_mono (wD s3 t0 t1 t6 W) fun e a' w' ⟨h1, h2, h3, h4, h5, h6, h7⟩ => ⟨.inl h1, h1, h2, h3, h4, h5, h6, h7⟩) ?_ (fun _ _ _ _ _ h => by cases h.1)
 rintro Tp ⟨T4, ds⟩ W4 w4 ⟨_, s4, v0, v1, hd, v6, hW⟩ V ht hs
 dsimp only at s4 v0 v1 v6 hd
 subst hd
 have K4 := same _ _ _ Tp hW V ht
 clear V ht hs hW s3 t0 t1 t6 T3
 have c4 : w4.heap[st]? = some (.chan 0 #[] false 0 0 false) := (K4.keep st (by omega)).trans c3
 have KK : Kept w w4 := K1.trans (K2.trans (K3.trans K4))
 have hg : w.heap.size <= st := by
  have := K1.size
  have := K2.size
  omega
 have hbl := W0.sp.lt
 have hsp4 : Sp w4 b s := W0.sp.grown (r := none) ⟨KK.os, KK.tape, KK.output, KK.size, fun k hk _ => KK.keep k hk⟩ (by simp)
 clear K1 K2 K3 K4 c3
 refine run_ctl (fun w => stepG_seq) (run_ctl (fun w => stepG_seq) ?_)
 refine region_W hsp4 W0.ok.at_ W0.ok.rate ⟨s4, v0, v1, v6⟩ fun T' hT' => ?_
 exact parts_U W0 KK hcap h0 hn1 hn2 hg c4 hT' fun w' c T2 tm hk' hsp' hst' ht' => end_W hk' hsp' hst' hg hbl ht' fun w2 h1 h2 => cont n w2 hn1 hn2 h1 h2
end
end
end Go.Proofs.YtdobjciaikofdaaGreatDoor
