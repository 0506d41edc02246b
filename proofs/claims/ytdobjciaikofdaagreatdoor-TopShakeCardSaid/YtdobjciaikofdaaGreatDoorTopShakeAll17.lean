/- Part 17 of 39 of what the proof of this law needs. Put together by a program out of the texts: WrB WrC WrD. -/
import Derived.Test.YtdobjciaikofdaaGreatDoorTopShakeAll16
import Derived.Conc.SmallLaws
import Derived.Conc.EventLaws2
import Derived.Conc.TokenWalk
namespace Go.Proofs.YtdobjciaikofdaaGreatDoor
section
open Go Go.Conc Go.RowKit
noncomputable def bSn : Code := (Tryz.f230.body).getD .skip
noncomputable def pS0 : Code := cF bSn
noncomputable def pS1 : Code := cF (cS bSn)
noncomputable def LSn : Code := cF (cF (cS (cS bSn)))
noncomputable def pS2 : Code := cF (cF LSn)
noncomputable def BSn : Code := cF (cF (cS LSn))
noncomputable def pS3 : Code := cS (cS LSn)
noncomputable def pS4 : Code := cF BSn
noncomputable def pS5 : Code := cF (cF (cF (cS BSn)))
noncomputable def pS6 : Code := cS (cF (cF (cS BSn)))
noncomputable def pS7 : Code := cS (cF (cS BSn))
noncomputable def pS8 : Code := cF (cS (cS BSn))
noncomputable def pS9 : Code := cF (cF (cS (cS (cS BSn))))
theorem bSn_is : bSn = .seq pS0 (.seq pS1 (.block 0 (.loop LSn))) := by kernel_rfl
theorem LSn_is : LSn = .seq (.seq pS2 (.cond (.tmp 11) .skip (.exit 0))) (.seq (.block 1 BSn) pS3) := by kernel_rfl
theorem BSn_is : BSn = .seq pS4 (.seq (.seq (.seq pS5 pS6) pS7) (.seq pS8 (.block 2 (.cond (.tmp 24) pS9 (.cond (.tmp 25) .ret .skip))))) := by kernel_rfl
theorem pS0_is : pS0 = .region 0 (cO pS0) false := by kernel_rfl
theorem pS1_is : pS1 = .region 1 (cO pS1) false := by kernel_rfl
theorem pS2_is : pS2 = .region 2 (cO pS2) false := by kernel_rfl
theorem pS3_is : pS3 = .region 3 (cO pS3) false := by kernel_rfl
theorem pS4_is : pS4 = .region 4 (cO pS4) false := by kernel_rfl
theorem pS5_is : pS5 = .region 5 (cO pS5) false := by kernel_rfl
theorem pS6_is : pS6 = .region 6 (cO pS6) false := by kernel_rfl
theorem pS7_is : pS7 = .region 7 (cO pS7) false := by kernel_rfl
theorem pS8_is : pS8 = .region 8 (cO pS8) false := by kernel_rfl
theorem pS9_is : pS9 = .region 9 (cO pS9) false := by kernel_rfl
section
variable {a : Act} {o : Oper} {x y : Operand}
theorem run_move {P : Program} (hop : o.op = .move x) (w : World) : (execOp a.eval o).run P w = .ok (.value (a.eval x)) w /\ (execOp a.eval o).events P w #[] = #[] := by
 unfold execOp
 simp only [hop]
 exact ⟨rfl, rfl⟩
theorem run_assign {P : Program} (hop : o.op = .assign x) (w : World) : (execOp a.eval o).run P w = .ok (.value (a.eval x)) w /\ (execOp a.eval o).events P w #[] = #[] := by
 unfold execOp
 simp only [hop]
 exact ⟨rfl, rfl⟩
theorem run_extract {P : Program} {c : Array Value} {k : Nat} {v : Value} (hop : o.op = .extract x k) (hx : a.eval x = .tuple c) (hk : c[k]? = some v) (w : World) : (execOp a.eval o).run P w = .ok (.value v) w /\ (execOp a.eval o).events P w #[] = #[] := by
 unfold execOp
 simp only [hop, hx]
 constructor
 ·simp [go_sem, hk]
 ·simp [go_sem, hk]
theorem run_len {b : Option Addr} {l c : Nat} (hop : o.op = .call ⟨.builtin .len, #[x], #[22]⟩) (hx : a.eval x = .slice b l c) (w : World) : (execOp a.eval o).run Tryz.prog w = .ok (.value (.int .i64 l)) w /\ (execOp a.eval o).events Tryz.prog w #[] = #[] := by
 unfold execOp
 simp only [hop]
 have hx' : (#[x] : Array Operand).map a.eval = #[.slice b l c] := by rw [<- hx]; simp
 constructor
 ·simp [go_sem, resolve, hx']
 ·simp [go_sem, resolve, hx']
theorem run_gtr {n : Int} (hop : o.op = .binOp .gtr 3 x (.const (.int .i64 0)) 3) (hx : a.eval x = .int .i64 n) (w : World) : (execOp a.eval o).run Tryz.prog w = .ok (.value (.bool (decide (0 < n)))) w /\ (execOp a.eval o).events Tryz.prog w #[] = #[] := by
 have hc : a.eval (.const (.int .i64 0)) = .int .i64 0 := rfl
 unfold execOp
 simp only [hop, hx, hc]
 constructor
 ·simp [go_sem]
 ·simp [go_sem]
theorem run_eqlK {n : Int} (m : Int) (hop : o.op = .binOp .eql 3 x (.const (.int .i64 m)) 3) (hx : a.eval x = .int .i64 n) (w : World) : (execOp a.eval o).run Tryz.prog w = .ok (.value (.bool (n == m))) w /\ (execOp a.eval o).events Tryz.prog w #[] = #[] := by
 have hc : a.eval (.const (.int .i64 m)) = .int .i64 m := rfl
 unfold execOp
 simp only [hop, hx, hc]
 constructor
 ·simp [go_sem]
 ·simp [go_sem]
theorem run_min {n m : Nat} (hop : o.op = .call ⟨.builtin .min, #[x, y], #[3, 3]⟩) (hx : a.eval x = .int .i64 n) (hy : a.eval y = .int .i64 m) (w : World) : (execOp a.eval o).run Tryz.prog w = .ok (.value (.int .i64 (min n m : Nat))) w /\ (execOp a.eval o).events Tryz.prog w #[] = #[] := by
 unfold execOp
 simp only [hop]
 have hx' : (#[x, y] : Array Operand).map a.eval = #[.int .i64 n, .int .i64 m] := by rw [<- hx, <- hy]; simp
 have e : (min (n : Int) (m : Int)) = ((min n m : Nat) : Int) := by omega
 constructor
 ·simp [go_sem, resolve, hx']
  exact e
 ·simp [go_sem, resolve, hx']
  rfl
theorem run_sliceTo {ad : Addr} {L C n : Nat} (hop : o.op = .slice 22 x none (some y) none) (hx : a.eval x = .slice (some ad) L C) (hy : a.eval y = .int .i64 n) (hn : n <= C) (w : World) : (execOp a.eval o).run Tryz.prog w = .ok (.value (.slice (some ad) n C)) w /\ (execOp a.eval o).events Tryz.prog w #[] = #[] := by
 unfold execOp
 simp only [hop, hx, hy, Option.map]
 constructor
 ·simp [go_sem, hn]
 ·simp [go_sem, Instr.sliceAt, Instr.slice, Instr.sliceBounds]
  rw [if_pos hn]
  unfold Instr.sliceBound
  simp [go_sem, hn]
theorem run_sliceFrom {b f L C n : Nat} (hop : o.op = .slice 22 x (some y) none none) (hx : a.eval x = .slice (some ⟨b, f, none⟩) L C) (hy : a.eval y = .int .i64 n) (hn : n <= L) (w : World) : (execOp a.eval o).run Tryz.prog w = .ok (.value (.slice (some ⟨b, if C = n then f else f + n, none⟩) (L - n) (C - n))) w /\ (execOp a.eval o).events Tryz.prog w #[] = #[] := by
 unfold execOp
 simp only [hop, hx, hy, Option.map]
 constructor
 ·simp [go_sem, hn]
  split <;> rfl
 ·simp [go_sem, Instr.sliceAt, Instr.slice, Instr.sliceBounds]
  rw [if_pos hn]
  unfold Instr.sliceBound
  simp [go_sem, hn]
theorem run_select {c st : Nat} {v : Value} (hop : o.op = .select #[⟨.tmp 17, some (.tmp 20), 22⟩, ⟨.tmp 21, none, 285⟩] true) (h1 : a.eval (.tmp 17) = .chan (some c)) (h2 : a.eval (.tmp 20) = v) (h3 : a.eval (.tmp 21) = .chan (some st)) (w : World) :
  (execOp a.eval o).run Tryz.prog w = .ok (.comm (selC c v (.slice none 0 0) st (.agg #[])) true .select) w /\ (execOp a.eval o).events Tryz.prog w #[] = #[] := by
 unfold execOp
 simp only [hop]
 have e1 : a.tmps[17]?.getD undef = .chan (some c) := by rw [<- h1]; simp [Act.eval]
 have e2 : a.tmps[20]?.getD undef = v := by rw [<- h2]; simp [Act.eval]
 have e3 : a.tmps[21]?.getD undef = .chan (some st) := by rw [<- h3]; simp [Act.eval]
 constructor
 ·simp [go_sem, e1, e2, e3, scase, rcase]
 ·simp [go_sem]
end
theorem opS0_0 : ∃ o, (cO pS0)[0]? = some o /\ o.op = .load 284 (.tmp 0) /\ o.dst = some 7 /\ o.guard = none := ⟨_, rfl, rfl, rfl, rfl⟩
theorem opS1_0 : ∃ o, (cO pS1)[0]? = some o /\ o.op = .load 3 (.tmp 1) /\ o.dst = some 8 /\ o.guard = none := ⟨_, rfl, rfl, rfl, rfl⟩
theorem opS1_1 : ∃ o, (cO pS1)[1]? = some o /\ o.op = .assign (.tmp 8) /\ o.dst = some 5 /\ o.guard = none := ⟨_, rfl, rfl, rfl, rfl⟩
theorem opS2_0 : ∃ o, (cO pS2)[0]? = some o /\ o.op = .load 22 (.tmp 2) /\ o.dst = some 9 /\ o.guard = none := ⟨_, rfl, rfl, rfl, rfl⟩
theorem opS2_1 : ∃ o, (cO pS2)[1]? = some o /\ o.op = .call ⟨.builtin .len, #[.tmp 9], #[22]⟩ /\ o.dst = some 10 /\ o.guard = none := ⟨_, rfl, rfl, rfl, rfl⟩
theorem opS2_2 : ∃ o, (cO pS2)[2]? = some o /\ o.op = .binOp .gtr 3 (.tmp 10) (.const (.int .i64 0)) 3 /\ o.dst = some 11 /\ o.guard = none := ⟨_, rfl, rfl, rfl, rfl⟩
theorem opS4_0 : ∃ o, (cO pS4)[0]? = some o /\ o.op = .move (.tmp 5) /\ o.dst = some 13 /\ o.guard = none := ⟨_, rfl, rfl, rfl, rfl⟩
theorem opS4_1 : ∃ o, (cO pS4)[1]? = some o /\ o.op = .load 22 (.tmp 2) /\ o.dst = some 14 /\ o.guard = none := ⟨_, rfl, rfl, rfl, rfl⟩
theorem opS4_2 : ∃ o, (cO pS4)[2]? = some o /\ o.op = .call ⟨.builtin .len, #[.tmp 14], #[22]⟩ /\ o.dst = some 15 /\ o.guard = none := ⟨_, rfl, rfl, rfl, rfl⟩
theorem opS4_3 : ∃ o, (cO pS4)[3]? = some o /\ o.op = .call ⟨.builtin .min, #[.tmp 13, .tmp 15], #[3, 3]⟩ /\ o.dst = some 16 /\ o.guard = none := ⟨_, rfl, rfl, rfl, rfl⟩
theorem opS4_4 : ∃ o, (cO pS4)[4]? = some o /\ o.op = .assign (.tmp 16) /\ o.dst = some 6 /\ o.guard = none := ⟨_, rfl, rfl, rfl, rfl⟩
theorem opS5_0 : ∃ o, (cO pS5)[0]? = some o /\ o.op = .load 284 (.tmp 0) /\ o.dst = some 17 /\ o.guard = none := ⟨_, rfl, rfl, rfl, rfl⟩
theorem opS6_0 : ∃ o, (cO pS6)[0]? = some o /\ o.op = .load 22 (.tmp 2) /\ o.dst = some 18 /\ o.guard = none := ⟨_, rfl, rfl, rfl, rfl⟩
theorem opS6_1 : ∃ o, (cO pS6)[1]? = some o /\ o.op = .move (.tmp 6) /\ o.dst = some 19 /\ o.guard = none := ⟨_, rfl, rfl, rfl, rfl⟩
theorem opS6_2 : ∃ o, (cO pS6)[2]? = some o /\ o.op = .slice 22 (.tmp 18) none (some (.tmp 19)) none /\ o.dst = some 20 /\ o.guard = none := ⟨_, rfl, rfl, rfl, rfl⟩
theorem opS7_0 : ∃ o, (cO pS7)[0]? = some o /\ o.op = .load 283 (.tmp 4) /\ o.dst = some 21 /\ o.guard = none := ⟨_, rfl, rfl, rfl, rfl⟩
theorem opS8_0 : ∃ o, (cO pS8)[0]? = some o /\ o.op = .select #[⟨.tmp 17, some (.tmp 20), 22⟩, ⟨.tmp 21, none, 285⟩] true /\ o.dst = some 22 /\ o.guard = none := ⟨_, rfl, rfl, rfl, rfl⟩
theorem opS8_1 : ∃ o, (cO pS8)[1]? = some o /\ o.op = .extract (.tmp 22) 0 /\ o.dst = some 23 /\ o.guard = none := ⟨_, rfl, rfl, rfl, rfl⟩
theorem opS8_2 : ∃ o, (cO pS8)[2]? = some o /\ o.op = .binOp .eql 3 (.tmp 23) (.const (.int .i64 0)) 3 /\ o.dst = some 24 /\ o.guard = none := ⟨_, rfl, rfl, rfl, rfl⟩
theorem opS8_3 : ∃ o, (cO pS8)[3]? = some o /\ o.op = .binOp .eql 3 (.tmp 23) (.const (.int .i64 1)) 3 /\ o.dst = some 25 /\ o.guard = none := ⟨_, rfl, rfl, rfl, rfl⟩
theorem opS9_0 : ∃ o, (cO pS9)[0]? = some o /\ o.op = .load 22 (.tmp 2) /\ o.dst = some 26 /\ o.guard = none := ⟨_, rfl, rfl, rfl, rfl⟩
theorem opS9_1 : ∃ o, (cO pS9)[1]? = some o /\ o.op = .move (.tmp 6) /\ o.dst = some 27 /\ o.guard = none := ⟨_, rfl, rfl, rfl, rfl⟩
theorem opS9_2 : ∃ o, (cO pS9)[2]? = some o /\ o.op = .slice 22 (.tmp 26) (some (.tmp 27)) none none /\ o.dst = some 28 /\ o.guard = none := ⟨_, rfl, rfl, rfl, rfl⟩
theorem opS9_3 : ∃ o, (cO pS9)[3]? = some o /\ o.op = .store 22 (.tmp 2) (.tmp 28) /\ o.dst = none /\ o.guard = none := ⟨_, rfl, rfl, rfl, rfl⟩
theorem opS3_0 : ∃ o, (cO pS3)[0]? = some o /\ o.op = .load 3 (.tmp 3) /\ o.dst = some 12 /\ o.guard = none := ⟨_, rfl, rfl, rfl, rfl⟩
theorem opS3_1 : ∃ o, (cO pS3)[1]? = some o /\ o.op = .assign (.tmp 12) /\ o.dst = some 5 /\ o.guard = none := ⟨_, rfl, rfl, rfl, rfl⟩
theorem opS0_1 : ∃ o, (cO pS0)[1]? = some o /\ o.op = .defer ⟨.builtin .close, #[.tmp 7], #[284]⟩ /\ o.dst = none /\ o.guard = none /\ o.type = 0 := ⟨_, rfl, rfl, rfl, rfl, rfl⟩
theorem lsS0 : List.range (cO pS0).size = [0, 1] := by kernel_rfl
theorem lsS1 : List.range (cO pS1).size = [0, 1] := by kernel_rfl
theorem lsS2 : List.range (cO pS2).size = [0, 1, 2] := by kernel_rfl
theorem lsS3 : List.range (cO pS3).size = [0, 1] := by kernel_rfl
theorem lsS4 : List.range (cO pS4).size = [0, 1, 2, 3, 4] := by kernel_rfl
theorem lsS5 : List.range (cO pS5).size = [0] := by kernel_rfl
theorem lsS6 : List.range (cO pS6).size = [0, 1, 2] := by kernel_rfl
theorem lsS7 : List.range (cO pS7).size = [0] := by kernel_rfl
theorem lsS8 : List.range (cO pS8).size = [0, 1, 2, 3] := by kernel_rfl
theorem lsS9 : List.range (cO pS9).size = [0, 1, 2, 3] := by kernel_rfl
section
variable {a : Act} {o : Oper} {x y : Operand}
theorem run_loadCh {c oc : Nat} (hop : o.op = .load 284 x) (hx : a.eval x = .pointer (some ⟨oc, 0, none⟩)) (w : World) (hw : w.cell? ⟨oc, 0, none⟩ = some (.chan (some c))) : (execOp a.eval o).run Tryz.prog w = .ok (.value (.chan (some c))) w /\ (execOp a.eval o).events Tryz.prog w #[] = #[⟨.cell ⟨oc, 0, none⟩, false, false⟩] := by
 unfold execOp
 simp only [hop, hx]
 constructor
 ·simp [go_sem, hw]
 ·simp [go_sem]
  rw [hw]
  rfl
theorem run_loadRc {c oc : Nat} (hop : o.op = .load 283 x) (hx : a.eval x = .pointer (some ⟨oc, 0, none⟩)) (w : World) (hw : w.cell? ⟨oc, 0, none⟩ = some (.chan (some c))) : (execOp a.eval o).run Tryz.prog w = .ok (.value (.chan (some c))) w /\ (execOp a.eval o).events Tryz.prog w #[] = #[⟨.cell ⟨oc, 0, none⟩, false, false⟩] := by
 unfold execOp
 simp only [hop, hx]
 constructor
 ·simp [go_sem, hw]
 ·simp [go_sem]
  rw [hw]
  rfl
theorem run_loadI {n : Int} {oc : Nat} (hop : o.op = .load 3 x) (hx : a.eval x = .pointer (some ⟨oc, 0, none⟩)) (w : World) (hw : w.cell? ⟨oc, 0, none⟩ = some (.int .i64 n)) : (execOp a.eval o).run Tryz.prog w = .ok (.value (.int .i64 n)) w /\ (execOp a.eval o).events Tryz.prog w #[] = #[⟨.cell ⟨oc, 0, none⟩, false, false⟩] := by
 unfold execOp
 simp only [hop, hx]
 constructor
 ·simp [go_sem, hw]
 ·simp [go_sem]
  rw [hw]
  rfl
theorem run_loadS {b : Option Addr} {l c : Nat} {oc : Nat} (hop : o.op = .load 22 x) (hx : a.eval x = .pointer (some ⟨oc, 0, none⟩)) (w : World) (hw : w.cell? ⟨oc, 0, none⟩ = some (.slice b l c)) : (execOp a.eval o).run Tryz.prog w = .ok (.value (.slice b l c)) w /\ (execOp a.eval o).events Tryz.prog w #[] = #[⟨.cell ⟨oc, 0, none⟩, false, false⟩] := by
 unfold execOp
 simp only [hop, hx]
 constructor
 ·simp [go_sem, hw]
 ·simp [go_sem]
  rw [hw]
  rfl
theorem run_storeS {b : Option Addr} {l c : Nat} {oc : Nat} (hop : o.op = .store 22 x y) (hx : a.eval x = .pointer (some ⟨oc, 0, none⟩)) (hy : a.eval y = .slice b l c) (w : World) (u : Value) (hw : w.cell? ⟨oc, 0, none⟩ = some u) (hf : w.frozen? ⟨oc, 0, none⟩ = false) : (execOp a.eval o).run Tryz.prog w = .ok .skip (w.setCell ⟨oc, 0, none⟩ (.slice b l c)) /\ (execOp a.eval o).events Tryz.prog w #[] = #[⟨.cell ⟨oc, 0, none⟩, true, false⟩] := by
 unfold execOp
 simp only [hop, hx, hy]
 constructor
 ·simp [go_sem, hw, hf]
 ·simp [go_sem]
  rw [events_store Tryz.prog w #[] ⟨oc, 0, none⟩ (.slice b l c) .plain rfl, hw, hf]
  rfl
end
end
section
open Go Go.Conc Go.RowKit
def stU (off len cap fst rt : Nat) : Nat -> Nat × Nat × Nat
 | 0 => (off, len, cap)
 | j + 1 => let q := stU off len cap fst rt j
  let n := min (if j = 0 then fst else rt) q.2.1
  (if q.2.2 = n then q.1 else q.1 + n, q.2.1 - n, q.2.2 - n)
section
variable (off len cap fst rt : Nat)
def oU (j : Nat) : Nat := (stU off len cap fst rt j).1
def lU (j : Nat) : Nat := (stU off len cap fst rt j).2.1
def cU (j : Nat) : Nat := (stU off len cap fst rt j).2.2
def roomU (j : Nat) : Nat := if j = 0 then fst else rt
def nU (j : Nat) : Nat := min (roomU fst rt j) (lU off len cap fst rt j)
theorem lU_le (h : len <= cap) : ∀ j, lU off len cap fst rt j <= cU off len cap fst rt j
 | 0 => h
 | j + 1 => by
  have := lU_le h j
  show (stU off len cap fst rt j).2.1 - _ <= (stU off len cap fst rt j).2.2 - _
  unfold lU cU at this
  omega
theorem oU_succ (j : Nat) : oU off len cap fst rt (j + 1) = if cU off len cap fst rt j = nU off len cap fst rt j then oU off len cap fst rt j else oU off len cap fst rt j + nU off len cap fst rt j := rfl
theorem lU_succ (j : Nat) : lU off len cap fst rt (j + 1) = lU off len cap fst rt j - nU off len cap fst rt j := rfl
end
def valU (ib off len cap fst rt j : Nat) : Value := .slice (some ⟨ib, oU off len cap fst rt j, none⟩) (nU off len cap fst rt j) (cU off len cap fst rt j)
def adU (a0 : Option Addr) (ib off len cap fst rt j : Nat) : Option Addr := if j = 0 then a0 else some ⟨ib, oU off len cap fst rt j, none⟩
theorem adU_is {a0 : Option Addr} {ib off len cap fst rt j : Nat} (h0 : 0 < len -> a0 = some ⟨ib, off, none⟩) (h : 0 < lU off len cap fst rt j) : adU a0 ib off len cap fst rt j = some ⟨ib, oU off len cap fst rt j, none⟩ := by
 unfold adU
 split
 ·rename_i hj
  subst hj
  exact h0 h
 ·rfl
def dcloseU (c : Nat) : Deferred := ⟨.builtin .close #[284] 0 #[false], #[.chan (some c)]⟩
def dgoU (oc fb bb rb sb : Nat) : Deferred := ⟨.fn (.func 230) #[.pointer (some ⟨oc, 0, none⟩), .pointer (some ⟨fb, 0, none⟩), .pointer (some ⟨bb, 0, none⟩), .pointer (some ⟨rb, 0, none⟩), .pointer (some ⟨sb, 0, none⟩)], #[]⟩
structure WU (c st oc fb bb rb sb fst rt : Nat) (sl : Value) (O : BSet) (w : World) : Prop where
 ofb : O fb
 obb : O bb
 orb : O rb
 osb : O sb
 co : w.cell? ⟨oc, 0, none⟩ = some (.chan (some c))
 cf : w.cell? ⟨fb, 0, none⟩ = some (.int .i64 fst)
 cb : w.cell? ⟨bb, 0, none⟩ = some sl
 fz : w.frozen? ⟨bb, 0, none⟩ = false
 cr : w.cell? ⟨rb, 0, none⟩ = some (.int .i64 rt)
 cs : w.cell? ⟨sb, 0, none⟩ = some (.chan (some st))
theorem heap_frozen {w w1 : World} {a : Addr} (h : w1.heap[a.block]? = w.heap[a.block]?) : w1.frozen? a = w.frozen? a := World.frozen?_of_block h
section
variable {S : BSet} {c st oc fb bb rb sb fst rt : Nat} {sl : Value}
theorem WU.stab (so : S oc) : Stab S (WU c st oc fb bb rb sb fst rt sl) := fun O w w1 h R =>
 ⟨h.ofb, h.obb, h.orb, h.osb, by rw [heap_cell (R.keep oc (.inr so))]; exact h.co, by rw [heap_cell (R.keep fb (.inl h.ofb))]; exact h.cf, by rw [heap_cell (R.keep bb (.inl h.obb))]; exact h.cb, by rw [heap_frozen (R.keep bb (.inl h.obb))]; exact h.fz, by rw [heap_cell (R.keep rb (.inl h.orb))]; exact h.cr, by rw [heap_cell (R.keep sb (.inl h.osb))]; exact h.cs⟩
theorem WU.set (ne : bb ≠ oc /\ bb ≠ fb /\ bb ≠ rb /\ bb ≠ sb) (sl' : Value) {O : BSet} {w : World} (h : WU c st oc fb bb rb sb fst rt sl O w) : WU c st oc fb bb rb sb fst rt sl' O (w.setCell ⟨bb, 0, none⟩ sl') := by
 obtain ⟨n1, n2, n3, n4⟩ := ne
 have e : ∀ x : Nat, bb ≠ x -> (w.setCell ⟨bb, 0, none⟩ sl').cell? ⟨x, 0, none⟩ = w.cell? ⟨x, 0, none⟩ := fun x hx => World.cell?_setCell_other w _ _ _ (fun e => hx (by cases e; rfl))
 exact ⟨h.ofb, h.obb, h.orb, h.osb, by rw [e _ n1]; exact h.co, by rw [e _ n2]; exact h.cf, World.cell?_setCell_same _ _ _ h.cb, by rw [World.frozen?_setCell]; exact h.fz, by rw [e _ n3]; exact h.cr, by rw [e _ n4]; exact h.cs⟩
theorem kindS : (baseD 230).kind ≠ .early := by intro h; cases h
theorem head_U {n j ib off len cap : Nat} {a0 : Option Addr} (so : S oc) {room : Value} {k : List Item} (x6 x7 x8 x9 x10 x11 x12 x13 x14 x15 x16 x17 x18 x19 x20 x21 x22 x23 x24 x25 x26 x27 x28 : Value)
  (h : ∀ x6 x7 x8 x9 x10 x11 x12 x13 x14 x15 x16 x17 x18 x19 x20 x21 x22 x23 x24 x25 x26 x27 x28 : Value, All (PlanU Tryz.prog S c st n (.slice none 0 0) (.agg #[]) (valU ib off len cap fst rt) j) (WU c st oc fb bb rb sb fst rt (.slice (adU a0 ib off len cap fst rt j) (lU off len cap fst rt j) (cU off len cap fst rt j))) (G ((baseD 230).at ⟨#[.pointer (some ⟨oc, 0, none⟩), .pointer (some ⟨fb, 0, none⟩), .pointer (some ⟨bb, 0, none⟩), .pointer (some ⟨rb, 0, none⟩), .pointer (some ⟨sb, 0, none⟩), room, x6, x7, x8, x9, x10, x11, x12, x13, x14, x15, x16, x17, x18, x19, x20, x21, x22, x23, x24, x25, x26, x27, x28], [dcloseU c]⟩ (.code (if decide (0 < (lU off len cap fst rt j : Int)) = true then .skip else .exit 0) :: .code (.seq (.block 1 BSn) pS3) :: k)) [bornF Tryz.prog])) :
  All (PlanU Tryz.prog S c st n (.slice none 0 0) (.agg #[]) (valU ib off len cap fst rt) j) (WU c st oc fb bb rb sb fst rt (.slice (adU a0 ib off len cap fst rt j) (lU off len cap fst rt j) (cU off len cap fst rt j))) (G ((baseD 230).at ⟨#[.pointer (some ⟨oc, 0, none⟩), .pointer (some ⟨fb, 0, none⟩), .pointer (some ⟨bb, 0, none⟩), .pointer (some ⟨rb, 0, none⟩), .pointer (some ⟨sb, 0, none⟩), room, x6, x7, x8, x9, x10, x11, x12, x13, x14, x15, x16, x17, x18, x19, x20, x21, x22, x23, x24, x25, x26, x27, x28], [dcloseU c]⟩ (.code LSn :: k)) [bornF Tryz.prog]) := by
  have hX := PlanU.closed (P := Tryz.prog) (S := S) (c := c) (st := st) (n := n) (z := .slice none 0 0) (z2 := .agg #[]) (vals := valU ib off len cap fst rt) j
  have hst := WU.stab (c := c) (st := st) (fb := fb) (bb := bb) (rb := rb) (sb := sb) (fst := fst) (rt := rt) (sl := .slice (adU a0 ib off len cap fst rt j) (lU off len cap fst rt j) (cU off len cap fst rt j)) so
  refine All.ctl hX hst (fun w => step_code LSn_is) ?_
  refine All.ctl hX hst (fun w => stepG_seq) ?_
  refine All.ctl hX hst (fun w => step_reg pS2_is lsS2) ?_
  obtain ⟨o, h1, h2, h3, h4⟩ := opS2_0
  refine All.load hX hst (.slice (adU a0 ib off len cap fst rt j) (lU off len cap fst rt j) (cU off len cap fst rt j)) ⟨bb, 0, none⟩ h1 (wanted_none h4 _) kindS (fun w hw => run_loadS h2 rfl w hw) (fun O w hi => ⟨hi.cb, .inl hi.obb⟩) ?_
  rw [h3]
  clear h1 h2 h3 h4 o
  obtain ⟨o, h1, h2, h3, h4⟩ := opS2_1
  refine All.val hX hst (.int .i64 (lU off len cap fst rt j)) h1 (wanted_none h4 _) kindS (fun w => (run_len h2 rfl w).1) (fun w => (run_len h2 rfl w).2) ?_
  rw [h3]
  clear h1 h2 h3 h4 o
  obtain ⟨o, h1, h2, h3, h4⟩ := opS2_2
  refine All.val hX hst (.bool (decide (0 < (lU off len cap fst rt j : Int)))) h1 (wanted_none h4 _) kindS (fun w => (run_gtr h2 rfl w).1) (fun w => (run_gtr h2 rfl w).2) ?_
  rw [h3]
  clear h1 h2 h3 h4 o
  refine All.ctl hX hst (fun w => stepG_region_end) ?_
  refine All.ctl hX hst (fun w => stepG_cond (t := decide (0 < (lU off len cap fst rt j : Int))) rfl) ?_
  exact h _ _ _ _ _ _ _ _ _ _ _ _ _ _ _ _ _ _ _ _ _ _ _
end
end
section
open Go Go.Conc Go.RowKit
theorem close_stepU {c : Nat} {T : Array Value} {todo : List Item} {cs : List Frame} {w : World} {buf : Array Value} {s r cp : Nat} {tm : Bool} (hc : w.heap[c]? = some (.chan cp buf false s r tm)) :
  stepG Tryz.prog false (G { (baseD 230).at ⟨T, [dcloseU c]⟩ todo with mode := .returning } cs) w = .go (G { (baseD 230).at ⟨T, []⟩ todo with mode := .returning } cs) (w.setChan c cp buf true s r tm) #[⟨.obj c, false, true⟩, ⟨.obj c, true, true⟩] := by
 have hr := run_close_open (P := Tryz.prog) #[284] 0 hc
 have he := events_close_open (P := Tryz.prog) (es := #[]) #[284] 0 hc
 have hq : (Tryz.prog.funcs[230]?).any (·.norace) = false := by kernel_rfl
 have h1 : (builtin .close #[284] 0 #[false] #[.chan (some c)]).run Tryz.prog w = .ok (.value (.tuple #[])) (w.setChan c cp buf true s r tm) := by
  simp [go_sem, hr, World.setChan]
 have h2 : (builtin .close #[284] 0 #[false] #[.chan (some c)]).events Tryz.prog w #[] = #[⟨.obj c, false, true⟩, ⟨.obj c, true, true⟩] := by
  simp [go_sem, he]
 have h3 : seen Tryz.prog 230 #[⟨.obj c, false, true⟩, ⟨.obj c, true, true⟩] = #[⟨.obj c, false, true⟩, ⟨.obj c, true, true⟩] := seen_eq hq (by intro e he f; simp at he; rcases he with rfl | rfl <;> simp)
 simp [G, stepG, unwind, callDeferred, Frame.at, dcloseU, invoke, baseD, GStep.after, h1, h2, h3]
theorem quitsU (T : Array Value) (todo : List Item) : QuitsD Tryz.prog 2 0 (G { (baseD 230).at ⟨T, []⟩ todo with mode := .returning } [bornF Tryz.prog]) := by
 have hf := Tryz.func230
 have hr : Tryz.f230.results = #[] := rfl
 refine QuitsD.ctl (g' := G (bornF Tryz.prog) []) rfl (fun w => ?_) (QuitsD.ctl (g' := { frame := bornF Tryz.prog, callers := [], status := .finished, dying := none }) rfl (fun w => ?_) ⟨rfl, rfl⟩)
 ·have h1 := results_none hr T Tryz.prog w
  have h2 := events_results_none (P := Tryz.prog) (w := w) hr T #[]
  simp [G, stepG, unwind, doReturn, Frame.at, baseD, hf, h1, h2, GStep.after, seen_none, bornF, goexitEntry]
 ·simp [G, stepG, unwind, bornF, goexitEntry, Frame.catches]
  rfl
theorem born_stepU (oc fb bb rb sb : Nat) (w : World) : stepG Tryz.prog false (born Tryz.prog (dgoU oc fb bb rb sb)) w = .go (G ((baseD 230).at ⟨#[.pointer (some ⟨oc, 0, none⟩), .pointer (some ⟨fb, 0, none⟩), .pointer (some ⟨bb, 0, none⟩), .pointer (some ⟨rb, 0, none⟩), .pointer (some ⟨sb, 0, none⟩)] ++ Array.replicate 24 undef, []⟩ [.code bSn]) [bornF Tryz.prog]) w #[] := by
 have hf := Tryz.func230
 have hb : Tryz.f230.body = some bSn := by unfold bSn; rfl
 have hn : (Tryz.f230.name == "runtime.NumGoroutine") = false := by rfl
 have h1 : ¬ Tryz.f230.name = "runtime.NumGoroutine" := by simpa using hn
 simp [born, G, stepG, unwind, callDeferred, dgoU, invoke, callFunc, hf, h1, hb, GStep.after, seen_none, bornF, Frame.enter, Frame.at, baseD]
theorem run_deferU {P : Program} {a : Act} {o : Oper} {c : Nat} (hop : o.op = .defer ⟨.builtin .close, #[.tmp 7], #[284]⟩) (ht : o.type = 0) (hx : a.eval (.tmp 7) = .chan (some c)) (w : World) : (execOp a.eval o).run P w = .ok (.defer (dcloseU c)) w /\ (execOp a.eval o).events P w #[] = #[] := by
 unfold execOp
 simp only [hop, ht, resolve]
 have : (#[(.tmp 7 : Operand)]).map a.eval = #[.chan (some c)] := by rw [<- hx]; simp
 rw [this]
 constructor
 ·simp [dcloseU]
 ·simp
section
variable {S : BSet} {c st oc fb bb rb sb fst rt n ib off len cap : Nat} {a0 : Option Addr}
set_option maxHeartbeats 4000000 in
theorem round_U (so : S oc) (ne : bb ≠ oc /\ bb ≠ fb /\ bb ≠ rb /\ bb ≠ sb) (h0 : 0 < len -> a0 = some ⟨ib, off, none⟩) (hcap : len <= cap) {j : Nat} (hj : j < n) (hl : 0 < lU off len cap fst rt j) {k : List Item} (x6 x7 x8 x9 x10 x11 x12 x13 x14 x15 x16 x17 x18 x19 x20 x21 x22 x23 x24 x25 x26 x27 x28 : Value)
  (h : ∀ x6 x7 x8 x9 x10 x11 x12 x13 x14 x15 x16 x17 x18 x19 x20 x21 x22 x23 x24 x25 x26 x27 x28 : Value, All (PlanU Tryz.prog S c st n (.slice none 0 0) (.agg #[]) (valU ib off len cap fst rt) (j + 1)) (WU c st oc fb bb rb sb fst rt (.slice (adU a0 ib off len cap fst rt (j + 1)) (lU off len cap fst rt (j + 1)) (cU off len cap fst rt (j + 1)))) (G ((baseD 230).at ⟨#[.pointer (some ⟨oc, 0, none⟩), .pointer (some ⟨fb, 0, none⟩), .pointer (some ⟨bb, 0, none⟩), .pointer (some ⟨rb, 0, none⟩), .pointer (some ⟨sb, 0, none⟩), .int .i64 rt, x6, x7, x8, x9, x10, x11, x12, x13, x14, x15, x16, x17, x18, x19, x20, x21, x22, x23, x24, x25, x26, x27, x28], [dcloseU c]⟩ k) [bornF Tryz.prog])) :
  All (PlanU Tryz.prog S c st n (.slice none 0 0) (.agg #[]) (valU ib off len cap fst rt) j) (WU c st oc fb bb rb sb fst rt (.slice (adU a0 ib off len cap fst rt j) (lU off len cap fst rt j) (cU off len cap fst rt j))) (G ((baseD 230).at ⟨#[.pointer (some ⟨oc, 0, none⟩), .pointer (some ⟨fb, 0, none⟩), .pointer (some ⟨bb, 0, none⟩), .pointer (some ⟨rb, 0, none⟩), .pointer (some ⟨sb, 0, none⟩), .int .i64 (roomU fst rt j), x6, x7, x8, x9, x10, x11, x12, x13, x14, x15, x16, x17, x18, x19, x20, x21, x22, x23, x24, x25, x26, x27, x28], [dcloseU c]⟩ (.code (.seq (.block 1 BSn) pS3) :: k)) [bornF Tryz.prog]) := by
  have hX := PlanU.closed (P := Tryz.prog) (S := S) (c := c) (st := st) (n := n) (z := .slice none 0 0) (z2 := .agg #[]) (vals := valU ib off len cap fst rt) j
  rw [adU_is h0 hl]
  have hst := WU.stab (c := c) (st := st) (fb := fb) (bb := bb) (rb := rb) (sb := sb) (fst := fst) (rt := rt) (sl := .slice (some ⟨ib, oU off len cap fst rt j, none⟩) (lU off len cap fst rt j) (cU off len cap fst rt j)) so
  refine All.ctl hX hst (fun w => stepG_seq) ?_
  refine All.ctl hX hst (fun w => stepG_block) ?_
  refine All.ctl hX hst (fun w => step_code BSn_is) ?_
  refine All.ctl hX hst (fun w => step_reg pS4_is lsS4) ?_
  obtain ⟨o, h1, h2, h3, h4⟩ := opS4_0
  refine All.val hX hst (.int .i64 (roomU fst rt j)) h1 (wanted_none h4 _) kindS (fun w => (run_move h2 w).1) (fun w => (run_move h2 w).2) ?_
  rw [h3]
  simp only [Act.put, List.setIfInBounds_toArray, List.set_cons_zero, List.set_cons_succ]
  clear h1 h2 h3 h4 o
  obtain ⟨o, h1, h2, h3, h4⟩ := opS4_1
  refine All.load hX hst (.slice (some ⟨ib, oU off len cap fst rt j, none⟩) (lU off len cap fst rt j) (cU off len cap fst rt j)) ⟨bb, 0, none⟩ h1 (wanted_none h4 _) kindS (fun w hw => run_loadS h2 rfl w hw) (fun O w hi => ⟨hi.cb, .inl hi.obb⟩) ?_
  rw [h3]
  simp only [Act.put, List.setIfInBounds_toArray, List.set_cons_zero, List.set_cons_succ]
  clear h1 h2 h3 h4 o
  obtain ⟨o, h1, h2, h3, h4⟩ := opS4_2
  refine All.val hX hst (.int .i64 (lU off len cap fst rt j)) h1 (wanted_none h4 _) kindS (fun w => (run_len h2 rfl w).1) (fun w => (run_len h2 rfl w).2) ?_
  rw [h3]
  simp only [Act.put, List.setIfInBounds_toArray, List.set_cons_zero, List.set_cons_succ]
  clear h1 h2 h3 h4 o
  obtain ⟨o, h1, h2, h3, h4⟩ := opS4_3
  refine All.val hX hst (.int .i64 (nU off len cap fst rt j : Nat)) h1 (wanted_none h4 _) kindS (fun w => (run_min h2 rfl rfl w).1) (fun w => (run_min h2 rfl rfl w).2) ?_
  rw [h3]
  simp only [Act.put, List.setIfInBounds_toArray, List.set_cons_zero, List.set_cons_succ]
  clear h1 h2 h3 h4 o
  obtain ⟨o, h1, h2, h3, h4⟩ := opS4_4
  refine All.val hX hst (.int .i64 (nU off len cap fst rt j : Nat)) h1 (wanted_none h4 _) kindS (fun w => (run_assign h2 w).1) (fun w => (run_assign h2 w).2) ?_
  rw [h3]
  simp only [Act.put, List.setIfInBounds_toArray, List.set_cons_zero, List.set_cons_succ]
  clear h1 h2 h3 h4 o
  refine All.ctl hX hst (fun w => stepG_region_end) ?_
  refine All.ctl hX hst (fun w => stepG_seq) ?_
  refine All.ctl hX hst (fun w => stepG_seq) ?_
  refine All.ctl hX hst (fun w => stepG_seq) ?_
  refine All.ctl hX hst (fun w => step_reg pS5_is lsS5) ?_
  obtain ⟨o, h1, h2, h3, h4⟩ := opS5_0
  refine All.load hX hst (.chan (some c)) ⟨oc, 0, none⟩ h1 (wanted_none h4 _) kindS (fun w hw => run_loadCh h2 rfl w hw) (fun O w hi => ⟨hi.co, .inr so⟩) ?_
  rw [h3]
  simp only [Act.put, List.setIfInBounds_toArray, List.set_cons_zero, List.set_cons_succ]
  clear h1 h2 h3 h4 o
  refine All.ctl hX hst (fun w => stepG_region_end) ?_
  refine All.ctl hX hst (fun w => step_reg pS6_is lsS6) ?_
  obtain ⟨o, h1, h2, h3, h4⟩ := opS6_0
  refine All.load hX hst (.slice (some ⟨ib, oU off len cap fst rt j, none⟩) (lU off len cap fst rt j) (cU off len cap fst rt j)) ⟨bb, 0, none⟩ h1 (wanted_none h4 _) kindS (fun w hw => run_loadS h2 rfl w hw) (fun O w hi => ⟨hi.cb, .inl hi.obb⟩) ?_
  rw [h3]
  simp only [Act.put, List.setIfInBounds_toArray, List.set_cons_zero, List.set_cons_succ]
  clear h1 h2 h3 h4 o
  obtain ⟨o, h1, h2, h3, h4⟩ := opS6_1
  refine All.val hX hst (.int .i64 (nU off len cap fst rt j : Nat)) h1 (wanted_none h4 _) kindS (fun w => (run_move h2 w).1) (fun w => (run_move h2 w).2) ?_
  rw [h3]
  simp only [Act.put, List.setIfInBounds_toArray, List.set_cons_zero, List.set_cons_succ]
  clear h1 h2 h3 h4 o
  have hle : nU off len cap fst rt j <= cU off len cap fst rt j := Nat.le_trans (Nat.min_le_right _ _) (lU_le off len cap fst rt hcap j)
  obtain ⟨o, h1, h2, h3, h4⟩ := opS6_2
  refine All.val hX hst (valU ib off len cap fst rt j) h1 (wanted_none h4 _) kindS (fun w => (run_sliceTo h2 rfl rfl hle w).1) (fun w => (run_sliceTo h2 rfl rfl hle w).2) ?_
  rw [h3]
  simp only [Act.put, List.setIfInBounds_toArray, List.set_cons_zero, List.set_cons_succ]
  clear h1 h2 h3 h4 o
  refine All.ctl hX hst (fun w => stepG_region_end) ?_
  refine All.ctl hX hst (fun w => step_reg pS7_is lsS7) ?_
  obtain ⟨o, h1, h2, h3, h4⟩ := opS7_0
  refine All.load hX hst (.chan (some st)) ⟨sb, 0, none⟩ h1 (wanted_none h4 _) kindS (fun w hw => run_loadRc h2 rfl w hw) (fun O w hi => ⟨hi.cs, .inl hi.osb⟩) ?_
  rw [h3]
  simp only [Act.put, List.setIfInBounds_toArray, List.set_cons_zero, List.set_cons_succ]
  clear h1 h2 h3 h4 o
  refine All.ctl hX hst (fun w => stepG_region_end) ?_
  refine All.ctl hX hst (fun w => stepG_seq) ?_
  refine All.ctl hX hst (fun w => step_reg pS8_is lsS8) ?_
  obtain ⟨o, h1, h2, h3, h4⟩ := opS8_0
  intro O w hi
  refine .send rfl hj (fun w1 _ => ?_) ?_
  ·refine (stepG_comm h1 (wanted_none h4 _) kindS (run_select h2 rfl rfl rfl w1).1).trans ?_
   unfold listed
   rw [(run_select h2 (c := c) (st := st) rfl rfl rfl w1).2, seen_none]
   rfl
  rw [served_at _ h1, h3]
  simp only [Act.put, List.setIfInBounds_toArray, List.set_cons_zero, List.set_cons_succ]
  clear h1 h2 h3 h4 o
  revert O w
  have hX := PlanU.closed (P := Tryz.prog) (S := S) (c := c) (st := st) (n := n) (z := .slice none 0 0) (z2 := .agg #[]) (vals := valU ib off len cap fst rt) (j + 1)
  show All (PlanU Tryz.prog S c st n (.slice none 0 0) (.agg #[]) (valU ib off len cap fst rt) (j + 1)) _ _
  obtain ⟨o, h1, h2, h3, h4⟩ := opS8_1
  refine All.val hX hst (.int .i64 0) h1 (wanted_none h4 _) kindS (fun w => (run_extract h2 (c := #[goInt 0, .bool false, .agg #[]]) rfl rfl w).1) (fun w => (run_extract h2 (c := #[goInt 0, .bool false, .agg #[]]) rfl rfl w).2) ?_
  rw [h3]
  simp only [Act.put, List.setIfInBounds_toArray, List.set_cons_zero, List.set_cons_succ]
  clear h1 h2 h3 h4 o
  obtain ⟨o, h1, h2, h3, h4⟩ := opS8_2
  refine All.val hX hst (.bool true) h1 (wanted_none h4 _) kindS (fun w => (run_eqlK 0 h2 (n := 0) rfl w).1) (fun w => (run_eqlK 0 h2 (n := 0) rfl w).2) ?_
  rw [h3]
  simp only [Act.put, List.setIfInBounds_toArray, List.set_cons_zero, List.set_cons_succ]
  clear h1 h2 h3 h4 o
  obtain ⟨o, h1, h2, h3, h4⟩ := opS8_3
  refine All.val hX hst (.bool false) h1 (wanted_none h4 _) kindS (fun w => (run_eqlK 1 h2 (n := 0) rfl w).1) (fun w => (run_eqlK 1 h2 (n := 0) rfl w).2) ?_
  rw [h3]
  simp only [Act.put, List.setIfInBounds_toArray, List.set_cons_zero, List.set_cons_succ]
  clear h1 h2 h3 h4 o
  refine All.ctl hX hst (fun w => stepG_region_end) ?_
  refine All.ctl hX hst (fun w => stepG_block) ?_
  refine All.ctl hX hst (fun w => stepG_cond (t := true) rfl) ?_
  rw [if_pos rfl]
  refine All.ctl hX hst (fun w => step_reg pS9_is lsS9) ?_
  obtain ⟨o, h1, h2, h3, h4⟩ := opS9_0
  refine All.load hX hst (.slice (some ⟨ib, oU off len cap fst rt j, none⟩) (lU off len cap fst rt j) (cU off len cap fst rt j)) ⟨bb, 0, none⟩ h1 (wanted_none h4 _) kindS (fun w hw => run_loadS h2 rfl w hw) (fun O w hi => ⟨hi.cb, .inl hi.obb⟩) ?_
  rw [h3]
  simp only [Act.put, List.setIfInBounds_toArray, List.set_cons_zero, List.set_cons_succ]
  clear h1 h2 h3 h4 o
  obtain ⟨o, h1, h2, h3, h4⟩ := opS9_1
  refine All.val hX hst (.int .i64 (nU off len cap fst rt j : Nat)) h1 (wanted_none h4 _) kindS (fun w => (run_move h2 w).1) (fun w => (run_move h2 w).2) ?_
  rw [h3]
  simp only [Act.put, List.setIfInBounds_toArray, List.set_cons_zero, List.set_cons_succ]
  clear h1 h2 h3 h4 o
  have hle2 : nU off len cap fst rt j <= lU off len cap fst rt j := Nat.min_le_right _ _
  obtain ⟨o, h1, h2, h3, h4⟩ := opS9_2
  refine All.val hX hst (.slice (some ⟨ib, oU off len cap fst rt (j + 1), none⟩) (lU off len cap fst rt (j + 1)) (cU off len cap fst rt (j + 1))) h1 (wanted_none h4 _) kindS (fun w => (run_sliceFrom h2 rfl rfl hle2 w).1) (fun w => (run_sliceFrom h2 rfl rfl hle2 w).2) ?_
  rw [h3]
  simp only [Act.put, List.setIfInBounds_toArray, List.set_cons_zero, List.set_cons_succ]
  clear h1 h2 h3 h4 o
  obtain ⟨o, h1, h2, h3, h4⟩ := opS9_3
  have hst2 := WU.stab (c := c) (st := st) (fb := fb) (bb := bb) (rb := rb) (sb := sb) (fst := fst) (rt := rt) (sl := .slice (some ⟨ib, oU off len cap fst rt (j + 1), none⟩) (lU off len cap fst rt (j + 1)) (cU off len cap fst rt (j + 1))) so
  refine All.store (I' := WU c st oc fb bb rb sb fst rt (.slice (some ⟨ib, oU off len cap fst rt (j + 1), none⟩) (lU off len cap fst rt (j + 1)) (cU off len cap fst rt (j + 1)))) hX hst (.slice (some ⟨ib, oU off len cap fst rt (j + 1), none⟩) (lU off len cap fst rt (j + 1)) (cU off len cap fst rt (j + 1))) ⟨bb, 0, none⟩ h1 (wanted_none h4 _) kindS (fun w u hw hf => run_storeS h2 rfl rfl w u hw hf) (fun O w hi => ⟨⟨_, hi.cb⟩, hi.fz, hi.obb⟩) (fun O w hi => hi.set ne _) ?_
  rw [h3]
  simp only [Act.put]
  clear h1 h2 h3 h4 o
  clear hst
  have hst := hst2
  refine All.ctl hX hst (fun w => stepG_region_end) ?_
  refine All.ctl hX hst (fun w => stepG_inBlock) ?_
  refine All.ctl hX hst (fun w => stepG_inBlock) ?_
  refine All.ctl hX hst (fun w => step_reg pS3_is lsS3) ?_
  obtain ⟨o, h1, h2, h3, h4⟩ := opS3_0
  refine All.load hX hst (.int .i64 rt) ⟨rb, 0, none⟩ h1 (wanted_none h4 _) kindS (fun w hw => run_loadI h2 rfl w hw) (fun O w hi => ⟨hi.cr, .inl hi.orb⟩) ?_
  rw [h3]
  simp only [Act.put, List.setIfInBounds_toArray, List.set_cons_zero, List.set_cons_succ]
  clear h1 h2 h3 h4 o
  obtain ⟨o, h1, h2, h3, h4⟩ := opS3_1
  refine All.val hX hst (.int .i64 rt) h1 (wanted_none h4 _) kindS (fun w => (run_assign h2 w).1) (fun w => (run_assign h2 w).2) ?_
  rw [h3]
  simp only [Act.put, List.setIfInBounds_toArray, List.set_cons_zero, List.set_cons_succ]
  clear h1 h2 h3 h4 o
  refine All.ctl hX hst (fun w => stepG_region_end) ?_
  have e : adU a0 ib off len cap fst rt (j + 1) = some ⟨ib, oU off len cap fst rt (j + 1), none⟩ := rfl
  rw [e] at h
  exact h _ _ _ _ _ _ _ _ _ _ _ _ _ _ _ _ _ _ _ _ _ _ _
theorem loop_U (so : S oc) (ne : bb ≠ oc /\ bb ≠ fb /\ bb ≠ rb /\ bb ≠ sb) (h0 : 0 < len -> a0 = some ⟨ib, off, none⟩) (hcap : len <= cap) (hn1 : ∀ j, j < n -> 0 < lU off len cap fst rt j) (hn2 : lU off len cap fst rt n = 0) :
  ∀ (r j : Nat) (x6 x7 x8 x9 x10 x11 x12 x13 x14 x15 x16 x17 x18 x19 x20 x21 x22 x23 x24 x25 x26 x27 x28 : Value), j + r = n -> All (PlanU Tryz.prog S c st n (.slice none 0 0) (.agg #[]) (valU ib off len cap fst rt) j) (WU c st oc fb bb rb sb fst rt (.slice (adU a0 ib off len cap fst rt j) (lU off len cap fst rt j) (cU off len cap fst rt j))) (G ((baseD 230).at ⟨#[.pointer (some ⟨oc, 0, none⟩), .pointer (some ⟨fb, 0, none⟩), .pointer (some ⟨bb, 0, none⟩), .pointer (some ⟨rb, 0, none⟩), .pointer (some ⟨sb, 0, none⟩), .int .i64 (roomU fst rt j), x6, x7, x8, x9, x10, x11, x12, x13, x14, x15, x16, x17, x18, x19, x20, x21, x22, x23, x24, x25, x26, x27, x28], [dcloseU c]⟩ [.code LSn, .inLoop LSn, .inBlock 0]) [bornF Tryz.prog]) := by
 intro r
 induction r with
 | zero =>
  intro j x6 x7 x8 x9 x10 x11 x12 x13 x14 x15 x16 x17 x18 x19 x20 x21 x22 x23 x24 x25 x26 x27 x28 hj
  obtain rfl : j = n := by omega
  have hX := PlanU.closed (P := Tryz.prog) (S := S) (c := c) (st := st) (n := j) (z := .slice none 0 0) (z2 := .agg #[]) (vals := valU ib off len cap fst rt) j
  have hst := WU.stab (c := c) (st := st) (fb := fb) (bb := bb) (rb := rb) (sb := sb) (fst := fst) (rt := rt) (sl := .slice (adU a0 ib off len cap fst rt j) (lU off len cap fst rt j) (cU off len cap fst rt j)) so
  refine head_U so x6 x7 x8 x9 x10 x11 x12 x13 x14 x15 x16 x17 x18 x19 x20 x21 x22 x23 x24 x25 x26 x27 x28 fun x6 x7 x8 x9 x10 x11 x12 x13 x14 x15 x16 x17 x18 x19 x20 x21 x22 x23 x24 x25 x26 x27 x28 => ?_
  have hd : decide (0 < (lU off len cap fst rt j : Int)) = false := decide_eq_false (by omega)
  rw [hd, if_neg (by decide)]
  refine All.ctl hX hst (fun w => stepG_exit (k' := []) (by simp [exitTo])) ?_
  refine All.ctl hX hst (fun w => stepG_end) ?_
  intro O w hi
  exact .close rfl rfl fun w1 s r tm R hch => ⟨_, 2, close_stepU hch, quitsU _ _, rfl⟩
 | succ r ih =>
  intro j x6 x7 x8 x9 x10 x11 x12 x13 x14 x15 x16 x17 x18 x19 x20 x21 x22 x23 x24 x25 x26 x27 x28 hj
  have hX := PlanU.closed (P := Tryz.prog) (S := S) (c := c) (st := st) (n := n) (z := .slice none 0 0) (z2 := .agg #[]) (vals := valU ib off len cap fst rt) j
  have hst := WU.stab (c := c) (st := st) (fb := fb) (bb := bb) (rb := rb) (sb := sb) (fst := fst) (rt := rt) (sl := .slice (adU a0 ib off len cap fst rt j) (lU off len cap fst rt j) (cU off len cap fst rt j)) so
  refine head_U so x6 x7 x8 x9 x10 x11 x12 x13 x14 x15 x16 x17 x18 x19 x20 x21 x22 x23 x24 x25 x26 x27 x28 fun x6 x7 x8 x9 x10 x11 x12 x13 x14 x15 x16 x17 x18 x19 x20 x21 x22 x23 x24 x25 x26 x27 x28 => ?_
  have hd : decide (0 < (lU off len cap fst rt j : Int)) = true := decide_eq_true (by have := hn1 j (by omega); omega)
  rw [hd, if_pos rfl]
  refine All.ctl hX hst (fun w => stepG_skip) ?_
  refine round_U so ne h0 hcap (by omega) (hn1 j (by omega)) x6 x7 x8 x9 x10 x11 x12 x13 x14 x15 x16 x17 x18 x19 x20 x21 x22 x23 x24 x25 x26 x27 x28 fun x6 x7 x8 x9 x10 x11 x12 x13 x14 x15 x16 x17 x18 x19 x20 x21 x22 x23 x24 x25 x26 x27 x28 => ?_
  have hX2 := PlanU.closed (P := Tryz.prog) (S := S) (c := c) (st := st) (n := n) (z := .slice none 0 0) (z2 := .agg #[]) (vals := valU ib off len cap fst rt) (j + 1)
  have hst2 := WU.stab (c := c) (st := st) (fb := fb) (bb := bb) (rb := rb) (sb := sb) (fst := fst) (rt := rt) (sl := .slice (adU a0 ib off len cap fst rt (j + 1)) (lU off len cap fst rt (j + 1)) (cU off len cap fst rt (j + 1))) so
  exact All.ctl hX2 hst2 (fun w => stepG_inLoop) (ih (j + 1) x6 x7 x8 x9 x10 x11 x12 x13 x14 x15 x16 x17 x18 x19 x20 x21 x22 x23 x24 x25 x26 x27 x28 (by omega))
theorem plan_U (so : S oc) (ne : bb ≠ oc /\ bb ≠ fb /\ bb ≠ rb /\ bb ≠ sb) (h0 : 0 < len -> a0 = some ⟨ib, off, none⟩) (hcap : len <= cap) (hn1 : ∀ j, j < n -> 0 < lU off len cap fst rt j) (hn2 : lU off len cap fst rt n = 0) :
  ∀ O w, WU c st oc fb bb rb sb fst rt (.slice a0 len cap) O w -> PlanU Tryz.prog S c st n (.slice none 0 0) (.agg #[]) (valU ib off len cap fst rt) 0 O (born Tryz.prog (dgoU oc fb bb rb sb)) w := by
 intro O w hi
 have hX := PlanU.closed (P := Tryz.prog) (S := S) (c := c) (st := st) (n := n) (z := .slice none 0 0) (z2 := .agg #[]) (vals := valU ib off len cap fst rt) 0
 have hst := WU.stab (c := c) (st := st) (fb := fb) (bb := bb) (rb := rb) (sb := sb) (fst := fst) (rt := rt) (sl := .slice a0 len cap) so
 refine hX O _ w rfl fun w1 R => ⟨_, _, _, born_stepU oc fb bb rb sb w1, Guar.refl O w1, ?_⟩
 rw [grown_self]
 have hi1 := hst O w w1 hi R
 clear R hi w
 have eT : (#[.pointer (some ⟨oc, 0, none⟩), .pointer (some ⟨fb, 0, none⟩), .pointer (some ⟨bb, 0, none⟩), .pointer (some ⟨rb, 0, none⟩), .pointer (some ⟨sb, 0, none⟩)] ++ Array.replicate 24 undef : Array Value) = #[.pointer (some ⟨oc, 0, none⟩), .pointer (some ⟨fb, 0, none⟩), .pointer (some ⟨bb, 0, none⟩), .pointer (some ⟨rb, 0, none⟩), .pointer (some ⟨sb, 0, none⟩), undef, undef, undef, undef, undef, undef, undef, undef, undef, undef, undef, undef, undef, undef, undef, undef, undef, undef, undef, undef, undef, undef, undef, undef] := by simp [Array.replicate]
 rw [eT]
 clear eT
 revert O w1
 show All (PlanU Tryz.prog S c st n (.slice none 0 0) (.agg #[]) (valU ib off len cap fst rt) 0) _ _
 refine All.ctl hX hst (fun w => step_code bSn_is) ?_
 refine All.ctl hX hst (fun w => step_reg pS0_is lsS0) ?_
 obtain ⟨o, h1, h2, h3, h4⟩ := opS0_0
 refine All.load hX hst (.chan (some c)) ⟨oc, 0, none⟩ h1 (wanted_none h4 _) kindS (fun w hw => run_loadCh h2 rfl w hw) (fun O w hi => ⟨hi.co, .inr so⟩) ?_
 rw [h3]
 simp only [Act.put, List.setIfInBounds_toArray, List.set_cons_zero, List.set_cons_succ]
 clear h1 h2 h3 h4 o
 obtain ⟨o, h1, h2, h3, h4, h5⟩ := opS0_1
 refine All.ctl hX hst (fun w => stepG_deferV h1 (wanted_none h4 _) kindS (run_deferU h2 h5 rfl w)) ?_
 rw [h3]
 simp only [Act.put]
 clear h1 h2 h3 h4 h5 o
 refine All.ctl hX hst (fun w => stepG_region_end) ?_
 refine All.ctl hX hst (fun w => stepG_seq) ?_
 refine All.ctl hX hst (fun w => step_reg pS1_is lsS1) ?_
 obtain ⟨o, h1, h2, h3, h4⟩ := opS1_0
 refine All.load hX hst (.int .i64 fst) ⟨fb, 0, none⟩ h1 (wanted_none h4 _) kindS (fun w hw => run_loadI h2 rfl w hw) (fun O w hi => ⟨hi.cf, .inl hi.ofb⟩) ?_
 rw [h3]
 simp only [Act.put, List.setIfInBounds_toArray, List.set_cons_zero, List.set_cons_succ]
 clear h1 h2 h3 h4 o
 obtain ⟨o, h1, h2, h3, h4⟩ := opS1_1
 refine All.val hX hst (.int .i64 fst) h1 (wanted_none h4 _) kindS (fun w => (run_assign h2 w).1) (fun w => (run_assign h2 w).2) ?_
 rw [h3]
 simp only [Act.put, List.setIfInBounds_toArray, List.set_cons_zero, List.set_cons_succ]
 clear h1 h2 h3 h4 o
 refine All.ctl hX hst (fun w => stepG_region_end) ?_
 refine All.ctl hX hst (fun w => stepG_block) ?_
 refine All.ctl hX hst (fun w => stepG_loop) ?_
 exact loop_U so ne h0 hcap hn1 hn2 n 0 _ _ _ _ _ _ _ _ _ _ _ _ _ _ _ _ _ _ _ _ _ _ _ (by omega)
end
end
end Go.Proofs.YtdobjciaikofdaaGreatDoor
