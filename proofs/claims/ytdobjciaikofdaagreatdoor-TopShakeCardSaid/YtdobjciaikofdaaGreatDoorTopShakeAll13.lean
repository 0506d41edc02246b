/- Part 13 of 39 of what the proof of this law needs. Put together by a program out of the texts: LoadXor TFour Arr TLane TLaneOf TLaneXor Long PermA. -/
import Derived.Test.YtdobjciaikofdaaGreatDoorTopShakeAll12
import Derived.Test.YtdobjciaikofdaaGreatDoorTopShakeAll11
import Derived.Maps.AppendAt
import Derived.ChangeKeysEq
import Derived.Laws.StructEq
import Derived.Laws.CopyOwn
import Derived.Deep.RegionHeld3
import Derived.Test.YtdobjciaikofdaaGreatDoorProg
namespace Go.Proofs.YtdobjciaikofdaaGreatDoor
section
open Go.RowKit Go.Shelf
set_option maxRecDepth 100000 in
theorem lxor_w (a b : Option Addr) (la ca lb cb : Nat) (f g : Nat -> Nat) (w : World) (hla : la <= 100000) (hca : la <= ca) (hlb : lb <= 100000) (hra : reads w a la .u8 (fun j => (f j : Int))) (hrb : reads w b lb .u8 (fun j => (g j : Int))) (hf : ∀ j, j < la -> f j < 256) (hg : ∀ j, j < lb -> g j < 256) :
  Calls Tryz.prog 178 #[.slice a la ca, .slice b lb cb] w fun e w' => ∃ v, e = .returned v /\ owns w' w.heap.size 5 .u8 v (min la lb) (fun j => ((f j ^^^ g j : Nat) : Int)) /\ Below w.heap.size w w' := by
 have HA := Lib.hid hra
 have HBr := Lib.hid hrb
 have HF := Lib.hid hf
 have HG := Lib.hid hg
 clear hra hrb hf hg
 go_enter Tryz.func178, Tryz.ntmps178
 obtain ⟨n, hn⟩ : ∃ n, Hid (n = min la lb) := ⟨_, Lib.hid rfl⟩
 have hna : n <= la := by rw [hn.out]; omega
 have hnb : n <= lb := by rw [hn.out]; omega
 have e0 : Hid ((min (la : Int) (lb : Int)).toNat = n) := Lib.hid (by rw [hn.out]; omega)
 have HRn : Hid (reads w a (min (la : Int) (lb : Int)).toNat .u8 (fun j => (f j : Int))) := Lib.hid (by
  rw [e0.out]
  intro h
  obtain ⟨b, off, e, hc⟩ := HA.out (by omega)
  exact ⟨b, off, e, fun j hj => hc j (by omega)⟩)
 go_wp2_with (go_at_call 64; refine (clone8_w a _ ca (fun j => (f j : Int)) w (by omega) HRn.out).mono ?_; rintro e w1 ⟨v, rfl, ho, hb⟩; obtain ⟨a1, c1, rfl, hc1, hcm, hrd⟩ := owns_reads ho; clear hrd; simp only [e0.out] at ho hc1 ⊢)
 have HO1 := Lib.hid ho
 have HB1 := Lib.hid hb
 clear ho hb
 go_loopw [17] (fun i wr => ∃ k : Nat, k <= n /\ i = .int .i64 k /\ Hid (owns wr w.heap.size 5 .u8 (.slice a1 n c1) n (fun j => if j < k then ((f j ^^^ g j : Nat) : Int) else (f j : Int))) /\ Hid (Below w.heap.size w wr)) (fun i _ => n - (intOf i).toNat)
 case atStart => exact ⟨0, by omega, rfl, Lib.hid (owns_ext (fun j _ => by simp) HO1.out), HB1⟩
 case round =>
  clear HO1 HB1
  obtain ⟨k, hk, rfl, HO, HB⟩ := hrel
  by_cases hlt : k < n
  ·obtain ⟨gk, c', e, hcc, hgb, hgl, hcells⟩ := owns_at HO.out (by omega)
   cases e
   obtain ⟨b2, o2, rfl, hc2⟩ := reads_below (Nat.le_refl _) HB.out HBr.out (by omega)
   have hcell1 := (hcells k hlt).1
   rw [if_neg (Nat.lt_irrefl k)] at hcell1
   have hfr1 := (hcells k hlt).2
   have hcell2 := hc2 k (by omega)
   have hfk := HF.out k (by omega)
   have hgk := HG.out k (by omega)
   have HX := Lib.hid (Go.u8_xor_nat (f k) (g k) hfk hgk)
   clear hcells hc2
   go_wp2_with fail
   go_region
   go_wp2
   go_roundw
   case rel =>
    refine ⟨k + 1, by omega, by go_num, Lib.hid ?_, Lib.hid ?_⟩
    ·refine owns_ext (fun j hj => ?_) (owns_setCell HO.out k _)
     by_cases h : j = k
     ·subst h
      rw [if_pos rfl, if_pos (Nat.lt_succ_self _)]
      exact HX.out
     ·rw [if_neg h]
      by_cases h2 : j < k
      ·rw [if_pos h2, if_pos (by omega)]
      ·rw [if_neg h2, if_neg (by omega)]
    ·refine (HB.out.trans (below_own (g := gk) ?_ hgb HB.out.size)).drew
     rw [Sort.setCell_eq]
     exact grownBy_mapBlock _ _ _
   case measure => simp [intOf]; omega
  ·obtain rfl : n = k := by omega
   go_wp2
   go_ret
   exact ⟨_, rfl, by rw [<- hn.out]; exact owns_ext (fun j hj => by rw [if_pos hj]) HO.out, HB.out⟩
end
section
open Go.RowKit Go.Shelf
section
variable {W W' : World} {B : Nat} {v v3 v4 v5 v6 : Value} {n n3 n4 n5 n6 : Nat} {f f3 f4 f5 f6 : Nat -> Int}
end
section
variable {P : Program} {ops : Array Oper} {rest : List Oper} {o : Oper} {a : Act} {w : World} {Q : Exit -> Act -> World -> Prop}
end
theorem putI64_back (f : Nat -> Nat) (j : Nat) (hf : f j < 18446744073709551616) : ∀ m, m <= 8 -> beN (putI64 f) (j * 8) m = ((f j / 256 ^ (8 - m) : Nat) : Int)
 | 0, _ => by
  simp only [beN, Nat.sub_zero]
  rw [Nat.div_eq_of_lt (by simpa using hf)]
  rfl
 | m + 1, hm => by
  have ih := putI64_back f j hf m (by omega)
  simp only [beN]
  rw [ih]
  unfold putI64
  rw [show (j * 8 + m) / 8 = j by omega, show 7 - (j * 8 + m) % 8 = 8 - (m + 1) by omega, show 8 - m = 8 - (m + 1) + 1 by omega, Nat.pow_succ, <- Nat.div_div_eq_div_mul]
  generalize f j / 256 ^ (8 - (m + 1)) = y
  omega
theorem putI64_word (f : Nat -> Nat) (j : Nat) (hf : f j < 18446744073709551616) : beN (putI64 f) (j * 8) 8 = (f j : Int) := by
 rw [putI64_back f j hf 8 (by omega)]
 simp
theorem putL64_word (f : Nat -> Nat) (j : Nat) (hf : f j < 18446744073709551616) : leN (putL64 f) (j * 8) 8 = (f j : Int) := by
 rw [<- putI64_word f j hf]
 unfold leN
 refine beN_congr 8 fun i hi => ?_
 unfold putI64 putL64
 rw [show (j * 8 + (7 - (0 + i))) / 8 = j by omega, show (j * 8 + i) / 8 = j by omega, show (j * 8 + (7 - (0 + i))) % 8 = 7 - (j * 8 + i) % 8 by omega]
end
section
open Go.RowKit
theorem results_row_tmp {P : Program} {w : World} {T : TypeId} {n : Nat} (hT : ArrT P T n) {fn : Func} {p t : Tmp} (h : fn.results = #[.cell p T, .tmp t]) (tmps : Array Value) (g : Nat)
  (hp : tmps.getD p undef = .pointer (some ⟨g, 0, none⟩)) (hg : hasRow w g n) : (results fn tmps).run P w = .ok (.tuple #[.agg (rowAt w g), tmps.getD t undef]) w := by
 obtain ⟨l, e, hu, hi⟩ := hT
 obtain ⟨c, t', hg', rfl⟩ := hg
 unfold rowAt
 rw [hg']
 have hp' : tmps[p]?.getD undef = .pointer (some ⟨g, 0, none⟩) := by simpa using hp
 have hl := run_loadVar_row (P := P) w g t' T c (0, 0) _ hg' hu rfl (by rw [hi])
 simp [results, h, hp', asAddr, hl]
end
section
open Go.RowKit Go.Shelf
attribute [local go_sem] vals_get? vals_get vals_size rowAt_at rowAt_past hasRow_at hasRow_past run_loadRow run_storeCells_row setRow_at setRow_past lt_s2 lt_s3 lt_s4 lt_s5 lt_s6
attribute [local go_sem ↓] loadRow_is
theorem arr25 : ArrT Tryz.prog 70 25 := ⟨_, _, Tryz.underlying70, by kernel_rfl⟩
set_option maxRecDepth 100000 in
theorem lbytes_w (f : Nat -> Nat) (w : World) (hf : ∀ j, j < 25 -> f j < 18446744073709551616) :
  Calls Tryz.prog 74 #[.agg (vals .u64 25 (fun j => (f j : Int)))] w fun e w' => ∃ v, e = .returned v /\ owns w' w.heap.size 5 .u8 v 200 (putL64 f) /\ Below w.heap.size w w' := by
 have HB := bl_refl w
 have HF := Lib.hid hf
 clear hf
 go_enter Tryz.func74, Tryz.ntmps74
 go_wp2_with (go_at_call 114; refine (putLittle64_w _ 25 25 f _ (by omega) (reads_new _ _ _ rfl) HF.out).mono ?_; rintro e w1 ⟨v, rfl, ho, hb⟩; have hbn := bl_call (bl_alloc HB) hb; replace ho := owns_base (base' := w.heap.size) (by simp) ho; clear HB hb)
 go_ret
 exact ⟨_, rfl, ho, hbn⟩
def winF (i n : Int) : Nat := if n <= 0 \/ 200 <= i \/ i <= -n then 0 else i.toNat
def winM (i n : Int) : Nat := if n <= 0 \/ 200 <= i \/ i <= -n then 0 else (min (n - (max i 0 - i)) (200 - max i 0)).toNat
theorem win_le (i n : Int) : winF i n + winM i n <= 200 := by
 unfold winF winM
 split <;> omega
theorem win_iff (i n : Int) (j : Nat) (hj : j < 200) : (i <= (j : Int) /\ (j : Int) - i < n) ↔ (winF i n <= j /\ j < winF i n + winM i n) := by
 unfold winF winM
 split <;> omega
set_option maxRecDepth 100000 in
theorem window_w (i n : Int) (hi : -9223372036854775808 <= i /\ i < 9223372036854775808) (hn : -9223372036854775808 <= n /\ n < 9223372036854775808) (w : World) :
  Calls Tryz.prog 118 #[.int .i64 i, .int .i64 n] w fun e w' => e = .returned (.tuple #[.int .i64 (winF i n), .int .i64 (winM i n)]) /\ w' = w := by
 obtain ⟨hi1, hi2⟩ := hi
 obtain ⟨hn1, hn2⟩ := hn
 by_cases h1 : n <= 0
 ·have e1 : winF i n = 0 := by unfold winF; rw [if_pos (.inl h1)]
  have e2 : winM i n = 0 := by unfold winM; rw [if_pos (.inl h1)]
  rw [e1, e2]
  clear e1 e2
  go_enter Tryz.func118, Tryz.ntmps118
  go_wp2
  refine bodyPost_ret (results_tmp2 rfl _ _ _) rfl ?_
  exact ⟨rfl, rfl⟩
 ·have h1' : 0 < n := by omega
  have hw : wrap64 (-n) = -n := by unfold wrap64; omega
  by_cases h2 : 200 <= i
  ·have e1 : winF i n = 0 := by unfold winF; rw [if_pos (.inr (.inl h2))]
   have e2 : winM i n = 0 := by unfold winM; rw [if_pos (.inr (.inl h2))]
   rw [e1, e2]
   clear e1 e2
   go_enter Tryz.func118, Tryz.ntmps118
   go_wp2
   refine bodyPost_ret (results_tmp2 rfl _ _ _) rfl ?_
   exact ⟨rfl, rfl⟩
  ·have h2' : i < 200 := by omega
   by_cases h3 : i <= -n
   ·have e1 : winF i n = 0 := by unfold winF; rw [if_pos (.inr (.inr h3))]
    have e2 : winM i n = 0 := by unfold winM; rw [if_pos (.inr (.inr h3))]
    rw [e1, e2]
    clear e1 e2
    go_enter Tryz.func118, Tryz.ntmps118
    go_wp2
    refine bodyPost_ret (results_tmp2 rfl _ _ _) rfl ?_
    exact ⟨rfl, rfl⟩
   ·have h3' : -n < i := by omega
    have e1 : ((winF i n : Nat) : Int) = max i 0 := by unfold winF; rw [if_neg (by omega)]; omega
    have e2 : ((winM i n : Nat) : Int) = min (n - (max i 0 - i)) (200 - max i 0) := by
     unfold winM
     rw [if_neg (by omega)]
     omega
    rw [e1, e2]
    clear e1 e2
    go_enter Tryz.func118, Tryz.ntmps118
    go_wp2
    refine bodyPost_ret (results_tmp2 rfl _ _ _) rfl ?_
    exact ⟨rfl, rfl⟩
end
section
open Go.RowKit Go.Shelf
attribute [local go_sem] vals_get? vals_get vals_size rowAt_at rowAt_past hasRow_at hasRow_past run_loadRow run_storeCells_row setRow_at setRow_past lt_s2 lt_s3 lt_s4 lt_s5 lt_s6
attribute [local go_sem ↓] loadRow_is
theorem zero25 : (#[Value.int IntKind.u64 0, Value.int IntKind.u64 0, Value.int IntKind.u64 0, Value.int IntKind.u64 0, Value.int IntKind.u64 0, Value.int IntKind.u64 0, Value.int IntKind.u64 0, Value.int IntKind.u64 0, Value.int IntKind.u64 0, Value.int IntKind.u64 0, Value.int IntKind.u64 0, Value.int IntKind.u64 0, Value.int IntKind.u64 0, Value.int IntKind.u64 0, Value.int IntKind.u64 0, Value.int IntKind.u64 0, Value.int IntKind.u64 0, Value.int IntKind.u64 0, Value.int IntKind.u64 0, Value.int IntKind.u64 0, Value.int IntKind.u64 0, Value.int IntKind.u64 0, Value.int IntKind.u64 0, Value.int IntKind.u64 0, Value.int IntKind.u64 0] : Array Value) = vals .u64 25 (fun _ => 0) := rfl
theorem hasRow_below {w w1 : World} {g n B : Nat} (hB : w.heap.size <= B) (hb : Below B w w1) (h : hasRow w g n) : hasRow w1 g n := by
 obtain ⟨c, t, hg, hn⟩ := h
 refine ⟨c, t, ?_, hn⟩
 rw [hb.block g (Nat.lt_of_lt_of_le (by
  rcases Nat.lt_or_ge g w.heap.size with hl | hl
  ·exact hl
  ·simp [hl] at hg) hB)]
 exact hg
theorem hasRow_grown {w w1 : World} {g g' n : Nat} (hg : w.grownBy w1 (some g)) (hne : g' ≠ g) (h : hasRow w g' n) : hasRow w1 g' n := by
 obtain ⟨c, t, hh, hn⟩ := h
 refine ⟨c, t, ?_, hn⟩
 rw [hg.block g' (by
  rcases Nat.lt_or_ge g' w.heap.size with hl | hl
  ·exact hl
  ·simp [hl] at hh) (fun e => hne (by cases e; rfl))]
 exact hh
theorem row_setRow {w : World} {g n : Nat} (h : hasRow w g n) (c : Array Value) (hc : c.size = n) : hasRow (w.setRow g c) g n /\ rowAt (w.setRow g c) g = c /\ w.grownBy (w.setRow g c) (some g) := by
 obtain ⟨c0, t, hg, hn⟩ := h
 have h1 : (w.setRow g c).heap[g]? = some (.cells c t (0, 0)) := setRow_heap w g c0 _ t _ hg
 refine ⟨⟨c, t, h1, hc⟩, ?_, ⟨rfl, rfl, rfl, by simp [World.setRow], fun k _ hk => setRow_other w g k _ (fun e => hk (by rw [e]))⟩⟩
 unfold rowAt
 rw [h1]
section
variable {P : Program} {ops : Array Oper} {rest : List Oper} {o : Oper} {a : Act} {w : World} {Q : Exit -> Act -> World -> Prop}
end
theorem step_copy_row {P : Program} {ops : Array Oper} {o : Oper} {a : Act} {w : World} {K : Act -> World -> Prop} {Q : Exit -> Act -> World -> Prop} {E : Prop} {T sT e : TypeId} (hu : P.underlying T = some (.slice e)) (hsz : (P.info? e).map (·.size) = some 1) (hgd : o.guard = none) (d s : Operand) (ho : o.op = .call { callee := .builtin .copy, args := #[d, s], argTypes := #[T, sT] })
  {g n c c' : Nat} {ad : Addr} {k : IntKind} {h : Nat -> Int} (hd : a.eval d = .slice (some ⟨g, 0, none⟩) n c) (hs : a.eval s = .slice (some ad) n c') (hrow : hasRow w g n) (hr : reads w (some ad) n k h)
  (hK : ∀ w', hasRow w' g n -> rowAt w' g = vals k n h -> w.grownBy w' (some g) -> K (a.put o.dst (goInt n)) w') : if Region.wanted o (yielded ops a.tmps) = true then Oper.wp P o a w K Q else E := by
 have hw : Region.wanted o (yielded ops a.tmps) = true := by simp [Region.wanted, hgd]
 rw [if_pos hw]
 have hrow0 := hrow
 obtain ⟨cur, t, hg, hn⟩ := hrow
 have e1 : (cur.toList.take 0 ++ (vals k n h).toList ++ cur.toList.drop (0 + (vals k n h).toList.length)).toArray = vals k n h := by
  rw [List.take_zero, List.nil_append, Nat.zero_add, Array.length_toList, vals_size, List.drop_of_length_le (by simp [hn]), List.append_nil]
 have e2 : (vals k n h).toList.length = n := by simp [vals_size]
 have hrun := run_copy_row (P := P) w T sT o.type e g 0 n c ad n c' cur t (vals k n h).toList hu hsz hg (by simp [vals_size]) (reads_news hr) (by simp [vals_size, hn]) vals_one
 rw [e1, e2] at hrun
 obtain ⟨q1, q2, q3⟩ := row_setRow hrow0 (vals k n h) (vals_size _ _ _)
 unfold Oper.wp
 simp [execOp, ho, resolve, invoke, builtin, hd, hs, hrun, Result.andThen]
 exact hK _ q1 q2 q3
theorem below_setRow' {B g : Nat} {w : World} (hB : B <= g) (c : Array Value) : Below B w (w.setRow g c) :=
 (Below.refl B w).trans ⟨rfl, rfl, rfl, by simp [World.setRow], fun k hk => setRow_other w g k c (by omega)⟩
set_option maxRecDepth 100000 in
set_option maxHeartbeats 1000000 in
theorem lof_yes_w (a : Option Addr) (cap : Nat) (f : Nat -> Int) (w : World) (hr : reads w a 200 .u8 f) (hf : ∀ j, j < 200 -> 0 <= f j /\ f j < 256) :
  Calls Tryz.prog 127 #[.slice a 200 cap] w fun e w' => e = .returned (.tuple #[.agg (vals .u64 25 (fun j => leN f (j * 8) 8)), .bool true]) /\ Below w.heap.size w w' := by
 have HR := Lib.hid hr
 have HF := Lib.hid hf
 clear hr hf
 have hz := zero25
 go_enter Tryz.func127, Tryz.ntmps127
 go_wp2_with fail
 clear hz
 have q1 : hasRow ((w.alloc (.cells (vals .u64 25 (fun _ => 0)) 70)).alloc (.cells (vals .u64 25 (fun _ => 0)) 70)) w.heap.size 25 := by
  rw [hasRow_past _ _ _ _ (by simp)]
  exact hasRow_at _ _ _ _ _ rfl (vals_size _ _ _)
 have q2 : hasRow ((w.alloc (.cells (vals .u64 25 (fun _ => 0)) 70)).alloc (.cells (vals .u64 25 (fun _ => 0)) 70)) (w.heap.size + 1) 25 := hasRow_at _ _ _ _ _ (by simp) (vals_size _ _ _)
 have q3 : Below w.heap.size w ((w.alloc (.cells (vals .u64 25 (fun _ => 0)) 70)).alloc (.cells (vals .u64 25 (fun _ => 0)) 70)) := bl_alloc (bl_alloc (bl_refl w))
 have q4 : ((w.alloc (.cells (vals .u64 25 (fun _ => 0)) 70)).alloc (.cells (vals .u64 25 (fun _ => 0)) 70)).heap.size = w.heap.size + 2 := by simp
 generalize (w.alloc (.cells (vals .u64 25 (fun _ => 0)) 70)).alloc (.cells (vals .u64 25 (fun _ => 0)) 70) = W2 at q1 q2 q3 q4 ⊢
 have Q1 := Lib.hid q1
 have Q2 := Lib.hid q2
 have Q3 := Lib.hid q3.drew
 have Q4 := Lib.hid q4
 clear q1 q2 q3 q4
 have CL : Hid (Calls Tryz.prog 182 #[.slice a 200 cap] W2.drew fun e w' => ∃ v, e = .returned v /\ owns w' W2.drew.heap.size 39 .u64 v 25 (fun j => leN f (j * 8) 8) /\ Below W2.drew.heap.size W2.drew w') := Lib.hid (little64_w a 200 cap f _ (by omega) (reads_below (Nat.le_refl _) Q3.out HR.out) HF.out)
 go_region_held3 (fun W => Below w.heap.size w W) (first | assumption | exact Q3.out | exact Q5.out | exact Q8.out) (first | (go_at_call 182; (with_reducible refine CL.out.mono ?_); rintro e w3 ⟨v, rfl, ho, hb⟩; obtain ⟨g3, c3, rfl, _, _, _, _⟩ := owns_at ho (by decide); obtain ⟨_, _, e2, _, _, hr3⟩ := owns_reads ho; cases e2; have R3 := Lib.hid hr3; have Q5 := Lib.hid (bl_call Q3.out hb); have Q6 := Lib.hid (hasRow_below (Nat.le_refl _) hb Q1.out); have Q7 := Lib.hid (hasRow_below (Nat.le_refl _) hb Q2.out); clear hb ho hr3) | (refine step_copy_row Tryz.underlying190 (by kernel_rfl) rfl (.tmp 9) (.tmp 11) rfl rfl rfl Q7.out R3.out ?_; intro w4 k1 k2 k3; have k4 := hasRow_grown k3 (by omega) Q6.out; have Q8 := Lib.hid (Q5.out.trans (below_own k3 (by omega) Q5.out.size)); clear k3))
 go_wp2
 obtain ⟨r1, r2, r3⟩ := row_setRow k4 (vals .u64 25 (fun j => leN f (j * 8) 8)) (vals_size _ _ _)
 refine bodyPost_ret (results_row_tmp arr25 rfl _ w.heap.size rfl r1) rfl ⟨?_, ?_⟩
 ·rw [r2]
  rfl
 ·exact Q8.out.trans (below_setRow' (Nat.le_refl _) _)
end
section
open Go.RowKit Go.Shelf
attribute [local go_sem] vals_get? vals_get vals_size rowAt_at rowAt_past hasRow_at hasRow_past run_loadRow run_storeCells_row setRow_at setRow_past lt_s2 lt_s3 lt_s4 lt_s5 lt_s6
attribute [local go_sem ↓] loadRow_is
theorem cell_of_hasRow {w : World} {g n : Nat} {k : IntKind} {f : Nat -> Int} (h : hasRow w g n) (hr : rowAt w g = vals k n f) {i : Nat} (hi : i < n) : w.cell? ⟨g, i, none⟩ = some (.int k (f i)) /\ w.frozen? ⟨g, i, none⟩ = false := by
 obtain ⟨c, t, hg, hn⟩ := h
 unfold rowAt at hr
 rw [hg] at hr
 subst hr
 refine ⟨?_, by simp [World.frozen?, hg]⟩
 rw [cell_of_row w g i _ t (0, 0) hg, vals_get? k n f i hi]
theorem row_setCell {w : World} {g n : Nat} {k : IntKind} {f : Nat -> Int} (h : hasRow w g n) (hr : rowAt w g = vals k n f) (i : Nat) (y : Int) :
  hasRow (w.setCell ⟨g, i, none⟩ (.int k y)) g n /\ rowAt (w.setCell ⟨g, i, none⟩ (.int k y)) g = vals k n (fun j => if j = i then y else f j) /\ w.grownBy (w.setCell ⟨g, i, none⟩ (.int k y)) (some g) := by
 obtain ⟨c, t, hg, hn⟩ := h
 unfold rowAt at hr
 rw [hg] at hr
 subst hr
 rw [Sort.setCell_eq]
 have h1 := heap_mapBlock w g (·.setIfInBounds i (.int k y)) hg
 have e : (vals k n f).setIfInBounds i (.int k y) = vals k n (fun j => if j = i then y else f j) := by
  apply Array.ext_getElem?
  intro j
  rw [Array.getElem?_setIfInBounds]
  by_cases hj : j < n
  ·rw [vals_get? k n f j hj, vals_get? k n (fun j => if j = i then y else f j) j hj]
   by_cases hji : j = i
   ·subst hji
    simp [vals_size, hj]
   ·rw [if_neg (fun e => hji e.symm), if_neg hji]
  ·rw [vals_get?_none _ _ _ _ (by omega), vals_get?_none _ _ _ _ (by omega)]
   split
   ·rename_i e; subst e; simp [vals_size, hj]
   ·rfl
 refine ⟨⟨_, t, h1, by simp [vals_size]⟩, ?_, grownBy_mapBlock _ _ _⟩
 unfold rowAt
 rw [h1]
 exact e
set_option maxRecDepth 100000 in
def byteL (f : Nat -> Nat) (j : Nat) : Nat := f (j / 8) / 256 ^ (j % 8) % 256
theorem byteL_lt (f : Nat -> Nat) (j : Nat) : byteL f j < 256 := Nat.mod_lt _ (by omega)
def xorB (f : Nat -> Nat) (i : Int) (n : Nat) (g : Nat -> Nat) (j : Nat) : Nat := if winF i n <= j /\ j < winF i n + winM i n then byteL f j ^^^ g ((j : Int) - i).toNat else byteL f j
theorem win_in {i : Int} {n j : Nat} (h : winF i n <= j /\ j < winF i n + winM i n) : i <= (j : Int) /\ ((j : Int) - i).toNat < n /\ (((j : Int) - i).toNat : Int) = (j : Int) - i := by
 have h2 := win_le i n
 have h1 := (win_iff i n j (by omega)).2 h
 omega
theorem xorB_lt (f : Nat -> Nat) (i : Int) (n : Nat) (g : Nat -> Nat) (hg : ∀ j, j < n -> g j < 256) (j : Nat) : xorB f i n g j < 256 := by
 unfold xorB
 split
 ·rename_i h
  exact Nat.xor_lt_two_pow (n := 8) (byteL_lt f j) (hg _ (win_in h).2.1)
 ·exact byteL_lt f j
set_option maxRecDepth 100000 in
theorem step_copy_at {P : Program} {ops : Array Oper} {o : Oper} {a : Act} {w : World} {K : Act -> World -> Prop} {Q : Exit -> Act -> World -> Prop} {E : Prop} {T sT e : TypeId} (hu : P.underlying T = some (.slice e)) (hsz : (P.info? e).map (·.size) = some 1) (hgd : o.guard = none) (d s : Operand) (ho : o.op = .call { callee := .builtin .copy, args := #[d, s], argTypes := #[T, sT] })
  {base g F L N c c' n cap : Nat} {ad : Addr} {k : IntKind} {f h : Nat -> Int} (hd : a.eval d = .slice (some ⟨g, F, none⟩) L c) (hs : a.eval s = .slice (some ad) N c') (hown : owns w base e k (.slice (some ⟨g, 0, none⟩) n cap) n f) (hr : reads w (some ad) N k h) (hNL : N <= L) (hFN : F + N <= n)
  (hK : ∀ w', owns w' base e k (.slice (some ⟨g, 0, none⟩) n cap) n (fun j => if F <= j /\ j < F + N then h (j - F) else f j) -> w.grownBy w' (some g) -> K (a.put o.dst (goInt N)) w') : if Region.wanted o (yielded ops a.tmps) = true then Oper.wp P o a w K Q else E := by
 have hw : Region.wanted o (yielded ops a.tmps) = true := by simp [Region.wanted, hgd]
 rw [if_pos hw]
 rcases hown.2 with ⟨e0, _⟩ | ⟨g', cap', cur, e0, hb, hg, hnc, hcm, hcs, ht⟩
 ·cases e0
 injection e0 with e1 _ e3
 injection e1 with e1
 injection e1 with e1
 subst e1; subst e3
 have e2 : (vals k N h).toList.length = N := by simp [vals_size]
 have hrun := run_copy_row (P := P) w T sT o.type e g F L c ad N c' cur e (vals k N h).toList hu hsz hg (by rw [e2]; exact (Nat.min_eq_left hNL).symm) (reads_news hr) (by rw [e2]; omega) vals_one
 rw [e2] at hrun
 have hcur : ∀ j, j < n -> cur[j]? = some (.int k (f j)) := by
  intro j hj
  have e1 : (cur.toList.take (n * 1))[j]? = (vals k n f).toList[j]? := by rw [ht]
  rw [List.getElem?_take, if_pos (by omega), Array.getElem?_toList, Array.getElem?_toList, vals_get? k n f j hj] at e1
  exact e1
 obtain ⟨c2, hc2⟩ : ∃ c2, c2 = (cur.toList.take F ++ (vals k N h).toList ++ cur.toList.drop (F + N)).toArray := ⟨_, rfl⟩
 rw [<- hc2] at hrun
 have hl1 : (cur.toList.take F).length = F := by rw [List.length_take, Array.length_toList]; omega
 have hsize : c2.size = cap * 1 := by
  rw [hc2]
  simp only [List.size_toArray, List.length_append, hl1, e2, List.length_drop, Array.length_toList]
  omega
 have hel : ∀ j, j < n -> c2[j]? = some (.int k (if F <= j /\ j < F + N then h (j - F) else f j)) := by
  intro j hj
  rw [hc2, List.getElem?_toArray]
  by_cases h1 : j < F
  ·rw [List.append_assoc, List.getElem?_append_left (by rw [hl1]; exact h1), List.getElem?_take, if_pos h1, Array.getElem?_toList, hcur j hj, if_neg (by omega)]
  ·by_cases h2 : j < F + N
   ·rw [List.append_assoc, List.getElem?_append_right (by rw [hl1]; omega), hl1, List.getElem?_append_left (by rw [e2]; omega), Array.getElem?_toList, vals_get? k N h (j - F) (by omega), if_pos (by omega)]
   ·rw [List.getElem?_append_right (by rw [List.length_append, hl1, e2]; omega), List.length_append, hl1, e2, List.getElem?_drop, show F + N + (j - (F + N)) = j by omega, Array.getElem?_toList, hcur j hj, if_neg (by omega)]
 have hown2 : owns (w.setRow g c2) base e k (.slice (some ⟨g, 0, none⟩) n cap) n (fun j => if F <= j /\ j < F + N then h (j - F) else f j) := by
  refine ⟨by simp [vals_size], .inr ⟨g, cap, c2, rfl, hb, setRow_heap w g cur _ e _ hg, hnc, hcm, hsize, ?_⟩⟩
  apply List.ext_getElem?
  intro j
  rw [List.getElem?_take]
  by_cases hj : j < n
  ·rw [if_pos (by omega), Array.getElem?_toList, Array.getElem?_toList, vals_get? k n _ j hj, hel j hj]
  ·rw [if_neg (by omega), Array.getElem?_toList, Array.getElem?_eq_none (by rw [vals_size]; omega)]
 unfold Oper.wp
 simp [execOp, ho, resolve, invoke, builtin, hd, hs, hrun, Result.andThen]
 exact hK _ hown2 ⟨rfl, rfl, rfl, by simp [World.setRow], fun k _ hk => setRow_other w g k _ (fun e => hk (by rw [e]))⟩
theorem lt_of_hasRow {w : World} {g n : Nat} (h : hasRow w g n) : g < w.heap.size := by
 obtain ⟨c, t, hg, _⟩ := h
 rcases Nat.lt_or_ge g w.heap.size with hl | hl
 ·exact hl
 ·simp [hl] at hg
theorem leN_byte (f : Nat -> Nat) (j : Nat) (hf : f j < 18446744073709551616) : leN (fun t => (byteL f t : Int)) (j * 8) 8 = (f j : Int) := putL64_word f j hf
set_option maxRecDepth 100000 in
set_option maxHeartbeats 2000000 in
theorem lxorL_w (f : Nat -> Nat) (hf : ∀ j, j < 25 -> f j < 18446744073709551616) (i : Int) (hi : -9223372036854775808 <= i /\ i < 9223372036854775808) (b : Option Addr) (n cb : Nat) (hcb : n <= cb) (g : Nat -> Nat) (w : World) (hn : n <= 100000) (hr : reads w b n .u8 (fun j => (g j : Int))) (hg : ∀ j, j < n -> g j < 256) :
  Calls Tryz.prog 116 #[.agg (vals .u64 25 (fun j => (f j : Int))), .int .i64 i, .slice b n cb] w fun e w' => e = .returned (.agg (vals .u64 25 (fun j => leN (fun t => (xorB f i n g t : Int)) (j * 8) 8))) /\ Below w.heap.size w w' := by
 have HR := Lib.hid hr
 have HG := Lib.hid hg
 have HF := Lib.hid hf
 have hi1 := hi.1
 have hi2 := hi.2
 clear hr hg hf
 have hz := zero25
 have CW := Lib.hid (fun W => window_w i n hi ⟨by omega, by omega⟩ W)
 clear hi
 by_cases h0 : winM i n = 0
 ·have hsame : vals .u64 25 (fun j => leN (fun t => (xorB f i n g t : Int)) (j * 8) 8) = vals .u64 25 (fun j => (f j : Int)) := by
   refine vals_ext _ _ fun j hj => ?_
   rw [<- leN_byte f j (HF.out j hj)]
   congr 1
   funext t
   unfold xorB
   rw [if_neg (by omega)]
  rw [hsame]
  clear hsame
  rw [h0] at CW
  go_enter Tryz.func116, Tryz.ntmps116
  go_wp2_with (go_at_call 118; (with_reducible refine (CW.out _).mono ?_); rintro e w1 ⟨rfl, rfl⟩)
  refine bodyPost_ret (results_row arr25 rfl _ (w.heap.size + 1) rfl (by go_simp)) rfl ⟨?_, ?_⟩
  ·go_simp
  ·exact bl_alloc (bl_alloc (bl_refl w))
 ·obtain ⟨F, hF⟩ : ∃ F, Hid (F = winF i n) := ⟨_, Lib.hid rfl⟩
  obtain ⟨N, hN⟩ : ∃ N, Hid (N = winM i n) := ⟨_, Lib.hid rfl⟩
  obtain ⟨o, ho⟩ : ∃ o, Hid (o = (max i 0 - i).toNat) := ⟨_, Lib.hid rfl⟩
  have hcond : ¬ ((n : Int) <= 0 \/ 200 <= i \/ i <= -(n : Int)) := fun h => h0 (by unfold winM; rw [if_pos h])
  have eF : F = i.toNat := by rw [hF.out]; unfold winF; rw [if_neg hcond]
  have eN : N = (min ((n : Int) - (max i 0 - i)) (200 - max i 0)).toNat := by rw [hN.out]; unfold winM; rw [if_neg hcond]
  have eo := ho.out
  have hio : (F : Int) - i = (o : Int) := by omega
  have hon : o < n := by omega
  have hNo : N <= n - o := by omega
  have hFN : F + N <= 200 := by omega
  have hN0 : 0 < N := by omega
  have hF2 : F < 200 := by omega
  have hob : o < cb := by omega
  have EF : Hid (∀ t : Nat, F <= t -> ((t : Int) - i).toNat = o + (t - F)) := Lib.hid (fun t ht => by omega)
  clear eF eN eo hcond h0
  have CW2 : Hid (∀ W, Calls Tryz.prog 118 #[.int .i64 i, .int .i64 n] W fun e w' => e = .returned (.tuple #[.int .i64 F, .int .i64 N]) /\ w' = W) := Lib.hid (by rw [hF.out, hN.out]; exact CW.out)
  clear CW
  go_enter Tryz.func116, Tryz.ntmps116
  go_wp2_with (go_at_call 118; (with_reducible refine (CW2.out _).mono ?_); rintro e w1 ⟨rfl, rfl⟩)
  clear hz CW2
  have q2 : hasRow ((w.alloc (.cells (vals .u64 25 (fun j => (f j : Int))) 70)).alloc (.cells (vals .u64 25 (fun _ => 0)) 70)) (w.heap.size + 1) 25 := hasRow_at _ _ _ _ _ (by simp) (vals_size _ _ _)
  have q3 : Below w.heap.size w ((w.alloc (.cells (vals .u64 25 (fun j => (f j : Int))) 70)).alloc (.cells (vals .u64 25 (fun _ => 0)) 70)) := bl_alloc (bl_alloc (bl_refl w))
  have q4 : ((w.alloc (.cells (vals .u64 25 (fun j => (f j : Int))) 70)).alloc (.cells (vals .u64 25 (fun _ => 0)) 70)).heap.size = w.heap.size + 2 := by simp
  generalize (w.alloc (.cells (vals .u64 25 (fun j => (f j : Int))) 70)).alloc (.cells (vals .u64 25 (fun _ => 0)) 70) = W2 at q2 q3 q4 ⊢
  refine (lbytes_w f W2 HF.out).mono ?_
  rintro e w3 ⟨v, rfl, ho3, hb⟩
  obtain ⟨gk, ck, rfl, hck, hgk, _, hcs⟩ := owns_at ho3 (by decide)
  have hgk2 : w.heap.size + 2 <= gk := by omega
  have hFk : F < ck := by omega
  obtain ⟨b2, o2, rfl, hcb2⟩ := reads_below (Nat.le_refl _) (bl_call q3 hb) HR.out (by omega)
  have P1 := Lib.hid (owns_base (base' := w.heap.size + 2) (by omega) ho3)
  have P2 := Lib.hid (hasRow_below (Nat.le_refl _) hb q2)
  have P3 := Lib.hid (bl_call q3 hb).drew
  have R1 : reads w3.drew (some ⟨gk, F, none⟩) N .u8 (fun j => (byteL f (F + j) : Int)) := fun _ => ⟨gk, F, rfl, fun j hj => (hcs (F + j) (by omega)).1⟩
  have R2 : reads w3.drew (some ⟨b2, o2 + o, none⟩) (n - o) .u8 (fun j => (g (o + j) : Int)) := fun _ => ⟨b2, o2 + o, rfl, fun j hj => by rw [Nat.add_assoc]; exact hcb2 (o + j) (by omega)⟩
  have CX0 := (lxor_w (some ⟨gk, F, none⟩) (some ⟨b2, o2 + o, none⟩) N (ck - F) (n - o) (cb - o) (fun j => byteL f (F + j)) (fun j => g (o + j)) w3.drew (by omega) (by omega) (by omega) R1 R2 (fun j _ => byteL_lt _ _) (fun j hj => HG.out _ (by omega)))
  have eL : ((F : Int) + (N : Int)).toNat - F = N := by omega
  rw [Nat.min_eq_left hNo] at CX0
  have CX : Hid (Calls Tryz.prog 178 #[.slice (some ⟨gk, F, none⟩) (((F : Int) + (N : Int)).toNat - F) (ck - F), .slice (some ⟨b2, o2 + o, none⟩) (n - o) (cb - o)] w3.drew fun e w' => ∃ v, e = .returned v /\ owns w' w3.drew.heap.size 5 .u8 v N (fun j => ((byteL f (F + j) ^^^ g (o + j) : Nat) : Int)) /\ Below w3.drew.heap.size w3.drew w') := Lib.hid (by rw [eL]; exact CX0)
  clear ho3 hb hgk hcs hcb2 q2 q3 q4 R1 R2 CX0 eL
  have hckF : ¬ ck = F := by omega
  have hcbo : ¬ cb = o := by omega
  have hf0 : (0 : Int) <= (F : Int) := by omega
  have hf1 : (F : Int) <= 200 := by omega
  have hf2 : (F : Int) <= (F : Int) + (N : Int) := by omega
  have hf3 : (F : Int) + (N : Int) <= (ck : Int) := by omega
  have hw1 : IntKind.i64.wrap ((F : Int) + (N : Int)) = (F : Int) + (N : Int) := by rw [IntKind.wrap_i64]; omega
  have hw2 : IntKind.i64.wrap (o : Int) = (o : Int) := by rw [IntKind.wrap_i64]; omega
  have ho0 : (0 : Int) <= (o : Int) := by omega
  have ho1 : (o : Int) <= (n : Int) := by omega
  go_wp2_with fail
  go_region_held3 (fun W => Below w.heap.size w W) (first | assumption | exact P3.out | exact P5.out | exact P8.out) (first | (go_at_call 178; (with_reducible refine CX.out.mono ?_); rintro e w4 ⟨v, rfl, ho4, hb4⟩; obtain ⟨g4, c4, rfl, _, _, _, _⟩ := owns_at ho4 hN0; obtain ⟨_, _, e2, _, _, hr4⟩ := owns_reads ho4; cases e2; have R4 := Lib.hid hr4; have P5 := Lib.hid (bl_call P3.out hb4); have P6 := Lib.hid (owns_below (Nat.le_refl _) hb4 P1.out); have P7 := Lib.hid (hasRow_below (Nat.le_refl _) hb4 P2.out); clear ho4 hb4 hr4) | (refine step_copy_at Tryz.underlying22 (by kernel_rfl) rfl (.tmp 26) (.tmp 38) rfl rfl rfl P6.out R4.out (by omega) hFN ?_; intro w5 k1 k2; have P8 := Lib.hid (P5.out.trans (below_own k2 (by omega) P5.out.size)); have P9 := Lib.hid (hasRow_grown k2 (by omega) P7.out); have P10 := Lib.hid k1; clear k1 k2))
  have eX : ∀ t, t < 200 -> (if F <= t /\ t < F + N then ((byteL f (F + (t - F)) ^^^ g (o + (t - F)) : Nat) : Int) else putL64 f t) = (xorB f i n g t : Int) := by
   intro t ht
   unfold xorB
   rw [<- hF.out, <- hN.out]
   by_cases h : F <= t /\ t < F + N
   ·rw [if_pos h, if_pos h, EF.out t h.1, show F + (t - F) = t by omega]
   ·rw [if_neg h, if_neg h]
    rfl
  obtain ⟨_, _, e6, _, _, hr6⟩ := owns_reads P10.out
  cases e6
  have CO := Lib.hid (lof_yes_w _ ck (fun j => (xorB f i n g j : Int)) w5 (reads_ext eX hr6) (fun j hj => by have := xorB_lt f i n g HG.out j; omega))
  clear CX hr6 eX P1 P2 P3 P5 P6 P7 hf0 hf1 hf2 hf3 hw1 hw2 ho0 ho1 R4
  have hz := zero25
  go_wp2_with (go_at_call 127; (with_reducible refine CO.out.mono ?_); rintro e w6 ⟨rfl, hb6⟩; have p9 := hasRow_below (Nat.le_refl _) hb6 P9.out; have P11 := Lib.hid (bl_call P8.out hb6); have hlt6 := lt_of_hasRow p9)
  obtain ⟨r1, r2, r3⟩ := row_setRow p9 (vals .u64 25 (fun j => leN (fun t => (xorB f i n g t : Int)) (j * 8) 8)) (vals_size _ _ _)
  have hlt7 : w.heap.size + 1 < (w6.setRow (w.heap.size + 1) (vals .u64 25 (fun j => leN (fun t => (xorB f i n g t : Int)) (j * 8) 8))).heap.size := lt_of_hasRow r1
  refine bodyPost_ret (results_row arr25 rfl _ (w.heap.size + 1) rfl (by rw [hasRow_past _ _ _ _ hlt7]; exact r1)) rfl ⟨?_, ?_⟩
  ·rw [rowAt_past _ _ _ hlt7, r2]
  ·have hbb := P11.out.trans (below_setRow' (w := w6) (B := w.heap.size) (g := w.heap.size + 1) (by omega) (vals .u64 25 (fun j => leN (fun t => (xorB f i n g t : Int)) (j * 8) 8)))
   exact hbb.alloc hbb.size _
theorem winF_lt (i n : Int) : winF i n < 200 := by
 unfold winF
 split <;> omega
set_option maxRecDepth 100000 in
set_option maxHeartbeats 2000000 in
theorem lout_w (f : Nat -> Nat) (hf : ∀ j, j < 25 -> f j < 18446744073709551616) (i n : Int) (hi : -9223372036854775808 <= i /\ i < 9223372036854775808) (hn : -9223372036854775808 <= n /\ n < 9223372036854775808) (w : World) :
  Calls Tryz.prog 78 #[.agg (vals .u64 25 (fun j => (f j : Int))), .int .i64 i, .int .i64 n] w fun e w' => ∃ v, e = .returned v /\ owns w' w.heap.size 5 .u8 v (winM i n) (fun j => (byteL f (winF i n + j) : Int)) /\ Below w.heap.size w w' := by
 have HF := Lib.hid hf
 clear hf
 have CW := Lib.hid (fun W => window_w i n hi hn W)
 clear hi hn
 have hFN := win_le i n
 have hF2 := winF_lt i n
 obtain ⟨F, hF⟩ : ∃ F, Hid (F = winF i n) := ⟨_, Lib.hid rfl⟩
 obtain ⟨N, hN⟩ : ∃ N, Hid (N = winM i n) := ⟨_, Lib.hid rfl⟩
 rw [<- hF.out, <- hN.out] at CW hFN
 rw [<- hF.out] at hF2
 rw [<- hF.out, <- hN.out]
 go_enter Tryz.func78, Tryz.ntmps78
 go_wp2_with (go_at_call 118; (with_reducible refine (CW.out _).mono ?_); rintro e w1 ⟨rfl, rfl⟩)
 have q3 : Below w.heap.size w (w.alloc (.cells (vals .u64 25 (fun j => (f j : Int))) 70)) := bl_alloc (bl_refl w)
 generalize w.alloc (.cells (vals .u64 25 (fun j => (f j : Int))) 70) = W2 at q3 ⊢
 refine (lbytes_w f W2 HF.out).mono ?_
 rintro e w3 ⟨v, rfl, ho3, hb⟩
 obtain ⟨gk, ck, rfl, hck, hgk, _, hcs⟩ := owns_at ho3 (by decide)
 have P3 := Lib.hid (bl_call q3 hb)
 have R1 : Hid (reads w3 (some ⟨gk, F, none⟩) N .u8 (fun j => (byteL f (F + j) : Int))) := Lib.hid (fun _ => ⟨gk, F, rfl, fun j hj => (hcs (F + j) (by omega)).1⟩)
 have hs3 := P3.out.size
 have hckF : ¬ ck = F := by omega
 have hf0 : (0 : Int) <= (F : Int) := by omega
 have hf1 : (F : Int) <= 200 := by omega
 have hf2 : (F : Int) <= (F : Int) + (N : Int) := by omega
 have hf3 : (F : Int) + (N : Int) <= (ck : Int) := by omega
 have hw1 : IntKind.i64.wrap ((F : Int) + (N : Int)) = (F : Int) + (N : Int) := by rw [IntKind.wrap_i64]; omega
 have eL : ((F : Int) + (N : Int)).toNat - F = N := by omega
 clear ho3 hb hgk hcs q3 CW
 go_wp2_with (at_builtin; refine append_many elt8w rfl (.const (.slice none 0 0)) (.tmp 21) rfl rfl (owns_nil _ w.heap.size _ .u8 (fun _ => 0)) rfl R1.out (by unfold maxLen; omega) (by omega) hs3 ?_; intro v' w4 ho4 hg4)
 have ho5 : owns w4 w.heap.size 5 .u8 v' N (fun j => (byteL f (F + j) : Int)) := by
  have h := owns_ext (g := fun j => (byteL f (F + j) : Int)) (fun j _ => by simp) ho4
  rwa [Nat.zero_add] at h
 go_ret
 exact ⟨_, rfl, ho5, P3.out.trans ((Below.refl _ _).grown hg4 hs3 (fun k e => by have h : (none : Option Nat) = some k := e; cases h))⟩
end
section
open Go.RowKit Bt
theorem rotl64_w (x : Nat) (hx : x < 18446744073709551616) (n : Int) (w : World) :
  Calls Tryz.prog 300 #[.int .u64 x, .int .i64 n] w fun e w' => e = .returned (.int .u64 (Bt.rotr 64 x ((-n) % 64).toNat : Nat)) /\ w = w' := by
 obtain ⟨s, hs, he⟩ : ∃ s : Nat, Hid (s = (n % 64).toNat) /\ bits .and .u64 (IntKind.u64.wrap n) 63 = (s : Int) := ⟨_, rfl, and63_u64 n⟩
 have hs' : s <= 63 := by have := hs.out; omega
 go_enter Tryz.func300, Tryz.ntmps300
 go_wp2
 go_ret
 refine ⟨ret_int ?_, rfl⟩
 have e1 : (x : Int) * 2 ^ s % 18446744073709551616 = ((x <<< s % 18446744073709551616 : Nat) : Int) := cast_shl x s 18446744073709551616
 try rw [IntKind.wrap_u64]
 rw [e1, cast_shr, u64_or_nat _ _ (Nat.mod_lt _ (by omega)) (Nat.lt_of_le_of_lt (Nat.shiftRight_le _ _) hx)]
 have h := Bt.rotl_eq (n := 64) (x := x) (s := s) (by simpa using hx) (by omega)
 rw [show (2 : Nat) ^ 64 = 18446744073709551616 from rfl] at h
 rw [h]
 refine congrArg (fun z : Nat => (z : Int)) (Bt.rotr_congr ?_)
 have := hs.out
 omega
theorem turn64_w (x : Nat) (hx : x < 18446744073709551616) (n : Int) (w : World) :
  Calls Tryz.prog 274 #[.int .u64 x, .int .i64 n] w fun e w' => e = .returned (.int .u64 (Bt.rotr 64 x (n % 64).toNat : Nat)) /\ w = w' := by
 obtain ⟨s, hs, he⟩ : ∃ s : Nat, Hid (s = (n % 64).toNat) /\ bits .and .i64 n 63 = (s : Int) := ⟨_, rfl, and63_i64 n⟩
 have hs' : s <= 63 := by have := hs.out; omega
 go_enter Tryz.func274, Tryz.ntmps274
 go_wp2_with (go_at_call 300; refine (rotl64_w _ hx _ _).mono ?_; rintro e w' ⟨rfl, rfl⟩)
 go_ret
 refine ⟨ret_int ?_, rfl⟩
 refine congrArg (fun z : Nat => (z : Int)) (Bt.rotr_congr ?_)
 have := hs.out
 omega
end
section
open Go.RowKit Go.Shelf Bt
attribute [local go_sem] vals_get? vals_get vals_size rowAt_at rowAt_past hasRow_at hasRow_past run_loadRow run_storeCells_row setRow_at setRow_past lt_s2 lt_s3 lt_s4 lt_s5 lt_s6
attribute [local go_sem ↓] loadRow_is
def offL : List Nat := [0, 1, 62, 28, 27, 36, 44, 6, 55, 20, 3, 10, 43, 25, 39, 41, 45, 15, 21, 8, 18, 2, 61, 56, 14]
def offC (j : Nat) : Nat := offL.getD j 0
def rcL : List Nat := [0x0000000000000001, 0x0000000000008082, 0x800000000000808a, 0x8000000080008000, 0x000000000000808b, 0x0000000080000001, 0x8000000080008081, 0x8000000000008009, 0x000000000000008a, 0x0000000000000088, 0x0000000080008009, 0x000000008000000a, 0x000000008000808b, 0x800000000000008b, 0x8000000000008089, 0x8000000000008003, 0x8000000000008002, 0x8000000000000080, 0x000000000000800a, 0x800000008000000a, 0x8000000080008081, 0x8000000000008080, 0x0000000080000001, 0x8000000080008008]
def rcC (j : Nat) : Nat := rcL.getD j 0
structure TabK (w : World) : Prop where
 off : ∀ j, j < 25 -> w.cell? ⟨8, j, none⟩ = some (.int .i64 (offC j : Nat))
 rc : ∀ j, j < 24 -> w.cell? ⟨9, j, none⟩ = some (.int .u64 (rcC j : Nat))
theorem TabK.below {w w1 : World} {B : Nat} (h : TabK w) (hB : w.heap.size <= B) (hb : Below B w w1) : TabK w1 :=
 ⟨fun j hj => by rw [hb.cell (p := ⟨_, j, none⟩) (Nat.lt_of_lt_of_le (cell_lt (h.off j hj)) hB)]; exact h.off j hj, fun j hj => by rw [hb.cell (p := ⟨_, j, none⟩) (Nat.lt_of_lt_of_le (cell_lt (h.rc j hj)) hB)]; exact h.rc j hj⟩
theorem offC_lt (j : Nat) : offC j < 64 := by
 have h : ∀ x ∈ offL, x < 64 := by decide
 unfold offC
 rw [List.getD_eq_getElem?_getD]
 rcases h1 : offL[j]? with _ | y
 ·decide
 ·exact h y (List.mem_of_getElem? h1)
theorem rcC_lt (j : Nat) : rcC j < 18446744073709551616 := by
 have h : ∀ x ∈ rcL, x < 18446744073709551616 := by decide
 unfold rcC
 rw [List.getD_eq_getElem?_getD]
 rcases h1 : rcL[j]? with _ | y
 ·decide
 ·exact h y (List.mem_of_getElem? h1)
theorem at_w (x y : Nat) (hx : x < 5) (hy : y < 5) (w : World) :
  Calls Tryz.prog 301 #[.int .i64 x, .int .i64 y] w fun e w' => e = .returned (.int .i64 (x + 5 * y : Nat)) /\ w = w' := by
 have h1 : ∀ z : Nat, z < 5 -> ((z : Int).tmod 5) = z := fun z hz => by rw [Int.tmod_eq_emod_of_nonneg (by omega)]; omega
 have h2 : ∀ z : Nat, z < 5 -> (((z : Int) + 5).tmod 5) = z := fun z hz => by rw [Int.tmod_eq_emod_of_nonneg (by omega)]; omega
 go_enter Tryz.func301, Tryz.ntmps301
 go_wp2
 go_ret
 refine ⟨ret_int ?_, rfl⟩
 omega
theorem offset_w (x y : Nat) (hx : x < 5) (hy : y < 5) (w : World) (ht : TabK w) :
  Calls Tryz.prog 275 #[.int .i64 x, .int .i64 y] w fun e w' => e = .returned (.int .i64 (offC (x + 5 * y) : Nat)) /\ w = w' := by
 have hlt : x + 5 * y < 25 := by omega
 have h0 := ht.off (x + 5 * y) hlt
 go_enter Tryz.func275, Tryz.ntmps275
 go_wp2_with (go_at_call 301; refine (at_w x y hx hy _).mono ?_; rintro e w' ⟨rfl, rfl⟩)
 go_ret
 exact ⟨rfl, rfl⟩
theorem constant_w (r : Nat) (hr : r < 24) (w : World) (ht : TabK w) :
  Calls Tryz.prog 277 #[.int .i64 r] w fun e w' => e = .returned (.int .u64 (rcC r : Nat)) /\ w = w' := by
 have h0 := ht.rc r hr
 go_enter Tryz.func277, Tryz.ntmps277
 go_wp2
 go_ret
 exact ⟨rfl, rfl⟩
end
end Go.Proofs.YtdobjciaikofdaaGreatDoor
