/- Part 30 of 39 of what the proof of this law needs. Put together by a program out of the texts: Hh Bld Hi Hj Hk. -/
import Derived.Test.YtdobjciaikofdaaGreatDoorTopShakeAll29
import Derived.Test.YtdobjciaikofdaaGreatDoorTopShakeAll27
import Derived.Test.YtdobjciaikofdaaGreatDoorTopShakeAll28
import Derived.Lib.OthersKept
namespace Go.Proofs.YtdobjciaikofdaaGreatDoor
section
open Go.RowKit Go.Shelf Bt
attribute [local go_sem] lt_s2 lt_s3 lt_s4 lt_s5 lt_s6
structure HasS (w : World) (hb a : Nat) (sb : Nat) (s : Spg) : Prop where
 hs : ∃ n1 n2, Hs w hb a n1 n2 sb
 sp : Sp w sb s
 ok : s.Ok
 rd : s.rd = false
theorem HasS.below {w w1 : World} {hb a sb : Nat} {s : Spg} (h : HasS w hb a sb s) (hb1 : Below w.heap.size w w1) : HasS w1 hb a sb s := by
 obtain ⟨⟨n1, n2, h1⟩, h2, h3, h4⟩ := h
 exact ⟨⟨n1, n2, (hb1.block _ (Array.getElem?_eq_some_iff.1 h1).1).trans h1⟩, h2.below (Nat.le_refl _) hb1, h3, h4⟩
theorem one_set {w : World} {b : Nat} {u : Value} {t : TypeId} {fr : Nat × Nat} (h : w.heap[b]? = some (.cells #[u] t fr)) (x : Value) : (w.setCell ⟨b, 0, none⟩ x).heap[b]? = some (.cells #[x] t fr) := by
 unfold World.setCell
 dsimp only
 rw [Array.getElem?_modify, if_pos rfl, h]
 rfl
theorem owns_set {w : World} {b base : Nat} {e : TypeId} {k : IntKind} {v : Value} {n : Nat} {f : Nat -> Int} (h : owns w base e k v n f) (x : Value) (hb : b < base) : owns (w.setCell ⟨b, 0, none⟩ x) base e k v n f :=
 owns_gb h ⟨rfl, rfl, rfl, by simp [World.setCell], fun k hk hr => Below.heap_setCell w _ _ k (fun e => hr (by rw [e]))⟩ hb
section
variable {hb a sb : Nat} {s : Spg} {p : Option Addr} {len cap : Nat} {f : Nat -> Int}
def sumF (a : Nat) (s : Spg) (len : Nat) (f : Nat -> Int) (j : Nat) : Int := if j < len then f j else ((readL s (digC a)).getD (j - len) 0 : Nat)
set_option maxRecDepth 100000 in
set_option maxHeartbeats 2000000 in
theorem sum1_w (pb rb : Nat) (ha : a < 15) (hk : 2 <= kindC a) (hlen : len <= 140737488351232) (w : World) (hp : reads w p len .u8 f) (hh : HasS w hb a sb s) (ht : Tabs w) (hT : TabK w) (c1 : w.cell? ⟨pb, 0, none⟩ = some (.slice p len cap)) {u : Value} {t : TypeId} (hr : w.heap[rb]? = some (.cells #[u] t (0, 0))) :
  Calls Tryz.prog 221 #[.pointer (some ⟨hb, 0, none⟩), .pointer (some ⟨pb, 0, none⟩), .pointer (some ⟨rb, 0, none⟩)] w fun e w' => e = .returned (.int .i64 0) /\ ∃ v, w'.heap[rb]? = some (.cells #[v] t (0, 0)) /\ owns w' w.heap.size 5 .u8 v (len + digC a) (sumF a s len f) /\ w.grownBy w' (some rb) := by
 obtain ⟨⟨n1, n2, h1⟩, h2, h3, h4⟩ := hh
 have CS : Hid (Calls Tryz.prog 9 #[.pointer (some ⟨hb, 0, none⟩), .slice p len cap] w fun e w' => ∃ v, e = .returned (.tuple #[v, .int .i64 0]) /\ owns w' w.heap.size 5 .u8 v (len + digC a) (sumF a s len f) /\ Below w.heap.size w w') := Lib.hid (hsum_w ha hk s h3 h4 p len cap f hlen w hp h1 h2 ht hT)
 have HR := Lib.hid hr
 have hrl := (Array.getElem?_eq_some_iff.1 hr).1
 clear h1 h2 h3 h4 ht hT hp hk hr
 go_enter Tryz.func221, Tryz.ntmps221
 go_wp2_with (go_at_call 9; (with_reducible refine CS.out.mono ?_); rintro e w1 ⟨v, rfl, O1, B1⟩; obtain ⟨av, cv, rfl, _, _, _⟩ := owns_reads O1; have R1 := Lib.hid ((B1.block _ hrl).trans HR.out); have d0 := cell_of_row w1 rb 0 _ _ _ R1.out; have f0 := Lib.frozen_of_heap R1.out 0; have Q := Lib.hid (And.intro O1 B1); clear O1 B1)
 go_ret
 exact ⟨rfl, _, one_set R1.out _, owns_set Q.out.1 _ hrl, ⟨Q.out.2.os, Q.out.2.tape, Q.out.2.output, by simpa [World.setCell] using Q.out.2.size, fun k hk hr => (Below.heap_setCell w1 _ _ k (fun e => hr (by rw [e]))).trans (Q.out.2.block k hk)⟩⟩
set_option maxRecDepth 100000 in
set_option maxHeartbeats 2000000 in
theorem withSum_w (db mb pb rb : Nat) (ck : Nat) (ha : a < 15) (hk : 2 <= kindC a) (hlen : len <= 140737488351232) (w : World) (hp : reads w p len .u8 f) (hh : HasS w hb a sb s) (ht : Tabs w) (hT : TabK w) (hd : Dk w db mb 1 #[⟨.int .i64 1, .pointer (some ⟨hb, 0, none⟩), ck⟩] 1) (c1 : w.cell? ⟨pb, 0, none⟩ = some (.slice p len cap)) {u : Value} {t : TypeId} (hr : w.heap[rb]? = some (.cells #[u] t (0, 0))) :
  Calls Tryz.prog 217 #[.pointer (some ⟨db, 0, none⟩), .int .i64 1, .func (.func 221) #[] #[.pointer (some ⟨pb, 0, none⟩), .pointer (some ⟨rb, 0, none⟩)]] w fun e w' => e = .returned (.int .i64 0) /\ ∃ v, w'.heap[rb]? = some (.cells #[v] t (0, 0)) /\ owns w' w.heap.size 5 .u8 v (len + digC a) (sumF a s len f) /\ w.grownBy w' (some rb) := by
 have CS : Hid (Calls Tryz.prog 221 #[.pointer (some ⟨hb, 0, none⟩), .pointer (some ⟨pb, 0, none⟩), .pointer (some ⟨rb, 0, none⟩)] w fun e w' => e = .returned (.int .i64 0) /\ ∃ v, w'.heap[rb]? = some (.cells #[v] t (0, 0)) /\ owns w' w.heap.size 5 .u8 v (len + digC a) (sumF a s len f) /\ w.grownBy w' (some rb)) := Lib.hid (sum1_w pb rb ha hk hlen w hp hh ht hT c1 hr)
 obtain ⟨d0, _, _⟩ := hd.cells
 have hu := run_lookup_hit (T := 167) (v := .pointer (some ⟨hb, 0, none⟩)) (key := 1) (ok := true) Tryz.underlying167 Tryz.underlying3 hd.m (i := 0) (by rfl)
 clear hd hp hh ht hT c1 hr hk
 go_enter Tryz.func217, Tryz.ntmps217
 go_wp2_with (go_at_call 221; (with_reducible refine CS.out.mono ?_); rintro e w1 ⟨rfl, Q⟩)
 go_ret
 exact ⟨rfl, Q⟩
set_option maxRecDepth 100000 in
set_option maxHeartbeats 2000000 in
theorem dsum_w (db mb : Nat) (ck : Nat) (ha : a < 15) (hk : 2 <= kindC a) (hlen : len <= 140737488351232) (w : World) (hp : reads w p len .u8 f) (hh : HasS w hb a sb s) (ht : Tabs w) (hT : TabK w) (hd : Dk w db mb 1 #[⟨.int .i64 1, .pointer (some ⟨hb, 0, none⟩), ck⟩] 1) :
  Calls Tryz.prog 156 #[.pointer (some ⟨db, 0, none⟩), .int .i64 1, .slice p len cap] w fun e w' => ∃ v, e = .returned (.tuple #[v, .int .i64 0]) /\ owns w' w.heap.size 5 .u8 v (len + digC a) (sumF a s len f) /\ Below w.heap.size w w' := by
 have B0 : Below w.heap.size w ((w.alloc (.cells #[.slice p len cap] 22)).alloc (.cells #[.slice none 0 0] 22)) := bl_alloc (bl_alloc (bl_refl w))
 have CW := Lib.hid (withSum_w (a := a) (s := s) (p := p) (len := len) (cap := cap) (f := f) (hb := hb) (sb := sb) db mb w.heap.size (w.heap.size + 1) ck ha hk hlen ((w.alloc (.cells #[.slice p len cap] 22)).alloc (.cells #[.slice none 0 0] 22)) (reads_below (Nat.le_refl _) B0 hp) (hh.below B0) (ht.below B0) (hT.below (Nat.le_refl _) B0) (hd.below B0) (cell_of_row _ _ 0 _ _ _ (heap_past _ _ _ _ (by simp) (heap_at _ _ _ rfl))) (u := .slice none 0 0) (t := 22) (heap_at _ _ _ (by simp)))
 clear hp hh ht hT hd
 go_enter Tryz.func156, Tryz.ntmps156
 go_wp2_with (go_at_call 217; (with_reducible refine CW.out.mono ?_); rintro e w1 ⟨rfl, v, q1, q2, q3⟩; obtain ⟨av, cv, rfl, _, _, _⟩ := owns_reads q2; have d0 := cell_of_row w1 (w.heap.size + 1) 0 _ _ _ q1; have f0 := Lib.frozen_of_heap q1 0; have Q1 := Lib.hid q1; have Q2 := Lib.hid q2; have Q3 := Lib.hid q3; clear q1 q2 q3)
 have k1 := cell_of_row (w1.setCell ⟨w.heap.size + 1, 0, none⟩ (.slice av (len + digC a) cv)) (w.heap.size + 1) 0 _ _ _ (one_set Q1.out _)
 refine bodyPost_ret (v := .tuple #[.slice av (len + digC a) cv, .int .i64 0]) (by simp [results, Tryz.results156, go_sem, k1]) rfl ⟨_, rfl, owns_base (by simp; omega) (owns_set Q2.out _ (by simp)), ?_⟩
 have B2 : Below w.heap.size ((w.alloc (.cells #[.slice p len cap] 22)).alloc (.cells #[.slice none 0 0] 22)) w1 := below_own Q3.out (by omega) (by simp; omega)
 exact (B0.trans B2).setCell (p := ⟨w.heap.size + 1, 0, none⟩) (by simp) _
end
end
section
open Go.RowKit Go.Shelf Bt
def Bd (B b : Nat) (bs : List Value) (w : World) : Prop := Lib.IsBuilder 106 5 B b bs w
def BdA (B b : Nat) (bs : List Value) (w : World) : Prop := Lib.BuilderAt 106 5 B b (.pointer (some ⟨b, 0, none⟩)) bs w
theorem sizeBd : (Tryz.prog.info? 106).map (·.size) = some 2 := by kernel_rfl
theorem liesBd : liesAt Tryz.prog Tryz.prog.depth 106 (2 / Tryz.prog.cellsOf 106) 0 106 1 = true := by kernel_rfl
theorem infoBy : (Tryz.prog.info? 5).map (fun i => (i.zero, i.size, i.bytes)) = some (some (.int .u8 0), 1, 1) := by kernel_rfl
set_option maxHeartbeats 1000000 in
set_option maxRecDepth 100000 in
theorem ccheck_used (b : Nat) (w : World) (h0 : w.cell? ⟨b, 0, none⟩ = some (.pointer (some ⟨b, 0, none⟩))) :
  Calls Tryz.prog 98 #[.pointer (some ⟨b, 0, none⟩)] w fun e w' => e = .returned (.tuple #[]) /\ w' = w := by
 obtain ⟨j, hj, _⟩ := Option.map_eq_some_iff.1 sizeBd
 go_enter Tryz.func98, Tryz.ntmps98
 go_wp2
 rw [Lib.run_neq_ptr_same w _ Tryz.underlying104 hj]
 go_wp2
 go_end0
 exact ⟨rfl, rfl⟩
set_option maxHeartbeats 1000000 in
set_option maxRecDepth 100000 in
theorem ccheck_fresh (b : Nat) (w : World) (h0 : w.cell? ⟨b, 0, none⟩ = some (.pointer none)) (hsh : w.shape? b = some (106, 2)) (hfz : w.frozen? ⟨b, 0, none⟩ = false) :
  Calls Tryz.prog 98 #[.pointer (some ⟨b, 0, none⟩)] w fun e w' => e = .returned (.tuple #[]) /\ w' = w.setCell ⟨b, 0, none⟩ (.pointer (some ⟨b, 0, none⟩)) := by
 obtain ⟨j, hj, hjs⟩ := Option.map_eq_some_iff.1 sizeBd
 go_enter Tryz.func98, Tryz.ntmps98
 go_wp2
 rw [Lib.run_to_unsafe w ⟨b, 0, none⟩ Tryz.underlying104 Tryz.underlying234 hj (by rw [hjs]; decide) hsh (Nat.zero_lt_succ 1)]
 simp only [Result.andThen]
 rw [Oper.upon_value]
 go_wp2
 rw [run_callFunc_extern Tryz.func144 (by kernel_rfl) (by kernel_rfl) (by kernel_rfl) (e := Extern.AbiNoEscape.same) (by kernel_rfl)]
 rw [Lib.run_noEscape]
 simp only [Result.andThen]
 rw [Oper.upon_value]
 go_wp2
 rw [Lib.run_from_unsafe w ⟨b, 0, none⟩ Tryz.underlying234 Tryz.underlying104 hj hsh liesBd]
 simp only [Result.andThen]
 rw [Oper.upon_value]
 go_wp2
 go_end0
 exact ⟨rfl, rfl⟩
theorem ccheck_w (B b : Nat) (bs : List Value) (w : World) (h : Bd B b bs w) :
  Calls Tryz.prog 98 #[.pointer (some ⟨b, 0, none⟩)] w fun e w' => e = .returned (.tuple #[]) /\ BdA B b bs w' /\ Below B w w' := by
 rcases h with h | h
 ·refine (ccheck_fresh b w h.cell0 h.shape h.frozen0).mono ?_
  rintro e w' ⟨rfl, rfl⟩
  exact ⟨rfl, h.used _, (Below.refl B w).setCell (p := ⟨b, 0, none⟩) h.1 _⟩
 ·refine (ccheck_used b w h.cell0).mono ?_
  rintro e w' ⟨rfl, rfl⟩
  exact ⟨rfl, h, Below.refl B _⟩
set_option maxHeartbeats 2000000 in
set_option maxRecDepth 100000 in
theorem writeByte_w (B b : Nat) (bs : List Value) (c : Int) (w : World) (h : Bd B b bs w) (hlen : bs.length + 1 <= 140737488355328) (hBw : B <= w.heap.size) :
  Calls Tryz.prog 264 #[.pointer (some ⟨b, 0, none⟩), .int .u8 c] w fun e w' => e = .returned .nilIface /\ Bd B b (bs ++ [.int .u8 c]) w' /\ Below B w w' := by
 obtain ⟨i0, hi, hz0, hz1, hz2⟩ := info_parts infoBy
 have e240 : ∀ args w, (callFunc 98 args).run Tryz.prog w = .ok (.enter 98 args) w := enters_of Tryz.func98 (by kernel_rfl) rfl
 go_enter Tryz.func264, Tryz.ntmps264
 go_wp2_with (go_at_call 98; fail)
 refine (ccheck_w B b bs _ h).mono ?_
 rintro e w1 ⟨rfl, h1, hb1⟩
 obtain ⟨hB, v, hbk, hown, hne⟩ := h1
 have c0 : w1.cell? ⟨b, 0, none⟩ = some (.pointer (some ⟨b, 0, none⟩)) := by rw [Lib.cell_of_heap hbk]; rfl
 have c1 : w1.cell? ⟨b, 1, none⟩ = some v := by rw [Lib.cell_of_heap hbk]; rfl
 go_wp2_with (at_builtin; refine wpList_append_own _ rfl _ _ 22 rfl B 5 i0 (.int .u8 0) 1 1 Tryz.underlying22 hi hz0 hz1 hz2 rfl (by decide) _ _ _ rfl (hown.alloc _) ⟨w1.heap.size, 0, none⟩ 1 1 [.int .u8 c] rfl rfl ?c1 ?c2 ?c3 ?c4 ?c5 ?_)
 case c1 =>
  intro j u hj
  match j, hj with
  | 0, hj => simp at hj; subst hj; simp [Addr.add]
 case c2 => intro u hu; simp at hu; subst hu; rfl
 case c3 => unfold maxLen; omega
 case c4 => omega
 case c5 => have := hb1.size; simp; omega
 intro v' w2 hown' hgrow _
 have hlt : b < w1.heap.size := by
  rcases Nat.lt_or_ge b w1.heap.size with h' | h'
  ·exact h'
  ·simp [Array.getElem?_eq_none h'] at hbk
 have hb2 : w2.heap[b]? = some (.cells #[.pointer (some ⟨b, 0, none⟩), v] 106 (0, 0)) := by
  rw [hgrow.block b (by simp; omega) (fun e => hne e.symm), Lib.alloc_old w1 _ b hlt]
  exact hbk
 have d0 : w2.cell? ⟨b, 0, none⟩ = some (.pointer (some ⟨b, 0, none⟩)) := by rw [Lib.cell_of_heap hb2]; rfl
 have d1 : w2.cell? ⟨b, 1, none⟩ = some v := by rw [Lib.cell_of_heap hb2]; rfl
 have f1 : w2.frozen? ⟨b, 1, none⟩ = false := Lib.frozen_of_heap hb2 1
 obtain ⟨g, cap, rfl⟩ : ∃ g cap, v' = .slice (some ⟨g, 0, none⟩) (bs.length + 1) cap := by
  rcases hown'.2 with ⟨_, h0⟩ | ⟨g, cap, cur, hv, _⟩
  ·omega
  ·exact ⟨g, cap, hv⟩
 go_wp2
 go_ret
 refine ⟨rfl, .inr ?_, ?_⟩
 ·exact Lib.BuilderAt.put (T := 106) (e := 5) hB hb2 (bs' := bs ++ [.int .u8 c]) (by simpa using hown') (by decide)
 ·exact ((hb1.alloc (by have := hb1.size; omega) _).grown hgrow (by have := hb1.size; simp; omega) (fun k hk => (hown.lt k hk).1)).setCell (p := ⟨b, 1, none⟩) hB _
end
section
open Go.RowKit Go.Shelf Bt
attribute [local go_sem] lt_s2 lt_s3 lt_s4 lt_s5 lt_s6
def decW (n : Nat) : ByteArray := ⟨(Lib.decDigits n).toArray⟩
theorem number_w (n : Nat) (hn : n < 100) (w : World) : Calls Tryz.prog 96 #[.int .u64 n] w fun e w' => e = .returned (.string (decW n)) /\ w = w' := by
 have CS : Hid (∀ w, Calls Tryz.prog 258 #[.int .i64 n] w fun e w' => e = .returned (.string (decW n)) /\ w = w') := Lib.hid fun w => (Tryz.internal_strconv_small n hn w).mono fun _ _ ⟨h1, h2⟩ => ⟨h1, h2.symm⟩
 have h1 : (n : Int) < 100 := by omega
 have h2 : IntKind.i64.wrap (n : Int) = (n : Int) := by rw [IntKind.wrap_i64]; omega
 have CF : Hid (∀ w, Calls Tryz.prog 214 #[.int .u64 n, .int .i64 10] w fun e w' => e = .returned (.string (decW n)) /\ w = w') := Lib.hid fun w => by
  go_enter Tryz.func214, Tryz.ntmps214
  go_wp2_with (go_at_call 258; (with_reducible refine (CS.out _).mono ?_); rintro e w1 ⟨rfl, rfl⟩)
  go_ret
  exact ⟨rfl, rfl⟩
 have CG : Hid (∀ w, Calls Tryz.prog 142 #[.int .u64 n, .int .i64 10] w fun e w' => e = .returned (.string (decW n)) /\ w = w') := Lib.hid fun w => by
  go_enter Tryz.func142, Tryz.ntmps142
  go_wp2_with (go_at_call 214; (with_reducible refine (CF.out _).mono ?_); rintro e w1 ⟨rfl, rfl⟩)
  go_ret
  exact ⟨rfl, rfl⟩
 go_enter Tryz.func96, Tryz.ntmps96
 go_wp2_with (go_at_call 142; (with_reducible refine (CG.out _).mono ?_); rintro e w1 ⟨rfl, rfl⟩)
 go_ret
 exact ⟨rfl, rfl⟩
theorem ta_int (n : Int) (w : World) : (Instr.typeAssert (.iface 3 (.int .i64 n)) 20 3 true).run Tryz.prog w = .ok (.tuple #[.int .i64 n, .bool true]) w := by kernel_rfl
theorem ta_bytes0 (v : Value) (w : World) : (Instr.typeAssert (.iface 22 v) 20 3 true).run Tryz.prog w = .ok (.tuple #[.int .i64 0, .bool false]) w := by kernel_rfl
theorem ta_bytes1 (v : Value) (w : World) : (Instr.typeAssert (.iface 22 v) 20 22 true).run Tryz.prog w = .ok (.tuple #[v, .bool true]) w := by kernel_rfl
attribute [local go_sem] ta_int ta_bytes0 ta_bytes1
theorem numbered_w (n : Nat) (hn : n < 100) (w : World) : Calls Tryz.prog 146 #[.int .i64 n, .int .i64 0] w fun e w' => e = .returned (.string (decW n)) /\ w = w' := by
 have CN : Hid (∀ w, Calls Tryz.prog 96 #[.int .u64 n] w fun e w' => e = .returned (.string (decW n)) /\ w = w') := Lib.hid (number_w n hn)
 have h2 : IntKind.u64.wrap (n : Int) = (n : Int) := by rw [IntKind.wrap_u64]; omega
 have CT : Hid (∀ w, Calls Tryz.prog 160 #[.iface 3 (.int .i64 n), .int .i64 0] w fun e w' => e = .returned (.string (decW n)) /\ w = w') := Lib.hid fun w => by
  go_enter Tryz.func160, Tryz.ntmps160
  go_wp2_with (go_at_call 96; (with_reducible refine (CN.out _).mono ?_); rintro e w1 ⟨rfl, rfl⟩)
  go_ret
  exact ⟨rfl, rfl⟩
 go_enter Tryz.func146, Tryz.ntmps146
 go_wp2_with (go_at_call 160; (with_reducible refine (CT.out _).mono ?_); rintro e w1 ⟨rfl, rfl⟩)
 go_ret
 exact ⟨rfl, rfl⟩
def hexD (k : Nat) : Nat := [48, 49, 50, 51, 52, 53, 54, 55, 56, 57, 97, 98, 99, 100, 101, 102].getD k 0
theorem hexB_is (k : Nat) (h : k < (⟨#[48, 49, 50, 51, 52, 53, 54, 55, 56, 57, 97, 98, 99, 100, 101, 102]⟩ : ByteArray).size) : ((⟨#[48, 49, 50, 51, 52, 53, 54, 55, 56, 57, 97, 98, 99, 100, 101, 102]⟩ : ByteArray)[k]'h).toNat = hexD k := by
 have h : k < 16 := h
 obtain rfl | rfl | rfl | rfl | rfl | rfl | rfl | rfl | rfl | rfl | rfl | rfl | rfl | rfl | rfl | rfl : k = 0 \/ k = 1 \/ k = 2 \/ k = 3 \/ k = 4 \/ k = 5 \/ k = 6 \/ k = 7 \/ k = 8 \/ k = 9 \/ k = 10 \/ k = 11 \/ k = 12 \/ k = 13 \/ k = 14 \/ k = 15 := by omega
 all_goals rfl
theorem hexD_lt (k : Nat) : hexD k < 256 := by
 by_cases h : k < 16
 ·obtain rfl | rfl | rfl | rfl | rfl | rfl | rfl | rfl | rfl | rfl | rfl | rfl | rfl | rfl | rfl | rfl : k = 0 \/ k = 1 \/ k = 2 \/ k = 3 \/ k = 4 \/ k = 5 \/ k = 6 \/ k = 7 \/ k = 8 \/ k = 9 \/ k = 10 \/ k = 11 \/ k = 12 \/ k = 13 \/ k = 14 \/ k = 15 := by omega
  all_goals decide
 ·unfold hexD
  rw [List.getD_eq_getElem?_getD, List.getElem?_eq_none (by simp; omega)]
  decide
def hexL (f : Nat -> Nat) : Nat -> List UInt8
 | 0 => []
 | n + 1 => hexL f n ++ [(hexD (f n / 16)).toUInt8, (hexD (f n % 16)).toUInt8]
theorem hexL_length (f : Nat -> Nat) : ∀ n, (hexL f n).length = 2 * n
 | 0 => rfl
 | n + 1 => by rw [hexL, List.length_append, hexL_length f n]; simp; omega
theorem hexL_cells (f : Nat -> Nat) (k : Nat) : Lib.byteCells (hexL f k) ++ [Value.int .u8 (hexD (f k / 16) : Nat)] ++ [Value.int .u8 (hexD (f k % 16) : Nat)] = Lib.byteCells (hexL f (k + 1)) := by
 have e : ∀ n, ((hexD n).toUInt8).toNat = hexD n := fun n => by have := hexD_lt n; simp; omega
 simp [hexL, Lib.byteCells, e]
set_option maxRecDepth 100000 in
set_option maxHeartbeats 2000000 in
theorem put_hex (p : Option Addr) (len cap : Nat) (h0 : 0 < len) (hlen : len <= 1000000) (f : Nat -> Nat) (hf : ∀ j, j < len -> f j < 256) (w : World) (hp : reads w p len .u8 (fun j => (f j : Int))) :
  Calls Tryz.prog 223 #[.slice p len cap] w fun e w' => e = .returned (.string ⟨(hexL f len).toArray⟩) /\ Below w.heap.size w w' := by
 have HP := Lib.hid hp
 obtain ⟨ib, off, rfl, _⟩ := hp h0
 have hne : ¬ (len : Int) = 0 := by omega
 have CW : Hid (∀ (bs : List Value) (c : Int) (W : World), Bd w.heap.size w.heap.size bs W -> bs.length + 1 <= 140737488355328 -> w.heap.size <= W.heap.size -> Calls Tryz.prog 264 #[.pointer (some ⟨w.heap.size, 0, none⟩), .int .u8 c] W fun e w' => e = .returned .nilIface /\ Bd w.heap.size w.heap.size (bs ++ [.int .u8 c]) w' /\ Below w.heap.size W w') := Lib.hid fun bs c W => writeByte_w w.heap.size w.heap.size bs c W
 go_enter Tryz.func223, Tryz.ntmps223
 have HF := Lib.hid hf
 have HL := Lib.hid hlen
 clear hp hf
 go_wp2
 go_loopw [11] (fun i wr => ∃ k : Nat, k <= len /\ i = .int .i64 k /\ Hid (Bd w.heap.size w.heap.size (Lib.byteCells (hexL f k)) wr /\ Below w.heap.size w wr)) (fun i _ => len - (intOf i).toNat)
 case atStart => exact ⟨0, Nat.zero_le _, rfl, Lib.hid ⟨.inl ⟨Nat.le_refl _, .slice none 0 0, heap_at _ _ _ rfl, World.ownsRow_nil _ _ _ _, by simp [Value.ownBlock]⟩, bl_alloc (bl_refl w)⟩⟩
 case round =>
  obtain ⟨k, hk, rfl, HI⟩ := hrel
  by_cases hlt : k < len
  ·have hli : (k : Int) < (len : Int) := by omega
   have hc : wr.cell? ⟨ib, off + k, none⟩ = some (.int .u8 (f k : Nat)) := by
    obtain ⟨b2, o2, e, hc⟩ := HP.out h0
    cases e
    exact (HI.out.2.cell (p := ⟨ib, off + k, none⟩) (cell_lt (hc k hlt))).trans (hc k hlt)
   have hck := HF.out k hlt
   go_wp2_with (go_at_call 264; fail)
   refine (CW.out _ _ _ HI.out.1 ?_ HI.out.2.size).mono ?_
   ·have := HL.out
    rw [Lib.byteCells_length, hexL_length]
    omega
   rintro e w1 ⟨rfl, b1, g1⟩
   simp only [hexB_is] at b1
   have B1 := Lib.hid (And.intro b1 g1)
   clear b1 g1
   go_wp2_with (go_at_call 264; fail)
   refine (CW.out _ _ _ B1.out.1 ?_ (Nat.le_trans HI.out.2.size B1.out.2.size)).mono ?_
   ·have := HL.out
    rw [List.length_append, Lib.byteCells_length, hexL_length]
    simp
    omega
   rintro e w2 ⟨rfl, b2, g2⟩
   simp only [hexB_is] at b2
   rw [hexL_cells] at b2
   have B2 := Lib.hid (And.intro b2 (HI.out.2.trans (B1.out.2.trans g2)))
   clear b2 g2
   go_wp2_with fail
   go_roundw
   case rel => exact ⟨k + 1, by omega, by go_num, B2⟩
   case measure => simp [intOf]; omega
  ·obtain rfl : k = len := by omega
   go_wp2_with (go_at_call 56; refine (Tryz.Builder_String_any w.heap.size w.heap.size (hexL f k) wr HI.out.1 HI.out.2.size).mono ?_; rintro e w3 ⟨rfl, g3⟩; have B3 := Lib.hid (HI.out.2.trans g3); clear g3)
   go_ret
   exact ⟨rfl, B3.out⟩
theorem laden_w (p : Option Addr) (len cap : Nat) (h0 : 0 < len) (hlen : len <= 1000000) (f : Nat -> Nat) (hf : ∀ j, j < len -> f j < 256) (w : World) (hp : reads w p len .u8 (fun j => (f j : Int))) :
  Calls Tryz.prog 155 #[.slice p len cap, .int .i64 0] w fun e w' => e = .returned (.string ⟨(hexL f len).toArray⟩) /\ Below w.heap.size w w' := by
 have CP : Hid (Calls Tryz.prog 223 #[.slice p len cap] w fun e w' => e = .returned (.string ⟨(hexL f len).toArray⟩) /\ Below w.heap.size w w') := Lib.hid (put_hex p len cap h0 hlen f hf w hp)
 clear hp hf
 have CT : Hid (Calls Tryz.prog 160 #[.iface 22 (.slice p len cap), .int .i64 0] w fun e w' => e = .returned (.string ⟨(hexL f len).toArray⟩) /\ Below w.heap.size w w') := Lib.hid (by
  go_enter Tryz.func160, Tryz.ntmps160
  go_wp2_with (go_at_call 223; (with_reducible refine CP.out.mono ?_); rintro e w1 ⟨rfl, hB⟩)
  go_ret
  exact ⟨rfl, hB⟩)
 go_enter Tryz.func155, Tryz.ntmps155
 go_wp2_with (go_at_call 160; (with_reducible refine CT.out.mono ?_); rintro e w1 ⟨rfl, hB⟩)
 go_ret
 exact ⟨rfl, hB⟩
end
section
open Go.RowKit Go.Shelf Bt
attribute [local go_sem] lt_s2 lt_s3 lt_s4 lt_s5 lt_s6
section
variable {P : Program} {ops : Array Oper} {rest : List Oper} {o : Oper} {a : Act} {w : World} {Q : Exit -> Act -> World -> Prop}
theorem append_oneG {T e : TypeId} {bytes : Nat} (hT : EltT P T e bytes) (hgd : o.guard = none) (s x : Operand) (ho : o.op = .call { callee := .builtin .append, args := #[s, x], argTypes := #[T, T] })
  {base : Nat} {k : IntKind} {v : Value} {n : Nat} {f : Nat -> Int} (hs : a.eval s = v) {w1 : World} (hown : owns w1 base e k v n f) {y : Int}
  (hx : a.eval x = .slice (some ⟨w1.heap.size, 0, none⟩) 1 1) (hw : w = w1.alloc (.cells #[.int k y] e)) (hn : n + 1 <= maxLen) (hby : (n + 1) * bytes <= 140737488355328) (hbase : base <= w1.heap.size)
  (h : ∀ v' w', owns w' base e k v' (n + 1) (fun j => if j < n then f j else y) -> Below base w1 w' -> (w1.alloc (.cells #[.int k y] e)).grownBy w' v.ownBlock -> wpList P ops Q rest (a.put o.dst v') w') : wpList P ops Q (o :: rest) a w := by
 subst hw
 obtain ⟨hu, i, z, hi, hz, h1, h2, h3⟩ := hT
 refine wpList_append_own _ hgd s x T ho base e i z 1 bytes hu hi hz h1 h2 h3 (by decide) v n (vals k n f).toList hs (hown.alloc _) ⟨w1.heap.size, 0, none⟩ 1 1 [.int k y] hx rfl (cell_one_new _ _ _) (by simp [Value.oneCell']) hn hby (by simp; omega) ?_
 intro v' w' h' hg _
 refine h v' w' ?_ ?_ hg
 ·unfold owns
  rw [<- vals_snoc]
  exact h'
 ·have hbl : Below base w1 (w1.alloc (.cells #[.int k y] e)) := (Below.refl _ _).alloc hbase _
  refine hbl.grown hg (by simp; omega) fun r hr => ?_
  rcases hown.2 with ⟨rfl, _⟩ | ⟨g, cap, cur, rfl, hb, _⟩
  ·simp [Value.ownBlock] at hr
  ·simp [Value.ownBlock] at hr; omega
end
theorem iter_kept {w1 w' : World} {base it : Nat} {e : TypeId} {k : IntKind} {v : Value} {n : Nat} {f : Nat -> Int} {o : Obj} {s : ByteArray} {p : Nat} (ho : owns w1 base e k v n f) (hi : w1.heap[it]? = some (.stringIter s p)) (hg : (w1.alloc o).grownBy w' v.ownBlock) : w'.heap[it]? = some (.stringIter s p) := by
 have hl := (Array.getElem?_eq_some_iff.1 hi).1
 rw [hg.block it (by simp; omega) ?_, Below.heap_alloc _ _ _ hl]
 ·exact hi
 ·intro e1
  rcases ho.2 with ⟨rfl, _⟩ | ⟨g, cap, cur, rfl, _, hgg, _⟩
  ·cases e1
  ·have e2 : some it = some g := e1
   cases e2
   rw [hi] at hgg
   cases hgg
theorem get_dash (w : World) : Calls Tryz.prog 282 #[.string ⟨#[45]⟩] w fun e w' => e = .returned (.tuple #[.slice none 0 0, .bool true]) /\ w = w' := by
 go_enter Tryz.func282, Tryz.ntmps282
 go_wp2
 go_ret2
 exact ⟨rfl, rfl⟩
def s6 : ByteArray := ⟨#[54, 49, 54, 50, 54, 51]⟩
def halfC (k : Nat) : Nat := [0, 6, 1, 6, 2, 6, 3].getD k 0
def abcC (k : Nat) : Nat := [97, 98, 99].getD k 0
theorem owns_alloc {w : World} {base : Nat} {e : TypeId} {k : IntKind} {v : Value} {n : Nat} {f : Nat -> Int} (h : owns w base e k v n f) (o : Obj) : owns (w.alloc o) base e k v n f := owns_below (Nat.le_refl _) ((Below.refl _ _).alloc (Nat.le_refl _) o) h
theorem iter_on {w0 w : World} {e : TypeId} {k : IntKind} {v : Value} {n it p : Nat} {f : Nat -> Int} {s : ByteArray} (h : owns w w0.heap.size e k v n f /\ w.heap[w0.heap.size + it]? = some (.stringIter s p) /\ Below w0.heap.size w0 w) (q : Nat) : owns (w.iterAt (w0.heap.size + it) s q) w0.heap.size e k v n f /\ (w.iterAt (w0.heap.size + it) s q).heap[w0.heap.size + it]? = some (.stringIter s q) /\ Below w0.heap.size w0 (w.iterAt (w0.heap.size + it) s q) := by
 obtain ⟨h1, h2, h3⟩ := h
 refine ⟨?_, Lib.iterAt_heap w _ s p q h2, Lib.below_iterAt h3 (by omega) s q⟩
 refine World.ownsRow.kept (row := some (w0.heap.size + it)) h1 ⟨rfl, rfl, rfl, by rw [Lib.iterAt_size]; exact Nat.le_refl _, fun k hk hr => Lib.iterAt_other w _ k s q (fun e => hr (by rw [e]))⟩ ?_
 rcases h1.2 with ⟨rfl, _⟩ | ⟨g, cap, cur, rfl, _, hg, _⟩
 ·exact .inl rfl
 ·refine .inr (fun e => ?_)
  have e2 : some g = some (w0.heap.size + it) := e
  cases e2
  rw [h2] at hg
  cases hg
set_option maxRecDepth 100000 in
set_option maxHeartbeats 2000000 in
theorem get_abc (w : World) : Calls Tryz.prog 282 #[.string s6] w fun e w' => ∃ v, e = .returned (.tuple #[v, .bool true]) /\ owns w' w.heap.size 5 .u8 v 3 (fun j => (abcC j : Int)) /\ Below w.heap.size w w' := by
 have hs : s6.size = 6 := rfl
 have CI : Hid (∀ (r : Int) (n : Int) (W : World), 0 <= r -> r < 128 -> Lib.indexByte [48, 49, 50, 51, 52, 53, 54, 55, 56, 57, 97, 98, 99, 100, 101, 102] r.toNat.toUInt8 = n -> Calls Tryz.prog 306 #[.string ⟨#[48, 49, 50, 51, 52, 53, 54, 55, 56, 57, 97, 98, 99, 100, 101, 102]⟩, .int .i32 r] W fun e w' => e = .returned (.int .i64 n) /\ w' = W) := Lib.hid fun r n W h0 h1 h2 => by
  have := Tryz.strings_IndexRune_ascii ⟨#[48, 49, 50, 51, 52, 53, 54, 55, 56, 57, 97, 98, 99, 100, 101, 102]⟩ r W h0 h1
  rw [show Lib.indexByte (⟨#[48, 49, 50, 51, 52, 53, 54, 55, 56, 57, 97, 98, 99, 100, 101, 102]⟩ : ByteArray).data.toList r.toNat.toUInt8 = n from h2] at this
  exact this
 have hl : s6.toList = [54, 49, 54, 50, 54, 51] := by kernel_rfl
 have n1 : (s6.toList == [45]) = false := by rw [hl]; rfl
 have n2 : s6.toList.isEmpty = false := by rw [hl]; rfl
 have mk : ∀ W, (Instr.makeSlice 22 (.int .i64 0) (.int .i64 3)).run Tryz.prog W = .ok (.slice (some ⟨W.heap.size, 0, none⟩) 0 3) (W.alloc (.cells #[.int .u8 0, .int .u8 0, .int .u8 0] 5)) := fun W => by kernel_rfl
 clear hl
 go_enter Tryz.func282, Tryz.ntmps282
 go_wp2
 clear mk n1 n2
 go_loopw [4, 5] (fun o h wr => ∃ (k : Nat) (ao : Option Addr) (co : Nat), k <= 6 /\ o = .slice ao (k / 2) co /\ h = .int .i64 (halfC k : Nat) /\ Hid (owns wr w.heap.size 5 .u8 (.slice ao (k / 2) co) (k / 2) (fun j => (abcC j : Int)) /\ wr.heap[w.heap.size + 1]? = some (.stringIter s6 k) /\ Below w.heap.size w wr)) (fun o h wr => 6 - wr.iterPos (w.heap.size + 1))
 case atStart => exact ⟨0, _, _, by omega, rfl, rfl, Lib.hid ⟨owns_alloc (World.ownsRow_made w #[.int .u8 0, .int .u8 0, .int .u8 0] 3 (Nat.le_refl _) (by decide) rfl) _, heap_at _ _ _ (by simp), bl_alloc (bl_alloc (bl_refl w))⟩⟩
 case round =>
  obtain ⟨k, ao, co, hk, rfl, rfl, HI⟩ := hrel
  obtain rfl | rfl | rfl | rfl | rfl | rfl | rfl : k = 0 \/ k = 1 \/ k = 2 \/ k = 3 \/ k = 4 \/ k = 5 \/ k = 6 := by omega
  ·have hn := Lib.run_next_ascii_at (P := Tryz.prog) wr (w.heap.size + 1) s6 0 0 HI.out.2.1 (by decide) (by decide)
   have H1 := Lib.hid (iter_on HI.out 1)
   have eh : ((halfC 0 : Nat) : Int) = 0 := rfl
   go_wp2_with (go_at_call 306; refine (CI.out _ 6 _ (by decide) (by decide) (by rfl)).mono ?_; rintro e w1 ⟨rfl, rfl⟩)
   refine ⟨⟨1, ao, co, by omega, rfl, rfl, H1⟩, ?_⟩
   rw [iterPos_of H1.out.2.1, iterPos_of HI.out.2.1]
   omega
  ·have hn := Lib.run_next_ascii_at (P := Tryz.prog) wr (w.heap.size + 1) s6 1 0 HI.out.2.1 (by decide) (by decide)
   have H1 := Lib.hid (iter_on HI.out 2)
   have eh : ((halfC 1 : Nat) : Int) = 6 := rfl
   have eb : bits .or .i64 96 1 = 97 := by decide
   go_wp2_with (first | (go_at_call 306; refine (CI.out _ 1 _ (by decide) (by decide) (by rfl)).mono ?_; rintro e w1 ⟨rfl, rfl⟩) | (at_builtin; refine append_oneG elt8w rfl (.tmp 36) (.tmp 42) rfl rfl H1.out.1 rfl rfl ?hm ?hby H1.out.2.2.size ?_; (case hm => unfold maxLen; omega); (case hby => omega); intro v2 w2 O2 B2 G2; have Q2 := Lib.hid (And.intro O2 (And.intro (iter_kept H1.out.1 H1.out.2.1 G2) (H1.out.2.2.trans B2))); obtain ⟨a2, c2, rfl, _, _, _⟩ := owns_reads O2; clear O2 B2 G2))
   refine ⟨⟨2, a2, c2, by omega, rfl, rfl, Lib.hid ⟨owns_ext (fun j hj => ?_) Q2.out.1, Q2.out.2⟩⟩, ?_⟩
   ·have hj : j < 0 + 1 := hj
    match j, hj with
    | 0, _ => rfl
   ·rw [iterPos_of Q2.out.2.1, iterPos_of HI.out.2.1]
    omega
  ·have hn := Lib.run_next_ascii_at (P := Tryz.prog) wr (w.heap.size + 1) s6 2 0 HI.out.2.1 (by decide) (by decide)
   have H1 := Lib.hid (iter_on HI.out 3)
   have eh : ((halfC 2 : Nat) : Int) = 1 := rfl
   go_wp2_with (go_at_call 306; refine (CI.out _ 6 _ (by decide) (by decide) (by rfl)).mono ?_; rintro e w1 ⟨rfl, rfl⟩)
   refine ⟨⟨3, ao, co, by omega, rfl, rfl, H1⟩, ?_⟩
   rw [iterPos_of H1.out.2.1, iterPos_of HI.out.2.1]
   omega
  ·have hn := Lib.run_next_ascii_at (P := Tryz.prog) wr (w.heap.size + 1) s6 3 0 HI.out.2.1 (by decide) (by decide)
   have H1 := Lib.hid (iter_on HI.out 4)
   have eh : ((halfC 3 : Nat) : Int) = 6 := rfl
   have eb : bits .or .i64 96 2 = 98 := by decide
   go_wp2_with (first | (go_at_call 306; refine (CI.out _ 2 _ (by decide) (by decide) (by rfl)).mono ?_; rintro e w1 ⟨rfl, rfl⟩) | (at_builtin; refine append_oneG elt8w rfl (.tmp 36) (.tmp 42) rfl rfl H1.out.1 rfl rfl ?hm ?hby H1.out.2.2.size ?_; (case hm => unfold maxLen; omega); (case hby => omega); intro v2 w2 O2 B2 G2; have Q2 := Lib.hid (And.intro O2 (And.intro (iter_kept H1.out.1 H1.out.2.1 G2) (H1.out.2.2.trans B2))); obtain ⟨a2, c2, rfl, _, _, _⟩ := owns_reads O2; clear O2 B2 G2))
   refine ⟨⟨4, a2, c2, by omega, rfl, rfl, Lib.hid ⟨owns_ext (fun j hj => ?_) Q2.out.1, Q2.out.2⟩⟩, ?_⟩
   ·have hj : j < 1 + 1 := hj
    match j, hj with
    | 1, _ => rfl
    | 0, _ => rfl
   ·rw [iterPos_of Q2.out.2.1, iterPos_of HI.out.2.1]
    omega
  ·have hn := Lib.run_next_ascii_at (P := Tryz.prog) wr (w.heap.size + 1) s6 4 0 HI.out.2.1 (by decide) (by decide)
   have H1 := Lib.hid (iter_on HI.out 5)
   have eh : ((halfC 4 : Nat) : Int) = 2 := rfl
   go_wp2_with (go_at_call 306; refine (CI.out _ 6 _ (by decide) (by decide) (by rfl)).mono ?_; rintro e w1 ⟨rfl, rfl⟩)
   refine ⟨⟨5, ao, co, by omega, rfl, rfl, H1⟩, ?_⟩
   rw [iterPos_of H1.out.2.1, iterPos_of HI.out.2.1]
   omega
  ·have hn := Lib.run_next_ascii_at (P := Tryz.prog) wr (w.heap.size + 1) s6 5 0 HI.out.2.1 (by decide) (by decide)
   have H1 := Lib.hid (iter_on HI.out 6)
   have eh : ((halfC 5 : Nat) : Int) = 6 := rfl
   have eb : bits .or .i64 96 3 = 99 := by decide
   go_wp2_with (first | (go_at_call 306; refine (CI.out _ 3 _ (by decide) (by decide) (by rfl)).mono ?_; rintro e w1 ⟨rfl, rfl⟩) | (at_builtin; refine append_oneG elt8w rfl (.tmp 36) (.tmp 42) rfl rfl H1.out.1 rfl rfl ?hm ?hby H1.out.2.2.size ?_; (case hm => unfold maxLen; omega); (case hby => omega); intro v2 w2 O2 B2 G2; have Q2 := Lib.hid (And.intro O2 (And.intro (iter_kept H1.out.1 H1.out.2.1 G2) (H1.out.2.2.trans B2))); obtain ⟨a2, c2, rfl, _, _, _⟩ := owns_reads O2; clear O2 B2 G2))
   refine ⟨⟨6, a2, c2, by omega, rfl, rfl, Lib.hid ⟨owns_ext (fun j hj => ?_) Q2.out.1, Q2.out.2⟩⟩, ?_⟩
   ·have hj : j < 2 + 1 := hj
    match j, hj with
    | 2, _ => rfl
    | 0, _ => rfl
    | 1, _ => rfl
   ·rw [iterPos_of Q2.out.2.1, iterPos_of HI.out.2.1]
    omega
  ·have hn := Lib.run_next_end_at (P := Tryz.prog) wr (w.heap.size + 1) s6 6 0 HI.out.2.1 (by decide)
   go_wp2
   go_ret2
   exact ⟨_, rfl, HI.out.1, HI.out.2.2⟩
end
section
open Go.RowKit Go.Shelf Bt
attribute [local go_sem] lt_s2 lt_s3 lt_s4 lt_s5 lt_s6
def w1S : ByteArray := ⟨#[49]⟩
theorem decW_one : decW 1 = w1S := by kernel_rfl
theorem of_one (w : World) : Calls Tryz.prog 257 #[.string w1S] w fun e w' => e = .returned (.tuple #[.int .u64 1, .bool true]) /\ Below w.heap.size w w' := by
 have CP : Hid (∀ W, Calls Tryz.prog 284 #[.string w1S, .int .i64 10, .int .i64 64] W fun e w' => e = .returned (.tuple #[.int .u64 1, .nilIface]) /\ Below W.heap.size W w') := Lib.hid fun W => (Tryz.strconv_ParseUint_10_at64_ok w1S (by decide) 1 (by kernel_rfl) W).mono fun e w' ⟨h1, h2⟩ => ⟨h1, by
  rcases h2 with rfl | rfl
  ·exact bl_refl _
  ·exact ⟨rfl, rfl, rfl, by rw [Lib.bytesWorld_size]; omega, fun k hk => Lib.bytesWorld_at_old _ _ _ k hk⟩⟩
 have CN : Hid (∀ W, Calls Tryz.prog 96 #[.int .u64 1] W fun e w' => e = .returned (.string w1S) /\ W = w') := Lib.hid fun W => by have := number_w 1 (by decide) W; rw [decW_one] at this; exact this
 go_enter Tryz.func257, Tryz.ntmps257
 go_wp2_with (first | (go_at_call 284; (with_reducible refine (CP.out _).mono ?_); rintro e w1 ⟨rfl, hB⟩) | (go_at_call 96; (with_reducible refine (CN.out _).mono ?_); rintro e w2 ⟨rfl, rfl⟩))
 go_ret2
 exact ⟨rfl, hB⟩
def callL (kind h alg n : Int) (ns ss b : Value) : List Value := [.int .i64 kind, .int .i64 h, .int .i64 alg, .int .i64 n, ns, ss, b, .int .u64 0, .int .u64 0]
def callC (kind h alg n : Int) (ns ss b : Value) : Array Value := (callL kind h alg n ns ss b).toArray
def nilS : Value := .slice none 0 0
def Cl (w : World) (cb : Nat) (c : Array Value) : Prop := w.heap[cb]? = some (.cells c 108 (0, 0))
theorem Cl.lt {w : World} {cb : Nat} {c : Array Value} (h : Cl w cb c) : cb < w.heap.size := (Array.getElem?_eq_some_iff.1 h).1
theorem Cl.below {w w1 : World} {cb : Nat} {c : Array Value} (h : Cl w cb c) (hb : Below w.heap.size w w1) : Cl w1 cb c := (hb.block _ h.lt).trans h
theorem Cl.set {w : World} {cb : Nat} {c : Array Value} (h : Cl w cb c) (i : Nat) (v : Value) : Cl (w.setCell ⟨cb, i, none⟩ v) cb (c.setIfInBounds i v) := by
 unfold Cl World.setCell
 dsimp only
 rw [Array.getElem?_modify, if_pos rfl, show w.heap[cb]? = _ from h]
 rfl
theorem gb_set (w : World) (b i : Nat) (v : Value) : w.grownBy (w.setCell ⟨b, i, none⟩ v) (some b) := ⟨rfl, rfl, rfl, by simp [World.setCell], fun k _ hr => Below.heap_setCell w _ _ k (fun e => hr (by rw [e]))⟩
theorem Cl.cell {w : World} {cb : Nat} {c : Array Value} (h : Cl w cb c) (i : Nat) : w.cell? ⟨cb, i, none⟩ = c[i]? /\ w.frozen? ⟨cb, i, none⟩ = false := ⟨cell_of_row w cb i _ _ _ h, Lib.frozen_of_heap h i⟩
section
variable {cb : Nat} {kind h alg n : Int} {ns ss b : Value}
theorem getH_w (w : World) (hc : Cl w cb (callC kind h alg n ns ss b)) :
  Calls Tryz.prog 198 #[.pointer (some ⟨cb, 0, none⟩), .string w1S] w fun e w' => e = .returned (.bool true) /\ Cl w' cb (callC kind 1 alg n ns ss b) /\ w.grownBy w' (some cb) := by
 have CO : Hid (∀ W, Calls Tryz.prog 257 #[.string w1S] W fun e w' => e = .returned (.tuple #[.int .u64 1, .bool true]) /\ Below W.heap.size W w') := Lib.hid of_one
 have CN : Hid (Calls Tryz.prog 253 #[.string w1S, .int .u64 1000000000, .pointer (some ⟨cb, 1, none⟩)] w fun e w' => e = .returned (.bool true) /\ Cl w' cb (callC kind 1 alg n ns ss b) /\ w.grownBy w' (some cb)) := Lib.hid (by
  go_enter Tryz.func253, Tryz.ntmps253
  go_wp2_with (go_at_call 257; (with_reducible refine (CO.out _).mono ?_); rintro e w1 ⟨rfl, hB⟩; have C1 := hc.below hB; obtain ⟨c0, f0⟩ := C1.cell 1; have c1 : w1.cell? ⟨cb, 1, none⟩ = some (.int .i64 h) := c0; have H1 := Lib.hid C1; have HB := Lib.hid hB; clear hB C1 c0)
  go_ret
  exact ⟨rfl, H1.out.set 1 _, gb_trans (gb_below HB.out) (gb_set _ _ _ _)⟩)
 clear hc
 go_enter Tryz.func198, Tryz.ntmps198
 go_wp2_with (go_at_call 253; (with_reducible refine CN.out.mono ?_); rintro e w1 ⟨rfl, q1, q2⟩)
 go_ret
 exact ⟨rfl, q1, q2⟩
theorem bytesOf_dash (i : Nat) (v0 : Value) (c : Array Value) (h0 : c[i]? = some v0) (w : World) (hc : Cl w cb c) :
  Calls Tryz.prog 254 #[.string ⟨#[45]⟩, .pointer (some ⟨cb, i, none⟩)] w fun e w' => e = .returned (.bool true) /\ Cl w' cb (c.setIfInBounds i nilS) /\ w.grownBy w' (some cb) := by
 obtain ⟨c0, f0⟩ := hc.cell i
 rw [h0] at c0
 have HC := Lib.hid hc
 have CG : Hid (∀ W, Calls Tryz.prog 282 #[.string ⟨#[45]⟩] W fun e w' => e = .returned (.tuple #[.slice none 0 0, .bool true]) /\ W = w') := Lib.hid get_dash
 clear h0 hc
 go_enter Tryz.func254, Tryz.ntmps254
 go_wp2_with (go_at_call 282; (with_reducible refine (CG.out _).mono ?_); rintro e w1 ⟨rfl, rfl⟩)
 go_ret
 exact ⟨rfl, HC.out.set i _, gb_set _ _ _ _⟩
theorem bytesOf_abc (i : Nat) (v0 : Value) (c : Array Value) (h0 : c[i]? = some v0) (w : World) (hc : Cl w cb c) :
  Calls Tryz.prog 254 #[.string s6, .pointer (some ⟨cb, i, none⟩)] w fun e w' => ∃ v, e = .returned (.bool true) /\ Cl w' cb (c.setIfInBounds i v) /\ owns w' w.heap.size 5 .u8 v 3 (fun j => (abcC j : Int)) /\ w.grownBy w' (some cb) := by
 have HC := Lib.hid hc
 have CG : Hid (∀ W, Calls Tryz.prog 282 #[.string s6] W fun e w' => ∃ v, e = .returned (.tuple #[v, .bool true]) /\ owns w' W.heap.size 5 .u8 v 3 (fun j => (abcC j : Int)) /\ Below W.heap.size W w') := Lib.hid get_abc
 have hl := hc.lt
 clear hc
 go_enter Tryz.func254, Tryz.ntmps254
 go_wp2_with (go_at_call 282; (with_reducible refine (CG.out _).mono ?_); rintro e w1 ⟨v, rfl, hO, hB⟩; obtain ⟨av, cv, rfl, _, _, _⟩ := owns_reads hO; have C1 := HC.out.below hB; obtain ⟨c0, f0⟩ := C1.cell i; rw [h0] at c0; have H1 := Lib.hid C1; have HB := Lib.hid (And.intro hO hB); clear hB hO C1)
 go_ret
 exact ⟨_, rfl, H1.out.set i _, owns_gb HB.out.1 (gb_set _ _ _ _) hl, gb_trans (gb_below HB.out.2) (gb_set _ _ _ _)⟩
theorem getB_dash (w : World) (hc : Cl w cb (callC kind h alg n ns ss b)) :
  Calls Tryz.prog 200 #[.pointer (some ⟨cb, 0, none⟩), .string ⟨#[45]⟩] w fun e w' => e = .returned (.bool true) /\ Cl w' cb (callC kind h alg n ns ss nilS) /\ w.grownBy w' (some cb) := by
 have CN := Lib.hid (bytesOf_dash 6 b _ rfl w hc)
 clear hc
 go_enter Tryz.func200, Tryz.ntmps200
 go_wp2_with (go_at_call 254; (with_reducible refine CN.out.mono ?_); rintro e w1 ⟨rfl, q1, q2⟩)
 go_ret
 exact ⟨rfl, q1, q2⟩
theorem getB_abc (w : World) (hc : Cl w cb (callC kind h alg n ns ss b)) :
  Calls Tryz.prog 200 #[.pointer (some ⟨cb, 0, none⟩), .string s6] w fun e w' => ∃ v, e = .returned (.bool true) /\ Cl w' cb (callC kind h alg n ns ss v) /\ owns w' w.heap.size 5 .u8 v 3 (fun j => (abcC j : Int)) /\ w.grownBy w' (some cb) := by
 have CN := Lib.hid (bytesOf_abc 6 b _ rfl w hc)
 clear hc
 go_enter Tryz.func200, Tryz.ntmps200
 go_wp2_with (go_at_call 254; (with_reducible refine CN.out.mono ?_); rintro e w1 ⟨v, rfl, q1, q2⟩)
 go_ret
 exact ⟨v, rfl, q1, q2⟩
theorem getFirst_w (w : World) (hc : Cl w cb (callC kind h alg n ns ss b)) :
  Calls Tryz.prog 204 #[.pointer (some ⟨cb, 0, none⟩), .string ⟨#[45]⟩] w fun e w' => e = .returned (.bool true) /\ Cl w' cb (callC kind h alg n nilS ss b) /\ w.grownBy w' (some cb) := by
 have CN := Lib.hid (bytesOf_dash 4 ns _ rfl w hc)
 clear hc
 go_enter Tryz.func204, Tryz.ntmps204
 go_wp2_with (go_at_call 254; (with_reducible refine CN.out.mono ?_); rintro e w1 ⟨rfl, q1, q2⟩)
 go_ret
 exact ⟨rfl, q1, q2⟩
theorem getLast_w (w : World) (hc : Cl w cb (callC kind h alg n ns ss b)) :
  Calls Tryz.prog 206 #[.pointer (some ⟨cb, 0, none⟩), .string ⟨#[45]⟩] w fun e w' => e = .returned (.bool true) /\ Cl w' cb (callC kind h alg n ns nilS b) /\ w.grownBy w' (some cb) := by
 have CN := Lib.hid (bytesOf_dash 5 ss _ rfl w hc)
 clear hc
 go_enter Tryz.func206, Tryz.ntmps206
 go_wp2_with (go_at_call 254; (with_reducible refine CN.out.mono ?_); rintro e w1 ⟨rfl, q1, q2⟩)
 go_ret
 exact ⟨rfl, q1, q2⟩
end
end
end Go.Proofs.YtdobjciaikofdaaGreatDoor
