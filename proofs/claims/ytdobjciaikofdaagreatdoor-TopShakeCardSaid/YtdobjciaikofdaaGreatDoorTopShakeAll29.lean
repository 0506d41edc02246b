/- Part 29 of 39 of what the proof of this law needs. Put together by a program out of the texts: He Hf CwB Hg. -/
import Derived.Test.YtdobjciaikofdaaGreatDoorTopShakeAll28
import Derived.Test.YtdobjciaikofdaaGreatDoorTopShakeAll12
import Derived.Test.YtdobjciaikofdaaGreatDoorTopShakeAll27
namespace Go.Proofs.YtdobjciaikofdaaGreatDoor
section
open Go.RowKit Go.Shelf Bt
attribute [local go_sem] vals_get? vals_get vals_size rowAt_at rowAt_past hasRow_at hasRow_past run_loadRow run_storeCells_row setRow_at setRow_past lt_s2 lt_s3 lt_s4 lt_s5 lt_s6
theorem clone0_w (a : Option Addr) (c : Nat) (w : World) : Calls Tryz.prog 28 #[.slice a 0 c] w fun e w' => ∃ a' c', e = .returned (.slice a' 0 c') /\ Below w.heap.size w w' := by
 cases a with
 | none =>
  refine (Tryz.bytes_Clone_nil 0 c w).mono ?_
  rintro e w' ⟨rfl, rfl⟩
  exact ⟨none, 0, rfl, bl_refl _⟩
 | some a =>
  refine (Tryz.bytes_Clone_at a 0 c [] w rfl (by omega) (fun i hi => by omega)).mono ?_
  rintro e w' ⟨v, rfl, ho, _, hb⟩
  rcases ho.2 with ⟨rfl, _⟩ | ⟨g, cap, cur, rfl, _⟩
  ·exact ⟨_, _, rfl, hb⟩
  ·exact ⟨_, _, rfl, hb⟩
theorem two_set {w : World} {b : Nat} {u v : Value} {t : TypeId} {fr : Nat × Nat} (h : w.heap[b]? = some (.cells #[u, v] t fr)) (x y : Value) : ((w.setCell ⟨b, 0, none⟩ x).setCell ⟨b, 1, none⟩ y).heap[b]? = some (.cells #[x, y] t fr) := by
 unfold World.setCell
 dsimp only
 rw [Array.getElem?_modify, if_pos rfl, Array.getElem?_modify, if_pos rfl, h]
 rfl
section
variable (a1 a2 : Option Addr) (c1 c2 : Nat)
set_option maxRecDepth 100000 in
set_option maxHeartbeats 2000000 in
theorem own_w (w : World) : Calls Tryz.prog 23 #[nmV a1 c1 a2 c2] w fun e w' => ∃ b1 d1 b2 d2, e = .returned (nmV b1 d1 b2 d2) /\ Below w.heap.size w w' := by
 have C1 : Hid (∀ W : World, Calls Tryz.prog 28 #[.slice a1 0 c1] W fun e w' => ∃ a' c', e = .returned (.slice a' 0 c') /\ Below W.heap.size W w') := Lib.hid (clone0_w a1 c1)
 have C2 : Hid (∀ W : World, Calls Tryz.prog 28 #[.slice a2 0 c2] W fun e w' => ∃ a' c', e = .returned (.slice a' 0 c') /\ Below W.heap.size W w') := Lib.hid (clone0_w a2 c2)
 unfold nmV
 go_enter Tryz.func23, Tryz.ntmps23
 go_wp2
 have A0 : ((w.alloc (.cells #[.slice a1 0 c1, .slice a2 0 c2] 29)).alloc (.cells #[.slice none 0 0, .slice none 0 0] 29)).heap[w.heap.size]? = some (.cells #[.slice a1 0 c1, .slice a2 0 c2] 29 (0, 0)) := heap_past _ _ _ _ (by simp) (heap_at _ _ _ rfl)
 have A1 : ((w.alloc (.cells #[.slice a1 0 c1, .slice a2 0 c2] 29)).alloc (.cells #[.slice none 0 0, .slice none 0 0] 29)).heap[w.heap.size + 1]? = some (.cells #[.slice none 0 0, .slice none 0 0] 29 (0, 0)) := heap_at _ _ _ (by simp)
 have B0 : Below w.heap.size w ((w.alloc (.cells #[.slice a1 0 c1, .slice a2 0 c2] 29)).alloc (.cells #[.slice none 0 0, .slice none 0 0] 29)) := bl_alloc (bl_alloc (bl_refl w))
 generalize ((w.alloc (.cells #[.slice a1 0 c1, .slice a2 0 c2] 29)).alloc (.cells #[.slice none 0 0, .slice none 0 0] 29)) = w0 at A0 A1 B0 ⊢
 have x0 := cell_of_row w0 w.heap.size 0 _ _ _ A0
 have x1 := cell_of_row w0 w.heap.size 1 _ _ _ A0
 have A0 := Lib.hid A0
 have A1 := Lib.hid A1
 have B0 := Lib.hid B0
 go_region_with (first | (go_at_call 28; (with_reducible refine (C1.out _).mono ?_); rintro e w1 ⟨b1, d1, rfl, hB1⟩; have A2 := Lib.hid ((hB1.block _ (Array.getElem?_eq_some_iff.1 A0.out).1).trans A0.out); have A3 := Lib.hid ((hB1.block _ (Array.getElem?_eq_some_iff.1 A1.out).1).trans A1.out); have y1 := cell_of_row w1 w.heap.size 1 _ _ _ A2.out; have B1 := Lib.hid (bl_call (bl_drew B0.out) hB1); clear hB1) | (go_at_call 28; (with_reducible refine (C2.out _).mono ?_); rintro e w2 ⟨b2, d2, rfl, hB2⟩; have A4 := Lib.hid ((hB2.block _ (Array.getElem?_eq_some_iff.1 A3.out).1).trans A3.out); have z0 := cell_of_row w2 (w.heap.size + 1) 0 _ _ _ A4.out; have z1 := cell_of_row w2 (w.heap.size + 1) 1 _ _ _ A4.out; have f0 := Lib.frozen_of_heap A4.out 0; have f1 := Lib.frozen_of_heap A4.out 1; have B2 := Lib.hid (bl_call B1.out hB2); clear hB2))
 all_goals
  go_wp2_with fail
  exact bodyPost_ret (results_cell_row rfl _ _ (w.heap.size + 1) _ #[.slice b1 0 d1, .slice b2 0 d2] (0, 0) _ rfl (two_set A4.out _ _) Tryz.underlying29 rfl (by kernel_rfl)) rfl ⟨b1, d1, b2, d2, rfl, (B2.out.setCell (by simp) _).setCell (by simp) _⟩
theorem hsuffix_w (a : Nat) (ha : a < 15) (w : World) (ht : TabE w) :
  Calls Tryz.prog 40 #[.int .i64 a, nmV a1 c1 a2 c2] w fun e w' => e = .returned (.int .i64 (if kindC a = 2 then 6 else 31 : Nat)) /\ Below w.heap.size w w' := by
 have h0 := cell_lt (ht.word 0 (by omega))
 have HT : Hid (∀ {w' : World}, Below w.heap.size w w' -> TabE w') := Lib.hid fun hB => ht.grown (gb_below (r := none) hB) (by simp)
 have CK : Hid (∀ w : World, TabE w -> Calls Tryz.prog 57 #[.int .i64 a] w fun e w' => e = .returned (.int .i64 (kindC a : Nat)) /\ Below w.heap.size w w') := Lib.hid fun w h => kind_w a ha w h
 have CS : Hid (∀ W : World, Calls Tryz.prog 84 #[.agg #[.slice a1 0 c1, .slice a2 0 c2]] W fun e w' => e = .returned (.int .i64 31) /\ Below W.heap.size W w') := Lib.hid (suffix_w a1 a2 c1 c2)
 clear ht
 obtain ⟨k, hk⟩ : ∃ k, k = kindC a := ⟨_, rfl⟩
 rw [<- hk] at CK ⊢
 clear hk
 unfold nmV
 by_cases h2 : k = 2
 ·subst h2
  go_enter Tryz.func40, Tryz.ntmps40
  go_wp2_with (go_at_call 57; refine (CK.out _ (HT.out (bl_alloc (bl_refl w)))).mono ?_; rintro e w1 ⟨rfl, hB1⟩)
  go_ret
  exact ⟨rfl, bl_call (bl_alloc (bl_refl w)) hB1⟩
 ·have h2i : ¬ ((k : Int) = 2) := by omega
  rw [if_neg h2]
  go_enter Tryz.func40, Tryz.ntmps40
  go_wp2_with (first | (go_at_call 57; refine (CK.out _ (HT.out (bl_alloc (bl_refl w)))).mono ?_; rintro e w1 ⟨rfl, hB1⟩; have q1 := fun o => hB1.cell (p := ⟨w.heap.size, o, none⟩) (by simp); replace hB1 := Lib.hid hB1) | (go_at_call 84; (with_reducible refine (CS.out _).mono ?_); rintro e w2 ⟨rfl, hB2⟩))
  go_ret
  exact ⟨rfl, bl_call (bl_call (bl_alloc (bl_refl w)) hB1.out) hB2⟩
def sufC (a : Nat) : Nat := if kindC a = 2 then 6 else 31
structure Tabs (w : World) : Prop where
 e : TabE w
 r : TabR w
theorem Tabs.below {w w1 : World} (h : Tabs w) (hb : Below w.heap.size w w1) : Tabs w1 := ⟨h.e.grown (gb_below (r := none) hb) (by simp), h.r.grown (gb_below (r := none) hb) (by simp)⟩
set_option maxRecDepth 100000 in
set_option maxHeartbeats 2000000 in
theorem fresh_w (a : Nat) (ha : a < 15) (hk : kindC a = 2 \/ kindC a = 3) (w : World) (ht : Tabs w) :
  Calls Tryz.prog 24 #[.int .i64 a, nmV a1 c1 a2 c2] w fun e w' => ∃ nb, e = .returned (.iface 64 (.pointer (some ⟨nb, 0, none⟩))) /\ w.heap.size <= nb /\ Sp w' nb ⟨blkC a, sufC a, fun _ => 0, 0, false⟩ /\ Below w.heap.size w w' := by
 have HT : Hid (∀ {w' : World}, Below w.heap.size w w' -> TabE w') := Lib.hid fun hB => (ht.below hB).e
 have CK : Hid (∀ w : World, TabE w -> Calls Tryz.prog 57 #[.int .i64 a] w fun e w' => e = .returned (.int .i64 (kindC a : Nat)) /\ Below w.heap.size w w') := Lib.hid fun w h => kind_w a ha w h
 have CB : Hid (∀ w : World, TabE w -> Calls Tryz.prog 39 #[.int .i64 a] w fun e w' => e = .returned (.int .i64 (blkC a : Nat)) /\ Below w.heap.size w w') := Lib.hid fun w h => blk_w a ha w h
 have CX : Hid (∀ w : World, TabE w -> Calls Tryz.prog 40 #[.int .i64 a, .agg #[.slice a1 0 c1, .slice a2 0 c2]] w fun e w' => e = .returned (.int .i64 (sufC a : Nat)) /\ Below w.heap.size w w') := Lib.hid fun w h => hsuffix_w a1 a2 c1 c2 a ha w h
 have hbl : blkC a ∈ [72, 104, 136, 144, 168] := by
  obtain rfl | rfl | rfl | rfl | rfl | rfl | rfl | rfl | rfl | rfl | rfl | rfl | rfl | rfl | rfl : a = 0 \/ a = 1 \/ a = 2 \/ a = 3 \/ a = 4 \/ a = 5 \/ a = 6 \/ a = 7 \/ a = 8 \/ a = 9 \/ a = 10 \/ a = 11 \/ a = 12 \/ a = 13 \/ a = 14 := by omega
  all_goals first | decide | (exfalso; revert hk; decide)
 have hsu : sufC a ∈ [4, 6, 31] := by unfold sufC; split <;> decide
 have CN : Hid (∀ W : World, Calls Tryz.prog 62 #[.int .i64 (blkC a : Nat), .int .i64 (sufC a : Nat)] W fun e w' => ∃ nb, e = .returned (.tuple #[.pointer (some ⟨nb, 0, none⟩), .int .i64 0]) /\ W.heap.size <= nb /\ Sp w' nb ⟨blkC a, sufC a, fun _ => 0, 0, false⟩ /\ Below W.heap.size W w') := Lib.hid fun W => new_w (blkC a) (sufC a) hbl hsu W
 obtain ⟨k, hk2⟩ : ∃ k, k = kindC a := ⟨_, rfl⟩
 rw [<- hk2] at CK hk
 have n1 : ¬ ((k : Int) = 1) := by omega
 have n4 : ¬ ((k : Int) = 4) := by omega
 clear hk hk2 hbl hsu ht
 unfold nmV
 go_enter Tryz.func24, Tryz.ntmps24
 go_wp2_with (go_at_call 57; refine (CK.out _ (HT.out (bl_alloc (bl_refl w)))).mono ?_; rintro e w1 ⟨rfl, hB1⟩; have A1 : Hid (w1.heap[w.heap.size]? = some (.cells #[.slice a1 0 c1, .slice a2 0 c2] 29 (0, 0))) := Lib.hid ((hB1.block _ (by simp)).trans (heap_at _ _ _ rfl)); have x0 := cell_of_row w1 w.heap.size 0 _ _ _ A1.out; have x1 := cell_of_row w1 w.heap.size 1 _ _ _ A1.out; have B1 := Lib.hid (bl_call (bl_alloc (bl_refl w)) hB1); clear hB1)
 go_region_with (first | (go_at_call 39; (refine (CB.out _ (HT.out (bl_drew B1.out))).mono ?_); rintro e w2 ⟨rfl, hB2⟩; have A2 : Hid (w2.heap[w.heap.size]? = some (.cells #[.slice a1 0 c1, .slice a2 0 c2] 29 (0, 0))) := Lib.hid ((hB2.block _ (cell_lt x0)).trans A1.out); have y0 := cell_of_row w2 w.heap.size 0 _ _ _ A2.out; have y1 := cell_of_row w2 w.heap.size 1 _ _ _ A2.out; have B2 := Lib.hid (bl_call (bl_drew B1.out) hB2); clear hB2) | (go_at_call 40; (refine (CX.out _ (HT.out B2.out)).mono ?_); rintro e w3 ⟨rfl, hB3⟩; have B3 := Lib.hid (bl_call B2.out hB3); clear hB3) | (go_at_call 62; (with_reducible refine (CN.out _).mono ?_); rintro e w4 ⟨nb, rfl, hn, hS, hB4⟩; have hn := Lib.hid hn; have hS := Lib.hid hS; have hB4 := Lib.hid hB4))
 all_goals
  go_wp2_with fail
  go_ret
  exact ⟨nb, rfl, Nat.le_trans B3.out.size hn.out, hS.out, bl_call B3.out hB4.out⟩
set_option maxRecDepth 100000 in
set_option maxHeartbeats 2000000 in
theorem fnamed_w (r : Nat) (hr : r < 2) (w : World) (ht : Tabs w) :
  Calls Tryz.prog 24 #[.int .i64 (13 + r : Nat), nmV a1 c1 a2 c2] w fun e w' => ∃ nb, e = .returned (.iface 64 (.pointer (some ⟨nb, 0, none⟩))) /\ w.heap.size <= nb /\ Sp w' nb ⟨rateC r, 31, fun _ => 0, 0, false⟩ /\ Below w.heap.size w w' := by
 have HT : Hid (∀ {w' : World}, Below w.heap.size w w' -> TabE w') := Lib.hid fun hB => (ht.below hB).e
 have HR : Hid (∀ {w' : World}, Below w.heap.size w w' -> TabR w') := Lib.hid fun hB => (ht.below hB).r
 have hkd : kindC (13 + r) = 4 /\ 4 * digC (13 + r) = bitsC r /\ digC (13 + r) < 100 := by
  obtain rfl | rfl : r = 0 \/ r = 1 := by omega
  all_goals decide
 obtain ⟨d, hd⟩ : ∃ d, d = digC (13 + r) := ⟨_, rfl⟩
 obtain ⟨a, hae⟩ : ∃ a, a = 13 + r := ⟨_, rfl⟩
 have ha : a < 15 := by omega
 rw [<- hae] at hkd hd ⊢
 rw [<- hd] at hkd
 have CK : Hid (∀ w : World, TabE w -> Calls Tryz.prog 57 #[.int .i64 a] w fun e w' => e = .returned (.int .i64 4) /\ Below w.heap.size w w') := Lib.hid fun w h => by have := kind_w a ha w h; rw [hkd.1] at this; exact this
 have CD : Hid (∀ w : World, TabE w -> Calls Tryz.prog 61 #[.int .i64 a] w fun e w' => e = .returned (.int .i64 d) /\ Below w.heap.size w w') := Lib.hid fun w h => by have := dig_w a ha w h; rw [<- hd] at this; exact this
 have CN : Hid (∀ W : World, TabR W -> Calls Tryz.prog 60 #[.int .i64 (4 * d : Nat), .agg #[.slice a1 0 c1, .slice a2 0 c2]] W fun e w' => ∃ nb, e = .returned (.tuple #[.pointer (some ⟨nb, 0, none⟩), .int .i64 0]) /\ W.heap.size <= nb /\ Sp w' nb ⟨rateC r, 31, fun _ => 0, 0, false⟩ /\ Below W.heap.size W w') := Lib.hid fun W h => by rw [hkd.2.1]; exact cnew_w r hr a1 a2 c1 c2 W h
 have hm : IntKind.i64.wrap (4 * (d : Int)) = ((4 * d : Nat) : Int) := by rw [IntKind.wrap_i64]; omega
 clear hkd hd hae ht
 unfold nmV
 go_enter Tryz.func24, Tryz.ntmps24
 go_wp2_with (go_at_call 57; refine (CK.out _ (HT.out (bl_alloc (bl_refl w)))).mono ?_; rintro e w1 ⟨rfl, hB1⟩; have A1 : Hid (w1.heap[w.heap.size]? = some (.cells #[.slice a1 0 c1, .slice a2 0 c2] 29 (0, 0))) := Lib.hid ((hB1.block _ (by simp)).trans (heap_at _ _ _ rfl)); have x0 := cell_of_row w1 w.heap.size 0 _ _ _ A1.out; have x1 := cell_of_row w1 w.heap.size 1 _ _ _ A1.out; have B1 := Lib.hid (bl_call (bl_alloc (bl_refl w)) hB1); clear hB1)
 go_region_with (first | (go_at_call 61; (refine (CD.out _ (HT.out (bl_drew B1.out))).mono ?_); rintro e w2 ⟨rfl, hB2⟩; have A2 : Hid (w2.heap[w.heap.size]? = some (.cells #[.slice a1 0 c1, .slice a2 0 c2] 29 (0, 0))) := Lib.hid ((hB2.block _ (cell_lt x0)).trans A1.out); have y0 := cell_of_row w2 w.heap.size 0 _ _ _ A2.out; have y1 := cell_of_row w2 w.heap.size 1 _ _ _ A2.out; have B2 := Lib.hid (bl_call (bl_drew B1.out) hB2); clear hB2) | (go_at_call 60; (refine (CN.out _ (HR.out B2.out)).mono ?_); rintro e w4 ⟨nb, rfl, hn, hS, hB4⟩; have hn := Lib.hid hn; have hS := Lib.hid hS; have hB4 := Lib.hid hB4))
 all_goals
  go_wp2_with fail
  go_ret
  exact ⟨nb, rfl, Nat.le_trans B2.out.size hn.out, hS.out, bl_call B2.out hB4.out⟩
def hsC (a : Nat) (n1 n2 : Value) (sb : Nat) : Array Value := #[.int .i64 a, n1, n2, .iface 64 (.pointer (some ⟨sb, 0, none⟩))]
def Hs (w : World) (hb a : Nat) (n1 n2 : Value) (sb : Nat) : Prop := w.heap[hb]? = some (.cells (hsC a n1 n2 sb) 61 (0, 0))
def freshS (a : Nat) : Spg := if kindC a = 4 then ⟨rateC (a - 13), 31, fun _ => 0, 0, false⟩ else ⟨blkC a, sufC a, fun _ => 0, 0, false⟩
theorem freshAny_w (a : Nat) (ha : a < 15) (hk : 2 <= kindC a) (w : World) (ht : Tabs w) :
  Calls Tryz.prog 24 #[.int .i64 a, nmV a1 c1 a2 c2] w fun e w' => ∃ nb, e = .returned (.iface 64 (.pointer (some ⟨nb, 0, none⟩))) /\ w.heap.size <= nb /\ Sp w' nb (freshS a) /\ Below w.heap.size w w' := by
 have h1 : (kindC a = 4 /\ a = 13 + (a - 13) /\ a - 13 < 2) \/ (kindC a ≠ 4 /\ (kindC a = 2 \/ kindC a = 3)) := by
  obtain rfl | rfl | rfl | rfl | rfl | rfl | rfl | rfl | rfl | rfl | rfl | rfl | rfl | rfl | rfl : a = 0 \/ a = 1 \/ a = 2 \/ a = 3 \/ a = 4 \/ a = 5 \/ a = 6 \/ a = 7 \/ a = 8 \/ a = 9 \/ a = 10 \/ a = 11 \/ a = 12 \/ a = 13 \/ a = 14 := by omega
  all_goals first | (left; decide) | (right; decide) | (exfalso; revert hk; decide)
 unfold freshS
 rcases h1 with ⟨h1, h2, h3⟩ | ⟨h1, h2⟩
 ·rw [if_pos h1]
  have := fnamed_w a1 a2 c1 c2 (a - 13) h3 w ht
  rw [<- h2] at this
  exact this
 ·rw [if_neg h1]
  exact fresh_w a1 a2 c1 c2 a ha h2 w ht
set_option maxRecDepth 100000 in
set_option maxHeartbeats 2000000 in
theorem hnew_w (a : Nat) (ha : a < 15) (hk : 2 <= kindC a) (w : World) (ht : Tabs w) :
  Calls Tryz.prog 7 #[.int .i64 a, nmV a1 c1 a2 c2] w fun e w' => ∃ hb sb n1 n2, e = .returned (.tuple #[.pointer (some ⟨hb, 0, none⟩), .int .i64 0]) /\ w.heap.size <= sb /\ sb < hb /\ Hs w' hb a n1 n2 sb /\ Sp w' sb (freshS a) /\ Below w.heap.size w w' := by
 have HT : Hid (∀ {w' : World}, Below w.heap.size w w' -> Tabs w') := Lib.hid fun hB => ht.below hB
 have CC : Hid (∀ w : World, TabE w -> Calls Tryz.prog 22 #[.int .i64 a, .agg #[.slice a1 0 c1, .slice a2 0 c2]] w fun e w' => e = .returned (.int .i64 0) /\ Below w.heap.size w w') := Lib.hid fun w h => check_w a1 a2 c1 c2 a ha (by omega) w h
 have CO : Hid (∀ w : World, Calls Tryz.prog 23 #[.agg #[.slice a1 0 c1, .slice a2 0 c2]] w fun e w' => ∃ b1 d1 b2 d2, e = .returned (.agg #[.slice b1 0 d1, .slice b2 0 d2]) /\ Below w.heap.size w w') := Lib.hid (own_w a1 a2 c1 c2)
 have CF : Hid (∀ w : World, Tabs w -> Calls Tryz.prog 24 #[.int .i64 a, .agg #[.slice a1 0 c1, .slice a2 0 c2]] w fun e w' => ∃ nb, e = .returned (.iface 64 (.pointer (some ⟨nb, 0, none⟩))) /\ w.heap.size <= nb /\ Sp w' nb (freshS a) /\ Below w.heap.size w w') := Lib.hid (freshAny_w a1 a2 c1 c2 a ha hk)
 clear ht hk
 unfold nmV
 go_enter Tryz.func7, Tryz.ntmps7
 go_wp2_with (go_at_call 22; refine (CC.out _ (HT.out (bl_alloc (bl_refl w))).e).mono ?_; rintro e w1 ⟨rfl, hB1⟩; have A1 : Hid (w1.heap[w.heap.size]? = some (.cells #[.slice a1 0 c1, .slice a2 0 c2] 29 (0, 0))) := Lib.hid ((hB1.block _ (by simp)).trans (heap_at _ _ _ rfl)); have x0 := cell_of_row w1 w.heap.size 0 _ _ _ A1.out; have x1 := cell_of_row w1 w.heap.size 1 _ _ _ A1.out; have B1 := Lib.hid (bl_call (bl_alloc (bl_refl w)) hB1); clear hB1)
 go_region_with (first | (go_at_call 23; (with_reducible refine (CO.out _).mono ?_); rintro e w2 ⟨b1, d1, b2, d2, rfl, hB2⟩; have A2 : Hid (w2.heap[w.heap.size]? = some (.cells #[.slice a1 0 c1, .slice a2 0 c2] 29 (0, 0))) := Lib.hid ((hB2.block _ (cell_lt x0)).trans A1.out); have y0 := cell_of_row w2 w.heap.size 0 _ _ _ A2.out; have y1 := cell_of_row w2 w.heap.size 1 _ _ _ A2.out; have B2 := Lib.hid (bl_call (bl_drew B1.out) hB2); clear hB2) | (go_at_call 24; (refine (CF.out _ (HT.out B2.out)).mono ?_); rintro e w4 ⟨nb, rfl, hn, hS, hB4⟩; have hn := Lib.hid hn; have hS := Lib.hid hS; have hB4 := Lib.hid hB4))
 all_goals
  go_wp2_with fail
  go_ret2
  exact ⟨_, nb, _, _, rfl, Nat.le_trans B2.out.size hn.out, hS.out.lt, heap_at _ _ _ rfl, hS.out.alloc _, bl_alloc (bl_call B2.out hB4.out)⟩
end
end
section
open Go.RowKit Go.Shelf Bt
attribute [local go_sem] lt_s2 lt_s3 lt_s4 lt_s5 lt_s6
theorem bclone_w (a : Option Addr) (len cap : Nat) (f : Nat -> Int) (w : World) (hlen : len <= 140737488355328) (hr : reads w a len .u8 f) :
  Calls Tryz.prog 28 #[.slice a len cap] w fun e w' => ∃ v, e = .returned v /\ owns w' w.heap.size 5 .u8 v len f /\ Below w.heap.size w w' := by
 cases a with
 | none =>
  obtain rfl : len = 0 := by
   rcases Nat.eq_zero_or_pos len with h | h
   ·exact h
   ·obtain ⟨_, _, e, _⟩ := hr h
    cases e
  refine (Tryz.bytes_Clone_nil 0 cap w).mono ?_
  rintro e w' ⟨rfl, rfl⟩
  exact ⟨_, rfl, owns_nil _ _ _ _ _, bl_refl _⟩
 | some ad =>
  refine (Tryz.bytes_Clone_at ad len cap ((List.range len).map f) w (by simp) hlen (fun i hi => ?_)).mono ?_
  ·obtain ⟨b, off, e, hc⟩ := hr (by omega)
   cases e
   rw [Addr.add_lit, hc i hi]
   simp [hi]
  ·rintro e w' ⟨v, rfl, ho, _, hb⟩
   refine ⟨v, rfl, ?_, hb⟩
   unfold owns
   have e1 : (vals .u8 len f).toList = ((List.range len).map f).map (Value.int .u8) := by simp [vals]
   rw [e1]
   exact ho
theorem Hs.cells {w : World} {hb a : Nat} {n1 n2 : Value} {sb : Nat} (h : Hs w hb a n1 n2 sb) : w.cell? ⟨hb, 0, none⟩ = some (.int .i64 a) /\ w.cell? ⟨hb, 3, none⟩ = some (.iface 64 (.pointer (some ⟨sb, 0, none⟩))) := ⟨cell_of_row w hb 0 _ _ _ h, cell_of_row w hb 3 _ _ _ h⟩
theorem hsize_w {hb a : Nat} {n1 n2 : Value} {sb : Nat} (ha : a < 15) (w : World) (hh : Hs w hb a n1 n2 sb) (ht : TabE w) :
  Calls Tryz.prog 27 #[.pointer (some ⟨hb, 0, none⟩)] w fun e w' => e = .returned (.int .i64 (digC a : Nat)) /\ Below w.heap.size w w' := by
 have c0 := hh.cells.1
 have CD : Hid (Calls Tryz.prog 61 #[.int .i64 a] w fun e w' => e = .returned (.int .i64 (digC a : Nat)) /\ Below w.heap.size w w') := Lib.hid (dig_w a ha w ht)
 clear hh ht
 go_enter Tryz.func27, Tryz.ntmps27
 go_wp2_with (go_at_call 61; (with_reducible refine CD.out.mono ?_); rintro e w1 ⟨rfl, hB⟩)
 go_ret
 exact ⟨rfl, hB⟩
theorem gb_below_own {w w1 w2 : World} {e : TypeId} {k : IntKind} {v : Value} {n : Nat} {f : Nat -> Int} (h : Below w.heap.size w w1) (ho : owns w1 w.heap.size e k v n f) (h2 : w1.grownBy w2 v.ownBlock) : Below w.heap.size w w2 :=
 h.grown h2 h.size fun r hr => by
  rcases ho.2 with ⟨rfl, _⟩ | ⟨g, cap, cur, rfl, hb, _⟩
  ·simp [Value.ownBlock] at hr
  ·simp [Value.ownBlock] at hr; omega
theorem ta_stream (p : Option Addr) (w : World) : (Instr.typeAssert (.iface 64 (.pointer p)) 58 62 true).run Tryz.prog w = .ok (.tuple #[.pointer none, .bool false]) w := by kernel_rfl
theorem ta_sponge (p : Option Addr) (w : World) : (Instr.typeAssert (.iface 64 (.pointer p)) 58 64 true).run Tryz.prog w = .ok (.tuple #[.pointer p, .bool true]) w := by kernel_rfl
attribute [local go_sem] ta_stream ta_sponge
set_option maxRecDepth 100000 in
set_option maxHeartbeats 2000000 in
theorem hsum_w {hb a : Nat} {n1 n2 : Value} {sb : Nat} (ha : a < 15) (hk : 2 <= kindC a) (s : Spg) (ok : s.Ok) (hrd : s.rd = false) (p : Option Addr) (len cap : Nat) (f : Nat -> Int) (hlen : len <= 140737488351232) (w : World) (hp : reads w p len .u8 f) (hh : Hs w hb a n1 n2 sb) (hs : Sp w sb s) (ht : Tabs w) (hT : TabK w) :
  Calls Tryz.prog 9 #[.pointer (some ⟨hb, 0, none⟩), .slice p len cap] w fun e w' => ∃ v, e = .returned (.tuple #[v, .int .i64 0]) /\ owns w' w.heap.size 5 .u8 v (len + digC a) (fun j => if j < len then f j else ((readL s (digC a)).getD (j - len) 0 : Nat)) /\ Below w.heap.size w w' := by
 have c3 := hh.cells.2
 obtain ⟨d, hd⟩ : ∃ d, d = digC a := ⟨_, rfl⟩
 have hdp : 0 < d /\ d <= 64 := by
  rw [hd]
  obtain rfl | rfl | rfl | rfl | rfl | rfl | rfl | rfl | rfl | rfl | rfl | rfl | rfl | rfl | rfl : a = 0 \/ a = 1 \/ a = 2 \/ a = 3 \/ a = 4 \/ a = 5 \/ a = 6 \/ a = 7 \/ a = 8 \/ a = 9 \/ a = 10 \/ a = 11 \/ a = 12 \/ a = 13 \/ a = 14 := by omega
  all_goals first | decide | (exfalso; revert hk; decide)
 have CZ : Hid (Calls Tryz.prog 27 #[.pointer (some ⟨hb, 0, none⟩)] w fun e w' => e = .returned (.int .i64 d) /\ Below w.heap.size w w') := Lib.hid (by rw [hd]; exact hsize_w ha w hh ht.e)
 have CS : Hid (∀ W : World, Sp W sb s -> TabK W -> Calls Tryz.prog 26 #[.pointer (some ⟨sb, 0, none⟩), .int .i64 d] W fun e w' => ∃ v, e = .returned (.tuple #[v, .int .i64 0]) /\ owns w' W.heap.size 5 .u8 v d (fun j => ((readL s d).getD j 0 : Nat)) /\ Below W.heap.size W w') := Lib.hid fun W h1 h2 => sum_w sb d hdp.1 (by omega) s ok hrd W h1 h2
 have CC : Hid (∀ W : World, reads W p len .u8 f -> Calls Tryz.prog 28 #[.slice p len cap] W fun e w' => ∃ v, e = .returned v /\ owns w' W.heap.size 5 .u8 v len f /\ Below W.heap.size W w') := Lib.hid fun W h => bclone_w p len cap f W (by omega) h
 rw [<- hd]
 have HP := Lib.hid hp
 have HS := Lib.hid hs
 have HK := Lib.hid hT
 have HD := Lib.hid hdp
 have HL := Lib.hid hlen
 clear hd hdp hh ht hk hp hs hT ok hrd hlen
 go_enter Tryz.func9, Tryz.ntmps9
 go_wp2_with (first | (go_at_call 27; (with_reducible refine CZ.out.mono ?_); rintro e w1 ⟨rfl, hB1⟩; have S1 := Lib.hid (And.intro (HS.out.below (Nat.le_refl _) hB1) (And.intro (HK.out.below (Nat.le_refl _) hB1) hB1)); clear hB1) | (go_at_call 26; (refine (CS.out _ S1.out.1 S1.out.2.1).mono ?_); rintro e w2 ⟨v, rfl, O2, B2⟩; obtain ⟨a2, cv, rfl, _, _, hr2⟩ := owns_reads O2; obtain ⟨gb, go, rfl, _⟩ := hr2 HD.out.1; have S2 := Lib.hid (And.intro hr2 (bl_call S1.out.2.2 B2)); clear O2 B2 hr2) | (go_at_call 28; (refine (CC.out _ (reads_below (Nat.le_refl _) S2.out.2 HP.out)).mono ?_); rintro e w3 ⟨u, rfl, O3, B3⟩; obtain ⟨a3, cu, rfl, _, _, _⟩ := owns_reads O3; have S3 := Lib.hid (And.intro (owns_base S2.out.2.size O3) (And.intro (reads_below (Nat.le_refl _) B3 S2.out.1) (bl_call S2.out.2 B3))); clear O3 B3) | (at_builtin; refine append_many elt8w rfl (.tmp 36) (.tmp 37) rfl rfl S3.out.1 rfl S3.out.2.1 ?hm ?hby ?hba ?_; (case hm => have := HL.out; have := HD.out.2; unfold maxLen; omega); (case hby => have := HL.out; have := HD.out.2; omega); (case hba => exact S3.out.2.2.size); intro v' w4 O4 g4))
 go_ret2
 exact ⟨_, rfl, O4, gb_below_own S3.out.2.2 S3.out.1 g4⟩
theorem areads_w (a : Nat) (ha : a < 15) (hk : 3 <= kindC a) (w : World) (ht : TabE w) :
  Calls Tryz.prog 33 #[.int .i64 a] w fun e w' => e = .returned (.bool true) /\ Below w.heap.size w w' := by
 have CK : Hid (Calls Tryz.prog 57 #[.int .i64 a] w fun e w' => e = .returned (.int .i64 (kindC a : Nat)) /\ Below w.heap.size w w') := Lib.hid (kind_w a ha w ht)
 have h1 : (3 : Int) <= (kindC a : Nat) := by omega
 clear ht
 go_enter Tryz.func33, Tryz.ntmps33
 go_wp2_with (go_at_call 57; (with_reducible refine CK.out.mono ?_); rintro e w1 ⟨rfl, hB⟩)
 go_ret
 exact ⟨rfl, hB⟩
theorem sread_w (b n : Nat) (hn : n <= 1048576) (s : Spg) (ok : s.Ok) (hrd : s.rd = false) (w : World) (hs : Sp w b s) (ht : TabK w) (hbt : b ≠ 8 /\ b ≠ 9) :
  Calls Tryz.prog 34 #[.pointer (some ⟨b, 0, none⟩), .int .i64 n] w fun e w' => ∃ v, e = .returned (.tuple #[v, .int .i64 0]) /\ owns w' w.heap.size 5 .u8 v n (fun j => ((readL s n).getD j 0 : Nat)) /\ w.grownBy w' (some b) := by
 rcases Nat.eq_zero_or_pos n with rfl | h0
 ·refine (read0_w b w).mono ?_
  rintro e w' ⟨rfl, rfl⟩
  exact ⟨_, rfl, owns_nil _ _ _ _ _, gb_below (bl_refl _)⟩
 ·refine (read_w b n h0 hn s ok hrd w hs ht hbt).mono ?_
  rintro e w' ⟨v, rfl, ho, _, hg⟩
  exact ⟨v, rfl, ho, hg⟩
set_option maxRecDepth 100000 in
set_option maxHeartbeats 2000000 in
theorem hread_w {hb a : Nat} {n1 n2 : Value} {sb : Nat} (ha : a < 15) (hk : 3 <= kindC a) (n : Nat) (hn : n <= 1048576) (s : Spg) (ok : s.Ok) (hrd : s.rd = false) (w : World) (hh : Hs w hb a n1 n2 sb) (hs : Sp w sb s) (ht : Tabs w) (hT : TabK w) (hbt : sb ≠ 8 /\ sb ≠ 9) :
  Calls Tryz.prog 11 #[.pointer (some ⟨hb, 0, none⟩), .int .i64 n] w fun e w' => ∃ v, e = .returned (.tuple #[v, .int .i64 0]) /\ owns w' w.heap.size 5 .u8 v n (fun j => ((readL s n).getD j 0 : Nat)) /\ w.grownBy w' (some sb) := by
 obtain ⟨c0, c3⟩ := hh.cells
 have CA : Hid (Calls Tryz.prog 33 #[.int .i64 a] w fun e w' => e = .returned (.bool true) /\ Below w.heap.size w w') := Lib.hid (areads_w a ha hk w ht.e)
 have CS : Hid (∀ W : World, Sp W sb s -> TabK W -> Calls Tryz.prog 34 #[.pointer (some ⟨sb, 0, none⟩), .int .i64 n] W fun e w' => ∃ v, e = .returned (.tuple #[v, .int .i64 0]) /\ owns w' W.heap.size 5 .u8 v n (fun j => ((readL s n).getD j 0 : Nat)) /\ W.grownBy w' (some sb)) := Lib.hid fun W h1 h2 => sread_w sb n hn s ok hrd W h1 h2 hbt
 have HS := Lib.hid hs
 have HK := Lib.hid hT
 clear hh ht hs hT ok hrd hn hk
 go_enter Tryz.func11, Tryz.ntmps11
 go_wp2_with (first | (go_at_call 33; (with_reducible refine CA.out.mono ?_); rintro e w1 ⟨rfl, hB1⟩; have S1 := Lib.hid (And.intro (HS.out.below (Nat.le_refl _) hB1) (And.intro (HK.out.below (Nat.le_refl _) hB1) hB1)); clear hB1) | (go_at_call 34; (refine (CS.out _ S1.out.1 S1.out.2.1).mono ?_); rintro e w2 ⟨v, rfl, O2, B2⟩; have S2 := Lib.hid (And.intro (owns_base S1.out.2.2.size O2) (gb_trans (gb_below S1.out.2.2) B2)); clear O2 B2))
 go_ret2
 exact ⟨v, rfl, S2.out.1, S2.out.2⟩
end
section
open Go Go.Conc Go.RowKit Go.Shelf Bt
theorem lU_any (off len cap fst rt : Nat) : ∀ j, lU off len cap fst rt j = lU 0 len len fst rt j
 | 0 => rfl
 | j + 1 => by
  rw [lU_succ, lU_succ]
  unfold nU
  rw [lU_any off len cap fst rt j]
theorem sU_any (s : Spg) (off len cap : Nat) (f : Nat -> Nat) : ∀ j, sU s len cap off f j = sU s len len 0 f j
 | 0 => rfl
 | j + 1 => by
  show absorb1 _ _ _ = absorb1 _ _ _
  unfold nU
  rw [sU_any s off len cap f j, lU_any off len cap]
def Wrote (s : Spg) (len : Nat) (f : Nat -> Nat) (s' : Spg) : Prop := ∃ n, (∀ j, j < n -> 0 < lU 0 len len (s.rate - s.at_) s.rate j) /\ lU 0 len len (s.rate - s.at_) s.rate n = 0 /\ s' = sU s len len 0 f n
theorem Wrote.unique {s : Spg} {len : Nat} {f : Nat -> Nat} {s1 s2 : Spg} (h1 : Wrote s len f s1) (h2 : Wrote s len f s2) : s1 = s2 := by
 obtain ⟨n, a1, a2, rfl⟩ := h1
 obtain ⟨m, b1, b2, rfl⟩ := h2
 have : n = m := by
  rcases Nat.lt_trichotomy n m with h | h | h
  ·have := b1 n h; omega
  ·exact h
  ·have := a1 m h; omega
 rw [this]
theorem Wrote.ok {s : Spg} {len : Nat} {f : Nat -> Nat} {s' : Spg} (h : Wrote s len f s') (ok : s.Ok) (hr : s.at_ < s.rate) (hf : ∀ i, i < len -> f i < 256) : s'.Ok /\ s'.rate = s.rate /\ s'.suf = s.suf /\ s'.rd = s.rd /\ s'.at_ < s'.rate := by
 obtain ⟨n, a1, a2, rfl⟩ := h
 obtain ⟨h1, h2, h3, h4, _⟩ := sU_inv ok (Nat.le_refl len) (off := 0) hf n
 refine ⟨h1, h2, h3, h4, ?_⟩
 have p := ok.pos
 cases n with
 | zero => exact hr
 | succ j =>
  have h5 : (sU s len len 0 f (j + 1)) = absorb1 (sU s len len 0 f j) (nU 0 len len (s.rate - s.at_) s.rate j) (fun i => f (len - lU 0 len len (s.rate - s.at_) s.rate j + i)) := rfl
  obtain ⟨g1, g2, _, _, g3⟩ := sU_inv ok (Nat.le_refl len) (off := 0) hf j
  have g4 := (g3 (a1 j (by omega))).1
  rw [h5]
  unfold absorb1
  split
  ·show 0 < (sU s len len 0 f j).rate
   omega
  ·show (sU s len len 0 f j).at_ + _ < (sU s len len 0 f j).rate
   omega
section
variable {b ib off len cap : Nat} {f : Nat -> Nat} {w : World} {s : Spg} {a0 : Option Addr}
theorem write_co (W0 : WGround b ib off len f s w) (hrd : s.rd = false) (hcap : len <= cap) (h0 : 0 < len -> a0 = some ⟨ib, off, none⟩) :
  CoCalls 105 #[.pointer (some ⟨b, 0, none⟩), .slice a0 len cap] w fun v w' => v = .tuple #[.int .i64 len, .int .i64 0] /\ w.grownBy w' (some b) /\ ∃ s', Wrote s len f s' /\ Sp w' b s' := fun Post c cs hk =>
 write_runs W0 hrd hcap h0 fun n w' h1 h2 h3 h4 => hk _ _ ⟨rfl, h3, _, ⟨n, fun j hj => by rw [<- lU_any off len cap]; exact h1 j hj, by rw [<- lU_any off len cap]; exact h2, sU_any s off len cap f n⟩, h4⟩
theorem callFunc_run {f : FuncId} {fn : Func} (hf : Tryz.prog.funcs[f]? = some fn) (hb : fn.body.isSome = true) (hn : (fn.name == "runtime.NumGoroutine") = false) (args : Array Value) (w : World) : (callFunc f args).run Tryz.prog w = .ok (.enter f args) w /\ (callFunc f args).events Tryz.prog w #[] = #[] := by
 have hn' : ¬ fn.name = "runtime.NumGoroutine" := by simpa using hn
 have hb' : ¬ fn.body = none := by intro h; rw [h] at hb; cases hb
 constructor
 ·simp [callFunc, go_sem, hf, hn', hb']
 ·simp [callFunc, go_sem, hf, hn', hb']
theorem meth_sp (p : Option Addr) (w : World) : (method 522 64 (.pointer p) "Write").run Tryz.prog w = .ok (105, .pointer p) w /\ (method 522 64 (.pointer p) "Write").events Tryz.prog w #[] = #[] := ⟨by kernel_rfl, by kernel_rfl⟩
set_option maxRecDepth 100000 in
theorem hwrite_co {hb a : Nat} {n1 n2 : Value} (hh : Hs w hb a n1 n2 b) (W0 : WGround b ib off len f s w) (hrd : s.rd = false) (hcap : len <= cap) (h0 : 0 < len -> a0 = some ⟨ib, off, none⟩) :
  CoCalls 8 #[.pointer (some ⟨hb, 0, none⟩), .slice a0 len cap] w fun v w' => v = .tuple #[.int .i64 len, .int .i64 0] /\ w.grownBy w' (some b) /\ ∃ s', Wrote s len f s' /\ Sp w' b s' := by
 have c3 : w.cell? ⟨hb, 3, none⟩ = some (.iface 64 (.pointer (some ⟨b, 0, none⟩))) := by
  exact cell_of_row w hb 3 _ _ _ hh
 refine CoCalls.body Tryz.func8 rfl rfl ?_
 simp only [Tryz.ntmps8, List.size_toArray, List.length_cons, List.length_nil, Nat.reduceAdd, Nat.reduceSub, Array.replicate_succ, Array.replicate_zero, List.push_toArray, List.append_toArray, List.nil_append, List.cons_append]
 refine wpC_still (by kernel_rfl) (by kernel_rfl) fun W hW K hK => ?_
 go_wp2
 refine hK.out _ (wpC_seq (by kernel_rfl) (wpC_region (wpO_still 0 5 (by decide) (by kernel_rfl) fun W hW K hK => ?_)))
 have k3 := hW.cell c3
 simp only [List.take_succ_cons, List.take_zero, List.drop_succ_cons, List.drop_zero]
 go_wp2
 refine hK.out _ (wpO_call (f := 105) (args := #[.pointer (some ⟨b, 0, none⟩), .slice a0 len cap]) rfl rfl (fun w => ⟨?_, ?_⟩) ?_)
 ·go_simp
  rw [(meth_sp _ w).1]
  exact (callFunc_run Tryz.func105 rfl (by kernel_rfl) _ _).1
 ·unfold execOp
  simp [go_sem]
  rw [(meth_sp _ w).1, (meth_sp _ w).2]
  exact (callFunc_run Tryz.func105 rfl (by kernel_rfl) _ _).2
 refine (write_co W0 hrd hcap h0).mono ?_
 rintro v w1 ⟨rfl, g1, s', hs', hS⟩
 refine wpO_done 6 (by decide) (by kernel_rfl) fun W hW K hK => ?_
 simp only [List.drop_succ_cons, List.drop_zero]
 go_wp2
 refine hK.out _ _ fun w2 S2 => ?_
 rw [S2.same]
 refine .inl ⟨by trivial, wpC_at (wpC_ret ⟨rfl, .tuple #[.int .i64 len, .int .i64 0], fun W _ => ?_, rfl, g1, s', hs', hS⟩)⟩
 rw [results_tmp2 rfl]
 rfl
end
end
section
open Go.RowKit Go.Shelf Bt
attribute [local go_sem] lt_s2 lt_s3 lt_s4 lt_s5 lt_s6
def dkC (mb last : Nat) : Array Value := #[.map (some mb), .int .i64 last]
structure Dk (w : World) (db mb last : Nat) (es : Array MapEntry) (ck : Nat) : Prop where
 d : w.heap[db]? = some (.cells (dkC mb last) 169 (0, 0))
 m : w.heap[mb]? = some (.map es ck)
theorem Dk.cells {w : World} {db mb last : Nat} {es : Array MapEntry} {ck : Nat} (h : Dk w db mb last es ck) : w.cell? ⟨db, 0, none⟩ = some (.map (some mb)) /\ w.cell? ⟨db, 1, none⟩ = some (.int .i64 last) /\ w.frozen? ⟨db, 1, none⟩ = false := ⟨cell_of_row w db 0 _ _ _ h.d, cell_of_row w db 1 _ _ _ h.d, Lib.frozen_of_heap h.d 1⟩
theorem Dk.kept {w w1 : World} {db mb last : Nat} {es : Array MapEntry} {ck : Nat} (h : Dk w db mb last es ck) (hb : ∀ b, b < w.heap.size -> w.heap[b]? = some (.cells (dkC mb last) 169 (0, 0)) \/ w.heap[b]? = some (.map es ck) -> w1.heap[b]? = w.heap[b]?) : Dk w1 db mb last es ck :=
 ⟨(hb db (Array.getElem?_eq_some_iff.1 h.d).1 (.inl h.d)).trans h.d, (hb mb (Array.getElem?_eq_some_iff.1 h.m).1 (.inr h.m)).trans h.m⟩
theorem Dk.below {w w1 : World} {db mb last : Nat} {es : Array MapEntry} {ck : Nat} (h : Dk w db mb last es ck) (hb : Below w.heap.size w w1) : Dk w1 db mb last es ck := h.kept fun b hlt _ => hb.block b hlt
theorem dnew_w (w : World) : Calls Tryz.prog 53 #[] w fun e w' => e = .returned (.pointer (some ⟨w.heap.size + 1, 0, none⟩)) /\ Dk w' (w.heap.size + 1) w.heap.size 0 #[] 0 /\ Below w.heap.size w w' := by
 have hm := @run_makeMap Tryz.prog
 go_enter Tryz.func53, Tryz.ntmps53
 go_wp2
 go_ret
 exact ⟨rfl, ⟨heap_at _ _ _ (by simp), heap_past _ _ _ _ (by simp) (heap_at _ _ _ rfl)⟩, bl_alloc (bl_alloc (bl_refl w))⟩
theorem cell_putObj {w : World} {r b off : Nat} {o : Obj} (h : b ≠ r) : (w.putObj r o).cell? ⟨b, off, none⟩ = w.cell? ⟨b, off, none⟩ := World.cell?_of_block (World.putObj_heap_other h)
theorem run_lenMap {T kt et : TypeId} {b ck : Nat} {es : Array MapEntry} {w : World} (hT : Tryz.prog.underlying T = some (.map kt et)) (hw : w.heap[b]? = some (.map es ck)) : (Builtin.len_ #[T] 3 #[.map (some b)]).run Tryz.prog w = .ok (.int .i64 es.size) w := by
 simp [Builtin.len_, go_sem, run_und hT, run_getMap hw]
set_option maxRecDepth 100000 in
set_option maxHeartbeats 2000000 in
theorem put_w (db mb : Nat) (hne : db ≠ mb) (v : Option Addr) (w : World) (hd : Dk w db mb 0 #[] 0) :
  Calls Tryz.prog 216 #[.pointer (some ⟨db, 0, none⟩), .pointer v, .int .i64 0] w fun e w' => e = .returned (.tuple #[.int .i64 1, .int .i64 0]) /\ Dk w' db mb 1 #[⟨.int .i64 1, .pointer v, 0⟩] 1 /\ (∀ k, k < w.heap.size -> k ≠ db -> k ≠ mb -> w'.heap[k]? = w.heap[k]?) /\ w.heap.size <= w'.heap.size /\ w'.os = w.os /\ w'.output = w.output /\ w'.tape = w.tape := by
 obtain ⟨c0, c1, f1⟩ := hd.cells
 have hl := run_lenMap Tryz.underlying167 hd.m
 have hlt : db < w.heap.size := (Array.getElem?_eq_some_iff.1 hd.d).1
 have hlm : mb < w.heap.size := (Array.getElem?_eq_some_iff.1 hd.m).1
 have hm1 : (w.setCell ⟨db, 1, none⟩ (.int .i64 1)).drew.heap[mb]? = some (.map #[] 0) := by
  show (w.setCell ⟨db, 1, none⟩ (.int .i64 1)).heap[mb]? = _
  rw [Below.heap_setCell w _ _ mb (fun e => hne e.symm)]
  exact hd.m
 have hu := run_mapUpdate_new (T := 167) (v := .pointer v) (key := 1) Tryz.underlying167 Tryz.underlying3 hm1 (by rfl)
 have HD := Lib.hid hd
 clear hd hm1
 go_enter Tryz.func216, Tryz.ntmps216
 go_wp2
 have hcp := fun (W : World) (off : Nat) (o : Obj) => cell_putObj (w := W) (r := mb) (b := db) (off := off) (o := o) hne
 go_region
 all_goals
  go_wp2_with fail
  go_ret2
  have e1 : ((w.setCell ⟨db, 1, none⟩ (.int .i64 1)).drew.putObj mb (.map (#[].push ⟨.int .i64 1, .pointer v, 0⟩) (0 + 1))).heap[db]? = (w.setCell ⟨db, 1, none⟩ (.int .i64 1)).heap[db]? := World.putObj_heap_other hne
  refine ⟨rfl, ⟨e1.trans ?_, World.putObj_heap_same (by show mb < (w.setCell ⟨db, 1, none⟩ (.int .i64 1)).heap.size; simpa [World.setCell] using hlm)⟩, fun k hk h1 h2 => ?_, by simp [World.setCell], rfl, rfl, rfl⟩
  ·unfold World.setCell
   dsimp only
   rw [Array.getElem?_modify, if_pos rfl, HD.out.d]
   rfl
  ·rw [World.putObj_heap_other h2]
   exact Below.heap_setCell w _ _ k h1
structure Chg (w w' : World) (L : List Nat) : Prop where
 os : w'.os = w.os
 output : w'.output = w.output
 tape : w'.tape = w.tape
 size : w.heap.size <= w'.heap.size
 keep : ∀ k, k < w.heap.size -> k ∉ L -> w'.heap[k]? = w.heap[k]?
theorem Chg.of_gb {w w' : World} {r : Nat} (h : w.grownBy w' (some r)) : Chg w w' [r] := ⟨h.os, h.output, h.tape, h.size, fun k hk hr => h.block k hk (fun e => hr (by cases e; simp))⟩
theorem Chg.of_below {w w' : World} (h : Below w.heap.size w w') (L : List Nat) : Chg w w' L := ⟨h.os, h.output, h.tape, h.size, fun k hk _ => h.block k hk⟩
theorem Chg.trans {w w1 w2 : World} {L : List Nat} (h : Chg w w1 L) (h2 : Chg w1 w2 L) : Chg w w2 L := ⟨h2.os.trans h.os, h2.output.trans h.output, h2.tape.trans h.tape, Nat.le_trans h.size h2.size, fun k hk hr => (h2.keep k (Nat.lt_of_lt_of_le hk h.size) hr).trans (h.keep k hk hr)⟩
theorem Chg.wider {w w1 : World} {L L' : List Nat} (h : Chg w w1 L) (hL : ∀ k, k < w.heap.size -> k ∈ L -> k ∈ L') : Chg w w1 L' := ⟨h.os, h.output, h.tape, h.size, fun k hk hr => h.keep k hk fun hm => hr (hL k hk hm)⟩
theorem Chg.tabs {w w1 : World} {L : List Nat} (h : Chg w w1 L) (ht : Tabs w) (hL : ∀ k ∈ L, 21 <= k) : Tabs w1 := by
 have key : ∀ {g o : Nat} {v : Value}, g < 21 -> w.cell? ⟨g, o, none⟩ = some v -> w1.cell? ⟨g, o, none⟩ = some v := by
  intro g o v hg hv
  rw [World.cell?_of_block (h.keep g (cell_lt hv) (fun hm => by have := hL g hm; omega))]
  exact hv
 exact ⟨⟨fun a ha => key (by decide) (ht.e.word a ha), fun a ha => key (by decide) (ht.e.kind a ha), fun a ha => key (by decide) (ht.e.dig a ha), fun a ha => key (by decide) (ht.e.blk a ha)⟩, ⟨key (by decide) ht.r.c0, key (by decide) ht.r.c1, key (by decide) ht.r.c2, key (by decide) ht.r.c3⟩⟩
theorem Chg.tabK {w w1 : World} {L : List Nat} (h : Chg w w1 L) (ht : TabK w) (hL : ∀ k ∈ L, 21 <= k) : TabK w1 := by
 have key : ∀ {g o : Nat} {v : Value}, g < 21 -> w.cell? ⟨g, o, none⟩ = some v -> w1.cell? ⟨g, o, none⟩ = some v := by
  intro g o v hg hv
  rw [World.cell?_of_block (h.keep g (cell_lt hv) (fun hm => by have := hL g hm; omega))]
  exact hv
 exact ⟨fun j hj => key (by decide) (ht.off j hj), fun j hj => key (by decide) (ht.rc j hj)⟩
section
variable (a1 a2 : Option Addr) (c1 c2 : Nat)
set_option maxRecDepth 100000 in
set_option maxHeartbeats 2000000 in
theorem deskNew_w (a : Nat) (ha : a < 15) (hk : 2 <= kindC a) (db mb : Nat) (hne : db ≠ mb) (w : World) (hd : Dk w db mb 0 #[] 0) (ht : Tabs w) :
  Calls Tryz.prog 147 #[.pointer (some ⟨db, 0, none⟩), .int .i64 a, nmV a1 c1 a2 c2] w fun e w' => e = .returned (.tuple #[.int .i64 1, .int .i64 0]) /\ ∃ hb sb n1 n2, w.heap.size <= sb /\ sb < hb /\ Dk w' db mb 1 #[⟨.int .i64 1, .pointer (some ⟨hb, 0, none⟩), 0⟩] 1 /\ Hs w' hb a n1 n2 sb /\ Sp w' sb (freshS a) /\ Chg w w' [db, mb] := by
 have CN : Hid (∀ w : World, Tabs w -> Calls Tryz.prog 7 #[.int .i64 a, .agg #[.slice a1 0 c1, .slice a2 0 c2]] w fun e w' => ∃ hb sb n1 n2, e = .returned (.tuple #[.pointer (some ⟨hb, 0, none⟩), .int .i64 0]) /\ w.heap.size <= sb /\ sb < hb /\ Hs w' hb a n1 n2 sb /\ Sp w' sb (freshS a) /\ Below w.heap.size w w') := Lib.hid (hnew_w a1 a2 c1 c2 a ha hk)
 have CP : Hid (∀ (v : Option Addr) (w : World), Dk w db mb 0 #[] 0 -> Calls Tryz.prog 216 #[.pointer (some ⟨db, 0, none⟩), .pointer v, .int .i64 0] w fun e w' => e = .returned (.tuple #[.int .i64 1, .int .i64 0]) /\ Dk w' db mb 1 #[⟨.int .i64 1, .pointer v, 0⟩] 1 /\ (∀ k, k < w.heap.size -> k ≠ db -> k ≠ mb -> w'.heap[k]? = w.heap[k]?) /\ w.heap.size <= w'.heap.size /\ w'.os = w.os /\ w'.output = w.output /\ w'.tape = w.tape) := Lib.hid (put_w db mb hne)
 have HT : Hid (∀ {w' : World}, Below w.heap.size w w' -> Tabs w') := Lib.hid fun hB => ht.below hB
 have HD := Lib.hid hd
 have hl1 := (Array.getElem?_eq_some_iff.1 hd.d).1
 have hl2 := (Array.getElem?_eq_some_iff.1 hd.m).1
 clear ht hd
 unfold nmV
 go_enter Tryz.func147, Tryz.ntmps147
 go_wp2_with (first | (go_at_call 7; (refine (CN.out _ (HT.out (bl_alloc (bl_refl w)))).mono ?_); rintro e w1 ⟨hb, sb, n1, n2, rfl, q1, q2, q3, q4, q5⟩; have B1 := Lib.hid (bl_call (bl_alloc (bl_refl w)) q5); have Q := Lib.hid (And.intro q1 (And.intro q2 (And.intro q3 q4))); clear q1 q2 q3 q4 q5) | (go_at_call 216; (refine (CP.out _ _ (HD.out.below B1.out)).mono ?_); rintro e w2 ⟨rfl, r1, r2, r3, r4, r5, r6⟩))
 go_ret2
 have q1 : w.heap.size <= sb := by have := Q.out.1; simp at this; omega
 have q2 := Q.out.2.1
 refine ⟨rfl, hb, sb, n1, n2, q1, q2, r1, ?_, ?_, r4.trans B1.out.os, r5.trans B1.out.output, r6.trans B1.out.tape, Nat.le_trans B1.out.size r3, fun k hk hL => ?_⟩
 ·unfold Hs
  rw [r2 hb (Array.getElem?_eq_some_iff.1 Q.out.2.2.1).1 (by omega) (by omega)]
  exact Q.out.2.2.1
 ·obtain ⟨t, fr, z1, z2⟩ := Q.out.2.2.2
  exact ⟨t, fr, by rw [r2 sb (Array.getElem?_eq_some_iff.1 z1).1 (by omega) (by omega)]; exact z1, z2⟩
 ·have hm : k ≠ db /\ k ≠ mb := by simpa using hL
  rw [r2 k (Nat.lt_of_lt_of_le hk B1.out.size) hm.1 hm.2]
  exact B1.out.block k hk
end
end
end Go.Proofs.YtdobjciaikofdaaGreatDoor
