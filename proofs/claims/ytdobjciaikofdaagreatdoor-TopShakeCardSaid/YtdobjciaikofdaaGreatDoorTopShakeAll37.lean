/- Part 37 of 39 of what the proof of this law needs. Put together by a program out of the texts: CwK CwL CwM CwJ RowKit. -/
import Derived.Test.YtdobjciaikofdaaGreatDoorTopShakeAll36
import Derived.Test.YtdobjciaikofdaaGreatDoorTopShakeAll11
import Derived.WalkKit
import Derived.ProofKit
import Derived.OpenShut
import Derived.ChangeOld
import Derived.Below
namespace Go.Proofs.YtdobjciaikofdaaGreatDoor
section
open Go Go.Conc Go.RowKit Go.Shelf Bt
attribute [local go_sem] lt_s2 lt_s3 lt_s4 lt_s5 lt_s6
def sndC : Code -> Code | .seq _ d => d | c => c
def fstC : Code -> Code | .seq c _ => c | c => c
def inC : Code -> Code | .block _ c => c | .loop c => c | c => c
noncomputable def law5 : Code := (Tryz.f5.body).getD .skip
noncomputable def law8 : Code := sndC (sndC (sndC (sndC (sndC (sndC (sndC (sndC law5)))))))
noncomputable def lawB : Code := inC (inC (sndC (fstC law8)))
noncomputable def lawE : Code := sndC law8
structure LT (T : Array Value) (a : Option Addr) (n c m hb1 hb2 k : Nat) : Prop where
 sz : T.size = 121
 x2 : T[2]? = some (.int .u8 m)
 x9 : T[9]? = some (.pointer (some ⟨hb1, 0, none⟩))
 x11 : T[11]? = some (.pointer (some ⟨hb2, 0, none⟩))
 x55 : T[55]? = some (.slice a n c)
 x56 : T[56]? = some (.int .i64 n)
 x57 : T[57]? = some (.int .i64 k)
section
variable {T : Array Value} {a : Option Addr} {n c m hb1 hb2 k : Nat}
theorem LT.set (h : LT T a n c m hb1 hb2 k) (i : Nat) (v : Value) (hi : i ≠ 2 /\ i ≠ 9 /\ i ≠ 11 /\ i ≠ 55 /\ i ≠ 56 /\ i ≠ 57) : LT (T.setIfInBounds i v) a n c m hb1 hb2 k :=
 ⟨by simpa using h.sz, by rw [Array.getElem?_setIfInBounds_ne hi.1]; exact h.x2, by rw [Array.getElem?_setIfInBounds_ne hi.2.1]; exact h.x9, by rw [Array.getElem?_setIfInBounds_ne hi.2.2.1]; exact h.x11, by rw [Array.getElem?_setIfInBounds_ne hi.2.2.2.1]; exact h.x55, by rw [Array.getElem?_setIfInBounds_ne hi.2.2.2.2.1]; exact h.x56, by rw [Array.getElem?_setIfInBounds_ne hi.2.2.2.2.2]; exact h.x57⟩
theorem get_of {T : Array Value} {i : Nat} {v : Value} (h : T[i]? = some v) (hi : i < T.size) : T[i] = v := (Array.getElem?_eq_some_iff.1 h).2
theorem set_at {T : Array Value} {i : Nat} (h : i < T.size) (v : Value) : (T.setIfInBounds i v)[i]? = some v := by simp [h]
end
set_option maxRecDepth 100000 in
theorem lawB_start {n c m hb1 hb2 k : Nat} {a : Option Addr} {A : Nat -> Option Addr} {L C : Nat -> Nat} {F : Nat -> Nat -> Nat} {Q : Exit -> Array Value -> World -> Prop} {T : Array Value} {w : World} (hT : LT T a n c m hb1 hb2 k) (hP : Pcs w a n A L C F) (hk : k < n)
  (h : ∀ T', LT T' a n c m hb1 hb2 k -> T'[14]? = some (.slice (A k) (L k) (C k)) -> wpC (sndC (inC (fstC (sndC (sndC lawB))))) (fun e T w => ((e = .normal \/ e = .exit 1) /\ ((Exit.normal = .normal /\ wpC (sndC (sndC (sndC lawB))) Q T w) \/ (Exit.normal ≠ .normal /\ Q .normal T w))) \/ (e ≠ .normal /\ e ≠ .exit 1 /\ ((e = .normal /\ wpC (sndC (sndC (sndC lawB))) Q T w) \/ (e ≠ .normal /\ Q e T w)))) T' w) : wpC lawB Q T w := by
 obtain ⟨b, o, rfl, hc⟩ := hP.at_ (by omega)
 have c0 := hc k hk
 have hs := hT.sz
 have g55 := get_of hT.x55 (by omega)
 have g56 := get_of hT.x56 (by omega)
 have g57 := get_of hT.x57 (by omega)
 dsimp only [lawB, law8, law5, Tryz.f5, Option.getD, sndC, fstC, inC] at h ⊢
 have hi : (k : Int) < n := by omega
 refine wpC_still (by kernel_rfl) (by kernel_rfl) fun W hW K hK => ?_
 go_wp2
 have ev : Act.eval ⟨T.setIfInBounds 58 (.bool true), []⟩ (.tmp 58) = .bool true := by simp [go_sem, hs]
 refine hK.out _ (wpC_seq (by kernel_rfl) (wpC_cond (t := true) ev (wpC_skip (.inl ⟨rfl, ?_⟩))))
 have hT1 := hT.set 58 (.bool true) (by decide)
 clear hK ev g55 g56 g57 hs
 obtain ⟨T1, e1⟩ : ∃ T1, T.setIfInBounds 58 (.bool true) = T1 := ⟨_, rfl⟩
 rw [e1] at hT1 ⊢
 have hs := hT1.sz
 have g55 := get_of hT1.x55 (by omega)
 have g57 := get_of hT1.x57 (by omega)
 refine wpC_seq (by kernel_rfl) (wpC_block (wpC_still (by kernel_rfl) (by kernel_rfl) fun W hW K hK => ?_))
 have d0 := hW.cell c0
 go_wp2
 exact hK.out _ (h _ (((hT1.set 59 _ (by decide)).set 60 _ (by decide)).set 14 _ (by decide)) (set_at (by simp [hs]) _))
noncomputable def lawW1 : Code := fstC (sndC (inC (fstC (sndC (sndC lawB)))))
noncomputable def lawW2 : Code := fstC (sndC (sndC (inC (fstC (sndC (sndC lawB))))))
theorem wg_of {w : World} {a : Option Addr} {n k sb : Nat} {A : Nat -> Option Addr} {L C : Nat -> Nat} {F : Nat -> Nat -> Nat} {s : Spg} (g : GW w) (hP : Pcs w a n A L C F) (hk : k < n) (hS : Sp w sb s) (ok : s.Ok) (room : s.at_ < s.rate) (hlo : ∀ b o, A k = some ⟨b, o, none⟩ -> 0 < L k -> b < sb) (hb : 21 <= sb) : ∃ ib off, WGround sb ib off (L k) (F k) s w /\ (0 < L k -> A k = some ⟨ib, off, none⟩) := by
 rcases Nat.eq_zero_or_pos (L k) with h0 | h0
 ·refine ⟨20, 0, ⟨hS, g.k, g.tame, g.tame 20 rfl, fun i hi => by omega, by simp [LsU]; omega, ok, room, fun i hi => by omega⟩, fun h => by omega⟩
 ·obtain ⟨b, o, e, hc⟩ := hP.rd k hk h0
  obtain ⟨b', o', e', ht⟩ := hP.tame k hk h0
  rw [e] at e'
  cases e'
  have := hlo b o e h0
  exact ⟨b, o, ⟨hS, g.k, g.tame, ht, hc, by simp [LsU]; omega, ok, room, hP.lt k hk⟩, fun _ => e⟩
set_option maxRecDepth 100000 in
theorem lawW1_co {n c m hb1 hb2 sb1 k p ib off len cap : Nat} {a a0 : Option Addr} {f : Nat -> Nat} {s : Spg} {Q : Exit -> Array Value -> World -> Prop} {T : Array Value} {w : World} {m1 m2 : Value} (hT : LT T a n c m hb1 hb2 k) (h14 : T[14]? = some (.slice a0 len cap)) (hh : Hs w hb1 p m1 m2 sb1) (W0 : WGround sb1 ib off len f s w) (hrd : s.rd = false) (hcap : len <= cap) (h0 : 0 < len -> a0 = some ⟨ib, off, none⟩)
  (h : ∀ T' w' s', LT T' a n c m hb1 hb2 k -> T'[14]? = some (.slice a0 len cap) -> w.grownBy w' (some sb1) -> Wrote s len f s' -> Sp w' sb1 s' -> Q .normal T' w') : wpC lawW1 Q T w := by
 have hs := hT.sz
 have g9 := get_of hT.x9 (by omega)
 have g14 := get_of h14 (by omega)
 dsimp only [lawW1, lawB, law8, law5, Tryz.f5, Option.getD, sndC, fstC, inC]
 refine wpC_region (wpO_still 0 2 (by decide) (by kernel_rfl) fun W hW K hK => ?_)
 simp only [List.take_succ_cons, List.take_zero, List.drop_zero]
 go_wp2
 have hT1 := (hT.set 61 (.pointer (some ⟨hb1, 0, none⟩)) (by decide)).set 62 (.slice a0 len cap) (by decide)
 have x14 : ((T.setIfInBounds 61 (.pointer (some ⟨hb1, 0, none⟩))).setIfInBounds 62 (.slice a0 len cap))[14]? = some (.slice a0 len cap) := by rw [Array.getElem?_setIfInBounds_ne (by decide), Array.getElem?_setIfInBounds_ne (by decide)]; exact h14
 have x61 : ((T.setIfInBounds 61 (.pointer (some ⟨hb1, 0, none⟩))).setIfInBounds 62 (.slice a0 len cap))[61]? = some (.pointer (some ⟨hb1, 0, none⟩)) := by rw [Array.getElem?_setIfInBounds_ne (by decide)]; exact set_at (by omega) _
 have x62 : ((T.setIfInBounds 61 (.pointer (some ⟨hb1, 0, none⟩))).setIfInBounds 62 (.slice a0 len cap))[62]? = some (.slice a0 len cap) := set_at (by simp [hs]) _
 obtain ⟨T1, e1⟩ : ∃ T1, (T.setIfInBounds 61 (.pointer (some ⟨hb1, 0, none⟩))).setIfInBounds 62 (.slice a0 len cap) = T1 := ⟨_, rfl⟩
 rw [e1] at hT1 x14 x61 x62 ⊢
 have v61 : Act.eval ⟨T1, []⟩ (.tmp 61) = .pointer (some ⟨hb1, 0, none⟩) := by simp [go_sem, x61]
 have v62 : Act.eval ⟨T1, []⟩ (.tmp 62) = .slice a0 len cap := by simp [go_sem, x62]
 refine hK.out _ (wpO_call (f := 8) (args := #[.pointer (some ⟨hb1, 0, none⟩), .slice a0 len cap]) rfl rfl (fun w => ⟨?_, ?_⟩) ?_)
 ·have := (callFunc_run Tryz.func8 rfl (by kernel_rfl) #[.pointer (some ⟨hb1, 0, none⟩), .slice a0 len cap] w).1
  simp only [execOp]
  go_simp
 ·unfold execOp
  simp [go_sem]
  exact (callFunc_run Tryz.func8 rfl (by kernel_rfl) _ _).2
 refine (hwrite_co hh W0 hrd hcap h0).mono ?_
 rintro v w1 ⟨rfl, g1, s', hs', hS⟩
 exact wpO_nil (h (T1.setIfInBounds 63 _) w1 s' (hT1.set 63 _ (by decide)) (by rw [Array.getElem?_setIfInBounds_ne (by decide)]; exact x14) g1 hs' hS)
set_option maxRecDepth 100000 in
theorem lawW2_co {n c m hb1 hb2 sb2 k p ib off len cap : Nat} {a a0 : Option Addr} {f : Nat -> Nat} {s : Spg} {Q : Exit -> Array Value -> World -> Prop} {T : Array Value} {w : World} {m1 m2 : Value} (hT : LT T a n c m hb1 hb2 k) (h14 : T[14]? = some (.slice a0 len cap)) (hh : Hs w hb2 p m1 m2 sb2) (W0 : WGround sb2 ib off len f s w) (hrd : s.rd = false) (hcap : len <= cap) (h0 : 0 < len -> a0 = some ⟨ib, off, none⟩)
  (h : ∀ T' w' s', LT T' a n c m hb1 hb2 k -> T'[14]? = some (.slice a0 len cap) -> w.grownBy w' (some sb2) -> Wrote s len f s' -> Sp w' sb2 s' -> Q .normal T' w') : wpC lawW2 Q T w := by
 have hs := hT.sz
 have g11 := get_of hT.x11 (by omega)
 have g14 := get_of h14 (by omega)
 dsimp only [lawW2, lawB, law8, law5, Tryz.f5, Option.getD, sndC, fstC, inC]
 refine wpC_region (wpO_still 0 2 (by decide) (by kernel_rfl) fun W hW K hK => ?_)
 simp only [List.take_succ_cons, List.take_zero, List.drop_zero]
 go_wp2
 have hT1 := (hT.set 64 (.pointer (some ⟨hb2, 0, none⟩)) (by decide)).set 65 (.slice a0 len cap) (by decide)
 have x14 : ((T.setIfInBounds 64 (.pointer (some ⟨hb2, 0, none⟩))).setIfInBounds 65 (.slice a0 len cap))[14]? = some (.slice a0 len cap) := by rw [Array.getElem?_setIfInBounds_ne (by decide), Array.getElem?_setIfInBounds_ne (by decide)]; exact h14
 have x64 : ((T.setIfInBounds 64 (.pointer (some ⟨hb2, 0, none⟩))).setIfInBounds 65 (.slice a0 len cap))[64]? = some (.pointer (some ⟨hb2, 0, none⟩)) := by rw [Array.getElem?_setIfInBounds_ne (by decide)]; exact set_at (by omega) _
 have x65 : ((T.setIfInBounds 64 (.pointer (some ⟨hb2, 0, none⟩))).setIfInBounds 65 (.slice a0 len cap))[65]? = some (.slice a0 len cap) := set_at (by simp [hs]) _
 obtain ⟨T1, e1⟩ : ∃ T1, (T.setIfInBounds 64 (.pointer (some ⟨hb2, 0, none⟩))).setIfInBounds 65 (.slice a0 len cap) = T1 := ⟨_, rfl⟩
 rw [e1] at hT1 x14 x64 x65 ⊢
 have v64 : Act.eval ⟨T1, []⟩ (.tmp 64) = .pointer (some ⟨hb2, 0, none⟩) := by simp [go_sem, x64]
 have v65 : Act.eval ⟨T1, []⟩ (.tmp 65) = .slice a0 len cap := by simp [go_sem, x65]
 refine hK.out _ (wpO_call (f := 8) (args := #[.pointer (some ⟨hb2, 0, none⟩), .slice a0 len cap]) rfl rfl (fun w => ⟨?_, ?_⟩) ?_)
 ·have := (callFunc_run Tryz.func8 rfl (by kernel_rfl) #[.pointer (some ⟨hb2, 0, none⟩), .slice a0 len cap] w).1
  simp only [execOp]
  go_simp
 ·unfold execOp
  simp [go_sem]
  exact (callFunc_run Tryz.func8 rfl (by kernel_rfl) _ _).2
 refine (hwrite_co hh W0 hrd hcap h0).mono ?_
 rintro v w1 ⟨rfl, g1, s', hs', hS⟩
 exact wpO_nil (h (T1.setIfInBounds 66 _) w1 s' (hT1.set 66 _ (by decide)) (by rw [Array.getElem?_setIfInBounds_ne (by decide)]; exact x14) g1 hs' hS)
noncomputable def lawQ : Code := sndC (sndC (sndC (sndC (sndC (inC (fstC (sndC (sndC lawB))))))))
set_option maxRecDepth 100000 in
set_option maxHeartbeats 1000000 in
theorem lawQ_co {n c m hb1 hb2 k N cv dv : Nat} {a av bv : Option Addr} {f : Nat -> Int} {Q : Exit -> Array Value -> World -> Prop} {T : Array Value} {w : World} (hT : LT T a n c m hb1 hb2 k) (h15 : T[15]? = some (.slice av N cv)) (h17 : T[17]? = some (.slice bv N dv)) (hN : 0 < N) (hN2 : N <= 140737488351296) (ra : reads w av N .u8 f) (rb : reads w bv N .u8 f)
  (h : ∀ T' w', LT T' a n c m hb1 hb2 k -> Kept w w' -> Q .normal T' w') : wpC lawQ Q T w := by
 have hs := hT.sz
 have g15 := get_of h15 (by omega)
 have g17 := get_of h17 (by omega)
 have hz : ¬ ((N : Int) = 0) := by omega
 dsimp only [lawQ, lawB, law8, law5, Tryz.f5, Option.getD, sndC, fstC, inC]
 refine wpC_go (by kernel_rfl) (by kernel_rfl) fun W hW K hK => ?_
 have CE := Lib.hid (same8_w av bv N cv dv f f (fun _ _ => rfl) W (by unfold maxLen; omega) (hW.reads ra) (hW.reads rb))
 go_wp2_with (go_at_call 13; refine CE.out.mono ?_; rintro e w' ⟨rfl, b1⟩)
 refine hK.out _ _ fun w2 S2 => ?_
 have k2 := S2.kept b1
 have hT2 := (((((((((hT.set 79 (.slice av N cv) (by decide)).set 80 (.slice bv N dv) (by decide)).set 81 (.bool true) (by decide)).set 82 (.bool false) (by decide)).set 83 (.bool false) (by decide)).set 84 (.slice av N cv) (by decide)).set 85 (.int .i64 N) (by decide)).set 86 (.bool ((N : Int) == 0)) (by decide)).set 87 (.bool ((N : Int) == 0)) (by decide))
 have e0 : ((N : Int) == 0) = false := by simpa using hz
 refine wpC_cond (t := false) (by rw [<- e0]; simp [go_sem, hs]) (wpC_skip (h _ _ hT2 k2))
noncomputable def lawS : Code := sndC (sndC (sndC (inC (fstC (sndC (sndC lawB))))))
set_option maxRecDepth 100000 in
set_option maxHeartbeats 4000000 in
theorem lawS_co {n c m hb1 hb2 sb1 sb2 k p q len cap : Nat} {a a0 : Option Addr} {f : Nat -> Int} {s : Spg} {Q : Exit -> Array Value -> World -> Prop} {T : Array Value} {w : World} {m1 m2 m3 m4 : Value} (g : GW w) (hT : LT T a n c m hb1 hb2 k) (h14 : T[14]? = some (.slice a0 len cap)) (hp : p < 15 /\ 2 <= kindC p /\ q < 15 /\ 2 <= kindC q /\ digC p = digC q /\ 0 < digC p /\ digC p <= 64) (h1 : Hs w hb1 p m1 m2 sb1) (h2 : Hs w hb2 q m3 m4 sb2) (s1 : Sp w sb1 s) (s2 : Sp w sb2 s) (ok : s.Ok) (hrd : s.rd = false) (hl : len <= 140737488351232) (hr : reads w a0 len .u8 f)
    (h : ∀ T' w', LT T' a n c m hb1 hb2 k -> Kept w w' -> Q .normal T' w') : wpC lawS Q T w := by
  obtain ⟨p1, p2, q1, q2, dd, d0, d64⟩ := hp
  have hs := hT.sz
  have g9 := get_of hT.x9 (by omega)
  have g14 := get_of h14 (by omega)
  dsimp only [lawS, lawB, law8, law5, Tryz.f5, Option.getD, sndC, fstC, inC]
  refine wpC_go (by kernel_rfl) (by kernel_rfl) fun W hW K hK => ?_
  have CS := Lib.hid (hsum_w p1 p2 s ok hrd a0 len cap f (by omega) W (hW.reads hr) (show Hs W hb1 p m1 m2 sb1 from hW.obj _ _ h1 rfl) (hW.sp s1) (hW.tabs g.t) (hW.tabK g.k))
  go_wp2_with (go_at_call 9; refine CS.out.mono ?_; rintro e w' ⟨v, rfl, o1, b1⟩)
  rw [hW.size] at o1
  refine hK.out _ _ fun w1 S1 => ?_
  have k1 := S1.kept b1
  obtain ⟨av, cv, rfl, _, _, ra⟩ := owns_reads (row_saw S1 o1 : owns w1 _ _ _ _ _ _)
  have hT1 := (((((((hT.set 68 (.pointer (some ⟨hb1, 0, none⟩)) (by decide)).set 69 (.slice a0 len cap) (by decide)).set 70 (.tuple #[.slice av (len + digC p) cv, .int .i64 0]) (by decide)).set 67 (.tuple #[.slice av (len + digC p) cv, .int .i64 0]) (by decide)).set 71 (.slice av (len + digC p) cv) (by decide)).set 72 (.int .i64 0) (by decide)).set 15 (.slice av (len + digC p) cv) (by decide)).set 16 (.int .i64 0) (by decide)
  obtain ⟨T1, e1⟩ : ∃ T1, (((((((T.setIfInBounds 68 (.pointer (some ⟨hb1, 0, none⟩))).setIfInBounds 69 (.slice a0 len cap)).setIfInBounds 70 (.tuple #[.slice av (len + digC p) cv, .int .i64 0])).setIfInBounds 67 (.tuple #[.slice av (len + digC p) cv, .int .i64 0])).setIfInBounds 71 (.slice av (len + digC p) cv)).setIfInBounds 72 (.int .i64 0)).setIfInBounds 15 (.slice av (len + digC p) cv)).setIfInBounds 16 (.int .i64 0) = T1 := ⟨_, rfl⟩
  have y14 : T1[14]? = some (.slice a0 len cap) := by rw [<- e1]; iterate 8 rw [Array.getElem?_setIfInBounds_ne (by decide)]
                                                      exact h14
  have y15 : T1[15]? = some (.slice av (len + digC p) cv) := by rw [<- e1, Array.getElem?_setIfInBounds_ne (by decide)]; exact set_at (by simp [hs]) _
  rw [e1] at hT1 ⊢
  clear e1 CS hK g9 g14 hs hT o1 b1
  have hs := hT1.sz
  have g11 := get_of hT1.x11 (by omega)
  have g14 := get_of y14 (by omega)
  refine wpC_go (by kernel_rfl) (by kernel_rfl) fun W hW K hK => ?_
  have gk := g.kept k1
  have CS := Lib.hid (hsum_w q1 q2 s ok hrd a0 len cap f (by omega) W (hW.reads (reads_below (Nat.le_refl _) k1.bel hr)) (show Hs W hb2 q m3 m4 sb2 from hW.obj _ _ ((k1.keep _ (Array.getElem?_eq_some_iff.1 h2).1).trans h2) rfl) (hW.sp (s2.below (Nat.le_refl _) k1.bel)) (hW.tabs gk.t) (hW.tabK gk.k))
  rw [<- dd] at CS
  go_wp2_with (go_at_call 9; refine CS.out.mono ?_; rintro e w' ⟨v, rfl, o1, b1⟩)
  rw [hW.size] at o1
  refine hK.out _ _ fun w2 S2 => ?_
  have k2 := S2.kept b1
  obtain ⟨bv, dv, rfl, _, _, rb⟩ := owns_reads (row_saw S2 o1 : owns w2 _ _ _ _ _ _)
  have hT2 := (((((((hT1.set 74 (.pointer (some ⟨hb2, 0, none⟩)) (by decide)).set 75 (.slice a0 len cap) (by decide)).set 76 (.tuple #[.slice bv (len + digC p) dv, .int .i64 0]) (by decide)).set 73 (.tuple #[.slice bv (len + digC p) dv, .int .i64 0]) (by decide)).set 77 (.slice bv (len + digC p) dv) (by decide)).set 78 (.int .i64 0) (by decide)).set 17 (.slice bv (len + digC p) dv) (by decide)).set 18 (.int .i64 0) (by decide)
  obtain ⟨T2, e1⟩ : ∃ T2, (((((((T1.setIfInBounds 74 (.pointer (some ⟨hb2, 0, none⟩))).setIfInBounds 75 (.slice a0 len cap)).setIfInBounds 76 (.tuple #[.slice bv (len + digC p) dv, .int .i64 0])).setIfInBounds 73 (.tuple #[.slice bv (len + digC p) dv, .int .i64 0])).setIfInBounds 77 (.slice bv (len + digC p) dv)).setIfInBounds 78 (.int .i64 0)).setIfInBounds 17 (.slice bv (len + digC p) dv)).setIfInBounds 18 (.int .i64 0) = T2 := ⟨_, rfl⟩
  have y15' : T2[15]? = some (.slice av (len + digC p) cv) := by rw [<- e1]; iterate 8 rw [Array.getElem?_setIfInBounds_ne (by decide)]
                                                                 exact y15
  have y17 : T2[17]? = some (.slice bv (len + digC p) dv) := by rw [<- e1, Array.getElem?_setIfInBounds_ne (by decide)]; exact set_at (by simp [hs]) _
  rw [e1] at hT2 ⊢
  clear e1 CS hK g11 g14 hs o1 b1 y14 y15
  refine lawQ_co hT2 y15' y17 (by omega) (by omega) (reads_below (Nat.le_refl _) k2.bel ra) rb fun T' w' h1 h2 => h T' w' h1 ((k1.trans k2).trans h2)
end
section
open Go Go.Conc Go.RowKit Go.Shelf Bt
attribute [local go_sem] lt_s2 lt_s3 lt_s4 lt_s5 lt_s6
noncomputable def lawN : Code := sndC (sndC (sndC lawB))
set_option maxRecDepth 100000 in
theorem lawN_co {n c m hb1 hb2 k : Nat} {a : Option Addr} {Q : Exit -> Array Value -> World -> Prop} {T : Array Value} {w : World} (hT : LT T a n c m hb1 hb2 k) (hk : k < 140737488351232) (h : ∀ T' w', LT T' a n c m hb1 hb2 (k + 1) -> Kept w w' -> Q .normal T' w') : wpC lawN Q T w := by
 have hs := hT.sz
 have g57 := get_of hT.x57 (by omega)
 have ew : IntKind.i64.wrap ((k : Int) + 1) = ((k + 1 : Nat) : Int) := by rw [IntKind.wrap_i64]; omega
 dsimp only [lawN, lawB, law8, law5, Tryz.f5, Option.getD, sndC, fstC, inC]
 refine wpC_region (wpO_done 0 (by decide) (by kernel_rfl) fun W hW K hK => ?_)
 simp only [List.drop_zero]
 go_wp2
 refine hK.out _ _ fun w2 S2 => ?_
 have k2 : Kept w w2 := S2.kept (bl_refl W)
 have h1 := hT.set 88 (.int .i64 ((k : Int) + 1)) (by decide)
 refine h _ _ ⟨by simpa using h1.sz, by rw [Array.getElem?_setIfInBounds_ne (by decide)]; exact h1.x2, by rw [Array.getElem?_setIfInBounds_ne (by decide)]; exact h1.x9, by rw [Array.getElem?_setIfInBounds_ne (by decide)]; exact h1.x11, by rw [Array.getElem?_setIfInBounds_ne (by decide)]; exact h1.x55, by rw [Array.getElem?_setIfInBounds_ne (by decide)]; exact h1.x56, set_at (by simp [hs]) _⟩ k2
theorem Pcs.kept {w w1 : World} {a : Option Addr} {n : Nat} {A : Nat -> Option Addr} {L C : Nat -> Nat} {F : Nat -> Nat -> Nat} (h : Pcs w a n A L C F) (k : Kept w w1) : Pcs w1 a n A L C F where
 at_ := fun hn => by
  obtain ⟨b, o, e, hc⟩ := h.at_ hn
  exact ⟨b, o, e, fun i hi => k.cell (hc i hi)⟩
 rd := fun i hi => reads_below (Nat.le_refl _) k.bel (h.rd i hi)
 le := h.le
 lt := h.lt
 tame := fun i hi hl => by
  obtain ⟨b, o, e, ht⟩ := h.tame i hi hl
  exact ⟨b, o, e, ht.kept k⟩
theorem Alone.pcs {w W : World} (k : Alone w W) {a : Option Addr} {n : Nat} {A : Nat -> Option Addr} {L C : Nat -> Nat} {F : Nat -> Nat -> Nat} (h : Pcs w a n A L C F) : Pcs W a n A L C F where
 at_ := fun hn => by
  obtain ⟨b, o, e, hc⟩ := h.at_ hn
  exact ⟨b, o, e, fun i hi => k.cell (hc i hi)⟩
 rd := fun i hi => k.reads (h.rd i hi)
 le := h.le
 lt := h.lt
 tame := fun i hi hl => by
  obtain ⟨b, o, e, c, t, fr, hh⟩ := h.tame i hi hl
  exact ⟨b, o, e, c, t, fr, k.obj _ _ hh rfl⟩
structure HH (w0 w : World) (p q hb1 sb1 hb2 sb2 : Nat) (s : Spg) : Prop where
 kp : Kept w0 w
 h1 : ∃ n1 n2, Hs w hb1 p n1 n2 sb1
 h2 : ∃ n1 n2, Hs w hb2 q n1 n2 sb2
 s1 : Sp w sb1 s
 s2 : Sp w sb2 s
 ok : s.Ok
 rd : s.rd = false
 room : s.at_ < s.rate
 ne : w0.heap.size <= sb1 /\ sb1 < hb1 /\ hb1 < sb2 /\ sb2 < hb2
theorem GW.grown {w w1 : World} {r : Nat} (h : GW w) (hg : w.grownBy w1 (some r)) (hr : 21 <= r) : GW w1 := by
 have key : ∀ {b o : Nat} {v : Value}, b < 21 -> w.cell? ⟨b, o, none⟩ = some v -> w1.cell? ⟨b, o, none⟩ = some v := fun {b o v} hb hv => by
  rw [World.cell?_of_block (hg.block b (cell_lt hv) (fun e => by cases e; omega))]
  exact hv
 obtain ⟨m, hm⟩ := h.m
 refine ⟨(Chg.of_gb hg).tabs h.t (by simp; omega), (Chg.of_gb hg).tabK h.k (by simp; omega), ⟨m, key (by decide) hm⟩, fun g hgn => ?_⟩
 obtain ⟨c, t, fr, hc⟩ := h.tame g hgn
 have h5 : g = 8 \/ g = 9 \/ g = 10 \/ g = 19 \/ g = 20 := by
  have h6 : g ∈ niceG := by simpa using hgn
  simpa [niceG] using h6
 exact ⟨c, t, fr, (hg.block g (Array.getElem?_eq_some_iff.1 hc).1 (fun e => by cases e; omega)).trans hc⟩
theorem lawIn_is : sndC (inC (fstC (sndC (sndC lawB)))) = .seq lawW1 (.seq lawW2 lawS) := rfl
theorem Pcs.grown {w w1 : World} {a : Option Addr} {n r : Nat} {A : Nat -> Option Addr} {L C : Nat -> Nat} {F : Nat -> Nat -> Nat} (h : Pcs w a n A L C F) (hg : w.grownBy w1 (some r)) (h0 : ∀ b o, a = some ⟨b, o, none⟩ -> 0 < n -> b ≠ r) (h1 : ∀ i b o, i < n -> A i = some ⟨b, o, none⟩ -> 0 < L i -> b ≠ r) : Pcs w1 a n A L C F where
 at_ := fun hn => by
  obtain ⟨b, o, e, hc⟩ := h.at_ hn
  exact ⟨b, o, e, fun i hi => by
   rw [World.cell?_of_block (hg.block b (cell_lt (hc i hi)) (fun e2 => h0 b o e hn (by cases e2; rfl)))]
   exact hc i hi⟩
 rd := fun i hi hl => by
  obtain ⟨b, o, e, hc⟩ := h.rd i hi hl
  exact ⟨b, o, e, fun j hj => by
   rw [World.cell?_of_block (hg.block b (cell_lt (hc j hj)) (fun e2 => h1 i b o hi e hl (by cases e2; rfl)))]
   exact hc j hj⟩
 le := h.le
 lt := h.lt
 tame := fun i hi hl => by
  obtain ⟨b, o, e, c, t, fr, hc⟩ := h.tame i hi hl
  exact ⟨b, o, e, c, t, fr, (hg.block b (Array.getElem?_eq_some_iff.1 hc).1 (fun e2 => h1 i b o hi e hl (by cases e2; rfl))).trans hc⟩
end
section
open Go Go.Conc Go.RowKit Go.Shelf Bt
theorem Pcs.lo {w : World} {a : Option Addr} {n : Nat} {A : Nat -> Option Addr} {L C : Nat -> Nat} {F : Nat -> Nat -> Nat} (h : Pcs w a n A L C F) : (∀ b o, a = some ⟨b, o, none⟩ -> 0 < n -> b < w.heap.size) /\ (∀ i b o, i < n -> A i = some ⟨b, o, none⟩ -> 0 < L i -> b < w.heap.size) := by
 refine ⟨fun b o e hn => ?_, fun i b o hi e hl => ?_⟩
 ·obtain ⟨b', o', e', hc⟩ := h.at_ hn
  rw [e] at e'
  cases e'
  exact cell_lt (hc 0 hn)
 ·obtain ⟨b', o', e', hc⟩ := h.rd i hi hl
  rw [e] at e'
  cases e'
  exact cell_lt (hc 0 hl)
set_option maxRecDepth 100000 in
theorem law_round {w0 w : World} {a : Option Addr} {n c m p q hb1 sb1 hb2 sb2 k : Nat} {A : Nat -> Option Addr} {L C : Nat -> Nat} {F : Nat -> Nat -> Nat} {s : Spg} {T : Array Value} (g0 : GW w0) (hP : Pcs w0 a n A L C F) (hn : n <= 140737488351232) (hL : ∀ i, i < n -> L i <= 140737488351232)
  (hp : p < 15 /\ 2 <= kindC p /\ q < 15 /\ 2 <= kindC q /\ digC p = digC q /\ 0 < digC p /\ digC p <= 64) (hT : LT T a n c m hb1 hb2 k) (H : HH w0 w p q hb1 sb1 hb2 sb2 s) (hk : k < n) :
  wpC lawB (fun e T' w' => e = .normal /\ LT T' a n c m hb1 hb2 (k + 1) /\ ∃ s', HH w0 w' p q hb1 sb1 hb2 sb2 s') T w := by
 obtain ⟨n1, n2, h1⟩ := H.h1
 obtain ⟨n3, n4, h2⟩ := H.h2
 have gw := g0.kept H.kp
 have pw := hP.kept H.kp
 have big := g0.big
 obtain ⟨lo1, lo2⟩ := hP.lo
 have ne := H.ne
 refine lawB_start hT pw hk fun T1 t1 x1 => ?_
 rw [lawIn_is]
 obtain ⟨ib, off, W1, a1⟩ := wg_of gw pw hk H.s1 H.ok H.room (fun b o e hl => by have := lo2 k b o hk e hl; omega) (by omega)
 refine wpC_seq (by kernel_rfl) (lawW1_co t1 x1 h1 W1 H.rd (pw.le k hk) a1 fun T2 w2 s2 t2 x2 gb2 wr2 S2 => .inl ⟨rfl, ?_⟩)
 have gw2 := gw.grown gb2 (by omega)
 have pw2 := pw.grown gb2 (fun b o e hn' => by have := lo1 b o e hn'; omega) (fun i b o hi e hl => by have := lo2 i b o hi e hl; omega)
 have S1b : Sp w2 sb2 s := H.s2.grown gb2 (by intro e; cases e; omega)
 have h2b : Hs w2 hb2 q n3 n4 sb2 := (gb2.block _ (Array.getElem?_eq_some_iff.1 h2).1 (fun e => by cases e; omega)).trans h2
 obtain ⟨ib', off', W2, a2⟩ := wg_of gw2 pw2 hk S1b H.ok H.room (fun b o e hl => by have := lo2 k b o hk e hl; omega) (by omega)
 refine wpC_seq (by kernel_rfl) (lawW2_co t2 x2 h2b W2 H.rd (pw.le k hk) a2 fun T3 w3 s3 t3 x3 gb3 wr3 S3 => .inl ⟨rfl, ?_⟩)
 obtain rfl := wr2.unique wr3
 have gw3 := gw2.grown gb3 (by omega)
 have pw3 := pw2.grown gb3 (fun b o e hn' => by have := lo1 b o e hn'; omega) (fun i b o hi e hl => by have := lo2 i b o hi e hl; omega)
 have S1c : Sp w3 sb1 s2 := S2.grown gb3 (by intro e; cases e; omega)
 have h1b : Hs w2 hb1 p n1 n2 sb1 := (gb2.block _ (Array.getElem?_eq_some_iff.1 h1).1 (fun e => by cases e; omega)).trans h1
 have h1c : Hs w3 hb1 p n1 n2 sb1 := (gb3.block _ (Array.getElem?_eq_some_iff.1 h1b).1 (fun e => by cases e; omega)).trans h1b
 have h2c : Hs w3 hb2 q n3 n4 sb2 := (gb3.block _ (Array.getElem?_eq_some_iff.1 h2b).1 (fun e => by cases e; omega)).trans h2b
 obtain ⟨o1, o2, o3, o4, o5⟩ := wr2.ok H.ok H.room (pw.lt k hk)
 have k03 : Kept w0 w3 := ⟨gb3.os.trans (gb2.os.trans H.kp.os), gb3.output.trans (gb2.output.trans H.kp.output), gb3.tape.trans (gb2.tape.trans H.kp.tape), Nat.le_trans H.kp.size (Nat.le_trans gb2.size gb3.size), fun x hx => (gb3.block x (Nat.lt_of_lt_of_le hx (Nat.le_trans H.kp.size gb2.size)) (fun e => by cases e; omega)).trans ((gb2.block x (Nat.lt_of_lt_of_le hx H.kp.size) (fun e => by cases e; omega)).trans (H.kp.keep x hx))⟩
 refine lawS_co gw3 t3 x3 hp h1c h2c S1c S3 o1 (o4.trans H.rd) (hL k hk) (pw3.rd k hk) fun T4 w4 t4 k4 => .inl ⟨.inl rfl, .inl ⟨rfl, lawN_co t4 (by omega) fun T5 w5 t5 k5 => ⟨rfl, t5, s2, ?_⟩⟩⟩
 have k35 := k4.trans k5
 exact ⟨k03.trans k35, ⟨n1, n2, (k35.keep _ (Array.getElem?_eq_some_iff.1 h1c).1).trans h1c⟩, ⟨n3, n4, (k35.keep _ (Array.getElem?_eq_some_iff.1 h2c).1).trans h2c⟩, S1c.below (Nat.le_refl _) k35.bel, S3.below (Nat.le_refl _) k35.bel, o1, o4.trans H.rd, o5, ne⟩
set_option maxRecDepth 100000 in
theorem law_exit {n c m hb1 hb2 : Nat} {a : Option Addr} {Q : Exit -> Array Value -> World -> Prop} {T : Array Value} {w : World} (hT : LT T a n c m hb1 hb2 n) (h : ∀ T', LT T' a n c m hb1 hb2 n -> Q (.exit 0) T' w) : wpC lawB Q T w := by
 have hs := hT.sz
 have g56 := get_of hT.x56 (by omega)
 have g57 := get_of hT.x57 (by omega)
 have hi : ¬ (n : Int) < n := by omega
 dsimp only [lawB, law8, law5, Tryz.f5, Option.getD, sndC, fstC, inC]
 refine wpC_still (by kernel_rfl) (by kernel_rfl) fun W hW K hK => ?_
 go_wp2
 have ev : Act.eval ⟨T.setIfInBounds 58 (.bool false), []⟩ (.tmp 58) = .bool false := by simp [go_sem, hs]
 exact hK.out _ (wpC_seq (by kernel_rfl) (wpC_cond (t := false) ev (wpC_exit (.inr ⟨by simp, h _ (hT.set 58 _ (by decide))⟩))))
theorem owns_grown_ne {w w1 : World} {base r : Nat} {e : TypeId} {k : IntKind} {v : Value} {n : Nat} {f : Nat -> Int} (h : owns w base e k v n f) (hg : w.grownBy w1 (some r)) (hr : r < base) : owns w1 base e k v n f := by
 refine ⟨h.1, ?_⟩
 rcases h.2 with h0 | ⟨g, cap, cur, rfl, hb, hgc, x⟩
 ·exact .inl h0
 ·exact .inr ⟨g, cap, cur, rfl, hb, (hg.block g (Array.getElem?_eq_some_iff.1 hgc).1 (fun e => by cases e; omega)).trans hgc, x⟩
theorem gb_kept {w0 w w1 : World} {r : Nat} (k : Kept w0 w) (g : w.grownBy w1 (some r)) (hr : w0.heap.size <= r) : Kept w0 w1 :=
 ⟨g.os.trans k.os, g.output.trans k.output, g.tape.trans k.tape, Nat.le_trans k.size g.size, fun x hx => (g.block x (Nat.lt_of_lt_of_le hx k.size) (fun e => by cases e; omega)).trans (k.keep x hx)⟩
noncomputable def lawE3 : Code := sndC (sndC lawE)
set_option maxRecDepth 100000 in
set_option maxHeartbeats 4000000 in
theorem law_end3 {w0 w : World} {m : Nat} {T : Array Value} {av bv : Option Addr} {cv dv : Nat} {f : Nat -> Int} (hs : T.size = 121) (h2 : T[2]? = some (.int .u8 m)) (h19 : T[19]? = some (.slice av m cv)) (h20 : T[20]? = some (.int .i64 0)) (h21 : T[21]? = some (.slice bv m dv)) (h22 : T[22]? = some (.int .i64 0)) (hm : m < 256) (ra : reads w av m .u8 f) (rb : reads w bv m .u8 f) (k0 : Kept w0 w) :
  wpC lawE3 (fun e T' w' => e = .ret /\ T'[6]? = some (.bool true) /\ Kept w0 w') T w := by
 have g2 := get_of h2 (by omega)
 have g19 := get_of h19 (by omega)
 have g20 := get_of h20 (by omega)
 have g21 := get_of h21 (by omega)
 have g22 := get_of h22 (by omega)
 have em : ((m : Int) == m) = true := beq_self_eq_true _
 dsimp only [lawE3, lawE, law8, law5, Tryz.f5, Option.getD, sndC, fstC, inC]
 refine wpC_go (by kernel_rfl) (by kernel_rfl) fun W hW K hK => ?_
 have CE := Lib.hid (same8_w av bv m cv dv f f (fun _ _ => rfl) W (by unfold maxLen; omega) (hW.reads ra) (hW.reads rb))
 go_wp2_with (go_at_call 13; refine CE.out.mono ?_; rintro e w' ⟨rfl, b1⟩)
 refine hK.out _ _ fun w2 S2 => wpC_ret ⟨rfl, ?_, k0.trans (S2.kept b1)⟩
 simp [hs]
set_option maxRecDepth 100000 in
set_option maxHeartbeats 4000000 in
theorem law_end2 {w0 w : World} {a av : Option Addr} {n c m q hb1 hb2 sb2 k base cv : Nat} {n3 n4 : Value} {s : Spg} {T : Array Value} (gw : GW w) (k0 : Kept w0 w) (hq : q < 15 /\ 3 <= kindC q) (hT : LT T a n c m hb1 hb2 k) (h2 : Hs w hb2 q n3 n4 sb2) (S2 : Sp w sb2 s) (ok : s.Ok) (hrd : s.rd = false) (hm : m < 256) (hsb : w0.heap.size <= sb2 /\ sb2 < base /\ 21 <= sb2)
  (h19 : T[19]? = some (.slice av m cv)) (h20 : T[20]? = some (.int .i64 0)) (o1 : owns w base 5 .u8 (.slice av m cv) m (fun j => ((readL s m).getD j 0 : Nat))) :
  wpC (sndC lawE) (fun e T' w' => e = .ret /\ T'[6]? = some (.bool true) /\ Kept w0 w') T w := by
 have hs := hT.sz
 have g2 := get_of hT.x2 (by omega)
 have g11 := get_of hT.x11 (by omega)
 have ew : IntKind.i64.wrap (m : Int) = m := by rw [IntKind.wrap_i64]; omega
 have e0 : sndC lawE = .seq (fstC (sndC lawE)) lawE3 := rfl
 rw [e0]
 obtain ⟨R, hR⟩ : ∃ R, R = lawE3 := ⟨_, rfl⟩
 have lR : lnC false R = true := by rw [hR]; kernel_rfl
 rw [<- hR]
 dsimp only [lawE, law8, law5, Tryz.f5, Option.getD, sndC, fstC, inC]
 refine wpC_go (by kernel_rfl) lR fun W hW K hK => ?_
 have CR := Lib.hid (hread_w hq.1 hq.2 m (by omega) s ok hrd W (show Hs W hb2 q n3 n4 sb2 from hW.obj _ _ h2 rfl) (hW.sp S2) (hW.tabs gw.t) (hW.tabK gw.k) (by constructor <;> omega))
 go_wp2_with (go_at_call 11; refine CR.out.mono ?_; rintro e w' ⟨v, rfl, o2, b1⟩)
 refine hK.out _ _ fun w1 S1 => ?_
 have gb1 := S1.grown b1
 have k1 := gb_kept k0 gb1 hsb.1
 obtain ⟨bv, dv, rfl, _, _, rb⟩ := owns_reads (row_saw S1 o2 : owns w1 _ _ _ _ _ _)
 obtain ⟨_, _, e3, _, _, ra⟩ := owns_reads (owns_grown_ne o1 gb1 hsb.2.1)
 cases e3
 subst hR
 refine law_end3 (av := av) (bv := bv) (cv := cv) (dv := dv) ?_ ?_ ?_ ?_ ?_ ?_ hm ra rb k1
 ·simp [hs]
 ·simp [hs, g2]
 ·iterate 9 rw [Array.getElem?_setIfInBounds_ne (by decide)]
  exact h19
 ·iterate 9 rw [Array.getElem?_setIfInBounds_ne (by decide)]
  exact h20
 ·simp [hs]
 ·simp [hs]
set_option maxRecDepth 100000 in
set_option maxHeartbeats 4000000 in
theorem law_end {w0 w : World} {a : Option Addr} {n c m p q hb1 sb1 hb2 sb2 k : Nat} {s : Spg} {T : Array Value} (g0 : GW w0) (hp : p < 15 /\ 3 <= kindC p /\ q < 15 /\ 3 <= kindC q) (hT : LT T a n c m hb1 hb2 k) (H : HH w0 w p q hb1 sb1 hb2 sb2 s) (hm : m < 256) :
  wpC lawE (fun e T' w' => e = .ret /\ T'[6]? = some (.bool true) /\ Kept w0 w') T w := by
 obtain ⟨p1, p2, q1, q2⟩ := hp
 obtain ⟨n1, n2, h1⟩ := H.h1
 obtain ⟨n3, n4, h2⟩ := H.h2
 have gw := g0.kept H.kp
 have big := g0.big
 have ne := H.ne
 have hs := hT.sz
 have g2 := get_of hT.x2 (by omega)
 have g9 := get_of hT.x9 (by omega)
 have ew : IntKind.i64.wrap (m : Int) = m := by rw [IntKind.wrap_i64]; omega
 have L1 := H.s1.lt
 have L2 := H.s2.lt
 have e0 : lawE = .seq (fstC lawE) (sndC lawE) := rfl
 rw [e0]
 obtain ⟨R, hR⟩ : ∃ R, R = sndC lawE := ⟨_, rfl⟩
 have lR : lnC false R = true := by rw [hR]; kernel_rfl
 rw [<- hR]
 dsimp only [lawE, law8, law5, Tryz.f5, Option.getD, sndC, fstC, inC]
 refine wpC_go (by kernel_rfl) lR fun W hW K hK => ?_
 have CR := Lib.hid (hread_w p1 p2 m (by omega) s H.ok H.rd W (show Hs W hb1 p n1 n2 sb1 from hW.obj _ _ h1 rfl) (hW.sp H.s1) (hW.tabs gw.t) (hW.tabK gw.k) (by constructor <;> omega))
 go_wp2_with (go_at_call 11; refine CR.out.mono ?_; rintro e w' ⟨v, rfl, o1, b1⟩)
 rw [hW.size] at o1
 refine hK.out _ _ fun w1 S1 => ?_
 have gb1 := S1.grown b1
 have o1' : owns w1 _ _ _ _ _ _ := row_saw S1 o1
 have gw1 := gw.grown gb1 (by omega)
 have S2b := H.s2.grown gb1 (by intro e; cases e; omega)
 have h2b : Hs w1 hb2 q n3 n4 sb2 := (gb1.block _ (Array.getElem?_eq_some_iff.1 h2).1 (fun e => by cases e; omega)).trans h2
 have k1 := gb_kept H.kp gb1 ne.1
 obtain ⟨av, cv, rfl, _, _, _⟩ := owns_reads o1'
 have hT1 := (((((((((hT.set 90 (.pointer (some ⟨hb1, 0, none⟩)) (by decide)).set 91 (.int .u8 m) (by decide)).set 92 (.int .i64 m) (by decide)).set 93 (.tuple #[.slice av m cv, .int .i64 0]) (by decide)).set 89 (.tuple #[.slice av m cv, .int .i64 0]) (by decide)).set 94 (.slice av m cv) (by decide)).set 95 (.int .i64 0) (by decide)).set 19 (.slice av m cv) (by decide)).set 20 (.int .i64 0) (by decide))
 subst hR
 exact law_end2 gw1 k1 ⟨q1, q2⟩ hT1 h2b S2b H.ok H.rd hm ⟨by omega, L2, by omega⟩ (by rw [Array.getElem?_setIfInBounds_ne (by decide)]; exact set_at (by simp [hs]) _) (set_at (by simp [hs]) _) o1'
theorem Kept.at {w w1 : World} (h : Kept w w1) (d : Nat) : Kept w (w1.at d) := ⟨h.os, h.output, h.tape, h.size, h.keep⟩
theorem runsOn_body {w0 w : World} {f : FuncId} {fn : Func} {c : Code} {T0 args : Array Value} {r : Nat} {v : Value} (hf : Tryz.prog.funcs[f]? = some fn) (hb : fn.body = some c) (hT : T0 = args ++ Array.replicate (fn.ntmps - args.size) undef) (hr : fn.results = #[.tmp r]) (hi : Tryz.prog.inits.idxOf? f = none)
  (h : wpC c (fun e T' w' => e = .ret /\ T'[r]? = some v /\ Kept w0 w') T0 w) : RunsOn Tryz.prog (fun v' w' => v' = v /\ Kept w0 w') (G (Frame.enter Tryz.prog f args .normal) []) w := by
 have e : Frame.enter Tryz.prog f args .normal = (base f).at ⟨T0, []⟩ [.code c] := by
  subst hT
  simp [Frame.enter, hf, hb, Frame.at, base]
 rw [e]
 refine h _ f [] [] rfl ?_ ?_ ?_
 ·rintro T' w' ⟨q, _⟩
  cases q
 ·rintro T' todo w' ⟨_, h1, h2⟩
  refine fin_end rfl fun d => ⟨v, w'.at d, #[], ?_, fun e he => by simp at he, rfl, h2.at d⟩
  have h3 : (results fn T').run Tryz.prog (w'.at d) = .ok v (w'.at d) := by
   rw [results_tmp hr, Array.getD_eq_getD_getElem?, h1]
   rfl
  have h4 : (results fn T').events Tryz.prog (w'.at d) #[] = #[] := events_results_tmp hr _ _
  have h5 : Tryz.prog.funcs[(base f).fn]? = some fn := hf
  have h6 : Tryz.prog.inits.idxOf? (base f).fn = none := hi
  have h7 : (base f).kind = .normal := rfl
  have h8 := h6
  simp at h8
  simp [G, stepG, unwind, doReturn, Frame.at, h5, h3, h4, h7, h8, GStep.after, seen_none]
 ·rintro n T' w' ⟨q, _⟩
  cases q
end
section
open Go Go.Conc Go.RowKit Go.Shelf Bt
attribute [local go_sem] lt_s2 lt_s3 lt_s4 lt_s5 lt_s6
set_option maxRecDepth 100000 in
set_option maxHeartbeats 8000000 in
theorem topShake_run {w0 : World} {a : Option Addr} {n c m : Nat} {A : Nat -> Option Addr} {L C : Nat -> Nat} {F : Nat -> Nat -> Nat} {long : Bool} (g0 : GW w0) (hP : Pcs w0 a n A L C F) (hn : n <= 140737488351232) (hL : ∀ i, i < n -> L i <= 140737488351232) (hm : m < 256) :
  RunsOn Tryz.prog (fun v w' => v = .bool true /\ Kept w0 w') (G (Frame.enter Tryz.prog 5 #[.bool long, .slice a n c, .int .u8 m] .normal) []) w0 := by
 refine runsOn_body (r := 6) Tryz.func5 rfl rfl rfl (by kernel_rfl) ?_
 simp only [Tryz.ntmps5, List.size_toArray, List.length_cons, List.length_nil, Nat.reduceAdd, Nat.reduceSub, Array.replicate_succ, Array.replicate_zero, List.push_toArray, List.append_toArray, List.nil_append, List.cons_append]
 refine wpC_still (by kernel_rfl) (by kernel_rfl) fun W hW K hK => ?_
 go_wp2
 refine hK.out _ (wpC_seq (by kernel_rfl) (wpC_seq (by kernel_rfl) (wpC_region (wpO_call (n := 0) (f := 6) (args := #[]) rfl rfl (fun w => ⟨?_, ?_⟩) ?_))))
 ·go_simp
 ·unfold execOp
  simp [go_sem]
  exact (callFunc_run Tryz.func6 rfl (by kernel_rfl) _ _).2
 refine (wakes_co g0).mono ?_
 rintro v w1 ⟨rfl, k1⟩
 refine wpO_done 1 (by decide) (by kernel_rfl) fun W hW K hK => ?_
 simp only [List.drop_succ_cons, List.drop_zero]
 go_wp2
 refine hK.out _ _ fun w2 S2 => ?_
 rw [S2.same]
 refine .inl ⟨by trivial, wpC_at (wpC_cond rfl (wpC_skip (.inl ⟨by trivial, ?_⟩)))⟩
 refine wpC_seq (by kernel_rfl) (wpC_still (by kernel_rfl) (by kernel_rfl) fun W hW K hK => ?_)
 have CG := Lib.hid (great_w a n c A L C F W (hW.pcs (hP.kept k1)) hn)
 go_wp2_with (go_at_call 20; (with_reducible refine CG.out.mono ?_); rintro e w' ⟨gb, rfl, rfl⟩)
 refine hK.out _ ?_
 clear hK CG
 cases gb
 case true =>
  refine wpC_cond (t := true) rfl ?_
  refine wpC_still (by kernel_rfl) (by kernel_rfl) fun W hW K hK => ?_
  go_wp2
  refine hK.out _ (wpC_ret (.inr ⟨by simp, rfl, rfl, k1⟩))
 refine wpC_cond (t := false) rfl (wpC_skip (.inl ⟨by trivial, ?_⟩))
 refine wpC_still (by kernel_rfl) (by kernel_rfl) fun W hW K hK => ?_
 go_wp2
 refine hK.out _ ?_
 clear hK
 refine wpC_seq (by kernel_rfl) (wpC_lone (R := fun W e T' W' => e = .normal /\ W' = W /\ T' = #[.bool long, .slice a n c, .int .u8 m, undef, undef, undef, .bool false, .int .i64 ((if long then 12 else 11 : Nat) : Int), .int .i64 ((if long then 14 else 13 : Nat) : Int), undef, undef, undef, undef, undef, undef, undef, undef, undef, undef, undef, undef, undef, undef, .bool true, .bool false, .slice a n c, .bool false, .bool long, undef, undef, undef, undef, undef, undef, undef, undef, undef, undef, undef, undef, undef, undef, undef, undef, undef, undef, undef, undef, undef, undef, undef, undef, undef, undef, undef, undef, undef, undef, undef, undef, undef, undef, undef, undef, undef, undef, undef, undef, undef, undef, undef, undef, undef, undef, undef, undef, undef, undef, undef, undef, undef, undef, undef, undef, undef, undef, undef, undef, undef, undef, undef, undef, undef, undef, undef, undef, undef, undef, undef, undef, undef, undef, undef, undef, undef, undef, undef, undef, undef, undef, undef, undef, undef, undef, undef, undef, undef, undef, undef, undef, undef]) (by kernel_rfl) (fun W hW => ?_) ?_)
 ·cases long
  ·go_wp2
  ·go_wp2
 rintro Tp e T2 W2 w2 ⟨rfl, hW2, rfl⟩ S2
 rw [S2.same hW2]
 refine .inl ⟨rfl, wpC_at ?_⟩
 obtain ⟨p, q, hpq, ep, eq⟩ : ∃ p q : Nat, (p = 11 /\ q = 13 \/ p = 12 /\ q = 14) /\ (if long then 12 else 11 : Nat) = p /\ (if long then 14 else 13 : Nat) = q := by
  cases long
  ·exact ⟨11, 13, .inl ⟨rfl, rfl⟩, rfl, rfl⟩
  ·exact ⟨12, 14, .inr ⟨rfl, rfl⟩, rfl, rfl⟩
 rw [ep, eq]
 clear ep eq S2 hW2 W2 Tp
 have hp : p < 15 /\ 3 <= kindC p /\ q < 15 /\ 3 <= kindC q /\ freshS p = freshS q /\ digC p = digC q /\ 0 < digC p /\ digC p <= 64 := by
  obtain ⟨rfl, rfl⟩ | ⟨rfl, rfl⟩ := hpq <;> exact ⟨by decide, by decide, by decide, by decide, rfl, rfl, by decide, by decide⟩
 obtain ⟨p1, p2, q1, q2, e1, e2, dp, d64⟩ := hp
 refine wpC_go (by kernel_rfl) (by kernel_rfl) fun W hW K hK => ?_
 have CN := Lib.hid (hnew_w none none 0 0 p p1 (by omega) W (hW.tabs (g0.kept k1).t))
 unfold nmV at CN
 go_wp2_with (go_at_call 7; (with_reducible refine CN.out.mono ?_); rintro e w' ⟨hb1, sb1, m1, m2, rfl, r1, r2, r3, r4, r5⟩)
 rw [hW.size] at r1
 refine hK.out _ _ fun w3 S3 => ?_
 have k3 := k1.trans (S3.kept r5)
 have h3 : Hs w3 hb1 p m1 m2 sb1 := S3.cells r3
 have s3 := S3.sp r4
 have z1 := k1.size
 have z3 := s3.lt
 have z4 := (Array.getElem?_eq_some_iff.1 h3).1
 clear CN r3 r4 r5 hK S3
 refine wpC_go (by kernel_rfl) (by kernel_rfl) fun W hW K hK => ?_
 have HT := Lib.hid (hW.tabs (g0.kept k3).t)
 have CN := Lib.hid (fun a1 W' (h : Below W.heap.size W W') => hnew_w a1 none 0 0 q q1 (by omega) W' (HT.out.below h))
 unfold nmV at CN
 go_wp2_with (go_at_call 7; refine (CN.out _ _ (bl_alloc (bl_refl W))).mono ?_; rintro e w' ⟨hb2, sb2, m3, m4, rfl, r6, r7, r8, r9, r10⟩)
 rw [World.size_alloc, hW.size] at r6
 refine hK.out _ _ fun w4 S4 => ?_
 have k34 := S4.kept (bl_call (bl_alloc (bl_refl W)) r10)
 have H0 : HH w0 w4 p q hb1 sb1 hb2 sb2 (freshS p) := by
  obtain ⟨f1, f2, f3, f4⟩ := freshS_ok p p1 (by omega)
  exact ⟨k3.trans k34, ⟨m1, m2, (k34.keep _ z4).trans h3⟩, ⟨m3, m4, S4.cells r8⟩, s3.below (Nat.le_refl _) k34.bel, S4.sp (by rw [e1]; exact r9), f1, f3, by omega, by omega⟩
 clear CN r8 r9 r10 hK S4 HT h3 s3 k3 k34 z1 z3 z4
 refine wpC_seq (by kernel_rfl) (wpC_still (by kernel_rfl) (by kernel_rfl) fun W hW K hK => ?_)
 go_wp2
 refine hK.out _ (wpC_cond rfl (wpC_skip (.inl ⟨by trivial, ?_⟩)))
 refine wpC_seq (by kernel_rfl) (wpC_still (by kernel_rfl) (by kernel_rfl) fun W hW K hK => ?_)
 go_wp2
 refine hK.out _ (wpC_block (wpC_loop (N := n) (by kernel_rfl) (fun N T w => ∃ (k : Nat) (s : Spg), k <= n /\ N = n - k /\ LT T a n c m hb1 hb2 k /\ HH w0 w p q hb1 sb1 hb2 sb2 s) ⟨0, freshS p, by omega, rfl, ⟨rfl, rfl, rfl, rfl, rfl, rfl, rfl⟩, H0⟩ ?round))
 case round =>
  clear H0 hK
  rintro N T w ⟨k, s, hk, rfl, hT, H1⟩
  by_cases hlt : k < n
  ·exact wpC_mono (law_round g0 hP hn hL ⟨p1, by omega, q1, by omega, e2, dp, d64⟩ hT H1 hlt) fun e T' w' ⟨he, hT', s', h'⟩ => .inl ⟨he, n - (k + 1), by omega, k + 1, s', by omega, rfl, hT', h'⟩
  ·obtain rfl : k = n := by omega
   exact law_exit hT fun T' hT' => .inr ⟨by simp, .inl ⟨.inr rfl, .inl ⟨rfl, law_end g0 ⟨p1, p2, q1, q2⟩ hT' H1 hm⟩⟩⟩
end
section
open Go.ChangeShapes Go.WideShapes Go.ChangeAt Go.RowKit
theorem open_reads {H : Type} {enc : TypeId × Value -> H} {P : Program} {W : World} {base : Nat} {spare : Nat -> Bool} {held : Bool} {t e : TypeId} {k : IntKind} {a : Option Addr} {len cap : Nat} {d : DataW H} {ps : List MemPlace}
  (hu : P.underlying t = some (.slice e)) (he : P.underlying e = some (.int k)) (hc : P.cellsOf e = 1) (h : DataW.Trod enc P W base spare held t (.slice a len cap) d ps) :
  ∃ f : Nat -> Int, reads W a len k f /\ len <= maxLen /\ len <= cap /\ cap <= maxLen /\ ∀ j, j < len -> (Lit.int k (f j)).wf = true := by
 obtain ⟨fuel, hf⟩ := h
 rcases open_ints hu he hc hf with ⟨hcs, _⟩ | ⟨x, l, c, zs, hcs, _, hl, hm, hz, _, hcell, hwz⟩
 ·simp [Value.cells] at hcs
  obtain ⟨rfl, rfl, rfl⟩ := hcs
  exact ⟨fun _ => 0, fun h => absurd h (by omega), Nat.zero_le _, Nat.le_refl _, Nat.zero_le _, fun j hj => absurd hj (by omega)⟩
 ·simp [Value.cells] at hcs
  obtain ⟨rfl, rfl, rfl⟩ := hcs
  have hlz : len <= zs.length := by
   rw [hz]
   split
   ·exact hl
   ·exact Nat.le_refl _
  refine ⟨fun j => zs.getD j 0, fun hp => ?_, Nat.le_trans hl hm, hl, hm, fun j hj => ?_⟩
  ·obtain ⟨b, off, rfl, hcc⟩ := ints_at hcell (by omega)
   exact ⟨b, off, rfl, fun j hj => hcc j (by omega)⟩
  ·apply hwz
   have hj' : j < zs.length := by omega
   show zs.getD j 0 ∈ zs
   rw [List.getD_eq_getElem?_getD, List.getElem?_eq_getElem hj']
   exact List.getElem_mem hj'
theorem bd_u8 {n : Int} (h : (Lit.int .u8 n).wf = true) : 0 <= n /\ n < 256 := by
 simp [Lit.wf, IntKind.min, IntKind.max, IntKind.signed, IntKind.bits] at h
 omega
end
end Go.Proofs.YtdobjciaikofdaaGreatDoor
