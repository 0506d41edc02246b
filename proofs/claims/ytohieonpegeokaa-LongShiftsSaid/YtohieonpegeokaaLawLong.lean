/- The walks of the laws of layer 2 (long): LongTurns, LongPicks, LongShifts. -/
import Derived.Test.YtohieonpegeokaaLong
import Derived.Test.YtohieonpegeokaaRefLong
import Derived.Test.YtohieonpegeokaaWakesLong
namespace Go.Proofs.Ytohieonpegeokaa
open Go.RowKit Bt


set_option maxHeartbeats 1000000 in
theorem longTurns_walk (a0 a1 : Int) (w0 : (Lit.int .u64 a0).wf = true) (w1 : (Lit.int .i64 a1).wf = true) (w : World) :
    Calls Try.prog 6 #[.int .u64 a0, .int .i64 a1] w fun e w' => e = .returned (.bool true) ∧ Below w.heap.size w w' := by
  obtain ⟨x, rfl, hx⟩ := nat_of_u64 w0
  obtain ⟨hlo, hhi⟩ := nat_of_i64 w1
  clear w0 w1
  have HX := Lib.hid hx
  clear hx
  obtain ⟨y, hy, hyl⟩ : ∃ y : Nat, Hid (y = rotr 64 x (a1 % 64).toNat) ∧ Hid (y < 18446744073709551616) := ⟨_, rfl, rotr_lt 64 _ _⟩
  have hback : rotr 64 y ((wrap64 (64 - a1.tmod 64)) % 64).toNat = x := by
    rw [hy.out, rotr_rotr _ _ _ _ (by omega), rotr_congr (l := 0) ?_, rotr_zero (by simpa using HX.out)]
    have ht := @Int.tmod_eq_emod a1 64
    unfold wrap64
    split at ht <;> omega
  have c3 := fun w => turn64_w y hyl.out (wrap64 (64 - a1.tmod 64)) w
  rw [hback] at c3
  have C3 := Lib.hid c3
  clear c3 hback
  have HB := Lib.hid (bl_refl w)
  go_enter Try.func6, Try.ntmps6
  go_wp2_with (first | (go_at_call 28; refine (wakes64_w _).mono ?_; rintro e w' ⟨rfl, rfl⟩) | (go_at_call 29; (with_reducible refine (turn64_w x HX.out a1 _).mono ?_); rw [← hy.out]; rintro e w' ⟨rfl, rfl⟩) | (go_at_call 29; (with_reducible refine (C3.out _).mono ?_); rintro e w' ⟨rfl, rfl⟩) | (go_at_call 30; refine (rturn64_w x HX.out a1 _).mono ?_; rw [← hy.out]; rintro e w1 ⟨rfl, hb⟩; have HBn := Lib.hid (bl_call HB.out hb); clear HB hb; have HB := HBn; clear HBn) | (go_at_call 31; refine (shift64_w x HX.out a1 hhi _).mono ?_; rintro e w' ⟨rfl, rfl⟩) | (go_at_call 32; refine (rshift64_w x HX.out a1 hhi _).mono ?_; rintro e w' ⟨rfl, rfl⟩))
  go_ret
  exact ⟨rfl, HB.out⟩

set_option maxHeartbeats 1000000 in
theorem longPicks_walk (a0 a1 a2 : Int) (w0 : (Lit.int .u64 a0).wf = true) (w1 : (Lit.int .u64 a1).wf = true) (w2 : (Lit.int .u64 a2).wf = true) (w : World) :
    Calls Try.prog 7 #[.int .u64 a0, .int .u64 a1, .int .u64 a2] w fun e w' => e = .returned (.bool true) ∧ Below w.heap.size w w' := by
  obtain ⟨x, rfl, hx⟩ := nat_of_u64 w0
  obtain ⟨y, rfl, hy⟩ := nat_of_u64 w1
  obtain ⟨z, rfl, hz⟩ := nat_of_u64 w2
  clear w0 w1 w2
  obtain ⟨c, hc⟩ : ∃ c : Nat, Hid (c = z ^^^ (x &&& (y ^^^ z))) := ⟨_, rfl⟩
  obtain ⟨m, hm⟩ : ∃ m : Nat, Hid (m = (x &&& y) ||| (z &&& (x ||| y))) := ⟨_, rfl⟩
  have c1 := fun w => ch64_w x y z hx hy hz w
  have c2 := fun w => maj64_w x y z hx hy hz w
  have c3 := fun w => rch64_w x y z hx hy hz w
  have c4 := fun w => rmaj64_w x y z hx hy hz w
  have c5 := fun w => maj64_w z x y hz hx hy w
  have c6 := fun w => maj64_w y x z hy hx hz w
  rw [maj_rot, ← hm.out] at c5
  rw [maj_swap, ← hm.out] at c6
  rw [← hc.out] at c1 c3
  rw [← hm.out] at c2 c4
  have C1 := Lib.hid c1
  have C2 := Lib.hid c2
  have C3 := Lib.hid c3
  have C4 := Lib.hid c4
  have C5 := Lib.hid c5
  have C6 := Lib.hid c6
  clear c1 c2 c3 c4 c5 c6 hx hy hz
  have HB := Lib.hid (bl_refl w)
  go_enter Try.func7, Try.ntmps7
  go_wp2_with (first | (go_at_call 28; refine (wakes64_w _).mono ?_; rintro e w' ⟨rfl, rfl⟩) | (go_at_call 34; (with_reducible refine (C1.out _).mono ?_); rintro e w' ⟨rfl, rfl⟩) | (go_at_call 33; (with_reducible refine (C2.out _).mono ?_); rintro e w' ⟨rfl, rfl⟩) | (go_at_call 33; (with_reducible refine (C5.out _).mono ?_); rintro e w' ⟨rfl, rfl⟩) | (go_at_call 33; (with_reducible refine (C6.out _).mono ?_); rintro e w' ⟨rfl, rfl⟩) | (go_at_call 35; (with_reducible refine (C3.out _).mono ?_); rintro e w1 ⟨rfl, hb⟩; have HBn := Lib.hid (bl_call HB.out hb); clear HB hb; have HB := HBn; clear HBn) | (go_at_call 36; (with_reducible refine (C4.out _).mono ?_); rintro e w1 ⟨rfl, hb⟩; have HBn := Lib.hid (bl_call HB.out hb); clear HB hb; have HB := HBn; clear HBn))
  go_ret
  exact ⟨rfl, HB.out⟩

set_option maxHeartbeats 1000000 in
theorem longShifts_walk (a0 a1 a2 : Int) (w0 : (Lit.int .u64 a0).wf = true) (w1 : (Lit.int .u8 a1).wf = true) (w2 : (Lit.int .u8 a2).wf = true) (w : World) :
    Calls Try.prog 8 #[.int .u64 a0, .int .u8 a1, .int .u8 a2] w fun e w' => e = .returned (.bool true) ∧ Below w.heap.size w w' := by
  obtain ⟨x, rfl, hx⟩ := nat_of_u64 w0
  obtain ⟨m, rfl, hm⟩ := nat_of_u8 w1
  obtain ⟨n, rfl, hn⟩ := nat_of_u8 w2
  clear w0 w1 w2
  obtain ⟨s1, hs1⟩ : ∃ c : Nat, Hid (c = x / 2 ^ m) := ⟨_, rfl⟩
  obtain ⟨s2, hs2⟩ : ∃ c : Nat, Hid (c = x / 2 ^ (m + n)) := ⟨_, rfl⟩
  obtain ⟨t1, ht1⟩ : ∃ c : Nat, Hid (c = rotr 64 x m) := ⟨_, rfl⟩
  obtain ⟨t2, ht2⟩ : ∃ c : Nat, Hid (c = rotr 64 x (m + n)) := ⟨_, rfl⟩
  have hs1l : s1 < 18446744073709551616 := by rw [hs1.out]; exact Nat.lt_of_le_of_lt (Nat.div_le_self _ _) hx
  have ht1l : t1 < 18446744073709551616 := by rw [ht1.out]; exact rotr_lt 64 _ _
  have c1 := fun w => shift64_w x hx m (by omega) w
  have c2 := fun w => shift64_w s1 hs1l n (by omega) w
  have c3 := fun w => shift64_w x hx ((m : Int) + (n : Int)) (by omega) w
  have c4 := fun w => turn64_w x hx m w
  have c5 := fun w => turn64_w t1 ht1l n w
  have c6 := fun w => turn64_w x hx ((m : Int) + (n : Int)) w
  rw [show ((m : Int)).toNat = m from rfl, ← hs1.out] at c1
  rw [show ((n : Int)).toNat = n from rfl, hs1.out, shr_shr, ← hs2.out, ← hs1.out] at c2
  rw [show ((m : Int) + (n : Int)).toNat = m + n from by omega, ← hs2.out] at c3
  rw [rotr_congr (l := m) (by omega), ← ht1.out] at c4
  rw [rotr_congr (l := n) (by omega), ht1.out, rotr_rotr _ _ _ _ (by omega), ← ht2.out, ← ht1.out] at c5
  rw [rotr_congr (l := m + n) (by omega), ← ht2.out] at c6
  have C1 := Lib.hid c1
  have C2 := Lib.hid c2
  have C3 := Lib.hid c3
  have C4 := Lib.hid c4
  have C5 := Lib.hid c5
  have C6 := Lib.hid c6
  clear c1 c2 c3 c4 c5 c6 hx hs1l ht1l
  go_enter Try.func8, Try.ntmps8
  go_wp2_with (first | (go_at_call 28; refine (wakes64_w _).mono ?_; rintro e w' ⟨rfl, rfl⟩) | (go_at_call 31; (with_reducible refine (C1.out _).mono ?_); rintro e w' ⟨rfl, rfl⟩) | (go_at_call 31; (with_reducible refine (C2.out _).mono ?_); rintro e w' ⟨rfl, rfl⟩) | (go_at_call 31; (with_reducible refine (C3.out _).mono ?_); rintro e w' ⟨rfl, rfl⟩) | (go_at_call 29; (with_reducible refine (C4.out _).mono ?_); rintro e w' ⟨rfl, rfl⟩) | (go_at_call 29; (with_reducible refine (C5.out _).mono ?_); rintro e w' ⟨rfl, rfl⟩) | (go_at_call 29; (with_reducible refine (C6.out _).mono ?_); rintro e w' ⟨rfl, rfl⟩))
  go_ret
  exact ⟨rfl, bl_refl _⟩
end Go.Proofs.Ytohieonpegeokaa
