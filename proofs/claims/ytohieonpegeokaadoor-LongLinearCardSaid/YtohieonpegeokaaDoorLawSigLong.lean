/- The walks of the laws of layer 1's sigmas: LongSigmas, LongLinear. -/
import Derived.Test.YtohieonpegeokaaDoorTabLong
import Derived.Test.YtohieonpegeokaaDoorWakesLong
namespace Go.Proofs.YtohieonpegeokaaDoor
open Go.RowKit Bt

theorem bigS64_xor (which : Int) (x y : Nat) : bigS64 which (x ^^^ y) = bigS64 which x ^^^ bigS64 which y := by
  unfold bigS64
  split
  · simp only [rotr_xor]
    ac_rfl
  · split
    · simp only [rotr_xor]
      ac_rfl
    · rfl
theorem div_xor (x y k : Nat) : (x ^^^ y) / 2 ^ k = x / 2 ^ k ^^^ y / 2 ^ k := by
  simp only [← Nat.shiftRight_eq_div_pow, Nat.shiftRight_xor_distrib]
theorem smallS64_xor (which : Int) (x y : Nat) : smallS64 which (x ^^^ y) = smallS64 which x ^^^ smallS64 which y := by
  unfold smallS64
  split
  · simp only [rotr_xor, div_xor]
    ac_rfl
  · split
    · simp only [rotr_xor, div_xor]
      ac_rfl
    · rfl

set_option maxHeartbeats 1000000 in
theorem longSigmas_walk (a0 a1 : Int) (_ : (Lit.int .i64 a0).wf = true) (w1 : (Lit.int .u64 a1).wf = true) (w : World) (hg : Tabs64 w) :
    Calls Tryd.prog 5 #[.int .i64 a0, .int .u64 a1] w fun e w' => e = .returned (.bool true) ∧ Below w.heap.size w w' := by
  obtain ⟨x, rfl, hx⟩ := nat_of_u64 w1
  clear w1
  obtain ⟨b, hb⟩ : ∃ n : Nat, Hid (n = bigS64 a0 x) := ⟨bigS64 a0 x, Lib.hid rfl⟩
  obtain ⟨s, hs⟩ : ∃ n : Nat, Hid (n = smallS64 a0 x) := ⟨smallS64 a0 x, Lib.hid rfl⟩
  have c1 := fun w hg => big64_w a0 x hx w hg
  have c2 := fun w => rbig64_w a0 x hx w
  have c3 := fun w hg => small64_w a0 x hx w hg
  have c4 := fun w => rsmall64_w a0 x hx w
  rw [← hb.out] at c1 c2
  rw [← hs.out] at c3 c4
  have C1 := Lib.hid c1
  have C2 := Lib.hid c2
  have C3 := Lib.hid c3
  have C4 := Lib.hid c4
  clear c1 c2 c3 c4 hx
  have HB := Lib.hid (bl_refl w)
  have HT := Lib.hid hg
  clear hg
  go_enter Tryd.func5, Tryd.ntmps5
  go_wp2_with (first | (go_at_call 20; refine (wakes64_w _).mono ?_; rintro e w' ⟨rfl, rfl⟩) | (go_at_call 21; (with_reducible refine (C1.out _ HT.out).mono ?_); rintro e w' ⟨rfl, rfl⟩) | (go_at_call 22; (with_reducible refine (C2.out _).mono ?_); rintro e w1 ⟨rfl, hb⟩; have HBn := Lib.hid (bl_call HB.out hb); have HTn := Lib.hid (HT.out.below (Nat.le_refl _) hb); clear HB HT hb; have HB := HBn; have HT := HTn; clear HBn HTn) | (go_at_call 23; (with_reducible refine (C3.out _ HT.out).mono ?_); rintro e w1 ⟨rfl, hb⟩; have HBn := Lib.hid (bl_call HB.out hb); have HTn := Lib.hid (HT.out.below (Nat.le_refl _) hb); clear HB HT hb; have HB := HBn; have HT := HTn; clear HBn HTn) | (go_at_call 24; (with_reducible refine (C4.out _).mono ?_); rintro e w1 ⟨rfl, hb⟩; have HBn := Lib.hid (bl_call HB.out hb); have HTn := Lib.hid (HT.out.below (Nat.le_refl _) hb); clear HB HT hb; have HB := HBn; have HT := HTn; clear HBn HTn))
  go_ret
  exact ⟨rfl, HB.out⟩

set_option maxHeartbeats 2000000 in
theorem longLinear_walk (a0 a1 : Int) (w0 : (Lit.int .u64 a0).wf = true) (w1 : (Lit.int .u64 a1).wf = true) (w : World) (hg : Tabs64 w) :
    Calls Tryd.prog 6 #[.int .u64 a0, .int .u64 a1] w fun e w' => e = .returned (.bool true) ∧ Below w.heap.size w w' := by
  obtain ⟨x, rfl, hx⟩ := nat_of_u64 w0
  obtain ⟨y, rfl, hy⟩ := nat_of_u64 w1
  clear w0 w1
  have HX := Lib.hid hx
  have HY := Lib.hid hy
  have HT0 := Lib.hid hg
  have e0 := u64_xor_nat x y hx hy
  obtain ⟨z, hz⟩ : ∃ n : Nat, Hid (n = x ^^^ y) := ⟨x ^^^ y, Lib.hid rfl⟩
  rw [← hz.out] at e0
  clear hg hx hy
  go_enter Tryd.func6, Tryd.ntmps6
  go_wp2_with (go_at_call 20; refine (wakes64_w _).mono ?_; rintro e w' ⟨rfl, rfl⟩)
  go_loopw [8] (fun i wr => ∃ k : Nat, k ≤ 2 ∧ i = .int .i64 k ∧ Below w.heap.size w wr) (fun i _ => 2 - (intOf i).toNat)
  case atStart => exact ⟨0, by omega, rfl, bl_refl _⟩
  case round =>
    obtain ⟨k, hk, rfl, hbel⟩ := hrel
    have HB := Lib.hid hbel
    have HT := Lib.hid (HT0.out.below (Nat.le_refl _) hbel)
    clear hbel
    by_cases hlt : k < 2
    · obtain ⟨b1, hb1⟩ : ∃ n : Nat, Hid (n = bigS64 k x) := ⟨bigS64 k x, Lib.hid rfl⟩
      obtain ⟨b2, hb2⟩ : ∃ n : Nat, Hid (n = bigS64 k y) := ⟨bigS64 k y, Lib.hid rfl⟩
      obtain ⟨b3, hb3⟩ : ∃ n : Nat, Hid (n = b1 ^^^ b2) := ⟨b1 ^^^ b2, Lib.hid rfl⟩
      obtain ⟨s1, hs1⟩ : ∃ n : Nat, Hid (n = smallS64 k x) := ⟨smallS64 k x, Lib.hid rfl⟩
      obtain ⟨s2, hs2⟩ : ∃ n : Nat, Hid (n = smallS64 k y) := ⟨smallS64 k y, Lib.hid rfl⟩
      obtain ⟨s3, hs3⟩ : ∃ n : Nat, Hid (n = s1 ^^^ s2) := ⟨s1 ^^^ s2, Lib.hid rfl⟩
      have eb := u64_xor_nat b1 b2 (by rw [hb1.out]; exact bigS64_lt _ _) (by rw [hb2.out]; exact bigS64_lt _ _)
      have es := u64_xor_nat s1 s2 (by rw [hs1.out]; exact smallS64_lt _ _ HX.out) (by rw [hs2.out]; exact smallS64_lt _ _ HY.out)
      rw [← hb3.out] at eb
      rw [← hs3.out] at es
      have zl : z < 18446744073709551616 := by rw [hz.out]; exact xor_lt64 HX.out HY.out
      have c1 := fun w hg => big64_w k x HX.out w hg
      have c2 := fun w hg => big64_w k y HY.out w hg
      have c3 := fun w hg => big64_w k z zl w hg
      have c4 := fun w hg => small64_w k x HX.out w hg
      have c5 := fun w hg => small64_w k y HY.out w hg
      have c6 := fun w hg => small64_w k z zl w hg
      rw [← hb1.out] at c1
      rw [← hb2.out] at c2
      rw [hz.out, bigS64_xor, ← hb1.out, ← hb2.out, ← hb3.out, ← hz.out] at c3
      rw [← hs1.out] at c4
      rw [← hs2.out] at c5
      rw [hz.out, smallS64_xor, ← hs1.out, ← hs2.out, ← hs3.out, ← hz.out] at c6
      have C1 := Lib.hid c1
      have C2 := Lib.hid c2
      have C3 := Lib.hid c3
      have C4 := Lib.hid c4
      have C5 := Lib.hid c5
      have C6 := Lib.hid c6
      clear c1 c2 c3 c4 c5 c6 zl
      go_wp2_with (first | (go_at_call 21; (with_reducible refine (C3.out _ HT.out).mono ?_); rintro e w' ⟨rfl, rfl⟩) | (go_at_call 21; (with_reducible refine (C1.out _ HT.out).mono ?_); rintro e w' ⟨rfl, rfl⟩) | (go_at_call 21; (with_reducible refine (C2.out _ HT.out).mono ?_); rintro e w' ⟨rfl, rfl⟩) | (go_at_call 23; (first | (with_reducible refine (C6.out _ HT.out).mono ?_) | (with_reducible refine (C4.out _ HT.out).mono ?_) | (with_reducible refine (C5.out _ HT.out).mono ?_)); rintro e w1 ⟨rfl, hb⟩; have HBn := Lib.hid (bl_call HB.out hb); have HTn := Lib.hid (HT.out.below (Nat.le_refl _) hb); clear HB HT hb; have HB := HBn; have HT := HTn; clear HBn HTn))
      go_roundw
      case rel => exact ⟨k + 1, by omega, by go_num, HB.out⟩
      case measure => simp [intOf]; omega
    · go_wp2
      go_ret
      exact ⟨rfl, HB.out⟩
end Go.Proofs.YtohieonpegeokaaDoor
