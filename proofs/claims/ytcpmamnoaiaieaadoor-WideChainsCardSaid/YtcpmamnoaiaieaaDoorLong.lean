/- Contracts of package long (64 bits): Turn, Shift, Ch, Maj, by the walk; the word's bits in plain numbers. -/
import Derived.Test.YtcpmamnoaiaieaaDoorBase
import Derived.Test.YtcpmamnoaiaieaaDoorProg
namespace Go.Proofs.YtcpmamnoaiaieaaDoor
open Go.RowKit Bt

theorem rotl64_w (x : Nat) (hx : x < 18446744073709551616) (n : Int) (w : World) :
    Calls Tryd.prog 36 #[.int .u64 x, .int .i64 n] w fun e w' => e = .returned (.int .u64 (Bt.rotr 64 x ((-n) % 64).toNat : Nat)) ∧ w = w' := by
  obtain ⟨s, hs, he⟩ : ∃ s : Nat, Hid (s = (n % 64).toNat) ∧ bits .and .u64 (IntKind.u64.wrap n) 63 = (s : Int) := ⟨_, rfl, and63_u64 n⟩
  have hs' : s ≤ 63 := by have := hs.out; omega
  go_enter Tryd.func36, Tryd.ntmps36
  go_wp2
  go_ret
  refine ⟨ret_int ?_, rfl⟩
  have e1 : (x : Int) * 2 ^ s % 18446744073709551616 = ((x <<< s % 18446744073709551616 : Nat) : Int) := cast_shl x s 18446744073709551616
  try rw [IntKind.wrap_u64]
  rw [e1, cast_shr, u64_or_nat _ _ (Nat.mod_lt _ (by omega)) (Nat.lt_of_le_of_lt (Nat.shiftRight_le _ _) hx)]
  have h := Bt.rotl_eq (n := 64) (x := x) (s := s) (by simpa using hx) (by omega)
  rw [show (2 : Nat) ^ 64 = 18446744073709551616 from rfl] at h
  rw [h]
  refine congrArg (fun z : Nat => (z : Int)) (Bt.rotr_congr ?_)
  have := hs.out
  omega

theorem turn64_w (x : Nat) (hx : x < 18446744073709551616) (n : Int) (w : World) :
    Calls Tryd.prog 28 #[.int .u64 x, .int .i64 n] w fun e w' => e = .returned (.int .u64 (Bt.rotr 64 x (n % 64).toNat : Nat)) ∧ w = w' := by
  obtain ⟨s, hs, he⟩ : ∃ s : Nat, Hid (s = (n % 64).toNat) ∧ bits .and .i64 n 63 = (s : Int) := ⟨_, rfl, and63_i64 n⟩
  have hs' : s ≤ 63 := by have := hs.out; omega
  go_enter Tryd.func28, Tryd.ntmps28
  go_wp2_with (go_at_call 36; refine (rotl64_w _ hx _ _).mono ?_; rintro e w' ⟨rfl, rfl⟩)
  go_ret
  refine ⟨ret_int ?_, rfl⟩
  refine congrArg (fun z : Nat => (z : Int)) (Bt.rotr_congr ?_)
  have := hs.out
  omega

theorem shift64_w (x : Nat) (hx : x < 18446744073709551616) (n : Int) (hn : n < 9223372036854775808) (w : World) :
    Calls Tryd.prog 29 #[.int .u64 x, .int .i64 n] w fun e w' => e = .returned (.int .u64 (x / 2 ^ n.toNat : Nat)) ∧ w = w' := by
  by_cases h : n < 0
  · go_enter Tryd.func29, Tryd.ntmps29
    go_wp2
    go_ret
    refine ⟨ret_int ?_, rfl⟩
    have e : n.toNat = 0 := by omega
    rw [e]; simp
  · have h' : 0 ≤ n := by omega
    go_enter Tryd.func29, Tryd.ntmps29
    go_wp2
    go_ret
    refine ⟨ret_int ?_, rfl⟩
    rw [cast_div2, cast_div2, Bt.shr_min (n := 64) n.toNat (by simpa using hx)]
theorem ch64_w (x y z : Nat) (hx : x < 18446744073709551616) (hy : y < 18446744073709551616) (hz : z < 18446744073709551616) (w : World) :
    Calls Tryd.prog 20 #[.int .u64 x, .int .u64 y, .int .u64 z] w fun e w' => e = .returned (.int .u64 (z ^^^ (x &&& (y ^^^ z)) : Nat)) ∧ w = w' := by
  have h1 := u64_xor_nat y z hy hz
  have hl : y ^^^ z < 18446744073709551616 := Nat.xor_lt_two_pow (n := 64) hy hz
  have h2 := u64_and_nat x (y ^^^ z) hx hl
  have h3 := u64_xor_nat z (x &&& (y ^^^ z)) hz (Nat.and_lt_two_pow (n := 64) _ hl)
  go_enter Tryd.func20, Tryd.ntmps20
  go_wp2
  go_ret
  exact ⟨rfl, rfl⟩
theorem maj64_w (x y z : Nat) (hx : x < 18446744073709551616) (hy : y < 18446744073709551616) (hz : z < 18446744073709551616) (w : World) :
    Calls Tryd.prog 21 #[.int .u64 x, .int .u64 y, .int .u64 z] w fun e w' => e = .returned (.int .u64 ((x &&& y) ||| (z &&& (x ||| y)) : Nat)) ∧ w = w' := by
  have h1 := u64_and_nat x y hx hy
  have h2 := u64_or_nat x y hx hy
  have hl : x ||| y < 18446744073709551616 := Nat.or_lt_two_pow (n := 64) hx hy
  have h3 := u64_and_nat z (x ||| y) hz hl
  have h4 := u64_or_nat (x &&& y) (z &&& (x ||| y)) (Nat.and_lt_two_pow (n := 64) _ hy) (Nat.and_lt_two_pow (n := 64) _ hl)
  go_enter Tryd.func21, Tryd.ntmps21
  go_wp2
  go_ret
  exact ⟨rfl, rfl⟩
end Go.Proofs.YtcpmamnoaiaieaaDoor
