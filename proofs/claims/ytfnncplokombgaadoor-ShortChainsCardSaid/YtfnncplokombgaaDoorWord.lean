/- Contracts of package word (32 bits): Turn, Shift, Ch, Maj, by the walk; the word's bits in plain numbers. -/
import Derived.Test.YtfnncplokombgaaDoorBase
import Derived.Test.YtfnncplokombgaaDoorProg
namespace Go.Proofs.YtfnncplokombgaaDoor
open Go.RowKit Bt

theorem rotl32_w (x : Nat) (hx : x < 4294967296) (n : Int) (w : World) :
    Calls Tryd.prog 38 #[.int .u32 x, .int .i64 n] w fun e w' => e = .returned (.int .u32 (Bt.rotr 32 x ((-n) % 32).toNat : Nat)) ∧ w = w' := by
  obtain ⟨s, hs, he⟩ : ∃ s : Nat, Hid (s = (n % 32).toNat) ∧ bits .and .u64 (IntKind.u64.wrap n) 31 = (s : Int) := ⟨_, rfl, and31_u64 n⟩
  have hs' : s ≤ 31 := by have := hs.out; omega
  go_enter Tryd.func38, Tryd.ntmps38
  go_wp2
  go_ret
  refine ⟨ret_int ?_, rfl⟩
  have e1 : (x : Int) * 2 ^ s % 4294967296 = ((x <<< s % 4294967296 : Nat) : Int) := cast_shl x s 4294967296
  try rw [IntKind.wrap_u64]
  rw [e1, cast_shr, u32_or_nat _ _ (Nat.mod_lt _ (by omega)) (Nat.lt_of_le_of_lt (Nat.shiftRight_le _ _) hx)]
  have h := Bt.rotl_eq (n := 32) (x := x) (s := s) (by simpa using hx) (by omega)
  rw [show (2 : Nat) ^ 32 = 4294967296 from rfl] at h
  rw [h]
  refine congrArg (fun z : Nat => (z : Int)) (Bt.rotr_congr ?_)
  have := hs.out
  omega

theorem turn32_w (x : Nat) (hx : x < 4294967296) (n : Int) (w : World) :
    Calls Tryd.prog 29 #[.int .u32 x, .int .i64 n] w fun e w' => e = .returned (.int .u32 (Bt.rotr 32 x (n % 32).toNat : Nat)) ∧ w = w' := by
  obtain ⟨s, hs, he⟩ : ∃ s : Nat, Hid (s = (n % 32).toNat) ∧ bits .and .i64 n 31 = (s : Int) := ⟨_, rfl, and31_i64 n⟩
  have hs' : s ≤ 31 := by have := hs.out; omega
  go_enter Tryd.func29, Tryd.ntmps29
  go_wp2_with (go_at_call 38; refine (rotl32_w _ hx _ _).mono ?_; rintro e w' ⟨rfl, rfl⟩)
  go_ret
  refine ⟨ret_int ?_, rfl⟩
  refine congrArg (fun z : Nat => (z : Int)) (Bt.rotr_congr ?_)
  have := hs.out
  omega

theorem shift32_w (x : Nat) (hx : x < 4294967296) (n : Int) (hn : n < 9223372036854775808) (w : World) :
    Calls Tryd.prog 30 #[.int .u32 x, .int .i64 n] w fun e w' => e = .returned (.int .u32 (x / 2 ^ n.toNat : Nat)) ∧ w = w' := by
  by_cases h : n < 0
  · go_enter Tryd.func30, Tryd.ntmps30
    go_wp2
    go_ret
    refine ⟨ret_int ?_, rfl⟩
    have e : n.toNat = 0 := by omega
    rw [e]; simp
  · have h' : 0 ≤ n := by omega
    go_enter Tryd.func30, Tryd.ntmps30
    go_wp2
    go_ret
    refine ⟨ret_int ?_, rfl⟩
    rw [cast_div2, cast_div2, Bt.shr_min (n := 32) n.toNat (by simpa using hx)]
theorem ch32_w (x y z : Nat) (hx : x < 4294967296) (hy : y < 4294967296) (hz : z < 4294967296) (w : World) :
    Calls Tryd.prog 20 #[.int .u32 x, .int .u32 y, .int .u32 z] w fun e w' => e = .returned (.int .u32 (z ^^^ (x &&& (y ^^^ z)) : Nat)) ∧ w = w' := by
  have h1 := u32_xor_nat y z hy hz
  have hl : y ^^^ z < 4294967296 := Nat.xor_lt_two_pow (n := 32) hy hz
  have h2 := u32_and_nat x (y ^^^ z) hx hl
  have h3 := u32_xor_nat z (x &&& (y ^^^ z)) hz (Nat.and_lt_two_pow (n := 32) _ hl)
  go_enter Tryd.func20, Tryd.ntmps20
  go_wp2
  go_ret
  exact ⟨rfl, rfl⟩
theorem maj32_w (x y z : Nat) (hx : x < 4294967296) (hy : y < 4294967296) (hz : z < 4294967296) (w : World) :
    Calls Tryd.prog 21 #[.int .u32 x, .int .u32 y, .int .u32 z] w fun e w' => e = .returned (.int .u32 ((x &&& y) ||| (z &&& (x ||| y)) : Nat)) ∧ w = w' := by
  have h1 := u32_and_nat x y hx hy
  have h2 := u32_or_nat x y hx hy
  have hl : x ||| y < 4294967296 := Nat.or_lt_two_pow (n := 32) hx hy
  have h3 := u32_and_nat z (x ||| y) hz hl
  have h4 := u32_or_nat (x &&& y) (z &&& (x ||| y)) (Nat.and_lt_two_pow (n := 32) _ hy) (Nat.and_lt_two_pow (n := 32) _ hl)
  go_enter Tryd.func21, Tryd.ntmps21
  go_wp2
  go_ret
  exact ⟨rfl, rfl⟩
end Go.Proofs.YtfnncplokombgaaDoor
