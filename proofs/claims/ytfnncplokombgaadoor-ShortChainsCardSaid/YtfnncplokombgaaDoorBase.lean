/- Small facts for the walks: endings, masks and shifts of the model's integers in plain numbers. -/
import Derived.Test.YtfnncplokombgaaDoorBits
import Derived.WalkKit
import Derived.WalkLawsBesides
import Derived.Lib.Hide
import Derived.Laws.BitsAllLaws
namespace Go.Proofs.YtfnncplokombgaaDoor
open Go.RowKit Bt

theorem ret_int {k : IntKind} {a b : Int} (h : a = b) : Ending.returned (.int k a) = .returned (.int k b) := by rw [h]
theorem ret_bool {a b : Bool} (h : a = b) : Ending.returned (.bool a) = .returned (.bool b) := by rw [h]
theorem ret_agg {a b : Array Value} (h : a = b) : Ending.returned (.agg a) = .returned (.agg b) := by rw [h]

theorem ofInt_toNat64 (n : Int) : (BitVec.ofInt 64 n).toNat = (n % 18446744073709551616).toNat := by
  rw [BitVec.toNat_ofInt]; rfl
theorem dvd_two_pow (k : Nat) (hk : k ≤ 64) : ((2 ^ k : Nat) : Int) ∣ 18446744073709551616 := by
  have : (18446744073709551616 : Int) = ((2 ^ k : Nat) : Int) * ((2 ^ (64 - k) : Nat) : Int) := by
    rw [← Int.natCast_mul, ← Nat.pow_add, show k + (64 - k) = 64 by omega]; rfl
  exact ⟨_, this⟩
theorem mask_nat (n : Int) (k : Nat) (hk : k ≤ 63) (m : Int) (hm : m = ((2 ^ k - 1 : Nat) : Int)) :
    (BitVec.ofInt 64 n &&& BitVec.ofInt 64 m).toNat = (n % (2 ^ k : Nat)).toNat ∧ (n % ((2 ^ k : Nat) : Int)).toNat < 2 ^ k := by
  subst hm
  have h2 : (2 : Nat) ^ k ≤ 2 ^ 63 := Nat.pow_le_pow_right (by omega) hk
  have hp : 0 < 2 ^ k := Nat.two_pow_pos k
  rw [BitVec.toNat_and, ofInt_toNat64, BitVec.ofInt_natCast, BitVec.toNat_ofNat, Nat.mod_eq_of_lt (by omega), Nat.and_two_pow_sub_one_eq_mod]
  refine ⟨?_, ?_⟩
  · have h1 : ((n % 18446744073709551616).toNat : Int) = n % 18446744073709551616 := Int.toNat_of_nonneg (Int.emod_nonneg _ (by omega))
    apply Int.ofNat.inj
    show (((n % 18446744073709551616).toNat % 2 ^ k : Nat) : Int) = ((n % (2 ^ k : Nat)).toNat : Int)
    rw [Int.natCast_emod, h1, Int.emod_emod_of_dvd _ (dvd_two_pow k (by omega)), Int.toNat_of_nonneg (Int.emod_nonneg _ (by omega))]
  · have := Int.emod_lt_of_pos n (show (0 : Int) < ((2 ^ k : Nat) : Int) by omega)
    omega
theorem and_mask_u64 (n : Int) (k : Nat) (hk : k ≤ 63) (m : Int) (hm : m = ((2 ^ k - 1 : Nat) : Int)) : bits .and .u64 n m = ((n % (2 ^ k : Nat)).toNat : Int) := by
  have h2 : (2 : Nat) ^ k ≤ 2 ^ 63 := Nat.pow_le_pow_right (by omega) hk
  obtain ⟨h, hl⟩ := mask_nat n k hk m hm
  show IntKind.u64.wrap (((BitVec.ofInt 64 n &&& BitVec.ofInt 64 m).toNat : Nat) : Int) = _
  rw [h, IntKind.wrap_u64]
  omega
theorem and_mask_i64 (n : Int) (k : Nat) (hk : k ≤ 62) (m : Int) (hm : m = ((2 ^ k - 1 : Nat) : Int)) : bits .and .i64 n m = ((n % (2 ^ k : Nat)).toNat : Int) := by
  have h2 : (2 : Nat) ^ k ≤ 2 ^ 62 := Nat.pow_le_pow_right (by omega) hk
  obtain ⟨h, hl⟩ := mask_nat n k (by omega) m hm
  show IntKind.i64.wrap (((BitVec.ofInt 64 n &&& BitVec.ofInt 64 m).toNat : Nat) : Int) = _
  rw [h, IntKind.wrap_i64]
  omega
theorem and31_u64 (n : Int) : bits .and .u64 (IntKind.u64.wrap n) 31 = ((n % 32).toNat : Int) := by
  rw [and_mask_u64 _ 5 (by omega) 31 rfl, IntKind.wrap_u64, Int.emod_emod_of_dvd _ (by decide)]; rfl
theorem and63_u64 (n : Int) : bits .and .u64 (IntKind.u64.wrap n) 63 = ((n % 64).toNat : Int) := by
  rw [and_mask_u64 _ 6 (by omega) 63 rfl, IntKind.wrap_u64, Int.emod_emod_of_dvd _ (by decide)]; rfl
theorem and31_i64 (n : Int) : bits .and .i64 n 31 = ((n % 32).toNat : Int) := and_mask_i64 n 5 (by omega) 31 rfl
theorem and63_i64 (n : Int) : bits .and .i64 n 63 = ((n % 64).toNat : Int) := and_mask_i64 n 6 (by omega) 63 rfl

theorem cast_shl (x s m : Nat) : (x : Int) * 2 ^ s % (m : Int) = ((x <<< s % m : Nat) : Int) := by
  rw [Nat.shiftLeft_eq]; simp
theorem cast_shr (x s : Nat) : (x : Int) / 2 ^ s = ((x >>> s : Nat) : Int) := by
  rw [Nat.shiftRight_eq_div_pow]; simp
theorem cast_div2 (x s : Nat) : (x : Int) / 2 ^ s = ((x / 2 ^ s : Nat) : Int) := by simp
theorem nat_of_i64 {a : Int} (h : (Lit.int .i64 a).wf = true) : -9223372036854775808 ≤ a ∧ a < 9223372036854775808 := by
  simp [Lit.wf, IntKind.min, IntKind.max, IntKind.signed, IntKind.bits] at h
  omega
theorem nat_of_u8 {a : Int} (h : (Lit.int .u8 a).wf = true) : ∃ x : Nat, a = (x : Int) ∧ x < 256 := by
  simp [Lit.wf, IntKind.min, IntKind.max, IntKind.signed, IntKind.bits] at h
  exact ⟨a.toNat, by omega, by omega⟩
theorem nat_of_u32 {a : Int} (h : (Lit.int .u32 a).wf = true) : ∃ x : Nat, a = (x : Int) ∧ x < 4294967296 := by
  simp [Lit.wf, IntKind.min, IntKind.max, IntKind.signed, IntKind.bits] at h
  exact ⟨a.toNat, by omega, by omega⟩
theorem nat_of_u64 {a : Int} (h : (Lit.int .u64 a).wf = true) : ∃ x : Nat, a = (x : Int) ∧ x < 18446744073709551616 := by
  simp [Lit.wf, IntKind.min, IntKind.max, IntKind.signed, IntKind.bits] at h
  exact ⟨a.toNat, by omega, by omega⟩
end Go.Proofs.YtfnncplokombgaaDoor
