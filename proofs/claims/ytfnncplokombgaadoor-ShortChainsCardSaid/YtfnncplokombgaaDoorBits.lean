/- Plain facts on the bits of natural numbers: a word out of its bits, turning, choosing, most, exclusive-or. No program, no memory. -/
import Derived.KernelRfl
namespace Go.Proofs.YtfnncplokombgaaDoor.Bt
def ofB (f : Nat → Bool) : Nat → Nat → Nat
  | 0, _ => 0
  | k + 1, i => 2 * ofB f k (i + 1) + (f i).toNat

theorem ofB_testBit (f : Nat → Bool) : ∀ k i j, (ofB f k i).testBit j = (decide (j < k) && f (i + j)) := by
  intro k
  induction k with
  | zero => intro i j; simp [ofB]
  | succ k ih =>
    intro i j
    cases j with
    | zero =>
      simp only [ofB, Nat.testBit_zero, Nat.add_zero]
      cases f i <;> simp <;> omega
    | succ j =>
      rw [Nat.testBit_succ, ofB]
      have : (2 * ofB f k (i + 1) + (f i).toNat) / 2 = ofB f k (i + 1) := by cases f i <;> simp <;> omega
      rw [this, ih]
      have e : i + 1 + j = i + (j + 1) := by omega
      rw [e]; simp

theorem ofB_lt (f : Nat → Bool) : ∀ k i, ofB f k i < 2 ^ k := by
  intro k
  induction k with
  | zero => intro i; simp [ofB]
  | succ k ih =>
    intro i
    have := ih (i + 1)
    simp only [ofB, Nat.pow_succ]
    cases f i <;> simp <;> omega

theorem eq_of_bits {n x y : Nat} (hx : x < 2 ^ n) (hy : y < 2 ^ n) (h : ∀ j, j < n → x.testBit j = y.testBit j) : x = y := by
  apply Nat.eq_of_testBit_eq
  intro j
  by_cases hj : j < n
  · exact h j hj
  · have h1 : x < 2 ^ j := Nat.lt_of_lt_of_le hx (Nat.pow_le_pow_right (by omega) (by omega))
    have h2 : y < 2 ^ j := Nat.lt_of_lt_of_le hy (Nat.pow_le_pow_right (by omega) (by omega))
    rw [Nat.testBit_lt_two_pow h1, Nat.testBit_lt_two_pow h2]

theorem ofB_self {n x : Nat} (hx : x < 2 ^ n) : ofB x.testBit n 0 = x :=
  eq_of_bits (ofB_lt _ _ _) hx fun j hj => by simp [ofB_testBit, hj]

/-- turned to the right -/
def rotr (n x k : Nat) : Nat := ofB (fun i => x.testBit ((i + k) % n)) n 0

theorem rotr_lt (n x k : Nat) : rotr n x k < 2 ^ n := ofB_lt _ _ _
theorem rotr_testBit (n x k j : Nat) : (rotr n x k).testBit j = (decide (j < n) && x.testBit ((j + k) % n)) := by
  simp [rotr, ofB_testBit]
theorem rotr_congr {n x k l : Nat} (h : k % n = l % n) : rotr n x k = rotr n x l := by
  unfold rotr
  congr 1
  funext i
  rw [Nat.add_mod, h, ← Nat.add_mod]
theorem rotr_zero {n x : Nat} (hx : x < 2 ^ n) : rotr n x 0 = x :=
  eq_of_bits (rotr_lt _ _ _) hx fun j hj => by simp [rotr_testBit, hj, Nat.mod_eq_of_lt hj]
theorem rotr_rotr (n x k l : Nat) (hn : 0 < n) : rotr n (rotr n x k) l = rotr n x (k + l) :=
  eq_of_bits (rotr_lt _ _ _) (rotr_lt _ _ _) fun j hj => by
    simp only [rotr_testBit, hj, decide_true, Bool.true_and, Nat.mod_lt _ hn]
    rw [Nat.mod_add_mod]
    congr 1
    congr 1
    omega
theorem rotr_xor (n x y k : Nat) : rotr n (x ^^^ y) k = rotr n x k ^^^ rotr n y k :=
  eq_of_bits (rotr_lt _ _ _) (Nat.xor_lt_two_pow (rotr_lt _ _ _) (rotr_lt _ _ _)) fun j hj => by
    simp [rotr_testBit, hj, Nat.testBit_xor]

/-- the library's way of turning to the left by s -/
theorem rotl_eq {n x s : Nat} (hx : x < 2 ^ n) (hs : s < n) :
    (x <<< s % 2 ^ n) ||| (x >>> (n - s)) = rotr n x (n - s) := by
  refine eq_of_bits (n := n) (Nat.or_lt_two_pow (Nat.mod_lt _ (Nat.two_pow_pos n)) ?_) (rotr_lt _ _ _) fun j hj => ?_
  · exact Nat.lt_of_le_of_lt (Nat.shiftRight_le _ _) hx
  · simp only [Nat.testBit_or, Nat.testBit_mod_two_pow, Nat.testBit_shiftLeft, Nat.testBit_shiftRight, rotr_testBit, hj, decide_true, Bool.true_and]
    by_cases h : s ≤ j
    · have e : (j + (n - s)) % n = j - s := by
        have : j + (n - s) = (j - s) + n := by omega
        rw [this, Nat.add_mod_right, Nat.mod_eq_of_lt (by omega)]
      have h2 : x.testBit (n - s + j) = false := Nat.testBit_lt_two_pow (Nat.lt_of_lt_of_le hx (Nat.pow_le_pow_right (by omega) (by omega)))
      simp [h, e, h2]
    · have e : (j + (n - s)) % n = n - s + j := by
        rw [Nat.mod_eq_of_lt (by omega)]; omega
      have : ¬ j ≥ s := by omega
      simp [this, e]

/-- shifts -/
theorem shr_shr (x a b : Nat) : x / 2 ^ a / 2 ^ b = x / 2 ^ (a + b) := by
  rw [Nat.div_div_eq_div_mul, Nat.pow_add]

theorem shr_min {n x : Nat} (k : Nat) (hx : x < 2 ^ n) : x / 2 ^ min k n = x / 2 ^ k := by
  rcases Nat.le_total k n with h | h
  · rw [Nat.min_eq_left h]
  · rw [Nat.min_eq_right h, Nat.div_eq_of_lt hx, Nat.div_eq_of_lt (Nat.lt_of_lt_of_le hx (Nat.pow_le_pow_right (by omega) h))]
/-- what is chosen; what most have -/
theorem ch_eq {n x y z : Nat} (hy : y < 2 ^ n) (hz : z < 2 ^ n) :
    z ^^^ (x &&& (y ^^^ z)) = ofB (fun i => if x.testBit i then y.testBit i else z.testBit i) n 0 := by
  refine eq_of_bits (n := n) (Nat.xor_lt_two_pow hz (Nat.and_lt_two_pow _ (Nat.xor_lt_two_pow hy hz))) (ofB_lt _ _ _) fun j hj => ?_
  simp only [Nat.testBit_xor, Nat.testBit_and, ofB_testBit, hj, decide_true, Bool.true_and, Nat.zero_add]
  cases x.testBit j <;> cases y.testBit j <;> cases z.testBit j <;> rfl
theorem maj_eq {n x y z : Nat} (hx : x < 2 ^ n) (hy : y < 2 ^ n) :
    (x &&& y) ||| (z &&& (x ||| y)) = ofB (fun i => ((x.testBit i).toNat + (y.testBit i).toNat + (z.testBit i).toNat) / 2 == 1) n 0 := by
  refine eq_of_bits (n := n) (Nat.or_lt_two_pow (Nat.and_lt_two_pow _ hy) (Nat.and_lt_two_pow _ (Nat.or_lt_two_pow hx hy))) (ofB_lt _ _ _) fun j hj => ?_
  simp only [Nat.testBit_or, Nat.testBit_and, ofB_testBit, hj, decide_true, Bool.true_and, Nat.zero_add]
  cases x.testBit j <;> cases y.testBit j <;> cases z.testBit j <;> rfl
theorem xor_eq {n x y : Nat} (hx : x < 2 ^ n) (hy : y < 2 ^ n) :
    x ^^^ y = ofB (fun i => ((x.testBit i).toNat + (y.testBit i).toNat) % 2 == 1) n 0 := by
  refine eq_of_bits (n := n) (Nat.xor_lt_two_pow hx hy) (ofB_lt _ _ _) fun j hj => ?_
  simp only [Nat.testBit_xor, ofB_testBit, hj, decide_true, Bool.true_and, Nat.zero_add]
  cases x.testBit j <;> cases y.testBit j <;> rfl
theorem maj_rot (x y z : Nat) : (z &&& x) ||| (y &&& (z ||| x)) = (x &&& y) ||| (z &&& (x ||| y)) := by
  apply Nat.eq_of_testBit_eq
  intro j
  simp only [Nat.testBit_or, Nat.testBit_and]
  cases x.testBit j <;> cases y.testBit j <;> cases z.testBit j <;> rfl
theorem maj_swap (x y z : Nat) : (y &&& x) ||| (z &&& (y ||| x)) = (x &&& y) ||| (z &&& (x ||| y)) := by
  rw [Nat.and_comm y x, Nat.or_comm y x]
end Go.Proofs.YtfnncplokombgaaDoor.Bt
