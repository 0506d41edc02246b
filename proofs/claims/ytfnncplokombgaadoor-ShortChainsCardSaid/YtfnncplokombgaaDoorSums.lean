/- Plain sums: of the first n numbers, and that a list turned round has the same sum. -/
import Derived.KernelRfl
namespace Go.Proofs.YtfnncplokombgaaDoor
def sumN (f : Nat → Int) : Nat → Int
  | 0 => 0
  | n + 1 => sumN f n + f n
theorem sumN_congr {f g : Nat → Int} : ∀ n, (∀ j, j < n → f j = g j) → sumN f n = sumN g n
  | 0, _ => rfl
  | n + 1, h => by simp only [sumN]; rw [sumN_congr n (fun j hj => h j (by omega)), h n (by omega)]
theorem sumN_shift (f : Nat → Int) : ∀ n, sumN (fun j => f (j + 1)) n + f 0 = sumN f n + f n
  | 0 => by simp [sumN]
  | n + 1 => by
    have ih := sumN_shift f n
    simp only [sumN]
    omega
theorem sumN_turn (f : Nat → Int) (n : Nat) (hn : 0 < n) : ∀ b, sumN (fun j => f ((j + b) % n)) n = sumN f n
  | 0 => sumN_congr n fun j hj => by rw [Nat.add_zero, Nat.mod_eq_of_lt hj]
  | b + 1 => by
    have ih := sumN_turn f n hn b
    have h := sumN_shift (fun j => f ((j + b) % n)) n
    have e : (fun j => (fun j => f ((j + b) % n)) (j + 1)) = fun j => f ((j + (b + 1)) % n) := by
      funext j
      show f ((j + 1 + b) % n) = _
      congr 2
      omega
    rw [e, ih] at h
    simp only [Nat.zero_add, Nat.add_mod_left] at h
    omega
end Go.Proofs.YtfnncplokombgaaDoor
