/- The contract of word.Sum: the words of a slice are added up, round at 2^64. -/
import Derived.Test.YtcpmamnoaiaieaaDoorSlices
import Derived.Test.YtcpmamnoaiaieaaDoorSums
import Derived.Test.YtcpmamnoaiaieaaDoorProg
namespace Go.Proofs.YtcpmamnoaiaieaaDoor
open Go.RowKit Bt

theorem elt64s : EltT Tryd.prog 28 24 8 := elt_of (k := .u64) Tryd.underlying28 (by kernel_rfl)

theorem sum64_w (a : Option Addr) (n cap : Nat) (f : Nat → Int) (w : World) (hn : n ≤ maxLen) (hr : reads w a n .u64 f) :
    Calls Tryd.prog 15 #[.slice a n cap] w fun e w' => e = .returned (.int .u64 (sumN f n % 18446744073709551616)) ∧ w = w' := by
  unfold maxLen at hn
  rcases Nat.eq_zero_or_pos n with h0 | h0
  · subst h0
    clear hr
    go_enter Tryd.func15, Tryd.ntmps15
    go_wp2
    refine wp_loop_rounds 1 ?_
    rw [rounds_succ]
    go_wp2
    go_ret
    exact ⟨rfl, rfl⟩
  · obtain ⟨b, off, rfl, hc⟩ := hr h0
    clear hr
    have HC := Lib.hid hc
    clear hc
    go_enter Tryd.func15, Tryd.ntmps15
    go_wp2
    go_loop [3, 8] (fun s i => ∃ k : Nat, k ≤ n ∧ i = .int .i64 k ∧ s = .int .u64 (sumN f k % 18446744073709551616)) (fun _ i => n - (intOf i).toNat)
    case atStart => exact ⟨0, by omega, rfl, rfl⟩
    case round =>
      obtain ⟨k, hk, rfl, rfl⟩ := hrel
      by_cases hlt : k < n
      · have hcell := HC.out k hlt
        go_wp2
        go_round
        case rel =>
          refine ⟨k + 1, by omega, by go_num, ?_⟩
          simp only [sumN]
          try rw [IntKind.wrap_u64]
          congr 1
          omega
        case measure => simp [intOf]; omega
      · obtain rfl : k = n := by omega
        go_wp2
        go_ret
        exact ⟨rfl, rfl⟩
end Go.Proofs.YtcpmamnoaiaieaaDoor
