/- The contract of word.Sum: the words of a slice are added up, round at 2^32. -/
import Derived.Test.YtfnncplokombgaaDoorSlices
import Derived.Test.YtfnncplokombgaaDoorSums
import Derived.Test.YtfnncplokombgaaDoorProg
namespace Go.Proofs.YtfnncplokombgaaDoor
open Go.RowKit Bt

theorem elt32s : EltT Tryd.prog 28 24 4 := elt_of (k := .u32) Tryd.underlying28 (by kernel_rfl)

theorem sum32_w (a : Option Addr) (n cap : Nat) (f : Nat → Int) (w : World) (hn : n ≤ maxLen) (hr : reads w a n .u32 f) :
    Calls Tryd.prog 15 #[.slice a n cap] w fun e w' => e = .returned (.int .u32 (sumN f n % 4294967296)) ∧ w = w' := by
  unfold maxLen at hn
  rcases Nat.eq_zero_or_pos n with h0 | h0
  · subst h0
    clear hr
    go_enter Tryd.func15, Tryd.ntmps15
    go_wp2
    refine wp_loop_rounds 1 ?_
    rw [rounds_succ]
    go_wp2
    go_ret
    exact ⟨rfl, rfl⟩
  · obtain ⟨b, off, rfl, hc⟩ := hr h0
    clear hr
    have HC := Lib.hid hc
    clear hc
    go_enter Tryd.func15, Tryd.ntmps15
    go_wp2
    go_loop [3, 8] (fun s i => ∃ k : Nat, k ≤ n ∧ i = .int .i64 k ∧ s = .int .u32 (sumN f k % 4294967296)) (fun _ i => n - (intOf i).toNat)
    case atStart => exact ⟨0, by omega, rfl, rfl⟩
    case round =>
      obtain ⟨k, hk, rfl, rfl⟩ := hrel
      by_cases hlt : k < n
      · have hcell := HC.out k hlt
        go_wp2
        go_round
        case rel =>
          refine ⟨k + 1, by omega, by go_num, ?_⟩
          simp only [sumN]
          try rw [IntKind.wrap_u64]
          congr 1
          omega
        case measure => simp [intOf]; omega
      · obtain rfl : k = n := by omega
        go_wp2
        go_ret
        exact ⟨rfl, rfl⟩
end Go.Proofs.YtfnncplokombgaaDoor
