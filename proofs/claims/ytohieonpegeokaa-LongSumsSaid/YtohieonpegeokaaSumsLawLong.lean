/- The walk of the law LongSums. -/
import Derived.Test.YtohieonpegeokaaSumLong
import Derived.Test.YtohieonpegeokaaWakesLong
namespace Go.Proofs.Ytohieonpegeokaa
open Go.RowKit Bt

set_option maxHeartbeats 1000000 in
theorem longSums_walk (a : Option Addr) (n cap : Nat) (f : Nat → Int) (by' : Int) (w : World) (hn : n ≤ maxLen) (hr : reads w a n .u64 f)
    (hf : ∀ j, j < n → 0 ≤ f j ∧ f j < 18446744073709551616) (hby : (Lit.int .u8 by').wf = true) :
    Calls Try.prog 10 #[.slice a n cap, .int .u8 by'] w fun e w' => e = .returned (.bool true) ∧ Below w.heap.size w w' := by
  obtain ⟨m, rfl, hm⟩ := nat_of_u8 hby
  clear hby
  unfold maxLen at hn
  have HF := Lib.hid hf
  have HR := Lib.hid hr
  clear hf hr
  by_cases hbig : 1000 < n
  · go_enter Try.func10, Try.ntmps10
    go_wp2_with (go_at_call 28; refine (wakes64_w _).mono ?_; rintro e w' ⟨rfl, rfl⟩)
    go_ret
    exact ⟨rfl, bl_refl _⟩
  · have hsmall : n ≤ 1000 := by omega
    clear hbig
    go_enter Try.func10, Try.ntmps10
    go_wp2_with (go_at_call 28; refine (wakes64_w _).mono ?_; rintro e w' ⟨rfl, rfl⟩)
    go_loopw [5, 6, 16] (fun s v i wr => ∃ k : Nat, k ≤ n ∧ i = .int .i64 k ∧ s = .int .u64 (sumN f k % 18446744073709551616) ∧ owns wr w.heap.size 29 .u64 v k (fun j => f ((j + m) % n)) ∧ Below w.heap.size w wr) (fun _ _ i _ => n - (intOf i).toNat)
    case atStart => exact ⟨0, by omega, rfl, rfl, owns_nil _ _ _ _ _, bl_refl _⟩
    case round =>
      obtain ⟨k, hk, rfl, rfl, hown, hbel⟩ := hrel
      have HO := Lib.hid hown
      have HB := Lib.hid hbel
      clear hown hbel
      by_cases hlt : k < n
      · obtain ⟨b, off, rfl, hc⟩ := reads_below (Nat.le_refl _) HB.out HR.out (by omega)
        have hcell := hc k hlt
        have hidx : (k + m) % n < n := Nat.mod_lt _ (by omega)
        have hcell2 := hc _ hidx
        have hi0 : (0 : Int) ≤ ((k : Int) + (m : Int)) % (n : Int) := Int.emod_nonneg _ (by omega)
        have hi1 : ((k : Int) + (m : Int)) % (n : Int) < (n : Int) := Int.emod_lt_of_pos _ (by omega)
        obtain ⟨hf0, hf1⟩ := HF.out k hlt
        obtain ⟨s, hs, hs0, hs1⟩ : ∃ s : Int, Hid (s = sumN f k % 18446744073709551616) ∧ 0 ≤ s ∧ s < 18446744073709551616 := ⟨_, rfl, by omega, by omega⟩
        rw [← hs.out]
        clear hc
        go_wp2_with (at_builtin; refine append_one elt64w rfl (.tmp 24) (.tmp 35) rfl rfl HO.out rfl rfl (by unfold maxLen; omega) (by omega) HB.out.size ?_; intro v1 w1 ho1 hb1; have HO1 := Lib.hid ho1; have HB1 := Lib.hid hb1; clear ho1 hb1)
        go_roundw
        case rel =>
          refine ⟨k + 1, by omega, by go_num, ?_, owns_ext ?_ HO1.out, HB.out.trans HB1.out⟩
          · rw [hs.out]
            simp only [sumN]
            congr 1
            try rw [IntKind.wrap_u64]
            omega
          · intro j hj
            show (if j < k then f ((j + m) % n) else f ((k + m) % n)) = f ((j + m) % n)
            by_cases e : j < k
            · rw [if_pos e]
            · obtain rfl : j = k := by omega
              rw [if_neg e]
        case measure => simp [intOf]; omega
      · obtain rfl : k = n := by omega
        obtain ⟨a1, cap1, rfl, _, _, hr1⟩ := owns_reads HO.out
        have hr0 := reads_below (Nat.le_refl _) HB.out HR.out
        have c1 := sum64_w a k cap f wr hn hr0
        have c2 := sum64_w a1 k cap1 _ wr hn hr1
        have e2 : sumN (fun j => f ((j + m) % k)) k = sumN f k := by
          rcases Nat.eq_zero_or_pos k with h0 | h0
          · subst h0; rfl
          · exact sumN_turn f k h0 m
        rw [e2] at c2
        obtain ⟨s, hs, hs0, hs1⟩ : ∃ s : Int, Hid (s = sumN f k % 18446744073709551616) ∧ 0 ≤ s ∧ s < 18446744073709551616 := ⟨_, rfl, by omega, by omega⟩
        rw [← hs.out] at c1 c2 ⊢
        have C1 := Lib.hid c1
        have C2 := Lib.hid c2
        clear c1 c2 hr0 hr1 e2
        go_wp2_with (first | (go_at_call 38; (with_reducible refine C1.out.mono ?_); rintro e w' ⟨rfl, rfl⟩) | (go_at_call 38; (with_reducible refine C2.out.mono ?_); rintro e w' ⟨rfl, rfl⟩))
        go_ret
        exact ⟨rfl, HB.out⟩
end Go.Proofs.Ytohieonpegeokaa
