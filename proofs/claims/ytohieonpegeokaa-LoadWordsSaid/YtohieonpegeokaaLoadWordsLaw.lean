/- The walk of the law LoadWords. -/
import Derived.Test.YtohieonpegeokaaLoad
namespace Go.Proofs.Ytohieonpegeokaa
open Go.RowKit Go.Shelf

set_option maxRecDepth 100000 in
set_option maxHeartbeats 2000000 in
theorem loadWords_walk (a : Option Addr) (n cap : Nat) (f : Nat → Int) (w : World) (hn : n ≤ maxLen) (hr : reads w a n .u8 f) (hf : ∀ j, j < n → 0 ≤ f j ∧ f j < 256) (hcap : n ≤ cap) :
    Calls Try.prog 11 #[.slice a n cap] w fun e w' => e = .returned (.bool true) ∧ Below w.heap.size w w' := by
  unfold maxLen at hn
  have HF := Lib.hid hf
  have HR := Lib.hid hr
  have HC := Lib.hid hcap
  have HW := Lib.hid (bl_refl w)
  clear hf hr hcap
  by_cases hbig : 1000 < n
  · go_enter Try.func11, Try.ntmps11
    go_wp2_with (go_at_call 39; refine (wakes_w _).mono ?_; rintro e w1 ⟨rfl, hb⟩)
    go_ret
    exact ⟨rfl, hb⟩
  · have hsmall : n ≤ 1000 := by omega
    clear hbig
    obtain ⟨m, hm⟩ : ∃ m, Hid (m = n / 4) := ⟨_, Lib.hid rfl⟩
    have hmn : m ≤ n := by rw [hm.out]; exact Nat.div_le_self _ _
    have B4 : Hid (∀ w', Below w.heap.size w w' → Calls Try.prog 42 #[.slice a n cap, .int .i64 4] w' fun e w'' => ∃ v, e = .returned v ∧ owns w'' w'.heap.size 29 .u64 v m (fun j => beN f (j * 4) 4) ∧ Below w'.heap.size w' w'') :=
      Lib.hid (fun w' h => by rw [hm.out]; exact rbig64_w a n cap 4 (by omega) (by omega) f _ (by omega) (reads_below (Nat.le_refl _) h HR.out) HF.out)
    have B8 : Hid (∀ w', Below w.heap.size w w' → Calls Try.prog 42 #[.slice a n cap, .int .i64 8] w' fun e w'' => ∃ v, e = .returned v ∧ owns w'' w'.heap.size 29 .u64 v (n / 8) (fun j => beN f (j * 8) 8) ∧ Below w'.heap.size w' w'') :=
      Lib.hid (fun w' h => rbig64_w a n cap 8 (by omega) (by omega) f _ (by omega) (reads_below (Nat.le_refl _) h HR.out) HF.out)
    go_enter Try.func11, Try.ntmps11
    go_wp2_with (first | (go_at_call 39; refine (wakes_w _).mono ?_; rintro e w1 ⟨rfl, hb⟩; have HWn := Lib.hid (bl_call HW.out hb); clear HW hb; have HW := HWn; clear HWn) | (go_at_call 40; refine (big32_w a n cap f _ (by omega) HC.out (reads_below (Nat.le_refl _) HW.out HR.out) HF.out).mono ?_; rintro e w2 ⟨v, rfl, ho, hb⟩; rw [← hm.out] at ho; obtain ⟨a2, c2, rfl, _, _, hr2⟩ := owns_reads ho; have HR2 := Lib.hid hr2; clear ho hr2; have HWn := Lib.hid (bl_call HW.out hb); clear HW hb; have HW := HWn; clear HWn))
    go_loopw [3, 14] (fun v i wr => ∃ k : Nat, k ≤ m ∧ i = .int .i64 k ∧ Hid (owns wr w2.heap.size 29 .u64 v k (fun j => beN f (j * 4) 4)) ∧ Hid (Below w2.heap.size w2 wr)) (fun _ i _ => m - (intOf i).toNat)
    case atStart => exact ⟨0, by omega, rfl, Lib.hid (owns_nil _ _ _ _ _), Lib.hid (bl_refl _)⟩
    case round =>
      obtain ⟨k, hk, rfl, HO, HB⟩ := hrel
      by_cases hlt : k < m
      · obtain ⟨b, off, rfl, hc⟩ := reads_below (Nat.le_refl _) HB.out HR2.out (by omega)
        have hcell := hc k hlt
        have hkn : k * 4 + 4 ≤ n := by have := hm.out; omega
        obtain ⟨x0, x1⟩ := beN_bd f (k * 4) 4 (fun i hi => HF.out _ (by omega))
        obtain ⟨y, hy⟩ : ∃ y, Hid (y = beN f (k * 4) 4) := ⟨_, Lib.hid rfl⟩
        simp only [← hy.out] at hcell x0 x1
        clear hc
        go_wp2_with (at_builtin; refine append_one elt64r rfl (.tmp 18) (.tmp 21) rfl rfl HO.out rfl rfl (by unfold maxLen; omega) (by omega) (by have := HB.out.size; omega) ?_; intro v' w3 hown hbl)
        go_roundw
        case rel =>
          refine ⟨k + 1, by omega, by go_num, Lib.hid ?_, Lib.hid (HB.out.trans hbl)⟩
          refine owns_ext (fun i hi => ?_) hown
          by_cases h : i < k
          · rw [if_pos h]
          · obtain rfl : i = k := by omega
            rw [if_neg h, ← hy.out]
            try omega
        case measure => simp [intOf]; omega
      · obtain rfl : m = k := by omega
        obtain ⟨a3, c3, rfl, _, _, hr3⟩ := owns_reads HO.out
        have HR3 := Lib.hid hr3
        have HWn := Lib.hid (bl_call HW.out HB.out)
        clear HW HB HO hr3
        have HW := HWn
        clear HWn
        go_wp2_with (first | (go_at_call 42; (with_reducible refine (B4.out _ HW.out).mono ?_); rintro e w4 ⟨v, rfl, ho, hb⟩; obtain ⟨a4, c4, rfl, _, _, hr4⟩ := owns_reads ho; have HR4 := Lib.hid hr4; have HX := Lib.hid (reads_below (Nat.le_refl _) hb HR3.out); clear HR3 ho hr4; have HR3 := HX; clear HX; have HWn := Lib.hid (bl_call HW.out hb); clear HW hb; have HW := HWn; clear HWn) | (go_at_call 42; (with_reducible refine (B8.out _ HW.out).mono ?_); rintro e w4 ⟨v, rfl, ho, hb⟩; obtain ⟨a4, c4, rfl, _, _, hr4⟩ := owns_reads ho; have HR4 := Lib.hid hr4; have HX := Lib.hid (reads_below (Nat.le_refl _) hb HR3.out); clear HR3 ho hr4; have HR3 := HX; clear HX; have HWn := Lib.hid (bl_call HW.out hb); clear HW hb; have HW := HWn; clear HWn) | (go_at_call 43; refine (big64_w a n cap f _ (by omega) HC.out (reads_below (Nat.le_refl _) HW.out HR.out) HF.out).mono ?_; rintro e w4 ⟨v, rfl, ho, hb⟩; obtain ⟨a3, c3, rfl, _, _, hr3⟩ := owns_reads ho; have HR3 := Lib.hid hr3; clear ho hr3; have HWn := Lib.hid (bl_call HW.out hb); clear HW hb; have HW := HWn; clear HWn) | (go_at_call 44; refine (little64_w a n cap f _ (by omega) (reads_below (Nat.le_refl _) HW.out HR.out) HF.out).mono ?_; rintro e w4 ⟨v, rfl, ho, hb⟩; obtain ⟨a3, c3, rfl, _, _, hr3⟩ := owns_reads ho; have HR3 := Lib.hid hr3; clear ho hr3; have HWn := Lib.hid (bl_call HW.out hb); clear HW hb; have HW := HWn; clear HWn) | (go_at_call 45; refine (rlittle64_w a n cap f _ (by omega) (reads_below (Nat.le_refl _) HW.out HR.out) HF.out).mono ?_; rintro e w4 ⟨v, rfl, ho, hb⟩; obtain ⟨a4, c4, rfl, _, _, hr4⟩ := owns_reads ho; have HR4 := Lib.hid hr4; have HX := Lib.hid (reads_below (Nat.le_refl _) hb HR3.out); clear HR3 ho hr4; have HR3 := HX; clear HX; have HWn := Lib.hid (bl_call HW.out hb); clear HW hb; have HW := HWn; clear HWn) | (go_at_call 41; refine (same64_w a3 a4 _ c3 c4 _ _ (fun j _ => rfl) _ (by unfold maxLen; omega) HR3.out HR4.out).mono ?_; rintro e w5 ⟨rfl, hb⟩; have HWn := Lib.hid (bl_call HW.out hb); clear HW hb HR3 HR4; have HW := HWn; clear HWn))
        go_ret
        exact ⟨rfl, HW.out⟩
end Go.Proofs.Ytohieonpegeokaa
