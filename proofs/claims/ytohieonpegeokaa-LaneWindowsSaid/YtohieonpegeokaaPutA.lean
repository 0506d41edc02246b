/- load.put at uint32: words' bytes, 4 each, the great end first. -/
import Derived.Test.YtohieonpegeokaaOwnSet
namespace Go.Proofs.Ytohieonpegeokaa
open Go.RowKit Go.Shelf
attribute [local go_sem] Oper.semAt_some

/-- byte j of the words f, 4 bytes each, the great end first -/
def putI32 (f : Nat → Nat) (j : Nat) : Int := ((f (j / 4) / 256 ^ (3 - j % 4) % 256 : Nat) : Int)
set_option maxRecDepth 100000 in
theorem put32_w (a : Option Addr) (n cap : Nat) (f : Nat → Nat) (w : World) (hn : n ≤ 100000) (hr : reads w a n .u32 (fun j => (f j : Int))) (hf : ∀ j, j < n → f j < 4294967296) :
    Calls Try.prog 72 #[.int .i64 4, .slice a n cap] w fun e w' => ∃ v, e = .returned v ∧ owns w' w.heap.size 5 .u8 v (n * 4) (putI32 f) ∧ Below w.heap.size w w' := by
  have HR := Lib.hid hr
  have HF := Lib.hid hf
  clear hr hf
  obtain ⟨hu, i0, z0, hi0, hz0, hs1, hs2, hs3⟩ := elt8w
  go_enter Try.func72, Try.ntmps72
  go_wp2_with (at_make; refine wpList_make_own _ rfl _ _ 41 rfl w.heap.size 5 i0 z0 1 hu hi0 hz0 hs1 _ _ _ (n * 4) rfl rfl (by omega) (by rw [hs2]; omega) (by unfold maxLen; omega) (by omega) ?_; intro w1 ho1 hg1)
  have HO1 : Hid (owns w1 w.heap.size 5 .u8 (.slice (some ⟨w.heap.size, 0, none⟩) 0 (n * 4)) 0 (putI32 f)) := Lib.hid ho1
  have HB1 : Hid (Below w.heap.size w w1) := Lib.hid ((Below.refl _ w).grown hg1 (Nat.le_refl _) (by intro k hk; cases hk))
  clear ho1 hg1
  go_loopw [5, 16] (fun v i wr => ∃ k : Nat, k ≤ n ∧ i = .int .i64 k ∧ Hid (owns wr w.heap.size 5 .u8 v (k * 4) (putI32 f)) ∧ Hid (Below w.heap.size w wr)) (fun _ i _ => n - (intOf i).toNat)
  case atStart => exact ⟨0, by omega, rfl, Lib.hid (by rw [Nat.zero_mul]; exact HO1.out), HB1⟩
  case round =>
    obtain ⟨k, hk, rfl, HO, HB⟩ := hrel
    by_cases hlt : k < n
    · obtain ⟨b, off, rfl, hc⟩ := reads_below (Nat.le_refl _) HB.out HR.out (by omega)
      have hcell := hc k hlt
      have hfk := HF.out k hlt
      clear hc
      obtain ⟨x, hx⟩ : ∃ x, Hid (x = f k) := ⟨_, Lib.hid rfl⟩
      simp only [← hx.out] at hcell hfk
      go_wp2
      clear hcell
      go_loopw [5, 8] (fun v i wr => ∃ m : Nat, m ≤ 4 ∧ i = .int .i64 ((m : Int) - 1) ∧ Hid (owns wr w.heap.size 5 .u8 v (k * 4 + (4 - m)) (putI32 f)) ∧ Hid (Below w.heap.size w wr)) (fun _ i _ => (intOf i + 1).toNat)
      case atStart => exact ⟨4, by omega, rfl, HO, HB⟩
      case round =>
        clear HO HB
        obtain ⟨m', hm, rfl, HO, HB⟩ := hrel
        cases m' with
        | zero =>
          go_wp2
          go_roundw
          case rel => exact ⟨k + 1, by omega, by go_num, Lib.hid (by rw [Nat.succ_mul]; exact HO.out), HB⟩
          case measure => simp [intOf]; omega
        | succ m =>
          have e : ((m + 1 : Nat) : Int) - 1 = (m : Int) := by omega
          rw [e]
          clear e
          go_wp2_with (at_builtin; refine append_one elt8w rfl (.tmp 26) (.tmp 32) rfl rfl HO.out rfl rfl (by unfold maxLen; omega) (by omega) (by have := HB.out.size; omega) ?_; intro v' w2 hown hbl)
          go_roundw
          case rel =>
            refine ⟨m, by omega, by go_num, Lib.hid ?_, Lib.hid (HB.out.trans hbl)⟩
            rw [show k * 4 + (4 - m) = k * 4 + (4 - (m + 1)) + 1 by omega]
            refine owns_ext (fun j hj => ?_) hown
            by_cases h : j < k * 4 + (4 - (m + 1))
            · rw [if_pos h]
            · obtain rfl : j = k * 4 + (3 - m) := by omega
              rw [if_neg h]
              unfold putI32
              rw [show (k * 4 + (3 - m)) / 4 = k by omega, show 3 - (k * 4 + (3 - m)) % 4 = m by omega, ← hx.out]
              exact byte_shr x m
          case measure => first | (simp [intOf]; done) | (simp [intOf]; omega)
    · obtain rfl : n = k := by omega
      go_wp2
      go_ret
      exact ⟨_, rfl, HO.out, HB.out⟩
end Go.Proofs.Ytohieonpegeokaa
