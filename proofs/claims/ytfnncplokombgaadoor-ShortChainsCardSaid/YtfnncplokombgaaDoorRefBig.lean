/- The reference's Big64: bytes' words. Written by gen_kit2.py. -/
import Derived.Test.YtfnncplokombgaaDoorKit2
namespace Go.Proofs.YtfnncplokombgaaDoor
open Go.RowKit Go.Shelf

theorem elt64r : EltT Tryd.prog 40 42 8 := elt_of (k := .u64) Tryd.underlying40 (by kernel_rfl)
set_option maxRecDepth 100000 in
theorem rwords64_w (a : Option Addr) (len cap sz : Nat) (h1 : 1 ≤ sz) (h8 : sz ≤ 8) (f : Nat → Int) (w : World) (hlen : len ≤ 1000000) (hr : reads w a len .u8 f) (hf : ∀ j, j < len → 0 ≤ f j ∧ f j < 256) :
    Calls Tryd.prog 17 #[.slice a len cap, .int .i64 sz] w fun e w' => ∃ v, e = .returned v ∧ owns w' w.heap.size 42 .u64 v (len / sz) (fun j => beN f (j * sz) sz) ∧ Below w.heap.size w w' := by
  have HR := Lib.hid hr
  have HF := Lib.hid hf
  clear hr hf
  obtain ⟨n, hn⟩ : ∃ n, Hid (n = len / sz) := ⟨_, Lib.hid rfl⟩
  rw [← hn.out]
  have hnl : n ≤ len := by rw [hn.out]; exact Nat.div_le_self _ _
  have hn1 : ∀ k, k * sz + sz ≤ len ↔ k < n := fun k => by
    rw [hn.out, ← Nat.succ_le_iff, Nat.le_div_iff_mul_le (by omega), Nat.succ_mul]
  have HN := Lib.hid hn1
  clear hn1
  go_enter Tryd.func17, Tryd.ntmps17
  go_wp2
  go_loopw [5, 6] (fun v i wr => ∃ k q : Nat, k ≤ n ∧ Hid (q = k * sz) ∧ q ≤ len ∧ i = .int .i64 q ∧ Hid (owns wr w.heap.size 42 .u64 v k (fun j => beN f (j * sz) sz)) ∧ Hid (Below w.heap.size w wr)) (fun _ i _ => len + 1 - (intOf i).toNat)
  case atStart => exact ⟨0, 0, by omega, Lib.hid (by simp), by omega, rfl, Lib.hid (owns_nil _ _ _ _ _), Lib.hid (Below.refl _ _)⟩
  case round =>
    obtain ⟨k, q, hk, hq, hql, rfl, HO, HB⟩ := hrel
    by_cases hlt : q + sz ≤ len
    · have hkn : k < n := (HN.out k).1 (by rw [← hq.out]; exact hlt)
      obtain ⟨b, off, rfl, hc⟩ := reads_below (Nat.le_refl _) HB.out HR.out (by omega)
      have HC := Lib.hid hc
      clear hc
      go_wp2
      go_loop [7, 8] (fun u i => ∃ j : Nat, j ≤ sz ∧ i = .int .i64 j ∧ u = .int .u64 (beN f q j)) (fun _ i => sz - (intOf i).toNat)
      case atStart => exact ⟨0, by omega, rfl, rfl⟩
      case round =>
        obtain ⟨j, hj, rfl, rfl⟩ := hrel
        by_cases hlt2 : j < sz
        · have hcell := HC.out (q + j) (by omega)
          obtain ⟨c0, c1⟩ := HF.out (q + j) (by omega)
          obtain ⟨x0, x1⟩ := beN_bd f q j (fun i hi => HF.out (q + i) (by omega))
          have x2 : (256 : Int) ^ j ≤ 256 ^ 7 := pow256_le (by omega)
          have hstep : Hid (IntKind.u64.wrap (IntKind.u64.wrap (beN f q j * 256) + f (q + j)) = beN f q (j + 1)) := Lib.hid (by rw [IntKind.wrap_u64, IntKind.wrap_u64]; simp only [beN]; omega)
          clear x1 x2
          go_wp2
          go_round
          case rel => exact ⟨j + 1, by omega, by go_num, congrArg (Value.int .u64) hstep.out⟩
          case measure => simp [intOf]; omega
        · obtain rfl : sz = j := by omega
          go_wp2_with (at_builtin; refine append_one elt64r rfl (.tmp 33) (.tmp 35) rfl rfl HO.out rfl rfl (by unfold maxLen; omega) (by omega) (by have := HB.out.size; omega) ?_; intro v' w1 hown hbl)
          go_roundw
          case rel =>
            refine ⟨k + 1, q + sz, by omega, Lib.hid (by rw [hq.out, Nat.succ_mul]), hlt, by go_num, Lib.hid ?_, Lib.hid (HB.out.trans hbl)⟩
            refine owns_ext (fun i hi => ?_) hown
            by_cases h : i < k
            · rw [if_pos h]
            · obtain rfl : i = k := by omega
              rw [if_neg h, hq.out]
          case measure => simp [intOf]; omega
    · obtain rfl : n = k := by
        have h := HN.out k
        rw [← hq.out] at h
        omega
      go_wp2
      go_ret
      exact ⟨_, rfl, HO.out, HB.out⟩
end Go.Proofs.YtfnncplokombgaaDoor
