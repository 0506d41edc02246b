/- The reference of layer 3 (load). -/
import Derived.Test.YtohieonpegeokaaBytes
import Derived.Test.YtohieonpegeokaaRange
namespace Go.Proofs.Ytohieonpegeokaa
open Go.RowKit Go.Shelf

theorem elt64r : EltT Try.prog 38 29 8 := elt_of (k := .u64) Try.underlying38 (by kernel_rfl)

/-- a word's bytes, the little end first -/
theorem little_w (x : Nat) (hx : x < 18446744073709551616) (sz : Nat) (hsz : sz ≤ 8) (w : World) :
    Calls Try.prog 50 #[.int .u64 x, .int .i64 sz] w fun e w' => ∃ v, e = .returned v ∧ owns w' w.heap.size 5 .u8 v sz (fun j => ((x / 256 ^ j % 256 : Nat) : Int)) ∧ Below w.heap.size w w' := by
  obtain ⟨B, hB⟩ : ∃ B, Hid (B = w.heap.size) := ⟨_, Lib.hid rfl⟩
  go_enter Try.func50, Try.ntmps50
  go_wp2
  go_loopw [0, 5, 6] (fun y v i wr => ∃ k : Nat, k ≤ sz ∧ y = .int .u64 (x / 256 ^ k : Nat) ∧ i = .int .i64 k ∧ Hid (owns wr w.heap.size 5 .u8 v k (fun j => ((x / 256 ^ j % 256 : Nat) : Int))) ∧ Hid (Below w.heap.size w wr)) (fun _ _ i _ => sz - (intOf i).toNat)
  case atStart => exact ⟨0, by omega, by simp, rfl, Lib.hid (owns_nil _ _ _ _ _), Lib.hid (Below.refl _ _)⟩
  case round =>
    obtain ⟨k, hk, rfl, rfl, HO, HB⟩ := hrel
    by_cases hlt : k < sz
    · have hy : x / 256 ^ k < 18446744073709551616 := Nat.lt_of_le_of_lt (Nat.div_le_self _ _) hx
      obtain ⟨y, ey⟩ : ∃ y, Hid (y = x / 256 ^ k) := ⟨_, Lib.hid rfl⟩
      rw [← ey.out] at hy ⊢
      go_wp2_with (at_builtin; refine append_one elt8w rfl (.tmp 12) (.tmp 16) rfl rfl HO.out rfl rfl (by unfold maxLen; omega) (by omega) (by have := HB.out.size; omega) ?_; intro v' w1 hown hbl)
      go_roundw
      case rel =>
        refine ⟨k + 1, by omega, ?_, by go_num, Lib.hid ?_, Lib.hid (HB.out.trans (hbl.mono (by omega)))⟩
        · have e2 : x / 256 ^ (k + 1) = y / 256 := by rw [ey.out, Nat.div_div_eq_div_mul, Nat.pow_succ]
          rw [e2]
          rfl
        · refine owns_ext (fun j hj => ?_) hown
          by_cases h : j < k
          · rw [if_pos h]
          · obtain rfl : j = k := by omega
            rw [if_neg h, ← ey.out]
            rfl
      case measure => simp [intOf]; omega
    · obtain rfl : sz = k := by omega
      go_wp2
      go_ret
      exact ⟨_, rfl, HO.out, HB.out⟩

set_option maxRecDepth 100000 in
/-- a word's bytes, the great end first -/
theorem big_w (x : Nat) (hx : x < 18446744073709551616) (sz : Nat) (hsz : sz ≤ 8) (w : World) :
    Calls Try.prog 49 #[.int .u64 x, .int .i64 sz] w fun e w' => ∃ v, e = .returned v ∧ owns w' w.heap.size 5 .u8 v sz (fun j => ((x / 256 ^ (sz - 1 - j) % 256 : Nat) : Int)) ∧ Below w.heap.size w w' := by
  go_enter Try.func49, Try.ntmps49
  go_wp2_with (go_at_call 50; refine (little_w x hx sz hsz _).mono ?_; rintro e w1 ⟨v1, rfl, ho1, hb1⟩)
  obtain ⟨a1, c1, rfl, _, _, hr1⟩ := owns_reads ho1
  have HO1 := Lib.hid ho1
  have HB1 := Lib.hid hb1
  have HR := Lib.hid (fun h => hr1 h)
  clear ho1 hb1 hr1
  go_wp2
  go_loopw [6, 7] (fun v i wr => ∃ k : Nat, k ≤ sz ∧ i = .int .i64 ((k : Int) - 1) ∧ Hid (owns wr w1.heap.size 5 .u8 v (sz - k) (fun j => ((x / 256 ^ (sz - 1 - j) % 256 : Nat) : Int))) ∧ Hid (Below w1.heap.size w1 wr)) (fun _ i _ => (intOf i + 1).toNat)
  case atStart => exact ⟨sz, by omega, rfl, Lib.hid (by rw [Nat.sub_self]; exact owns_nil _ _ _ _ _), Lib.hid (Below.refl _ _)⟩
  case round =>
    obtain ⟨k, hk, rfl, HO, HB⟩ := hrel
    cases k with
    | zero =>
      go_wp2
      go_ret
      exact ⟨_, rfl, owns_base HB1.out.size HO.out, HB1.out.trans (HB.out.mono HB1.out.size)⟩
    | succ m =>
      have e : ((m + 1 : Nat) : Int) - 1 = (m : Int) := by omega
      rw [e]
      clear e
      obtain ⟨b, off, rfl, hc⟩ := reads_below (Nat.le_refl _) HB.out HR.out (by omega)
      have hcell := hc m (by omega)
      clear hc
      go_wp2_with (at_builtin; refine append_one elt8w rfl (.tmp 17) (.tmp 22) rfl rfl HO.out rfl rfl (by unfold maxLen; omega) (by omega) HB.out.size ?_; intro v' w2 hown hbl)
      go_roundw
      case rel =>
        refine ⟨m, by omega, by go_num, Lib.hid ?_, Lib.hid (HB.out.trans hbl)⟩
        rw [show sz - m = sz - (m + 1) + 1 by omega]
        refine owns_ext (fun j hj => ?_) hown
        by_cases h : j < sz - (m + 1)
        · rw [if_pos h]
        · rw [if_neg h, show sz - 1 - j = m by omega]
          norm_cast
      case measure => first | (simp [intOf]; done) | (simp [intOf]; omega)

set_option maxRecDepth 100000 in
/-- the same bytes: where they are -/
theorem same8_w (a b : Option Addr) (n c c' : Nat) (f g : Nat → Int) (hfg : ∀ j, j < n → f j = g j) (w : World) (hn : n ≤ maxLen) (hr : reads w a n .u8 f) (hr2 : reads w b n .u8 g) :
    Calls Try.prog 51 #[.slice a n c, .slice b n c'] w fun e w' => e = .returned (.bool true) ∧ Below w.heap.size w w' := by
  unfold maxLen at hn
  have HR := Lib.hid hr
  have HR2 := Lib.hid (reads_ext (fun j hj => (hfg j hj).symm) hr2)
  clear hr hr2 hfg
  go_enter Try.func51, Try.ntmps51
  go_wp2
  go_loopw [5] (fun i wr => ∃ k : Nat, k ≤ n ∧ i = .int .i64 k ∧ Hid (Below w.heap.size w wr)) (fun i _ => n - (intOf i).toNat)
  case atStart => exact ⟨0, by omega, rfl, Lib.hid (Below.refl _ _)⟩
  case round =>
    obtain ⟨k, hk, rfl, HB⟩ := hrel
    by_cases hlt : k < n
    · obtain ⟨b1, o1, rfl, hc1⟩ := reads_below (Nat.le_refl _) HB.out HR.out (by omega)
      obtain ⟨b2, o2, rfl, hc2⟩ := reads_below (Nat.le_refl _) HB.out HR2.out (by omega)
      have hcell1 := hc1 k hlt
      have hcell2 := hc2 k hlt
      clear hc1 hc2
      go_wp2_with fail
      go_region
      go_wp2
      go_roundw
      case rel => exact ⟨k + 1, by omega, by go_num, Lib.hid HB.out.drew⟩
      case measure => simp [intOf]; omega
    · obtain rfl : n = k := by omega
      go_wp2
      go_ret
      exact ⟨rfl, HB.out⟩

set_option maxRecDepth 100000 in
/-- the same words: where they are -/
theorem same64_w (a b : Option Addr) (n c c' : Nat) (f g : Nat → Int) (hfg : ∀ j, j < n → f j = g j) (w : World) (hn : n ≤ maxLen) (hr : reads w a n .u64 f) (hr2 : reads w b n .u64 g) :
    Calls Try.prog 41 #[.slice a n c, .slice b n c'] w fun e w' => e = .returned (.bool true) ∧ Below w.heap.size w w' := by
  unfold maxLen at hn
  have HR := Lib.hid hr
  have HR2 := Lib.hid (reads_ext (fun j hj => (hfg j hj).symm) hr2)
  clear hr hr2 hfg
  go_enter Try.func41, Try.ntmps41
  go_wp2
  go_loopw [5] (fun i wr => ∃ k : Nat, k ≤ n ∧ i = .int .i64 k ∧ Hid (Below w.heap.size w wr)) (fun i _ => n - (intOf i).toNat)
  case atStart => exact ⟨0, by omega, rfl, Lib.hid (Below.refl _ _)⟩
  case round =>
    obtain ⟨k, hk, rfl, HB⟩ := hrel
    by_cases hlt : k < n
    · obtain ⟨b1, o1, rfl, hc1⟩ := reads_below (Nat.le_refl _) HB.out HR.out (by omega)
      obtain ⟨b2, o2, rfl, hc2⟩ := reads_below (Nat.le_refl _) HB.out HR2.out (by omega)
      have hcell1 := hc1 k hlt
      have hcell2 := hc2 k hlt
      clear hc1 hc2
      go_wp2_with fail
      go_region
      go_wp2
      go_roundw
      case rel => exact ⟨k + 1, by omega, by go_num, Lib.hid HB.out.drew⟩
      case measure => simp [intOf]; omega
    · obtain rfl : n = k := by omega
      go_wp2
      go_ret
      exact ⟨rfl, HB.out⟩

set_option maxRecDepth 100000 in
theorem rbig64_w (a : Option Addr) (len cap sz : Nat) (h1 : 1 ≤ sz) (h8 : sz ≤ 8) (f : Nat → Int) (w : World) (hlen : len ≤ 1000000) (hr : reads w a len .u8 f) (hf : ∀ j, j < len → 0 ≤ f j ∧ f j < 256) :
    Calls Try.prog 42 #[.slice a len cap, .int .i64 sz] w fun e w' => ∃ v, e = .returned v ∧ owns w' w.heap.size 29 .u64 v (len / sz) (fun j => beN f (j * sz) sz) ∧ Below w.heap.size w w' := by
  have HR := Lib.hid hr
  have HF := Lib.hid hf
  clear hr hf
  obtain ⟨n, hn⟩ : ∃ n, Hid (n = len / sz) := ⟨_, Lib.hid rfl⟩
  rw [← hn.out]
  have hnl : n ≤ len := by rw [hn.out]; exact Nat.div_le_self _ _
  have hn1 : ∀ k, k * sz + sz ≤ len ↔ k < n := fun k => by
    rw [hn.out, ← Nat.succ_le_iff, Nat.le_div_iff_mul_le (by omega), Nat.succ_mul]
  have HN := Lib.hid hn1
  clear hn1
  go_enter Try.func42, Try.ntmps42
  go_wp2
  go_loopw [5, 6] (fun v i wr => ∃ k q : Nat, k ≤ n ∧ Hid (q = k * sz) ∧ q ≤ len ∧ i = .int .i64 q ∧ Hid (owns wr w.heap.size 29 .u64 v k (fun j => beN f (j * sz) sz)) ∧ Hid (Below w.heap.size w wr)) (fun _ i _ => len + 1 - (intOf i).toNat)
  case atStart => exact ⟨0, 0, by omega, Lib.hid (by simp), by omega, rfl, Lib.hid (owns_nil _ _ _ _ _), Lib.hid (Below.refl _ _)⟩
  case round =>
    obtain ⟨k, q, hk, hq, hql, rfl, HO, HB⟩ := hrel
    by_cases hlt : q + sz ≤ len
    · have hkn : k < n := (HN.out k).1 (by rw [← hq.out]; exact hlt)
      obtain ⟨b, off, rfl, hc⟩ := reads_below (Nat.le_refl _) HB.out HR.out (by omega)
      have HC := Lib.hid hc
      clear hc
      go_wp2
      go_loop [7, 8] (fun u i => ∃ j : Nat, j ≤ sz ∧ i = .int .i64 j ∧ u = .int .u64 (beN f q j)) (fun _ i => sz - (intOf i).toNat)
      case atStart => exact ⟨0, by omega, rfl, rfl⟩
      case round =>
        obtain ⟨j, hj, rfl, rfl⟩ := hrel
        by_cases hlt2 : j < sz
        · have hcell := HC.out (q + j) (by omega)
          obtain ⟨c0, c1⟩ := HF.out (q + j) (by omega)
          obtain ⟨x0, x1⟩ := beN_bd f q j (fun i hi => HF.out (q + i) (by omega))
          have x2 : (256 : Int) ^ j ≤ 256 ^ 7 := pow256_le (by omega)
          have hstep : Hid (IntKind.u64.wrap (IntKind.u64.wrap (beN f q j * 256) + f (q + j)) = beN f q (j + 1)) := Lib.hid (by rw [IntKind.wrap_u64, IntKind.wrap_u64]; simp only [beN]; omega)
          clear x1 x2
          go_wp2
          go_round
          case rel => exact ⟨j + 1, by omega, by go_num, congrArg (Value.int .u64) hstep.out⟩
          case measure => simp [intOf]; omega
        · obtain rfl : sz = j := by omega
          go_wp2_with (at_builtin; refine append_one elt64r rfl (.tmp 33) (.tmp 35) rfl rfl HO.out rfl rfl (by unfold maxLen; omega) (by omega) (by have := HB.out.size; omega) ?_; intro v' w1 hown hbl)
          go_roundw
          case rel =>
            refine ⟨k + 1, q + sz, by omega, Lib.hid (by rw [hq.out, Nat.succ_mul]), hlt, by go_num, Lib.hid ?_, Lib.hid (HB.out.trans hbl)⟩
            refine owns_ext (fun i hi => ?_) hown
            by_cases h : i < k
            · rw [if_pos h]
            · obtain rfl : i = k := by omega
              rw [if_neg h, hq.out]
          case measure => simp [intOf]; omega
    · obtain rfl : n = k := by
        have h := HN.out k
        rw [← hq.out] at h
        omega
      go_wp2
      go_ret
      exact ⟨_, rfl, HO.out, HB.out⟩

/-- from the right end -/
def leN (f : Nat → Int) (q : Nat) : Nat → Int := beN (fun i => f (q + (7 - i))) 0
set_option maxRecDepth 100000 in
theorem rlittle64_w (a : Option Addr) (len cap : Nat) (f : Nat → Int) (w : World) (hlen : len ≤ 1000000) (hr : reads w a len .u8 f) (hf : ∀ j, j < len → 0 ≤ f j ∧ f j < 256) :
    Calls Try.prog 45 #[.slice a len cap] w fun e w' => ∃ v, e = .returned v ∧ owns w' w.heap.size 29 .u64 v (len / 8) (fun j => leN f (j * 8) 8) ∧ Below w.heap.size w w' := by
  have HR := Lib.hid hr
  have HF := Lib.hid hf
  clear hr hf
  go_enter Try.func45, Try.ntmps45
  go_wp2
  go_loopw [3, 4] (fun v i wr => ∃ k : Nat, k * 8 ≤ len ∧ i = .int .i64 ((k : Int) * 8) ∧ Hid (owns wr w.heap.size 29 .u64 v k (fun j => leN f (j * 8) 8)) ∧ Hid (Below w.heap.size w wr)) (fun _ i _ => len + 1 - (intOf i).toNat)
  case atStart => exact ⟨0, by omega, rfl, Lib.hid (owns_nil _ _ _ _ _), Lib.hid (Below.refl _ _)⟩
  case round =>
    obtain ⟨k, hk, rfl, HO, HB⟩ := hrel
    by_cases hlt : k * 8 + 8 ≤ len
    · obtain ⟨b, off, rfl, hc⟩ := reads_below (Nat.le_refl _) HB.out HR.out (by omega)
      have HC := Lib.hid hc
      clear hc
      go_wp2
      go_loop [5, 6] (fun u i => ∃ j : Nat, j ≤ 8 ∧ i = .int .i64 (7 - (j : Int)) ∧ u = .int .u64 (leN f (k * 8) j)) (fun _ i => (1 + intOf i).toNat)
      case atStart => exact ⟨0, by omega, rfl, rfl⟩
      case round =>
        obtain ⟨j, hj, rfl, rfl⟩ := hrel
        by_cases hlt2 : j < 8
        · have hcell := HC.out (k * 8 + (7 - j)) (by omega)
          obtain ⟨c0, c1⟩ := HF.out (k * 8 + (7 - j)) (by omega)
          obtain ⟨x0, x1⟩ := beN_bd (fun i => f (k * 8 + (7 - i))) 0 j (fun i hi => HF.out _ (by omega))
          have x2 : (256 : Int) ^ j ≤ 256 ^ 7 := pow256_le (by omega)
          have hstep : Hid (IntKind.u64.wrap (IntKind.u64.wrap (leN f (k * 8) j * 256) + f (k * 8 + (7 - j))) = leN f (k * 8) (j + 1)) := Lib.hid (by rw [IntKind.wrap_u64, IntKind.wrap_u64]; simp only [leN, beN, Nat.zero_add]; omega)
          clear x1 x2
          obtain ⟨m, hm⟩ : ∃ m, Hid (m = 7 - j) := ⟨_, Lib.hid rfl⟩
          rw [← hm.out] at hcell c0 c1 hstep
          have hmj : m + j = 7 := by have := hm.out; omega
          rw [show (7 : Int) - (j : Int) = (m : Int) by omega]
          go_wp2
          go_round
          case rel => exact ⟨j + 1, by omega, by go_num, congrArg (Value.int .u64) hstep.out⟩
          case measure => simp [intOf]; omega
        · obtain rfl : j = 8 := by omega
          go_wp2_with (at_builtin; refine append_one elt64r rfl (.tmp 28) (.tmp 30) rfl rfl HO.out rfl rfl (by unfold maxLen; omega) (by omega) (by have := HB.out.size; omega) ?_; intro v' w1 hown hbl)
          go_roundw
          case rel =>
            refine ⟨k + 1, by omega, by go_num, Lib.hid ?_, Lib.hid (HB.out.trans hbl)⟩
            refine owns_ext (fun i hi => ?_) hown
            by_cases h : i < k
            · rw [if_pos h]
            · obtain rfl : i = k := by omega
              rw [if_neg h]
          case measure => simp [intOf]; omega
    · have hnk : len / 8 = k := by omega
      have HNK := Lib.hid hnk
      clear hnk
      go_wp2
      go_ret
      exact ⟨_, rfl, by rw [HNK.out]; exact HO.out, HB.out⟩

theorem xor_step (x y k : Nat) : (x ^^^ y) % 2 ^ (k + 1) = if x / 2 ^ k % 2 = y / 2 ^ k % 2 then (x ^^^ y) % 2 ^ k else (x ^^^ y) % 2 ^ k + 2 ^ k := by
  rw [Nat.mod_pow_succ, ← Nat.toNat_testBit, ← Nat.toNat_testBit, ← Nat.toNat_testBit, Nat.testBit_xor]
  cases x.testBit k <;> cases y.testBit k <;> simp
set_option maxRecDepth 100000 in
/-- one byte and another: the bits told apart by remainders -/
theorem rxor8_w (x y : Nat) (hx : x < 256) (hy : y < 256) (w : World) :
    Calls Try.prog 53 #[.int .u8 x, .int .u8 y] w fun e w' => e = .returned (.int .u8 (x ^^^ y : Nat)) ∧ w' = w := by
  have HX := Lib.hid (show x ^^^ y < 256 from Nat.xor_lt_two_pow (n := 8) hx hy)
  go_enter Try.func53, Try.ntmps53
  go_wp2
  go_loop [0, 1, 5, 6, 7] (fun a b c o i => ∃ k xk yk t z : Nat, k ≤ 8 ∧ Hid (xk = x / 2 ^ k) ∧ Hid (yk = y / 2 ^ k) ∧ Hid (t = 2 ^ k) ∧ Hid (z = (x ^^^ y) % 2 ^ k) ∧ xk < 256 ∧ yk < 256 ∧ z < t ∧ t ≤ 256 ∧
    a = .int .u8 xk ∧ b = .int .u8 yk ∧ c = .int .u8 z ∧ o = .int .u8 ((t : Int) % 256) ∧ i = .int .i64 k) (fun _ _ _ _ i => 8 - (intOf i).toNat)
  case atStart => exact ⟨0, x, y, 1, 0, by omega, Lib.hid (by simp), Lib.hid (by simp), Lib.hid rfl, Lib.hid (by simp [Nat.mod_one]), hx, hy, by omega, by omega, rfl, rfl, rfl, rfl, rfl⟩
  case round =>
    obtain ⟨k, xk, yk, t, z, hk, ex, ey, et, ez, hxk, hyk, hzt, ht, rfl, rfl, rfl, rfl, rfl⟩ := hrel
    by_cases hlt : k < 8
    · have ht2 : t ≤ 128 := by
        rw [et.out]
        exact Nat.le_trans (Nat.pow_le_pow_right (by omega) (show k ≤ 7 by omega)) (by omega)
      have hs := xor_step x y k
      rw [← ex.out, ← ey.out, ← ez.out, ← et.out] at hs
      have HS := Lib.hid hs
      clear hs
      by_cases hb : xk % 2 = yk % 2
      · have hb2 : (xk : Int) % 2 = (yk : Int) % 2 := by omega
        go_wp2
        go_round
        case rel =>
          refine ⟨k + 1, xk / 2, yk / 2, t * 2, z, by omega, Lib.hid (by rw [ex.out, Nat.div_div_eq_div_mul, Nat.pow_succ]), Lib.hid (by rw [ey.out, Nat.div_div_eq_div_mul, Nat.pow_succ]), Lib.hid (by rw [et.out, Nat.pow_succ]), Lib.hid (by rw [HS.out, if_pos hb]), by omega, by omega, by omega, by omega, by go_num, by go_num, rfl, by go_num, by go_num⟩
        case measure => simp [intOf]; omega
      · have hb2 : ¬ (xk : Int) % 2 = (yk : Int) % 2 := by omega
        go_wp2
        go_round
        case rel =>
          refine ⟨k + 1, xk / 2, yk / 2, t * 2, z + t, by omega, Lib.hid (by rw [ex.out, Nat.div_div_eq_div_mul, Nat.pow_succ]), Lib.hid (by rw [ey.out, Nat.div_div_eq_div_mul, Nat.pow_succ]), Lib.hid (by rw [et.out, Nat.pow_succ]), Lib.hid (by rw [HS.out, if_neg hb]), by omega, by omega, by omega, by omega, by go_num, by go_num, by go_num, by go_num, by go_num⟩
        case measure => simp [intOf]; omega
    · obtain rfl : k = 8 := by omega
      have hz : z = x ^^^ y := by
        rw [ez.out]
        exact Nat.mod_eq_of_lt HX.out
      rw [← hz]
      go_wp2
      go_ret
      exact ⟨rfl, rfl⟩
end Go.Proofs.Ytohieonpegeokaa
