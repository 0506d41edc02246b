/- Contracts of the reference of layer 1 (word, bit by bit): Bits, Of, Turn, Shift, Ch, Maj. -/
import Derived.Test.YtfnncplokombgaaDoorVals
import Derived.Test.YtfnncplokombgaaDoorProg
namespace Go.Proofs.YtfnncplokombgaaDoor
open Go.RowKit Bt
attribute [local go_sem] vals_set vals_get? vals_get vals_size rowAt_at rowAt_past hasRow_at hasRow_past run_loadRow run_storeCells_row setRow_at setRow_past rowAt_drewN hasRow_drewN setRow_drewN alloc_drewN setCell_drewN lt_s2 lt_s3 lt_s4 lt_s5 lt_s6
attribute [local go_sem ↓] loadRow_is

theorem zero32b : (#[Value.int IntKind.i64 0, Value.int IntKind.i64 0, Value.int IntKind.i64 0, Value.int IntKind.i64 0, Value.int IntKind.i64 0, Value.int IntKind.i64 0, Value.int IntKind.i64 0, Value.int IntKind.i64 0, Value.int IntKind.i64 0, Value.int IntKind.i64 0, Value.int IntKind.i64 0, Value.int IntKind.i64 0, Value.int IntKind.i64 0, Value.int IntKind.i64 0, Value.int IntKind.i64 0, Value.int IntKind.i64 0, Value.int IntKind.i64 0, Value.int IntKind.i64 0, Value.int IntKind.i64 0, Value.int IntKind.i64 0, Value.int IntKind.i64 0, Value.int IntKind.i64 0, Value.int IntKind.i64 0, Value.int IntKind.i64 0, Value.int IntKind.i64 0, Value.int IntKind.i64 0, Value.int IntKind.i64 0, Value.int IntKind.i64 0, Value.int IntKind.i64 0, Value.int IntKind.i64 0, Value.int IntKind.i64 0, Value.int IntKind.i64 0] : Array Value) = vals .i64 32 (fun _ => 0) := rfl
theorem arr32b : ArrT Tryd.prog 53 32 := ⟨_, _, Tryd.underlying53, by kernel_rfl⟩

theorem half32 (x k : Nat) (hx : x < 4294967296) : ((x : Int) / 2 ^ k).tdiv 2 % 4294967296 = ((x / 2 ^ (k + 1) : Nat) : Int) := by
  rw [cast_div2, ← Bt.shr_shr]
  have h : x / 2 ^ k ≤ x := Nat.div_le_self _ _
  generalize x / 2 ^ k = y at h ⊢
  rw [Int.tdiv_eq_ediv_of_nonneg (by omega)]
  omega
theorem bit32 (x k : Nat) : wrap64 (((x : Int) / 2 ^ k).tmod 2) = bitI x.testBit k := by
  rw [cast_div2]
  unfold bitI wrap64
  rw [Nat.toNat_testBit]
  generalize x / 2 ^ k = y
  rw [Int.tmod_eq_emod_of_nonneg (by omega)]
  omega

set_option maxRecDepth 100000 in
theorem bits32_w (x : Nat) (hx : x < 4294967296) (w : World) :
    Calls Tryd.prog 34 #[.int .u32 x] w fun e w' => e = .returned (.agg (vals .i64 32 (bitI x.testBit))) ∧ Below w.heap.size w w' := by
  go_enter Tryd.func34, Tryd.ntmps34
  have hz := zero32b
  go_wp2
  clear hz
  go_loopw [0, 4] (fun u i wr => ∃ k : Nat, k ≤ 32 ∧ i = .int .i64 k ∧ u = .int .u32 (x / 2 ^ k : Nat) ∧ wr = (w.alloc (.cells (vals .i64 32 (fun _ => 0)) 53)).alloc (.cells (vals .i64 32 (fun j => if j < k then bitI x.testBit j else 0)) 53)) (fun _ i _ => 32 - (intOf i).toNat)
  case atStart => exact ⟨0, by omega, rfl, by simp, by simp⟩
  case round =>
    obtain ⟨k, hk, rfl, rfl, rfl⟩ := hrel
    by_cases hlt : k < 32
    · go_wp2
      go_roundw
      case rel =>
        refine ⟨k + 1, by omega, by go_num, by (try rw [IntKind.wrap_u64]); rw [half32 x k hx], ?_⟩
        rw [vals_fill _ _ _ _ _ _ (bit32 x k)]
      case measure => simp [intOf]; omega
    · obtain rfl : k = 32 := by omega
      rw [vals_full]
      go_wp2
      refine bodyPost_ret (results_row arr32b rfl _ w.heap.size rfl (by go_simp)) rfl ⟨?_, ?_⟩
      · go_simp
      · exact ((Below.refl _ _).alloc (Nat.le_refl _) _).alloc (by simp) _

theorem of_step32 (f : Nat → Bool) (k : Nat) (hk : k < 32) :
    (2 * (ofB f (31 - k) (k + 1) : Int) % 4294967296 + bitI f k % 4294967296) % 4294967296 = (ofB f (32 - k) k : Nat) := by
  have h1 := ofB_lt f (31 - k) (k + 1)
  have h2 : (2 : Nat) ^ (31 - k) ≤ 2 ^ 31 := Nat.pow_le_pow_right (by omega) (by omega)
  have e : 32 - k = (31 - k) + 1 := by omega
  rw [e, ofB]
  unfold bitI
  cases f k <;> simp <;> omega
set_option maxRecDepth 100000 in
theorem of32_w (f : Nat → Bool) (w : World) :
    Calls Tryd.prog 35 #[.agg (vals .i64 32 (bitI f))] w fun e w' => e = .returned (.int .u32 (ofB f 32 0 : Nat)) ∧ Below w.heap.size w w' := by
  go_enter Tryd.func35, Tryd.ntmps35
  go_wp2
  go_loop [3, 4] (fun u i => ∃ k : Nat, k ≤ 32 ∧ i = .int .i64 ((k : Int) - 1) ∧ u = .int .u32 (ofB f (32 - k) k : Nat)) (fun _ i => (1 + intOf i).toNat)
  case atStart => exact ⟨32, by omega, rfl, rfl⟩
  case round =>
    obtain ⟨k, hk, rfl, rfl⟩ := hrel
    cases k with
    | zero =>
      go_wp2
      go_ret
      exact ⟨rfl, (Below.refl _ _).alloc (Nat.le_refl _) _⟩
    | succ m =>
      have e : ((m + 1 : Nat) : Int) - 1 = (m : Int) := by omega
      rw [e]
      clear e
      have hm : m < 32 := by omega
      go_wp2
      go_round
      case rel =>
        refine ⟨m, by omega, by go_num, ?_⟩
        rw [← of_step32 f m hm]
        try simp only [IntKind.wrap_u64]
      case measure => simp [intOf]; omega
set_option maxRecDepth 100000 in
theorem rturn32_w (x : Nat) (hx : x < 4294967296) (n : Int) (w : World) :
    Calls Tryd.prog 32 #[.int .u32 x, .int .i64 n] w fun e w' => e = .returned (.int .u32 (rotr 32 x (n % 32).toNat : Nat)) ∧ Below w.heap.size w w' := by
  obtain ⟨m, hm⟩ : ∃ m : Nat, m = (n % 32).toNat := ⟨_, rfl⟩
  rw [← hm]
  have hm31 : m < 32 := by omega
  have hcase : (n.tmod 32 = (m : Int)) ∨ (n.tmod 32 = (m : Int) - 32 ∧ 0 < m) := by
    rcases Int.lt_or_le n 0 with h | h
    · have ht := @Int.tmod_eq_emod n 32
      split at ht
      · left; omega
      · right; omega
    · left; rw [Int.tmod_eq_emod_of_nonneg h]; omega
  clear hm
  have hz := zero32b
  rcases hcase with hc | ⟨hc, hm0⟩
  all_goals
    go_enter Tryd.func32, Tryd.ntmps32
    go_wp2_with (go_at_call 34; refine (bits32_w _ hx _).mono ?_; rintro e w1 ⟨rfl, hb⟩)
    have HB := Lib.hid hb
    clear hb hz
    go_loopw [7] (fun i wr => ∃ k : Nat, k ≤ 32 ∧ i = .int .i64 k ∧ wr = (w1.alloc (.cells (vals .i64 32 (bitI x.testBit)) 53)).alloc (.cells (vals .i64 32 (fun j => if j < k then bitI (fun j => x.testBit ((j + m) % 32)) j else 0)) 53)) (fun i _ => 32 - (intOf i).toNat)
    case atStart => exact ⟨0, by omega, rfl, by simp⟩
    case round =>
      obtain ⟨k, hk, rfl, rfl⟩ := hrel
      by_cases hlt : k < 32
      · have hidx : (k + m) % 32 < 32 := Nat.mod_lt _ (by omega)
        go_wp2
        go_roundw
        case rel =>
          refine ⟨k + 1, by omega, by go_num, ?_⟩
          rw [vals_fill .i64 32 (bitI fun j => x.testBit ((j + m) % 32)) (fun _ => 0) k (bitI x.testBit ((k + m) % 32)) rfl]
        case measure => simp [intOf]; omega
      · obtain rfl : k = 32 := by omega
        rw [vals_full]
        go_wp2_with (go_at_call 35; refine (of32_w _ _).mono ?_; rintro e w2 ⟨rfl, hb2⟩)
        go_ret
        refine ⟨rfl, ?_⟩
        exact ((HB.out.alloc HB.out.size _).alloc (by have := HB.out.size; simp; omega) _).trans (hb2.mono (by have := HB.out.size; simp; omega))
theorem rshift32_w (x : Nat) (hx : x < 4294967296) (n : Int) (hn : n < 9223372036854775808) (w : World) :
    Calls Tryd.prog 33 #[.int .u32 x, .int .i64 n] w fun e w' => e = .returned (.int .u32 (x / 2 ^ n.toNat : Nat)) ∧ w = w' := by
  go_enter Tryd.func33, Tryd.ntmps33
  go_wp2
  go_loop [0, 5] (fun u i => ∃ k y : Nat, Hid (y = x / 2 ^ k) ∧ y < 4294967296 ∧ i = .int .i64 k ∧ u = .int .u32 y ∧ ((k : Int) ≤ n ∨ k = 0)) (fun u _ => (intOf u).toNat)
  case atStart => exact ⟨0, x, by unfold Hid; simp, hx, rfl, rfl, .inr rfl⟩
  case round =>
    obtain ⟨k, y, hy, hlt, rfl, rfl, hk⟩ := hrel
    by_cases h1 : (k : Int) < n
    · clear hk
      by_cases h2 : 0 < y
      · go_wp2
        go_round
        case rel =>
          refine ⟨k + 1, y / 2, ?_, by omega, by go_num, ?_, .inl (by omega)⟩
          · show y / 2 = x / 2 ^ (k + 1)
            rw [hy.out, ← Bt.shr_shr]
          · first | rfl | (congr 1; omega)
        case measure =>
          simp only [intOf]
          omega
      · obtain rfl : y = 0 := by omega
        go_wp2
        go_ret
        refine ⟨ret_int ?_, rfl⟩
        have e : n.toNat = k + (n.toNat - k) := by omega
        rw [cast_div2, e, ← Bt.shr_shr, ← hy.out]
        simp
    · go_wp2
      go_ret
      refine ⟨ret_int ?_, rfl⟩
      have e : n.toNat = k := by omega
      rw [cast_div2, e, ← hy.out]

set_option maxRecDepth 100000 in
theorem rch32_w (x y z : Nat) (hx : x < 4294967296) (hy : y < 4294967296) (hz : z < 4294967296) (w : World) :
    Calls Tryd.prog 23 #[.int .u32 x, .int .u32 y, .int .u32 z] w fun e w' => e = .returned (.int .u32 (z ^^^ (x &&& (y ^^^ z)) : Nat)) ∧ Below w.heap.size w w' := by
  have hzz := zero32b
  have HB := bl_refl w
  go_enter Tryd.func23, Tryd.ntmps23
  go_wp2_with (go_at_call 34; refine (bits32_w _ (by assumption) _).mono ?_; rintro e w1 ⟨rfl, hb⟩; have hbn := bl_call HB hb; clear HB hb; have HB := hbn; clear hbn)
  clear hzz
  go_loopw [10] (fun i wr => ∃ k : Nat, k ≤ 32 ∧ i = .int .i64 k ∧ wr = ((w1.alloc (.cells (vals .i64 32 (bitI x.testBit)) 53)).alloc (.cells (vals .i64 32 (bitI y.testBit)) 53)).alloc (.cells (vals .i64 32 (fun j => if j < k then bitI (fun j => if x.testBit j then y.testBit j else z.testBit j) j else bitI z.testBit j)) 53)) (fun i _ => 32 - (intOf i).toNat)
  case atStart => exact ⟨0, by omega, rfl, by rw [vals_none]⟩
  case round =>
    obtain ⟨k, hk, rfl, rfl⟩ := hrel
    by_cases hlt : k < 32
    · cases hb : x.testBit k
      · have hbk : bitI x.testBit k = 0 := by unfold bitI; rw [hb]; rfl
        go_wp2
        go_roundw
        case rel =>
          refine ⟨k + 1, by omega, by go_num, ?_⟩
          rw [vals_keep _ _ _ _ k (by unfold bitI; simp [hb])]
        case measure => simp [intOf]; omega
      · have hbk : bitI x.testBit k = 1 := by unfold bitI; rw [hb]; rfl
        go_wp2
        go_roundw
        case rel =>
          refine ⟨k + 1, by omega, by go_num, ?_⟩
          rw [vals_fill _ _ _ _ k _ (by unfold bitI; simp [hb])]
        case measure => simp [intOf]; omega
    · obtain rfl : k = 32 := by omega
      rw [vals_full]
      go_wp2_with (go_at_call 35; refine (of32_w _ _).mono ?_; rintro e w2 ⟨rfl, hb2⟩)
      go_ret
      refine ⟨ret_int ?_, ?_⟩
      · rw [ch_eq (n := 32) (by simpa using hy) (by simpa using hz)]
      · exact bl_call (bl_alloc (bl_alloc (bl_alloc HB))) hb2

set_option maxRecDepth 100000 in
theorem rmaj32_w (x y z : Nat) (hx : x < 4294967296) (hy : y < 4294967296) (hz : z < 4294967296) (w : World) :
    Calls Tryd.prog 24 #[.int .u32 x, .int .u32 y, .int .u32 z] w fun e w' => e = .returned (.int .u32 ((x &&& y) ||| (z &&& (x ||| y)) : Nat)) ∧ Below w.heap.size w w' := by
  have hzz := zero32b
  have HB := bl_refl w
  go_enter Tryd.func24, Tryd.ntmps24
  go_wp2_with (go_at_call 34; refine (bits32_w _ (by assumption) _).mono ?_; rintro e w1 ⟨rfl, hb⟩; have hbn := bl_call HB hb; clear HB hb; have HB := hbn; clear hbn)
  clear hzz
  go_loopw [10] (fun i wr => ∃ k d : Nat, k ≤ 32 ∧ i = .int .i64 k ∧ wr = (((w1.alloc (.cells (vals .i64 32 (bitI x.testBit)) 53)).alloc (.cells (vals .i64 32 (bitI y.testBit)) 53)).alloc (.cells (vals .i64 32 (fun j => if j < k then bitI (fun i => ((x.testBit i).toNat + (y.testBit i).toNat + (z.testBit i).toNat) / 2 == 1) j else bitI z.testBit j)) 53)).drewN d) (fun i _ => 32 - (intOf i).toNat)
  case atStart => exact ⟨0, 0, by omega, rfl, by rw [vals_none]; rfl⟩
  case round =>
    obtain ⟨k, d, hk, rfl, rfl⟩ := hrel
    by_cases hlt : k < 32
    · have a1 := bitI_nonneg x.testBit k
      have a2 := bitI_le x.testBit k
      have b1 := bitI_nonneg y.testBit k
      have b2 := bitI_le y.testBit k
      have c1 := bitI_nonneg z.testBit k
      have c2 := bitI_le z.testBit k
      go_wp2
      refine region_tail 14 (by kernel_rfl) (by kernel_rfl) (by rw [World.drew_drewN]) ?_
      simp only [List.take_succ_cons, List.take_zero, List.drop_succ_cons, List.drop_zero]
      iterate 14 still_step
      refine wpStill_nil ?_
      go_wp2
      go_roundw
      case rel =>
        refine ⟨k + 1, d + 1, by omega, by go_num, ?_⟩
        rw [vals_fill .i64 32 (bitI fun i => ((x.testBit i).toNat + (y.testBit i).toNat + (z.testBit i).toNat) / 2 == 1) (bitI z.testBit) k _ (maj_bit _ _ _ _)]
      case measure => simp [intOf]; omega
    · obtain rfl : k = 32 := by omega
      rw [vals_full]
      go_wp2_with (go_at_call 35; refine (of32_w _ _).mono ?_; rintro e w2 ⟨rfl, hb2⟩)
      go_ret
      refine ⟨ret_int ?_, ?_⟩
      · rw [maj_eq (n := 32) (by simpa using hx) (by simpa using hy)]
      · exact bl_call (bl_drewN _ (bl_alloc (bl_alloc (bl_alloc HB)))) hb2
end Go.Proofs.YtfnncplokombgaaDoor