/- Contracts of layer 1's sigmas: word.Big, word.Small (over the package's two tables), the reference's xor, Big, Small. -/
import Derived.Test.YtcpmamnoaiaieaaDoorLong
import Derived.Test.YtcpmamnoaiaieaaDoorRefLong
namespace Go.Proofs.YtcpmamnoaiaieaaDoor
open Go.RowKit Bt
attribute [local go_sem] vals_set vals_get? vals_get vals_size rowAt_at rowAt_past hasRow_at hasRow_past run_loadRow run_storeCells_row setRow_at setRow_past rowAt_drewN hasRow_drewN setRow_drewN alloc_drewN setCell_drewN lt_s2 lt_s3 lt_s4 lt_s5 lt_s6
attribute [local go_sem ↓] loadRow_is

def bigS64 (which : Int) (x : Nat) : Nat :=
  if which = 0 then (rotr 64 x 28 ^^^ rotr 64 x 34) ^^^ rotr 64 x 39 else if which = 1 then (rotr 64 x 14 ^^^ rotr 64 x 18) ^^^ rotr 64 x 41 else 0
def smallS64 (which : Int) (x : Nat) : Nat :=
  if which = 0 then (rotr 64 x 1 ^^^ rotr 64 x 8) ^^^ x / 2 ^ 7 else if which = 1 then (rotr 64 x 19 ^^^ rotr 64 x 61) ^^^ x / 2 ^ 6 else 0
theorem xor_lt64 {x y : Nat} (hx : x < 18446744073709551616) (hy : y < 18446744073709551616) : x ^^^ y < 18446744073709551616 := Nat.xor_lt_two_pow (n := 64) hx hy
theorem rotr_lt64 (x k : Nat) : rotr 64 x k < 18446744073709551616 := rotr_lt 64 x k
theorem div_lt64 {x : Nat} (k : Nat) (hx : x < 18446744073709551616) : x / 2 ^ k < 18446744073709551616 := Nat.lt_of_le_of_lt (Nat.div_le_self _ _) hx
theorem bigS64_lt (which : Int) (x : Nat) : bigS64 which x < 18446744073709551616 := by
  unfold bigS64
  split
  · exact xor_lt64 (xor_lt64 (rotr_lt64 _ _) (rotr_lt64 _ _)) (rotr_lt64 _ _)
  · split
    · exact xor_lt64 (xor_lt64 (rotr_lt64 _ _) (rotr_lt64 _ _)) (rotr_lt64 _ _)
    · omega
theorem smallS64_lt (which : Int) (x : Nat) (hx : x < 18446744073709551616) : smallS64 which x < 18446744073709551616 := by
  unfold smallS64
  split
  · exact xor_lt64 (xor_lt64 (rotr_lt64 _ _) (rotr_lt64 _ _)) (div_lt64 _ hx)
  · split
    · exact xor_lt64 (xor_lt64 (rotr_lt64 _ _) (rotr_lt64 _ _)) (div_lt64 _ hx)
    · omega

set_option maxRecDepth 100000 in
theorem rxor64_w (x y : Nat) (hx : x < 18446744073709551616) (hy : y < 18446744073709551616) (w : World) :
    Calls Tryd.prog 30 #[.int .u64 x, .int .u64 y] w fun e w' => e = .returned (.int .u64 (x ^^^ y : Nat)) ∧ Below w.heap.size w w' := by
  have hzz := zero64b
  have HB := bl_refl w
  go_enter Tryd.func30, Tryd.ntmps30
  go_wp2_with (go_at_call 33; refine (bits64_w _ (by assumption) _).mono ?_; rintro e w1 ⟨rfl, hb⟩; have hbn := bl_call HB hb; clear HB hb; have HB := hbn; clear hbn)
  clear hzz
  go_loopw [7] (fun i wr => ∃ k d : Nat, k ≤ 64 ∧ i = .int .i64 k ∧ wr = ((w1.alloc (.cells (vals .i64 64 (fun j => if j < k then bitI (fun i => ((x.testBit i).toNat + (y.testBit i).toNat) % 2 == 1) j else bitI x.testBit j)) 48)).alloc (.cells (vals .i64 64 (bitI y.testBit)) 48)).drewN d) (fun i _ => 64 - (intOf i).toNat)
  case atStart => exact ⟨0, 0, by omega, rfl, by rw [vals_none]; rfl⟩
  case round =>
    obtain ⟨k, d, hk, rfl, rfl⟩ := hrel
    by_cases hlt : k < 64
    · have a1 := bitI_nonneg x.testBit k
      have a2 := bitI_le x.testBit k
      have b1 := bitI_nonneg y.testBit k
      have b2 := bitI_le y.testBit k
      go_wp2
      refine region_tail 10 (by kernel_rfl) (by kernel_rfl) (by rw [World.drew_drewN]) ?_
      simp only [List.take_succ_cons, List.take_zero, List.drop_succ_cons, List.drop_zero]
      iterate 10 still_step
      refine wpStill_nil ?_
      go_wp2
      go_roundw
      case rel =>
        refine ⟨k + 1, d + 1, by omega, by go_num, ?_⟩
        rw [vals_fill .i64 64 (bitI fun i => ((x.testBit i).toNat + (y.testBit i).toNat) % 2 == 1) (bitI x.testBit) k _ (xor_bit _ _ _)]
      case measure => simp [intOf]; omega
    · obtain rfl : k = 64 := by omega
      rw [vals_full]
      go_wp2_with (go_at_call 34; refine (of64_w _ _).mono ?_; rintro e w2 ⟨rfl, hb2⟩)
      go_ret
      refine ⟨ret_int ?_, ?_⟩
      · rw [xor_eq (n := 64) (by simpa using hx) (by simpa using hy)]
      · exact bl_call (bl_drewN _ (bl_alloc (bl_alloc HB))) hb2

theorem rbig64_w (which : Int) (x : Nat) (hx : x < 18446744073709551616) (w : World) :
    Calls Tryd.prog 22 #[.int .i64 which, .int .u64 x] w fun e w' => e = .returned (.int .u64 (bigS64 which x : Nat)) ∧ Below w.heap.size w w' := by
  have HB := bl_refl w
  by_cases h0 : which = 0
  · subst h0
    have hB : bigS64 0 x = (rotr 64 x 28 ^^^ rotr 64 x 34) ^^^ rotr 64 x 39 := rfl
    rw [hB]
    clear hB
    go_enter Tryd.func22, Tryd.ntmps22
    go_wp2_with (first | (go_at_call 31; refine (rturn64_w x hx _ _).mono ?_; rintro e w1 ⟨rfl, hb⟩; have hbn := bl_call HB hb; clear HB hb; have HB := hbn; clear hbn) | (go_at_call 32; refine (rshift64_w x hx _ (by omega) _).mono ?_; rintro e w1 ⟨rfl, rfl⟩) | (go_at_call 30; refine (rxor64_w _ _ (by first | exact rotr_lt64 _ _ | exact xor_lt64 (rotr_lt64 _ _) (rotr_lt64 _ _)) (by first | exact rotr_lt64 _ _ | exact div_lt64 _ hx) _).mono ?_; rintro e w1 ⟨rfl, hb⟩; have hbn := bl_call HB hb; clear HB hb; have HB := hbn; clear hbn))
    go_ret
    exact ⟨rfl, HB⟩
  · by_cases h1 : which = 1
    · subst h1
      have hB : bigS64 1 x = (rotr 64 x 14 ^^^ rotr 64 x 18) ^^^ rotr 64 x 41 := rfl
      rw [hB]
      clear hB
      go_enter Tryd.func22, Tryd.ntmps22
      go_wp2_with (first | (go_at_call 31; refine (rturn64_w x hx _ _).mono ?_; rintro e w1 ⟨rfl, hb⟩; have hbn := bl_call HB hb; clear HB hb; have HB := hbn; clear hbn) | (go_at_call 32; refine (rshift64_w x hx _ (by omega) _).mono ?_; rintro e w1 ⟨rfl, rfl⟩) | (go_at_call 30; refine (rxor64_w _ _ (by first | exact rotr_lt64 _ _ | exact xor_lt64 (rotr_lt64 _ _) (rotr_lt64 _ _)) (by first | exact rotr_lt64 _ _ | exact div_lt64 _ hx) _).mono ?_; rintro e w1 ⟨rfl, hb⟩; have hbn := bl_call HB hb; clear HB hb; have HB := hbn; clear hbn))
      go_ret
      exact ⟨rfl, HB⟩
    · have hB : bigS64 which x = 0 := by unfold bigS64; rw [if_neg h0, if_neg h1]
      rw [hB]
      clear hB
      go_enter Tryd.func22, Tryd.ntmps22
      go_wp2
      go_ret
      exact ⟨rfl, HB⟩

theorem rsmall64_w (which : Int) (x : Nat) (hx : x < 18446744073709551616) (w : World) :
    Calls Tryd.prog 18 #[.int .i64 which, .int .u64 x] w fun e w' => e = .returned (.int .u64 (smallS64 which x : Nat)) ∧ Below w.heap.size w w' := by
  have HB := bl_refl w
  by_cases h0 : which = 0
  · subst h0
    obtain ⟨s, hs⟩ : ∃ s : Nat, Hid (s = x / 2 ^ 7) := ⟨x / 2 ^ 7, Lib.hid rfl⟩
    have hsl : s < 18446744073709551616 := by rw [hs.out]; exact div_lt64 _ hx
    have c1 := fun w => rshift64_w x hx 7 (by omega) w
    rw [show ((7 : Int)).toNat = 7 from rfl, ← hs.out] at c1
    have C1 := Lib.hid c1
    clear c1
    have hB : smallS64 0 x = (rotr 64 x 1 ^^^ rotr 64 x 8) ^^^ x / 2 ^ 7 := rfl
    rw [hB, ← hs.out]
    clear hB
    go_enter Tryd.func18, Tryd.ntmps18
    go_wp2_with (first | (go_at_call 31; refine (rturn64_w x hx _ _).mono ?_; rintro e w1 ⟨rfl, hb⟩; have hbn := bl_call HB hb; clear HB hb; have HB := hbn; clear hbn) | (go_at_call 32; refine (C1.out _).mono ?_; rintro e w1 ⟨rfl, rfl⟩) | (go_at_call 30; refine (rxor64_w _ _ (by first | exact rotr_lt64 _ _ | exact xor_lt64 (rotr_lt64 _ _) (rotr_lt64 _ _)) (by first | exact rotr_lt64 _ _ | exact hsl) _).mono ?_; rintro e w1 ⟨rfl, hb⟩; have hbn := bl_call HB hb; clear HB hb; have HB := hbn; clear hbn))
    go_ret
    exact ⟨rfl, HB⟩
  · by_cases h1 : which = 1
    · subst h1
      obtain ⟨s, hs⟩ : ∃ s : Nat, Hid (s = x / 2 ^ 6) := ⟨x / 2 ^ 6, Lib.hid rfl⟩
      have hsl : s < 18446744073709551616 := by rw [hs.out]; exact div_lt64 _ hx
      have c1 := fun w => rshift64_w x hx 6 (by omega) w
      rw [show ((6 : Int)).toNat = 6 from rfl, ← hs.out] at c1
      have C1 := Lib.hid c1
      clear c1
      have hB : smallS64 1 x = (rotr 64 x 19 ^^^ rotr 64 x 61) ^^^ x / 2 ^ 6 := rfl
      rw [hB, ← hs.out]
      clear hB
      go_enter Tryd.func18, Tryd.ntmps18
      go_wp2_with (first | (go_at_call 31; refine (rturn64_w x hx _ _).mono ?_; rintro e w1 ⟨rfl, hb⟩; have hbn := bl_call HB hb; clear HB hb; have HB := hbn; clear hbn) | (go_at_call 32; refine (C1.out _).mono ?_; rintro e w1 ⟨rfl, rfl⟩) | (go_at_call 30; refine (rxor64_w _ _ (by first | exact rotr_lt64 _ _ | exact xor_lt64 (rotr_lt64 _ _) (rotr_lt64 _ _)) (by first | exact rotr_lt64 _ _ | exact hsl) _).mono ?_; rintro e w1 ⟨rfl, hb⟩; have hbn := bl_call HB hb; clear HB hb; have HB := hbn; clear hbn))
      go_ret
      exact ⟨rfl, HB⟩
    · have hB : smallS64 which x = 0 := by unfold smallS64; rw [if_neg h0, if_neg h1]
      rw [hB]
      clear hB
      go_enter Tryd.func18, Tryd.ntmps18
      go_wp2
      go_ret
      exact ⟨rfl, HB⟩

end Go.Proofs.YtcpmamnoaiaieaaDoor
