/- Contracts of layer 1's sigmas: word.Big, word.Small (over the package's two tables), the reference's xor, Big, Small. -/
import Derived.Test.YtfnncplokombgaaDoorWord
import Derived.Test.YtfnncplokombgaaDoorRefWord
namespace Go.Proofs.YtfnncplokombgaaDoor
open Go.RowKit Bt
attribute [local go_sem] vals_set vals_get? vals_get vals_size rowAt_at rowAt_past hasRow_at hasRow_past run_loadRow run_storeCells_row setRow_at setRow_past rowAt_drewN hasRow_drewN setRow_drewN alloc_drewN setCell_drewN lt_s2 lt_s3 lt_s4 lt_s5 lt_s6
attribute [local go_sem ↓] loadRow_is

def bigS32 (which : Int) (x : Nat) : Nat :=
  if which = 0 then (rotr 32 x 2 ^^^ rotr 32 x 13) ^^^ rotr 32 x 22 else if which = 1 then (rotr 32 x 6 ^^^ rotr 32 x 11) ^^^ rotr 32 x 25 else 0
def smallS32 (which : Int) (x : Nat) : Nat :=
  if which = 0 then (rotr 32 x 7 ^^^ rotr 32 x 18) ^^^ x / 2 ^ 3 else if which = 1 then (rotr 32 x 17 ^^^ rotr 32 x 19) ^^^ x / 2 ^ 10 else 0
theorem xor_lt32 {x y : Nat} (hx : x < 4294967296) (hy : y < 4294967296) : x ^^^ y < 4294967296 := Nat.xor_lt_two_pow (n := 32) hx hy
theorem rotr_lt32 (x k : Nat) : rotr 32 x k < 4294967296 := rotr_lt 32 x k
theorem div_lt32 {x : Nat} (k : Nat) (hx : x < 4294967296) : x / 2 ^ k < 4294967296 := Nat.lt_of_le_of_lt (Nat.div_le_self _ _) hx
theorem bigS32_lt (which : Int) (x : Nat) : bigS32 which x < 4294967296 := by
  unfold bigS32
  split
  · exact xor_lt32 (xor_lt32 (rotr_lt32 _ _) (rotr_lt32 _ _)) (rotr_lt32 _ _)
  · split
    · exact xor_lt32 (xor_lt32 (rotr_lt32 _ _) (rotr_lt32 _ _)) (rotr_lt32 _ _)
    · omega
theorem smallS32_lt (which : Int) (x : Nat) (hx : x < 4294967296) : smallS32 which x < 4294967296 := by
  unfold smallS32
  split
  · exact xor_lt32 (xor_lt32 (rotr_lt32 _ _) (rotr_lt32 _ _)) (div_lt32 _ hx)
  · split
    · exact xor_lt32 (xor_lt32 (rotr_lt32 _ _) (rotr_lt32 _ _)) (div_lt32 _ hx)
    · omega

set_option maxRecDepth 100000 in
theorem rxor32_w (x y : Nat) (hx : x < 4294967296) (hy : y < 4294967296) (w : World) :
    Calls Tryd.prog 31 #[.int .u32 x, .int .u32 y] w fun e w' => e = .returned (.int .u32 (x ^^^ y : Nat)) ∧ Below w.heap.size w w' := by
  have hzz := zero32b
  have HB := bl_refl w
  go_enter Tryd.func31, Tryd.ntmps31
  go_wp2_with (go_at_call 34; refine (bits32_w _ (by assumption) _).mono ?_; rintro e w1 ⟨rfl, hb⟩; have hbn := bl_call HB hb; clear HB hb; have HB := hbn; clear hbn)
  clear hzz
  go_loopw [7] (fun i wr => ∃ k d : Nat, k ≤ 32 ∧ i = .int .i64 k ∧ wr = ((w1.alloc (.cells (vals .i64 32 (fun j => if j < k then bitI (fun i => ((x.testBit i).toNat + (y.testBit i).toNat) % 2 == 1) j else bitI x.testBit j)) 53)).alloc (.cells (vals .i64 32 (bitI y.testBit)) 53)).drewN d) (fun i _ => 32 - (intOf i).toNat)
  case atStart => exact ⟨0, 0, by omega, rfl, by rw [vals_none]; rfl⟩
  case round =>
    obtain ⟨k, d, hk, rfl, rfl⟩ := hrel
    by_cases hlt : k < 32
    · have a1 := bitI_nonneg x.testBit k
      have a2 := bitI_le x.testBit k
      have b1 := bitI_nonneg y.testBit k
      have b2 := bitI_le y.testBit k
      go_wp2
      refine region_tail 10 (by kernel_rfl) (by kernel_rfl) (by rw [World.drew_drewN]) ?_
      simp only [List.take_succ_cons, List.take_zero, List.drop_succ_cons, List.drop_zero]
      iterate 10 still_step
      refine wpStill_nil ?_
      go_wp2
      go_roundw
      case rel =>
        refine ⟨k + 1, d + 1, by omega, by go_num, ?_⟩
        rw [vals_fill .i64 32 (bitI fun i => ((x.testBit i).toNat + (y.testBit i).toNat) % 2 == 1) (bitI x.testBit) k _ (xor_bit _ _ _)]
      case measure => simp [intOf]; omega
    · obtain rfl : k = 32 := by omega
      rw [vals_full]
      go_wp2_with (go_at_call 35; refine (of32_w _ _).mono ?_; rintro e w2 ⟨rfl, hb2⟩)
      go_ret
      refine ⟨ret_int ?_, ?_⟩
      · rw [xor_eq (n := 32) (by simpa using hx) (by simpa using hy)]
      · exact bl_call (bl_drewN _ (bl_alloc (bl_alloc HB))) hb2

theorem rbig32_w (which : Int) (x : Nat) (hx : x < 4294967296) (w : World) :
    Calls Tryd.prog 22 #[.int .i64 which, .int .u32 x] w fun e w' => e = .returned (.int .u32 (bigS32 which x : Nat)) ∧ Below w.heap.size w w' := by
  have HB := bl_refl w
  by_cases h0 : which = 0
  · subst h0
    have hB : bigS32 0 x = (rotr 32 x 2 ^^^ rotr 32 x 13) ^^^ rotr 32 x 22 := rfl
    rw [hB]
    clear hB
    go_enter Tryd.func22, Tryd.ntmps22
    go_wp2_with (first | (go_at_call 32; refine (rturn32_w x hx _ _).mono ?_; rintro e w1 ⟨rfl, hb⟩; have hbn := bl_call HB hb; clear HB hb; have HB := hbn; clear hbn) | (go_at_call 33; refine (rshift32_w x hx _ (by omega) _).mono ?_; rintro e w1 ⟨rfl, rfl⟩) | (go_at_call 31; refine (rxor32_w _ _ (by first | exact rotr_lt32 _ _ | exact xor_lt32 (rotr_lt32 _ _) (rotr_lt32 _ _)) (by first | exact rotr_lt32 _ _ | exact div_lt32 _ hx) _).mono ?_; rintro e w1 ⟨rfl, hb⟩; have hbn := bl_call HB hb; clear HB hb; have HB := hbn; clear hbn))
    go_ret
    exact ⟨rfl, HB⟩
  · by_cases h1 : which = 1
    · subst h1
      have hB : bigS32 1 x = (rotr 32 x 6 ^^^ rotr 32 x 11) ^^^ rotr 32 x 25 := rfl
      rw [hB]
      clear hB
      go_enter Tryd.func22, Tryd.ntmps22
      go_wp2_with (first | (go_at_call 32; refine (rturn32_w x hx _ _).mono ?_; rintro e w1 ⟨rfl, hb⟩; have hbn := bl_call HB hb; clear HB hb; have HB := hbn; clear hbn) | (go_at_call 33; refine (rshift32_w x hx _ (by omega) _).mono ?_; rintro e w1 ⟨rfl, rfl⟩) | (go_at_call 31; refine (rxor32_w _ _ (by first | exact rotr_lt32 _ _ | exact xor_lt32 (rotr_lt32 _ _) (rotr_lt32 _ _)) (by first | exact rotr_lt32 _ _ | exact div_lt32 _ hx) _).mono ?_; rintro e w1 ⟨rfl, hb⟩; have hbn := bl_call HB hb; clear HB hb; have HB := hbn; clear hbn))
      go_ret
      exact ⟨rfl, HB⟩
    · have hB : bigS32 which x = 0 := by unfold bigS32; rw [if_neg h0, if_neg h1]
      rw [hB]
      clear hB
      go_enter Tryd.func22, Tryd.ntmps22
      go_wp2
      go_ret
      exact ⟨rfl, HB⟩

theorem rsmall32_w (which : Int) (x : Nat) (hx : x < 4294967296) (w : World) :
    Calls Tryd.prog 18 #[.int .i64 which, .int .u32 x] w fun e w' => e = .returned (.int .u32 (smallS32 which x : Nat)) ∧ Below w.heap.size w w' := by
  have HB := bl_refl w
  by_cases h0 : which = 0
  · subst h0
    obtain ⟨s, hs⟩ : ∃ s : Nat, Hid (s = x / 2 ^ 3) := ⟨x / 2 ^ 3, Lib.hid rfl⟩
    have hsl : s < 4294967296 := by rw [hs.out]; exact div_lt32 _ hx
    have c1 := fun w => rshift32_w x hx 3 (by omega) w
    rw [show ((3 : Int)).toNat = 3 from rfl, ← hs.out] at c1
    have C1 := Lib.hid c1
    clear c1
    have hB : smallS32 0 x = (rotr 32 x 7 ^^^ rotr 32 x 18) ^^^ x / 2 ^ 3 := rfl
    rw [hB, ← hs.out]
    clear hB
    go_enter Tryd.func18, Tryd.ntmps18
    go_wp2_with (first | (go_at_call 32; refine (rturn32_w x hx _ _).mono ?_; rintro e w1 ⟨rfl, hb⟩; have hbn := bl_call HB hb; clear HB hb; have HB := hbn; clear hbn) | (go_at_call 33; refine (C1.out _).mono ?_; rintro e w1 ⟨rfl, rfl⟩) | (go_at_call 31; refine (rxor32_w _ _ (by first | exact rotr_lt32 _ _ | exact xor_lt32 (rotr_lt32 _ _) (rotr_lt32 _ _)) (by first | exact rotr_lt32 _ _ | exact hsl) _).mono ?_; rintro e w1 ⟨rfl, hb⟩; have hbn := bl_call HB hb; clear HB hb; have HB := hbn; clear hbn))
    go_ret
    exact ⟨rfl, HB⟩
  · by_cases h1 : which = 1
    · subst h1
      obtain ⟨s, hs⟩ : ∃ s : Nat, Hid (s = x / 2 ^ 10) := ⟨x / 2 ^ 10, Lib.hid rfl⟩
      have hsl : s < 4294967296 := by rw [hs.out]; exact div_lt32 _ hx
      have c1 := fun w => rshift32_w x hx 10 (by omega) w
      rw [show ((10 : Int)).toNat = 10 from rfl, ← hs.out] at c1
      have C1 := Lib.hid c1
      clear c1
      have hB : smallS32 1 x = (rotr 32 x 17 ^^^ rotr 32 x 19) ^^^ x / 2 ^ 10 := rfl
      rw [hB, ← hs.out]
      clear hB
      go_enter Tryd.func18, Tryd.ntmps18
      go_wp2_with (first | (go_at_call 32; refine (rturn32_w x hx _ _).mono ?_; rintro e w1 ⟨rfl, hb⟩; have hbn := bl_call HB hb; clear HB hb; have HB := hbn; clear hbn) | (go_at_call 33; refine (C1.out _).mono ?_; rintro e w1 ⟨rfl, rfl⟩) | (go_at_call 31; refine (rxor32_w _ _ (by first | exact rotr_lt32 _ _ | exact xor_lt32 (rotr_lt32 _ _) (rotr_lt32 _ _)) (by first | exact rotr_lt32 _ _ | exact hsl) _).mono ?_; rintro e w1 ⟨rfl, hb⟩; have hbn := bl_call HB hb; clear HB hb; have HB := hbn; clear hbn))
      go_ret
      exact ⟨rfl, HB⟩
    · have hB : smallS32 which x = 0 := by unfold smallS32; rw [if_neg h0, if_neg h1]
      rw [hB]
      clear hB
      go_enter Tryd.func18, Tryd.ntmps18
      go_wp2
      go_ret
      exact ⟨rfl, HB⟩

end Go.Proofs.YtfnncplokombgaaDoor
