/- The walk of the law LaneXors. -/
import Derived.Test.YtohieonpegeokaaLaneOutsLaw
namespace Go.Proofs.Ytohieonpegeokaa
open Go.RowKit Go.Shelf
attribute [local go_sem] vals_set vals_get? vals_get vals_size rowAt_at rowAt_past hasRow_at hasRow_past run_loadRow run_storeCells_row setRow_at setRow_past rowAt_drewN hasRow_drewN setRow_drewN alloc_drewN setCell_drewN lt_s2 lt_s3 lt_s4 lt_s5 lt_s6
attribute [local go_sem ↓] loadRow_is

/-- bytes' word, read from the little end: its bytes -/
theorem beN_pos (h : Nat → Int) (hh : ∀ i, 0 ≤ h i ∧ h i < 256) (p : Nat) : ∀ n, ∃ x : Nat, beN h p n = (x : Int) ∧ x < 256 ^ n ∧ ∀ i, i < n → x / 256 ^ i % 256 = (h (p + (n - 1 - i))).toNat
  | 0 => ⟨0, rfl, by simp, fun i hi => absurd hi (by omega)⟩
  | n + 1 => by
    obtain ⟨x, e, hx, hd⟩ := beN_pos h hh p n
    have h1 := hh (p + n)
    refine ⟨x * 256 + (h (p + n)).toNat, ?_, ?_, ?_⟩
    · simp only [beN]
      rw [e]
      omega
    · rw [Nat.pow_succ]
      omega
    · intro i hi
      cases i with
      | zero =>
        rw [Nat.pow_zero, Nat.div_one, show p + (n + 1 - 1 - 0) = p + n by omega]
        omega
      | succ i =>
        rw [Nat.pow_succ, Nat.mul_comm (256 ^ i) 256, ← Nat.div_div_eq_div_mul, show (x * 256 + (h (p + n)).toNat) / 256 = x by omega, hd i (by omega), show n - 1 - i = n + 1 - 1 - (i + 1) by omega]
theorem word_bytes (h : Nat → Nat) (hh : ∀ i, h i < 256) (q : Nat) : ∃ x : Nat, leN (fun t => (h t : Int)) q 8 = (x : Int) ∧ x < 18446744073709551616 ∧ ∀ i, i < 8 → x / 256 ^ i % 256 = h (q + i) := by
  unfold leN
  obtain ⟨x, e, hx, hd⟩ := beN_pos (fun i => (h (q + (7 - i)) : Int)) (fun i => by have := hh (q + (7 - i)); omega) 0 8
  refine ⟨x, e, by simpa using hx, fun i hi => ?_⟩
  rw [hd i hi]
  show (((h (q + (7 - (0 + (8 - 1 - i)))) : Nat) : Int)).toNat = h (q + i)
  rw [show q + (7 - (0 + (8 - 1 - i))) = q + i by omega]
  omega
/-- the words of bytes -/
def ofB (h : Nat → Nat) (j : Nat) : Nat := (leN (fun t => (h t : Int)) (j * 8) 8).toNat
theorem ofB_cast (h : Nat → Nat) (hh : ∀ i, h i < 256) (j : Nat) : leN (fun t => (h t : Int)) (j * 8) 8 = (ofB h j : Int) := by
  obtain ⟨x, e, _, _⟩ := word_bytes h hh (j * 8)
  unfold ofB
  rw [e]
  rfl
theorem ofB_lt (h : Nat → Nat) (hh : ∀ i, h i < 256) (j : Nat) : ofB h j < 18446744073709551616 := by
  obtain ⟨x, e, hx, _⟩ := word_bytes h hh (j * 8)
  unfold ofB
  rw [e]
  exact hx
theorem byteL_ofB (h : Nat → Nat) (hh : ∀ i, h i < 256) (t : Nat) : byteL (ofB h) t = h t := by
  obtain ⟨x, e, _, hd⟩ := word_bytes h hh (t / 8 * 8)
  unfold byteL ofB
  rw [e, show ((x : Nat) : Int).toNat = x from rfl, hd _ (Nat.mod_lt _ (by omega))]
  congr 1
  omega
theorem xorB_in (f : Nat → Nat) (i : Int) (n : Nat) (g : Nat → Nat) (t : Nat) (h : winF i n ≤ t ∧ t < winF i n + winM i n) : xorB f i n g t = byteL f t ^^^ g ((t : Int) - i).toNat := by
  unfold xorB
  rw [if_pos h]
theorem xorB_out (f : Nat → Nat) (i : Int) (n : Nat) (g : Nat → Nat) (t : Nat) (h : ¬ (winF i n ≤ t ∧ t < winF i n + winM i n)) : xorB f i n g t = byteL f t := by
  unfold xorB
  rw [if_neg h]
theorem xorB_twice (f : Nat → Nat) (i : Int) (n : Nat) (g : Nat → Nat) (hg : ∀ j, j < n → g j < 256) (t : Nat) : xorB (ofB (xorB f i n g)) i n g t = byteL f t := by
  have hb := byteL_ofB (xorB f i n g) (xorB_lt f i n g hg) t
  by_cases h : winF i n ≤ t ∧ t < winF i n + winM i n
  · rw [xorB_in (ofB (xorB f i n g)) i n g t h, hb, xorB_in f i n g t h, Nat.xor_assoc, Nat.xor_self, Nat.xor_zero]
  · rw [xorB_out (ofB (xorB f i n g)) i n g t h, hb, xorB_out f i n g t h]
set_option maxRecDepth 100000 in
set_option maxHeartbeats 4000000 in
theorem laneXors_walk (f' : Nat → Int) (i : Int) (b : Option Addr) (n cb : Nat) (g' : Nat → Int) (w : World) (hf' : ∀ j, j < 25 → 0 ≤ f' j ∧ f' j < 18446744073709551616) (hi' : (Lit.int .i64 i).wf = true) (hn : n ≤ maxLen) (hr : reads w b n .u8 g') (hg' : ∀ j, j < n → 0 ≤ g' j ∧ g' j < 256) (hcb : n ≤ cb) :
    Calls Try.prog 16 #[.agg (vals .u64 25 f'), .int .i64 i, .slice b n cb] w fun e w' => e = .returned (.bool true) ∧ Below w.heap.size w w' := by
  have hi := nat_of_i64 hi'
  obtain ⟨f, hf2⟩ : ∃ f : Nat → Nat, Hid (f = fun j => (f' j).toNat) := ⟨_, Lib.hid rfl⟩
  obtain ⟨g, hg2⟩ : ∃ g : Nat → Nat, Hid (g = fun j => (g' j).toNat) := ⟨_, Lib.hid rfl⟩
  have e0 : vals .u64 25 f' = vals .u64 25 (fun j => (f j : Int)) := vals_ext _ _ fun j hj => by have := hf' j hj; rw [hf2.out]; show f' j = (((f' j).toNat : Nat) : Int); omega
  have hf : ∀ j, j < 25 → f j < 18446744073709551616 := fun j hj => by have := hf' j hj; rw [hf2.out]; show (f' j).toNat < 18446744073709551616; omega
  have hg : ∀ j, j < n → g j < 256 := fun j hj => by have := hg' j hj; rw [hg2.out]; show (g' j).toNat < 256; omega
  have HR : Hid (reads w b n .u8 (fun j => (g j : Int))) := Lib.hid (reads_ext (fun j hj => by have := hg' j hj; rw [hg2.out]; show g' j = (((g' j).toNat : Nat) : Int); omega) hr)
  rw [e0]
  clear e0 hf2 hg2 hf' hg' hi' hr
  unfold maxLen at hn
  have HW := Lib.hid (bl_alloc (o := .cells (vals .u64 25 (fun j => (f j : Int))) 56) (bl_refl w))
  have hrw := hasRow_at w (vals .u64 25 (fun j => (f j : Int))) 56 w.heap.size 25 rfl (vals_size _ _ _)
  have hra := rowAt_at w (vals .u64 25 (fun j => (f j : Int))) 56 w.heap.size rfl
  by_cases hbig : 500 < n
  · clear hrw hra
    go_enter Try.func16, Try.ntmps16
    go_wp2_with (go_at_call 54; refine (wakes14_w _).mono ?_; rintro e w1 ⟨rfl, hb⟩; have HB := Lib.hid (bl_call HW.out hb); clear hb)
    go_ret
    exact ⟨rfl, HB.out⟩
  have hsmall : n ≤ 500 := by omega
  clear hbig
  have hxb := xorB_lt f i n g hg
  obtain ⟨f1, hf1⟩ : ∃ f1 : Nat → Nat, Hid (f1 = ofB (xorB f i n g)) := ⟨_, Lib.hid rfl⟩
  have ex : vals .u64 25 (fun j => leN (fun t => (xorB f i n g t : Int)) (j * 8) 8) = vals .u64 25 (fun j => (f1 j : Int)) := vals_ext _ _ fun j _ => by rw [hf1.out]; exact ofB_cast _ hxb j
  have ey : vals .u64 25 (fun j => leN (fun t => (xorB f1 i n g t : Int)) (j * 8) 8) = vals .u64 25 (fun j => (f j : Int)) := vals_ext _ _ fun j hj => by
    rw [← leN_byte f j (hf j hj)]
    congr 1
    funext t
    rw [hf1.out, xorB_twice f i n g hg t]
  have hf1b : ∀ j, j < 25 → f1 j < 18446744073709551616 := fun j _ => by rw [hf1.out]; exact ofB_lt _ hxb j
  have CX : Hid (∀ W, Below w.heap.size w W → Calls Try.prog 58 #[.agg (vals .u64 25 (fun j => (f j : Int))), .int .i64 i, .slice b n cb] W fun e w' => e = .returned (.agg (vals .u64 25 (fun j => (f1 j : Int)))) ∧ Below W.heap.size W w') := Lib.hid (fun W hW => by rw [← ex]; exact lxorL_w f hf i hi b n cb hcb g W (by omega) (reads_below (Nat.le_refl _) hW HR.out) hg)
  have CY : Hid (∀ W, Below w.heap.size w W → Calls Try.prog 58 #[.agg (vals .u64 25 (fun j => (f1 j : Int))), .int .i64 i, .slice b n cb] W fun e w' => e = .returned (.agg (vals .u64 25 (fun j => (f j : Int)))) ∧ Below W.heap.size W w') := Lib.hid (fun W hW => by
    have h := lxorL_w f1 hf1b i hi b n cb hcb g W (by omega) (reads_below (Nat.le_refl _) hW HR.out) hg
    rw [ey] at h
    exact h)
  have CR : Hid (∀ W, Below w.heap.size w W → Calls Try.prog 59 #[.agg (vals .u64 25 (fun j => (f j : Int))), .int .i64 i, .slice b n cb] W fun e w' => e = .returned (.agg (vals .u64 25 (fun j => (f1 j : Int)))) ∧ Below W.heap.size W w') := Lib.hid (fun W hW => by rw [← ex]; exact rlxor_w f hf i hi b n cb g W (by omega) (reads_below (Nat.le_refl _) hW HR.out) hg)
  clear hxb ex ey hf1b hf1 hf hg hi hcb
  have hz := zero25
  have he0 := eqLanes (fun j => (f j : Int)) (fun j => (f j : Int))
  have he1 := eqLanes (fun j => (f1 j : Int)) (fun j => (f1 j : Int))
  rw [allEq_true (fun _ _ => rfl)] at he0 he1
  go_enter Try.func16, Try.ntmps16
  go_wp2_with fail
  generalize w.alloc (.cells (vals .u64 25 (fun j => (f j : Int))) 56) = W1 at HW hrw hra ⊢
  refine (wakes14_w W1).mono ?_
  rintro e w1 ⟨rfl, hb1⟩
  have RA := Lib.hid (row_below hb1 ⟨hrw, hra⟩)
  have HB := Lib.hid (bl_call HW.out hb1)
  clear hrw hra hb1
  have r1 := RA.out.1
  have s1 := RA.out.2
  go_wp2_with (go_at_call 58; (with_reducible refine (CX.out _ HB.out).mono ?_); rintro e w2 ⟨rfl, hb2⟩; have RA2 := Lib.hid (row_below hb2 RA.out); have HB2 := Lib.hid (bl_call HB.out hb2); clear hb2)
  have q1 := row_below ((bl_refl w2).alloc (Nat.le_refl _) (.cells (vals .u64 25 (fun j => (f1 j : Int))) 56)) RA2.out
  have q2 := hasRow_at w2 (vals .u64 25 (fun j => (f1 j : Int))) 56 w2.heap.size 25 rfl (vals_size _ _ _)
  have q3 := rowAt_at w2 (vals .u64 25 (fun j => (f1 j : Int))) 56 w2.heap.size rfl
  have q4 := HB2.out.alloc HB2.out.size (.cells (vals .u64 25 (fun j => (f1 j : Int))) 56)
  obtain ⟨p2, hp2⟩ : ∃ p2, Hid (p2 = w2.heap.size) := ⟨_, Lib.hid rfl⟩
  rw [← hp2.out] at q2 q3 ⊢
  generalize w2.alloc (.cells (vals .u64 25 (fun j => (f1 j : Int))) 56) = W3 at q1 q2 q3 q4 ⊢
  clear RA RA2 HB HB2 r1 s1 CX hp2 hz
  have A0 : Hid ((hasRow W3.drew w.heap.size 25 ∧ rowAt W3.drew w.heap.size = vals .u64 25 (fun j => (f j : Int))) ∧ (hasRow W3.drew p2 25 ∧ rowAt W3.drew p2 = vals .u64 25 (fun j => (f1 j : Int)))) := Lib.hid ⟨q1, q2, q3⟩
  have B0 := Lib.hid q4.drew
  clear q1 q2 q3 q4
  have a1 := A0.out.1.1
  have a2 := A0.out.1.2
  have a3 := A0.out.2.1
  have a4 := A0.out.2.2
  go_region_with (first | (go_at_call 59; (with_reducible refine (CR.out _ B0.out).mono ?_); rintro e w4 ⟨rfl, hb4⟩; have A4 : Hid ((hasRow w4 w.heap.size 25 ∧ rowAt w4 w.heap.size = vals .u64 25 (fun j => (f j : Int))) ∧ (hasRow w4 p2 25 ∧ rowAt w4 p2 = vals .u64 25 (fun j => (f1 j : Int)))) := Lib.hid ⟨row_below hb4 A0.out.1, row_below hb4 A0.out.2⟩; have B4 := Lib.hid (bl_call B0.out hb4); have b1 := A4.out.1.1; have b2 := A4.out.1.2; have b3 := A4.out.2.1; have b4 := A4.out.2.2; clear hb4) | (go_at_call 58; (with_reducible refine (CY.out _ B4.out).mono ?_); rintro e w5 ⟨rfl, hb5⟩; have A5 : Hid (hasRow w5 w.heap.size 25 ∧ rowAt w5 w.heap.size = vals .u64 25 (fun j => (f j : Int))) := Lib.hid (row_below hb5 A4.out.1); have B5 := Lib.hid (bl_call B4.out hb5); have c1 := A5.out.1; have c2 := A5.out.2; clear hb5))
  all_goals go_wp2
  all_goals go_ret
  all_goals exact ⟨rfl, B5.out⟩
end Go.Proofs.Ytohieonpegeokaa
