/- Layer 14's reference: Xor, Out. -/
import Derived.Test.YtohieonpegeokaaRefLane
namespace Go.Proofs.Ytohieonpegeokaa
open Go.RowKit Go.Shelf
attribute [local go_sem] vals_set vals_get? vals_get vals_size rowAt_at rowAt_past hasRow_at hasRow_past run_loadRow run_storeCells_row setRow_at setRow_past rowAt_drewN hasRow_drewN setRow_drewN alloc_drewN setCell_drewN lt_s2 lt_s3 lt_s4 lt_s5 lt_s6
attribute [local go_sem ↓] loadRow_is

/-- a state's byte -/
def byteL (f : Nat → Nat) (j : Nat) : Nat := f (j / 8) / 256 ^ (j % 8) % 256
theorem putL64_byte (f : Nat → Nat) (j : Nat) : putL64 f j = (byteL f j : Int) := rfl
theorem byteL_lt (f : Nat → Nat) (j : Nat) : byteL f j < 256 := Nat.mod_lt _ (by omega)
/-- bytes laid into a state -/
def xorB (f : Nat → Nat) (i : Int) (n : Nat) (g : Nat → Nat) (j : Nat) : Nat := if winF i n ≤ j ∧ j < winF i n + winM i n then byteL f j ^^^ g ((j : Int) - i).toNat else byteL f j
theorem win_in {i : Int} {n j : Nat} (h : winF i n ≤ j ∧ j < winF i n + winM i n) : i ≤ (j : Int) ∧ ((j : Int) - i).toNat < n ∧ (((j : Int) - i).toNat : Int) = (j : Int) - i := by
  have h2 := win_le i n
  have h1 := (win_iff i n j (by omega)).2 h
  omega
theorem xorB_lt (f : Nat → Nat) (i : Int) (n : Nat) (g : Nat → Nat) (hg : ∀ j, j < n → g j < 256) (j : Nat) : xorB f i n g j < 256 := by
  unfold xorB
  split
  · rename_i h
    exact Nat.xor_lt_two_pow (n := 8) (byteL_lt f j) (hg _ (win_in h).2.1)
  · exact byteL_lt f j
set_option maxRecDepth 100000 in
set_option maxHeartbeats 2000000 in
theorem rlxor_w (f : Nat → Nat) (hf : ∀ j, j < 25 → f j < 18446744073709551616) (i : Int) (hi : -9223372036854775808 ≤ i ∧ i < 9223372036854775808) (b : Option Addr) (n cb : Nat) (g : Nat → Nat) (w : World) (hn : n ≤ 100000) (hr : reads w b n .u8 (fun j => (g j : Int))) (hg : ∀ j, j < n → g j < 256) :
    Calls Try.prog 59 #[.agg (vals .u64 25 (fun j => (f j : Int))), .int .i64 i, .slice b n cb] w fun e w' => e = .returned (.agg (vals .u64 25 (fun j => leN (fun t => (xorB f i n g t : Int)) (j * 8) 8))) ∧ Below w.heap.size w w' := by
  obtain ⟨hi1, hi2⟩ := hi
  have HR := Lib.hid hr
  have HG := Lib.hid hg
  have HF := Lib.hid hf
  clear hr hg hf
  have hz := zero25
  go_enter Try.func59, Try.ntmps59
  go_wp2_with fail
  clear hz
  have q2 : hasRow ((w.alloc (.cells (vals .u64 25 (fun j => (f j : Int))) 56)).alloc (.cells (vals .u64 25 (fun _ => 0)) 56)) (w.heap.size + 1) 25 := hasRow_at _ _ _ _ _ (by simp) (vals_size _ _ _)
  have q3 : Below w.heap.size w ((w.alloc (.cells (vals .u64 25 (fun j => (f j : Int))) 56)).alloc (.cells (vals .u64 25 (fun _ => 0)) 56)) := bl_alloc (bl_alloc (bl_refl w))
  have q4 : ((w.alloc (.cells (vals .u64 25 (fun j => (f j : Int))) 56)).alloc (.cells (vals .u64 25 (fun _ => 0)) 56)).heap.size = w.heap.size + 2 := by simp
  generalize (w.alloc (.cells (vals .u64 25 (fun j => (f j : Int))) 56)).alloc (.cells (vals .u64 25 (fun _ => 0)) 56) = W2 at q2 q3 q4 ⊢
  refine (rlbytes_w f W2 HF.out).mono ?_
  rintro e w3 ⟨v, rfl, ho, hb⟩
  obtain ⟨gk, ck, rfl, hck, hgk, _, _⟩ := owns_at ho (by decide)
  have hgk2 : w.heap.size + 2 ≤ gk := by omega
  have HI : Hid (owns w3 (w.heap.size + 2) 5 .u8 (.slice (some ⟨gk, 0, none⟩) 200 ck) 200 (fun j => if j < 0 then (xorB f i n g j : Int) else (byteL f j : Int)) ∧ hasRow w3 (w.heap.size + 1) 25 ∧ Below w.heap.size w w3) :=
    Lib.hid ⟨owns_ext (fun j _ => by rw [if_neg (Nat.not_lt_zero j)]; rfl) (owns_base (by omega) ho), hasRow_below (Nat.le_refl _) hb q2, bl_call q3 hb⟩
  clear ho hb hgk q2 q3 q4
  go_wp2
  go_loopw [8] (fun i' wr => ∃ k : Nat, k ≤ 200 ∧ i' = .int .i64 k ∧ Hid (owns wr (w.heap.size + 2) 5 .u8 (.slice (some ⟨gk, 0, none⟩) 200 ck) 200 (fun j => if j < k then (xorB f i n g j : Int) else (byteL f j : Int)) ∧ hasRow wr (w.heap.size + 1) 25 ∧ Below w.heap.size w wr)) (fun i' _ => 200 - (intOf i').toNat)
  case atStart => exact ⟨0, by omega, rfl, HI⟩
  case round =>
    clear HI
    obtain ⟨k, hk, rfl, HI⟩ := hrel
    by_cases hlt : k < 200
    · by_cases hin : winF i n ≤ k ∧ k < winF i n + winM i n
      · have hxB : Hid (xorB f i n g k = byteL f k ^^^ g ((k : Int) - i).toNat) := Lib.hid (by unfold xorB; rw [if_pos hin])
        obtain ⟨h1, h2, h3⟩ := win_in hin
        clear hin
        obtain ⟨m, hm⟩ : ∃ m, Hid (m = ((k : Int) - i).toNat) := ⟨_, Lib.hid rfl⟩
        rw [← hm.out] at h2 h3 hxB
        have hkm : (k : Int) - i = (m : Int) := h3.symm
        have hwm : IntKind.i64.wrap ((m : Nat) : Int) = (m : Int) := by rw [IntKind.wrap_i64]; omega
        have hmn : ((m : Nat) : Int) < (n : Int) := by omega
        clear h3
        obtain ⟨p1, p2, p3⟩ := HI.out
        obtain ⟨g1, c1, e, _, _, _, hcs⟩ := owns_at p1 (by decide)
        cases e
        obtain ⟨hcell1, hfr1⟩ := hcs k hlt
        rw [if_neg (Nat.lt_irrefl k)] at hcell1
        obtain ⟨b2, o2, rfl, hc2⟩ := reads_below (Nat.le_refl _) p3 HR.out (by omega)
        have hcell2 := hc2 m h2
        obtain ⟨x, ex⟩ : ∃ x, Hid (x = byteL f k) := ⟨_, Lib.hid rfl⟩
        obtain ⟨y, ey⟩ : ∃ y, Hid (y = g m) := ⟨_, Lib.hid rfl⟩
        simp only [← ex.out, ← ey.out] at hcell1 hcell2
        have CX := Lib.hid (rxor8_w x y (by rw [ex.out]; exact byteL_lt _ _) (by rw [ey.out]; exact HG.out m h2) wr.drew)
        clear p1 p2 p3 hcs hc2
        go_wp2_with fail
        refine region_tail 14 (by kernel_rfl) (by kernel_rfl) rfl ?_
        simp only [List.take_succ_cons, List.take_zero, List.drop_succ_cons, List.drop_zero]
        iterate 12 still_step
        still_call CX.out
        still_step
        refine wpStill_nil ?_
        go_wp2
        go_roundw
        case rel =>
          obtain ⟨p1, p2, p3⟩ := HI.out
          have hgr : wr.grownBy (wr.drew.setCell ⟨gk, k, none⟩ (.int .u8 ((x ^^^ y : Nat) : Int))) (some gk) := by
            rw [Sort.setCell_eq]
            have h := grownBy_mapBlock wr.drew gk (·.setIfInBounds k (.int .u8 ((x ^^^ y : Nat) : Int)))
            exact ⟨h.os, h.tape, h.output, h.size, h.block⟩
          refine ⟨k + 1, by omega, by go_num, Lib.hid ⟨?_, hasRow_grown hgr (by omega) p2, p3.trans (below_own hgr (by omega) p3.size)⟩⟩
          have p1' : owns wr.drew (w.heap.size + 2) 5 .u8 (.slice (some ⟨gk, 0, none⟩) 200 ck) 200 (fun j => if j < k then (xorB f i n g j : Int) else (byteL f j : Int)) := p1
          refine owns_ext (fun j hj => ?_) (owns_setCell p1' k _)
          by_cases h : j = k
          · subst h
            rw [if_pos rfl, if_pos (Nat.lt_succ_self _), hxB.out, ex.out, ey.out]
          · rw [if_neg h]
            by_cases h2 : j < k
            · rw [if_pos h2, if_pos (by omega)]
            · rw [if_neg h2, if_neg (by omega)]
        case measure => simp [intOf]; omega
      · have hxB : Hid (xorB f i n g k = byteL f k) := Lib.hid (by unfold xorB; rw [if_neg hin])
        have hno : ¬ (i ≤ (k : Int) ∧ (k : Int) - i < n) := fun h => hin ((win_iff i n k hlt).1 h)
        clear hin
        have hnext : Hid (owns wr (w.heap.size + 2) 5 .u8 (.slice (some ⟨gk, 0, none⟩) 200 ck) 200 (fun j => if j < k + 1 then (xorB f i n g j : Int) else (byteL f j : Int)) ∧ hasRow wr (w.heap.size + 1) 25 ∧ Below w.heap.size w wr) := by
          obtain ⟨p1, p2, p3⟩ := HI.out
          refine Lib.hid ⟨owns_ext (fun j hj => ?_) p1, p2, p3⟩
          by_cases h : j = k
          · subst h
            rw [if_neg (Nat.lt_irrefl j), if_pos (Nat.lt_succ_self _), hxB.out]
          · by_cases h2 : j < k
            · rw [if_pos h2, if_pos (by omega)]
            · rw [if_neg h2, if_neg (by omega)]
        clear HI
        by_cases h1 : i ≤ (k : Int)
        · have h2 : (n : Int) ≤ (k : Int) - i := by omega
          clear hno
          by_cases h3 : (k : Int) - i < 9223372036854775808
          · go_wp2
            go_roundw
            case rel => exact ⟨k + 1, by omega, by go_num, hnext⟩
            case measure => simp [intOf]; omega
          · have hd2 : wrap64 ((k : Int) - i) < 0 := by unfold wrap64; omega
            clear h1 h2
            go_wp2
            go_roundw
            case rel => exact ⟨k + 1, by omega, by go_num, hnext⟩
            case measure => simp [intOf]; omega
        · have h2 : (k : Int) < i := by omega
          clear hno h1
          go_wp2
          go_roundw
          case rel => exact ⟨k + 1, by omega, by go_num, hnext⟩
          case measure => simp [intOf]; omega
    · obtain rfl : k = 200 := by omega
      obtain ⟨p1, p2, p3⟩ := HI.out
      obtain ⟨_, _, e, _, _, hr3⟩ := owns_reads p1
      cases e
      have CO := Lib.hid (rlof_w _ ck (fun j => (xorB f i n g j : Int)) wr (reads_ext (fun j hj => by rw [if_pos hj]) hr3) (fun j hj => by have := xorB_lt f i n g HG.out j; omega))
      have P3 := Lib.hid p3
      have P2 := Lib.hid p2
      clear HI p1 p2 p3 hr3
      go_wp2_with (go_at_call 75; (with_reducible refine CO.out.mono ?_); rintro e w4 ⟨rfl, hb⟩; have p2 := hasRow_below (Nat.le_refl _) hb P2.out; have P4 := Lib.hid (bl_call P3.out hb); clear hb)
      obtain ⟨r1, r2, r3⟩ := row_setRow p2 (vals .u64 25 (fun j => leN (fun t => (xorB f i n g t : Int)) (j * 8) 8)) (vals_size _ _ _)
      refine bodyPost_ret (results_row arr25 rfl _ (w.heap.size + 1) rfl r1) rfl ⟨?_, ?_⟩
      · rw [r2]
      · exact P4.out.trans (below_setRow' (by omega) _)

set_option maxRecDepth 100000 in
set_option maxHeartbeats 2000000 in
theorem rlout_w (f : Nat → Nat) (hf : ∀ j, j < 25 → f j < 18446744073709551616) (i n : Int) (hi : -9223372036854775808 ≤ i ∧ i < 9223372036854775808) (hn : -9223372036854775808 ≤ n ∧ n < 9223372036854775808) (w : World) :
    Calls Try.prog 61 #[.agg (vals .u64 25 (fun j => (f j : Int))), .int .i64 i, .int .i64 n] w fun e w' => ∃ v, e = .returned v ∧ owns w' w.heap.size 5 .u8 v (winM i n) (fun j => (byteL f (winF i n + j) : Int)) ∧ Below w.heap.size w w' := by
  obtain ⟨hi1, hi2⟩ := hi
  obtain ⟨hn1, hn2⟩ := hn
  have HF := Lib.hid hf
  clear hf
  go_enter Try.func61, Try.ntmps61
  go_wp2_with fail
  have q3 : Below w.heap.size w (w.alloc (.cells (vals .u64 25 (fun j => (f j : Int))) 56)) := bl_alloc (bl_refl w)
  generalize w.alloc (.cells (vals .u64 25 (fun j => (f j : Int))) 56) = W2 at q3 ⊢
  refine (rlbytes_w f W2 HF.out).mono ?_
  rintro e w3 ⟨v, rfl, ho, hb⟩
  obtain ⟨gk, ck, rfl, hck, hgk, _, _⟩ := owns_at ho (by decide)
  obtain ⟨_, _, e, _, _, hr3⟩ := owns_reads ho
  cases e
  have R3 := Lib.hid hr3
  have Q3 := Lib.hid (bl_call q3 hb)
  clear ho hb hgk q3 hr3
  obtain ⟨F, hF⟩ : ∃ F, Hid (F = winF i n) := ⟨_, Lib.hid rfl⟩
  obtain ⟨N, hN⟩ : ∃ N, Hid (N = winM i n) := ⟨_, Lib.hid rfl⟩
  have HWI : Hid (∀ j : Nat, j < 200 → ((i ≤ (j : Int) ∧ (j : Int) - i < n) ↔ (F ≤ j ∧ j < F + N))) := Lib.hid (by rw [hF.out, hN.out]; exact win_iff i n)
  have hFN : F + N ≤ 200 := by rw [hF.out, hN.out]; exact win_le i n
  go_wp2
  go_loopw [8, 9] (fun v i' wr => ∃ k m : Nat, k ≤ 200 ∧ m = min (k - F) N ∧ i' = .int .i64 k ∧ Hid (owns wr w3.heap.size 5 .u8 v m (fun j => (byteL f (F + j) : Int)) ∧ Below w3.heap.size w3 wr)) (fun _ i' _ => 200 - (intOf i').toNat)
  case atStart => exact ⟨0, 0, by omega, by omega, rfl, Lib.hid ⟨owns_nil _ _ _ _ _, bl_refl _⟩⟩
  case round =>
    obtain ⟨k, m, hk, hm, rfl, HI⟩ := hrel
    have HM := Lib.hid hm
    clear hm
    by_cases hlt : k < 200
    · by_cases hin : F ≤ k ∧ k < F + N
      · obtain ⟨h1, h2⟩ := (HWI.out k hlt).2 hin
        have hkm : F + m = k := by have := HM.out; omega
        have hm2 : Hid (m + 1 = min (k + 1 - F) N) := Lib.hid (by have := HM.out; omega)
        have hm3 : m ≤ 200 := by omega
        clear hin
        obtain ⟨p1, p2⟩ := HI.out
        obtain ⟨_, _, e, hc⟩ := reads_below (Nat.le_refl _) p2 R3.out (by decide)
        cases e
        have hcell := hc k hlt
        rw [Nat.zero_add] at hcell
        have h0 : 0 ≤ (k : Int) - i := by omega
        have h3 : wrap64 ((k : Int) - i) = (k : Int) - i := by unfold wrap64; omega
        obtain ⟨y, ey⟩ : ∃ y : Int, Hid (y = putL64 f k) := ⟨_, Lib.hid rfl⟩
        simp only [← ey.out] at hcell
        have hs2 := p2.size
        have P1 := Lib.hid p1
        clear p1 p2 hc
        go_wp2_with (at_builtin; refine append_one elt8w rfl (.tmp 32) (.tmp 37) rfl rfl P1.out rfl rfl (by unfold maxLen; omega) (by omega) hs2 ?_; intro v' w4 hown hbl)
        go_roundw
        case rel =>
          refine ⟨k + 1, m + 1, by omega, hm2.out, by go_num, Lib.hid ⟨owns_ext (fun j hj => ?_) hown, HI.out.2.trans hbl⟩⟩
          by_cases h : j < m
          · rw [if_pos h]
          · obtain rfl : j = m := by omega
            rw [if_neg h, ey.out, hkm]
            rfl
        case measure => simp [intOf]; omega
      · have hno : ¬ (i ≤ (k : Int) ∧ (k : Int) - i < n) := fun h => hin ((HWI.out k hlt).1 h)
        have hm2 : Hid (m = min (k + 1 - F) N) := Lib.hid (by have := HM.out; omega)
        clear hin
        by_cases h1 : i ≤ (k : Int)
        · have h2 : n ≤ (k : Int) - i := by omega
          clear hno
          by_cases h3 : (k : Int) - i < 9223372036854775808
          · go_wp2
            go_roundw
            case rel => exact ⟨k + 1, m, by omega, hm2.out, by go_num, HI⟩
            case measure => simp [intOf]; omega
          · have hd2 : wrap64 ((k : Int) - i) < 0 := by unfold wrap64; omega
            clear h1 h2
            go_wp2
            go_roundw
            case rel => exact ⟨k + 1, m, by omega, hm2.out, by go_num, HI⟩
            case measure => simp [intOf]; omega
        · have h2 : (k : Int) < i := by omega
          clear hno h1
          go_wp2
          go_roundw
          case rel => exact ⟨k + 1, m, by omega, hm2.out, by go_num, HI⟩
          case measure => simp [intOf]; omega
    · obtain rfl : k = 200 := by omega
      have hmN : m = N := by have := HM.out; omega
      subst hmN
      obtain ⟨p1, p2⟩ := HI.out
      have P1 := Lib.hid p1
      have P2 := Lib.hid p2
      clear HI p1 p2
      go_wp2
      go_ret
      exact ⟨_, rfl, by rw [← hN.out, ← hF.out]; exact owns_base Q3.out.size P1.out, bl_call Q3.out P2.out⟩
end Go.Proofs.Ytohieonpegeokaa
