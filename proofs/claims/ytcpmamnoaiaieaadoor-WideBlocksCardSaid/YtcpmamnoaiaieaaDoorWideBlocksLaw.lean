/- The walk of the law WideBlocks. -/
import Derived.Test.YtcpmamnoaiaieaaDoorWideRoundsLaw
namespace Go.Proofs.YtcpmamnoaiaieaaDoor
open Go.RowKit Go.Shelf Go.Sort Bt
attribute [local go_sem] vals_set vals_get? vals_get vals_size rowAt_at rowAt_past hasRow_at hasRow_past run_loadRow run_storeCells_row setRow_at setRow_past rowAt_drewN hasRow_drewN setRow_drewN alloc_drewN setCell_drewN lt_s2 lt_s3 lt_s4 lt_s5 lt_s6
attribute [local go_sem ↓] loadRow_is

/-- 's[l:h]' under a name that the walk leaves standing -/
def cutOf (t : TypeId) (x : Value) (low high max : Option Value) : Sem Value := Instr.sliceAt t x low high max
theorem cutOf_is (t : TypeId) (x : Value) (low high max : Option Value) : Instr.sliceAt t x low high max = cutOf t x low high max := by unfold cutOf; rfl
theorem add_zero_addr (x : Addr) : x.add 0 = x := by
  unfold Addr.add
  rcases x with ⟨b, o, _ | ⟨_⟩⟩ <;> simp
def subAddr (a : Option Addr) (cap n : Nat) : Option Addr := if cap = n then a else a.map (·.add n)
theorem reads_sub {W : World} {a : Option Addr} {len cap : Nat} {k : IntKind} {f : Nat → Int} (n : Nat) (hcap : len ≤ cap) (h : reads W a len k f) : reads W (subAddr a cap n) (len - n) k (fun j => f (n + j)) := by
  intro hp
  obtain ⟨b, off, rfl, hc⟩ := h (by omega)
  refine ⟨b, off + n, ?_, fun j hj => ?_⟩
  · unfold subAddr
    rw [if_neg (by omega), Option.map_some, Addr.add_lit]
  · rw [Nat.add_assoc]
    exact hc (n + j) (by omega)
theorem run_cut_hi {P : Program} {T e : TypeId} {i : TypeInfo} (hu : P.underlying T = some (.slice e)) (hi : P.info? e = some i) (_hs : i.size = 1) (a : Option Addr) (len cap n : Nat) (hn : n ≤ cap) (W : World) :
    (cutOf T (.slice a len cap) none (some (.int .i64 (n : Int))) none).run P W = .ok (.slice a n cap) W := by
  have h3 : ¬ cap < n := by omega
  unfold cutOf
  simp [Instr.sliceAt, Instr.slice, Instr.sliceBounds, Instr.sliceBound, asIntOf, run_underlying hu, sizeOf, typeInfo, hi, add_zero_addr]
  exact fun h => absurd h h3
theorem run_cut_lo {P : Program} {T e : TypeId} {i : TypeInfo} (hu : P.underlying T = some (.slice e)) (hi : P.info? e = some i) (hs : i.size = 1) (a : Option Addr) (len cap n : Nat) (hn : n ≤ len) (W : World) :
    (cutOf T (.slice a len cap) (some (.int .i64 (n : Int))) none none).run P W = .ok (.slice (subAddr a cap n) (len - n) (cap - n)) W := by
  have h3 : ¬ len < n := by omega
  unfold cutOf subAddr
  simp [Instr.sliceAt, Instr.slice, Instr.sliceBounds, Instr.sliceBound, asIntOf, run_underlying hu, sizeOf, typeInfo, hi, hs]
  exact fun h => absurd h h3
attribute [local go_sem ↓] cutOf_is
theorem nat_u8 {n : Int} (h : (Lit.int .u8 n).wf = true) : 0 ≤ n ∧ n < 256 := by
  simp [Lit.wf, IntKind.min, IntKind.max, IntKind.signed, IntKind.bits] at h
  omega
set_option maxRecDepth 100000 in
set_option maxHeartbeats 2000000 in
theorem wideBlocks_walk (f' : Nat → Int) (a : Option Addr) (len cap : Nat) (g : Nat → Int) (cut : Int) (w : World) (hf' : ∀ j, j < 8 → 0 ≤ f' j ∧ f' j < 18446744073709551616) (_hn : len ≤ maxLen) (hr : reads w a len .u8 g) (hg : ∀ j, j < len → 0 ≤ g j ∧ g j < 256) (hcap : len ≤ cap) (hcut : (Lit.int .u8 cut).wf = true) (hT : TabsW w) :
    Calls Tryd.prog 5 #[.agg (vals .u64 8 f'), .slice a len cap, .int .u8 cut] w fun e w' => e = .returned (.bool true) ∧ Below w.heap.size w w' := by
  obtain ⟨f, e0, hf⟩ := nat_vals8 f' hf'
  obtain ⟨c, rfl, hc256⟩ : ∃ n : Nat, cut = n ∧ n < 256 := ⟨cut.toNat, by have := nat_u8 hcut; omega, by have := nat_u8 hcut; omega⟩
  rw [e0]
  clear e0 hf' hcut
  have HT : Hid (Tabs64 w ∧ Tab80 w) := Lib.hid hT
  have HR := Lib.hid hr
  have HF := Lib.hid hf
  have HGb := Lib.hid hg
  have HW := Lib.hid (bl_alloc (o := .cells (vals .u64 8 (fun j => (f j : Int))) 31) (bl_refl w))
  have hrw := hasRow_at w (vals .u64 8 (fun j => (f j : Int))) 31 w.heap.size 8 rfl (vals_size _ _ _)
  have hra := rowAt_at w (vals .u64 8 (fun j => (f j : Int))) 31 w.heap.size rfl
  clear hT hr hf hg
  by_cases h600 : 600 < len
  · have h600' : (600 : Int) < (len : Int) := by omega
    go_enter Tryd.func5, Tryd.ntmps5
    go_wp2_with fail
    generalize w.alloc (.cells (vals .u64 8 (fun j => (f j : Int))) 31) = W1 at HW hrw hra ⊢
    refine (wakes_w W1 (HT.out.1.below (Nat.le_refl _) HW.out) (HT.out.2.below (Nat.le_refl _) HW.out)).mono ?_
    rintro e w1 ⟨rfl, hb1⟩
    go_wp2
    go_ret
    exact ⟨rfl, bl_call HW.out hb1⟩
  · have h600' : ¬ (600 : Int) < (len : Int) := by omega
    have hlen : len ≤ 1000000 := by omega
    obtain ⟨q, hq⟩ : ∃ q, Hid (q = len / 128) := ⟨_, Lib.hid rfl⟩
    have hq1 : q * 128 ≤ len := by rw [hq.out]; omega
    have hq2 : Int.tdiv (len : Int) 128 = (q : Int) := by rw [Int.tdiv_eq_ediv_of_nonneg (by omega), hq.out]; omega
    have hw0 : IntKind.i64.wrap (c : Int) = (c : Int) := by rw [IntKind.wrap_i64]; omega
    have hw1 : IntKind.i64.wrap ((c : Int) * 128) = (c : Int) * 128 := by rw [IntKind.wrap_i64]; omega
    have hw2 : IntKind.i64.wrap (q : Int) = (q : Int) := by rw [IntKind.wrap_i64]; omega
    obtain ⟨n2, hn2⟩ : ∃ n2, Hid (n2 = q * 128) := ⟨_, Lib.hid rfl⟩
    have hw3 : IntKind.i64.wrap ((q : Int) * 128) = (n2 : Int) := by rw [IntKind.wrap_i64, hn2.out]; omega
    have CB : Hid (∀ W, Below w.heap.size w W → Calls Tryd.prog 12 #[.agg (vals .u64 8 (fun j => (f j : Int))), .slice a len cap] W fun e w' => e = .returned (.agg (vals .u64 8 (fun j => (blocks64 f g q j : Int)))) ∧ Below W.heap.size W w') := Lib.hid (fun W h => by rw [hq.out]; exact blocks_w f HF.out a len cap hlen hcap g W (reads_below (Nat.le_refl _) h HR.out) HGb.out (HT.out.1.below (Nat.le_refl _) h) (HT.out.2.below (Nat.le_refl _) h))
    have CR : Hid (∀ W, Below w.heap.size w W → Calls Tryd.prog 13 #[.agg (vals .u64 8 (fun j => (f j : Int))), .slice a len cap] W fun e w' => e = .returned (.agg (vals .u64 8 (fun j => (blocks64 f g q j : Int)))) ∧ Below W.heap.size W w') := Lib.hid (fun W h => by rw [hq.out]; exact rblocks_w f HF.out a len cap hlen hcap g W (reads_below (Nat.le_refl _) h HR.out) HGb.out)
    have CB3 : Hid (∀ W, Below w.heap.size w W → Calls Tryd.prog 12 #[.agg (vals .u64 8 (fun j => (f j : Int))), .slice a (q * 128) cap] W fun e w' => e = .returned (.agg (vals .u64 8 (fun j => (blocks64 f g q j : Int)))) ∧ Below W.heap.size W w') := Lib.hid (fun W h => by
      have := blocks_w f HF.out a (q * 128) cap (by omega) (by omega) g W (reads_below (Nat.le_refl _) h (fun hp => by obtain ⟨b, off, e, hc⟩ := HR.out (by omega); exact ⟨b, off, e, fun j hj => hc j (by omega)⟩)) (fun j hj => HGb.out j (by omega)) (HT.out.1.below (Nat.le_refl _) h) (HT.out.2.below (Nat.le_refl _) h)
      rw [Nat.mul_div_cancel q (by omega)] at this
      exact this)
    obtain ⟨m, hm1, hm2⟩ : ∃ m : Nat, m ≤ q ∧ min ((c : Int) * 128) (n2 : Int) = ((m * 128 : Nat) : Int) := by
      rw [hn2.out]
      by_cases h : c ≤ q
      · exact ⟨c, h, by omega⟩
      · exact ⟨q, Nat.le_refl _, by omega⟩
    obtain ⟨n1, hn1⟩ : ∃ n1, Hid (n1 = m * 128) := ⟨_, Lib.hid rfl⟩
    rw [← hn1.out] at hm2
    have CB1 : Hid (∀ W, Below w.heap.size w W → Calls Tryd.prog 12 #[.agg (vals .u64 8 (fun j => (f j : Int))), .slice a (m * 128) cap] W fun e w' => e = .returned (.agg (vals .u64 8 (fun j => (blocks64 f g m j : Int)))) ∧ Below W.heap.size W w') := Lib.hid (fun W h => by
      have := blocks_w f HF.out a (m * 128) cap (by omega) (by omega) g W (reads_below (Nat.le_refl _) h (fun hp => by obtain ⟨b, off, e, hc⟩ := HR.out (by omega); exact ⟨b, off, e, fun j hj => hc j (by omega)⟩)) (fun j hj => HGb.out j (by omega)) (HT.out.1.below (Nat.le_refl _) h) (HT.out.2.below (Nat.le_refl _) h)
      rw [Nat.mul_div_cancel m (by omega)] at this
      exact this)
    have CB2 : Hid (∀ W, Below w.heap.size w W → Calls Tryd.prog 12 #[.agg (vals .u64 8 (fun j => (blocks64 f g m j : Int))), .slice (subAddr a cap (m * 128)) (len - m * 128) (cap - m * 128)] W fun e w' => e = .returned (.agg (vals .u64 8 (fun j => (blocks64 f g q j : Int)))) ∧ Below W.heap.size W w') := Lib.hid (fun W h => by
      have := blocks_w (blocks64 f g m) (blocks64_lt f g HF.out m) (subAddr a cap (m * 128)) (len - m * 128) (cap - m * 128) (by omega) (by omega) (fun j => g (m * 128 + j)) W (reads_below (Nat.le_refl _) h (reads_sub (m * 128) hcap HR.out)) (fun j hj => HGb.out _ (by omega)) (HT.out.1.below (Nat.le_refl _) h) (HT.out.2.below (Nat.le_refl _) h)
      rw [← blocks64_add, show m + (len - m * 128) / 128 = q by rw [hq.out]; omega] at this
      exact this)
    obtain ⟨i8, hi8, _, _, hs8, _⟩ : ∃ i, Tryd.prog.info? 5 = some i ∧ True ∧ True ∧ i.size = 1 ∧ True := by
      obtain ⟨i, h1, h2, h3, h4⟩ := info_parts (P := Tryd.prog) (e := 5) (z := .int .u8 0) (size := 1) (bytes := 1) (by kernel_rfl)
      exact ⟨i, h1, trivial, trivial, h3, trivial⟩
    have hc1 := fun W => run_cut_hi (P := Tryd.prog) Tryd.underlying22 hi8 hs8 a len cap (m * 128) (by omega) W
    have hc2 := fun W => run_cut_lo (P := Tryd.prog) Tryd.underlying22 hi8 hs8 a len cap (m * 128) (by omega) W
    have hc3 := fun W => run_cut_hi (P := Tryd.prog) Tryd.underlying22 hi8 hs8 a len cap (q * 128) (by omega) W
    obtain ⟨X, hX⟩ : ∃ X, Hid (X = blocks64 f g q) := ⟨_, Lib.hid rfl⟩
    obtain ⟨V, hV⟩ : ∃ V, Hid (V = blocks64 f g m) := ⟨_, Lib.hid rfl⟩
    rw [← hX.out] at CB CR CB3 CB2
    rw [← hV.out] at CB1 CB2
    rw [← hn1.out] at CB1 CB2 hc1 hc2
    rw [← hn2.out] at CB3 hc3
    clear hm1 hq1 h600
    have he := fun W => (eq8 (fun j => (X j : Int)) (fun j => (X j : Int)) W).trans (by rw [allEq_true fun _ _ => rfl])
    have hz8 := zero8
    clear hi8 hs8
    go_enter Tryd.func5, Tryd.ntmps5
    go_wp2_with fail
    generalize w.alloc (.cells (vals .u64 8 (fun j => (f j : Int))) 31) = W1 at HW hrw hra ⊢
    refine (wakes_w W1 (HT.out.1.below (Nat.le_refl _) HW.out) (HT.out.2.below (Nat.le_refl _) HW.out)).mono ?_
    rintro e w1 ⟨rfl, hb1⟩
    have HX : Hid (Below w.heap.size w w1 ∧ hasRow w1 w.heap.size 8 ∧ rowAt w1 w.heap.size = vals .u64 8 (fun j => (f j : Int))) := Lib.hid ⟨bl_call HW.out hb1, row_below hb1 ⟨hrw, hra⟩⟩
    have x1 := HX.out.2.1
    have x2 := HX.out.2.2
    clear hrw hra hb1 HW
    go_wp2_with (go_at_call 12; (with_reducible refine (CB.out _ HX.out.1).mono ?_); rintro e w2 ⟨rfl, hb2⟩; have HY := Lib.hid (And.intro (bl_call HX.out.1 hb2) (row_below hb2 HX.out.2)); clear hb2)
    have HZ : Hid ((Below w.heap.size w (w2.alloc (.cells (vals .u64 8 (fun j => (X j : Int))) 31)).drew) ∧ (hasRow (w2.alloc (.cells (vals .u64 8 (fun j => (X j : Int))) 31)).drew w.heap.size 8 ∧ rowAt (w2.alloc (.cells (vals .u64 8 (fun j => (X j : Int))) 31)).drew w.heap.size = vals .u64 8 (fun j => (f j : Int))) ∧ (hasRow (w2.alloc (.cells (vals .u64 8 (fun j => (X j : Int))) 31)).drew w2.heap.size 8 ∧ rowAt (w2.alloc (.cells (vals .u64 8 (fun j => (X j : Int))) 31)).drew w2.heap.size = vals .u64 8 (fun j => (X j : Int)))) := Lib.hid ⟨bl_drew (bl_alloc HY.out.1), row_below (bl_drew (bl_alloc (bl_refl w2))) HY.out.2, ⟨hasRow_at w2 _ _ w2.heap.size 8 rfl (vals_size _ _ _), rowAt_at _ _ _ _ rfl⟩⟩
    clear HX x1 x2 HY hz8 hw0 hw1 CB
    generalize w2.heap.size = gx at HZ ⊢
    go_region_held3 (fun W => Below w.heap.size w W ∧ (hasRow W w.heap.size 8 ∧ rowAt W w.heap.size = vals .u64 8 (fun j => (f j : Int))) ∧ (hasRow W gx 8 ∧ rowAt W gx = vals .u64 8 (fun j => (X j : Int)))) (first | assumption | exact HZ.out | exact HZ1.out | exact HZ2.out | exact HZ3.out | exact HZ4.out) (first | (go_at_call 13; (with_reducible refine (CR.out _ HZ.out.1).mono ?_); rintro e w3 ⟨rfl, hb⟩; have HZ1 := Lib.hid (And.intro (bl_call HZ.out.1 hb) (And.intro (row_below hb HZ.out.2.1) (row_below hb HZ.out.2.2))); clear hb) | (go_at_call 12; (with_reducible refine (CB1.out _ HZ1.out.1).mono ?_); rintro e w4 ⟨rfl, hb⟩; have HZ2 := Lib.hid (And.intro (bl_call HZ1.out.1 hb) (And.intro (row_below hb HZ1.out.2.1) (row_below hb HZ1.out.2.2))); clear hb) | (go_at_call 12; (with_reducible refine (CB2.out _ HZ2.out.1).mono ?_); rintro e w5 ⟨rfl, hb⟩; have HZ3 := Lib.hid (And.intro (bl_call HZ2.out.1 hb) (And.intro (row_below hb HZ2.out.2.1) (row_below hb HZ2.out.2.2))); clear hb) | (go_at_call 12; (with_reducible refine (CB3.out _ HZ3.out.1).mono ?_); rintro e w6 ⟨rfl, hb⟩; have HZ4 := Lib.hid (And.intro (bl_call HZ3.out.1 hb) (And.intro (row_below hb HZ3.out.2.1) (row_below hb HZ3.out.2.2))); clear hb))
    all_goals go_wp2
    all_goals go_ret
    all_goals exact ⟨rfl, HZ4.out.1⟩
end Go.Proofs.YtcpmamnoaiaieaaDoor
