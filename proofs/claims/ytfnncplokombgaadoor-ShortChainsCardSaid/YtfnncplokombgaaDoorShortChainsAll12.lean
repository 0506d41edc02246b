/- Part 12 of 20 of what the proof of this law needs. Merged by merge.py out of: ShortBody ShortPieces CoH CoI. -/
import Derived.Test.YtfnncplokombgaaDoorShortChainsAll11
import Derived.Test.YtfnncplokombgaaDoorTabShort
import Derived.Conc.EventLaws2
import Derived.Conc.TokenWalk
/- The body of short.Blocks' loop over the schedules, walked alone. -/
namespace Go.Proofs.YtfnncplokombgaaDoor
open Go.RowKit Go.Shelf Go.Sort Bt
attribute [local go_sem] vals_set vals_get? vals_get vals_size rowAt_at rowAt_past hasRow_at hasRow_past run_loadRow run_storeCells_row setRow_at setRow_past rowAt_drewN hasRow_drewN setRow_drewN alloc_drewN setCell_drewN lt_s2 lt_s3 lt_s4 lt_s5 lt_s6
attribute [local go_sem ↓] loadRow_is

/-- all blocks but g are as they were -/
structure Off (g : Nat) (w w1 : World) : Prop where
  size : w.heap.size ≤ w1.heap.size
  block : ∀ k, k < w.heap.size → k ≠ g → w1.heap[k]? = w.heap[k]?
theorem Off.refl (g : Nat) (w : World) : Off g w w := ⟨Nat.le_refl _, fun _ _ _ => rfl⟩
theorem Off.below {g : Nat} {w w1 w2 : World} (h : Off g w w1) (h2 : Below w1.heap.size w1 w2) : Off g w w2 := ⟨Nat.le_trans h.size h2.size, fun k h3 h4 => (h2.block k (Nat.lt_of_lt_of_le h3 h.size)).trans (h.block k h3 h4)⟩
theorem Off.grown {g g' : Nat} {w w1 w2 : World} (h : Off g w w1) (h2 : w1.grownBy w2 (some g')) (hg : g' = g ∨ w.heap.size ≤ g') : Off g w w2 :=
  ⟨Nat.le_trans h.size h2.size, fun k h3 h4 => (h2.block k (Nat.lt_of_lt_of_le h3 h.size) (fun e => by cases e; omega)).trans (h.block k h3 h4)⟩
theorem Off.cell {g : Nat} {w w1 : World} (h : Off g w w1) {a : Addr} {v : Value} (hv : w.cell? a = some v) (hg : a.block ≠ g) : w1.cell? a = some v := by
  rw [← hv]
  unfold World.cell?
  rw [h.block a.block (World.block_lt_of_cell? w a hv) hg]
theorem Off.tabs {g : Nat} {w w1 : World} (h : Off g w w1) (hg : 2 < g) (ht : Tabs32 w) : Tabs32 w1 :=
  ⟨fun j hj => h.cell (ht.1 j hj) (by show 1 ≠ g; omega), fun j hj => h.cell (ht.2 j hj) (by show 0 ≠ g; omega)⟩
theorem Off.row {g g' n : Nat} {w w1 : World} {c : Array Value} (h : Off g w w1) (hg : g' ≠ g) (hr : hasRow w g' n ∧ rowAt w g' = c) : hasRow w1 g' n ∧ rowAt w1 g' = c := by
  have e := h.block g' (lt_of_hasRow hr.1) hg
  unfold hasRow rowAt at *
  rw [e]
  exact hr
/-- one block's words upon a value -/
def blockS (v S : Nat → Nat) (j : Nat) : Nat := (v j + rounds32 v k32c S 64 j) % 4294967296
theorem row_heap {W : World} {g n : Nat} {c : Array Value} (h : hasRow W g n ∧ rowAt W g = c) : ∃ t, W.heap[g]? = some (.cells c t (0, 0)) := by
  obtain ⟨⟨c', t, h1, _⟩, h2⟩ := h
  unfold rowAt at h2
  rw [h1] at h2
  dsimp only at h2
  exact ⟨t, by rw [h1, h2]⟩
set_option maxRecDepth 100000 in
set_option maxHeartbeats 8000000 in
theorem body_wp (x0 x1 x3 x4 x6 x7 x8 x9 x10 x11 x12 x13 x14 x15 x16 x18 x19 x20 x21 x22 x23 x24 x25 x26 x27 x28 x29 x30 x31 x32 x33 x34 x35 x36 x37 x38 x39 x40 x41 x42 x43 x44 x45 : Value) (gv gk : Nat) (V S : Nat → Nat) (w : World) (_hne : gv ≠ gk) (hg : 2 < gv) (hv : hasRow w gv 8 ∧ rowAt w gv = vals .u32 8 (fun j => (V j : Int))) (hk : hasRow w gk 64 ∧ rowAt w gk = vals .u32 64 (fun j => (k32c j : Int))) (hV : ∀ j, j < 8 → V j < 4294967296) (hT : Tabs32 w) :
    B12.wp Tryd.prog (fun e a' w' => e = .normal ∧ a'.defers = [] ∧ (a'.tmps.size = 46 ∧ a'.tmps[2]? = some (.pointer (some ⟨gv, 0, none⟩)) ∧ a'.tmps[4]? = some x4 ∧ a'.tmps[5]? = some (.pointer (some ⟨gk, 0, none⟩)) ∧ a'.tmps[16]? = some x16 ∧ (∃ t, w'.heap[gv]? = some (.cells (vals .u32 8 (fun j => (blockS V S j : Int))) t (0, 0))) ∧ ∀ k, k < w.heap.size → k ≠ gv → w'.heap[k]? = w.heap[k]?)) ⟨#[x0, x1, .pointer (some ⟨gv, 0, none⟩), x3, x4, .pointer (some ⟨gk, 0, none⟩), x6, x7, x8, x9, x10, x11, x12, x13, x14, x15, x16, .tuple #[.agg (vals .u32 64 (fun j => (S j : Int))), .bool true], x18, x19, x20, x21, x22, x23, x24, x25, x26, x27, x28, x29, x30, x31, x32, x33, x34, x35, x36, x37, x38, x39, x40, x41, x42, x43, x44, x45], []⟩ w := by
  have HV := Lib.hid hV
  have HT := Lib.hid hT
  have H0 := Lib.hid hv
  have HK := Lib.hid hk
  have hvs := lt_of_hasRow hv.1
  have hks := lt_of_hasRow hk.1
  have hz8 := zero8
  have hz := zero64w
  have hzv := zv64w
  have v1 := hv.1
  have v2 := hv.2
  clear hV hT hk hv
  have v3 := hasRow_below (Nat.le_refl _) (bl_alloc (o := .cells (vals .u32 64 (fun j => (S j : Int))) 25) (bl_refl w)) v1
  have v4 := (row_below (bl_alloc (o := .cells (vals .u32 64 (fun j => (S j : Int))) 25) (bl_refl w)) ⟨v1, v2⟩).2
  unfold B12 L12 q12 b12
  simp only [cF, cS, Option.getD_some, Tryd.f12]
  go_wp2
  have B5 : Off gv w ((w.alloc (.cells (vals .u32 64 (fun j => (S j : Int))) 25)).alloc (.cells (vals .u32 8 (fun j => (V j : Int))) 31)) := (Off.refl gv w).below (bl_alloc (bl_alloc (bl_refl w)))
  have HB5 := Lib.hid B5
  have hb5 : Below w.heap.size w ((w.alloc (.cells (vals .u32 64 (fun j => (S j : Int))) 25)).alloc (.cells (vals .u32 8 (fun j => (V j : Int))) 31)) := bl_alloc (bl_alloc (bl_refl _))
  have P0 : Hid _ := Lib.hid (row_below hb5 H0.out)
  have PK : Hid _ := Lib.hid (row_below hb5 HK.out)
  have PS : Hid (hasRow ((w.alloc (.cells (vals .u32 64 (fun j => (S j : Int))) 25)).alloc (.cells (vals .u32 8 (fun j => (V j : Int))) 31)) w.heap.size 64 ∧ rowAt ((w.alloc (.cells (vals .u32 64 (fun j => (S j : Int))) 25)).alloc (.cells (vals .u32 8 (fun j => (V j : Int))) 31)) w.heap.size = vals .u32 64 (fun j => (S j : Int))) := Lib.hid (row_below (bl_alloc (bl_refl _)) ⟨hasRow_at _ _ _ _ _ rfl (vals_size _ _ _), rowAt_at _ _ _ _ rfl⟩)
  have PX : Hid (hasRow ((w.alloc (.cells (vals .u32 64 (fun j => (S j : Int))) 25)).alloc (.cells (vals .u32 8 (fun j => (V j : Int))) 31)) (w.heap.size + 1) 8 ∧ rowAt ((w.alloc (.cells (vals .u32 64 (fun j => (S j : Int))) 25)).alloc (.cells (vals .u32 8 (fun j => (V j : Int))) 31)) (w.heap.size + 1) = vals .u32 8 (fun j => (rounds32 V k32c S 0 j : Int))) := Lib.hid ⟨hasRow_at _ _ _ _ _ (by simp) (vals_size _ _ _), rowAt_at _ _ _ _ (by simp)⟩
  clear B5 hb5 H0 HK v1 v2 v3 v4 hz8 hz hzv
  generalize (w.alloc (.cells (vals .u32 64 (fun j => (S j : Int))) 25)).alloc (.cells (vals .u32 8 (fun j => (V j : Int))) 31) = W5 at HB5 P0 PK PS PX ⊢
  obtain ⟨gs, hgs⟩ : ∃ gs, Hid (gs = w.heap.size) := ⟨_, Lib.hid rfl⟩
  rw [← hgs.out] at PS PX hvs hks ⊢
  have hgl : w.heap.size ≤ gs := by rw [hgs.out]; exact Nat.le_refl _
  have hgl := Lib.hid hgl
  go_loopw [21] (fun i W => ∃ t : Nat, t ≤ 64 ∧ i = .int .i64 t ∧ Hid (hasRow W (gs + 1) 8 ∧ rowAt W (gs + 1) = vals .u32 8 (fun j => (rounds32 V k32c S t j : Int))) ∧ Hid (hasRow W gv 8 ∧ rowAt W gv = vals .u32 8 (fun j => (V j : Int))) ∧ Hid (hasRow W gk 64 ∧ rowAt W gk = vals .u32 64 (fun j => (k32c j : Int))) ∧ Hid (hasRow W gs 64 ∧ rowAt W gs = vals .u32 64 (fun j => (S j : Int))) ∧ Hid (Off gv w W)) (fun i _ => 64 - (intOf i).toNat)
  case atStart => exact ⟨0, by omega, rfl, PX, P0, PK, PS, HB5⟩
  case round =>
    clear PX P0 PK PS HB5
    obtain ⟨t, ht, rfl, TX, T0, TK, TS, TB⟩ := hrel
    by_cases ht64 : t < 64
    · have bt : (0 : Int) ≤ (t : Int) ∧ (t : Int) < 64 := by omega
      obtain ⟨X, hX⟩ : ∃ X, Hid (X = rounds32 V k32c S t) := ⟨_, Lib.hid rfl⟩
      rw [← hX.out] at TX
      have hXl : ∀ j, j < 8 → X j < 4294967296 := by rw [hX.out]; exact rounds32_lt _ _ _ HV.out t
      have CR : Hid (∀ W, Tabs32 W → Calls Tryd.prog 10 #[.agg (vals .u32 8 (fun j => (X j : Int))), .int .u32 (k32c t : Nat), .int .u32 (S t : Nat)] W fun e w' => e = .returned (.agg (vals .u32 8 (fun j => (round32 X (k32c t) (S t) j : Int)))) ∧ Below W.heap.size W w') := Lib.hid (fun W h => round32_w X hXl _ _ W h)
      obtain ⟨kt, hkt⟩ : ∃ x, Hid (x = k32c t) := ⟨_, Lib.hid rfl⟩
      obtain ⟨ut, hut⟩ : ∃ x, Hid (x = S t) := ⟨_, Lib.hid rfl⟩
      have ck : wr.drew.cell? ⟨gk, t, none⟩ = some (.int .u32 (kt : Int)) := by rw [hkt.out]; exact (cell_of_hasRow TK.out.1 TK.out.2 ht64).1
      have cu : wr.drew.cell? ⟨gs, t, none⟩ = some (.int .u32 (ut : Int)) := by rw [hut.out]; exact (cell_of_hasRow TS.out.1 TS.out.2 ht64).1
      rw [← hkt.out, ← hut.out] at CR
      have hx1 : hasRow wr.drew (gs + 1) 8 := TX.out.1
      have hx2 : rowAt wr.drew (gs + 1) = vals .u32 8 (fun j => (X j : Int)) := TX.out.2
      have TB1 : Hid (Off gv w wr.drew) := Lib.hid (TB.out.below (bl_drew (bl_refl wr)))
      clear TX hXl
      go_wp2_with fail
      refine region_tail 7 (by kernel_rfl) (by kernel_rfl) rfl ?_
      simp only [List.take_succ_cons, List.take_zero, List.drop_succ_cons, List.drop_zero]
      iterate 7 still_step
      refine wpStill_nil ?_
      go_wp2_with (go_at_call 10; (with_reducible refine (CR.out _ (TB1.out.tabs hg HT.out)).mono ?_); rintro e w3 ⟨rfl, hb3⟩; have hx3 := hasRow_below (Nat.le_refl _) hb3 hx1; have HB3 := Lib.hid hb3; clear hb3)
      obtain ⟨r1, r2, r3⟩ := row_setRow hx3 (vals .u32 8 (fun j => (round32 X kt ut j : Int))) (vals_size _ _ _)
      have RX : rowAt (w3.setRow (gs + 1) (vals .u32 8 (fun j => (round32 X kt ut j : Int)))) (gs + 1) = vals .u32 8 (fun j => (rounds32 V k32c S (t + 1) j : Int)) := by
        rw [r2, hX.out, hkt.out, hut.out]
        rfl
      have hw3 := bl_call (bl_drew (bl_refl wr)) HB3.out
      go_roundw
      case rel => exact ⟨t + 1, by omega, by go_num, Lib.hid ⟨r1, RX⟩, Lib.hid (row_grown r3 (by omega) (row_below hw3 T0.out)), Lib.hid (row_grown r3 (by omega) (row_below hw3 TK.out)), Lib.hid (row_grown r3 (by omega) (row_below hw3 TS.out)), Lib.hid ((TB1.out.below HB3.out).grown r3 (.inr (Nat.le_succ_of_le hgl.out)))⟩
      case measure => simp [intOf]; omega
    · have e64 : Hid (t = 64) := Lib.hid (by omega)
      obtain ⟨X, hX⟩ : ∃ X, Hid (X = rounds32 V k32c S 64) := ⟨_, Lib.hid rfl⟩
      rw [e64.out, ← hX.out] at TX
      clear TS TK
      go_wp2
      go_loopw [33] (fun i W => ∃ t : Nat, t ≤ 8 ∧ i = .int .i64 t ∧ Hid (hasRow W gv 8 ∧ rowAt W gv = vals .u32 8 (fun j => if j < t then (((V j + X j) % 4294967296 : Nat) : Int) else (V j : Int))) ∧ Hid (hasRow W (gs + 1) 8 ∧ rowAt W (gs + 1) = vals .u32 8 (fun j => (X j : Int))) ∧ Hid (Off gv w W)) (fun i _ => 8 - (intOf i).toNat)
      case atStart => exact ⟨0, Nat.zero_le 8, rfl, Lib.hid ⟨T0.out.1, T0.out.2.trans (vals_ext _ _ fun j _ => by rw [if_neg (by omega)])⟩, TX, TB⟩
      case round =>
        clear TX T0 TB
        obtain ⟨t, ht8, rfl, U0, UX, UB⟩ := hrel
        by_cases htl : t < 8
        · have bt : (0 : Int) ≤ (t : Int) ∧ (t : Int) < 8 := by omega
          obtain ⟨vt, hvt⟩ : ∃ x, Hid (x = V t) := ⟨_, Lib.hid rfl⟩
          obtain ⟨xt, hxt⟩ : ∃ x, Hid (x = X t) := ⟨_, Lib.hid rfl⟩
          have c0 : wr.drew.cell? ⟨gv, t, none⟩ = some (.int .u32 (vt : Int)) := by
            have h := (cell_of_hasRow U0.out.1 U0.out.2 htl).1
            rw [if_neg (Nat.lt_irrefl t), ← hvt.out] at h
            exact h
          have c1 : wr.drew.cell? ⟨gs + 1, t, none⟩ = some (.int .u32 (xt : Int)) := by rw [hxt.out]; exact (cell_of_hasRow UX.out.1 UX.out.2 htl).1
          have c2 : wr.drew.frozen? ⟨gv, t, none⟩ = false := (cell_of_hasRow U0.out.1 U0.out.2 htl).2
          go_wp2_with fail
          refine region_tail 8 (by kernel_rfl) (by kernel_rfl) rfl ?_
          simp only [List.take_succ_cons, List.take_zero, List.drop_succ_cons, List.drop_zero]
          iterate 8 still_step
          refine wpStill_nil ?_
          go_wp2
          obtain ⟨z1, z2, z3⟩ := row_setCell U0.out.1 U0.out.2 t (IntKind.u32.wrap ((vt : Int) + (xt : Int)))
          have Z2 : rowAt (wr.setCell ⟨gv, t, none⟩ (.int .u32 (IntKind.u32.wrap ((vt : Int) + (xt : Int))))) gv = vals .u32 8 (fun j => if j < t + 1 then (((V j + X j) % 4294967296 : Nat) : Int) else (V j : Int)) := by
            rw [z2]
            refine vals_ext _ _ fun j hj => ?_
            by_cases hjt : j = t
            · subst hjt
              rw [if_pos rfl, if_pos (by omega), hvt.out, hxt.out, IntKind.wrap_u32]
              omega
            · rw [if_neg hjt]
              by_cases hl : j < t
              · rw [if_pos hl, if_pos (by omega)]
              · rw [if_neg hl, if_neg (by omega)]
          have ZB : Off gv w (wr.setCell ⟨gv, t, none⟩ (.int .u32 (IntKind.u32.wrap ((vt : Int) + (xt : Int))))) := UB.out.grown z3 (.inl rfl)
          have y1 := row_grown z3 (show gs + 1 ≠ gv by omega) UX.out
          go_roundw
          case rel => exact ⟨t + 1, by omega, by go_num, Lib.hid ⟨z1, Z2⟩, Lib.hid y1, Lib.hid (ZB.below (bl_drew (bl_refl _)))⟩
          case measure => simp [intOf]; omega
        · clear e64; obtain rfl : t = 8 := by omega
          have hR0 : hasRow wr gv 8 ∧ rowAt wr gv = vals .u32 8 (fun j => (blockS V S j : Int)) := ⟨U0.out.1, U0.out.2.trans (vals_ext _ _ fun j hj => by
            rw [if_pos hj, hX.out]
            rfl)⟩
          have hH := row_heap hR0
          have hO := UB.out.block
          go_wp2
          exact hO
end Go.Proofs.YtfnncplokombgaaDoor

/- Small pieces of short.Blocks and of its sender, walked alone. Written by gen_pieces.py. -/
namespace Go.Proofs.YtfnncplokombgaaDoor
open Go.RowKit Go.Shelf Go.Sort Bt
attribute [local go_sem] vals_set vals_get? vals_get vals_size rowAt_at rowAt_past hasRow_at hasRow_past run_loadRow run_storeCells_row setRow_at setRow_past rowAt_drewN hasRow_drewN setRow_drewN alloc_drewN setCell_drewN lt_s2 lt_s3 lt_s4 lt_s5 lt_s6
attribute [local go_sem ↓] loadRow_is

theorem cell_one {W : World} {g : Nat} {v : Value} {t : TypeId} (h : W.heap[g]? = some (.cells #[v] t (0, 0))) : W.cell? ⟨g, 0, none⟩ = some v ∧ W.frozen? ⟨g, 0, none⟩ = false := by
  constructor
  · unfold World.cell?
    rw [h]
    rfl
  · unfold World.frozen?
    rw [h]
    rfl
theorem set_one {W : World} {g : Nat} {v u : Value} {t : TypeId} (h : W.heap[g]? = some (.cells #[v] t (0, 0))) : (W.setCell ⟨g, 0, none⟩ u).heap[g]? = some (.cells #[u] t (0, 0)) := by
  rw [setCell_heap, if_pos rfl, h]
  rfl
theorem set_far {W : World} {g k : Nat} {u : Value} (h : g ≠ k) : (W.setCell ⟨g, 0, none⟩ u).heap[k]? = W.heap[k]? := by
  rw [setCell_heap, if_neg h]
set_option maxRecDepth 100000 in
set_option maxHeartbeats 4000000 in
theorem w12_3 (x0 x1 x2 x3 x4 x5 x6 x7 x8 x9 x10 x11 x12 x13 x14 x15 x16 x17 x18 x19 x20 x21 x22 x23 x24 x25 x26 x27 x28 x29 x30 x31 x32 x33 x34 x35 x36 x37 x38 x39 x40 x41 x42 x43 x44 x45 : Value) (w : World) (hT : Tab80 w) :
    p12_3.wp Tryd.prog (fun e a' w' => e = .normal ∧ a'.defers = [] ∧ (a'.tmps.size = 46 ∧ a'.tmps[1]? = some x1 ∧ a'.tmps[2]? = some x2 ∧ a'.tmps[4]? = some x4 ∧ ∃ g t, a'.tmps[5]? = some (.pointer (some ⟨g, 0, none⟩)) ∧ w.heap.size ≤ g ∧ w'.heap[g]? = some (.cells (vals .u32 64 (fun j => (k32c j : Int))) t (0, 0)))) ⟨#[x0, x1, x2, x3, x4, x5, x6, x7, x8, x9, x10, x11, x12, x13, x14, x15, x16, x17, x18, x19, x20, x21, x22, x23, x24, x25, x26, x27, x28, x29, x30, x31, x32, x33, x34, x35, x36, x37, x38, x39, x40, x41, x42, x43, x44, x45], []⟩ w := by
  have CK := Lib.hid (k32_w w hT)
  have hz := zero64w
  have hzv := zv64w
  unfold p12_3 b12
  simp only [cF, cS, Option.getD_some, Tryd.f12]
  go_wp2_with (go_at_call 25; (with_reducible refine CK.out.mono ?_); rintro e w1 ⟨rfl, hb⟩; have hs := hb.size; have HB1 := Lib.hid hb; clear hb)
  exact ⟨_, (Array.getElem?_eq_some_iff.1 (heap_alloc_new _ _)).2⟩
set_option maxRecDepth 100000 in
set_option maxHeartbeats 4000000 in
theorem w12_18 (x0 x1 x3 x5 x6 x7 x8 x9 x10 x11 x12 x13 x14 x15 x16 x17 x18 x19 x20 x21 x22 x23 x24 x25 x26 x27 x28 x29 x30 x31 x32 x33 x34 x35 x36 x37 x38 x39 x40 x41 x42 x43 x44 x45 : Value) (gv gr : Nat) (B : Nat → Nat) (w : World) (hv : hasRow w gv 8 ∧ rowAt w gv = vals .u32 8 (fun j => (B j : Int))) (hr : hasRow w gr 8) :
    p12_18.wp Tryd.prog (fun e a' w' => e = .normal ∧ a'.defers = [] ∧ (a'.tmps.size = 46 ∧ a'.tmps[4]? = some (.pointer (some ⟨gr, 0, none⟩)) ∧ ∃ t, w'.heap[gr]? = some (.cells (vals .u32 8 (fun j => (B j : Int))) t (0, 0)))) ⟨#[x0, x1, .pointer (some ⟨gv, 0, none⟩), x3, .pointer (some ⟨gr, 0, none⟩), x5, x6, x7, x8, x9, x10, x11, x12, x13, x14, x15, x16, x17, x18, x19, x20, x21, x22, x23, x24, x25, x26, x27, x28, x29, x30, x31, x32, x33, x34, x35, x36, x37, x38, x39, x40, x41, x42, x43, x44, x45], []⟩ w := by
  obtain ⟨v1, v2⟩ := hv
  have hrow := row_heap (⟨(row_setRow hr (vals .u32 8 (fun j => (B j : Int))) (vals_size _ _ _)).1, (row_setRow hr (vals .u32 8 (fun j => (B j : Int))) (vals_size _ _ _)).2.1⟩)
  unfold p12_18 q12 b12
  simp only [cF, cS, Option.getD_some, Tryd.f12]
  go_wp2
set_option maxRecDepth 100000 in
set_option maxHeartbeats 4000000 in
theorem w12_2 (x0 x1 x3 x5 x6 x7 x8 x9 x10 x11 x12 x13 x14 x15 x16 x17 x18 x19 x20 x21 x22 x23 x24 x25 x26 x27 x28 x29 x30 x31 x32 x33 x34 x35 x36 x37 x38 x39 x40 x41 x42 x43 x44 x45 : Value) (gv gr : Nat) (B : Nat → Nat) (w : World) (hv : hasRow w gv 8 ∧ rowAt w gv = vals .u32 8 (fun j => (B j : Int))) (hr : hasRow w gr 8) :
    p12_2.wp Tryd.prog (fun e a' w' => e = .normal ∧ a'.defers = [] ∧ (a'.tmps.size = 46 ∧ a'.tmps[4]? = some (.pointer (some ⟨gr, 0, none⟩)) ∧ ∃ t, w'.heap[gr]? = some (.cells (vals .u32 8 (fun j => (B j : Int))) t (0, 0)))) ⟨#[x0, x1, .pointer (some ⟨gv, 0, none⟩), x3, .pointer (some ⟨gr, 0, none⟩), x5, x6, x7, x8, x9, x10, x11, x12, x13, x14, x15, x16, x17, x18, x19, x20, x21, x22, x23, x24, x25, x26, x27, x28, x29, x30, x31, x32, x33, x34, x35, x36, x37, x38, x39, x40, x41, x42, x43, x44, x45], []⟩ w := by
  obtain ⟨v1, v2⟩ := hv
  have hrow := row_heap (⟨(row_setRow hr (vals .u32 8 (fun j => (B j : Int))) (vals_size _ _ _)).1, (row_setRow hr (vals .u32 8 (fun j => (B j : Int))) (vals_size _ _ _)).2.1⟩)
  unfold p12_2 b12
  simp only [cF, cS, Option.getD_some, Tryd.f12]
  go_wp2
set_option maxRecDepth 100000 in
set_option maxHeartbeats 4000000 in
theorem w36_1 (x2 x3 x4 x5 x6 x7 x8 x9 x10 x11 x12 x13 x14 x15 x16 x17 : Value) (go gb : Nat) (a : Option Addr) (L c : Nat) (tb : TypeId) (w : World) (hb : w.heap[gb]? = some (.cells #[.slice a L c] tb (0, 0))) (t : Bool) (ht : t = decide (64 ≤ L)) :
    p36_1.wp Tryd.prog (fun e a' w' => e = .normal ∧ a'.defers = [] ∧ (a'.tmps.size = 18 ∧ a'.tmps[0]? = some (.pointer (some ⟨go, 0, none⟩)) ∧ a'.tmps[1]? = some (.pointer (some ⟨gb, 0, none⟩)) ∧ a'.tmps[7]? = some (.bool t) ∧ w'.heap = w.heap)) ⟨#[.pointer (some ⟨go, 0, none⟩), .pointer (some ⟨gb, 0, none⟩), x2, x3, x4, x5, x6, x7, x8, x9, x10, x11, x12, x13, x14, x15, x16, x17], []⟩ w := by
  obtain ⟨c1, c2⟩ := cell_one hb
  subst ht
  unfold p36_1 L36 b36
  simp only [cF, cS, Option.getD_some, Tryd.f36]
  go_wp2
  omega
set_option maxRecDepth 100000 in
set_option maxHeartbeats 4000000 in
theorem w36_2 (x2 x3 x4 x5 x6 x7 x8 x9 x10 x11 x12 x13 x14 x15 x16 x17 : Value) (go gb gi off : Nat) (L c : Nat) (tb : TypeId) (f : Nat → Int) (w : World) (hb : w.heap[gb]? = some (.cells #[.slice (some ⟨gi, off, none⟩) L c] tb (0, 0))) (hL : 64 ≤ L) (hc : L ≤ c) (hr : ∀ j, j < 64 → w.cell? ⟨gi, off + j, none⟩ = some (.int .u8 (f j))) (hf : ∀ j, j < 64 → 0 ≤ f j ∧ f j < 256) (hT : Tabs32 w) :
    p36_2.wp Tryd.prog (fun e a' w' => e = .normal ∧ a'.defers = [] ∧ (a'.tmps.size = 18 ∧ a'.tmps[0]? = some (.pointer (some ⟨go, 0, none⟩)) ∧ a'.tmps[1]? = some (.pointer (some ⟨gb, 0, none⟩)) ∧ (∀ k, k < w.heap.size → w'.heap[k]? = w.heap[k]?) ∧ ∃ g t, a'.tmps[2]? = some (.pointer (some ⟨g, 0, none⟩)) ∧ w.heap.size ≤ g ∧ w'.heap[g]? = some (.cells (vals .u32 64 (fun j => (sched32 (word32 f) j : Int))) t (0, 0)))) ⟨#[.pointer (some ⟨go, 0, none⟩), .pointer (some ⟨gb, 0, none⟩), x2, x3, x4, x5, x6, x7, x8, x9, x10, x11, x12, x13, x14, x15, x16, x17], []⟩ w := by
  obtain ⟨c1, c2⟩ := cell_one hb
  have hc64 : 64 ≤ c := by omega
  have hz := zero64w
  have hzv := zv64w
  have CS := Lib.hid (sched_yes_w (some ⟨gi, off, none⟩) c hc64 f w (fun _ => ⟨gi, off, rfl, hr⟩) hf hT)
  clear hr hf hT
  unfold p36_2 L36 b36
  simp only [cF, cS, Option.getD_some, Tryd.f36]
  go_wp2_with (go_at_call 8; (with_reducible refine CS.out.mono ?_); rintro e w1 ⟨rfl, hb1⟩; have hs := hb1.size; have HB1 := Lib.hid hb1; clear hb1)
  refine ⟨fun k hk => ?_, _, (Array.getElem?_eq_some_iff.1 (heap_alloc_new _ _)).2⟩
  rw [Below.heap_alloc w1 _ k (Nat.lt_of_lt_of_le hk hs)]
  exact HB1.out.block k hk
set_option maxRecDepth 100000 in
set_option maxHeartbeats 4000000 in
theorem w36_4 (x2 x3 x4 x5 x6 x7 x8 x9 x10 x11 x12 x13 x14 x15 x16 x17 : Value) (go gb gi off : Nat) (L c : Nat) (tb : TypeId) (w : World) (hb : w.heap[gb]? = some (.cells #[.slice (some ⟨gi, off, none⟩) L c] tb (0, 0))) (hL : 64 ≤ L) (hc : L ≤ c) :
    p36_4.wp Tryd.prog (fun e a' w' => e = .normal ∧ a'.defers = [] ∧ (a'.tmps.size = 18 ∧ a'.tmps[0]? = some (.pointer (some ⟨go, 0, none⟩)) ∧ a'.tmps[1]? = some (.pointer (some ⟨gb, 0, none⟩)) ∧ (∀ k, k ≠ gb → w'.heap[k]? = w.heap[k]?) ∧ w'.heap[gb]? = some (.cells #[.slice (some ⟨gi, if c = 64 then off else off + 64, none⟩) (L - 64) (c - 64)] tb (0, 0)))) ⟨#[.pointer (some ⟨go, 0, none⟩), .pointer (some ⟨gb, 0, none⟩), x2, x3, x4, x5, x6, x7, x8, x9, x10, x11, x12, x13, x14, x15, x16, x17], []⟩ w := by
  obtain ⟨c1, c2⟩ := cell_one hb
  have hc64 : 64 ≤ c := by omega
  unfold p36_4 L36 b36
  simp only [cF, cS, Option.getD_some, Tryd.f36]
  by_cases h : c = 64
  · subst h
    obtain rfl : L = 64 := by omega
    have s1 := fun u => set_one (u := u) hb
    go_wp2
    exact fun k hk => set_far (Ne.symm hk)
  · have s1 := fun u => set_one (u := u) hb
    go_wp2
    exact fun k hk => set_far (Ne.symm hk)
end Go.Proofs.YtfnncplokombgaaDoor

/- What a call does in company, out of what it does alone (34): the sender of schedules. -/
namespace Go.Proofs.YtfnncplokombgaaDoor
open Go Go.Conc

section
variable {P : Program} {m : Bool} {S : BSet} {X : BSet → Goroutine → World → Prop}
theorem path_stiff {σ : BRel} {O O1 : BSet} {L Ls : List Nat} {w wE WE : World} (M : Meet S O L Ls w) (p : Path (idL L) σ O S O1 (ice L Ls w) WE w wE) {b : Nat} (hb : b ∈ L) (hs : b ∈ Ls) : wE.heap[b]? = w.heap[b]? := by
  obtain ⟨c, e, fr, hc⟩ := M.tame b hb
  refine p.keep b (Array.getElem?_eq_some_iff.1 hc).1 ((M.own b hb).imp id (·.1)) fun a ha => ?_
  obtain ⟨rfl, _⟩ := ha
  exact ice_stiff hc hb hs
theorem path_out {σ : BRel} {O O1 : BSet} {L Ls : List Nat} {w wE WE : World} (p : Path (idL L) σ O S O1 (ice L Ls w) WE w wE) {b : Nat} (hb : b ∉ L) (hl : b < w.heap.size) (hO : O b ∨ S b) : wE.heap[b]? = w.heap[b]? :=
  p.keep b hl hO fun a ha => by obtain ⟨rfl, h⟩ := ha; exact absurd h hb
theorem path_id {σ : BRel} {O O1 : BSet} {L Ls : List Nat} {w wE WE : World} (p : Path (idL L) σ O S O1 (ice L Ls w) WE w wE) {b : Nat} (hb : b ∈ L) : σ b b := p.sub.1 b b ⟨rfl, hb⟩
theorem vrel_int (ρ : BRel) {k : IntKind} {n : Int} : VRel ρ (.int k n) (.int k n) := .int k n
theorem vrel_ptr {L : List Nat} {b o : Nat} {s : Option Nat} (h : b ∈ L) : VRel (idL L) (.pointer (some ⟨b, o, s⟩)) (.pointer (some ⟨b, o, s⟩)) := .ptr (.mk ⟨rfl, h⟩ o s)
theorem vrel_slice {L : List Nat} {b o : Nat} {s : Option Nat} (h : b ∈ L) (l c : Nat) : VRel (idL L) (.slice (some ⟨b, o, s⟩) l c) (.slice (some ⟨b, o, s⟩) l c) := .slice (.mk ⟨rfl, h⟩ o s) l c
theorem heap_cell {w w1 : World} {a : Addr} (h : w1.heap[a.block]? = w.heap[a.block]?) : w1.cell? a = w.cell? a := by
  unfold World.cell?
  rw [h]
/-- 18 slots -/
theorem lit18 {T : Array Value} (h : T.size = 18) : ∃ x0 x1 x2 x3 x4 x5 x6 x7 x8 x9 x10 x11 x12 x13 x14 x15 x16 x17, T = #[x0, x1, x2, x3, x4, x5, x6, x7, x8, x9, x10, x11, x12, x13, x14, x15, x16, x17] := by
  obtain ⟨l⟩ := T
  have h : l.length = 18 := h
  rcases l with _ | ⟨x0, l⟩
  · simp at h
  rcases l with _ | ⟨x1, l⟩
  · simp at h
  rcases l with _ | ⟨x2, l⟩
  · simp at h
  rcases l with _ | ⟨x3, l⟩
  · simp at h
  rcases l with _ | ⟨x4, l⟩
  · simp at h
  rcases l with _ | ⟨x5, l⟩
  · simp at h
  rcases l with _ | ⟨x6, l⟩
  · simp at h
  rcases l with _ | ⟨x7, l⟩
  · simp at h
  rcases l with _ | ⟨x8, l⟩
  · simp at h
  rcases l with _ | ⟨x9, l⟩
  · simp at h
  rcases l with _ | ⟨x10, l⟩
  · simp at h
  rcases l with _ | ⟨x11, l⟩
  · simp at h
  rcases l with _ | ⟨x12, l⟩
  · simp at h
  rcases l with _ | ⟨x13, l⟩
  · simp at h
  rcases l with _ | ⟨x14, l⟩
  · simp at h
  rcases l with _ | ⟨x15, l⟩
  · simp at h
  rcases l with _ | ⟨x16, l⟩
  · simp at h
  rcases l with _ | ⟨x17, l⟩
  · simp at h
  rcases l with _ | ⟨y, l⟩
  · exact ⟨x0, x1, x2, x3, x4, x5, x6, x7, x8, x9, x10, x11, x12, x13, x14, x15, x16, x17, rfl⟩
  · simp at h
/-- 46 slots -/
theorem lit46 {T : Array Value} (h : T.size = 46) : ∃ x0 x1 x2 x3 x4 x5 x6 x7 x8 x9 x10 x11 x12 x13 x14 x15 x16 x17 x18 x19 x20 x21 x22 x23 x24 x25 x26 x27 x28 x29 x30 x31 x32 x33 x34 x35 x36 x37 x38 x39 x40 x41 x42 x43 x44 x45, T = #[x0, x1, x2, x3, x4, x5, x6, x7, x8, x9, x10, x11, x12, x13, x14, x15, x16, x17, x18, x19, x20, x21, x22, x23, x24, x25, x26, x27, x28, x29, x30, x31, x32, x33, x34, x35, x36, x37, x38, x39, x40, x41, x42, x43, x44, x45] := by
  obtain ⟨l⟩ := T
  have h : l.length = 46 := h
  rcases l with _ | ⟨x0, l⟩
  · simp at h
  rcases l with _ | ⟨x1, l⟩
  · simp at h
  rcases l with _ | ⟨x2, l⟩
  · simp at h
  rcases l with _ | ⟨x3, l⟩
  · simp at h
  rcases l with _ | ⟨x4, l⟩
  · simp at h
  rcases l with _ | ⟨x5, l⟩
  · simp at h
  rcases l with _ | ⟨x6, l⟩
  · simp at h
  rcases l with _ | ⟨x7, l⟩
  · simp at h
  rcases l with _ | ⟨x8, l⟩
  · simp at h
  rcases l with _ | ⟨x9, l⟩
  · simp at h
  rcases l with _ | ⟨x10, l⟩
  · simp at h
  rcases l with _ | ⟨x11, l⟩
  · simp at h
  rcases l with _ | ⟨x12, l⟩
  · simp at h
  rcases l with _ | ⟨x13, l⟩
  · simp at h
  rcases l with _ | ⟨x14, l⟩
  · simp at h
  rcases l with _ | ⟨x15, l⟩
  · simp at h
  rcases l with _ | ⟨x16, l⟩
  · simp at h
  rcases l with _ | ⟨x17, l⟩
  · simp at h
  rcases l with _ | ⟨x18, l⟩
  · simp at h
  rcases l with _ | ⟨x19, l⟩
  · simp at h
  rcases l with _ | ⟨x20, l⟩
  · simp at h
  rcases l with _ | ⟨x21, l⟩
  · simp at h
  rcases l with _ | ⟨x22, l⟩
  · simp at h
  rcases l with _ | ⟨x23, l⟩
  · simp at h
  rcases l with _ | ⟨x24, l⟩
  · simp at h
  rcases l with _ | ⟨x25, l⟩
  · simp at h
  rcases l with _ | ⟨x26, l⟩
  · simp at h
  rcases l with _ | ⟨x27, l⟩
  · simp at h
  rcases l with _ | ⟨x28, l⟩
  · simp at h
  rcases l with _ | ⟨x29, l⟩
  · simp at h
  rcases l with _ | ⟨x30, l⟩
  · simp at h
  rcases l with _ | ⟨x31, l⟩
  · simp at h
  rcases l with _ | ⟨x32, l⟩
  · simp at h
  rcases l with _ | ⟨x33, l⟩
  · simp at h
  rcases l with _ | ⟨x34, l⟩
  · simp at h
  rcases l with _ | ⟨x35, l⟩
  · simp at h
  rcases l with _ | ⟨x36, l⟩
  · simp at h
  rcases l with _ | ⟨x37, l⟩
  · simp at h
  rcases l with _ | ⟨x38, l⟩
  · simp at h
  rcases l with _ | ⟨x39, l⟩
  · simp at h
  rcases l with _ | ⟨x40, l⟩
  · simp at h
  rcases l with _ | ⟨x41, l⟩
  · simp at h
  rcases l with _ | ⟨x42, l⟩
  · simp at h
  rcases l with _ | ⟨x43, l⟩
  · simp at h
  rcases l with _ | ⟨x44, l⟩
  · simp at h
  rcases l with _ | ⟨x45, l⟩
  · simp at h
  rcases l with _ | ⟨y, l⟩
  · exact ⟨x0, x1, x2, x3, x4, x5, x6, x7, x8, x9, x10, x11, x12, x13, x14, x15, x16, x17, x18, x19, x20, x21, x22, x23, x24, x25, x26, x27, x28, x29, x30, x31, x32, x33, x34, x35, x36, x37, x38, x39, x40, x41, x42, x43, x44, x45, rfl⟩
  · simp at h
end

/-! ### where the sender stands -/
/-- what the sender has of the world: its cell, the channel's cell, the bytes, the tables -/
structure WI (S : BSet) (c oc bc ib off len : Nat) (f : Nat → Int) (j : Nat) (O : BSet) (w : World) : Prop where
  own : O bc
  bcell : ∃ o L cc t, RowC w bc #[.slice (some ⟨ib, o, none⟩) L cc] t ∧ L + 64 * j = len ∧ L ≤ cc ∧ (64 ≤ L → o = off + 64 * j)
  ocell : ∃ e fr, w.heap[oc]? = some (.cells #[.chan (some c)] e fr)
  tabs : Tabs32 w
  tame : ∀ g, niceG.contains g = true → Tame w g
  itame : Tame w ib
  inp : ∀ i, i < len → w.cell? ⟨ib, off + i, none⟩ = some (.int .u8 (f i))
/-- what is shared -/
structure Shared (S : BSet) (oc ib : Nat) : Prop where
  tabs : ∀ g, niceG.contains g = true → S g
  o : S oc
  i : S ib
section
variable {S : BSet} {c oc bc ib off len : Nat} {f : Nat → Int} {j : Nat} {O O1 : BSet} {w w1 : World}
theorem nice_in {g : Nat} (hg : niceG.contains g = true) (ib oc : Nat) : g ∈ [0, 1, 2, ib, oc] := by
  have : g = 0 ∨ g = 1 ∨ g = 2 := by simpa [niceG] using hg
  rcases this with rfl | rfl | rfl <;> simp
theorem WI.move {j2 : Nat} (h : WI S c oc bc ib off len f j O w) (hO : O1 bc) (hS : ∀ b, b ∈ [0, 1, 2, ib, oc] → w1.heap[b]? = w.heap[b]?) (hb : ∃ o L cc t, RowC w1 bc #[.slice (some ⟨ib, o, none⟩) L cc] t ∧ L + 64 * j2 = len ∧ L ≤ cc ∧ (64 ≤ L → o = off + 64 * j2)) : WI S c oc bc ib off len f j2 O1 w1 where
  own := hO
  bcell := hb
  ocell := by rw [hS oc (by simp)]; exact h.ocell
  tabs := ⟨fun i hi => by rw [heap_cell (hS _ (nice_in (g := 1) rfl ib oc))]; exact h.tabs.1 i hi, fun i hi => by rw [heap_cell (hS _ (nice_in (g := 0) rfl ib oc))]; exact h.tabs.2 i hi⟩
  tame := fun g hg => by obtain ⟨a, b, d, e⟩ := h.tame g hg; exact ⟨a, b, d, by rw [hS g (nice_in hg ib oc)]; exact e⟩
  itame := by obtain ⟨a, b, d, e⟩ := h.itame; exact ⟨a, b, d, by rw [hS ib (by simp)]; exact e⟩
  inp := fun i hi => by rw [heap_cell (hS ib (by simp))]; exact h.inp i hi
theorem Shared.all (sh : Shared S oc ib) {b : Nat} (hb : b ∈ [0, 1, 2, ib, oc]) : S b := by
  simp at hb
  rcases hb with rfl | rfl | rfl | rfl | rfl
  · exact sh.tabs 0 rfl
  · exact sh.tabs 1 rfl
  · exact sh.tabs 2 rfl
  · exact sh.i
  · exact sh.o
theorem WI.stab (sh : Shared S oc ib) (j : Nat) : Stab S (WI S c oc bc ib off len f j) := by
  intro O w w1 h R
  obtain ⟨o, L, cc, t, h1, h2⟩ := h.bcell
  exact h.move h.own (fun b hb => R.keep b (.inr (sh.all hb))) ⟨o, L, cc, t, h1.of_eq (R.keep bc (.inl h.own)), h2⟩
/-- the blocks that the sender's pieces meet -/
theorem WI.meet (h : WI S c oc bc ib off len f j O w) (sh : Shared S oc ib) (hne : bc ∉ [0, 1, 2, ib, oc]) : Meet S O [0, 1, 2, ib, oc, bc] [0, 1, 2, ib, oc] w where
  tabs := fun g hg => by
    have : g = 0 ∨ g = 1 ∨ g = 2 := by simpa [niceG] using hg
    rcases this with rfl | rfl | rfl <;> simp
  tame := fun b hb => by
    simp at hb
    rcases hb with rfl | rfl | rfl | rfl | rfl | rfl
    · exact h.tame 0 rfl
    · exact h.tame 1 rfl
    · exact h.tame 2 rfl
    · exact h.itame
    · obtain ⟨e, fr, ho⟩ := h.ocell; exact ⟨_, e, fr, ho⟩
    · obtain ⟨_, _, _, _, hb, _⟩ := h.bcell; exact hb.tame
  own := fun b hb => by
    simp at hb
    rcases hb with rfl | rfl | rfl | rfl | rfl | rfl
    · exact .inr ⟨sh.tabs 0 rfl, by simp⟩
    · exact .inr ⟨sh.tabs 1 rfl, by simp⟩
    · exact .inr ⟨sh.tabs 2 rfl, by simp⟩
    · exact .inr ⟨sh.i, by simp⟩
    · exact .inr ⟨sh.o, by simp⟩
    · exact .inl h.own
  thaw := fun b hb hn off => by
    simp at hb hn
    have : b = bc := by omega
    subst this
    obtain ⟨_, _, _, _, hb, _⟩ := h.bcell
    exact hb.2 off
/-- the lone world's cells -/
theorem WI.lone (h : WI S c oc bc ib off len f j O w) (hne : bc ∉ [0, 1, 2, ib, oc]) {W : World} (hW : W.heap = (ice [0, 1, 2, ib, oc, bc] [0, 1, 2, ib, oc] w).heap) :
    Tabs32 W ∧ (∀ i, i < len → W.cell? ⟨ib, off + i, none⟩ = some (.int .u8 (f i))) ∧ (∃ fr, ∃ e, W.heap[oc]? = some (.cells #[.chan (some c)] e fr)) ∧
      ∃ o L cc t, RowC w bc #[.slice (some ⟨ib, o, none⟩) L cc] t ∧ W.heap[bc]? = some (.cells #[.slice (some ⟨ib, o, none⟩) L cc] t (0, 0)) ∧ L + 64 * j = len ∧ L ≤ cc ∧ (64 ≤ L → o = off + 64 * j) := by
  have hc : ∀ (a : Addr) (k : IntKind) (n : Int), w.cell? a = some (.int k n) → W.cell? a = some (.int k n) := fun a k n hv => by
    rw [← ice_cell [0, 1, 2, ib, oc, bc] [0, 1, 2, ib, oc] hv (.int k n)]
    exact heap_cell (by rw [hW])
  refine ⟨⟨fun i hi => hc _ _ _ (h.tabs.1 i hi), fun i hi => hc _ _ _ (h.tabs.2 i hi)⟩, fun i hi => hc _ _ _ (h.inp i hi), ?_, ?_⟩
  · obtain ⟨e, fr, ho⟩ := h.ocell
    obtain ⟨fr', h1, _⟩ := ice_cells [0, 1, 2, ib, oc, bc] [0, 1, 2, ib, oc] (by simp) ho
    rw [meek_all (fun v hv => by simp at hv; subst hv; exact .chan c)] at h1
    exact ⟨fr', e, by rw [hW]; exact h1⟩
  · obtain ⟨o, L, cc, t, hb, h2⟩ := h.bcell
    obtain ⟨fr, hb1⟩ := hb.1
    refine ⟨o, L, cc, t, hb, ?_, h2⟩
    rw [hW]
    exact ice_row _ _ (by simp) hne hb1 fun v hv => by simp at hv; subst hv; exact vrel_slice (by simp) _ _
end
end Go.Proofs.YtfnncplokombgaaDoor

/- What a call does in company, out of what it does alone (35): single steps of the sender. -/
namespace Go.Proofs.YtfnncplokombgaaDoor
open Go Go.Conc
theorem wanted_none {o : Oper} (h : o.guard = none) (y : Nat → Option Bool) : Region.wanted o y = true := by unfold Region.wanted; rw [h]
/-- the deferred close -/
def dclose (c : Nat) : Deferred := ⟨.builtin .close #[58] 0 #[false], #[.chan (some c)]⟩
theorem op36_0 : ∃ o, (cO p36_0)[0]? = some o ∧ o.op = .load 58 (.tmp 0) ∧ o.dst = some 4 ∧ o.guard = none := ⟨_, rfl, rfl, rfl, rfl⟩
theorem op36_0b : ∃ o, (cO p36_0)[1]? = some o ∧ o.op = .defer ⟨.builtin .close, #[.tmp 4], #[58]⟩ ∧ o.dst = none ∧ o.guard = none ∧ o.type = 0 := ⟨_, rfl, rfl, rfl, rfl, rfl⟩
theorem op36_3 : ∃ o, (cO p36_3)[2]? = some o ∧ o.op = .send (.tmp 14) (.tmp 15) ∧ o.dst = none ∧ o.guard = none := ⟨_, rfl, rfl, rfl, rfl⟩
theorem p36_0_is : p36_0 = .region 0 (cO p36_0) false := by kernel_rfl
theorem p36_3_is : p36_3 = .region 3 (cO p36_3) false := by kernel_rfl
theorem run_send {P : Program} {a : Act} {o : Oper} {x y : Operand} {c : Nat} (hop : o.op = .send x y) (hx : a.eval x = .chan (some c)) (w : World) : (execOp a.eval o).run P w = .ok (.comm #[scase c (a.eval y) (.tuple #[])] true .send) w ∧ (execOp a.eval o).events P w #[] = #[] := by
  unfold execOp
  simp only [hop, hx]
  exact ⟨rfl, rfl⟩
theorem run_defer {P : Program} {a : Act} {o : Oper} {c : Nat} (hop : o.op = .defer ⟨.builtin .close, #[.tmp 4], #[58]⟩) (ht : o.type = 0) (hx : a.eval (.tmp 4) = .chan (some c)) (w : World) : (execOp a.eval o).run P w = .ok (.defer (dclose c)) w ∧ (execOp a.eval o).events P w #[] = #[] := by
  unfold execOp
  simp only [hop, ht, resolve]
  have : (#[(.tmp 4 : Operand)]).map a.eval = #[.chan (some c)] := by rw [← hx]; simp
  rw [this]
  constructor
  · simp [dclose]
  · simp
theorem run_loadC {a : Act} {o : Oper} {x : Operand} {c oc : Nat} (hop : o.op = .load 58 x) (hx : a.eval x = .pointer (some ⟨oc, 0, none⟩)) (w : World) (hw : w.cell? ⟨oc, 0, none⟩ = some (.chan (some c))) : (execOp a.eval o).run Tryd.prog w = .ok (.value (.chan (some c))) w ∧ (execOp a.eval o).events Tryd.prog w #[] = #[⟨.cell ⟨oc, 0, none⟩, false, false⟩] := by
  unfold execOp
  simp only [hop, hx]
  constructor
  · simp [go_sem, hw]
  · simp [go_sem]
    rw [hw]
    rfl
/-- the frame of the goroutine's first call -/
def bornF (P : Program) : Frame := { (default : Frame) with fn := P.funcs.size, defers := [], mode := .panicking [goexitEntry] }
/-- what a go statement makes -/
def dgo (oc bc : Nat) : Deferred := ⟨.fn (.func 36) #[.pointer (some ⟨oc, 0, none⟩), .pointer (some ⟨bc, 0, none⟩)], #[]⟩
theorem born_step (oc bc : Nat) (w : World) : stepG Tryd.prog false (born Tryd.prog (dgo oc bc)) w = .go (G ((baseD 36).at ⟨#[.pointer (some ⟨oc, 0, none⟩), .pointer (some ⟨bc, 0, none⟩)] ++ Array.replicate 16 undef, []⟩ [.code b36]) [bornF Tryd.prog]) w #[] := by
  have hf := Tryd.func36
  have hb : Tryd.f36.body = some b36 := by unfold b36; rfl
  have hn : (Tryd.f36.name == "runtime.NumGoroutine") = false := by rfl
  have h1 : ¬ Tryd.f36.name = "runtime.NumGoroutine" := by simpa using hn
  simp [born, G, stepG, unwind, callDeferred, dgo, invoke, callFunc, hf, h1, hb, GStep.after, seen_none, bornF, Frame.enter, Frame.at, baseD]
theorem close_step {c : Nat} {T : Array Value} {todo : List Item} {cs : List Frame} {w : World} {buf : Array Value} {s r : Nat} {tm : Bool} (hc : w.heap[c]? = some (.chan 4 buf false s r tm)) :
    stepG Tryd.prog false (G { (baseD 36).at ⟨T, [dclose c]⟩ todo with mode := .returning } cs) w = .go (G { (baseD 36).at ⟨T, []⟩ todo with mode := .returning } cs) (w.setChan c 4 buf true s r tm) #[⟨.obj c, false, true⟩, ⟨.obj c, true, true⟩] := by
  have hr := run_close_open (P := Tryd.prog) #[58] 0 hc
  have he := events_close_open (P := Tryd.prog) (es := #[]) #[58] 0 hc
  have hq : (Tryd.prog.funcs[36]?).any (·.norace) = false := by kernel_rfl
  have h1 : (builtin .close #[58] 0 #[false] #[.chan (some c)]).run Tryd.prog w = .ok (.value (.tuple #[])) (w.setChan c 4 buf true s r tm) := by
    simp [go_sem, hr, World.setChan]
  have h2 : (builtin .close #[58] 0 #[false] #[.chan (some c)]).events Tryd.prog w #[] = #[⟨.obj c, false, true⟩, ⟨.obj c, true, true⟩] := by
    simp [go_sem, he]
  have h3 : seen Tryd.prog 36 #[⟨.obj c, false, true⟩, ⟨.obj c, true, true⟩] = #[⟨.obj c, false, true⟩, ⟨.obj c, true, true⟩] := seen_eq hq (by intro e he f; simp at he; rcases he with rfl | rfl <;> simp)
  simp [G, stepG, unwind, callDeferred, Frame.at, dclose, invoke, baseD, GStep.after, h1, h2, h3]
/-- what is left of the sender -/
theorem sender_quits (T : Array Value) (todo : List Item) : QuitsD Tryd.prog 2 0 (G { (baseD 36).at ⟨T, []⟩ todo with mode := .returning } [bornF Tryd.prog]) := by
  have hf := Tryd.func36
  have hr : Tryd.f36.results = #[] := rfl
  refine QuitsD.ctl (g' := G (bornF Tryd.prog) []) rfl (fun w => ?_) (QuitsD.ctl (g' := { frame := bornF Tryd.prog, callers := [], status := .finished, dying := none }) rfl (fun w => ?_) ⟨rfl, rfl⟩)
  · have h1 := results_none hr T Tryd.prog w
    have h2 := events_results_none (P := Tryd.prog) (w := w) hr T #[]
    simp [G, stepG, unwind, doReturn, Frame.at, baseD, hf, h1, h2, GStep.after, seen_none, bornF, goexitEntry]
  · simp [G, stepG, unwind, bornF, goexitEntry, Frame.catches]
    rfl
end Go.Proofs.YtfnncplokombgaaDoor
