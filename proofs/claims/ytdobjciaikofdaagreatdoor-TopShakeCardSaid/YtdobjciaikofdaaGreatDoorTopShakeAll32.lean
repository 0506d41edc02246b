/- Part 32 of 39 of what the proof of this law needs. Put together by a program out of the texts: HoB HoC Hp. -/
import Derived.Test.YtdobjciaikofdaaGreatDoorTopShakeAll31
namespace Go.Proofs.YtdobjciaikofdaaGreatDoor
section
open Go.RowKit Go.Shelf Bt
attribute [local go_sem] lt_s2 lt_s3 lt_s4 lt_s5 lt_s6 hasRow_at hasRow_past run_storeRow Value.oneCell' setRow_at setRow_past
attribute [local go_sem ↓] storeRow_is loadRow_is
def lineB : ByteArray := ⟨#[119, 114, 105, 116, 101, 32, 49, 32, 54, 49, 54, 50, 54, 51]⟩
def wsB : List ByteArray := [wordS 3, w1S, s6]
theorem splitB : Lib.splitB ⟨#[32]⟩ 0 (Lib.countB lineB ⟨#[32]⟩) lineB = wsB := by kernel_rfl
theorem countB : Lib.countB lineB ⟨#[32]⟩ + 1 = wsB.length := by kernel_rfl
def callAtB (q : Nat) (w wi : World) (cb : Nat) : Prop := if q = 2 then ∃ v, Cl wi cb (callC 4 1 0 0 nilS nilS v) /\ owns wi w.heap.size 5 .u8 v 3 (fun j => (abcC j : Int)) else Cl wi cb (callC 4 (if q = 0 then 0 else 1) 0 0 nilS nilS nilS)
theorem ixB0 (B : Nat) (w : World) : (Instr.index 225 (.agg (shC B)) (.int .i64 0)).run Tryz.prog w = .ok (.agg #[.string (wordS 0), .slice (some ⟨B + 3, 0, none⟩) 3 3]) w := by kernel_rfl
theorem eqB0 : ((wordS 0).toList == (wordS 3).toList) = false := by kernel_rfl
theorem ixB1 (B : Nat) (w : World) : (Instr.index 225 (.agg (shC B)) (.int .i64 1)).run Tryz.prog w = .ok (.agg #[.string (wordS 1), .slice (some ⟨B + 4, 0, none⟩) 1 1]) w := by kernel_rfl
theorem eqB1 : ((wordS 1).toList == (wordS 3).toList) = false := by kernel_rfl
theorem ixB2 (B : Nat) (w : World) : (Instr.index 225 (.agg (shC B)) (.int .i64 2)).run Tryz.prog w = .ok (.agg #[.string (wordS 2), .slice (some ⟨B + 5, 0, none⟩) 1 1]) w := by kernel_rfl
theorem eqB2 : ((wordS 2).toList == (wordS 3).toList) = false := by kernel_rfl
theorem ixB3 (B : Nat) (w : World) : (Instr.index 225 (.agg (shC B)) (.int .i64 3)).run Tryz.prog w = .ok (.agg #[.string (wordS 3), .slice (some ⟨B + 6, 0, none⟩) 2 2]) w := by kernel_rfl
theorem eqB3 : ((wordS 3).toList == (wordS 3).toList) = true := by kernel_rfl
set_option maxRecDepth 100000 in
set_option maxHeartbeats 8000000 in
theorem parseB_w (w : World) (ht : TabE w) {m : Int} (hm : w.cell? ⟨6, 0, none⟩ = some (.int .i64 m)) : Calls Tryz.prog 95 #[.string lineB] w fun e w' => ∃ v, e = .returned (.tuple #[.agg (callC 4 1 0 0 nilS nilS v), .int .i64 0]) /\ owns w' w.heap.size 5 .u8 v 3 (fun j => (abcC j : Int)) /\ Below w.heap.size w w' := by
 have HT : Hid (∀ {w' : World}, Below w.heap.size w w' -> TabE w') := Lib.hid fun hB => ht.grown (gb_below (r := none) hB) (by simp)
 have hml := cell_lt hm
 have CW : Hid (∀ W : World, W.cell? ⟨6, 0, none⟩ = some (.int .i64 m) -> Calls Tryz.prog 140 #[.string lineB] W fun e w' => e = .returned (.slice (some ⟨W.heap.size, 0, none⟩) 3 3) /\ W.alloc (.cells (words wsB) 9) = w') := Lib.hid fun W h => words_w lineB wsB (by decide) splitB countB W h
 have CH : Hid (∀ W : World, Calls Tryz.prog 141 #[] W fun e w' => e = .returned (.agg (shC W.heap.size)) /\ Below W.heap.size W w' /\ ShM w' W.heap.size) := Lib.hid shapes_w
 obtain ⟨L, hL⟩ : ∃ L, Hid (L = lineB) := ⟨_, Lib.hid rfl⟩
 rw [<- hL.out] at CW ⊢
 clear ht
 go_enter Tryz.func95, Tryz.ntmps95
 go_wp2_with (first | (go_at_call 140; refine (CW.out _ ?hmm).mono ?_; (case hmm => rw [cell_past hml]; exact hm); rintro e w1 ⟨rfl, rfl⟩) | (go_at_call 141; (with_reducible refine (CH.out _).mono ?_); rintro e w2 ⟨rfl, hB2, hM2⟩; have P2 := Lib.hid (And.intro hB2 hM2); clear hB2 hM2))
 have W2 : Hid (Cl w2 w.heap.size zeroCall /\ Wd w2 (w.heap.size + 1) wsB /\ ShM w2 (w.heap.size + 2) /\ Below w.heap.size w w2) := Lib.hid ⟨(P2.out.1.block _ (by simp; omega)).trans (heap_past _ _ _ _ (by simp) (heap_at _ _ _ rfl)), (P2.out.1.block _ (by simp)).trans (heap_at _ _ _ (by simp)), by have := P2.out.2; simpa using this, bl_call (bl_alloc (bl_alloc (bl_refl w))) P2.out.1⟩
 clear hm hml P2
 go_loopw [13] (fun i wr => ∃ k : Nat, k <= 3 /\ i = .int .i64 k /\ Hid (Cl wr w.heap.size zeroCall /\ Wd wr (w.heap.size + 1) wsB /\ ShM wr (w.heap.size + 2) /\ Below w.heap.size w wr)) (fun i _ => 4 - (intOf i).toNat)
 case atStart => exact ⟨0, by omega, rfl, W2⟩
 case round =>
  clear W2
  obtain ⟨k, hk, rfl, HI⟩ := hrel
  have hl1 := HI.out.2.1
  have x0 : wr.cell? ⟨w.heap.size + 1, 0, none⟩ = some (.string (wordS 3)) := cell_of_row wr (w.heap.size + 1) 0 _ _ _ hl1
  have l0 := cell_lt x0
  have l1 : w.heap.size + 1 < wr.heap.size + 1 := by omega
  clear hl1
  obtain rfl | rfl | rfl | rfl : k = 0 \/ k = 1 \/ k = 2 \/ k = 3 := by omega
  ·have hix := ixB0 (w.heap.size + 2)
   have heq := eqB0
   go_wp2
   obtain ⟨W1, hW1⟩ : ∃ W1, Hid ((wr.alloc (.cells #[.string (wordS 0), .slice (some ⟨w.heap.size + 2 + 3, 0, none⟩) 3 3] 224)).drew = W1) := ⟨_, Lib.hid rfl⟩
   have hB1 : Below wr.heap.size wr W1 := by rw [<- hW1.out]; exact bl_drew (bl_alloc (bl_refl wr))
   have A1 : W1.heap[wr.heap.size]? = some (.cells #[.string (wordS 0), .slice (some ⟨w.heap.size + 2 + 3, 0, none⟩) 3 3] 224 (0, 0)) := by rw [<- hW1.out]; exact heap_at _ _ _ rfl
   have y0 := cell_of_row W1 wr.heap.size 0 _ _ _ A1
   have x1 := (hB1.cell (p := ⟨w.heap.size + 1, 0, none⟩) l0).trans x0
   have H1 : Hid (Cl W1 w.heap.size zeroCall /\ Wd W1 (w.heap.size + 1) wsB /\ ShM W1 (w.heap.size + 2) /\ Below w.heap.size w W1) := Lib.hid ⟨HI.out.1.below hB1, HI.out.2.1.below hB1, HI.out.2.2.1.below hB1, bl_call HI.out.2.2.2 hB1⟩
   refine region_still (by kernel_rfl) (by kernel_rfl) hW1.out ?_
   clear A1 hB1 hW1 x0 l0 l1 HI
   iterate 6 still_step
   refine wpStill_nil ?_
   go_wp2
   go_roundw
   case rel => exact ⟨1, by omega, by go_num, H1⟩
   case measure => simp [intOf]
  ·have hix := ixB1 (w.heap.size + 2)
   have heq := eqB1
   go_wp2
   obtain ⟨W1, hW1⟩ : ∃ W1, Hid ((wr.alloc (.cells #[.string (wordS 1), .slice (some ⟨w.heap.size + 2 + 4, 0, none⟩) 1 1] 224)).drew = W1) := ⟨_, Lib.hid rfl⟩
   have hB1 : Below wr.heap.size wr W1 := by rw [<- hW1.out]; exact bl_drew (bl_alloc (bl_refl wr))
   have A1 : W1.heap[wr.heap.size]? = some (.cells #[.string (wordS 1), .slice (some ⟨w.heap.size + 2 + 4, 0, none⟩) 1 1] 224 (0, 0)) := by rw [<- hW1.out]; exact heap_at _ _ _ rfl
   have y0 := cell_of_row W1 wr.heap.size 0 _ _ _ A1
   have x1 := (hB1.cell (p := ⟨w.heap.size + 1, 0, none⟩) l0).trans x0
   have H1 : Hid (Cl W1 w.heap.size zeroCall /\ Wd W1 (w.heap.size + 1) wsB /\ ShM W1 (w.heap.size + 2) /\ Below w.heap.size w W1) := Lib.hid ⟨HI.out.1.below hB1, HI.out.2.1.below hB1, HI.out.2.2.1.below hB1, bl_call HI.out.2.2.2 hB1⟩
   refine region_still (by kernel_rfl) (by kernel_rfl) hW1.out ?_
   clear A1 hB1 hW1 x0 l0 l1 HI
   iterate 6 still_step
   refine wpStill_nil ?_
   go_wp2
   go_roundw
   case rel => exact ⟨2, by omega, by go_num, H1⟩
   case measure => simp [intOf]
  ·have hix := ixB2 (w.heap.size + 2)
   have heq := eqB2
   go_wp2
   obtain ⟨W1, hW1⟩ : ∃ W1, Hid ((wr.alloc (.cells #[.string (wordS 2), .slice (some ⟨w.heap.size + 2 + 5, 0, none⟩) 1 1] 224)).drew = W1) := ⟨_, Lib.hid rfl⟩
   have hB1 : Below wr.heap.size wr W1 := by rw [<- hW1.out]; exact bl_drew (bl_alloc (bl_refl wr))
   have A1 : W1.heap[wr.heap.size]? = some (.cells #[.string (wordS 2), .slice (some ⟨w.heap.size + 2 + 5, 0, none⟩) 1 1] 224 (0, 0)) := by rw [<- hW1.out]; exact heap_at _ _ _ rfl
   have y0 := cell_of_row W1 wr.heap.size 0 _ _ _ A1
   have x1 := (hB1.cell (p := ⟨w.heap.size + 1, 0, none⟩) l0).trans x0
   have H1 : Hid (Cl W1 w.heap.size zeroCall /\ Wd W1 (w.heap.size + 1) wsB /\ ShM W1 (w.heap.size + 2) /\ Below w.heap.size w W1) := Lib.hid ⟨HI.out.1.below hB1, HI.out.2.1.below hB1, HI.out.2.2.1.below hB1, bl_call HI.out.2.2.2 hB1⟩
   refine region_still (by kernel_rfl) (by kernel_rfl) hW1.out ?_
   clear A1 hB1 hW1 x0 l0 l1 HI
   iterate 6 still_step
   refine wpStill_nil ?_
   go_wp2
   go_roundw
   case rel => exact ⟨3, by omega, by go_num, H1⟩
   case measure => simp [intOf]
  ·have hix := ixB3 (w.heap.size + 2)
   have heq := eqB3
   go_wp2
   obtain ⟨W1, hW1⟩ : ∃ W1, Hid ((wr.alloc (.cells #[.string (wordS 3), .slice (some ⟨w.heap.size + 2 + 6, 0, none⟩) 2 2] 224)).drew = W1) := ⟨_, Lib.hid rfl⟩
   have hB1 : Below wr.heap.size wr W1 := by rw [<- hW1.out]; exact bl_drew (bl_alloc (bl_refl wr))
   have A1 : W1.heap[wr.heap.size]? = some (.cells #[.string (wordS 3), .slice (some ⟨w.heap.size + 2 + 6, 0, none⟩) 2 2] 224 (0, 0)) := by rw [<- hW1.out]; exact heap_at _ _ _ rfl
   have y0 := cell_of_row W1 wr.heap.size 0 _ _ _ A1
   have y1 := cell_of_row W1 wr.heap.size 1 _ _ _ A1
   have x1 := (hB1.cell (p := ⟨w.heap.size + 1, 0, none⟩) l0).trans x0
   have H1 : Hid (PS w W1 wsB wr.heap.size #[.string (wordS 3), .slice (some ⟨w.heap.size + 2 + 6, 0, none⟩) 2 2]) := Lib.hid ⟨HI.out.1.below hB1, HI.out.2.1.below hB1, HI.out.2.2.1.below hB1, bl_call HI.out.2.2.2 hB1, A1⟩
   obtain ⟨sb, hsb⟩ : ∃ sb, Hid (sb = wr.heap.size) := ⟨_, Lib.hid rfl⟩
   refine region_still (by kernel_rfl) (by kernel_rfl) hW1.out ?_
   rw [<- hsb.out] at y0 y1 H1 ⊢
   clear A1 hB1 hW1 x0 l0 l1 HI
   iterate 6 still_step
   refine wpStill_nil ?_
   have l1 := cell_lt y0
   go_wp2
   obtain ⟨cb, hcb⟩ : ∃ cb, Hid (cb = W1.heap.size) := ⟨_, Lib.hid rfl⟩
   have hc1 : w.heap.size + 9 < cb := by rw [hcb.out]; exact (Array.getElem?_eq_some_iff.1 H1.out.sh.sum).1
   have hc2 : sb < cb := by rw [hcb.out]; exact l1
   obtain ⟨W2, hW2⟩ : ∃ W2, Hid (W1.alloc (.cells (callC 4 0 0 0 nilS nilS nilS) 108) = W2) := ⟨_, Lib.hid rfl⟩
   have H2 : Hid (PS w W2 wsB sb #[.string (wordS 3), .slice (some ⟨w.heap.size + 2 + 6, 0, none⟩) 2 2] /\ callAtB 0 w W2 cb) := Lib.hid (by
    rw [<- hW2.out, hcb.out]
    exact ⟨H1.out.below (bl_alloc (bl_refl W1)), heap_at _ _ _ rfl⟩)
   change Code.wp _ _ _ _ (W1.alloc (.cells (callC 4 0 0 0 nilS nilS nilS) 108))
   rw [hW2.out, <- hcb.out]
   clear hW2 hcb H1 y0 y1 x1 l1 hsb
   go_loopw [8, 9] (fun ok j wr => ∃ q : Nat, q <= 2 /\ ok = .bool true /\ j = .int .i64 q /\ Hid (PS w wr wsB sb #[.string (wordS 3), .slice (some ⟨w.heap.size + 2 + 6, 0, none⟩) 2 2] /\ callAtB q w wr cb)) (fun ok j _ => 3 - (intOf j).toNat)
   case atStart => exact ⟨0, by omega, rfl, rfl, H2⟩
   case round =>
    clear H2
    obtain ⟨q, hq, rfl, rfl, HQ⟩ := hrel
    have s1 := cell_of_row wr sb 1 _ _ _ HQ.out.1.row
    obtain rfl | rfl | rfl : q = 0 \/ q = 1 \/ q = 2 := by omega
    ·have g0 : wr.cell? ⟨w.heap.size + 2 + 6, 0, none⟩ = some (fnV 198) := cell_of_row wr (w.heap.size + 2 + 6) 0 _ _ _ HQ.out.1.sh.write
     have v0 := cell_of_row wr (w.heap.size + 1) 1 _ _ _ HQ.out.1.wd
     obtain ⟨W3, hW3⟩ : ∃ W3, Hid (wr.drew = W3) := ⟨_, Lib.hid rfl⟩
     have H3 : Hid (PS w W3 wsB sb #[.string (wordS 3), .slice (some ⟨w.heap.size + 2 + 6, 0, none⟩) 2 2] /\ callAtB 0 w W3 cb) := by rw [<- hW3.out]; exact Lib.hid ⟨HQ.out.1.below (bl_drew (bl_refl _)), HQ.out.2⟩
     have hwr : IntKind.i64.wrap 1 = 1 := rfl
     have s3 : W3.cell? ⟨sb, 1, none⟩ = some (.slice (some ⟨w.heap.size + 2 + 6, 0, none⟩) 2 2) := by rw [<- hW3.out]; exact s1
     have g3 : W3.cell? ⟨w.heap.size + 2 + 6, 0, none⟩ = some (fnV 198) := by rw [<- hW3.out]; exact g0
     have v3 : W3.cell? ⟨w.heap.size + 1, 1, none⟩ = some (.string (w1S)) := by rw [<- hW3.out]; exact v0
     obtain ⟨wq, hwq⟩ : ∃ wq, Hid (wq = w1S) := ⟨_, Lib.hid rfl⟩
     rw [<- hwq.out] at v3
     unfold fnV at g3
     go_wp2
     refine region_tail 11 (by kernel_rfl) (by kernel_rfl) hW3.out ?_
     clear hW3 g0 v0 s1 HQ
     simp only [List.take_succ_cons, List.take_zero, List.drop_succ_cons, List.drop_zero]
     iterate 11 still_step
     refine wpStill_nil ?_
     go_wp2_with (go_at_call 198; rw [hwq.out]; (refine (getH_w W3 H3.out.2).mono ?_); rintro e w5 ⟨rfl, c5, g5⟩; have Q5 : Hid (W3.grownBy w5 (some cb) /\ callAtB 1 w w5 cb) := Lib.hid ⟨g5, c5⟩; clear c5 g5)
     go_roundw
     case rel => exact ⟨1, by omega, rfl, by go_num, Lib.hid ⟨H3.out.1.grown Q5.out.1 hc1 hc2, Q5.out.2⟩⟩
     case measure => simp [intOf]
    ·have g0 : wr.cell? ⟨w.heap.size + 2 + 6, 2, none⟩ = some (fnV 200) := cell_of_row wr (w.heap.size + 2 + 6) 2 _ _ _ HQ.out.1.sh.write
     have v0 := cell_of_row wr (w.heap.size + 1) 2 _ _ _ HQ.out.1.wd
     obtain ⟨W3, hW3⟩ : ∃ W3, Hid (wr.drew = W3) := ⟨_, Lib.hid rfl⟩
     have H3 : Hid (PS w W3 wsB sb #[.string (wordS 3), .slice (some ⟨w.heap.size + 2 + 6, 0, none⟩) 2 2] /\ callAtB 1 w W3 cb) := by rw [<- hW3.out]; exact Lib.hid ⟨HQ.out.1.below (bl_drew (bl_refl _)), HQ.out.2⟩
     have hwr : IntKind.i64.wrap 2 = 2 := rfl
     have s3 : W3.cell? ⟨sb, 1, none⟩ = some (.slice (some ⟨w.heap.size + 2 + 6, 0, none⟩) 2 2) := by rw [<- hW3.out]; exact s1
     have g3 : W3.cell? ⟨w.heap.size + 2 + 6, 2, none⟩ = some (fnV 200) := by rw [<- hW3.out]; exact g0
     have v3 : W3.cell? ⟨w.heap.size + 1, 2, none⟩ = some (.string (s6)) := by rw [<- hW3.out]; exact v0
     obtain ⟨wq, hwq⟩ : ∃ wq, Hid (wq = s6) := ⟨_, Lib.hid rfl⟩
     rw [<- hwq.out] at v3
     unfold fnV at g3
     go_wp2
     refine region_tail 11 (by kernel_rfl) (by kernel_rfl) hW3.out ?_
     clear hW3 g0 v0 s1 HQ
     simp only [List.take_succ_cons, List.take_zero, List.drop_succ_cons, List.drop_zero]
     iterate 11 still_step
     refine wpStill_nil ?_
     go_wp2_with (go_at_call 200; rw [hwq.out]; (refine (getB_abc W3 H3.out.2).mono ?_); rintro e w5 ⟨v5, rfl, c5, o5, g5⟩; have Q5 : Hid (W3.grownBy w5 (some cb) /\ callAtB 2 w w5 cb) := Lib.hid ⟨g5, v5, c5, owns_base H3.out.1.bl.size o5⟩; clear c5 g5 o5)
     go_roundw
     case rel => exact ⟨2, by omega, rfl, by go_num, Lib.hid ⟨H3.out.1.grown Q5.out.1 hc1 hc2, Q5.out.2⟩⟩
     case measure => simp [intOf]
    ·have hz : hasRow wr w.heap.size 9 := HQ.out.1.z.row rfl
     have hv : ∃ v, Cl wr cb (callC 4 1 0 0 nilS nilS v) /\ owns wr w.heap.size 5 .u8 v 3 (fun j => (abcC j : Int)) := HQ.out.2
     obtain ⟨v, hcl, ho⟩ := hv
     obtain ⟨av, cv, rfl, _, _, _⟩ := owns_reads ho
     have HO := Lib.hid ho
     clear ho
     have hld : (loadRow ⟨cb, 0, none⟩ 9).run Tryz.prog wr = .ok (callC 4 1 0 0 nilS nilS (.slice av 3 cv)) wr := hcl.load
     unfold callC callL nilS at hld
     clear hcl
     go_wp2
     have hC2 : Cl (wr.setRow w.heap.size (callC 4 1 0 0 nilS nilS (.slice av 3 cv))) w.heap.size (callC 4 1 0 0 nilS nilS (.slice av 3 cv)) := HQ.out.1.z.setRow _
     have hB2 : Below w.heap.size w (wr.setRow w.heap.size (callC 4 1 0 0 nilS nilS (.slice av 3 cv))) := HQ.out.1.bl.trans (below_own (gb_row wr w.heap.size _) (Nat.le_refl _) HQ.out.1.bl.size)
     exact bodyPost_ret (results_cell_tmp rfl _ _ w.heap.size (callC 4 1 0 0 nilS nilS (.slice av 3 cv)) rfl (hC2.var rfl)) rfl ⟨_, rfl, owns_row HO.out HQ.out.1.z (by decide) _, hB2⟩
end
section
open Go.RowKit Go.Shelf Bt
attribute [local go_sem] lt_s2 lt_s3 lt_s4 lt_s5 lt_s6 hasRow_at hasRow_past run_storeRow Value.oneCell' setRow_at setRow_past
attribute [local go_sem ↓] storeRow_is loadRow_is
def lineC : ByteArray := ⟨#[115, 117, 109, 32, 49, 32, 45]⟩
def wsC : List ByteArray := [wordS 4, w1S, dashS]
theorem splitC : Lib.splitB ⟨#[32]⟩ 0 (Lib.countB lineC ⟨#[32]⟩) lineC = wsC := by kernel_rfl
theorem countC : Lib.countB lineC ⟨#[32]⟩ + 1 = wsC.length := by kernel_rfl
def callAtC (q : Nat) (_ : World) (wi : World) (cb : Nat) : Prop := Cl wi cb (callC 5 (if q = 0 then 0 else 1) 0 0 nilS nilS nilS)
theorem ixC0 (B : Nat) (w : World) : (Instr.index 225 (.agg (shC B)) (.int .i64 0)).run Tryz.prog w = .ok (.agg #[.string (wordS 0), .slice (some ⟨B + 3, 0, none⟩) 3 3]) w := by kernel_rfl
theorem eqC0 : ((wordS 0).toList == (wordS 4).toList) = false := by kernel_rfl
theorem ixC1 (B : Nat) (w : World) : (Instr.index 225 (.agg (shC B)) (.int .i64 1)).run Tryz.prog w = .ok (.agg #[.string (wordS 1), .slice (some ⟨B + 4, 0, none⟩) 1 1]) w := by kernel_rfl
theorem eqC1 : ((wordS 1).toList == (wordS 4).toList) = false := by kernel_rfl
theorem ixC2 (B : Nat) (w : World) : (Instr.index 225 (.agg (shC B)) (.int .i64 2)).run Tryz.prog w = .ok (.agg #[.string (wordS 2), .slice (some ⟨B + 5, 0, none⟩) 1 1]) w := by kernel_rfl
theorem eqC2 : ((wordS 2).toList == (wordS 4).toList) = false := by kernel_rfl
theorem ixC3 (B : Nat) (w : World) : (Instr.index 225 (.agg (shC B)) (.int .i64 3)).run Tryz.prog w = .ok (.agg #[.string (wordS 3), .slice (some ⟨B + 6, 0, none⟩) 2 2]) w := by kernel_rfl
theorem eqC3 : ((wordS 3).toList == (wordS 4).toList) = false := by kernel_rfl
theorem ixC4 (B : Nat) (w : World) : (Instr.index 225 (.agg (shC B)) (.int .i64 4)).run Tryz.prog w = .ok (.agg #[.string (wordS 4), .slice (some ⟨B + 7, 0, none⟩) 2 2]) w := by kernel_rfl
theorem eqC4 : ((wordS 4).toList == (wordS 4).toList) = true := by kernel_rfl
set_option maxRecDepth 100000 in
set_option maxHeartbeats 8000000 in
theorem parseC_w (w : World) (ht : TabE w) {m : Int} (hm : w.cell? ⟨6, 0, none⟩ = some (.int .i64 m)) : Calls Tryz.prog 95 #[.string lineC] w fun e w' => e = .returned (.tuple #[.agg (callC 5 1 0 0 nilS nilS nilS), .int .i64 0]) /\ Below w.heap.size w w' := by
 have HT : Hid (∀ {w' : World}, Below w.heap.size w w' -> TabE w') := Lib.hid fun hB => ht.grown (gb_below (r := none) hB) (by simp)
 have hml := cell_lt hm
 have CW : Hid (∀ W : World, W.cell? ⟨6, 0, none⟩ = some (.int .i64 m) -> Calls Tryz.prog 140 #[.string lineC] W fun e w' => e = .returned (.slice (some ⟨W.heap.size, 0, none⟩) 3 3) /\ W.alloc (.cells (words wsC) 9) = w') := Lib.hid fun W h => words_w lineC wsC (by decide) splitC countC W h
 have CH : Hid (∀ W : World, Calls Tryz.prog 141 #[] W fun e w' => e = .returned (.agg (shC W.heap.size)) /\ Below W.heap.size W w' /\ ShM w' W.heap.size) := Lib.hid shapes_w
 obtain ⟨L, hL⟩ : ∃ L, Hid (L = lineC) := ⟨_, Lib.hid rfl⟩
 rw [<- hL.out] at CW ⊢
 clear ht
 go_enter Tryz.func95, Tryz.ntmps95
 go_wp2_with (first | (go_at_call 140; refine (CW.out _ ?hmm).mono ?_; (case hmm => rw [cell_past hml]; exact hm); rintro e w1 ⟨rfl, rfl⟩) | (go_at_call 141; (with_reducible refine (CH.out _).mono ?_); rintro e w2 ⟨rfl, hB2, hM2⟩; have P2 := Lib.hid (And.intro hB2 hM2); clear hB2 hM2))
 have W2 : Hid (Cl w2 w.heap.size zeroCall /\ Wd w2 (w.heap.size + 1) wsC /\ ShM w2 (w.heap.size + 2) /\ Below w.heap.size w w2) := Lib.hid ⟨(P2.out.1.block _ (by simp; omega)).trans (heap_past _ _ _ _ (by simp) (heap_at _ _ _ rfl)), (P2.out.1.block _ (by simp)).trans (heap_at _ _ _ (by simp)), by have := P2.out.2; simpa using this, bl_call (bl_alloc (bl_alloc (bl_refl w))) P2.out.1⟩
 clear hm hml P2
 go_loopw [13] (fun i wr => ∃ k : Nat, k <= 4 /\ i = .int .i64 k /\ Hid (Cl wr w.heap.size zeroCall /\ Wd wr (w.heap.size + 1) wsC /\ ShM wr (w.heap.size + 2) /\ Below w.heap.size w wr)) (fun i _ => 5 - (intOf i).toNat)
 case atStart => exact ⟨0, by omega, rfl, W2⟩
 case round =>
  clear W2
  obtain ⟨k, hk, rfl, HI⟩ := hrel
  have hl1 := HI.out.2.1
  have x0 : wr.cell? ⟨w.heap.size + 1, 0, none⟩ = some (.string (wordS 4)) := cell_of_row wr (w.heap.size + 1) 0 _ _ _ hl1
  have l0 := cell_lt x0
  have l1 : w.heap.size + 1 < wr.heap.size + 1 := by omega
  clear hl1
  obtain rfl | rfl | rfl | rfl | rfl : k = 0 \/ k = 1 \/ k = 2 \/ k = 3 \/ k = 4 := by omega
  ·have hix := ixC0 (w.heap.size + 2)
   have heq := eqC0
   go_wp2
   obtain ⟨W1, hW1⟩ : ∃ W1, Hid ((wr.alloc (.cells #[.string (wordS 0), .slice (some ⟨w.heap.size + 2 + 3, 0, none⟩) 3 3] 224)).drew = W1) := ⟨_, Lib.hid rfl⟩
   have hB1 : Below wr.heap.size wr W1 := by rw [<- hW1.out]; exact bl_drew (bl_alloc (bl_refl wr))
   have A1 : W1.heap[wr.heap.size]? = some (.cells #[.string (wordS 0), .slice (some ⟨w.heap.size + 2 + 3, 0, none⟩) 3 3] 224 (0, 0)) := by rw [<- hW1.out]; exact heap_at _ _ _ rfl
   have y0 := cell_of_row W1 wr.heap.size 0 _ _ _ A1
   have x1 := (hB1.cell (p := ⟨w.heap.size + 1, 0, none⟩) l0).trans x0
   have H1 : Hid (Cl W1 w.heap.size zeroCall /\ Wd W1 (w.heap.size + 1) wsC /\ ShM W1 (w.heap.size + 2) /\ Below w.heap.size w W1) := Lib.hid ⟨HI.out.1.below hB1, HI.out.2.1.below hB1, HI.out.2.2.1.below hB1, bl_call HI.out.2.2.2 hB1⟩
   refine region_still (by kernel_rfl) (by kernel_rfl) hW1.out ?_
   clear A1 hB1 hW1 x0 l0 l1 HI
   iterate 6 still_step
   refine wpStill_nil ?_
   go_wp2
   go_roundw
   case rel => exact ⟨1, by omega, by go_num, H1⟩
   case measure => simp [intOf]
  ·have hix := ixC1 (w.heap.size + 2)
   have heq := eqC1
   go_wp2
   obtain ⟨W1, hW1⟩ : ∃ W1, Hid ((wr.alloc (.cells #[.string (wordS 1), .slice (some ⟨w.heap.size + 2 + 4, 0, none⟩) 1 1] 224)).drew = W1) := ⟨_, Lib.hid rfl⟩
   have hB1 : Below wr.heap.size wr W1 := by rw [<- hW1.out]; exact bl_drew (bl_alloc (bl_refl wr))
   have A1 : W1.heap[wr.heap.size]? = some (.cells #[.string (wordS 1), .slice (some ⟨w.heap.size + 2 + 4, 0, none⟩) 1 1] 224 (0, 0)) := by rw [<- hW1.out]; exact heap_at _ _ _ rfl
   have y0 := cell_of_row W1 wr.heap.size 0 _ _ _ A1
   have x1 := (hB1.cell (p := ⟨w.heap.size + 1, 0, none⟩) l0).trans x0
   have H1 : Hid (Cl W1 w.heap.size zeroCall /\ Wd W1 (w.heap.size + 1) wsC /\ ShM W1 (w.heap.size + 2) /\ Below w.heap.size w W1) := Lib.hid ⟨HI.out.1.below hB1, HI.out.2.1.below hB1, HI.out.2.2.1.below hB1, bl_call HI.out.2.2.2 hB1⟩
   refine region_still (by kernel_rfl) (by kernel_rfl) hW1.out ?_
   clear A1 hB1 hW1 x0 l0 l1 HI
   iterate 6 still_step
   refine wpStill_nil ?_
   go_wp2
   go_roundw
   case rel => exact ⟨2, by omega, by go_num, H1⟩
   case measure => simp [intOf]
  ·have hix := ixC2 (w.heap.size + 2)
   have heq := eqC2
   go_wp2
   obtain ⟨W1, hW1⟩ : ∃ W1, Hid ((wr.alloc (.cells #[.string (wordS 2), .slice (some ⟨w.heap.size + 2 + 5, 0, none⟩) 1 1] 224)).drew = W1) := ⟨_, Lib.hid rfl⟩
   have hB1 : Below wr.heap.size wr W1 := by rw [<- hW1.out]; exact bl_drew (bl_alloc (bl_refl wr))
   have A1 : W1.heap[wr.heap.size]? = some (.cells #[.string (wordS 2), .slice (some ⟨w.heap.size + 2 + 5, 0, none⟩) 1 1] 224 (0, 0)) := by rw [<- hW1.out]; exact heap_at _ _ _ rfl
   have y0 := cell_of_row W1 wr.heap.size 0 _ _ _ A1
   have x1 := (hB1.cell (p := ⟨w.heap.size + 1, 0, none⟩) l0).trans x0
   have H1 : Hid (Cl W1 w.heap.size zeroCall /\ Wd W1 (w.heap.size + 1) wsC /\ ShM W1 (w.heap.size + 2) /\ Below w.heap.size w W1) := Lib.hid ⟨HI.out.1.below hB1, HI.out.2.1.below hB1, HI.out.2.2.1.below hB1, bl_call HI.out.2.2.2 hB1⟩
   refine region_still (by kernel_rfl) (by kernel_rfl) hW1.out ?_
   clear A1 hB1 hW1 x0 l0 l1 HI
   iterate 6 still_step
   refine wpStill_nil ?_
   go_wp2
   go_roundw
   case rel => exact ⟨3, by omega, by go_num, H1⟩
   case measure => simp [intOf]
  ·have hix := ixC3 (w.heap.size + 2)
   have heq := eqC3
   go_wp2
   obtain ⟨W1, hW1⟩ : ∃ W1, Hid ((wr.alloc (.cells #[.string (wordS 3), .slice (some ⟨w.heap.size + 2 + 6, 0, none⟩) 2 2] 224)).drew = W1) := ⟨_, Lib.hid rfl⟩
   have hB1 : Below wr.heap.size wr W1 := by rw [<- hW1.out]; exact bl_drew (bl_alloc (bl_refl wr))
   have A1 : W1.heap[wr.heap.size]? = some (.cells #[.string (wordS 3), .slice (some ⟨w.heap.size + 2 + 6, 0, none⟩) 2 2] 224 (0, 0)) := by rw [<- hW1.out]; exact heap_at _ _ _ rfl
   have y0 := cell_of_row W1 wr.heap.size 0 _ _ _ A1
   have x1 := (hB1.cell (p := ⟨w.heap.size + 1, 0, none⟩) l0).trans x0
   have H1 : Hid (Cl W1 w.heap.size zeroCall /\ Wd W1 (w.heap.size + 1) wsC /\ ShM W1 (w.heap.size + 2) /\ Below w.heap.size w W1) := Lib.hid ⟨HI.out.1.below hB1, HI.out.2.1.below hB1, HI.out.2.2.1.below hB1, bl_call HI.out.2.2.2 hB1⟩
   refine region_still (by kernel_rfl) (by kernel_rfl) hW1.out ?_
   clear A1 hB1 hW1 x0 l0 l1 HI
   iterate 6 still_step
   refine wpStill_nil ?_
   go_wp2
   go_roundw
   case rel => exact ⟨4, by omega, by go_num, H1⟩
   case measure => simp [intOf]
  ·have hix := ixC4 (w.heap.size + 2)
   have heq := eqC4
   go_wp2
   obtain ⟨W1, hW1⟩ : ∃ W1, Hid ((wr.alloc (.cells #[.string (wordS 4), .slice (some ⟨w.heap.size + 2 + 7, 0, none⟩) 2 2] 224)).drew = W1) := ⟨_, Lib.hid rfl⟩
   have hB1 : Below wr.heap.size wr W1 := by rw [<- hW1.out]; exact bl_drew (bl_alloc (bl_refl wr))
   have A1 : W1.heap[wr.heap.size]? = some (.cells #[.string (wordS 4), .slice (some ⟨w.heap.size + 2 + 7, 0, none⟩) 2 2] 224 (0, 0)) := by rw [<- hW1.out]; exact heap_at _ _ _ rfl
   have y0 := cell_of_row W1 wr.heap.size 0 _ _ _ A1
   have y1 := cell_of_row W1 wr.heap.size 1 _ _ _ A1
   have x1 := (hB1.cell (p := ⟨w.heap.size + 1, 0, none⟩) l0).trans x0
   have H1 : Hid (PS w W1 wsC wr.heap.size #[.string (wordS 4), .slice (some ⟨w.heap.size + 2 + 7, 0, none⟩) 2 2]) := Lib.hid ⟨HI.out.1.below hB1, HI.out.2.1.below hB1, HI.out.2.2.1.below hB1, bl_call HI.out.2.2.2 hB1, A1⟩
   obtain ⟨sb, hsb⟩ : ∃ sb, Hid (sb = wr.heap.size) := ⟨_, Lib.hid rfl⟩
   refine region_still (by kernel_rfl) (by kernel_rfl) hW1.out ?_
   rw [<- hsb.out] at y0 y1 H1 ⊢
   clear A1 hB1 hW1 x0 l0 l1 HI
   iterate 6 still_step
   refine wpStill_nil ?_
   have l1 := cell_lt y0
   go_wp2
   obtain ⟨cb, hcb⟩ : ∃ cb, Hid (cb = W1.heap.size) := ⟨_, Lib.hid rfl⟩
   have hc1 : w.heap.size + 9 < cb := by rw [hcb.out]; exact (Array.getElem?_eq_some_iff.1 H1.out.sh.sum).1
   have hc2 : sb < cb := by rw [hcb.out]; exact l1
   obtain ⟨W2, hW2⟩ : ∃ W2, Hid (W1.alloc (.cells (callC 5 0 0 0 nilS nilS nilS) 108) = W2) := ⟨_, Lib.hid rfl⟩
   have H2 : Hid (PS w W2 wsC sb #[.string (wordS 4), .slice (some ⟨w.heap.size + 2 + 7, 0, none⟩) 2 2] /\ callAtC 0 w W2 cb) := Lib.hid (by
    rw [<- hW2.out, hcb.out]
    exact ⟨H1.out.below (bl_alloc (bl_refl W1)), heap_at _ _ _ rfl⟩)
   change Code.wp _ _ _ _ (W1.alloc (.cells (callC 5 0 0 0 nilS nilS nilS) 108))
   rw [hW2.out, <- hcb.out]
   clear hW2 hcb H1 y0 y1 x1 l1 hsb
   go_loopw [8, 9] (fun ok j wr => ∃ q : Nat, q <= 2 /\ ok = .bool true /\ j = .int .i64 q /\ Hid (PS w wr wsC sb #[.string (wordS 4), .slice (some ⟨w.heap.size + 2 + 7, 0, none⟩) 2 2] /\ callAtC q w wr cb)) (fun ok j _ => 3 - (intOf j).toNat)
   case atStart => exact ⟨0, by omega, rfl, rfl, H2⟩
   case round =>
    clear H2
    obtain ⟨q, hq, rfl, rfl, HQ⟩ := hrel
    have s1 := cell_of_row wr sb 1 _ _ _ HQ.out.1.row
    obtain rfl | rfl | rfl : q = 0 \/ q = 1 \/ q = 2 := by omega
    ·have g0 : wr.cell? ⟨w.heap.size + 2 + 7, 0, none⟩ = some (fnV 198) := cell_of_row wr (w.heap.size + 2 + 7) 0 _ _ _ HQ.out.1.sh.sum
     have v0 := cell_of_row wr (w.heap.size + 1) 1 _ _ _ HQ.out.1.wd
     obtain ⟨W3, hW3⟩ : ∃ W3, Hid (wr.drew = W3) := ⟨_, Lib.hid rfl⟩
     have H3 : Hid (PS w W3 wsC sb #[.string (wordS 4), .slice (some ⟨w.heap.size + 2 + 7, 0, none⟩) 2 2] /\ callAtC 0 w W3 cb) := by rw [<- hW3.out]; exact Lib.hid ⟨HQ.out.1.below (bl_drew (bl_refl _)), HQ.out.2⟩
     have hwr : IntKind.i64.wrap 1 = 1 := rfl
     have s3 : W3.cell? ⟨sb, 1, none⟩ = some (.slice (some ⟨w.heap.size + 2 + 7, 0, none⟩) 2 2) := by rw [<- hW3.out]; exact s1
     have g3 : W3.cell? ⟨w.heap.size + 2 + 7, 0, none⟩ = some (fnV 198) := by rw [<- hW3.out]; exact g0
     have v3 : W3.cell? ⟨w.heap.size + 1, 1, none⟩ = some (.string (w1S)) := by rw [<- hW3.out]; exact v0
     obtain ⟨wq, hwq⟩ : ∃ wq, Hid (wq = w1S) := ⟨_, Lib.hid rfl⟩
     rw [<- hwq.out] at v3
     unfold fnV at g3
     go_wp2
     refine region_tail 11 (by kernel_rfl) (by kernel_rfl) hW3.out ?_
     clear hW3 g0 v0 s1 HQ
     simp only [List.take_succ_cons, List.take_zero, List.drop_succ_cons, List.drop_zero]
     iterate 11 still_step
     refine wpStill_nil ?_
     go_wp2_with (go_at_call 198; rw [hwq.out]; (refine (getH_w W3 H3.out.2).mono ?_); rintro e w5 ⟨rfl, c5, g5⟩; have Q5 : Hid (W3.grownBy w5 (some cb) /\ callAtC 1 w w5 cb) := Lib.hid ⟨g5, c5⟩; clear c5 g5)
     go_roundw
     case rel => exact ⟨1, by omega, rfl, by go_num, Lib.hid ⟨H3.out.1.grown Q5.out.1 hc1 hc2, Q5.out.2⟩⟩
     case measure => simp [intOf]
    ·have g0 : wr.cell? ⟨w.heap.size + 2 + 7, 2, none⟩ = some (fnV 200) := cell_of_row wr (w.heap.size + 2 + 7) 2 _ _ _ HQ.out.1.sh.sum
     have v0 := cell_of_row wr (w.heap.size + 1) 2 _ _ _ HQ.out.1.wd
     obtain ⟨W3, hW3⟩ : ∃ W3, Hid (wr.drew = W3) := ⟨_, Lib.hid rfl⟩
     have H3 : Hid (PS w W3 wsC sb #[.string (wordS 4), .slice (some ⟨w.heap.size + 2 + 7, 0, none⟩) 2 2] /\ callAtC 1 w W3 cb) := by rw [<- hW3.out]; exact Lib.hid ⟨HQ.out.1.below (bl_drew (bl_refl _)), HQ.out.2⟩
     have hwr : IntKind.i64.wrap 2 = 2 := rfl
     have s3 : W3.cell? ⟨sb, 1, none⟩ = some (.slice (some ⟨w.heap.size + 2 + 7, 0, none⟩) 2 2) := by rw [<- hW3.out]; exact s1
     have g3 : W3.cell? ⟨w.heap.size + 2 + 7, 2, none⟩ = some (fnV 200) := by rw [<- hW3.out]; exact g0
     have v3 : W3.cell? ⟨w.heap.size + 1, 2, none⟩ = some (.string (dashS)) := by rw [<- hW3.out]; exact v0
     obtain ⟨wq, hwq⟩ : ∃ wq, Hid (wq = dashS) := ⟨_, Lib.hid rfl⟩
     rw [<- hwq.out] at v3
     unfold fnV at g3
     go_wp2
     refine region_tail 11 (by kernel_rfl) (by kernel_rfl) hW3.out ?_
     clear hW3 g0 v0 s1 HQ
     simp only [List.take_succ_cons, List.take_zero, List.drop_succ_cons, List.drop_zero]
     iterate 11 still_step
     refine wpStill_nil ?_
     go_wp2_with (go_at_call 200; rw [hwq.out]; (refine (getB_dash W3 H3.out.2).mono ?_); rintro e w5 ⟨rfl, c5, g5⟩; have Q5 : Hid (W3.grownBy w5 (some cb) /\ callAtC 2 w w5 cb) := Lib.hid ⟨g5, c5⟩; clear c5 g5)
     go_roundw
     case rel => exact ⟨2, by omega, rfl, by go_num, Lib.hid ⟨H3.out.1.grown Q5.out.1 hc1 hc2, Q5.out.2⟩⟩
     case measure => simp [intOf]
    ·have hz : hasRow wr w.heap.size 9 := HQ.out.1.z.row rfl
     have hcl : Cl wr cb (callC 5 1 0 0 nilS nilS nilS) := HQ.out.2
     have hld : (loadRow ⟨cb, 0, none⟩ 9).run Tryz.prog wr = .ok (callC 5 1 0 0 nilS nilS nilS) wr := hcl.load
     unfold callC callL nilS at hld
     clear hcl
     go_wp2
     have hC2 : Cl (wr.setRow w.heap.size (callC 5 1 0 0 nilS nilS nilS)) w.heap.size (callC 5 1 0 0 nilS nilS nilS) := HQ.out.1.z.setRow _
     have hB2 : Below w.heap.size w (wr.setRow w.heap.size (callC 5 1 0 0 nilS nilS nilS)) := HQ.out.1.bl.trans (below_own (gb_row wr w.heap.size _) (Nat.le_refl _) HQ.out.1.bl.size)
     exact bodyPost_ret (results_cell_tmp rfl _ _ w.heap.size (callC 5 1 0 0 nilS nilS nilS) rfl (hC2.var rfl)) rfl ⟨rfl, hB2⟩
end
section
open Go.RowKit Go.Shelf Bt
attribute [local go_sem] lt_s2 lt_s3 lt_s4 lt_s5 lt_s6
def SameB (w : World) (a b : Value) : Prop := ∃ (p q : Option Addr) (n c d : Nat) (f : Nat -> Int), a = .slice p n c /\ b = .slice q n d /\ n <= 100 /\ reads w p n .u8 f /\ reads w q n .u8 f /\ ∀ j, 0 <= f j /\ f j < 256
theorem SameB.nil (w : World) : SameB w nilS nilS := ⟨none, none, 0, 0, 0, fun _ => 0, rfl, rfl, by omega, fun h => by omega, fun h => by omega, fun _ => by dsimp only; omega⟩
theorem SameB.below {w w1 : World} {a b : Value} (h : SameB w a b) (hb : Below w.heap.size w w1) : SameB w1 a b := by
 obtain ⟨p, q, n, c, d, f, h1, h2, h3, h4, h5, h6⟩ := h
 exact ⟨p, q, n, c, d, f, h1, h2, h3, reads_below (Nat.le_refl _) hb h4, reads_below (Nat.le_refl _) hb h5, h6⟩
theorem reads_in {w : World} {p : Option Addr} {n : Nat} {f : Nat -> Int} (h : reads w p n .u8 f) : Lib.BytesIn w p n ((List.range n).map f) := by
 intro hn
 obtain ⟨b, o, rfl, hc⟩ := h hn
 exact ⟨b, o, rfl, fun i hi => by rw [hc i hi]; simp [hi]⟩
theorem equal_w (w : World) (a b : Value) (h : SameB w a b) : Calls Tryz.prog 126 #[a, b] w fun e w' => e = .returned (.bool true) /\ w = w' := by
 obtain ⟨p, q, n, c, d, f, rfl, rfl, h3, h4, h5, h6⟩ := h
 refine (Tryz.bytes_Equal_all p q n c n d ((List.range n).map f) ((List.range n).map f) w (by simp) (by simp) (reads_in h4) (reads_in h5)).mono ?_
 rintro e w' ⟨rfl, rfl⟩
 exact ⟨by simp, rfl⟩
section
variable {kind h alg n : Int} {ns ss b ns' ss' b' : Value}
attribute [local go_sem] run_storeRow
set_option maxRecDepth 100000 in
set_option maxHeartbeats 4000000 in
theorem same_w (w : World) (h1 : SameB w ns ns') (h2 : SameB w ss ss') (h3 : SameB w b b') :
  Calls Tryz.prog 168 #[.agg (callC kind h alg n ns ss b), .agg (callC kind h alg n ns' ss' b')] w fun e w' => e = .returned (.bool true) /\ Below w.heap.size w w' := by
 have B0 : Below w.heap.size w ((w.alloc (.cells (callC kind h alg n ns ss b) 108)).alloc (.cells (callC kind h alg n ns' ss' b') 108)) := bl_alloc (bl_alloc (bl_refl w))
 have E1 := Lib.hid (equal_w _ _ _ (h1.below B0))
 have E2 := Lib.hid (equal_w _ _ _ (h2.below B0))
 have E3 := Lib.hid (equal_w _ _ _ (h3.below B0))
 clear h1 h2 h3
 unfold callC callL at E1 E2 E3 ⊢
 go_enter Tryz.func168, Tryz.ntmps168
 go_wp2_with (first | (go_at_call 126; (with_reducible refine E3.out.mono ?_); rintro e w1 ⟨rfl, rfl⟩) | (go_at_call 126; (with_reducible refine E1.out.mono ?_); rintro e w1 ⟨rfl, rfl⟩) | (go_at_call 126; (with_reducible refine E2.out.mono ?_); rintro e w1 ⟨rfl, rfl⟩))
 go_ret
 exact ⟨rfl, bl_alloc (bl_alloc (bl_refl w))⟩
end
theorem infoStr : (Tryz.prog.info? 9).map (fun i => (i.zero, i.size, i.bytes)) = some (some (.string ⟨#[]⟩), 1, 16) := by kernel_rfl
theorem append_str {ops : Array Oper} {rest : List Oper} {o : Oper} {a : Act} {w : World} {Q : Exit -> Act -> World -> Prop} (hgd : o.guard = none) (s x : Operand) (ho : o.op = .call { callee := .builtin .append, args := #[s, x], argTypes := #[164, 164] })
  {base : Nat} {v : Value} {n : Nat} {xs : List Value} (hs : a.eval s = v) {w1 : World} (hown : w1.ownsRow base 9 1 v n xs) {y : ByteArray}
  (hx : a.eval x = .slice (some ⟨w1.heap.size, 0, none⟩) 1 1) (hw : w = w1.alloc (.cells #[.string y] 9)) (hn : n + 1 <= 100) (hbase : base <= w1.heap.size)
  (h : ∀ v' w', w'.ownsRow base 9 1 v' (n + 1) (xs ++ [.string y]) -> (w1.alloc (.cells #[.string y] 9)).grownBy w' v.ownBlock -> Below base w1 w' -> wpList Tryz.prog ops Q rest (a.put o.dst v') w') : wpList Tryz.prog ops Q (o :: rest) a w := by
 subst hw
 obtain ⟨i, hi, hz, h1, h2⟩ := info_parts infoStr
 refine wpList_append_own _ hgd s x 164 ho base 9 i (.string ⟨#[]⟩) 1 16 Tryz.underlying164 hi hz h1 h2 rfl (by decide) v n xs hs (hown.alloc _) ⟨w1.heap.size, 0, none⟩ 1 1 [.string y] hx rfl ?_ (by simp [Value.oneCell']) (by unfold maxLen; omega) (by omega) (by simp; omega) ?_
 ·intro j u hj
  match j, hj with
  | 0, hj => simp at hj; subst hj; simp [Addr.add]
 ·intro v' w' h' hg _
  refine h v' w' h' hg ?_
  have hbl : Below base w1 (w1.alloc (.cells #[.string y] 9)) := (Below.refl _ _).alloc hbase _
  refine hbl.grown hg (by simp; omega) fun r hr => ?_
  rcases hown.2 with ⟨rfl, _⟩ | ⟨g, cap, cur, rfl, hb, _⟩
  ·simp [Value.ownBlock] at hr
  ·simp [Value.ownBlock] at hr; omega
end
end Go.Proofs.YtdobjciaikofdaaGreatDoor
