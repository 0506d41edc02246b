/- The walk of the law LaneBytes. -/
import Derived.Test.YtohieonpegeokaaLaneXorsLaw
namespace Go.Proofs.Ytohieonpegeokaa
open Go.RowKit Go.Shelf
attribute [local go_sem] vals_set vals_get? vals_get vals_size rowAt_at rowAt_past hasRow_at hasRow_past run_loadRow run_storeCells_row setRow_at setRow_past rowAt_drewN hasRow_drewN setRow_drewN alloc_drewN setCell_drewN lt_s2 lt_s3 lt_s4 lt_s5 lt_s6
attribute [local go_sem ↓] loadRow_is

set_option maxRecDepth 100000 in
set_option maxHeartbeats 4000000 in
theorem laneBytes_walk (f' : Nat → Int) (b : Option Addr) (n cb : Nat) (g : Nat → Int) (w : World) (hf' : ∀ j, j < 25 → 0 ≤ f' j ∧ f' j < 18446744073709551616) (hn : n ≤ maxLen) (hr : reads w b n .u8 g) (hg : ∀ j, j < n → 0 ≤ g j ∧ g j < 256) :
    Calls Try.prog 15 #[.agg (vals .u64 25 f'), .slice b n cb] w fun e w' => e = .returned (.bool true) ∧ Below w.heap.size w w' := by
  obtain ⟨f, hf2⟩ : ∃ f : Nat → Nat, Hid (f = fun j => (f' j).toNat) := ⟨_, Lib.hid rfl⟩
  have e0 : vals .u64 25 f' = vals .u64 25 (fun j => (f j : Int)) := vals_ext _ _ fun j hj => by have := hf' j hj; rw [hf2.out]; show f' j = (((f' j).toNat : Nat) : Int); omega
  have hf : ∀ j, j < 25 → f j < 18446744073709551616 := fun j hj => by have := hf' j hj; rw [hf2.out]; show (f' j).toNat < 18446744073709551616; omega
  rw [e0]
  clear e0 hf2 hf'
  have HR := Lib.hid hr
  have HG := Lib.hid hg
  have HF := Lib.hid hf
  clear hr hg hf
  unfold maxLen at hn
  have HW := Lib.hid (bl_alloc (o := .cells (vals .u64 25 (fun j => (f j : Int))) 56) (bl_refl w))
  have hrw := hasRow_at w (vals .u64 25 (fun j => (f j : Int))) 56 w.heap.size 25 rfl (vals_size _ _ _)
  have hra := rowAt_at w (vals .u64 25 (fun j => (f j : Int))) 56 w.heap.size rfl
  by_cases hbig : 500 < n
  · clear hrw hra
    go_enter Try.func15, Try.ntmps15
    go_wp2_with (go_at_call 54; refine (wakes14_w _).mono ?_; rintro e w1 ⟨rfl, hb⟩; have HB := Lib.hid (bl_call HW.out hb); clear hb)
    go_ret
    exact ⟨rfl, HB.out⟩
  have hsmall : n ≤ 500 := by omega
  clear hbig
  have hz := zero25
  have he0 := eqLanes (fun j => (f j : Int)) (fun j => (f j : Int))
  have he1 := eqLanes (fun _ => 0) (fun _ => 0)
  rw [allEq_true (fun _ _ => rfl)] at he0 he1
  have CB := Lib.hid (fun W => lbytes_w f W HF.out)
  have CRB := Lib.hid (fun W => rlbytes_w f W HF.out)
  have eP : vals .u64 25 (fun j => leN (putL64 f) (j * 8) 8) = vals .u64 25 (fun j => (f j : Int)) := vals_ext _ _ fun j hj => putL64_word f j (HF.out j hj)
  by_cases h200 : n = 200
  · subst h200
    obtain ⟨gN, hgN⟩ : ∃ gN : Nat → Nat, Hid (gN = fun j => if j < 200 then (g j).toNat else 0) := ⟨_, Lib.hid rfl⟩
    have hb : ∀ j, gN j < 256 := fun j => by
      rw [hgN.out]
      show (if j < 200 then (g j).toNat else 0) < 256
      split
      · rename_i h
        have := HG.out j h
        omega
      · omega
    have hgc : ∀ j, j < 200 → g j = (gN j : Int) := fun j hj => by
      have := HG.out j hj
      rw [hgN.out]
      show g j = (((if j < 200 then (g j).toNat else 0) : Nat) : Int)
      rw [if_pos hj]
      omega
    obtain ⟨d, hd⟩ : ∃ d : Nat → Nat, Hid (d = ofB gN) := ⟨_, Lib.hid rfl⟩
    have CD : Hid (∀ W, Below w.heap.size w W → Calls Try.prog 56 #[.slice b 200 cb] W fun e w' => e = .returned (.tuple #[.agg (vals .u64 25 (fun j => (d j : Int))), .bool true]) ∧ Below W.heap.size W w') := Lib.hid (fun W hW => by
      have e1 : vals .u64 25 (fun j => leN (fun t => (gN t : Int)) (j * 8) 8) = vals .u64 25 (fun j => (d j : Int)) := vals_ext _ _ fun j _ => by rw [hd.out]; exact ofB_cast _ hb j
      rw [← e1]
      exact lof_yes_w b cb (fun t => (gN t : Int)) W (reads_ext hgc (reads_below (Nat.le_refl _) hW HR.out)) (fun j _ => by have := hb j; omega))
    have CBD := Lib.hid (fun W => lbytes_w d W (fun j _ => by rw [hd.out]; exact ofB_lt _ hb j))
    have eG : ∀ t, t < 200 → putL64 d t = g t := fun t ht => by
      rw [hgc t ht, ← byteL_ofB gN hb t, hd.out]
      rfl
    clear hb hgc hd hgN
    go_enter Try.func15, Try.ntmps15
    go_wp2_with fail
    generalize w.alloc (.cells (vals .u64 25 (fun j => (f j : Int))) 56) = W1 at HW hrw hra ⊢
    refine (wakes14_w W1).mono ?_
    rintro e w1 ⟨rfl, hb1⟩
    have RA := Lib.hid (row_below hb1 ⟨hrw, hra⟩)
    have HB := Lib.hid (bl_call HW.out hb1)
    clear hrw hra hb1
    have r1 := RA.out.1
    have s1 := RA.out.2
    go_wp2_with (first | (go_at_call 55; (with_reducible refine (CB.out _).mono ?_); rintro e w2 ⟨v2, rfl, ho2, hb2⟩; obtain ⟨a2, c2, rfl, _, _, hr2⟩ := owns_reads ho2; have R2 := Lib.hid hr2; have RA2 := Lib.hid (row_below hb2 RA.out); have HB2 := Lib.hid (bl_call HB.out hb2); have CO : Hid (Calls Try.prog 56 #[.slice a2 200 c2] w2 fun e w' => e = .returned (.tuple #[.agg (vals .u64 25 (fun j => (f j : Int))), .bool true]) ∧ Below w2.heap.size w2 w') := Lib.hid (by rw [← eP]; exact lof_yes_w a2 c2 (putL64 f) w2 hr2 (fun j _ => putL64_bd f j)); clear hb2 ho2 hr2) | (go_at_call 56; (with_reducible refine (CO.out).mono ?_); rintro e w3 ⟨rfl, hb3⟩; have RA3 := Lib.hid (row_below hb3 RA2.out); have R3 := Lib.hid (reads_below (Nat.le_refl _) hb3 R2.out); have HB3 := Lib.hid (bl_call HB2.out hb3); have HX3 := Lib.hid ((bl_refl w3).alloc (Nat.le_refl _) (.cells (vals .u64 25 (fun j => (f j : Int))) 56)); have RB3 : Hid (hasRow (w3.alloc (.cells (vals .u64 25 (fun j => (f j : Int))) 56)) w3.heap.size 25 ∧ rowAt (w3.alloc (.cells (vals .u64 25 (fun j => (f j : Int))) 56)) w3.heap.size = vals .u64 25 (fun j => (f j : Int))) := Lib.hid ⟨hasRow_at w3 _ _ _ _ rfl (vals_size _ _ _), rowAt_at w3 _ _ _ rfl⟩; clear hb3) | (go_at_call 56; (with_reducible refine (CD.out _ (HB3.out.trans (HX3.out.mono HB3.out.size))).mono ?_); rintro e w4 ⟨rfl, hb4⟩; have RA4 := Lib.hid (row_below hb4 (row_below HX3.out RA3.out)); have RB4 := Lib.hid (row_below hb4 RB3.out); have R4 := Lib.hid (reads_below (Nat.le_refl _) (bl_call HX3.out hb4) R3.out); have HB4 := Lib.hid (bl_call (HB3.out.trans (HX3.out.mono HB3.out.size)) hb4); have HX4 := Lib.hid ((bl_refl w4).alloc (Nat.le_refl _) (.cells (vals .u64 25 (fun j => (d j : Int))) 56)); have RD4 : Hid (hasRow (w4.alloc (.cells (vals .u64 25 (fun j => (d j : Int))) 56)) w4.heap.size 25 ∧ rowAt (w4.alloc (.cells (vals .u64 25 (fun j => (d j : Int))) 56)) w4.heap.size = vals .u64 25 (fun j => (d j : Int))) := Lib.hid ⟨hasRow_at w4 _ _ _ _ rfl (vals_size _ _ _), rowAt_at w4 _ _ _ rfl⟩; have t1 := (row_below HX4.out RA4.out).1; have t2 := (row_below HX4.out RA4.out).2; clear hb4) | (go_at_call 57; (with_reducible refine (CRB.out _).mono ?_); rintro e w5 ⟨v5, rfl, ho5, hb5⟩; obtain ⟨a5, c5, rfl, _, _, hr5⟩ := owns_reads ho5; have RA5 := Lib.hid (row_below hb5 (row_below HX4.out RA4.out)); have RB5 := Lib.hid (row_below hb5 (row_below HX4.out RB4.out)); have RD5 := Lib.hid (row_below hb5 RD4.out); have HB5 := Lib.hid (bl_call (HB4.out.trans (HX4.out.mono HB4.out.size)) hb5); have CS := Lib.hid (same8_w a2 a5 200 c2 c5 _ _ (fun _ _ => rfl) w5 (by unfold maxLen; omega) (reads_below (Nat.le_refl _) (bl_call HX4.out hb5) R4.out) hr5); clear hb5 ho5 hr5 t1 t2) | (go_at_call 51; (with_reducible refine (CS.out).mono ?_); rintro e w6 ⟨rfl, hb6⟩; have RD6 := Lib.hid (row_below hb6 RD5.out); have HB6 := Lib.hid (bl_call HB5.out hb6); have k1 := (row_below hb6 RA5.out).1; have k2 := (row_below hb6 RA5.out).2; have k3 := (row_below hb6 RB5.out).1; have k4 := (row_below hb6 RB5.out).2; have k5 := RD6.out.1; have k6 := RD6.out.2; clear hb6) | (go_at_call 55; (with_reducible refine (CBD.out _).mono ?_); rintro e w7 ⟨v7, rfl, ho7, hb7⟩; obtain ⟨a7, c7, rfl, _, _, hr7⟩ := owns_reads ho7; have HB7 := Lib.hid (bl_call HB6.out hb7); have CS7 := Lib.hid (same8_w a7 b 200 c7 cb _ _ eG w7 (by unfold maxLen; omega) hr7 (reads_below (Nat.le_refl _) HB7.out HR.out)); clear hb7 ho7 hr7) | (go_at_call 51; (with_reducible refine (CS7.out).mono ?_); rintro e w8 ⟨rfl, hb8⟩; have HB8 := Lib.hid (bl_call HB7.out hb8); clear hb8))
    go_ret
    exact ⟨rfl, HB8.out⟩
  · have CD : Hid (∀ W, Below w.heap.size w W → Calls Try.prog 56 #[.slice b n cb] W fun e w' => e = .returned (.tuple #[.agg (vals .u64 25 (fun _ => 0)), .bool false]) ∧ Below W.heap.size W w') := Lib.hid (fun W _ => lof_no_w b n cb h200 W)
    have hn2 : ¬ (n : Int) = 200 := by omega
    go_enter Try.func15, Try.ntmps15
    go_wp2_with fail
    generalize w.alloc (.cells (vals .u64 25 (fun j => (f j : Int))) 56) = W1 at HW hrw hra ⊢
    refine (wakes14_w W1).mono ?_
    rintro e w1 ⟨rfl, hb1⟩
    have RA := Lib.hid (row_below hb1 ⟨hrw, hra⟩)
    have HB := Lib.hid (bl_call HW.out hb1)
    clear hrw hra hb1
    have r1 := RA.out.1
    have s1 := RA.out.2
    go_wp2_with (first | (go_at_call 55; (with_reducible refine (CB.out _).mono ?_); rintro e w2 ⟨v2, rfl, ho2, hb2⟩; obtain ⟨a2, c2, rfl, _, _, hr2⟩ := owns_reads ho2; have R2 := Lib.hid hr2; have RA2 := Lib.hid (row_below hb2 RA.out); have HB2 := Lib.hid (bl_call HB.out hb2); have CO : Hid (Calls Try.prog 56 #[.slice a2 200 c2] w2 fun e w' => e = .returned (.tuple #[.agg (vals .u64 25 (fun j => (f j : Int))), .bool true]) ∧ Below w2.heap.size w2 w') := Lib.hid (by rw [← eP]; exact lof_yes_w a2 c2 (putL64 f) w2 hr2 (fun j _ => putL64_bd f j)); clear hb2 ho2 hr2) | (go_at_call 56; (with_reducible refine (CO.out).mono ?_); rintro e w3 ⟨rfl, hb3⟩; have RA3 := Lib.hid (row_below hb3 RA2.out); have R3 := Lib.hid (reads_below (Nat.le_refl _) hb3 R2.out); have HB3 := Lib.hid (bl_call HB2.out hb3); have HX3 := Lib.hid ((bl_refl w3).alloc (Nat.le_refl _) (.cells (vals .u64 25 (fun j => (f j : Int))) 56)); have RB3 : Hid (hasRow (w3.alloc (.cells (vals .u64 25 (fun j => (f j : Int))) 56)) w3.heap.size 25 ∧ rowAt (w3.alloc (.cells (vals .u64 25 (fun j => (f j : Int))) 56)) w3.heap.size = vals .u64 25 (fun j => (f j : Int))) := Lib.hid ⟨hasRow_at w3 _ _ _ _ rfl (vals_size _ _ _), rowAt_at w3 _ _ _ rfl⟩; clear hb3) | (go_at_call 56; (with_reducible refine (CD.out _ (HB3.out.trans (HX3.out.mono HB3.out.size))).mono ?_); rintro e w4 ⟨rfl, hb4⟩; have RA4 := Lib.hid (row_below hb4 (row_below HX3.out RA3.out)); have RB4 := Lib.hid (row_below hb4 RB3.out); have R4 := Lib.hid (reads_below (Nat.le_refl _) (bl_call HX3.out hb4) R3.out); have HB4 := Lib.hid (bl_call (HB3.out.trans (HX3.out.mono HB3.out.size)) hb4); have HX4 := Lib.hid ((bl_refl w4).alloc (Nat.le_refl _) (.cells (vals .u64 25 (fun _ => 0)) 56)); have RD4 : Hid (hasRow (w4.alloc (.cells (vals .u64 25 (fun _ => 0)) 56)) w4.heap.size 25 ∧ rowAt (w4.alloc (.cells (vals .u64 25 (fun _ => 0)) 56)) w4.heap.size = vals .u64 25 (fun _ => 0)) := Lib.hid ⟨hasRow_at w4 _ _ _ _ rfl (vals_size _ _ _), rowAt_at w4 _ _ _ rfl⟩; have t1 := (row_below HX4.out RA4.out).1; have t2 := (row_below HX4.out RA4.out).2; clear hb4) | (go_at_call 57; (with_reducible refine (CRB.out _).mono ?_); rintro e w5 ⟨v5, rfl, ho5, hb5⟩; obtain ⟨a5, c5, rfl, _, _, hr5⟩ := owns_reads ho5; have RA5 := Lib.hid (row_below hb5 (row_below HX4.out RA4.out)); have RB5 := Lib.hid (row_below hb5 (row_below HX4.out RB4.out)); have RD5 := Lib.hid (row_below hb5 RD4.out); have HB5 := Lib.hid (bl_call (HB4.out.trans (HX4.out.mono HB4.out.size)) hb5); have CS := Lib.hid (same8_w a2 a5 200 c2 c5 _ _ (fun _ _ => rfl) w5 (by unfold maxLen; omega) (reads_below (Nat.le_refl _) (bl_call HX4.out hb5) R4.out) hr5); clear hb5 ho5 hr5 t1 t2) | (go_at_call 51; (with_reducible refine (CS.out).mono ?_); rintro e w6 ⟨rfl, hb6⟩; have RD6 := Lib.hid (row_below hb6 RD5.out); have HB6 := Lib.hid (bl_call HB5.out hb6); have k1 := (row_below hb6 RA5.out).1; have k2 := (row_below hb6 RA5.out).2; have k3 := (row_below hb6 RB5.out).1; have k4 := (row_below hb6 RB5.out).2; have k5 := RD6.out.1; have k6 := RD6.out.2; clear hb6))
    go_ret
    exact ⟨rfl, HB6.out⟩
end Go.Proofs.Ytohieonpegeokaa
