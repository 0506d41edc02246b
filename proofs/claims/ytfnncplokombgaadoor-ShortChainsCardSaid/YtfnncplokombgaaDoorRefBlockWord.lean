/- The reference's blocks of SHA-256. Written by gen_short2.py. -/
import Derived.Test.YtfnncplokombgaaDoorBlockWord
import Derived.Test.YtfnncplokombgaaDoorRefSchedWord
import Derived.Test.YtfnncplokombgaaDoorRefRoundWord
namespace Go.Proofs.YtfnncplokombgaaDoor
open Go.RowKit Go.Shelf Go.Sort Bt
attribute [local go_sem] vals_set vals_get? vals_get vals_size rowAt_at rowAt_past hasRow_at hasRow_past run_loadRow run_storeCells_row setRow_at setRow_past rowAt_drewN hasRow_drewN setRow_drewN alloc_drewN setCell_drewN lt_s2 lt_s3 lt_s4 lt_s5 lt_s6
attribute [local go_sem ↓] loadRow_is

theorem reads_one {W : World} {g n : Nat} {k : IntKind} {f : Nat → Int} (h : reads W (some ⟨g, 0, none⟩) n k f) {t : Nat} (ht : t < n) : W.cell? ⟨g, t, none⟩ = some (.int k (f t)) := by
  obtain ⟨_, _, e, hc⟩ := h (by omega)
  cases e
  have := hc t ht
  rw [Nat.zero_add] at this
  exact this
set_option maxRecDepth 100000 in
set_option maxHeartbeats 4000000 in
theorem rblocks_w (v : Nat → Nat) (hv : ∀ j, j < 8 → v j < 4294967296) (a : Option Addr) (len cap : Nat) (hlen : len ≤ 1000000) (hcap : len ≤ cap) (f : Nat → Int) (w : World) (hr : reads w a len .u8 f) (hf : ∀ j, j < len → 0 ≤ f j ∧ f j < 256) :
    Calls Tryd.prog 13 #[.agg (vals .u32 8 (fun j => (v j : Int))), .slice a len cap] w fun e w' => e = .returned (.agg (vals .u32 8 (fun j => (blocks32 v f (len / 64) j : Int)))) ∧ Below w.heap.size w w' := by
  have HR := Lib.hid hr
  have HF := Lib.hid hf
  have HV := Lib.hid (blocks32_lt v f hv)
  have CK : Hid (∀ W, Calls Tryd.prog 27 #[] W fun e w' => e = .returned (.slice (some ⟨W.heap.size, 0, none⟩) 80 80) ∧ reads w' (some ⟨W.heap.size, 0, none⟩) 80 .u64 (fun j => (k64c j : Int)) ∧ Below W.heap.size W w') := Lib.hid (fun W => rk64_w W)
  clear hr hf hv
  have hz8 := zero8
  have hw0 : ((w.alloc (.cells (vals .u32 8 (fun j => (v j : Int))) 31)).alloc (.cells (vals .u32 8 (fun _ => 0)) 31)).heap.size = w.heap.size + 2 := by simp
  have HB := Lib.hid (bl_alloc (o := .cells (vals .u32 8 (fun _ => 0)) 31) (bl_alloc (o := .cells (vals .u32 8 (fun j => (v j : Int))) 31) (bl_refl w)))
  have A01 : Hid _ := Lib.hid (row_below (bl_alloc (o := .cells (vals .u32 8 (fun _ => 0)) 31) (bl_refl (w.alloc (.cells (vals .u32 8 (fun j => (v j : Int))) 31)))) ⟨hasRow_at w (vals .u32 8 (fun j => (v j : Int))) 31 w.heap.size 8 rfl (vals_size _ _ _), rowAt_at w (vals .u32 8 (fun j => (v j : Int))) 31 w.heap.size rfl⟩)
  have A02 : Hid _ := Lib.hid (hasRow_at (w.alloc (.cells (vals .u32 8 (fun j => (v j : Int))) 31)) (vals .u32 8 (fun _ => 0)) 31 (w.heap.size + 1) 8 (by simp) (vals_size _ _ _))
  go_enter Tryd.func13, Tryd.ntmps13
  go_wp2_with fail
  generalize (w.alloc (.cells (vals .u32 8 (fun j => (v j : Int))) 31)).alloc (.cells (vals .u32 8 (fun _ => 0)) 31) = W0 at HB A01 A02 hw0 ⊢
  obtain ⟨gk, hgk⟩ : ∃ gk, gk = W0.heap.size := ⟨_, rfl⟩
  have hg2 : w.heap.size + 2 ≤ gk := by omega
  have CK2 : Hid (Calls Tryd.prog 27 #[] W0 fun e w' => e = .returned (.slice (some ⟨gk, 0, none⟩) 80 80) ∧ reads w' (some ⟨gk, 0, none⟩) 80 .u64 (fun j => (k64c j : Int)) ∧ Below W0.heap.size W0 w') := Lib.hid (by rw [hgk]; exact rk64_w W0)
  clear hw0 hgk CK
  go_wp2_with (go_at_call 27; (with_reducible refine CK2.out.mono ?_); rintro e W2 ⟨rfl, hrk, hb⟩; have A3 := Lib.hid hrk; have A1 : Hid (hasRow W2 w.heap.size 8 ∧ rowAt W2 w.heap.size = vals .u32 8 (fun j => (blocks32 v f 0 j : Int))) := Lib.hid (row_below hb A01.out); have A2 := Lib.hid (hasRow_below (Nat.le_refl _) hb A02.out); have A4 := Lib.hid (bl_call HB.out hb); clear hrk hb)
  clear CK2 A01 A02 HB
  go_loopw [6] (fun i W => ∃ n q : Nat, i = .int .i64 q ∧ Hid (q = n * 64) ∧ q ≤ len ∧ Hid (hasRow W w.heap.size 8 ∧ rowAt W w.heap.size = vals .u32 8 (fun j => (blocks32 v f n j : Int))) ∧ Hid (hasRow W (w.heap.size + 1) 8) ∧ Hid (reads W (some ⟨gk, 0, none⟩) 80 .u64 (fun j => (k64c j : Int))) ∧ Hid (Below w.heap.size w W)) (fun i _ => len + 1 - (intOf i).toNat)
  case atStart => exact ⟨0, 0, rfl, Lib.hid rfl, Nat.zero_le _, A1, A2, A3, A4⟩
  case round =>
    clear A1 A2 A3 A4
    obtain ⟨n, q, rfl, hq, hql, R0, R1, RK, RB⟩ := hrel
    have hwq : IntKind.i64.wrap ((q : Int) + 64) = (q : Int) + 64 := by rw [IntKind.wrap_i64]; omega
    by_cases h64 : len < q + 64
    · have hn : len / 64 = n := by rw [hq.out] at h64 hql; omega
      have hr0 := R0.out.1
      have hr1 := R0.out.2
      have hr2 := R1.out
      have h64' : ¬ (q : Int) + 64 ≤ (len : Int) := by omega
      clear hz8
      go_wp2
      obtain ⟨r1, r2, r3⟩ := row_setRow hr2 (vals .u32 8 (fun j => (blocks32 v f n j : Int))) (vals_size _ _ _)
      refine bodyPost_ret (results_row arr8 rfl _ (w.heap.size + 1) rfl r1) rfl ⟨?_, ?_⟩
      · rw [r2]
      · exact RB.out.trans (below_setRow' (by omega) _)
    · have h64' : (q : Int) + 64 ≤ (len : Int) := by omega
      have hc1 : ¬ cap = q := by omega
      have hc2 : (q : Int) + 64 ≤ (cap : Int) := by omega
      have hc3 : (0 : Int) ≤ (q : Int) := by omega
      have hc4 : (q : Int) ≤ (q : Int) + 64 := by omega
      obtain ⟨b0, off, rfl, hbc⟩ := HR.out (by omega)
      have HBC := Lib.hid hbc
      clear hbc
      have CS0 := rsched_w (some ⟨b0, off + q, none⟩) (cap - q) (fun j => f (n * 64 + j)) wr (reads_below (Nat.le_refl _) RB.out (fun _ => ⟨b0, off + q, rfl, fun j hj => by rw [Nat.add_assoc, HBC.out (q + j) (by omega), hq.out]⟩)) (fun j hj => HF.out _ (by rw [← hq.out]; omega))
      have CS : Hid (Calls Tryd.prog 9 #[.slice (some ⟨b0, off + q, none⟩) 64 (cap - q)] wr fun e w' => ∃ v, e = .returned v ∧ owns w' wr.heap.size 24 .u32 v 64 (fun j => (sched32 (word32 (fun j => f (n * 64 + j))) j : Int)) ∧ Below wr.heap.size wr w') := Lib.hid CS0
      clear CS0
      obtain ⟨S, hS⟩ : ∃ S, Hid (S = sched32 (word32 (fun j => f (n * 64 + j)))) := ⟨_, Lib.hid rfl⟩
      obtain ⟨V, hV⟩ : ∃ V, Hid (V = blocks32 v f n) := ⟨_, Lib.hid rfl⟩
      rw [← hS.out] at CS
      rw [← hV.out] at R0
      go_wp2_with (first | (go_at_call 9; (with_reducible refine CS.out.mono ?_); rintro e w2 ⟨v2, rfl, ho2, hb2⟩; obtain ⟨gs, cs2, rfl, _, hgs0, hgs1, _⟩ := owns_at ho2 (by decide); obtain ⟨_, _, e2, _, _, hr2⟩ := owns_reads ho2; cases e2; have QS := Lib.hid hr2; have Q0 := Lib.hid (row_below hb2 R0.out); have Q1 := Lib.hid (hasRow_below (Nat.le_refl _) hb2 R1.out); have QK := Lib.hid (reads_below (Nat.le_refl _) hb2 RK.out); have QB := Lib.hid (bl_call RB.out hb2); clear hb2 ho2 hr2; have q01 := Q0.out.1; have q02 := Q0.out.2))
      have B5 : Hid (Below w.heap.size w (w2.alloc (.cells (vals .u32 8 (fun j => (V j : Int))) 31))) := Lib.hid (bl_alloc QB.out)
      have hb5 : Below w2.heap.size w2 (w2.alloc (.cells (vals .u32 8 (fun j => (V j : Int))) 31)) := bl_alloc (bl_refl _)
      have P0 : Hid _ := Lib.hid (row_below hb5 Q0.out)
      have P1 : Hid _ := Lib.hid (hasRow_below (Nat.le_refl _) hb5 Q1.out)
      have PK : Hid _ := Lib.hid (reads_below (Nat.le_refl _) hb5 QK.out)
      have PS : Hid _ := Lib.hid (reads_below (Nat.le_refl _) hb5 QS.out)
      have PX : Hid (hasRow (w2.alloc (.cells (vals .u32 8 (fun j => (V j : Int))) 31)) w2.heap.size 8 ∧ rowAt (w2.alloc (.cells (vals .u32 8 (fun j => (V j : Int))) 31)) w2.heap.size = vals .u32 8 (fun j => (rounds32 V k32c S 0 j : Int))) := Lib.hid ⟨hasRow_at _ _ _ _ _ rfl (vals_size _ _ _), rowAt_at _ _ _ _ rfl⟩
      have hgkl : gk < w2.heap.size := cell_lt (reads_one QK.out (show 0 < 80 by omega))
      have hgsl : gs < w2.heap.size := hgs1
      have hgx : gk ≠ w2.heap.size := by omega
      have hgy : gs ≠ w2.heap.size := by omega
      have hgz : w.heap.size + 2 ≤ w2.heap.size := by omega
      have hgw : w.heap.size + 2 ≤ gs := by have := cell_lt (reads_one RK.out (show 0 < 80 by omega)); omega
      clear CS hb5 Q0 Q1 QK QB QS q01 q02 R0 R1 RK hgs0 hgs1 hgkl hgsl
      generalize w2.alloc (.cells (vals .u32 8 (fun j => (V j : Int))) 31) = W5 at B5 P0 P1 PK PS PX ⊢
      generalize w2.heap.size = gx at PX hgx hgy hgz ⊢
      go_loopw [9] (fun i W => ∃ t : Nat, t ≤ 64 ∧ i = .int .i64 t ∧ Hid (hasRow W gx 8 ∧ rowAt W gx = vals .u32 8 (fun j => (rounds32 V k32c S t j : Int))) ∧ Hid (hasRow W w.heap.size 8 ∧ rowAt W w.heap.size = vals .u32 8 (fun j => (V j : Int))) ∧ Hid (hasRow W (w.heap.size + 1) 8) ∧ Hid (reads W (some ⟨gk, 0, none⟩) 80 .u64 (fun j => (k64c j : Int))) ∧ Hid (reads W (some ⟨gs, 0, none⟩) 64 .u32 (fun j => (S j : Int))) ∧ Hid (Below w.heap.size w W)) (fun i _ => 64 - (intOf i).toNat)
      case atStart => exact ⟨0, by omega, rfl, PX, P0, P1, PK, PS, B5⟩
      case round =>
        clear PX P0 P1 PK PS B5
        obtain ⟨t, ht, rfl, TX, T0, T1, TK, TS, TB⟩ := hrel
        by_cases ht64 : t < 64
        · have bt : (0 : Int) ≤ (t : Int) ∧ (t : Int) < 64 := by omega
          obtain ⟨X, hX⟩ : ∃ X, Hid (X = rounds32 V k32c S t) := ⟨_, Lib.hid rfl⟩
          rw [← hX.out] at TX
          have hXl : ∀ j, j < 8 → X j < 4294967296 := by rw [hX.out, hV.out]; exact rounds32_lt _ _ _ (HV.out n) t
          have CR : Hid (∀ W, Calls Tryd.prog 11 #[.agg (vals .u32 8 (fun j => (X j : Int))), .int .u32 (k32c t : Nat), .int .u32 (S t : Nat)] W fun e w' => e = .returned (.agg (vals .u32 8 (fun j => (round32 X (k32c t) (S t) j : Int)))) ∧ Below W.heap.size W w') := Lib.hid (fun W => rround32_w X hXl _ _ W)
          obtain ⟨kt, hkt⟩ : ∃ x, Hid (x = k32c t) := ⟨_, Lib.hid rfl⟩
          obtain ⟨kl, hkl⟩ : ∃ x, Hid (x = k64c t) := ⟨_, Lib.hid rfl⟩
          have b80 : (t : Int) < 80 := by omega
          have hkl2 : kl < 18446744073709551616 := by rw [hkl.out]; exact k64c_lt t
          have hkd : Int.tdiv (kl : Int) 4294967296 = (kt : Int) := by rw [hkt.out, k32c, ← hkl.out, Int.tdiv_eq_ediv_of_nonneg (by omega)]; omega
          have hk1 : IntKind.u64.wrap (kt : Int) = (kt : Int) := by rw [IntKind.wrap_u64, hkt.out, k32c, ← hkl.out]; omega
          have hk2 : IntKind.u32.wrap (kt : Int) = (kt : Int) := by rw [IntKind.wrap_u32, hkt.out, k32c, ← hkl.out]; omega
          obtain ⟨ut, hut⟩ : ∃ x, Hid (x = S t) := ⟨_, Lib.hid rfl⟩
          have ck : wr.drew.cell? ⟨gk, t, none⟩ = some (.int .u64 (kl : Int)) := by rw [hkl.out]; exact reads_one TK.out (show t < 80 by omega)
          have cu : wr.drew.cell? ⟨gs, t, none⟩ = some (.int .u32 (ut : Int)) := by rw [hut.out]; exact reads_one TS.out ht64
          rw [← hkt.out, ← hut.out] at CR
          have hx1 : hasRow wr.drew gx 8 := TX.out.1
          have hx2 : rowAt wr.drew gx = vals .u32 8 (fun j => (X j : Int)) := TX.out.2
          have TB1 : Hid (Below w.heap.size w wr.drew) := Lib.hid TB.out.drew
          clear TX hXl
          go_wp2_with fail
          refine region_tail 11 (by kernel_rfl) (by kernel_rfl) rfl ?_
          simp only [List.take_succ_cons, List.take_zero, List.drop_succ_cons, List.drop_zero]
          iterate 11 still_step
          refine wpStill_nil ?_
          go_wp2_with (go_at_call 11; (with_reducible refine (CR.out _).mono ?_); rintro e w3 ⟨rfl, hb3⟩; have hx3 := hasRow_below (Nat.le_refl _) hb3 hx1; have HB3 := Lib.hid hb3; clear hb3)
          obtain ⟨r1, r2, r3⟩ := row_setRow hx3 (vals .u32 8 (fun j => (round32 X kt ut j : Int))) (vals_size _ _ _)
          have RX : rowAt (w3.setRow gx (vals .u32 8 (fun j => (round32 X kt ut j : Int)))) gx = vals .u32 8 (fun j => (rounds32 V k32c S (t + 1) j : Int)) := by
            rw [r2, hX.out, hkt.out, hut.out]
            rfl
          have hw3 := bl_call (bl_drew (bl_refl wr)) HB3.out
          go_roundw
          case rel => exact ⟨t + 1, by omega, by go_num, Lib.hid ⟨r1, RX⟩, Lib.hid (row_grown r3 (by omega) (row_below hw3 T0.out)), Lib.hid (hasRow_grown r3 (by omega) (hasRow_below (Nat.le_refl _) hw3 T1.out)), Lib.hid (reads_grown r3 hgx (reads_below (Nat.le_refl _) hw3 TK.out)), Lib.hid (reads_grown r3 hgy (reads_below (Nat.le_refl _) hw3 TS.out)), Lib.hid ((bl_call TB1.out HB3.out).trans (below_own r3 (by omega) (bl_call TB1.out HB3.out).size))⟩
          case measure => simp [intOf]; omega
        · have e64 : Hid (t = 64) := Lib.hid (by omega)
          obtain ⟨X, hX⟩ : ∃ X, Hid (X = rounds32 V k32c S 64) := ⟨_, Lib.hid rfl⟩
          rw [e64.out, ← hX.out] at TX
          clear TS
          go_wp2
          go_loopw [10] (fun i W => ∃ t : Nat, t ≤ 8 ∧ i = .int .i64 t ∧ Hid (hasRow W w.heap.size 8 ∧ rowAt W w.heap.size = vals .u32 8 (fun j => if j < t then (((V j + X j) % 4294967296 : Nat) : Int) else (V j : Int))) ∧ Hid (hasRow W gx 8 ∧ rowAt W gx = vals .u32 8 (fun j => (X j : Int))) ∧ Hid (hasRow W (w.heap.size + 1) 8) ∧ Hid (reads W (some ⟨gk, 0, none⟩) 80 .u64 (fun j => (k64c j : Int))) ∧ Hid (Below w.heap.size w W)) (fun i _ => 8 - (intOf i).toNat)
          case atStart => exact ⟨0, Nat.zero_le 8, rfl, Lib.hid ⟨T0.out.1, T0.out.2.trans (vals_ext _ _ fun j _ => by rw [if_neg (by omega)])⟩, TX, T1, TK, TB⟩
          case round =>
            clear TX T0 T1 TK TB
            obtain ⟨t, ht8, rfl, U0, UX, U1, UK, UB⟩ := hrel
            by_cases htl : t < 8
            · have bt : (0 : Int) ≤ (t : Int) ∧ (t : Int) < 8 := by omega
              obtain ⟨vt, hvt⟩ : ∃ x, Hid (x = V t) := ⟨_, Lib.hid rfl⟩
              obtain ⟨xt, hxt⟩ : ∃ x, Hid (x = X t) := ⟨_, Lib.hid rfl⟩
              have c0 : wr.drew.cell? ⟨w.heap.size, t, none⟩ = some (.int .u32 (vt : Int)) := by
                have h := (cell_of_hasRow U0.out.1 U0.out.2 htl).1
                rw [if_neg (Nat.lt_irrefl t), ← hvt.out] at h
                exact h
              have c1 : wr.drew.cell? ⟨gx, t, none⟩ = some (.int .u32 (xt : Int)) := by rw [hxt.out]; exact (cell_of_hasRow UX.out.1 UX.out.2 htl).1
              have c2 : wr.drew.frozen? ⟨w.heap.size, t, none⟩ = false := (cell_of_hasRow U0.out.1 U0.out.2 htl).2
              go_wp2_with fail
              refine region_tail 9 (by kernel_rfl) (by kernel_rfl) rfl ?_
              simp only [List.take_succ_cons, List.take_zero, List.drop_succ_cons, List.drop_zero]
              iterate 9 still_step
              refine wpStill_nil ?_
              go_wp2
              obtain ⟨z1, z2, z3⟩ := row_setCell U0.out.1 U0.out.2 t (IntKind.u32.wrap ((vt : Int) + (xt : Int)))
              have Z2 : rowAt (wr.setCell ⟨w.heap.size, t, none⟩ (.int .u32 (IntKind.u32.wrap ((vt : Int) + (xt : Int))))) w.heap.size = vals .u32 8 (fun j => if j < t + 1 then (((V j + X j) % 4294967296 : Nat) : Int) else (V j : Int)) := by
                rw [z2]
                refine vals_ext _ _ fun j hj => ?_
                by_cases hjt : j = t
                · subst hjt
                  rw [if_pos rfl, if_pos (by omega), hvt.out, hxt.out, IntKind.wrap_u32]
                  omega
                · rw [if_neg hjt]
                  by_cases hl : j < t
                  · rw [if_pos hl, if_pos (by omega)]
                  · rw [if_neg hl, if_neg (by omega)]
              have ZB : Below w.heap.size w (wr.setCell ⟨w.heap.size, t, none⟩ (.int .u32 (IntKind.u32.wrap ((vt : Int) + (xt : Int))))) := UB.out.trans (below_own z3 (Nat.le_refl _) UB.out.size)
              have y1 := row_grown z3 (show gx ≠ w.heap.size by omega) UX.out
              have y2 := hasRow_grown z3 (show w.heap.size + 1 ≠ w.heap.size by omega) U1.out
              have y3 := reads_grown z3 (show gk ≠ w.heap.size by omega) UK.out
              go_roundw
              case rel => exact ⟨t + 1, by omega, by go_num, Lib.hid ⟨z1, Z2⟩, Lib.hid y1, Lib.hid y2, Lib.hid y3, Lib.hid ZB.drew⟩
              case measure => simp [intOf]; omega
            · clear e64; obtain rfl : t = 8 := by omega
              have hR0 : Hid (hasRow wr w.heap.size 8 ∧ rowAt wr w.heap.size = vals .u32 8 (fun j => (blocks32 v f (n + 1) j : Int))) := Lib.hid ⟨U0.out.1, U0.out.2.trans (vals_ext _ _ fun j hj => by
                rw [if_pos hj, hX.out, hS.out, hV.out]
                rfl)⟩
              go_wp2
              go_roundw
              case rel => exact ⟨n + 1, q + 64, by go_num, Lib.hid (by rw [hq.out]; omega), by omega, hR0, U1, UK, UB⟩
              case measure => simp [intOf]; omega
end Go.Proofs.YtfnncplokombgaaDoor
