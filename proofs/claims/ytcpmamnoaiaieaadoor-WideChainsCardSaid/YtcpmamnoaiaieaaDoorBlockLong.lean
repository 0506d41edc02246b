/- wide.Blocks: blocks of SHA-512. -/
import Derived.Test.YtcpmamnoaiaieaaDoorSchedLong
import Derived.WalkMore
namespace Go.Proofs.YtcpmamnoaiaieaaDoor
open Go.RowKit Go.Shelf Go.Sort Bt
attribute [local go_sem] vals_set vals_get? vals_get vals_size rowAt_at rowAt_past hasRow_at hasRow_past run_loadRow run_storeCells_row setRow_at setRow_past rowAt_drewN hasRow_drewN setRow_drewN alloc_drewN setCell_drewN lt_s2 lt_s3 lt_s4 lt_s5 lt_s6
attribute [local go_sem ↓] loadRow_is

/-- t rounds -/
def rounds64 (v k u : Nat → Nat) : Nat → Nat → Nat
  | 0 => v
  | t + 1 => round64 (rounds64 v k u t) (k t) (u t)
theorem round64_lt (v : Nat → Nat) (hv : ∀ j, j < 8 → v j < 18446744073709551616) (k u : Nat) : ∀ j, j < 8 → round64 v k u j < 18446744073709551616 := by
  intro j hj
  have hcase : j = 0 ∨ j = 1 ∨ j = 2 ∨ j = 3 ∨ j = 4 ∨ j = 5 ∨ j = 6 ∨ j = 7 := by omega
  rcases hcase with rfl | rfl | rfl | rfl | rfl | rfl | rfl | rfl
  all_goals first | exact Nat.mod_lt _ (by decide) | exact hv _ (by decide)
theorem rounds64_lt (v k u : Nat → Nat) (hv : ∀ j, j < 8 → v j < 18446744073709551616) : ∀ t j, j < 8 → rounds64 v k u t j < 18446744073709551616
  | 0 => hv
  | t + 1 => round64_lt _ (rounds64_lt v k u hv t) _ _
/-- a value and a block's words -/
def block64 (v m : Nat → Nat) (j : Nat) : Nat := (v j + rounds64 v k64c (sched64 m) 80 j) % 18446744073709551616
theorem block64_lt (v m : Nat → Nat) (j : Nat) : block64 v m j < 18446744073709551616 := Nat.mod_lt _ (by decide)
/-- n blocks of the bytes f -/
def blocks64 (v : Nat → Nat) (f : Nat → Int) : Nat → Nat → Nat
  | 0 => v
  | n + 1 => block64 (blocks64 v f n) (word64 (fun j => f (n * 128 + j)))
theorem blocks64_lt (v : Nat → Nat) (f : Nat → Int) (hv : ∀ j, j < 8 → v j < 18446744073709551616) : ∀ n j, j < 8 → blocks64 v f n j < 18446744073709551616
  | 0 => hv
  | _ + 1 => fun j _ => block64_lt _ _ j
theorem word64_congr {f g : Nat → Int} (h : ∀ j, j < 128 → f j = g j) (j : Nat) (hj : j < 16) : word64 f j = word64 g j := by
  unfold word64
  rw [beN_congr 8 fun i hi => h _ (by omega)]
theorem rounds64_congr {v k u u' : Nat → Nat} (h : ∀ t, u t = u' t) : ∀ n, rounds64 v k u n = rounds64 v k u' n
  | 0 => rfl
  | n + 1 => by rw [rounds64, rounds64, rounds64_congr h n, h n]
theorem block64_congr {v m m' : Nat → Nat} (h : ∀ j, j < 16 → m j = m' j) : block64 v m = block64 v m' := by
  funext j
  unfold block64
  rw [rounds64_congr (sched64_congr h) 80]
theorem blocks64_congr {v : Nat → Nat} {f g : Nat → Int} : ∀ n, (∀ j, j < n * 128 → f j = g j) → blocks64 v f n = blocks64 v g n
  | 0, _ => rfl
  | n + 1, h => by
    rw [blocks64, blocks64, blocks64_congr n fun j hj => h j (by omega)]
    exact block64_congr fun j hj => word64_congr (fun i hi => h _ (by omega)) j hj
theorem blocks64_add (v : Nat → Nat) (f : Nat → Int) (n : Nat) : ∀ m, blocks64 v f (n + m) = blocks64 (blocks64 v f n) (fun j => f (n * 128 + j)) m
  | 0 => rfl
  | m + 1 => by
    rw [← Nat.add_assoc, blocks64, blocks64, blocks64_add v f n m]
    refine block64_congr fun j hj => word64_congr (fun i _ => ?_) j hj
    congr 1
    rw [Nat.add_mul, Nat.add_assoc]
theorem row_grown {w w1 : World} {g g' n : Nat} {c : Array Value} (hg : w.grownBy w1 (some g)) (hne : g' ≠ g) (h : hasRow w g' n ∧ rowAt w g' = c) : hasRow w1 g' n ∧ rowAt w1 g' = c := by
  refine ⟨hasRow_grown hg hne h.1, ?_⟩
  rw [← h.2]
  unfold rowAt
  rw [hg.block g' (lt_of_hasRow h.1) (fun e => hne (by cases e; rfl))]
theorem zv8 (W : World) : (zeroValue 31).run Tryd.prog W = .ok (.agg (vals .u64 8 (fun _ => 0))) W := by kernel_rfl
set_option maxRecDepth 100000 in
set_option maxHeartbeats 4000000 in
theorem blocks_w (v : Nat → Nat) (hv : ∀ j, j < 8 → v j < 18446744073709551616) (a : Option Addr) (len cap : Nat) (hlen : len ≤ 1000000) (hcap : len ≤ cap) (f : Nat → Int) (w : World) (hr : reads w a len .u8 f) (hf : ∀ j, j < len → 0 ≤ f j ∧ f j < 256) (hg : Tabs64 w) (ht : Tab80 w) :
    Calls Tryd.prog 12 #[.agg (vals .u64 8 (fun j => (v j : Int))), .slice a len cap] w fun e w' => e = .returned (.agg (vals .u64 8 (fun j => (blocks64 v f (len / 128) j : Int)))) ∧ Below w.heap.size w w' := by
  have HR := Lib.hid hr
  have HF := Lib.hid hf
  have HG := Lib.hid hg
  have HV := Lib.hid (blocks64_lt v f hv)
  have CK : Hid (∀ W, Below w.heap.size w W → Calls Tryd.prog 25 #[] W fun e w' => e = .returned (.agg (vals .u64 80 (fun j => (k64c j : Int)))) ∧ Below W.heap.size W w') := Lib.hid (fun W h => k64_w W (ht.below (Nat.le_refl _) h))
  clear hr hf hg hv ht
  have hz8 := zero8
  have hz := zero80
  have hzv := zv80
  have HB := Lib.hid (bl_alloc (o := .cells (vals .u64 8 (fun _ => 0)) 31) (bl_alloc (o := .cells (vals .u64 8 (fun j => (v j : Int))) 31) (bl_refl w)))
  go_enter Tryd.func12, Tryd.ntmps12
  go_wp2
  go_step3
  go_wp2_with (go_at_call 25; (with_reducible refine (CK.out _ HB.out).mono ?_); rintro e w1 ⟨rfl, hb⟩; have HB1 := Lib.hid hb; clear hb)
  go_step3
  go_wp2
  have A1 : Hid (hasRow (w1.alloc (.cells (vals .u64 80 (fun j => (k64c j : Int))) 25)) w.heap.size 8 ∧ rowAt (w1.alloc (.cells (vals .u64 80 (fun j => (k64c j : Int))) 25)) w.heap.size = vals .u64 8 (fun j => (blocks64 v f 0 j : Int))) := Lib.hid (row_below (bl_alloc (bl_refl _)) (row_below HB1.out (row_below (bl_alloc (o := .cells (vals .u64 8 (fun _ => 0)) 31) (bl_refl (w.alloc (.cells (vals .u64 8 (fun j => (v j : Int))) 31)))) ⟨hasRow_at _ _ _ _ _ rfl (vals_size _ _ _), rowAt_at _ _ _ _ rfl⟩)))
  have A2 : Hid (hasRow (w1.alloc (.cells (vals .u64 80 (fun j => (k64c j : Int))) 25)) (w.heap.size + 1) 8) := Lib.hid (hasRow_below (Nat.le_refl _) (bl_alloc (bl_refl _)) (hasRow_below (Nat.le_refl _) HB1.out (hasRow_at (w.alloc (.cells (vals .u64 8 (fun j => (v j : Int))) 31)) (vals .u64 8 (fun _ => 0)) 31 (w.heap.size + 1) 8 (by simp) (vals_size _ _ _))))
  have A3 : Hid (hasRow (w1.alloc (.cells (vals .u64 80 (fun j => (k64c j : Int))) 25)) w1.heap.size 80 ∧ rowAt (w1.alloc (.cells (vals .u64 80 (fun j => (k64c j : Int))) 25)) w1.heap.size = vals .u64 80 (fun j => (k64c j : Int))) := Lib.hid ⟨hasRow_at _ _ _ _ _ rfl (vals_size _ _ _), rowAt_at _ _ _ _ rfl⟩
  have A4 : Hid (Below w.heap.size w (w1.alloc (.cells (vals .u64 80 (fun j => (k64c j : Int))) 25))) := Lib.hid (bl_alloc (bl_call HB.out HB1.out))
  have hgk : w.heap.size + 2 ≤ w1.heap.size := by
    have := HB1.out.size
    simp only [World.size_alloc] at this
    omega
  generalize w1.alloc (.cells (vals .u64 80 (fun j => (k64c j : Int))) 25) = W2 at A1 A2 A3 A4 ⊢
  generalize w1.heap.size = gk at A3 hgk ⊢
  have HN0 : Hid (len = 0 * 128 + len) := Lib.hid (by omega)
  have HR0 : Hid (reads w a len .u8 (fun j => f (0 * 128 + j))) := Lib.hid (reads_ext (fun j _ => by rw [Nat.zero_mul, Nat.zero_add]) HR.out)
  clear CK HB HB1
  go_loopw [1] (fun b W => ∃ (n L c : Nat) (a' : Option Addr), b = .slice a' L c ∧ Hid (len = n * 128 + L) ∧ L ≤ c ∧ L ≤ 1000000 ∧ Hid (reads w a' L .u8 (fun j => f (n * 128 + j))) ∧ Hid (hasRow W w.heap.size 8 ∧ rowAt W w.heap.size = vals .u64 8 (fun j => (blocks64 v f n j : Int))) ∧ Hid (hasRow W (w.heap.size + 1) 8) ∧ Hid (hasRow W gk 80 ∧ rowAt W gk = vals .u64 80 (fun j => (k64c j : Int))) ∧ Hid (Below w.heap.size w W)) (fun b _ => match b with | .slice _ L _ => L | _ => 0)
  case atStart => exact ⟨0, len, cap, a, rfl, HN0, hcap, hlen, HR0, A1, A2, A3, A4⟩
  case round =>
    clear HN0 HR0 A1 A2 A3 A4 hlen hcap
    obtain ⟨n, L, c, a', rfl, HN, hLc, hL, HRW, R0, R1, RK, RB⟩ := hrel
    by_cases h128 : L < 128
    · have hn : len / 128 = n := by rw [HN.out]; omega
      have hr0 := R0.out.1
      have hr1 := R0.out.2
      have hr2 := R1.out
      clear hz8 hz hzv
      go_wp2
      obtain ⟨r1, r2, r3⟩ := row_setRow hr2 (vals .u64 8 (fun j => (blocks64 v f n j : Int))) (vals_size _ _ _)
      rw [Exit.noGoto_ret]
      refine bodyPost_ret (results_row arr8 rfl _ (w.heap.size + 1) rfl r1) rfl ⟨?_, ?_⟩
      · rw [r2, hn]
      · exact RB.out.trans (below_setRow' (by omega) _)
    · have hL128 : 128 ≤ L := by omega
      have hc128 : 128 ≤ c := by omega
      obtain ⟨b0, off, rfl, hbc⟩ := HRW.out (by omega)
      have HBC := Lib.hid hbc
      clear hbc HRW
      have CS : Hid (Calls Tryd.prog 8 #[.slice (some ⟨b0, off, none⟩) 128 c] wr fun e w' => e = .returned (.tuple #[.agg (vals .u64 80 (fun j => (sched64 (word64 (fun j => f (n * 128 + j))) j : Int))), .bool true]) ∧ Below wr.heap.size wr w') := Lib.hid (sched_yes_w _ c hc128 (fun j => f (n * 128 + j)) wr (reads_below (Nat.le_refl _) RB.out (fun _ => ⟨b0, off, rfl, fun j hj => HBC.out j (by omega)⟩)) (fun j hj => HF.out _ (by rw [HN.out]; omega)) (HG.out.below (Nat.le_refl _) RB.out))
      obtain ⟨S, hS⟩ : ∃ S, Hid (S = sched64 (word64 (fun j => f (n * 128 + j)))) := ⟨_, Lib.hid rfl⟩
      obtain ⟨V, hV⟩ : ∃ V, Hid (V = blocks64 v f n) := ⟨_, Lib.hid rfl⟩
      rw [← hS.out] at CS
      rw [← hV.out] at R0
      go_wp2_with (first | (go_at_call 8; (with_reducible refine CS.out.mono ?_); rintro e w2 ⟨rfl, hb2⟩; have Q0 := Lib.hid (row_below hb2 R0.out); have Q1 := Lib.hid (hasRow_below (Nat.le_refl _) hb2 R1.out); have QK := Lib.hid (row_below hb2 RK.out); have QB := Lib.hid (bl_call RB.out hb2); clear hb2; have q01 := (row_below (bl_alloc (o := .cells (vals .u64 80 (fun j => (S j : Int))) 25) (bl_refl w2)) Q0.out).1; have q02 := (row_below (bl_alloc (o := .cells (vals .u64 80 (fun j => (S j : Int))) 25) (bl_refl w2)) Q0.out).2))
      have B5 : Hid (Below w.heap.size w ((w2.alloc (.cells (vals .u64 80 (fun j => (S j : Int))) 25)).alloc (.cells (vals .u64 8 (fun j => (V j : Int))) 31))) := Lib.hid (bl_alloc (bl_alloc QB.out))
      have hb5 : Below w2.heap.size w2 ((w2.alloc (.cells (vals .u64 80 (fun j => (S j : Int))) 25)).alloc (.cells (vals .u64 8 (fun j => (V j : Int))) 31)) := bl_alloc (bl_alloc (bl_refl _))
      have P0 : Hid _ := Lib.hid (row_below hb5 Q0.out)
      have P1 : Hid _ := Lib.hid (hasRow_below (Nat.le_refl _) hb5 Q1.out)
      have PK : Hid _ := Lib.hid (row_below hb5 QK.out)
      have PS : Hid (hasRow ((w2.alloc (.cells (vals .u64 80 (fun j => (S j : Int))) 25)).alloc (.cells (vals .u64 8 (fun j => (V j : Int))) 31)) w2.heap.size 80 ∧ rowAt ((w2.alloc (.cells (vals .u64 80 (fun j => (S j : Int))) 25)).alloc (.cells (vals .u64 8 (fun j => (V j : Int))) 31)) w2.heap.size = vals .u64 80 (fun j => (S j : Int))) := Lib.hid (row_below (bl_alloc (bl_refl _)) ⟨hasRow_at _ _ _ _ _ rfl (vals_size _ _ _), rowAt_at _ _ _ _ rfl⟩)
      have PX : Hid (hasRow ((w2.alloc (.cells (vals .u64 80 (fun j => (S j : Int))) 25)).alloc (.cells (vals .u64 8 (fun j => (V j : Int))) 31)) (w2.heap.size + 1) 8 ∧ rowAt ((w2.alloc (.cells (vals .u64 80 (fun j => (S j : Int))) 25)).alloc (.cells (vals .u64 8 (fun j => (V j : Int))) 31)) (w2.heap.size + 1) = vals .u64 8 (fun j => (rounds64 V k64c S 0 j : Int))) := Lib.hid ⟨hasRow_at _ _ _ _ _ (by simp) (vals_size _ _ _), rowAt_at _ _ _ _ (by simp)⟩
      have hgx : gk ≠ w2.heap.size + 1 := by have := lt_of_hasRow QK.out.1; omega
      have hgs : w.heap.size + 2 ≤ w2.heap.size := by have := lt_of_hasRow QK.out.1; omega
      clear CS hb5 Q0 Q1 QK QB q01 q02 R0 R1 RK
      generalize (w2.alloc (.cells (vals .u64 80 (fun j => (S j : Int))) 25)).alloc (.cells (vals .u64 8 (fun j => (V j : Int))) 31) = W5 at B5 P0 P1 PK PS PX ⊢
      generalize w2.heap.size = gs at PS PX hgx hgs ⊢
      go_loopw [22] (fun i W => ∃ t : Nat, t ≤ 80 ∧ i = .int .i64 t ∧ Hid (hasRow W (gs + 1) 8 ∧ rowAt W (gs + 1) = vals .u64 8 (fun j => (rounds64 V k64c S t j : Int))) ∧ Hid (hasRow W w.heap.size 8 ∧ rowAt W w.heap.size = vals .u64 8 (fun j => (V j : Int))) ∧ Hid (hasRow W (w.heap.size + 1) 8) ∧ Hid (hasRow W gk 80 ∧ rowAt W gk = vals .u64 80 (fun j => (k64c j : Int))) ∧ Hid (hasRow W gs 80 ∧ rowAt W gs = vals .u64 80 (fun j => (S j : Int))) ∧ Hid (Below w.heap.size w W)) (fun i _ => 80 - (intOf i).toNat)
      case atStart => exact ⟨0, by omega, rfl, PX, P0, P1, PK, PS, B5⟩
      case round =>
        rename_i wq _
        clear PX P0 P1 PK PS B5
        obtain ⟨t, ht, rfl, TX, T0, T1, TK, TS, TB⟩ := hrel
        by_cases ht80 : t < 80
        · have bt : (0 : Int) ≤ (t : Int) ∧ (t : Int) < 80 := by omega
          obtain ⟨X, hX⟩ : ∃ X, Hid (X = rounds64 V k64c S t) := ⟨_, Lib.hid rfl⟩
          rw [← hX.out] at TX
          have hXl : ∀ j, j < 8 → X j < 18446744073709551616 := by rw [hX.out, hV.out]; exact rounds64_lt _ _ _ (HV.out n) t
          have CR : Hid (∀ W, Tabs64 W → Calls Tryd.prog 10 #[.agg (vals .u64 8 (fun j => (X j : Int))), .int .u64 (k64c t : Nat), .int .u64 (S t : Nat)] W fun e w' => e = .returned (.agg (vals .u64 8 (fun j => (round64 X (k64c t) (S t) j : Int)))) ∧ Below W.heap.size W w') := Lib.hid (fun W h => round64_w X hXl _ _ W h)
          obtain ⟨kt, hkt⟩ : ∃ x, Hid (x = k64c t) := ⟨_, Lib.hid rfl⟩
          obtain ⟨ut, hut⟩ : ∃ x, Hid (x = S t) := ⟨_, Lib.hid rfl⟩
          have ck : wr.drew.cell? ⟨gk, t, none⟩ = some (.int .u64 (kt : Int)) := by rw [hkt.out]; exact (cell_of_hasRow TK.out.1 TK.out.2 ht80).1
          have cu : wr.drew.cell? ⟨gs, t, none⟩ = some (.int .u64 (ut : Int)) := by rw [hut.out]; exact (cell_of_hasRow TS.out.1 TS.out.2 ht80).1
          rw [← hkt.out, ← hut.out] at CR
          have hx1 : hasRow wr.drew (gs + 1) 8 := TX.out.1
          have hx2 : rowAt wr.drew (gs + 1) = vals .u64 8 (fun j => (X j : Int)) := TX.out.2
          have TB1 : Hid (Below w.heap.size w wr.drew) := Lib.hid TB.out.drew
          clear TX hXl
          go_wp2_with fail
          refine region_tail 7 (by kernel_rfl) (by kernel_rfl) rfl ?_
          simp only [List.take_succ_cons, List.take_zero, List.drop_succ_cons, List.drop_zero]
          iterate 7 still_step
          refine wpStill_nil ?_
          go_wp2_with (go_at_call 10; (with_reducible refine (CR.out _ (HG.out.below (Nat.le_refl _) TB1.out)).mono ?_); rintro e w3 ⟨rfl, hb3⟩; have hx3 := hasRow_below (Nat.le_refl _) hb3 hx1; have HB3 := Lib.hid hb3; clear hb3)
          obtain ⟨r1, r2, r3⟩ := row_setRow hx3 (vals .u64 8 (fun j => (round64 X kt ut j : Int))) (vals_size _ _ _)
          have RX : rowAt (w3.setRow (gs + 1) (vals .u64 8 (fun j => (round64 X kt ut j : Int)))) (gs + 1) = vals .u64 8 (fun j => (rounds64 V k64c S (t + 1) j : Int)) := by
            rw [r2, hX.out, hkt.out, hut.out]
            rfl
          have hw3 := bl_call (bl_drew (bl_refl wr)) HB3.out
          go_roundw
          case rel => exact ⟨t + 1, by omega, by go_num, Lib.hid ⟨r1, RX⟩, Lib.hid (row_grown r3 (by omega) (row_below hw3 T0.out)), Lib.hid (hasRow_grown r3 (by omega) (hasRow_below (Nat.le_refl _) hw3 T1.out)), Lib.hid (row_grown r3 hgx (row_below hw3 TK.out)), Lib.hid (row_grown r3 (by omega) (row_below hw3 TS.out)), Lib.hid ((bl_call TB1.out HB3.out).trans (below_own r3 (by omega) (bl_call TB1.out HB3.out).size))⟩
          case measure => simp [intOf]; omega
        · have e80 : Hid (t = 80) := Lib.hid (by omega)
          obtain ⟨X, hX⟩ : ∃ X, Hid (X = rounds64 V k64c S 80) := ⟨_, Lib.hid rfl⟩
          rw [e80.out, ← hX.out] at TX
          clear TS
          go_wp2
          go_loopw [34] (fun i W => ∃ t : Nat, t ≤ 8 ∧ i = .int .i64 t ∧ Hid (hasRow W w.heap.size 8 ∧ rowAt W w.heap.size = vals .u64 8 (fun j => if j < t then (((V j + X j) % 18446744073709551616 : Nat) : Int) else (V j : Int))) ∧ Hid (hasRow W (gs + 1) 8 ∧ rowAt W (gs + 1) = vals .u64 8 (fun j => (X j : Int))) ∧ Hid (hasRow W (w.heap.size + 1) 8) ∧ Hid (hasRow W gk 80 ∧ rowAt W gk = vals .u64 80 (fun j => (k64c j : Int))) ∧ Hid (Below w.heap.size w W)) (fun i _ => 8 - (intOf i).toNat)
          case atStart => exact ⟨0, Nat.zero_le 8, rfl, Lib.hid ⟨T0.out.1, T0.out.2.trans (vals_ext _ _ fun j _ => by rw [if_neg (by omega)])⟩, TX, T1, TK, TB⟩
          case round =>
            clear TX T0 T1 TK TB
            obtain ⟨t, ht8, rfl, U0, UX, U1, UK, UB⟩ := hrel
            by_cases htl : t < 8
            · have bt : (0 : Int) ≤ (t : Int) ∧ (t : Int) < 8 := by omega
              obtain ⟨vt, hvt⟩ : ∃ x, Hid (x = V t) := ⟨_, Lib.hid rfl⟩
              obtain ⟨xt, hxt⟩ : ∃ x, Hid (x = X t) := ⟨_, Lib.hid rfl⟩
              have c0 : wr.drew.cell? ⟨w.heap.size, t, none⟩ = some (.int .u64 (vt : Int)) := by
                have h := (cell_of_hasRow U0.out.1 U0.out.2 htl).1
                rw [if_neg (Nat.lt_irrefl t), ← hvt.out] at h
                exact h
              have c1 : wr.drew.cell? ⟨gs + 1, t, none⟩ = some (.int .u64 (xt : Int)) := by rw [hxt.out]; exact (cell_of_hasRow UX.out.1 UX.out.2 htl).1
              have c2 : wr.drew.frozen? ⟨w.heap.size, t, none⟩ = false := (cell_of_hasRow U0.out.1 U0.out.2 htl).2
              go_wp2_with fail
              refine region_tail 8 (by kernel_rfl) (by kernel_rfl) rfl ?_
              simp only [List.take_succ_cons, List.take_zero, List.drop_succ_cons, List.drop_zero]
              iterate 8 still_step
              refine wpStill_nil ?_
              go_wp2
              obtain ⟨z1, z2, z3⟩ := row_setCell U0.out.1 U0.out.2 t (IntKind.u64.wrap ((vt : Int) + (xt : Int)))
              have Z2 : rowAt (wr.setCell ⟨w.heap.size, t, none⟩ (.int .u64 (IntKind.u64.wrap ((vt : Int) + (xt : Int))))) w.heap.size = vals .u64 8 (fun j => if j < t + 1 then (((V j + X j) % 18446744073709551616 : Nat) : Int) else (V j : Int)) := by
                rw [z2]
                refine vals_ext _ _ fun j hj => ?_
                by_cases hjt : j = t
                · subst hjt
                  rw [if_pos rfl, if_pos (by omega), hvt.out, hxt.out, IntKind.wrap_u64]
                  omega
                · rw [if_neg hjt]
                  by_cases hl : j < t
                  · rw [if_pos hl, if_pos (by omega)]
                  · rw [if_neg hl, if_neg (by omega)]
              have ZB : Below w.heap.size w (wr.setCell ⟨w.heap.size, t, none⟩ (.int .u64 (IntKind.u64.wrap ((vt : Int) + (xt : Int))))) := UB.out.trans (below_own z3 (Nat.le_refl _) UB.out.size)
              have y1 := row_grown z3 (show gs + 1 ≠ w.heap.size by omega) UX.out
              have y2 := hasRow_grown z3 (show w.heap.size + 1 ≠ w.heap.size by omega) U1.out
              have y3 := row_grown z3 (show gk ≠ w.heap.size by omega) UK.out
              go_roundw
              case rel => exact ⟨t + 1, by omega, by go_num, Lib.hid ⟨z1, Z2⟩, Lib.hid y1, Lib.hid y2, Lib.hid y3, Lib.hid ZB.drew⟩
              case measure => simp [intOf]; omega
            · clear e80; obtain rfl : t = 8 := by omega
              have hR0 : Hid (hasRow wr w.heap.size 8 ∧ rowAt wr w.heap.size = vals .u64 8 (fun j => (blocks64 v f (n + 1) j : Int))) := Lib.hid ⟨U0.out.1, U0.out.2.trans (vals_ext _ _ fun j hj => by
                rw [if_pos hj, hX.out, hS.out, hV.out]
                rfl)⟩
              have HN2 : Hid (len = (n + 1) * 128 + (L - 128)) := Lib.hid (by rw [HN.out]; omega)
              have HRW : Hid (reads w (some ⟨b0, off + 128, none⟩) (L - 128) .u8 (fun j => f ((n + 1) * 128 + j))) := Lib.hid (fun _ => ⟨_, _, rfl, fun j hj => by
                rw [Nat.add_assoc, HBC.out (128 + j) (by omega)]; exact congrArg (fun x => some (Value.int .u8 (f x))) (show n * 128 + (128 + j) = (n + 1) * 128 + j by omega)⟩)
              by_cases hc : c = 128
              · obtain rfl : L = 128 := by omega
                subst hc
                go_wp2
                go_roundw
                case rel => exact ⟨n + 1, 0, 0, some ⟨b0, off, none⟩, rfl, HN2, Nat.le_refl _, Nat.zero_le _, Lib.hid (fun h => absurd h (Nat.lt_irrefl 0)), hR0, U1, UK, UB⟩
                case measure => exact (by decide : (0 : Nat) < 128)
              · go_wp2
                go_roundw
                case rel => exact ⟨n + 1, L - 128, c - 128, _, rfl, HN2, by omega, by omega, HRW, hR0, U1, UK, UB⟩
                case measure => exact (show L - 128 < L by omega)
end Go.Proofs.YtcpmamnoaiaieaaDoor
