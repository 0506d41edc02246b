/- The walk of the law LaneWindows. -/
import Derived.Test.YtohieonpegeokaaLaneXorsLaw
namespace Go.Proofs.Ytohieonpegeokaa
open Go.RowKit Go.Shelf
attribute [local go_sem] vals_set vals_get? vals_get vals_size rowAt_at rowAt_past hasRow_at hasRow_past run_loadRow run_storeCells_row setRow_at setRow_past rowAt_drewN hasRow_drewN setRow_drewN alloc_drewN setCell_drewN lt_s2 lt_s3 lt_s4 lt_s5 lt_s6
attribute [local go_sem ↓] loadRow_is

theorem byteL_zero (t : Nat) : byteL (fun _ => 0) t = 0 := by simp [byteL]
set_option maxRecDepth 100000 in
set_option maxHeartbeats 4000000 in
theorem laneWindows_walk (i' : Int) (b : Option Addr) (n cb : Nat) (g : Nat → Int) (w : World) (hi' : (Lit.int .u8 i').wf = true) (hn : n ≤ 140737488355328) (hr : reads w b n .u8 g) (hg : ∀ j, j < n → 0 ≤ g j ∧ g j < 256) (hcb : n ≤ cb) :
    Calls Try.prog 18 #[.int .u8 i', .slice b n cb] w fun e w' => e = .returned (.bool true) ∧ Below w.heap.size w w' := by
  obtain ⟨x, rfl, hx⟩ := nat_of_u8 hi'
  clear hi'
  have HW := Lib.hid (bl_refl w)
  by_cases hbig : 200 < x + n
  · have hbig2 : (200 : Int) < (x : Int) + (n : Int) := by omega
    clear hr hg
    go_enter Try.func18, Try.ntmps18
    go_wp2_with (go_at_call 54; refine (wakes14_w _).mono ?_; rintro e w1 ⟨rfl, hb⟩)
    go_ret
    exact ⟨rfl, hb⟩
  have hxn : x + n ≤ 200 := by omega
  clear hbig
  obtain ⟨gN, hgN⟩ : ∃ gN : Nat → Nat, Hid (gN = fun j => if j < n then (g j).toNat else 0) := ⟨_, Lib.hid rfl⟩
  have hgb : ∀ j, j < n → gN j < 256 := fun j hj => by
    have := hg j hj
    rw [hgN.out]
    show (if j < n then (g j).toNat else 0) < 256
    rw [if_pos hj]
    omega
  have hgc : ∀ j, j < n → g j = (gN j : Int) := fun j hj => by
    have := hg j hj
    rw [hgN.out]
    show g j = (((if j < n then (g j).toNat else 0) : Nat) : Int)
    rw [if_pos hj]
    omega
  have HR : Hid (reads w b n .u8 (fun j => (gN j : Int))) := Lib.hid (reads_ext hgc hr)
  clear hr hg hgN hgc
  have hxb := xorB_lt (fun _ => 0) x n gN hgb
  obtain ⟨f1, hf1⟩ : ∃ f1 : Nat → Nat, Hid (f1 = ofB (xorB (fun _ => 0) x n gN)) := ⟨_, Lib.hid rfl⟩
  have ex : vals .u64 25 (fun j => leN (fun t => (xorB (fun _ => 0) x n gN t : Int)) (j * 8) 8) = vals .u64 25 (fun j => (f1 j : Int)) := vals_ext _ _ fun j _ => by rw [hf1.out]; exact ofB_cast _ hxb j
  have hf1b : ∀ j, j < 25 → f1 j < 18446744073709551616 := fun j _ => by rw [hf1.out]; exact ofB_lt _ hxb j
  have hby : ∀ t, byteL f1 t = xorB (fun _ => 0) x n gN t := fun t => by rw [hf1.out]; exact byteL_ofB _ hxb t
  have hwin : 0 < n → winF x n = x ∧ winM x n = n := fun h => by
    unfold winF winM
    rw [if_neg (by omega), if_neg (by omega)]
    omega
  have hM : winM x n = n := by
    rcases Nat.eq_zero_or_pos n with h | h
    · subst h
      unfold winM
      rw [if_pos (.inl (by omega))]
    · exact (hwin h).2
  have Hin : Hid (∀ j, j < n → byteL f1 (x + j) = gN j) := Lib.hid (fun j hj => by
    obtain ⟨e1, e2⟩ := hwin (by omega)
    rw [hby, xorB_in _ _ _ _ _ (by rw [e1, e2]; omega), byteL_zero, Nat.zero_xor]
    congr 1
    omega)
  have Hout : Hid (∀ k, k < x ∨ x + n ≤ k → byteL f1 k = 0) := Lib.hid (fun k hk => by
    rcases Nat.eq_zero_or_pos n with h | h
    · rw [hby, xorB_out _ _ _ _ _ (by rw [hM]; omega), byteL_zero]
    · obtain ⟨e1, e2⟩ := hwin h
      rw [hby, xorB_out _ _ _ _ _ (by rw [e1, e2]; omega), byteL_zero])
  have CX : Hid (∀ W, Below w.heap.size w W → Calls Try.prog 58 #[.agg (vals .u64 25 (fun _ => 0)), .int .i64 x, .slice b n cb] W fun e w' => e = .returned (.agg (vals .u64 25 (fun j => (f1 j : Int)))) ∧ Below W.heap.size W w') := Lib.hid (fun W hW => by rw [← ex]; exact lxorL_w (fun _ => 0) (fun _ _ => by omega) x (by omega) b n cb hcb gN W (by omega) (reads_below (Nat.le_refl _) hW HR.out) hgb)
  have CB := Lib.hid (fun W => lbytes_w f1 W hf1b)
  have CO : Hid (∀ W, Calls Try.prog 60 #[.agg (vals .u64 25 (fun j => (f1 j : Int))), .int .i64 x, .int .i64 n] W fun e w' => ∃ v, e = .returned v ∧ owns w' W.heap.size 5 .u8 v n (fun j => (gN j : Int)) ∧ Below W.heap.size W w') := Lib.hid (fun W => by
    refine (lout_w f1 hf1b x n (by omega) (by omega) W).mono ?_
    rintro e w' ⟨v, he, ho, hb⟩
    rw [hM] at ho
    refine ⟨v, he, owns_ext (fun j hj => ?_) ho, hb⟩
    rw [(hwin (by omega)).1, Hin.out j hj])
  clear hxb ex hf1b hby hwin hM hf1 hgb hcb Hin
  have hz := zero25
  go_enter Try.func18, Try.ntmps18
  go_wp2_with (first | (go_at_call 54; refine (wakes14_w _).mono ?_; rintro e w1 ⟨rfl, hb1⟩; have HB1 := Lib.hid hb1; clear hb1) | (go_at_call 58; (with_reducible refine (CX.out _ HB1.out).mono ?_); rintro e w2 ⟨rfl, hb2⟩; have HB2 := Lib.hid (bl_call HB1.out hb2); clear hb2) | (go_at_call 55; (with_reducible refine (CB.out _).mono ?_); rintro e w3 ⟨v3, rfl, ho3, hb3⟩; obtain ⟨a3, c3, rfl, _, _, hr3⟩ := owns_reads ho3; have R3 := Lib.hid hr3; have HB3 := Lib.hid hb3; clear hb3 ho3 hr3))
  have RB : Hid (hasRow w3 w2.heap.size 25 ∧ rowAt w3 w2.heap.size = vals .u64 25 (fun j => (f1 j : Int))) := Lib.hid (row_below HB3.out ⟨hasRow_at w2 _ _ _ _ rfl (vals_size _ _ _), rowAt_at w2 _ _ _ rfl⟩)
  have HB4 := Lib.hid (bl_call (bl_alloc HB2.out) HB3.out)
  clear HB3 HB2 HB1 hz CX CB
  go_loopw [25] (fun i wr => ∃ k : Nat, k ≤ 200 ∧ i = .int .i64 k ∧ wr = w3) (fun i _ => 200 - (intOf i).toNat)
  case atStart => exact ⟨0, by omega, rfl, rfl⟩
  case round =>
    obtain ⟨k, hk, rfl, rfl⟩ := hrel
    by_cases hlt : k < 200
    · obtain ⟨b1, o1, rfl, hc1⟩ := R3.out (by decide)
      have hcell := hc1 k hlt
      clear hc1
      by_cases hin : k < x ∨ x + n ≤ k
      · have h0 := Hout.out k hin
        have h1 : putL64 f1 k = 0 := by rw [putL64_byte, h0]; rfl
        rw [h1] at hcell
        clear h0 h1
        by_cases hkx : k < x
        · go_wp2
          go_roundw
          case rel => exact ⟨k + 1, by omega, by go_num, by first | trivial | rfl⟩
          case measure => simp [intOf]; omega
        · go_wp2
          go_roundw
          case rel => exact ⟨k + 1, by omega, by go_num, by first | trivial | rfl⟩
          case measure => simp [intOf]; omega
      · have hk1 : ¬ k < x := by omega
        have hk2 : ¬ ((x : Int) + (n : Int) ≤ (k : Int)) := by omega
        clear hin
        go_wp2
        go_roundw
        case rel => exact ⟨k + 1, by omega, by go_num, by first | trivial | rfl⟩
        case measure => simp [intOf]; omega
    · obtain rfl : k = 200 := by omega
      have r1 := RB.out.1
      have s1 := RB.out.2
      go_wp2_with (first | (go_at_call 60; (with_reducible refine (CO.out _).mono ?_); rintro e w5 ⟨v5, rfl, ho5, hb5⟩; obtain ⟨a5, c5, rfl, _, _, hr5⟩ := owns_reads ho5; have HB5 := Lib.hid (bl_call HB4.out hb5); have CS := Lib.hid (same8_w a5 b n c5 cb _ _ (fun _ _ => rfl) w5 (by unfold maxLen; omega) hr5 (reads_below (Nat.le_refl _) HB5.out HR.out)); clear ho5 hb5 hr5) | (go_at_call 51; (with_reducible refine CS.out.mono ?_); rintro e w6 ⟨rfl, hb6⟩; have HB6 := Lib.hid (bl_call HB5.out hb6); clear hb6))
      go_ret
      exact ⟨rfl, HB6.out⟩
end Go.Proofs.Ytohieonpegeokaa
