/- The walk of the law ShortSchedules. -/
import Derived.Test.YtfnncplokombgaaDoorShortRoundsLaw
namespace Go.Proofs.YtfnncplokombgaaDoor
open Go.RowKit Go.Shelf Go.Sort Bt
attribute [local go_sem] vals_set vals_get? vals_get vals_size rowAt_at rowAt_past hasRow_at hasRow_past run_loadRow run_storeCells_row setRow_at setRow_past rowAt_drewN hasRow_drewN setRow_drewN alloc_drewN setCell_drewN lt_s2 lt_s3 lt_s4 lt_s5 lt_s6
attribute [local go_sem ↓] loadRow_is

theorem reads_one {W : World} {g n : Nat} {k : IntKind} {f : Nat → Int} (h : reads W (some ⟨g, 0, none⟩) n k f) {t : Nat} (ht : t < n) : W.cell? ⟨g, t, none⟩ = some (.int k (f t)) := by
  obtain ⟨_, _, e, hc⟩ := h (by omega)
  cases e
  have := hc t ht
  rw [Nat.zero_add] at this
  exact this
set_option maxRecDepth 100000 in
set_option maxHeartbeats 2000000 in
theorem shortSchedules_walk (a : Option Addr) (len cap : Nat) (f : Nat → Int) (w : World) (_hn : len ≤ maxLen) (hr : reads w a len .u8 f) (hf : ∀ j, j < len → 0 ≤ f j ∧ f j < 256) (hcap : len ≤ cap) (hT : TabsW w) :
    Calls Tryd.prog 3 #[.slice a len cap] w fun e w' => e = .returned (.bool true) ∧ Below w.heap.size w w' := by
  have HT : Hid (Tabs32 w ∧ Tab80 w) := Lib.hid hT
  have CW : Hid (Calls Tryd.prog 7 #[] w fun e w' => e = .returned (.bool true) ∧ Below w.heap.size w w') := Lib.hid (wakes_w w hT.1)
  have HR := Lib.hid hr
  clear hr hT
  by_cases h300 : 300 < len
  · have h300' : (300 : Int) < (len : Int) := by omega
    clear hf
    go_enter Tryd.func3, Tryd.ntmps3
    go_wp2_with (go_at_call 7; (with_reducible refine CW.out.mono ?_); rintro e w1 ⟨rfl, hb1⟩; have HB1 := Lib.hid hb1; clear hb1)
    go_ret
    exact ⟨rfl, HB1.out⟩
  · by_cases h128 : len = 64
    · subst h128
      have HF := Lib.hid hf
      clear hf h300
      obtain ⟨S, hS⟩ : ∃ S, Hid (S = sched32 (word32 f)) := ⟨_, Lib.hid rfl⟩
      have hz := zero64w
      have hzv := zv64w
      have CS : Hid (∀ W, Below w.heap.size w W → Calls Tryd.prog 8 #[.slice a 64 cap] W fun e w' => e = .returned (.tuple #[.agg (vals .u32 64 (fun j => (S j : Int))), .bool true]) ∧ Below W.heap.size W w') := Lib.hid (fun W h => by rw [hS.out]; exact sched_yes_w a cap hcap f W (reads_below (Nat.le_refl _) h HR.out) HF.out (HT.out.1.below (Nat.le_refl _) h))
      have CR : Hid (∀ W, Below w.heap.size w W → Calls Tryd.prog 9 #[.slice a 64 cap] W fun e w' => ∃ v, e = .returned v ∧ owns w' W.heap.size 24 .u32 v 64 (fun j => (S j : Int)) ∧ Below W.heap.size W w') := Lib.hid (fun W h => by rw [hS.out]; exact rsched_w a cap f W (reads_below (Nat.le_refl _) h HR.out) HF.out)
      go_enter Tryd.func3, Tryd.ntmps3
      go_wp2_with (first | (go_at_call 7; (with_reducible refine CW.out.mono ?_); rintro e w1 ⟨rfl, hb1⟩; have HB1 := Lib.hid hb1; clear hb1) | (go_at_call 8; (with_reducible refine (CS.out _ HB1.out).mono ?_); rintro e w2 ⟨rfl, hb2⟩; have HB2 := Lib.hid (bl_call HB1.out hb2); clear hb2; have HB3 := Lib.hid (bl_alloc (o := .cells (vals .u32 64 (fun j => (S j : Int))) 25) HB2.out)) | (go_at_call 9; (with_reducible refine (CR.out _ HB3.out).mono ?_); rintro e w4 ⟨v4, rfl, ho4, hb4⟩; obtain ⟨g4, c4, rfl, _, _, _, _⟩ := owns_at ho4 (by decide); obtain ⟨_, _, e4, _, _, hr4⟩ := owns_reads ho4; cases e4; have R4 := Lib.hid hr4; have HB4 := Lib.hid (bl_call HB3.out hb4); have RW := Lib.hid (row_below hb4 ⟨hasRow_at w2 (vals .u32 64 (fun j => (S j : Int))) 25 w2.heap.size 64 rfl (vals_size _ _ _), rowAt_at w2 (vals .u32 64 (fun j => (S j : Int))) 25 w2.heap.size rfl⟩); clear ho4 hb4 hr4))
      go_loop [30] (fun i => ∃ t : Nat, t ≤ 64 ∧ i = .int .i64 t) (fun i => 64 - (intOf i).toNat)
      case atStart => exact ⟨0, by omega, rfl⟩
      case round =>
        obtain ⟨t, ht, rfl⟩ := hrel
        by_cases h80 : t < 64
        · have bt : (0 : Int) ≤ (t : Int) ∧ (t : Int) < 64 := by omega
          have c1 : w4.cell? ⟨g4, t, none⟩ = some (.int .u32 (S t : Int)) := reads_one R4.out h80
          have c2 : w4.cell? ⟨w2.heap.size, t, none⟩ = some (.int .u32 (S t : Int)) := (cell_of_hasRow RW.out.1 RW.out.2 h80).1
          go_wp2
          go_round
          case rel => exact ⟨t + 1, by omega, by go_num⟩
          case measure => simp [intOf]; omega
        · have h80' : ¬ (t : Int) < 64 := by omega
          go_wp2
          go_ret
          exact ⟨rfl, HB4.out⟩
    · have hne : ¬ (len : Int) = 64 := by omega
      have h300' : ¬ (300 : Int) < (len : Int) := by omega
      have hz := zero64w
      have hzv := zv64w
      have he64 := fun W => (eq64w (fun _ => 0) (fun _ => 0) W).trans (by rw [allEq_true fun _ _ => rfl])
      have CS : Hid (∀ W, Calls Tryd.prog 8 #[.slice a len cap] W fun e w' => e = .returned (.tuple #[.agg (vals .u32 64 (fun _ => 0)), .bool false]) ∧ Below W.heap.size W w') := Lib.hid (fun W => sched_no_w a len cap h128 W)
      clear hf h128 h300
      go_enter Tryd.func3, Tryd.ntmps3
      go_wp2_with (first | (go_at_call 7; (with_reducible refine CW.out.mono ?_); rintro e w1 ⟨rfl, hb1⟩; have HB1 := Lib.hid hb1; clear hb1) | (go_at_call 8; (with_reducible refine (CS.out _).mono ?_); rintro e w2 ⟨rfl, hb2⟩; have HB2 := Lib.hid (bl_call HB1.out hb2); clear hb2))
      go_ret
      exact ⟨rfl, bl_alloc HB2.out⟩
end Go.Proofs.YtfnncplokombgaaDoor
