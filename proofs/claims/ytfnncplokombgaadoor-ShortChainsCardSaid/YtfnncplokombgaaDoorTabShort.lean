/- table.K32: the table of SHA-256. -/
import Derived.Test.YtfnncplokombgaaDoorBlockWord
namespace Go.Proofs.YtfnncplokombgaaDoor
open Go.RowKit Go.Shelf Go.Sort Bt
attribute [local go_sem] vals_set vals_get? vals_get vals_size rowAt_at rowAt_past hasRow_at hasRow_past run_loadRow run_storeCells_row setRow_at setRow_past rowAt_drewN hasRow_drewN setRow_drewN alloc_drewN setCell_drewN lt_s2 lt_s3 lt_s4 lt_s5 lt_s6
attribute [local go_sem ↓] loadRow_is

set_option maxRecDepth 100000 in
set_option maxHeartbeats 4000000 in
theorem k32_w (w : World) (hg : Tab80 w) : Calls Tryd.prog 25 #[] w fun e w' => e = .returned (.agg (vals .u32 64 (fun j => (k32c j : Int)))) ∧ Below w.heap.size w w' := by
  have HG := Lib.hid hg
  have hz := zero64w
  have hzv := zv64w
  clear hg
  have HB := Lib.hid (bl_alloc (o := .cells (vals .u32 64 (fun _ => 0)) 25) (bl_alloc (o := .cells (vals .u32 64 (fun _ => 0)) 25) (bl_refl w)))
  have A0 : Hid _ := Lib.hid (hasRow_below (Nat.le_refl _) (bl_alloc (o := .cells (vals .u32 64 (fun _ => 0)) 25) (bl_refl (w.alloc (.cells (vals .u32 64 (fun _ => 0)) 25)))) (hasRow_at w (vals .u32 64 (fun _ => 0)) 25 w.heap.size 64 rfl (vals_size _ _ _)))
  have A1 : Hid _ := Lib.hid (And.intro (hasRow_at (w.alloc (.cells (vals .u32 64 (fun _ => 0)) 25)) (vals .u32 64 (fun _ => 0)) 25 (w.heap.size + 1) 64 (by simp) (vals_size _ _ _)) (rowAt_at (w.alloc (.cells (vals .u32 64 (fun _ => 0)) 25)) (vals .u32 64 (fun _ => 0)) 25 (w.heap.size + 1) (by simp)))
  have hs : ((w.alloc (.cells (vals .u32 64 (fun _ => 0)) 25)).alloc (.cells (vals .u32 64 (fun _ => 0)) 25)).heap.size = w.heap.size + 2 := by simp
  go_enter Tryd.func25, Tryd.ntmps25
  go_wp2
  generalize (w.alloc (.cells (vals .u32 64 (fun _ => 0)) 25)).alloc (.cells (vals .u32 64 (fun _ => 0)) 25) = W0 at HB A0 A1 hs ⊢
  clear hz hzv
  go_loopw [6] (fun i W => ∃ t : Nat, t ≤ 64 ∧ i = .int .i64 t ∧ Hid (hasRow W (w.heap.size + 1) 64 ∧ rowAt W (w.heap.size + 1) = vals .u32 64 (fun j => if j < t then (k32c j : Int) else 0)) ∧ Hid (hasRow W w.heap.size 64) ∧ Hid (Below w.heap.size w W)) (fun i _ => 64 - (intOf i).toNat)
  case atStart => exact ⟨0, by omega, rfl, Lib.hid ⟨A1.out.1, A1.out.2.trans (vals_ext _ _ fun j _ => by rw [if_neg (by omega)])⟩, A0, HB⟩
  case round =>
    clear A0 A1 HB hs
    obtain ⟨t, ht, rfl, R1, R0, RB⟩ := hrel
    by_cases ht64 : t < 64
    · have bt : (0 : Int) ≤ (t : Int) ∧ (t : Int) < 64 := by omega
      obtain ⟨kl, hkl⟩ : ∃ x, Hid (x = k64c t) := ⟨_, Lib.hid rfl⟩
      obtain ⟨kt, hkt⟩ : ∃ x, Hid (x = k32c t) := ⟨_, Lib.hid rfl⟩
      have ck : wr.cell? ⟨2, t, none⟩ = some (.int .u64 (kl : Int)) := by rw [hkl.out]; exact (HG.out.below (Nat.le_refl _) RB.out) t (by omega)
      have c1 : wr.frozen? ⟨w.heap.size + 1, t, none⟩ = false := (cell_of_hasRow R1.out.1 R1.out.2 ht64).2
      have c0 := (cell_of_hasRow R1.out.1 R1.out.2 ht64).1
      have hkl2 : kl < 18446744073709551616 := by rw [hkl.out]; exact k64c_lt t
      have hkd : (kl : Int) / 4294967296 = (kt : Int) := by rw [hkt.out, k32c, ← hkl.out]; omega
      have hk2 : IntKind.u32.wrap (kt : Int) = (kt : Int) := by rw [IntKind.wrap_u32, hkt.out, k32c, ← hkl.out]; omega
      have hk3 : IntKind.u64.wrap (kt : Int) = (kt : Int) := by rw [IntKind.wrap_u64, hkt.out, k32c, ← hkl.out]; omega
      go_wp2
      obtain ⟨z1, z2, z3⟩ := row_setCell R1.out.1 R1.out.2 t (kt : Int)
      have Z2 : rowAt (wr.setCell ⟨w.heap.size + 1, t, none⟩ (.int .u32 (kt : Int))) (w.heap.size + 1) = vals .u32 64 (fun j => if j < t + 1 then (k32c j : Int) else 0) := by
        rw [z2]
        refine vals_ext _ _ fun j hj => ?_
        by_cases hjt : j = t
        · subst hjt
          rw [if_pos rfl, if_pos (by omega), hkt.out]
        · rw [if_neg hjt]
          by_cases hl : j < t
          · rw [if_pos hl, if_pos (by omega)]
          · rw [if_neg hl, if_neg (by omega)]
      refine ⟨⟨t + 1, by omega, by go_num, Lib.hid ⟨z1, Z2⟩, Lib.hid (hasRow_grown z3 (show w.heap.size ≠ w.heap.size + 1 by omega) R0.out), Lib.hid (RB.out.trans (below_own z3 (by omega) RB.out.size))⟩, ?_⟩
      simp [intOf]
      omega
    · obtain rfl : t = 64 := by omega
      have hr0 := R0.out
      have hr1 := R1.out.1
      have hr2 : rowAt wr (w.heap.size + 1) = vals .u32 64 (fun j => (k32c j : Int)) := by
        rw [R1.out.2]
        exact vals_ext _ _ fun j hj => if_pos hj
      go_wp2
      obtain ⟨r1, r2, r3⟩ := row_setRow hr0 (vals .u32 64 (fun j => (k32c j : Int))) (vals_size _ _ _)
      refine bodyPost_ret (results_row arr64w rfl _ w.heap.size rfl r1) rfl ⟨?_, ?_⟩
      · rw [r2]
      · exact RB.out.trans (below_setRow' (Nat.le_refl _) _)
end Go.Proofs.YtfnncplokombgaaDoor
