/- The reference's schedule. -/
import Derived.Test.YtfnncplokombgaaDoorSchedWord
import Derived.Deep.DeepAppendRoom
namespace Go.Proofs.YtfnncplokombgaaDoor
open Go.RowKit Go.Shelf Go.Sort Bt
attribute [local go_sem] vals_set vals_get? vals_get vals_size rowAt_at rowAt_past hasRow_at hasRow_past run_loadRow run_storeCells_row setRow_at setRow_past rowAt_drewN hasRow_drewN setRow_drewN alloc_drewN setCell_drewN lt_s2 lt_s3 lt_s4 lt_s5 lt_s6
attribute [local go_sem ↓] loadRow_is

/-- 'append(s, y)' at a step of a region that draws its order; what s reads stays -/
theorem step_append_keep {P : Program} {ops : Array Oper} {o : Oper} {a : Act} {w : World} {K : Act → World → Prop} {Q : Exit → Act → World → Prop} {E : Prop} {T e : TypeId} {bytes : Nat} (hT : EltT P T e bytes) (hgd : o.guard = none) (s x : Operand) (ho : o.op = .call { callee := .builtin .append, args := #[s, x], argTypes := #[T, T] })
    {base p n cap : Nat} {k : IntKind} {f : Nat → Int} (hs : a.eval s = .slice (some ⟨p, 0, none⟩) n cap) {w1 : World} (hown : owns w1 base e k (.slice (some ⟨p, 0, none⟩) n cap) n f) {y : Int}
    (hx : a.eval x = .slice (some ⟨w1.heap.size, 0, none⟩) 1 1) (hw : w = w1.alloc (.cells #[.int k y] e)) (hn : n + 1 ≤ maxLen) (hby : (n + 1) * bytes ≤ 140737488355328) (hbase : base ≤ w1.heap.size)
    (h : ∀ v' w', owns w' base e k v' (n + 1) (fun j => if j < n then f j else y) → Below base w1 w' → (∀ j, j < n → w'.cell? ⟨p, j, none⟩ = some (.int k (f j))) → K (a.put o.dst v') w') : if Region.wanted o (yielded ops a.tmps) = true then Oper.wp P o a w K Q else E := by
  have hwt : Region.wanted o (yielded ops a.tmps) = true := by simp [Region.wanted, hgd]
  rw [if_pos hwt]
  subst hw
  obtain ⟨hu, i, z, hi, hz, h1, h2, h3⟩ := hT
  have hownA : (w1.alloc (.cells #[.int k y] e)).ownsRow base e 1 (.slice (some ⟨p, 0, none⟩) n cap) n (vals k n f).toList := hown.alloc _
  obtain ⟨v', w', hr, h4, h5, _⟩ := run_append_own (P := P) (w1.alloc (.cells #[.int k y] e)) base T o.type e i z 1 bytes hu hi hz h1 h2 h3 (by decide) _ n (vals k n f).toList hownA ⟨w1.heap.size, 0, none⟩ 1 1 [.int k y] rfl (cell_one_new _ _ _) (by simp [Value.oneCell']) hn hby (by simp; omega)
  have hold : ∀ j, j < n → (w1.alloc (.cells #[.int k y] e)).cell? ⟨p, j, none⟩ = some (.int k (f j)) := fun j hj => by
    rw [World.ownsRow.cellAt hownA j (by omega), ← vals_get? k n f j hj]
    simp
  have hkeep : ∀ j, j < n → w'.cell? ⟨p, j, none⟩ = some (.int k (f j)) := by
    intro j hj
    by_cases hroom : n + 1 ≤ cap
    · obtain ⟨w2, hr2, h6, _⟩ := run_append_own_spare (P := P) (w1.alloc (.cells #[.int k y] e)) base T o.type e i 1 hu hi h1 p n cap (vals k n f).toList hownA ⟨w1.heap.size, 0, none⟩ 1 1 [.int k y] rfl (cell_one_new _ _ _) (by simp [Value.oneCell']) hroom
      rw [hr] at hr2
      injection hr2 with _ hww
      subst hww
      rw [World.ownsRow.cellAt h6 j (by omega)]
      rw [List.getElem?_append_left (by simp [vals_size]; exact hj), Array.getElem?_toList, vals_get? k n f j hj]
    · have hgr := run_append_grow (P := P) (w1.alloc (.cells #[.int k y] e)) T o.type e i z hu hi hz ⟨p, 0, none⟩ n cap (vals k n f).toList (by simp [vals_size, h1]) (fun j u hu => hownA.cells (g := p) rfl j u hu) ⟨w1.heap.size, 0, none⟩ 1 1 [.int k y] (by rw [h1]; rfl) (cell_one_new _ _ _) (by omega) (by simp only [maxLen] at hn; omega) (growslice_fits (by omega) (by rw [h2]; exact hby))
      rw [hr] at hgr
      injection hgr with _ hww
      subst hww
      rw [← hold j hj]
      exact World.cell?_of_block (heap_alloc_old (World.drew _) _ (cell_lt (hold j hj)))
  unfold Oper.wp execOp
  simp only [ho, resolve, invoke, builtin, Sem.run_bind, Sem.run_pure, Result.andThen_ok, List.map_toArray, List.map_cons, List.map_nil, hs, hx, hr]
  refine h v' w' ?_ ?_ hkeep
  · unfold owns
    rw [← vals_snoc]
    exact h4
  · have hbl : Below base w1 (w1.alloc (.cells #[.int k y] e)) := (Below.refl _ _).alloc hbase _
    refine hbl.grown h5 (by simp; omega) fun r hr => ?_
    rcases hown.2 with ⟨e0, _⟩ | ⟨g, cap, cur, e0, hb, _⟩
    · cases e0
    · cases e0
      simp [Value.ownBlock] at hr; omega
theorem elt32r : EltT Tryd.prog 28 24 4 := elt_of (k := .u32) Tryd.underlying28 (by kernel_rfl)
set_option maxRecDepth 100000 in
set_option maxHeartbeats 4000000 in
theorem rsched_w (a : Option Addr) (cap : Nat) (f : Nat → Int) (w : World) (hr : reads w a 64 .u8 f) (hf : ∀ j, j < 64 → 0 ≤ f j ∧ f j < 256) :
    Calls Tryd.prog 9 #[.slice a 64 cap] w fun e w' => ∃ v, e = .returned v ∧ owns w' w.heap.size 24 .u32 v 64 (fun j => (sched32 (word32 f) j : Int)) ∧ Below w.heap.size w w' := by
  have CL : Hid (Calls Tryd.prog 17 #[.slice a 64 cap, .int .i64 4] w fun e w' => ∃ v, e = .returned v ∧ owns w' w.heap.size 42 .u64 v 16 (fun j => beN f (j * 4) 4) ∧ Below w.heap.size w w') := Lib.hid (rwords64_w a 64 cap 4 (by omega) (by omega) f w (by omega) hr hf)
  have hm : ∀ j, j < 16 → beN f (j * 4) 4 = (word32 f j : Int) ∧ word32 f j < 4294967296 := fun j hj => word32_is hf (by omega)
  have HS := Lib.hid (fun t => sched32_lt (word32 f) (fun j hj => (hm j hj).2) t)
  have HL := Lib.hid (fun j (hj : j < 16) => (hm j hj).2)
  have HM := Lib.hid (fun j (hj : j < 16) => (hm j hj).1)
  clear hr hf hm
  obtain ⟨m, hM⟩ : ∃ m, Hid (m = word32 f) := ⟨_, Lib.hid rfl⟩
  rw [← hM.out] at HS HM HL
  rw [← hM.out]
  go_enter Tryd.func9, Tryd.ntmps9
  go_wp2_with (go_at_call 17; (with_reducible refine CL.out.mono ?_); rintro e w3 ⟨v, rfl, ho, hb⟩; obtain ⟨g3, c3, rfl, _, hg3, hg3l, hcs3⟩ := owns_at ho (by decide); have HC3 : Hid (∀ j, j < 16 → w3.cell? ⟨g3, j, none⟩ = some (.int .u64 (m j : Int))) := Lib.hid (fun j hj => by rw [← HM.out j hj]; exact (hcs3 j hj).1); have HB3 := Lib.hid hb; clear ho hb hcs3)
  clear CL HM
  go_loopw [3, 10] (fun v i W => ∃ t : Nat, t ≤ 16 ∧ i = .int .i64 t ∧ Hid (owns W w3.heap.size 24 .u32 v t (fun j => (m j : Int))) ∧ Hid (Below w3.heap.size w3 W)) (fun _ i _ => 16 - (intOf i).toNat)
  case atStart => exact ⟨0, by omega, rfl, Lib.hid (owns_nil _ _ _ _ _), Lib.hid (Below.refl _ _)⟩
  case round =>
    obtain ⟨t, ht, rfl, HO, HB⟩ := hrel
    by_cases h16 : t < 16
    · have bt : (0 : Int) ≤ (t : Int) ∧ (t : Int) < 16 := by omega
      obtain ⟨x, hx⟩ : ∃ x, Hid (x = m t) := ⟨_, Lib.hid rfl⟩
      have hxl := HL.out t h16
      rw [← hx.out] at hxl
      have hwx : IntKind.u32.wrap (x : Int) = (x : Int) := by rw [IntKind.wrap_u32]; omega
      have c1 : wr.cell? ⟨g3, t, none⟩ = some (.int .u64 (x : Int)) := by
        rw [hx.out, HB.out.cell (p := ⟨g3, t, none⟩) hg3l]; exact HC3.out t h16
      go_wp2_with (at_builtin; refine append_one elt32r rfl (.tmp 14) (.tmp 17) rfl rfl HO.out rfl rfl (by unfold maxLen; omega) (by omega) HB.out.size ?_; intro v' w5 hown hbl; have R5 := Lib.hid hown; have B5 := Lib.hid (HB.out.trans hbl); clear hown hbl)
      go_roundw
      case rel =>
        refine ⟨t + 1, by omega, by go_num, Lib.hid (owns_ext (fun j hj => ?_) R5.out), B5⟩
        by_cases h : j < t
        · rw [if_pos h]
        · obtain rfl : j = t := by omega
          rw [if_neg h, hx.out]
      case measure => simp [intOf]; omega
    · have e16 : Hid (t = 16) := Lib.hid (by omega)
      have h16' : ¬ (t : Int) < 16 := by omega
      have HO2 : Hid (owns wr w.heap.size 24 .u32 _ 16 (fun j => (sched32 m j : Int))) := Lib.hid (by
        have h := HO.out
        rw [e16.out] at h
        exact owns_base HB3.out.size (owns_ext (fun j hj => by rw [sched32_lo m hj]) h))
      have HB2 : Hid (Below w.heap.size w wr) := Lib.hid (bl_call HB3.out HB.out)
      clear HO HB HC3 HL
      go_wp2
      go_loopw [3, 6] (fun v i wr => ∃ t : Nat, 16 ≤ t ∧ t ≤ 64 ∧ i = .int .i64 t ∧ Hid (owns wr w.heap.size 24 .u32 v t (fun j => (sched32 m j : Int))) ∧ Hid (Below w.heap.size w wr)) (fun _ i _ => 64 - (intOf i).toNat)
      case atStart => exact ⟨16, by omega, by omega, rfl, HO2, HB2⟩
      case round =>
        clear HO2 HB2
        obtain ⟨t, ht1, ht2, rfl, HO, HB⟩ := hrel
        by_cases hlt : t < 64
        · obtain ⟨u2, e2⟩ : ∃ u2, t = u2 + 2 := ⟨t - 2, by omega⟩
          obtain ⟨u7, e7⟩ : ∃ u7, t = u7 + 7 := ⟨t - 7, by omega⟩
          obtain ⟨u15, e15⟩ : ∃ u15, t = u15 + 15 := ⟨t - 15, by omega⟩
          obtain ⟨u16, e16⟩ : ∃ u16, t = u16 + 16 := ⟨t - 16, by omega⟩
          have w2 : IntKind.i64.wrap ((t : Int) - 2) = (u2 : Int) := by rw [IntKind.wrap_i64]; omega
          have w7 : IntKind.i64.wrap ((t : Int) - 7) = (u7 : Int) := by rw [IntKind.wrap_i64]; omega
          have w15 : IntKind.i64.wrap ((t : Int) - 15) = (u15 : Int) := by rw [IntKind.wrap_i64]; omega
          have w16 : IntKind.i64.wrap ((t : Int) - 16) = (u16 : Int) := by rw [IntKind.wrap_i64]; omega
          have b2 : (0 : Int) ≤ (u2 : Int) ∧ (u2 : Int) < t := by omega
          have b7 : (0 : Int) ≤ (u7 : Int) ∧ (u7 : Int) < t := by omega
          have b15 : (0 : Int) ≤ (u15 : Int) ∧ (u15 : Int) < t := by omega
          have b16 : (0 : Int) ≤ (u16 : Int) ∧ (u16 : Int) < t := by omega
          have n2 : u2 < t := by omega
          have n7 : u7 < t := by omega
          have n15 : u15 < t := by omega
          have n16 : u16 < t := by omega
          obtain ⟨x2, hx2⟩ : ∃ x, Hid (x = sched32 m u2) := ⟨_, Lib.hid rfl⟩
          obtain ⟨x7, hx7⟩ : ∃ x, Hid (x = sched32 m u7) := ⟨_, Lib.hid rfl⟩
          obtain ⟨x15, hx15⟩ : ∃ x, Hid (x = sched32 m u15) := ⟨_, Lib.hid rfl⟩
          obtain ⟨x16, hx16⟩ : ∃ x, Hid (x = sched32 m u16) := ⟨_, Lib.hid rfl⟩
          obtain ⟨s1, hs1⟩ : ∃ x, Hid (x = smallS32 1 x2) := ⟨_, Lib.hid rfl⟩
          obtain ⟨s0, hs0⟩ : ∃ x, Hid (x = smallS32 0 x15) := ⟨_, Lib.hid rfl⟩
          obtain ⟨y, hy⟩ : ∃ x, Hid (x = sched32 m t) := ⟨_, Lib.hid rfl⟩
          obtain ⟨p, pc, rfl, hpc, hp1, hp2, hpcs⟩ := owns_at HO.out (by omega)
          have cf : ∀ u, u < t → wr.drew.cell? ⟨p, u, none⟩ = some (.int .u32 (sched32 m u)) := fun u hu => (hpcs u hu).1
          have c2 := cf u2 (by omega)
          have c7 := cf u7 (by omega)
          have c15 := cf u15 (by omega)
          have c16 := cf u16 (by omega)
          rw [← hx2.out] at c2
          rw [← hx7.out] at c7
          rw [← hx15.out] at c15
          rw [← hx16.out] at c16
          have RB1 : Hid (Below w.heap.size w wr.drew) := Lib.hid HB.out.drew
          have RO1 : Hid (owns wr.drew w.heap.size 24 .u32 (.slice (some ⟨p, 0, none⟩) t pc) t (fun j => (sched32 m j : Int))) := Lib.hid HO.out
          have S0 := Lib.hid (And.intro RB1.out (And.intro c2 (And.intro c7 (And.intro c15 c16))))
          have C1 : Hid (∀ W, Calls Tryd.prog 18 #[.int .i64 1, .int .u32 x2] W fun e w' => e = .returned (.int .u32 s1) ∧ Below W.heap.size W w') := Lib.hid (fun W => by rw [hs1.out]; exact rsmall32_w 1 x2 (by rw [hx2.out]; exact HS.out _) W)
          have C0 : Hid (∀ W, Calls Tryd.prog 18 #[.int .i64 0, .int .u32 x15] W fun e w' => e = .returned (.int .u32 s0) ∧ Below W.heap.size W w') := Lib.hid (fun W => by rw [hs0.out]; exact rsmall32_w 0 x15 (by rw [hx15.out]; exact HS.out _) W)
          have hsum : Hid (IntKind.u32.wrap (IntKind.u32.wrap (IntKind.u32.wrap ((s1 : Int) + (x7 : Int)) + (s0 : Int)) + (x16 : Int)) = (y : Int)) := Lib.hid (by
            rw [hy.out, sched32_hi m ht1, show t - 2 = u2 by omega, show t - 7 = u7 by omega, show t - 15 = u15 by omega, show t - 16 = u16 by omega, ← hx2.out, ← hx7.out, ← hx15.out, ← hx16.out, ← hs1.out, ← hs0.out]
            simp only [IntKind.wrap_u32]
            omega)
          have htm : t + 1 ≤ maxLen := by unfold maxLen; omega
          have htb : (t + 1) * 4 ≤ 140737488355328 := by omega
          clear c2 c7 c15 c16 cf HB HO hs1 hs0 hpcs e2 e7 e15 e16
          go_wp2_with fail
          go_region_held3 (fun W => Below w.heap.size w W ∧ W.cell? ⟨p, u2, none⟩ = some (.int .u32 x2) ∧ W.cell? ⟨p, u7, none⟩ = some (.int .u32 x7) ∧ W.cell? ⟨p, u15, none⟩ = some (.int .u32 x15) ∧ W.cell? ⟨p, u16, none⟩ = some (.int .u32 x16)) (first | exact S0.out | exact S1.out | exact S2.out | exact S3.out | exact S4.out | assumption) (first | (go_at_call 18; (with_reducible refine (C1.out _).mono ?_); rintro e w1 ⟨rfl, hb⟩; have S1 := Lib.hid (keep4 S0.out hb); have U0 := Lib.hid (owns_below (Nat.le_refl _) hb RO1.out); clear hb) | (go_at_call 18; (with_reducible refine (C0.out _).mono ?_); rintro e w2 ⟨rfl, hb⟩; have S2 := Lib.hid (keep4 S1.out hb); have V0 := Lib.hid (owns_below (Nat.le_refl _) hb U0.out); have S3 := Lib.hid (keep4 S2.out (bl_alloc (o := .cells #[.int .u32 (IntKind.u32.wrap (IntKind.u32.wrap (IntKind.u32.wrap ((s1 : Int) + (x7 : Int)) + (s0 : Int)) + (x16 : Int)))] 24) (bl_refl _))); clear hb) | (refine step_append_keep elt32r rfl (.tmp 24) (.tmp 50) rfl rfl V0.out rfl rfl htm htb S2.out.1.size ?_; intro v' w5 hown hbl hke; have S5 := Lib.hid hown; have k2 := hke u2 (by omega); have k7 := hke u7 (by omega); have k15 := hke u15 (by omega); have k16 := hke u16 (by omega); rw [← hx2.out] at k2; rw [← hx7.out] at k7; rw [← hx15.out] at k15; rw [← hx16.out] at k16; have S4 := Lib.hid (And.intro (S2.out.1.trans hbl) (And.intro k2 (And.intro k7 (And.intro k15 k16)))); clear hown hbl hke k2 k7 k15 k16))
          have R2 : Hid (owns w5 w.heap.size 24 .u32 v' (t + 1) (fun j => (sched32 m j : Int))) := Lib.hid (owns_ext (fun j hj => by
            by_cases h : j < t
            · rw [if_pos h]
            · obtain rfl : j = t := by omega
              rw [if_neg h, hsum.out, hy.out]) S5.out)
          go_wp2
          go_roundw
          case rel => exact ⟨t + 1, by omega, by omega, by go_num, R2, Lib.hid S4.out.1⟩
          case measure => simp [intOf]; omega
        · obtain rfl : t = 64 := by omega
          go_wp2
          go_ret
          exact ⟨_, rfl, HO.out, HB.out⟩
end Go.Proofs.YtfnncplokombgaaDoor
