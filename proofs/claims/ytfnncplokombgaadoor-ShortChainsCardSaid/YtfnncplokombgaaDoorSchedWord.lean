/- wide.Schedule and the reference's: a block's schedule of 64 words. -/
import Derived.Test.YtfnncplokombgaaDoorTab64
import Derived.Test.YtfnncplokombgaaDoorWordsA
import Derived.Test.YtfnncplokombgaaDoorRefBig
namespace Go.Proofs.YtfnncplokombgaaDoor
open Go.RowKit Go.Shelf Go.Sort Bt
attribute [local go_sem] vals_set vals_get? vals_get vals_size rowAt_at rowAt_past hasRow_at hasRow_past run_loadRow run_storeCells_row setRow_at setRow_past rowAt_drewN hasRow_drewN setRow_drewN alloc_drewN setCell_drewN lt_s2 lt_s3 lt_s4 lt_s5 lt_s6
attribute [local go_sem ↓] loadRow_is

/-- word t of the schedule of the words m -/
def sched32 (m : Nat → Nat) (t : Nat) : Nat :=
  if _h : t < 16 then m t
  else (smallS32 1 (sched32 m (t - 2)) + sched32 m (t - 7) + smallS32 0 (sched32 m (t - 15)) + sched32 m (t - 16)) % 4294967296
termination_by t
theorem sched32_lo (m : Nat → Nat) {t : Nat} (h : t < 16) : sched32 m t = m t := by rw [sched32, dif_pos h]
theorem sched32_hi (m : Nat → Nat) {t : Nat} (h : 16 ≤ t) : sched32 m t = (smallS32 1 (sched32 m (t - 2)) + sched32 m (t - 7) + smallS32 0 (sched32 m (t - 15)) + sched32 m (t - 16)) % 4294967296 := by
  rw [sched32, dif_neg (by omega)]
theorem sched32_lt (m : Nat → Nat) (hm : ∀ j, j < 16 → m j < 4294967296) (t : Nat) : sched32 m t < 4294967296 := by
  by_cases h : t < 16
  · rw [sched32_lo m h]; exact hm t h
  · rw [sched32_hi m (by omega)]; exact Nat.mod_lt _ (by decide)
theorem sched32_congr {m m' : Nat → Nat} (h : ∀ j, j < 16 → m j = m' j) : ∀ t, sched32 m t = sched32 m' t := by
  intro t
  induction t using Nat.strongRecOn with
  | _ t ih =>
    by_cases h1 : t < 16
    · rw [sched32_lo m h1, sched32_lo m' h1, h t h1]
    · rw [sched32_hi m (by omega), sched32_hi m' (by omega), ih (t - 2) (by omega), ih (t - 7) (by omega), ih (t - 15) (by omega), ih (t - 16) (by omega)]
/-- word j of the bytes f, the great end first -/
def word32 (f : Nat → Int) (j : Nat) : Nat := (beN f (j * 4) 4).toNat
theorem word32_is {f : Nat → Int} {n j : Nat} (hf : ∀ j, j < n → 0 ≤ f j ∧ f j < 256) (hj : j * 4 + 4 ≤ n) : beN f (j * 4) 4 = (word32 f j : Int) ∧ word32 f j < 4294967296 := by
  have h := beN_bd f (j * 4) 4 (fun i hi => hf _ (by omega))
  unfold word32
  have e : (256 : Int) ^ 4 = 4294967296 := by decide
  rw [e] at h
  omega
theorem lbig32_w (a : Option Addr) (len cap : Nat) (f : Nat → Int) (w : World) (hlen : len ≤ 1000000) (hcap : len ≤ cap) (hr : reads w a len .u8 f) (hf : ∀ j, j < len → 0 ≤ f j ∧ f j < 256) :
    Calls Tryd.prog 14 #[.slice a len cap] w fun e w' => ∃ v, e = .returned v ∧ owns w' w.heap.size 24 .u32 v (len / 4) (fun j => beN f (j * 4) 4) ∧ RowKit.Below w.heap.size w w' := by
  have HC := Lib.hid (words32_w a len cap 4 rfl f w hlen hcap hr hf)
  clear hr hf
  go_enter Tryd.func14, Tryd.ntmps14
  go_wp2_with (go_at_call 28; refine HC.out.mono ?_; rintro e w1 ⟨v, rfl, ho, hb⟩)
  go_ret
  exact ⟨_, rfl, ho, hb⟩
theorem step_copy_head {P : Program} {ops : Array Oper} {o : Oper} {a : Act} {w : World} {K : Act → World → Prop} {Q : Exit → Act → World → Prop} {E : Prop} {T sT e : TypeId} (hu : P.underlying T = some (.slice e)) (hsz : (P.info? e).map (·.size) = some 1) (hgd : o.guard = none) (d s : Operand) (ho : o.op = .call { callee := .builtin .copy, args := #[d, s], argTypes := #[T, sT] })
    {g n m c c' : Nat} {ad : Addr} {k : IntKind} {h h0 : Nat → Int} (hmn : m ≤ n) (hd : a.eval d = .slice (some ⟨g, 0, none⟩) n c) (hs : a.eval s = .slice (some ad) m c') (hrow : hasRow w g n) (hr0 : rowAt w g = vals k n h0) (hr : reads w (some ad) m k h)
    (hK : ∀ w', hasRow w' g n → rowAt w' g = vals k n (fun j => if j < m then h j else h0 j) → w.grownBy w' (some g) → K (a.put o.dst (goInt m)) w') : if Region.wanted o (yielded ops a.tmps) = true then Oper.wp P o a w K Q else E := by
  have hw : Region.wanted o (yielded ops a.tmps) = true := by simp [Region.wanted, hgd]
  rw [if_pos hw]
  have hrow0 := hrow
  obtain ⟨cur, t, hg, hn⟩ := hrow
  have hcur : cur = vals k n h0 := by rw [← hr0]; unfold rowAt; rw [hg]
  have e2 : (vals k m h).toList.length = m := by simp [vals_size]
  have e1 : (cur.toList.take 0 ++ (vals k m h).toList ++ cur.toList.drop (0 + (vals k m h).toList.length)).toArray = vals k n (fun j => if j < m then h j else h0 j) := by
    rw [e2, hcur]
    apply Array.ext_getElem?
    intro j
    simp only [List.take_zero, List.nil_append, Nat.zero_add, List.getElem?_toArray, List.getElem?_append, e2, List.getElem?_drop, Array.getElem?_toList]
    by_cases hj : j < m
    · rw [if_pos hj, vals_get? _ _ _ _ hj, vals_get? _ _ _ _ (by omega), if_pos hj]
    · rw [if_neg hj]
      by_cases hjn : j < n
      · rw [vals_get? _ _ _ _ (by omega), vals_get? _ _ _ _ hjn, if_neg hj, show m + (j - m) = j by omega]
      · rw [vals_get?_none _ _ _ _ (by omega), vals_get?_none _ _ _ _ (by omega)]
  have hrun := run_copy_row (P := P) w T sT o.type e g 0 n c ad m c' cur t (vals k m h).toList hu hsz hg (by simp [vals_size, Nat.min_eq_left hmn]) (reads_news hr) (by simp [vals_size, hn, hmn]) vals_one
  rw [e1, e2] at hrun
  obtain ⟨q1, q2, q3⟩ := row_setRow hrow0 (vals k n (fun j => if j < m then h j else h0 j)) (vals_size _ _ _)
  unfold Oper.wp
  simp [execOp, ho, resolve, invoke, builtin, hd, hs, hrun, Result.andThen]
  exact hK _ q1 q2 q3
/-- what a round of the schedule's loop reads, through whatever a call has laid -/
theorem keep4 {W W' : World} {g t0 t1 t2 t3 : Nat} {x0 x1 x2 x3 : Value} {w : World} (h : Below w.heap.size w W ∧ W.cell? ⟨g, t0, none⟩ = some x0 ∧ W.cell? ⟨g, t1, none⟩ = some x1 ∧ W.cell? ⟨g, t2, none⟩ = some x2 ∧ W.cell? ⟨g, t3, none⟩ = some x3)
    (hb : Below W.heap.size W W') : Below w.heap.size w W' ∧ W'.cell? ⟨g, t0, none⟩ = some x0 ∧ W'.cell? ⟨g, t1, none⟩ = some x1 ∧ W'.cell? ⟨g, t2, none⟩ = some x2 ∧ W'.cell? ⟨g, t3, none⟩ = some x3 := by
  obtain ⟨h0, h1, h2, h3, h4⟩ := h
  refine ⟨bl_call h0 hb, ?_, ?_, ?_, ?_⟩
  · rw [hb.cell (p := ⟨g, t0, none⟩) (cell_lt h1)]; exact h1
  · rw [hb.cell (p := ⟨g, t1, none⟩) (cell_lt h2)]; exact h2
  · rw [hb.cell (p := ⟨g, t2, none⟩) (cell_lt h3)]; exact h3
  · rw [hb.cell (p := ⟨g, t3, none⟩) (cell_lt h4)]; exact h4
theorem goInt16 : goInt ((16 : Nat) : Int) = .int .i64 16 := rfl
theorem cell_setCell_ne {W : World} {g u t : Nat} {x : Value} (hx : W.cell? ⟨g, u, none⟩ = some x) (hu : u ≠ t) (v : Value) : (W.setCell ⟨g, t, none⟩ v).cell? ⟨g, u, none⟩ = some x := by
  exact (World.cell?_setCell_other W _ _ v (fun e => hu (by injection e with _ e2; exact e2.symm))).trans hx
theorem keep4c {W : World} {t t0 t1 t2 t3 : Nat} {x0 x1 x2 x3 : Value} {w : World} (h : Below w.heap.size w W ∧ W.cell? ⟨w.heap.size + 1, t0, none⟩ = some x0 ∧ W.cell? ⟨w.heap.size + 1, t1, none⟩ = some x1 ∧ W.cell? ⟨w.heap.size + 1, t2, none⟩ = some x2 ∧ W.cell? ⟨w.heap.size + 1, t3, none⟩ = some x3)
    (h0 : t0 ≠ t) (h1 : t1 ≠ t) (h2 : t2 ≠ t) (h3 : t3 ≠ t) (v : Value) : Below w.heap.size w (W.setCell ⟨w.heap.size + 1, t, none⟩ v) ∧ (W.setCell ⟨w.heap.size + 1, t, none⟩ v).cell? ⟨w.heap.size + 1, t0, none⟩ = some x0 ∧ (W.setCell ⟨w.heap.size + 1, t, none⟩ v).cell? ⟨w.heap.size + 1, t1, none⟩ = some x1 ∧ (W.setCell ⟨w.heap.size + 1, t, none⟩ v).cell? ⟨w.heap.size + 1, t2, none⟩ = some x2 ∧ (W.setCell ⟨w.heap.size + 1, t, none⟩ v).cell? ⟨w.heap.size + 1, t3, none⟩ = some x3 := by
  obtain ⟨hb, c0, c1, c2, c3⟩ := h
  have hk : ∀ u x, u ≠ t → W.cell? ⟨w.heap.size + 1, u, none⟩ = some x → (W.setCell ⟨w.heap.size + 1, t, none⟩ v).cell? ⟨w.heap.size + 1, u, none⟩ = some x := fun u x hu hx => by
    exact cell_setCell_ne hx hu v
  exact ⟨hb.trans (below_own (g := w.heap.size + 1) (by rw [Sort.setCell_eq]; exact grownBy_mapBlock _ _ _) (by omega) hb.size), hk _ _ h0 c0, hk _ _ h1 c1, hk _ _ h2 c2, hk _ _ h3 c3⟩
set_option maxRecDepth 100000 in
set_option maxHeartbeats 4000000 in
theorem sched_yes_w (a : Option Addr) (cap : Nat) (hcap : 64 ≤ cap) (f : Nat → Int) (w : World) (hr : reads w a 64 .u8 f) (hf : ∀ j, j < 64 → 0 ≤ f j ∧ f j < 256) (hg : Tabs32 w) :
    Calls Tryd.prog 8 #[.slice a 64 cap] w fun e w' => e = .returned (.tuple #[.agg (vals .u32 64 (fun j => (sched32 (word32 f) j : Int))), .bool true]) ∧ Below w.heap.size w w' := by
  have HR := Lib.hid hr
  have HF := Lib.hid hf
  have HG := Lib.hid hg
  clear hr hf hg
  obtain ⟨m, hM⟩ : ∃ m, Hid (m = word32 f) := ⟨_, Lib.hid rfl⟩
  rw [← hM.out]
  have hz := zero64w
  have hzv := zv64w
  have hat : ∀ (W : World) (a : Option Addr) (c : Nat), (Instr.arrayAt 25 (.slice a 64 c)).run Tryd.prog W = .ok (.pointer a) W := fun W a c => run_arrayAt (P := Tryd.prog) W 25 _ 64 a 64 c Tryd.underlying25 (Nat.le_refl _)
  go_enter Tryd.func8, Tryd.ntmps8
  go_wp2_with fail
  clear hz hzv
  have q1 : hasRow ((w.alloc (.cells (vals .u32 64 (fun _ => 0)) 25)).alloc (.cells (vals .u32 64 (fun _ => 0)) 25)) w.heap.size 64 := by
    rw [hasRow_past _ _ _ _ (by simp)]
    exact hasRow_at _ _ _ _ _ rfl (vals_size _ _ _)
  have q2 : hasRow ((w.alloc (.cells (vals .u32 64 (fun _ => 0)) 25)).alloc (.cells (vals .u32 64 (fun _ => 0)) 25)) (w.heap.size + 1) 64 ∧ rowAt ((w.alloc (.cells (vals .u32 64 (fun _ => 0)) 25)).alloc (.cells (vals .u32 64 (fun _ => 0)) 25)) (w.heap.size + 1) = vals .u32 64 (fun _ => 0) := ⟨hasRow_at _ _ _ _ _ (by simp) (vals_size _ _ _), rowAt_at _ _ _ _ (by simp)⟩
  have q3 : Below w.heap.size w ((w.alloc (.cells (vals .u32 64 (fun _ => 0)) 25)).alloc (.cells (vals .u32 64 (fun _ => 0)) 25)) := bl_alloc (bl_alloc (bl_refl w))
  have q4 : ((w.alloc (.cells (vals .u32 64 (fun _ => 0)) 25)).alloc (.cells (vals .u32 64 (fun _ => 0)) 25)).heap.size = w.heap.size + 2 := by simp
  generalize (w.alloc (.cells (vals .u32 64 (fun _ => 0)) 25)).alloc (.cells (vals .u32 64 (fun _ => 0)) 25) = W2 at q1 q2 q3 q4 ⊢
  have Q1 : Hid (hasRow W2.drew w.heap.size 64) := Lib.hid q1
  have Q2 : Hid (hasRow W2.drew (w.heap.size + 1) 64 ∧ rowAt W2.drew (w.heap.size + 1) = vals .u32 64 (fun _ => 0)) := Lib.hid q2
  have Q3 := Lib.hid q3.drew
  have Q4 : Hid (W2.drew.heap.size = w.heap.size + 2) := Lib.hid q4
  clear q1 q2 q3 q4
  have CL : Hid (Calls Tryd.prog 14 #[.slice a 64 cap] W2.drew fun e w' => ∃ v, e = .returned v ∧ owns w' W2.drew.heap.size 24 .u32 v 16 (fun j => beN f (j * 4) 4) ∧ Below W2.drew.heap.size W2.drew w') := Lib.hid (lbig32_w a 64 cap f _ (by omega) hcap (reads_below (Nat.le_refl _) Q3.out HR.out) HF.out)
  go_region_held3 (fun W => Below w.heap.size w W) (first | assumption | exact Q3.out | exact Q5.out | exact K3.out) (first | (go_at_call 14; (with_reducible refine CL.out.mono ?_); rintro e w3 ⟨v, rfl, ho, hb⟩; obtain ⟨g3, c3, rfl, _, hg3, _, _⟩ := owns_at ho (by decide); obtain ⟨_, _, e2, _, _, hr3⟩ := owns_reads ho; cases e2; have R3 := Lib.hid hr3; have Q5 := Lib.hid (bl_call Q3.out hb); have Q6 := Lib.hid (hasRow_below (Nat.le_refl _) hb Q1.out); have Q7 := Lib.hid (row_below hb Q2.out); clear hb ho hr3) | (refine step_copy_head Tryd.underlying28 (by kernel_rfl) rfl (.tmp 10) (.tmp 12) rfl (m := 16) (n := 64) (by omega) rfl rfl Q7.out.1 Q7.out.2 R3.out ?_; intro w4 k1 k2 k3; rw [goInt16]; have K1 := Lib.hid (hasRow_grown k3 (by omega) Q6.out); have K2 := Lib.hid (And.intro k1 k2); have K3 := Lib.hid (Q5.out.trans (below_own k3 (by omega) Q5.out.size)); clear k1 k2 k3))
  clear CL R3 Q1 Q2 Q3 Q4 Q5 Q6 Q7 hat
  have hm : ∀ j, j < 16 → beN f (j * 4) 4 = (word32 f j : Int) ∧ word32 f j < 4294967296 := fun j hj => word32_is HF.out (by omega)
  have HS := Lib.hid (fun t => sched32_lt (word32 f) (fun j hj => (hm j hj).2) t)
  have K4 : Hid (rowAt w4 (w.heap.size + 1) = vals .u32 64 (fun j => if j < 16 then (sched32 (word32 f) j : Int) else 0)) := Lib.hid (by
    rw [K2.out.2]
    refine vals_ext _ _ fun j hj => ?_
    by_cases h : j < 16
    · simp only [if_pos h]; rw [sched32_lo _ h]; exact (hm j h).1
    · simp only [if_neg h])
  have K5 := Lib.hid (And.intro K2.out.1 K4.out)
  clear K2 K4 hm HF
  rw [← hM.out] at HS K5
  go_wp2
  go_loopw [5] (fun i wr => ∃ t : Nat, 16 ≤ t ∧ t ≤ 64 ∧ i = .int .i64 t ∧ Hid (hasRow wr w.heap.size 64) ∧ Hid (hasRow wr (w.heap.size + 1) 64 ∧ rowAt wr (w.heap.size + 1) = vals .u32 64 (fun j => if j < t then (sched32 m j : Int) else 0)) ∧ Hid (Below w.heap.size w wr)) (fun i _ => 64 - (intOf i).toNat)
  case atStart => exact ⟨16, by omega, by omega, rfl, K1, K5, K3⟩
  case round =>
    obtain ⟨t, ht1, ht2, rfl, R0, R1, RB⟩ := hrel
    by_cases hlt : t < 64
    · obtain ⟨u2, e2⟩ : ∃ u2, t = u2 + 2 := ⟨t - 2, by omega⟩
      obtain ⟨u7, e7⟩ : ∃ u7, t = u7 + 7 := ⟨t - 7, by omega⟩
      obtain ⟨u15, e15⟩ : ∃ u15, t = u15 + 15 := ⟨t - 15, by omega⟩
      obtain ⟨u16, e16⟩ : ∃ u16, t = u16 + 16 := ⟨t - 16, by omega⟩
      have w2 : IntKind.i64.wrap ((t : Int) - 2) = (u2 : Int) := by rw [IntKind.wrap_i64]; omega
      have w7 : IntKind.i64.wrap ((t : Int) - 7) = (u7 : Int) := by rw [IntKind.wrap_i64]; omega
      have w15 : IntKind.i64.wrap ((t : Int) - 15) = (u15 : Int) := by rw [IntKind.wrap_i64]; omega
      have w16 : IntKind.i64.wrap ((t : Int) - 16) = (u16 : Int) := by rw [IntKind.wrap_i64]; omega
      have b0 : (0 : Int) ≤ (t : Int) ∧ (t : Int) < 64 := by omega
      have b2 : (0 : Int) ≤ (u2 : Int) ∧ (u2 : Int) < 64 := by omega
      have b7 : (0 : Int) ≤ (u7 : Int) ∧ (u7 : Int) < 64 := by omega
      have b15 : (0 : Int) ≤ (u15 : Int) ∧ (u15 : Int) < 64 := by omega
      have b16 : (0 : Int) ≤ (u16 : Int) ∧ (u16 : Int) < 64 := by omega
      obtain ⟨x2, hx2⟩ : ∃ x, Hid (x = sched32 m u2) := ⟨_, Lib.hid rfl⟩
      obtain ⟨x7, hx7⟩ : ∃ x, Hid (x = sched32 m u7) := ⟨_, Lib.hid rfl⟩
      obtain ⟨x15, hx15⟩ : ∃ x, Hid (x = sched32 m u15) := ⟨_, Lib.hid rfl⟩
      obtain ⟨x16, hx16⟩ : ∃ x, Hid (x = sched32 m u16) := ⟨_, Lib.hid rfl⟩
      obtain ⟨s1, hs1⟩ : ∃ x, Hid (x = smallS32 1 x2) := ⟨_, Lib.hid rfl⟩
      obtain ⟨s0, hs0⟩ : ∃ x, Hid (x = smallS32 0 x15) := ⟨_, Lib.hid rfl⟩
      obtain ⟨y, hy⟩ : ∃ x, Hid (x = sched32 m t) := ⟨_, Lib.hid rfl⟩
      have cf : ∀ u, u < t → wr.drew.cell? ⟨w.heap.size + 1, u, none⟩ = some (.int .u32 (sched32 m u)) := fun u hu => by
        have h := (cell_of_hasRow R1.out.1 R1.out.2 (show u < 64 by omega)).1
        rw [if_pos hu] at h
        exact h
      have c2 := cf u2 (by omega)
      have c7 := cf u7 (by omega)
      have c15 := cf u15 (by omega)
      have c16 := cf u16 (by omega)
      rw [← hx2.out] at c2
      rw [← hx7.out] at c7
      rw [← hx15.out] at c15
      rw [← hx16.out] at c16
      have RB1 : Hid (Below w.heap.size w wr.drew) := Lib.hid RB.out.drew
      have RR0 : Hid (hasRow wr.drew w.heap.size 64) := Lib.hid R0.out
      have RR1 : Hid (hasRow wr.drew (w.heap.size + 1) 64 ∧ rowAt wr.drew (w.heap.size + 1) = vals .u32 64 (fun j => if j < t then (sched32 m j : Int) else 0)) := Lib.hid R1.out
      have S0 := Lib.hid (And.intro RB1.out (And.intro c2 (And.intro c7 (And.intro c15 c16))))
      have C1 : Hid (∀ W, Tabs32 W → Calls Tryd.prog 16 #[.int .i64 1, .int .u32 x2] W fun e w' => e = .returned (.int .u32 s1) ∧ Below W.heap.size W w') := Lib.hid (fun W h => by rw [hs1.out]; exact small32_w 1 x2 (by rw [hx2.out]; exact HS.out _) W h)
      have C0 : Hid (∀ W, Tabs32 W → Calls Tryd.prog 16 #[.int .i64 0, .int .u32 x15] W fun e w' => e = .returned (.int .u32 s0) ∧ Below W.heap.size W w') := Lib.hid (fun W h => by rw [hs0.out]; exact small32_w 0 x15 (by rw [hx15.out]; exact HS.out _) W h)
      have CS : Hid (∀ W p, reads W (some ⟨p, 0, none⟩) 4 .u32 (fun j => ([(s1 : Int), x7, s0, x16].getD j 0)) → Calls Tryd.prog 15 #[.slice (some ⟨p, 0, none⟩) 4 4] W fun e w' => e = .returned (.int .u32 y) ∧ W = w') := Lib.hid (fun W p h => by
        refine (sum32_w _ 4 4 _ W (by decide) h).mono ?_
        rintro e w' ⟨rfl, rfl⟩
        refine ⟨ret_int ?_, rfl⟩
        rw [hy.out, sched32_hi m ht1, show t - 2 = u2 by omega, show t - 7 = u7 by omega, show t - 15 = u15 by omega, show t - 16 = u16 by omega, ← hx2.out, ← hx7.out, ← hx15.out, ← hx16.out, ← hs1.out, ← hs0.out]
        simp only [sumN, List.getD_cons_zero, List.getD_cons_succ]
        omega)
      have u2n : u2 ≠ t := by omega
      have u7n : u7 ≠ t := by omega
      have u15n : u15 ≠ t := by omega
      have u16n : u16 ≠ t := by omega
      clear c2 c7 c15 c16 cf RB R0 R1 e2 e7 e15 e16 hx2 hx7 hx15 hx16 hs1 hs0
      go_wp2_with fail
      go_region_held3 (fun W => Below w.heap.size w W ∧ W.cell? ⟨w.heap.size + 1, u2, none⟩ = some (.int .u32 x2) ∧ W.cell? ⟨w.heap.size + 1, u7, none⟩ = some (.int .u32 x7) ∧ W.cell? ⟨w.heap.size + 1, u15, none⟩ = some (.int .u32 x15) ∧ W.cell? ⟨w.heap.size + 1, u16, none⟩ = some (.int .u32 x16)) (first | exact S0.out | exact S1.out | exact S2.out | exact S3.out | exact S4.out | assumption) (first | (go_at_call 16; (with_reducible refine (C1.out _ (HG.out.below (Nat.le_refl _) S0.out.1)).mono ?_); rintro e w1 ⟨rfl, hb⟩; have S1 := Lib.hid (keep4 S0.out hb); have U0 := Lib.hid (hasRow_below (Nat.le_refl _) hb RR0.out); have U1 := Lib.hid (row_below hb RR1.out); clear hb) | (go_at_call 16; (with_reducible refine (C0.out _ (HG.out.below (Nat.le_refl _) S1.out.1)).mono ?_); rintro e w2 ⟨rfl, hb⟩; have S2 := Lib.hid (keep4 S1.out hb); have V0 := Lib.hid (hasRow_below (Nat.le_refl _) hb U0.out); have V1 := Lib.hid (row_below hb U1.out); have RD := Lib.hid (reads_new w2 24 (fun j => ([(s1 : Int), x7, s0, x16].getD j 0)) (k := .u32) (n := 4) (cs := #[.int .u32 s1, .int .u32 x7, .int .u32 s0, .int .u32 x16]) rfl); have Y0 := Lib.hid (hasRow_below (Nat.le_refl _) (bl_alloc (o := .cells #[.int .u32 s1, .int .u32 x7, .int .u32 s0, .int .u32 x16] 24) (bl_refl _)) V0.out); have Y1 := Lib.hid (row_below (bl_alloc (o := .cells #[.int .u32 s1, .int .u32 x7, .int .u32 s0, .int .u32 x16] 24) (bl_refl _)) V1.out); have S3 := Lib.hid (keep4 S2.out (bl_alloc (o := .cells #[.int .u32 s1, .int .u32 x7, .int .u32 s0, .int .u32 x16] 24) (bl_refl _))); have Z1 := Lib.hid (row_setCell Y1.out.1 Y1.out.2 t (y : Int)); have Z0 := Lib.hid (hasRow_grown Z1.out.2.2 (show w.heap.size ≠ w.heap.size + 1 by omega) Y0.out); have S4 := Lib.hid (keep4c S3.out u2n u7n u15n u16n (Value.int .u32 (y : Int))); have ct1 := (cell_of_hasRow V1.out.1 V1.out.2 hlt).1; have ct2 := (cell_of_hasRow V1.out.1 V1.out.2 hlt).2; have ct3 := (cell_of_hasRow Y1.out.1 Y1.out.2 hlt).1; have ct4 := (cell_of_hasRow Y1.out.1 Y1.out.2 hlt).2; clear hb) | (go_at_call 15; (with_reducible refine (CS.out _ _ RD.out).mono ?_); rintro e w3 ⟨rfl, rfl⟩))
      have R2 : Hid (hasRow (World.setCell _ ⟨w.heap.size + 1, t, none⟩ (Value.int .u32 (y : Int))) (w.heap.size + 1) 64 ∧ rowAt (World.setCell _ ⟨w.heap.size + 1, t, none⟩ (Value.int .u32 (y : Int))) (w.heap.size + 1) = vals .u32 64 (fun j => if j < t + 1 then (sched32 m j : Int) else 0)) := Lib.hid ⟨Z1.out.1, by
        rw [Z1.out.2.1]
        refine vals_ext _ _ fun j _ => ?_
        by_cases hjt : j = t
        · subst hjt
          rw [if_pos rfl, if_pos (by omega), hy.out]
        · rw [if_neg hjt]
          by_cases hj : j < t
          · rw [if_pos hj, if_pos (by omega)]
          · rw [if_neg hj, if_neg (by omega)]⟩
      go_wp2
      go_roundw
      case rel => exact ⟨t + 1, by omega, by omega, by go_num, Z0, R2, Lib.hid S4.out.1⟩
      case measure => simp [intOf]; omega
    · obtain rfl : t = 64 := by omega
      have hr0 := R0.out
      have hr1 := R1.out.1
      have hr2 : rowAt wr (w.heap.size + 1) = vals .u32 64 (fun j => (sched32 m j : Int)) := by
        rw [R1.out.2]
        exact vals_ext _ _ fun j hj => if_pos hj
      go_wp2
      obtain ⟨r1, r2, r3⟩ := row_setRow hr0 (vals .u32 64 (fun j => (sched32 m j : Int))) (vals_size _ _ _)
      refine bodyPost_ret (results_row_tmp arr64w rfl _ w.heap.size rfl r1) rfl ⟨?_, ?_⟩
      · rw [r2]
        rfl
      · exact RB.out.trans (below_setRow' (Nat.le_refl _) _)
set_option maxRecDepth 100000 in
set_option maxHeartbeats 1000000 in
theorem sched_no_w (a : Option Addr) (n cap : Nat) (hn : n ≠ 64) (w : World) :
    Calls Tryd.prog 8 #[.slice a n cap] w fun e w' => e = .returned (.tuple #[.agg (vals .u32 64 (fun _ => 0)), .bool false]) ∧ Below w.heap.size w w' := by
  have hz := zero64w
  have hzv := zv64w
  have hne : ¬ (n : Int) = 64 := by omega
  have HB := Lib.hid (bl_refl w)
  go_enter Tryd.func8, Tryd.ntmps8
  go_wp2
  refine bodyPost_ret (results_row_tmp arr64w rfl _ w.heap.size rfl (by go_simp)) rfl ⟨?_, ?_⟩
  · go_simp
  · exact bl_alloc (bl_alloc HB.out)
end Go.Proofs.YtfnncplokombgaaDoor
