/- Layer 14 (lane): Of; the reference's Of. -/
import Derived.Test.YtohieonpegeokaaLane
import Derived.Laws.CopyOwn
import Derived.Deep.RegionHeld3
namespace Go.Proofs.Ytohieonpegeokaa
open Go.RowKit Go.Shelf
attribute [local go_sem] vals_set vals_get? vals_get vals_size rowAt_at rowAt_past hasRow_at hasRow_past run_loadRow run_storeCells_row setRow_at setRow_past rowAt_drewN hasRow_drewN setRow_drewN alloc_drewN setCell_drewN lt_s2 lt_s3 lt_s4 lt_s5 lt_s6
attribute [local go_sem ↓] loadRow_is

theorem zero25 : (#[Value.int IntKind.u64 0, Value.int IntKind.u64 0, Value.int IntKind.u64 0, Value.int IntKind.u64 0, Value.int IntKind.u64 0, Value.int IntKind.u64 0, Value.int IntKind.u64 0, Value.int IntKind.u64 0, Value.int IntKind.u64 0, Value.int IntKind.u64 0, Value.int IntKind.u64 0, Value.int IntKind.u64 0, Value.int IntKind.u64 0, Value.int IntKind.u64 0, Value.int IntKind.u64 0, Value.int IntKind.u64 0, Value.int IntKind.u64 0, Value.int IntKind.u64 0, Value.int IntKind.u64 0, Value.int IntKind.u64 0, Value.int IntKind.u64 0, Value.int IntKind.u64 0, Value.int IntKind.u64 0, Value.int IntKind.u64 0, Value.int IntKind.u64 0] : Array Value) = vals .u64 25 (fun _ => 0) := rfl
theorem hasRow_below {w w1 : World} {g n B : Nat} (hB : w.heap.size ≤ B) (hb : Below B w w1) (h : hasRow w g n) : hasRow w1 g n := by
  obtain ⟨c, t, hg, hn⟩ := h
  refine ⟨c, t, ?_, hn⟩
  rw [hb.block g (Nat.lt_of_lt_of_le (by
    rcases Nat.lt_or_ge g w.heap.size with hl | hl
    · exact hl
    · simp [hl] at hg) hB)]
  exact hg
theorem hasRow_grown {w w1 : World} {g g' n : Nat} (hg : w.grownBy w1 (some g)) (hne : g' ≠ g) (h : hasRow w g' n) : hasRow w1 g' n := by
  obtain ⟨c, t, hh, hn⟩ := h
  refine ⟨c, t, ?_, hn⟩
  rw [hg.block g' (by
    rcases Nat.lt_or_ge g' w.heap.size with hl | hl
    · exact hl
    · simp [hl] at hh) (fun e => hne (by cases e; rfl))]
  exact hh
theorem row_setRow {w : World} {g n : Nat} (h : hasRow w g n) (c : Array Value) (hc : c.size = n) : hasRow (w.setRow g c) g n ∧ rowAt (w.setRow g c) g = c ∧ w.grownBy (w.setRow g c) (some g) := by
  obtain ⟨c0, t, hg, hn⟩ := h
  have h1 : (w.setRow g c).heap[g]? = some (.cells c t (0, 0)) := setRow_heap w g c0 _ t _ hg
  refine ⟨⟨c, t, h1, hc⟩, ?_, ⟨rfl, rfl, rfl, by simp [World.setRow], fun k _ hk => setRow_other w g k _ (fun e => hk (by rw [e]))⟩⟩
  unfold rowAt
  rw [h1]
section
variable {P : Program} {ops : Array Oper} {rest : List Oper} {o : Oper} {a : Act} {w : World} {Q : Exit → Act → World → Prop}
/-- 'copy(arr[:], s)', as many as the array has -/
theorem copy_row {T sT e : TypeId} (hu : P.underlying T = some (.slice e)) (hsz : (P.info? e).map (·.size) = some 1) (hgd : o.guard = none) (d s : Operand) (ho : o.op = .call { callee := .builtin .copy, args := #[d, s], argTypes := #[T, sT] })
    {g n c c' : Nat} {ad : Addr} {k : IntKind} {h : Nat → Int} (hd : a.eval d = .slice (some ⟨g, 0, none⟩) n c) (hs : a.eval s = .slice (some ad) n c') (hrow : hasRow w g n) (hr : reads w (some ad) n k h)
    (hK : ∀ w', hasRow w' g n → rowAt w' g = vals k n h → w.grownBy w' (some g) → wpList P ops Q rest (a.put o.dst (goInt n)) w') : wpList P ops Q (o :: rest) a w := by
  have hrow0 := hrow
  obtain ⟨cur, t, hg, hn⟩ := hrow
  refine wpList_copy_own hgd d s T sT ho e hu hsz g 0 n c ad n c' hd hs cur t hg (vals k n h).toList (by simp [vals_size]) (reads_news hr) (by simp [vals_size, hn]) vals_one ?_
  have e1 : (cur.toList.take 0 ++ ((vals k n h).toList ++ cur.toList.drop (0 + (vals k n h).toList.length))).toArray = vals k n h := by
    rw [List.take_zero, List.nil_append, Nat.zero_add, Array.length_toList, vals_size, List.drop_of_length_le (by simp [hn]), List.append_nil]
  have e2 : (vals k n h).toList.length = n := by simp [vals_size]
  rw [e1, e2]
  obtain ⟨q1, q2, q3⟩ := row_setRow hrow0 (vals k n h) (vals_size _ _ _)
  exact hK _ q1 q2 q3
end
theorem step_copy_row {P : Program} {ops : Array Oper} {o : Oper} {a : Act} {w : World} {K : Act → World → Prop} {Q : Exit → Act → World → Prop} {E : Prop} {T sT e : TypeId} (hu : P.underlying T = some (.slice e)) (hsz : (P.info? e).map (·.size) = some 1) (hgd : o.guard = none) (d s : Operand) (ho : o.op = .call { callee := .builtin .copy, args := #[d, s], argTypes := #[T, sT] })
    {g n c c' : Nat} {ad : Addr} {k : IntKind} {h : Nat → Int} (hd : a.eval d = .slice (some ⟨g, 0, none⟩) n c) (hs : a.eval s = .slice (some ad) n c') (hrow : hasRow w g n) (hr : reads w (some ad) n k h)
    (hK : ∀ w', hasRow w' g n → rowAt w' g = vals k n h → w.grownBy w' (some g) → K (a.put o.dst (goInt n)) w') : if Region.wanted o (yielded ops a.tmps) = true then Oper.wp P o a w K Q else E := by
  have hw : Region.wanted o (yielded ops a.tmps) = true := by simp [Region.wanted, hgd]
  rw [if_pos hw]
  have hrow0 := hrow
  obtain ⟨cur, t, hg, hn⟩ := hrow
  have e1 : (cur.toList.take 0 ++ (vals k n h).toList ++ cur.toList.drop (0 + (vals k n h).toList.length)).toArray = vals k n h := by
    rw [List.take_zero, List.nil_append, Nat.zero_add, Array.length_toList, vals_size, List.drop_of_length_le (by simp [hn]), List.append_nil]
  have e2 : (vals k n h).toList.length = n := by simp [vals_size]
  have hrun := run_copy_row (P := P) w T sT o.type e g 0 n c ad n c' cur t (vals k n h).toList hu hsz hg (by simp [vals_size]) (reads_news hr) (by simp [vals_size, hn]) vals_one
  rw [e1, e2] at hrun
  obtain ⟨q1, q2, q3⟩ := row_setRow hrow0 (vals k n h) (vals_size _ _ _)
  unfold Oper.wp
  simp [execOp, ho, resolve, invoke, builtin, hd, hs, hrun, Result.andThen]
  exact hK _ q1 q2 q3
theorem below_setRow' {B g : Nat} {w : World} (hB : B ≤ g) (c : Array Value) : Below B w (w.setRow g c) :=
  (Below.refl B w).trans ⟨rfl, rfl, rfl, by simp [World.setRow], fun k hk => setRow_other w g k c (by omega)⟩

set_option maxRecDepth 100000 in
set_option maxHeartbeats 1000000 in
theorem lof_no_w (a : Option Addr) (n cap : Nat) (hn : n ≠ 200) (w : World) :
    Calls Try.prog 56 #[.slice a n cap] w fun e w' => e = .returned (.tuple #[.agg (vals .u64 25 (fun _ => 0)), .bool false]) ∧ Below w.heap.size w w' := by
  have hz := zero25
  have hne : ¬ (n : Int) = 200 := by omega
  have HB := Lib.hid (bl_refl w)
  go_enter Try.func56, Try.ntmps56
  go_wp2
  refine bodyPost_ret (results_row_tmp arr25 rfl _ w.heap.size rfl (by go_simp)) rfl ⟨?_, ?_⟩
  · go_simp
  · exact bl_alloc (bl_alloc HB.out)
set_option maxRecDepth 100000 in
set_option maxHeartbeats 1000000 in
theorem lof_yes_w (a : Option Addr) (cap : Nat) (f : Nat → Int) (w : World) (hr : reads w a 200 .u8 f) (hf : ∀ j, j < 200 → 0 ≤ f j ∧ f j < 256) :
    Calls Try.prog 56 #[.slice a 200 cap] w fun e w' => e = .returned (.tuple #[.agg (vals .u64 25 (fun j => leN f (j * 8) 8)), .bool true]) ∧ Below w.heap.size w w' := by
  have HR := Lib.hid hr
  have HF := Lib.hid hf
  clear hr hf
  have hz := zero25
  go_enter Try.func56, Try.ntmps56
  go_wp2_with fail
  clear hz
  have q1 : hasRow ((w.alloc (.cells (vals .u64 25 (fun _ => 0)) 56)).alloc (.cells (vals .u64 25 (fun _ => 0)) 56)) w.heap.size 25 := by
    rw [hasRow_past _ _ _ _ (by simp)]
    exact hasRow_at _ _ _ _ _ rfl (vals_size _ _ _)
  have q2 : hasRow ((w.alloc (.cells (vals .u64 25 (fun _ => 0)) 56)).alloc (.cells (vals .u64 25 (fun _ => 0)) 56)) (w.heap.size + 1) 25 := hasRow_at _ _ _ _ _ (by simp) (vals_size _ _ _)
  have q3 : Below w.heap.size w ((w.alloc (.cells (vals .u64 25 (fun _ => 0)) 56)).alloc (.cells (vals .u64 25 (fun _ => 0)) 56)) := bl_alloc (bl_alloc (bl_refl w))
  have q4 : ((w.alloc (.cells (vals .u64 25 (fun _ => 0)) 56)).alloc (.cells (vals .u64 25 (fun _ => 0)) 56)).heap.size = w.heap.size + 2 := by simp
  generalize (w.alloc (.cells (vals .u64 25 (fun _ => 0)) 56)).alloc (.cells (vals .u64 25 (fun _ => 0)) 56) = W2 at q1 q2 q3 q4 ⊢
  have Q1 := Lib.hid q1
  have Q2 := Lib.hid q2
  have Q3 := Lib.hid q3.drew
  have Q4 := Lib.hid q4
  clear q1 q2 q3 q4
  have CL : Hid (Calls Try.prog 44 #[.slice a 200 cap] W2.drew fun e w' => ∃ v, e = .returned v ∧ owns w' W2.drew.heap.size 29 .u64 v 25 (fun j => leN f (j * 8) 8) ∧ Below W2.drew.heap.size W2.drew w') := Lib.hid (little64_w a 200 cap f _ (by omega) (reads_below (Nat.le_refl _) Q3.out HR.out) HF.out)
  go_region_held3 (fun W => Below w.heap.size w W) (first | assumption | exact Q3.out | exact Q5.out | exact Q8.out) (first | (go_at_call 44; (with_reducible refine CL.out.mono ?_); rintro e w3 ⟨v, rfl, ho, hb⟩; obtain ⟨g3, c3, rfl, _, _, _, _⟩ := owns_at ho (by decide); obtain ⟨_, _, e2, _, _, hr3⟩ := owns_reads ho; cases e2; have R3 := Lib.hid hr3; have Q5 := Lib.hid (bl_call Q3.out hb); have Q6 := Lib.hid (hasRow_below (Nat.le_refl _) hb Q1.out); have Q7 := Lib.hid (hasRow_below (Nat.le_refl _) hb Q2.out); clear hb ho hr3) | (refine step_copy_row Try.underlying38 (by kernel_rfl) rfl (.tmp 9) (.tmp 11) rfl rfl rfl Q7.out R3.out ?_; intro w4 k1 k2 k3; have k4 := hasRow_grown k3 (by omega) Q6.out; have Q8 := Lib.hid (Q5.out.trans (below_own k3 (by omega) Q5.out.size)); clear k3))
  go_wp2
  obtain ⟨r1, r2, r3⟩ := row_setRow k4 (vals .u64 25 (fun j => leN f (j * 8) 8)) (vals_size _ _ _)
  refine bodyPost_ret (results_row_tmp arr25 rfl _ w.heap.size rfl r1) rfl ⟨?_, ?_⟩
  · rw [r2]
    rfl
  · exact Q8.out.trans (below_setRow' (Nat.le_refl _) _)
end Go.Proofs.Ytohieonpegeokaa
