/- Part 14 of 39 of what the proof of this law needs. Put together by a program out of the texts: PermB PermCo PermC. -/
import Derived.Test.YtdobjciaikofdaaGreatDoorTopShakeAll13
namespace Go.Proofs.YtdobjciaikofdaaGreatDoor
section
open Go.RowKit Go.Shelf Bt
attribute [local go_sem] vals_get? vals_get vals_size rowAt_at rowAt_past hasRow_at hasRow_past run_loadRow run_storeCells_row setRow_at setRow_past lt_s2 lt_s3 lt_s4 lt_s5 lt_s6
attribute [local go_sem ↓] loadRow_is
theorem rowP_below {w w1 : World} {g n : Nat} {c : Array Value} (hb : Below w.heap.size w w1) (h : hasRow w g n /\ rowAt w g = c) : hasRow w1 g n /\ rowAt w1 g = c := by
 refine ⟨hasRow_below (Nat.le_refl _) hb h.1, ?_⟩
 rw [<- h.2]
 unfold rowAt
 rw [hb.block _ (lt_of_hasRow h.1)]
theorem rowP_grown {w w1 : World} {g g' n : Nat} {c : Array Value} (hg : w.grownBy w1 (some g)) (hne : g' ≠ g) (h : hasRow w g' n /\ rowAt w g' = c) : hasRow w1 g' n /\ rowAt w1 g' = c := by
 refine ⟨hasRow_grown hg hne h.1, ?_⟩
 rw [<- h.2]
 unfold rowAt
 rw [hg.block g' (lt_of_hasRow h.1) (fun e => hne (by cases e; rfl))]
theorem arr5 : ArrT Tryz.prog 328 5 := ⟨_, _, Tryz.underlying328, by kernel_rfl⟩
theorem zero5 : (#[Value.int .u64 0, .int .u64 0, .int .u64 0, .int .u64 0, .int .u64 0] : Array Value) = vals .u64 5 (fun _ => 0) := rfl
def chiF (f : Nat -> Nat) (j : Nat) : Nat := f j ^^^ ((18446744073709551615 ^^^ f ((j + 1) % 5)) &&& f ((j + 2) % 5))
theorem chi_bits (x0 x1 x2 : Nat) (h0 : x0 < 18446744073709551616) (h1 : x1 < 18446744073709551616) (h2 : x2 < 18446744073709551616) :
  bits .xor .u64 (x0 : Int) (bits .and .u64 (bits .xor .u64 (if IntKind.u64.signed = true then -1 else IntKind.u64.max) (x1 : Int)) (x2 : Int)) = ((x0 ^^^ ((18446744073709551615 ^^^ x1) &&& x2) : Nat) : Int) := by
 have e : (if IntKind.u64.signed = true then -1 else IntKind.u64.max : Int) = ((18446744073709551615 : Nat) : Int) := rfl
 have l1 : 18446744073709551615 ^^^ x1 < 18446744073709551616 := Nat.xor_lt_two_pow (n := 64) (by decide) h1
 rw [e, u64_xor_nat _ _ (by decide) h1, u64_and_nat _ _ l1 h2, u64_xor_nat _ _ h0 (Nat.and_lt_two_pow (n := 64) _ h2)]
set_option maxRecDepth 100000 in
theorem chi_w (f : Nat -> Nat) (hf : ∀ j, j < 5 -> f j < 18446744073709551616) (w : World) :
  Calls Tryz.prog 276 #[.agg (vals .u64 5 (fun j => (f j : Int)))] w fun e w' => e = .returned (.agg (vals .u64 5 (fun j => (chiF f j : Int)))) /\ Below w.heap.size w w' := by
 have HF := Lib.hid hf
 clear hf
 have hz := zero5
 go_enter Tryz.func276, Tryz.ntmps276
 go_wp2_with fail
 clear hz
 have q0 : hasRow (((w.alloc (.cells (vals .u64 5 (fun j => (f j : Int))) 328)).alloc (.cells (vals .u64 5 (fun _ => 0)) 328)).alloc (.cells (vals .u64 5 (fun _ => 0)) 328)) w.heap.size 5 /\ rowAt (((w.alloc (.cells (vals .u64 5 (fun j => (f j : Int))) 328)).alloc (.cells (vals .u64 5 (fun _ => 0)) 328)).alloc (.cells (vals .u64 5 (fun _ => 0)) 328)) w.heap.size = vals .u64 5 (fun j => (f j : Int)) :=
  rowP_below (bl_alloc (bl_refl _)) (rowP_below (bl_alloc (bl_refl _)) ⟨hasRow_at w (vals .u64 5 (fun j => (f j : Int))) 328 w.heap.size 5 rfl (vals_size _ _ _), rowAt_at w (vals .u64 5 (fun j => (f j : Int))) 328 w.heap.size rfl⟩)
 have q1 : hasRow (((w.alloc (.cells (vals .u64 5 (fun j => (f j : Int))) 328)).alloc (.cells (vals .u64 5 (fun _ => 0)) 328)).alloc (.cells (vals .u64 5 (fun _ => 0)) 328)) (w.heap.size + 1) 5 := hasRow_below (Nat.le_refl _) (bl_alloc (bl_refl _)) (hasRow_at (w.alloc (.cells (vals .u64 5 (fun j => (f j : Int))) 328)) (vals .u64 5 (fun _ => 0)) 328 (w.heap.size + 1) 5 (by simp) (vals_size _ _ _))
 have q2 : hasRow (((w.alloc (.cells (vals .u64 5 (fun j => (f j : Int))) 328)).alloc (.cells (vals .u64 5 (fun _ => 0)) 328)).alloc (.cells (vals .u64 5 (fun _ => 0)) 328)) (w.heap.size + 1 + 1) 5 /\ rowAt (((w.alloc (.cells (vals .u64 5 (fun j => (f j : Int))) 328)).alloc (.cells (vals .u64 5 (fun _ => 0)) 328)).alloc (.cells (vals .u64 5 (fun _ => 0)) 328)) (w.heap.size + 1 + 1) = vals .u64 5 (fun j => if j < 0 then (chiF f j : Int) else 0) :=
  ⟨hasRow_at _ _ _ _ _ (by simp) (vals_size _ _ _), (rowAt_at _ _ _ _ (by simp)).trans (by simp)⟩
 have q3 : Below w.heap.size w (((w.alloc (.cells (vals .u64 5 (fun j => (f j : Int))) 328)).alloc (.cells (vals .u64 5 (fun _ => 0)) 328)).alloc (.cells (vals .u64 5 (fun _ => 0)) 328)) := bl_alloc (bl_alloc (bl_alloc (bl_refl w)))
 generalize ((w.alloc (.cells (vals .u64 5 (fun j => (f j : Int))) 328)).alloc (.cells (vals .u64 5 (fun _ => 0)) 328)).alloc (.cells (vals .u64 5 (fun _ => 0)) 328) = W2 at q0 q1 q2 q3 ⊢
 have HI := Lib.hid (And.intro q0 (And.intro q1 (And.intro q2 q3)))
 clear q0 q1 q2 q3
 go_loopw [5] (fun i' wr => ∃ k : Nat, k <= 5 /\ i' = .int .i64 k /\ Hid ((hasRow wr w.heap.size 5 /\ rowAt wr w.heap.size = vals .u64 5 (fun j => (f j : Int))) /\ hasRow wr (w.heap.size + 1) 5 /\ (hasRow wr (w.heap.size + 1 + 1) 5 /\ rowAt wr (w.heap.size + 1 + 1) = vals .u64 5 (fun j => if j < k then (chiF f j : Int) else 0)) /\ Below w.heap.size w wr)) (fun i' _ => 5 - (intOf i').toNat)
 case atStart => exact ⟨0, by omega, rfl, HI⟩
 case round =>
  clear HI
  obtain ⟨k, hk, rfl, HI⟩ := hrel
  by_cases hlt : k < 5
  ·obtain ⟨q0, q1, q2, q3⟩ := HI.out
   obtain ⟨m1, e1⟩ : ∃ m1, Hid (m1 = (k + 1) % 5) := ⟨_, Lib.hid rfl⟩
   obtain ⟨m2, e2⟩ : ∃ m2, Hid (m2 = (k + 2) % 5) := ⟨_, Lib.hid rfl⟩
   have l1 : m1 < 5 := by rw [e1.out]; omega
   have l2 : m2 < 5 := by rw [e2.out]; omega
   have t1 : (IntKind.i64.wrap ((k : Int) + 1)).tmod 5 = (m1 : Int) := by rw [IntKind.wrap_i64, Int.tmod_eq_emod_of_nonneg (by omega), e1.out]; omega
   have t2 : (IntKind.i64.wrap ((k : Int) + 2)).tmod 5 = (m2 : Int) := by rw [IntKind.wrap_i64, Int.tmod_eq_emod_of_nonneg (by omega), e2.out]; omega
   have li1 : (m1 : Int) < 5 := by omega
   have li2 : (m2 : Int) < 5 := by omega
   have c0 := (cell_of_hasRow q0.1 q0.2 hlt).1
   have c1 := (cell_of_hasRow q0.1 q0.2 l1).1
   have c2 := (cell_of_hasRow q0.1 q0.2 l2).1
   obtain ⟨c3, z3⟩ := cell_of_hasRow q2.1 q2.2 hlt
   obtain ⟨x0, y0⟩ : ∃ x, Hid (x = f k) := ⟨_, Lib.hid rfl⟩
   obtain ⟨x1, y1⟩ : ∃ x, Hid (x = f m1) := ⟨_, Lib.hid rfl⟩
   obtain ⟨x2, y2⟩ : ∃ x, Hid (x = f m2) := ⟨_, Lib.hid rfl⟩
   simp only [<- y0.out, <- y1.out, <- y2.out] at c0 c1 c2
   rw [if_neg (Nat.lt_irrefl k)] at c3
   clear q0 q1 q2 q3
   go_wp2_with fail
   refine region_tail 18 (by kernel_rfl) (by kernel_rfl) rfl ?_
   simp only [List.take_succ_cons, List.take_zero, List.drop_succ_cons, List.drop_zero]
   iterate 18 still_step
   refine wpStill_nil ?_
   go_wp2
   go_roundw
   case rel =>
    obtain ⟨q0, q1, q2, q3⟩ := HI.out
    have hx := chi_bits x0 x1 x2 (by rw [y0.out]; exact HF.out _ hlt) (by rw [y1.out]; exact HF.out _ l1) (by rw [y2.out]; exact HF.out _ l2)
    have hv : ((x0 ^^^ ((18446744073709551615 ^^^ x1) &&& x2) : Nat) : Int) = (chiF f k : Int) := by
     unfold chiF
     rw [y0.out, y1.out, y2.out, e1.out, e2.out]
    rw [hx, hv]
    obtain ⟨r1, r2, r3⟩ := row_setCell q2.1 q2.2 k (chiF f k : Int)
    have hb : Below w.heap.size w (wr.setCell ⟨w.heap.size + 1 + 1, k, none⟩ (.int .u64 (chiF f k : Int))) := q3.trans (below_own r3 (by omega) q3.size)
    have g0 := rowP_grown r3 (by omega) q0
    have g1 := hasRow_grown r3 (by omega) q1
    have r2' : rowAt (wr.setCell ⟨w.heap.size + 1 + 1, k, none⟩ (.int .u64 (chiF f k : Int))) (w.heap.size + 1 + 1) = vals .u64 5 (fun j => if j < k + 1 then (chiF f j : Int) else 0) := by
     rw [r2]
     congr 1
     funext j
     by_cases h : j = k
     ·subst h; rw [if_pos rfl, if_pos (Nat.lt_succ_self _)]
     ·rw [if_neg h]
      by_cases h2 : j < k
      ·rw [if_pos h2, if_pos (by omega)]
      ·rw [if_neg h2, if_neg (by omega)]
    exact ⟨k + 1, by omega, by go_num, Lib.hid ⟨g0, g1, ⟨r1, r2'⟩, bl_drew hb⟩⟩
   case measure => simp [intOf]; omega
  ·obtain rfl : k = 5 := by omega
   obtain ⟨q0, q1, q2, q3⟩ := HI.out
   have P3 := Lib.hid q3
   have e5 : (vals .u64 5 fun j => if j < 5 then (chiF f j : Int) else 0) = vals .u64 5 (fun j => (chiF f j : Int)) := rfl
   have q2' := q2.2.trans e5
   have qr := q2.1
   clear HI q0 q2 q3
   go_wp2
   obtain ⟨r1, r2, r3⟩ := row_setRow q1 (vals .u64 5 (fun j => (chiF f j : Int))) (vals_size _ _ _)
   refine bodyPost_ret (results_row arr5 rfl _ (w.heap.size + 1) rfl r1) rfl ⟨?_, ?_⟩
   ·rw [r2]
   ·exact P3.out.trans (below_setRow' (by omega) _)
end
section
open Go.RowKit Go.Shelf Bt
theorem step_copy_part {P : Program} {ops : Array Oper} {o : Oper} {a : Act} {w : World} {K : Act -> World -> Prop} {Q : Exit -> Act -> World -> Prop} {E : Prop} {T sT e : TypeId} (hu : P.underlying T = some (.slice e)) (hsz : (P.info? e).map (·.size) = some 1) (hgd : o.guard = none) (d s : Operand) (ho : o.op = .call { callee := .builtin .copy, args := #[d, s], argTypes := #[T, sT] })
  {g F L N c c' n : Nat} {ad : Addr} {k : IntKind} {f h : Nat -> Int} (hd : a.eval d = .slice (some ⟨g, F, none⟩) L c) (hs : a.eval s = .slice (some ad) N c') (hrow : hasRow w g n) (hcv : rowAt w g = vals k n f) (hr : reads w (some ad) N k h) (hNL : N <= L) (hFN : F + N <= n)
  (hK : ∀ w', hasRow w' g n -> rowAt w' g = vals k n (fun j => if F <= j /\ j < F + N then h (j - F) else f j) -> w.grownBy w' (some g) -> K (a.put o.dst (goInt N)) w') : if Region.wanted o (yielded ops a.tmps) = true then Oper.wp P o a w K Q else E := by
 have hw : Region.wanted o (yielded ops a.tmps) = true := by simp [Region.wanted, hgd]
 rw [if_pos hw]
 have hrow0 := hrow
 obtain ⟨cur, t, hg, hn⟩ := hrow
 have hcu : cur = vals k n f := by
  unfold rowAt at hcv
  rw [hg] at hcv
  exact hcv
 have e2 : (vals k N h).toList.length = N := by simp [vals_size]
 have hrun := run_copy_row (P := P) w T sT o.type e g F L c ad N c' cur t (vals k N h).toList hu hsz hg (by rw [e2]; exact (Nat.min_eq_left hNL).symm) (reads_news hr) (by rw [e2]; omega) vals_one
 rw [e2] at hrun
 have hcur : ∀ j, j < n -> cur[j]? = some (.int k (f j)) := by
  intro j hj
  rw [hcu]
  exact vals_get? k n f j hj
 obtain ⟨c2, hc2⟩ : ∃ c2, c2 = (cur.toList.take F ++ (vals k N h).toList ++ cur.toList.drop (F + N)).toArray := ⟨_, rfl⟩
 rw [<- hc2] at hrun
 have hl1 : (cur.toList.take F).length = F := by rw [List.length_take, Array.length_toList]; omega
 have hsize : c2.size = n := by
  rw [hc2]
  simp only [List.size_toArray, List.length_append, hl1, e2, List.length_drop, Array.length_toList]
  omega
 have hel : ∀ j, j < n -> c2[j]? = some (.int k (if F <= j /\ j < F + N then h (j - F) else f j)) := by
  intro j hj
  rw [hc2, List.getElem?_toArray]
  by_cases h1 : j < F
  ·rw [List.append_assoc, List.getElem?_append_left (by rw [hl1]; exact h1), List.getElem?_take, if_pos h1, Array.getElem?_toList, hcur j hj, if_neg (by omega)]
  ·by_cases h2 : j < F + N
   ·rw [List.append_assoc, List.getElem?_append_right (by rw [hl1]; omega), hl1, List.getElem?_append_left (by rw [e2]; omega), Array.getElem?_toList, vals_get? k N h (j - F) (by omega), if_pos (by omega)]
   ·rw [List.getElem?_append_right (by rw [List.length_append, hl1, e2]; omega), List.length_append, hl1, e2, List.getElem?_drop, show F + N + (j - (F + N)) = j by omega, Array.getElem?_toList, hcur j hj, if_neg (by omega)]
 have hc3 : c2 = vals k n (fun j => if F <= j /\ j < F + N then h (j - F) else f j) := by
  apply Array.ext_getElem?
  intro j
  by_cases hj : j < n
  ·rw [hel j hj, vals_get? k n _ j hj]
  ·rw [Array.getElem?_eq_none (by omega), Array.getElem?_eq_none (by rw [vals_size]; omega)]
 obtain ⟨q1, q2, q3⟩ := row_setRow hrow0 c2 hsize
 unfold Oper.wp
 simp [execOp, ho, resolve, invoke, builtin, hd, hs, hrun, Result.andThen]
 exact hK _ q1 (q2.trans hc3) q3
end
section
open Go.RowKit Go.Shelf Bt
attribute [local go_sem] vals_get? vals_get vals_size rowAt_at rowAt_past hasRow_at hasRow_past run_loadRow run_storeCells_row setRow_at setRow_past lt_s2 lt_s3 lt_s4 lt_s5 lt_s6
attribute [local go_sem ↓] loadRow_is
theorem run_loadRow_at (P : Program) (W : World) (g o n : Nat) (k : IntKind) (f : Nat -> Int) (h : ∀ j, j < n -> W.cell? ⟨g, o + j, none⟩ = some (.int k (f j))) : (loadRow ⟨g, o, none⟩ n).run P W = .ok (vals k n f) W := by
 unfold loadRow
 have := run_loadCells (P := P) W ⟨g, o, none⟩ n (fun j => .int k (f j)) (fun j hj => by rw [Addr.add_lit]; exact h j hj)
 exact this
theorem sizeU64 (w : World) : (sizeOf 39).run Tryz.prog w = .ok 1 w := by kernel_rfl
theorem aggU64 (w : World) : (isAgg 39).run Tryz.prog w = .ok false w := by kernel_rfl
theorem index25 (f : Nat -> Int) (k : Nat) (hk : k < 25) (w : World) : (Instr.index 70 (.agg (vals .u64 25 f)) (.int .i64 k)).run Tryz.prog w = .ok (.int .u64 (f k)) w := by
 have hn : (0 : Int) <= (k : Int) /\ (k : Int) < ((25 : Nat) : Int) := by omega
 have hu : Tryz.prog.underlying 70 = some (.array 25 39) := by kernel_rfl
 have e : ∀ w, (part 39 (vals .u64 25 f) k).run Tryz.prog w = .ok (.int .u64 (f k)) w := fun w => by
  unfold part
  simp only [Sem.run_bind, aggU64, Result.andThen_ok, Bool.false_eq_true, if_false, vals_get? .u64 25 f k hk]
  rfl
 simp only [Instr.index, asIntOf, Sem.run_bind, run_underlying hu, Result.andThen_ok, sizeU64, Int.toNat_natCast, Nat.mul_one, e, if_pos hn, pure, Sem.run]
def parK (a : Nat -> Nat) : Nat -> Nat -> Nat
 | 0, _ => 0
 | k + 1, j => if j = k % 5 then parK a k j ^^^ a k else parK a k j
theorem parK_succ (a : Nat -> Nat) (k j : Nat) : parK a (k + 1) j = if j = k % 5 then parK a k j ^^^ a k else parK a k j := rfl
theorem parK_lt (a : Nat -> Nat) (ha : ∀ j, j < 25 -> a j < 18446744073709551616) : ∀ k, k <= 25 -> ∀ j, parK a k j < 18446744073709551616
 | 0, _, j => by simp [parK]
 | k + 1, hk, j => by
  unfold parK
  split
  ·exact Nat.xor_lt_two_pow (n := 64) (parK_lt a ha k (by omega) j) (ha k (by omega))
  ·exact parK_lt a ha k (by omega) j
def thetaF (a : Nat -> Nat) (i : Nat) : Nat := a i ^^^ (parK a 25 ((i + 4) % 5) ^^^ rotr 64 (parK a 25 ((i + 1) % 5)) 63)
theorem thetaF_lt (a : Nat -> Nat) (ha : ∀ j, j < 25 -> a j < 18446744073709551616) (i : Nat) (hi : i < 25) : thetaF a i < 18446744073709551616 :=
 Nat.xor_lt_two_pow (n := 64) (ha i hi) (Nat.xor_lt_two_pow (n := 64) (parK_lt a ha 25 (Nat.le_refl _) _) (rotr_lt 64 _ _))
def posF (t : Nat) : Nat := t / 5 + 5 * ((2 * (t % 5) + 3 * (t / 5)) % 5)
def rhoK (a : Nat -> Nat) : Nat -> Nat -> Nat
 | 0, _ => 0
 | k + 1, j => if j = posF k then rotr 64 (a k) ((-(offC k : Int)) % 64).toNat else rhoK a k j
theorem rhoK_succ (a : Nat -> Nat) (k j : Nat) : rhoK a (k + 1) j = if j = posF k then rotr 64 (a k) ((-(offC k : Int)) % 64).toNat else rhoK a k j := rfl
theorem rhoK_lt (a : Nat -> Nat) (ha : ∀ j, j < 25 -> a j < 18446744073709551616) : ∀ k, k <= 25 -> ∀ j, rhoK a k j < 18446744073709551616
 | 0, _, j => by simp [rhoK]
 | k + 1, hk, j => by
  rw [rhoK_succ]
  split
  ·exact rotr_lt 64 _ _
  ·exact rhoK_lt a ha k (by omega) j
def chiR (b : Nat -> Nat) (i : Nat) : Nat := chiF (fun j => b (i / 5 * 5 + j)) (i % 5)
def roundP (a : Nat -> Nat) (r : Nat) (i : Nat) : Nat := if i = 0 then chiR (rhoK (thetaF a) 25) 0 ^^^ rcC r else chiR (rhoK (thetaF a) 25) i
set_option maxRecDepth 100000 in
set_option maxHeartbeats 4000000 in
theorem roundP_w (a : Nat -> Nat) (ha : ∀ j, j < 25 -> a j < 18446744073709551616) (r : Nat) (hr : r < 24) (w : World) (ht : TabK w) :
  Calls Tryz.prog 237 #[.agg (vals .u64 25 (fun j => (a j : Int))), .int .i64 r] w fun e w' => e = .returned (.agg (vals .u64 25 (fun j => (roundP a r j : Int)))) /\ Below w.heap.size w w' := by
 have HA := Lib.hid ha
 have HT := Lib.hid ht
 clear ha ht
 have hz := zero5
 have hz2 := zero25
 go_enter Tryz.func237, Tryz.ntmps237
 go_wp2_with fail
 clear hz hz2
 have q0 : hasRow (((w.alloc (.cells (vals .u64 25 (fun j => (a j : Int))) 70)).alloc (.cells (vals .u64 25 (fun _ => 0)) 70)).alloc (.cells (vals .u64 5 (fun _ => 0)) 328)) w.heap.size 25 /\ rowAt (((w.alloc (.cells (vals .u64 25 (fun j => (a j : Int))) 70)).alloc (.cells (vals .u64 25 (fun _ => 0)) 70)).alloc (.cells (vals .u64 5 (fun _ => 0)) 328)) w.heap.size = vals .u64 25 (fun j => (a j : Int)) :=
  rowP_below (bl_alloc (bl_refl _)) (rowP_below (bl_alloc (bl_refl _)) ⟨hasRow_at w (vals .u64 25 (fun j => (a j : Int))) 70 w.heap.size 25 rfl (vals_size _ _ _), rowAt_at w (vals .u64 25 (fun j => (a j : Int))) 70 w.heap.size rfl⟩)
 have q1 : hasRow (((w.alloc (.cells (vals .u64 25 (fun j => (a j : Int))) 70)).alloc (.cells (vals .u64 25 (fun _ => 0)) 70)).alloc (.cells (vals .u64 5 (fun _ => 0)) 328)) (w.heap.size + 1) 25 := hasRow_below (Nat.le_refl _) (bl_alloc (bl_refl _)) (hasRow_at (w.alloc (.cells (vals .u64 25 (fun j => (a j : Int))) 70)) (vals .u64 25 (fun _ => 0)) 70 (w.heap.size + 1) 25 (by simp) (vals_size _ _ _))
 have q2 : hasRow (((w.alloc (.cells (vals .u64 25 (fun j => (a j : Int))) 70)).alloc (.cells (vals .u64 25 (fun _ => 0)) 70)).alloc (.cells (vals .u64 5 (fun _ => 0)) 328)) (w.heap.size + 1 + 1) 5 /\ rowAt (((w.alloc (.cells (vals .u64 25 (fun j => (a j : Int))) 70)).alloc (.cells (vals .u64 25 (fun _ => 0)) 70)).alloc (.cells (vals .u64 5 (fun _ => 0)) 328)) (w.heap.size + 1 + 1) = vals .u64 5 (fun j => (parK a 0 j : Int)) :=
  ⟨hasRow_at _ _ _ _ _ (by simp) (vals_size _ _ _), (rowAt_at _ _ _ _ (by simp)).trans (by simp [parK])⟩
 have q3 : Below w.heap.size w (((w.alloc (.cells (vals .u64 25 (fun j => (a j : Int))) 70)).alloc (.cells (vals .u64 25 (fun _ => 0)) 70)).alloc (.cells (vals .u64 5 (fun _ => 0)) 328)) := bl_alloc (bl_alloc (bl_alloc (bl_refl w)))
 generalize ((w.alloc (.cells (vals .u64 25 (fun j => (a j : Int))) 70)).alloc (.cells (vals .u64 25 (fun _ => 0)) 70)).alloc (.cells (vals .u64 5 (fun _ => 0)) 328) = W2 at q0 q1 q2 q3 ⊢
 have HI := Lib.hid (And.intro q0 (And.intro q1 (And.intro q2 q3)))
 clear q0 q1 q2 q3
 go_loopw [15] (fun i' wr => ∃ k : Nat, k <= 25 /\ i' = .int .i64 k /\ Hid ((hasRow wr w.heap.size 25 /\ rowAt wr w.heap.size = vals .u64 25 (fun j => (a j : Int))) /\ hasRow wr (w.heap.size + 1) 25 /\ (hasRow wr (w.heap.size + 1 + 1) 5 /\ rowAt wr (w.heap.size + 1 + 1) = vals .u64 5 (fun j => (parK a k j : Int))) /\ Below w.heap.size w wr)) (fun i' _ => 25 - (intOf i').toNat)
 case atStart => exact ⟨0, by omega, rfl, HI⟩
 case round =>
  clear HI
  obtain ⟨k, hk, rfl, HI⟩ := hrel
  by_cases hlt : k < 25
  ·obtain ⟨q0, q1, q2, q3⟩ := HI.out
   obtain ⟨m1, e1⟩ : ∃ m1, Hid (m1 = k % 5) := ⟨_, Lib.hid rfl⟩
   have l1 : m1 < 5 := by rw [e1.out]; omega
   have t1 : (k : Int).tmod 5 = (m1 : Int) := by rw [Int.tmod_eq_emod_of_nonneg (by omega), e1.out]; omega
   have li1 : (m1 : Int) < 5 := by omega
   obtain ⟨c2, z2⟩ := cell_of_hasRow q2.1 q2.2 l1
   obtain ⟨x0, y0⟩ : ∃ x, Hid (x = a k) := ⟨_, Lib.hid rfl⟩
   obtain ⟨x1, y1⟩ : ∃ x, Hid (x = parK a k m1) := ⟨_, Lib.hid rfl⟩
   simp only [<- y1.out] at c2
   clear q0 q1 q2 q3
   have ix : ∀ w, (Instr.index 70 (.agg (vals .u64 25 fun j => (a j : Int))) (.int .i64 k)).run Tryz.prog w = .ok (.int .u64 x0) w := fun w => by rw [y0.out]; exact index25 _ k hlt w
   go_wp2
   go_roundw
   case rel =>
    obtain ⟨q0, q1, q2, q3⟩ := HI.out
    have hx : bits .xor .u64 (x1 : Int) (x0 : Int) = (parK a k m1 ^^^ a k : Nat) := by
     rw [u64_xor_nat _ _ (by rw [y1.out]; exact parK_lt a HA.out k hk _) (by rw [y0.out]; exact HA.out k hlt), y1.out, y0.out]
    rw [hx]
    obtain ⟨r1, r2, r3⟩ := row_setCell q2.1 q2.2 m1 ((parK a k m1 ^^^ a k : Nat) : Int)
    have g0 := rowP_grown r3 (by omega) q0
    have g1 := hasRow_grown r3 (by omega) q1
    have hb := q3.trans (below_own r3 (by omega) q3.size)
    have r2' := r2.trans (show _ = vals .u64 5 (fun j => (parK a (k + 1) j : Int)) by
     congr 1
     funext j
     rw [e1.out, parK_succ]
     split
     ·rename_i h; rw [h]
     ·rfl)
    exact ⟨k + 1, by omega, by go_num, Lib.hid ⟨g0, g1, ⟨r1, r2'⟩, hb⟩⟩
   case measure => simp [intOf]; omega
  ·obtain rfl : k = 25 := by omega
   have HB : Hid ((hasRow wr w.heap.size 25 /\ rowAt wr w.heap.size = vals .u64 25 (fun j => if j < 0 then (thetaF a j : Int) else (a j : Int))) /\ hasRow wr (w.heap.size + 1) 25 /\ (hasRow wr (w.heap.size + 1 + 1) 5 /\ rowAt wr (w.heap.size + 1 + 1) = vals .u64 5 (fun j => (parK a 25 j : Int))) /\ Below w.heap.size w wr) := by
    obtain ⟨q0, q1, q2, q3⟩ := HI.out
    exact Lib.hid ⟨⟨q0.1, q0.2.trans (by simp)⟩, q1, q2, q3⟩
   clear HI
   obtain ⟨p, hp⟩ : ∃ p : Nat -> Nat, Hid (p = parK a 25) := ⟨_, Lib.hid rfl⟩
   have HP : Hid (∀ j, p j < 18446744073709551616) := Lib.hid (fun j => by rw [hp.out]; exact parK_lt a HA.out 25 (Nat.le_refl _) j)
   rw [<- hp.out] at HB
   go_wp2
   go_loopw [27] (fun i' wr => ∃ k : Nat, k <= 25 /\ i' = .int .i64 k /\ Hid ((hasRow wr w.heap.size 25 /\ rowAt wr w.heap.size = vals .u64 25 (fun j => if j < k then (thetaF a j : Int) else (a j : Int))) /\ hasRow wr (w.heap.size + 1) 25 /\ (hasRow wr (w.heap.size + 1 + 1) 5 /\ rowAt wr (w.heap.size + 1 + 1) = vals .u64 5 (fun j => (p j : Int))) /\ Below w.heap.size w wr)) (fun i' _ => 25 - (intOf i').toNat)
   case atStart => exact ⟨0, by omega, rfl, HB⟩
   case round =>
    clear HB
    obtain ⟨k, hk, rfl, HI⟩ := hrel
    by_cases hlt : k < 25
    ·obtain ⟨q0, q1, q2, q3⟩ := HI.out
     obtain ⟨m1, e1⟩ : ∃ m1, Hid (m1 = (k + 4) % 5) := ⟨_, Lib.hid rfl⟩
     obtain ⟨m2, e2⟩ : ∃ m2, Hid (m2 = (k + 1) % 5) := ⟨_, Lib.hid rfl⟩
     have l1 : m1 < 5 := by rw [e1.out]; omega
     have l2 : m2 < 5 := by rw [e2.out]; omega
     have t1 : (IntKind.i64.wrap ((k : Int) + 4)).tmod 5 = (m1 : Int) := by rw [IntKind.wrap_i64, Int.tmod_eq_emod_of_nonneg (by omega), e1.out]; omega
     have t2 : (IntKind.i64.wrap ((k : Int) + 1)).tmod 5 = (m2 : Int) := by rw [IntKind.wrap_i64, Int.tmod_eq_emod_of_nonneg (by omega), e2.out]; omega
     have li1 : (m1 : Int) < 5 := by omega
     have li2 : (m2 : Int) < 5 := by omega
     obtain ⟨c0, z0⟩ := cell_of_hasRow q0.1 q0.2 hlt
     have c1 := (cell_of_hasRow q2.1 q2.2 l1).1
     have c2 := (cell_of_hasRow q2.1 q2.2 l2).1
     rw [if_neg (Nat.lt_irrefl k)] at c0
     obtain ⟨x0, y0⟩ : ∃ x, Hid (x = a k) := ⟨_, Lib.hid rfl⟩
     obtain ⟨x1, y1⟩ : ∃ x, Hid (x = p m1) := ⟨_, Lib.hid rfl⟩
     obtain ⟨x2, y2⟩ : ∃ x, Hid (x = p m2) := ⟨_, Lib.hid rfl⟩
     obtain ⟨x3, y3⟩ : ∃ x, Hid (x = rotr 64 x2 63) := ⟨_, Lib.hid rfl⟩
     simp only [<- y0.out, <- y1.out, <- y2.out] at c0 c1 c2
     have CT : Hid (∀ W, Calls Tryz.prog 274 #[.int .u64 x2, .int .i64 63] W fun e w' => e = .returned (.int .u64 x3) /\ W = w') := Lib.hid (fun W => by rw [y3.out]; exact turn64_w x2 (by rw [y2.out]; exact HP.out _) 63 W)
     clear q0 q1 q2 q3
     go_wp2_with fail
     refine region_tail 17 (by kernel_rfl) (by kernel_rfl) rfl ?_
     simp only [List.take_succ_cons, List.take_zero, List.drop_succ_cons, List.drop_zero]
     iterate 13 still_step
     still_call (calls_still (CT.out _))
     iterate 3 still_step
     refine wpStill_nil ?_
     go_wp2
     go_roundw
     case rel =>
      obtain ⟨q0, q1, q2, q3⟩ := HI.out
      have b0 : x0 < 18446744073709551616 := by rw [y0.out]; exact HA.out k hlt
      have b1 : x1 < 18446744073709551616 := by rw [y1.out]; exact HP.out _
      have b3 : x3 < 18446744073709551616 := by rw [y3.out]; exact rotr_lt 64 _ _
      have hx : bits .xor .u64 (x0 : Int) (bits .xor .u64 (x1 : Int) (x3 : Int)) = (thetaF a k : Nat) := by
       rw [u64_xor_nat _ _ b1 b3, u64_xor_nat _ _ b0 (Nat.xor_lt_two_pow (n := 64) b1 b3)]
       unfold thetaF
       rw [y3.out, y2.out, y1.out, y0.out, e1.out, e2.out, hp.out]
      rw [hx]
      obtain ⟨r1, r2, r3⟩ := row_setCell q0.1 q0.2 k ((thetaF a k : Nat) : Int)
      have g1 := hasRow_grown r3 (by omega) q1
      have g2 := rowP_grown r3 (by omega) q2
      have hb := q3.trans (below_own r3 (by omega) q3.size)
      have r2' := r2.trans (show _ = vals .u64 25 (fun j => if j < k + 1 then (thetaF a j : Int) else (a j : Int)) by
       congr 1
       funext j
       by_cases h : j = k
       ·subst h; rw [if_pos rfl, if_pos (Nat.lt_succ_self _)]
       ·rw [if_neg h]
        by_cases h2 : j < k
        ·rw [if_pos h2, if_pos (by omega)]
        ·rw [if_neg h2, if_neg (by omega)])
      refine ⟨_, _, _, _, _, _, _, _, _, _, _, _, _, _, _, _, _, _, _, _, _, _, ?rr, rfl⟩
      exact ⟨k + 1, by omega, by go_num, Lib.hid ⟨⟨r1, r2'⟩, g1, g2, bl_drew hb⟩⟩
     case measure => simp [intOf]; omega
    ·obtain rfl : k = 25 := by omega
     obtain ⟨g, hg⟩ : ∃ g : Nat -> Nat, Hid (g = thetaF a) := ⟨_, Lib.hid rfl⟩
     have HB : Hid ((hasRow wr w.heap.size 25 /\ rowAt wr w.heap.size = vals .u64 25 (fun j => (g j : Int))) /\ hasRow wr (w.heap.size + 1) 25 /\ Below w.heap.size w wr) := by
      obtain ⟨q0, q1, q2, q3⟩ := HI.out
      refine Lib.hid ⟨⟨q0.1, q0.2.trans ?_⟩, q1, q3⟩
      rw [hg.out]
      exact vals_ext _ _ fun j hj => by rw [if_pos hj]
     clear HI
     have hz2 := zero25
     go_wp2_with fail
     clear hz2
     obtain ⟨nb, hnb⟩ : ∃ nb, Hid (nb = wr.heap.size) := ⟨_, Lib.hid rfl⟩
     have hnb2 : w.heap.size + 2 <= nb := by
      have h1 := lt_of_hasRow HB.out.2.1
      have h2 := hnb.out
      omega
     have HC : Hid ((hasRow (wr.alloc (.cells (vals .u64 25 (fun _ => 0)) 70)) w.heap.size 25 /\ rowAt (wr.alloc (.cells (vals .u64 25 (fun _ => 0)) 70)) w.heap.size = vals .u64 25 (fun j => (g j : Int))) /\ hasRow (wr.alloc (.cells (vals .u64 25 (fun _ => 0)) 70)) (w.heap.size + 1) 25 /\ (hasRow (wr.alloc (.cells (vals .u64 25 (fun _ => 0)) 70)) nb 25 /\ rowAt (wr.alloc (.cells (vals .u64 25 (fun _ => 0)) 70)) nb = vals .u64 25 (fun j => (rhoK g 0 j : Int))) /\ Below w.heap.size w (wr.alloc (.cells (vals .u64 25 (fun _ => 0)) 70))) := by
      obtain ⟨q0, q1, q3⟩ := HB.out
      refine Lib.hid ⟨rowP_below (bl_alloc (bl_refl _)) q0, hasRow_below (Nat.le_refl _) (bl_alloc (bl_refl _)) q1, ⟨hasRow_at _ _ _ _ _ hnb.out (vals_size _ _ _), (rowAt_at _ _ _ _ hnb.out).trans (by simp [rhoK])⟩, bl_alloc q3⟩
     rw [<- hnb.out]
     clear HB hnb
     generalize wr.alloc (.cells (vals .u64 25 (fun _ => 0)) 70) = W3 at HC ⊢
     go_loopw [48] (fun i' wr => ∃ y : Nat, y <= 5 /\ i' = .int .i64 y /\ Hid ((hasRow wr w.heap.size 25 /\ rowAt wr w.heap.size = vals .u64 25 (fun j => (g j : Int))) /\ hasRow wr (w.heap.size + 1) 25 /\ (hasRow wr nb 25 /\ rowAt wr nb = vals .u64 25 (fun j => (rhoK g (5 * y) j : Int))) /\ Below w.heap.size w wr)) (fun i' _ => 5 - (intOf i').toNat)
     case atStart => exact ⟨0, by omega, rfl, HC⟩
     case round =>
      clear HC
      obtain ⟨y, hy, rfl, HI⟩ := hrel
      by_cases hlt : y < 5
      ·have HB : Hid ((hasRow wr w.heap.size 25 /\ rowAt wr w.heap.size = vals .u64 25 (fun j => (g j : Int))) /\ hasRow wr (w.heap.size + 1) 25 /\ (hasRow wr nb 25 /\ rowAt wr nb = vals .u64 25 (fun j => (rhoK g (5 * y + 0) j : Int))) /\ Below w.heap.size w wr) := HI
       clear HI
       go_wp2
       go_loopw [51] (fun i' wr => ∃ x : Nat, x <= 5 /\ i' = .int .i64 x /\ Hid ((hasRow wr w.heap.size 25 /\ rowAt wr w.heap.size = vals .u64 25 (fun j => (g j : Int))) /\ hasRow wr (w.heap.size + 1) 25 /\ (hasRow wr nb 25 /\ rowAt wr nb = vals .u64 25 (fun j => (rhoK g (5 * y + x) j : Int))) /\ Below w.heap.size w wr)) (fun i' _ => 5 - (intOf i').toNat)
       case atStart => exact ⟨0, by omega, rfl, HB⟩
       case round =>
        clear HB
        obtain ⟨x, hx, rfl, HI⟩ := hrel
        by_cases hlx : x < 5
        ·obtain ⟨q0, q1, q2, q3⟩ := HI.out
         obtain ⟨k, hk⟩ : ∃ k, Hid (k = x + 5 * y) := ⟨_, Lib.hid rfl⟩
         have hkl : k < 25 := by rw [hk.out]; omega
         obtain ⟨m1, e1⟩ : ∃ m1, Hid (m1 = (2 * x + 3 * y) % 5) := ⟨_, Lib.hid rfl⟩
         have l1 : m1 < 5 := by rw [e1.out]; omega
         have w1 : IntKind.i64.wrap (2 * (x : Int)) = 2 * (x : Int) := by rw [IntKind.wrap_i64]; omega
         have w2 : IntKind.i64.wrap (3 * (y : Int)) = 3 * (y : Int) := by rw [IntKind.wrap_i64]; omega
         have w3 : IntKind.i64.wrap (2 * (x : Int) + 3 * (y : Int)) = 2 * (x : Int) + 3 * (y : Int) := by rw [IntKind.wrap_i64]; omega
         have t1 : (2 * (x : Int) + 3 * (y : Int)).tmod 5 = (m1 : Int) := by rw [Int.tmod_eq_emod_of_nonneg (by omega), e1.out]; omega
         have w4 : IntKind.i64.wrap (5 * (m1 : Int)) = 5 * (m1 : Int) := by rw [IntKind.wrap_i64]; omega
         obtain ⟨po, hpo⟩ : ∃ po, Hid (po = posF k) := ⟨_, Lib.hid rfl⟩
         have hp2 : po = y + 5 * m1 := by
          have d1 : (x + 5 * y) % 5 = x := by omega
          have d2 : (x + 5 * y) / 5 = y := by omega
          rw [hpo.out, e1.out, hk.out]
          unfold posF
          rw [d1, d2]
         have hpl : po < 25 := by omega
         have hpi : (po : Int) < 25 := by omega
         have w5 : IntKind.i64.wrap ((y : Int) + 5 * (m1 : Int)) = (po : Int) := by rw [IntKind.wrap_i64]; omega
         have w6 : IntKind.i64.wrap (5 * (y : Int)) = 5 * (y : Int) := by rw [IntKind.wrap_i64]; omega
         have w7 : IntKind.i64.wrap ((x : Int) + 5 * (y : Int)) = (k : Int) := by rw [IntKind.wrap_i64, hk.out]; omega
         have hki : (k : Int) < 25 := by omega
         clear hp2
         have c0 := (cell_of_hasRow q0.1 q0.2 hkl).1
         obtain ⟨c1, z1⟩ := cell_of_hasRow q2.1 q2.2 hpl
         obtain ⟨x0, y0⟩ : ∃ x, Hid (x = g k) := ⟨_, Lib.hid rfl⟩
         obtain ⟨of, ofh⟩ : ∃ of, Hid (of = offC k) := ⟨_, Lib.hid rfl⟩
         have ofl : of < 64 := by rw [ofh.out]; exact offC_lt _
         have w8 : IntKind.i64.wrap (-(of : Int)) = -(of : Int) := by rw [IntKind.wrap_i64]; omega
         obtain ⟨x3, y3⟩ : ∃ x3, Hid (x3 = rotr 64 x0 ((-(of : Int)) % 64).toNat) := ⟨_, Lib.hid rfl⟩
         simp only [<- y0.out] at c0
         have TK := Lib.hid (HT.out.below (Nat.le_refl _) q3)
         have CO : Hid (∀ W, TabK W -> Calls Tryz.prog 275 #[.int .i64 x, .int .i64 y] W fun e w' => e = .returned (.int .i64 of) /\ W = w') := Lib.hid (fun W h => by rw [ofh.out, hk.out]; exact offset_w x y hlx hlt W h)
         have CT : Hid (∀ W, Calls Tryz.prog 274 #[.int .u64 x0, .int .i64 (-(of : Int))] W fun e w' => e = .returned (.int .u64 x3) /\ W = w') := Lib.hid (fun W => by rw [y3.out]; exact turn64_w x0 (by rw [y0.out, hg.out]; exact thetaF_lt a HA.out k hkl) _ W)
         clear q0 q1 q2 q3
         go_wp2_with fail
         refine region_tail 21 (by kernel_rfl) (by kernel_rfl) rfl ?_
         simp only [List.take_succ_cons, List.take_zero, List.drop_succ_cons, List.drop_zero]
         iterate 17 still_step
         still_call (calls_still (CO.out _ ⟨TK.out.off, TK.out.rc⟩))
         still_step
         still_call (calls_still (CT.out _))
         still_step
         refine wpStill_nil ?_
         go_wp2
         go_roundw
         case rel =>
          obtain ⟨q0, q1, q2, q3⟩ := HI.out
          obtain ⟨r1, r2, r3⟩ := row_setCell q2.1 q2.2 po ((x3 : Nat) : Int)
          have g0 := rowP_grown r3 (by omega) q0
          have g1 := hasRow_grown r3 (by omega) q1
          have hb := q3.trans (below_own r3 (by omega) q3.size)
          have r2' := r2.trans (show _ = vals .u64 25 (fun j => (rhoK g (5 * y + (x + 1)) j : Int)) by
           congr 1
           funext j
           rw [<- Nat.add_assoc, rhoK_succ, show 5 * y + x = k by rw [hk.out]; omega, <- hpo.out, <- y0.out, <- ofh.out, <- y3.out]
           split <;> rfl)
          simp only [show decide ((y : Int) < 5) = true from decide_eq_true (by omega)]
          refine ⟨_, _, _, _, _, _, _, _, _, _, _, _, _, _, _, _, _, _, _, _, _, _, _, _, _, _, ?rs, rfl⟩
          exact ⟨x + 1, by omega, by go_num, Lib.hid ⟨g0, g1, ⟨r1, r2'⟩, bl_drew hb⟩⟩
         case measure => simp [intOf]; omega
        ·obtain rfl : x = 5 := by omega
         have HB : Hid ((hasRow wr w.heap.size 25 /\ rowAt wr w.heap.size = vals .u64 25 (fun j => (g j : Int))) /\ hasRow wr (w.heap.size + 1) 25 /\ (hasRow wr nb 25 /\ rowAt wr nb = vals .u64 25 (fun j => (rhoK g (5 * (y + 1)) j : Int))) /\ Below w.heap.size w wr) := HI
         clear HI
         go_wp2
         go_roundw
         case rel =>
          exact ⟨y + 1, by omega, by go_num, HB⟩
         case measure => simp [intOf]; omega
      ·obtain rfl : y = 5 := by omega
       obtain ⟨h, hh⟩ : ∃ h : Nat -> Nat, Hid (h = rhoK g 25) := ⟨_, Lib.hid rfl⟩
       have HB : Hid ((hasRow wr w.heap.size 25 /\ rowAt wr w.heap.size = vals .u64 25 (fun j => if j < 5 * 0 then (chiR h j : Int) else (g j : Int))) /\ hasRow wr (w.heap.size + 1) 25 /\ (hasRow wr nb 25 /\ rowAt wr nb = vals .u64 25 (fun j => (h j : Int))) /\ Below w.heap.size w wr) := by
        obtain ⟨q0, q1, q2, q3⟩ := HI.out
        rw [hh.out]
        exact Lib.hid ⟨⟨q0.1, q0.2.trans (by simp)⟩, q1, q2, q3⟩
       clear HI
       go_wp2
       go_loopw [12] (fun i' wr => ∃ y : Nat, y <= 5 /\ i' = .int .i64 (5 * y : Nat) /\ Hid ((hasRow wr w.heap.size 25 /\ rowAt wr w.heap.size = vals .u64 25 (fun j => if j < 5 * y then (chiR h j : Int) else (g j : Int))) /\ hasRow wr (w.heap.size + 1) 25 /\ (hasRow wr nb 25 /\ rowAt wr nb = vals .u64 25 (fun j => (h j : Int))) /\ Below w.heap.size w wr)) (fun i' _ => 25 - (intOf i').toNat)
       case atStart => exact ⟨0, by omega, rfl, HB⟩
       case round =>
        clear HB
        obtain ⟨y, hy, rfl, HI⟩ := hrel
        by_cases hlt : y < 5
        ·obtain ⟨q0, q1, q2, q3⟩ := HI.out
         obtain ⟨o, ho⟩ : ∃ o, Hid (o = 5 * y) := ⟨_, Lib.hid rfl⟩
         have hol : o + 5 <= 25 := by rw [ho.out]; omega
         have hlow := run_loadRow_at Tryz.prog wr nb o 5 .u64 (fun j => (h (o + j) : Int)) fun j hj => (cell_of_hasRow q2.1 q2.2 (by omega)).1
         have hat : ∀ (W : World) (a : Option Addr) (c : Nat), (Instr.arrayAt 328 (.slice a 5 c)).run Tryz.prog W = .ok (.pointer a) W := fun W a c => run_arrayAt (P := Tryz.prog) W 328 _ 5 a 5 c Tryz.underlying328 (Nat.le_refl _)
         have hoi : (o : Int) + 5 <= 25 := by omega
         have hno : ¬ 25 = o := by omega
         have hw5 : IntKind.i64.wrap ((o : Int) + 5) = (o : Int) + 5 := by rw [IntKind.wrap_i64]; omega
         have hoj : (o : Int) <= (o : Int) + 5 := by omega
         have hok : (o : Int) <= 25 := by omega
         rw [<- ho.out]
         clear q0 q1 q2 q3
         go_wp2_with fail
         have hbd : ∀ j, j < 5 -> h (o + j) < 18446744073709551616 := fun j hj => by rw [hh.out, hg.out]; exact rhoK_lt _ (fun _ _ => thetaF_lt a HA.out _ (by omega)) 25 (Nat.le_refl _) _
         refine (chi_w (fun j => h (o + j)) hbd wr).mono ?_
         rintro e w1 ⟨rfl, hb⟩
         have hz5 := zero5
         go_wp2_with fail
         obtain ⟨q0, q1, q2, q3⟩ := HI.out
         have ha1 := bl_alloc (o := .cells (vals .u64 5 (fun j => (chiF (fun j => h (o + j)) j : Int))) 328) (bl_refl w1)
         have g0 := rowP_below ha1 (rowP_below hb q0)
         have g1 := hasRow_below (Nat.le_refl _) ha1 (hasRow_below (Nat.le_refl _) hb q1)
         have g2 := rowP_below ha1 (rowP_below hb q2)
         have g3 := bl_alloc (o := .cells (vals .u64 5 (fun j => (chiF (fun j => h (o + j)) j : Int))) 328) (bl_call q3 hb)
         have g4 := reads_new w1 328 (fun j => (chiF (fun j => h (o + j)) j : Int)) (k := .u64) (n := 5) rfl
         generalize w1.alloc (.cells (vals .u64 5 (fun j => (chiF (fun j => h (o + j)) j : Int))) 328) = W4 at g0 g1 g2 g3 g4 ⊢
         have GI := Lib.hid (And.intro g0 (And.intro g1 (And.intro g2 (And.intro g3 g4))))
         clear q0 q1 q2 q3 g0 g1 g2 g3 g4 ha1 hb
         refine region_tail 3 (by kernel_rfl) (by kernel_rfl) rfl ?_
         simp only [List.take_succ_cons, List.take_zero, List.drop_succ_cons, List.drop_zero]
         iterate 3 still_step
         refine wpStill_nil ?_
         refine wpList_step fun K' hK' => ?_
         obtain ⟨⟨g0r, g0v⟩, g1, g2, g3, g4⟩ := GI.out
         refine step_copy_part (L := 25 - o) (c := 25 - o) (F := o) (N := 5) (n := 25) (g := w.heap.size) (k := .u64) Tryz.underlying190 (by kernel_rfl) rfl (.tmp 89) (.tmp 90) rfl rfl rfl ((hasRow_drew _ _ _).mpr g0r) ((rowAt_drew _ _).trans g0v) (reads_drewN 1 g4) (by omega) (by omega) ?_
         intro w5 k1 k2 k3
         have k1' := hasRow_grown k3 (by omega) ((hasRow_drew _ _ _).mpr g1)
         have k2' := rowP_grown k3 (by omega) ⟨(hasRow_drew _ _ _).mpr g2.1, (rowAt_drew _ _).trans g2.2⟩
         have k3' := g3.drew.trans (below_own k3 (by omega) g3.drew.size)
         have k4 := k2.trans (show _ = vals .u64 25 (fun j => if j < 5 * (y + 1) then (chiR h j : Int) else (g j : Int)) by
          congr 1
          funext j
          have ho' := ho.out
          by_cases h1 : o <= j /\ j < o + 5
          ·rw [if_pos h1, if_pos (by omega)]
           unfold chiR
           rw [show j / 5 * 5 = o by omega, show j % 5 = j - o by omega]
          ·rw [if_neg h1]
           by_cases h2 : j < 5 * y
           ·rw [if_pos h2, if_pos (by omega)]
           ·rw [if_neg h2, if_neg (by omega)])
         have KI := Lib.hid (And.intro (And.intro k1 k4) (And.intro k1' (And.intro k2' k3')))
         clear k1 k2 k3 k1' k2' k3' k4 g0r g0v g1 g2 g3 g4 GI
         refine hK' _ _ (wpList_nil ?_)
         go_wp2
         go_roundw
         case rel =>
          refine ⟨_, _, _, _, _, _, _, _, _, _, _, _, _, _, _, _, _, ?rt, rfl⟩
          refine ⟨y + 1, by omega, ?_, KI⟩
          rw [ho.out]
          go_num
         case measure => have := ho.out; simp [intOf]; omega
        ·obtain rfl : y = 5 := by omega
         have HB2 : Hid ((hasRow wr w.heap.size 25 /\ rowAt wr w.heap.size = vals .u64 25 (fun j => (chiR h j : Int))) /\ hasRow wr (w.heap.size + 1) 25 /\ Below w.heap.size w wr) := by
          obtain ⟨q0, q1, q2, q3⟩ := HI.out
          refine Lib.hid ⟨⟨q0.1, q0.2.trans ?_⟩, q1, q3⟩
          exact vals_ext _ _ fun j hj => by rw [if_pos (by omega)]
         clear HI
         obtain ⟨x0, y0⟩ : ∃ x0, Hid (x0 = chiR h 0) := ⟨_, Lib.hid rfl⟩
         obtain ⟨x1, y1⟩ : ∃ x1, Hid (x1 = rcC r) := ⟨_, Lib.hid rfl⟩
         have c0 := (cell_of_hasRow HB2.out.1.1 HB2.out.1.2 (i := 0) (by omega)).1
         obtain ⟨-, z0⟩ := cell_of_hasRow HB2.out.1.1 HB2.out.1.2 (i := 0) (by omega)
         simp only [<- y0.out] at c0
         have TK := Lib.hid (HT.out.below (Nat.le_refl _) HB2.out.2.2)
         have CC : Hid (∀ W, TabK W -> Calls Tryz.prog 277 #[.int .i64 r] W fun e w' => e = .returned (.int .u64 x1) /\ W = w') := Lib.hid (fun W h => by rw [y1.out]; exact constant_w r hr W h)
         go_wp2_with fail
         refine region_tail 6 (by kernel_rfl) (by kernel_rfl) rfl ?_
         simp only [List.take_succ_cons, List.take_zero, List.drop_succ_cons, List.drop_zero]
         iterate 3 still_step
         still_call (calls_still (CC.out _ ⟨TK.out.off, TK.out.rc⟩))
         iterate 2 still_step
         refine wpStill_nil ?_
         obtain ⟨r1, r2, r3⟩ := row_setCell HB2.out.1.1 HB2.out.1.2 0 (bits .xor .u64 (x0 : Int) (x1 : Int))
         have q1 := hasRow_grown r3 (by omega) HB2.out.2.1
         have q3 := Lib.hid (HB2.out.2.2.trans (below_own r3 (by omega) HB2.out.2.2.size))
         have e2 : (vals .u64 25 fun j => if j = 0 then bits .xor .u64 (x0 : Int) (x1 : Int) else (chiR h j : Int)) = vals .u64 25 (fun j => (roundP a r j : Int)) := vals_ext _ _ fun j hj => by
          have l0 : x0 < 18446744073709551616 := by
           rw [y0.out]
           unfold chiR chiF
           have hl : ∀ j, h j < 18446744073709551616 := fun j => by rw [hh.out, hg.out]; exact rhoK_lt _ (fun _ hj => thetaF_lt a HA.out _ hj) 25 (Nat.le_refl _) _
           exact Nat.xor_lt_two_pow (n := 64) (hl _) (Nat.and_lt_two_pow (n := 64) _ (hl _))
          have l1 : x1 < 18446744073709551616 := by rw [y1.out]; exact rcC_lt r
          rw [u64_xor_nat _ _ l0 l1, y0.out, y1.out, hh.out, hg.out]
          unfold roundP
          by_cases h0 : j = 0
          ·rw [if_pos h0, if_pos h0]
          ·rw [if_neg h0, if_neg h0]
         have r1' := (hasRow_drew _ _ _).mpr r1
         have r2' := (rowAt_drew _ _).trans (r2.trans e2)
         have q1' := (hasRow_drew _ _ _).mpr q1
         have q3' := Lib.hid q3.out.drew
         clear r1 r2 r3 e2 q1 q3 HB2
         go_wp2
         obtain ⟨s1, s2, s3⟩ := row_setRow q1' (vals .u64 25 (fun j => (roundP a r j : Int))) (vals_size _ _ _)
         refine bodyPost_ret (results_row arr25 rfl _ (w.heap.size + 1) rfl s1) rfl ⟨?_, ?_⟩
         ·rw [s2]
         ·exact q3'.out.trans (below_setRow' (by omega) _)
end
end Go.Proofs.YtdobjciaikofdaaGreatDoor
