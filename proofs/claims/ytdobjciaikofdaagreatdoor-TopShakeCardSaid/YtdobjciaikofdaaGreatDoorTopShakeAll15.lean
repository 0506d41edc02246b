/- Part 15 of 39 of what the proof of this law needs. Put together by a program out of the texts: PermD SpA RegS SpB. -/
import Derived.Test.YtdobjciaikofdaaGreatDoorTopShakeAll14
import Derived.WalkMore
import Derived.ScopeJumps
import Derived.OrdersHeld
import Derived.StillTail
import Derived.Deep.RegionHeld3
namespace Go.Proofs.YtdobjciaikofdaaGreatDoor
section
open Go.RowKit Go.Shelf Bt
attribute [local go_sem] vals_get? vals_get vals_size rowAt_at rowAt_past hasRow_at hasRow_past run_loadRow run_storeCells_row setRow_at setRow_past lt_s2 lt_s3 lt_s4 lt_s5 lt_s6
attribute [local go_sem ↓] loadRow_is
def permR (a : Nat -> Nat) : Nat -> Nat -> Nat
 | 0 => a
 | k + 1 => roundP (permR a k) k
def permF (a : Nat -> Nat) : Nat -> Nat := permR a 24
theorem roundP_lt (a : Nat -> Nat) (ha : ∀ j, j < 25 -> a j < 18446744073709551616) (r : Nat) (j : Nat) : roundP a r j < 18446744073709551616 := by
 have hl : ∀ j, rhoK (thetaF a) 25 j < 18446744073709551616 := fun j => rhoK_lt _ (fun _ hj => thetaF_lt a ha _ hj) 25 (Nat.le_refl _) _
 have hc : ∀ i, chiR (rhoK (thetaF a) 25) i < 18446744073709551616 := fun i => by
  unfold chiR chiF
  exact Nat.xor_lt_two_pow (n := 64) (hl _) (Nat.and_lt_two_pow (n := 64) _ (hl _))
 unfold roundP
 split
 ·exact Nat.xor_lt_two_pow (n := 64) (hc _) (rcC_lt r)
 ·exact hc _
theorem permR_lt (a : Nat -> Nat) (ha : ∀ j, j < 25 -> a j < 18446744073709551616) : ∀ k, ∀ j, j < 25 -> permR a k j < 18446744073709551616
 | 0, j, hj => ha j hj
 | k + 1, _, _ => roundP_lt _ (permR_lt a ha k) _ _
theorem permF_lt (a : Nat -> Nat) (ha : ∀ j, j < 25 -> a j < 18446744073709551616) (j : Nat) (hj : j < 25) : permF a j < 18446744073709551616 := permR_lt a ha 24 j hj
set_option maxRecDepth 100000 in
set_option maxHeartbeats 4000000 in
theorem rounds_w (a : Nat -> Nat) (ha : ∀ j, j < 25 -> a j < 18446744073709551616) (w : World) (ht : TabK w) :
  Calls Tryz.prog 179 #[.agg (vals .u64 25 (fun j => (a j : Int))), .int .i64 0, .int .i64 24] w fun e w' => e = .returned (.agg (vals .u64 25 (fun j => (permF a j : Int)))) /\ Below w.heap.size w w' := by
 have HA := Lib.hid ha
 have HT := Lib.hid ht
 clear ha ht
 have hz2 := zero25
 go_enter Tryz.func179, Tryz.ntmps179
 go_wp2_with fail
 clear hz2
 have q0 : hasRow ((w.alloc (.cells (vals .u64 25 (fun j => (a j : Int))) 70)).alloc (.cells (vals .u64 25 (fun _ => 0)) 70)) w.heap.size 25 /\ rowAt ((w.alloc (.cells (vals .u64 25 (fun j => (a j : Int))) 70)).alloc (.cells (vals .u64 25 (fun _ => 0)) 70)) w.heap.size = vals .u64 25 (fun j => (permR a 0 j : Int)) :=
  rowP_below (bl_alloc (bl_refl _)) ⟨hasRow_at w (vals .u64 25 (fun j => (a j : Int))) 70 w.heap.size 25 rfl (vals_size _ _ _), rowAt_at w (vals .u64 25 (fun j => (a j : Int))) 70 w.heap.size rfl⟩
 have q1 : hasRow ((w.alloc (.cells (vals .u64 25 (fun j => (a j : Int))) 70)).alloc (.cells (vals .u64 25 (fun _ => 0)) 70)) (w.heap.size + 1) 25 := hasRow_at (w.alloc (.cells (vals .u64 25 (fun j => (a j : Int))) 70)) (vals .u64 25 (fun _ => 0)) 70 (w.heap.size + 1) 25 (by simp) (vals_size _ _ _)
 have q3 : Below w.heap.size w ((w.alloc (.cells (vals .u64 25 (fun j => (a j : Int))) 70)).alloc (.cells (vals .u64 25 (fun _ => 0)) 70)) := bl_alloc (bl_alloc (bl_refl w))
 generalize (w.alloc (.cells (vals .u64 25 (fun j => (a j : Int))) 70)).alloc (.cells (vals .u64 25 (fun _ => 0)) 70) = W2 at q0 q1 q3 ⊢
 have HI := Lib.hid (And.intro q0 (And.intro q1 q3))
 clear q0 q1 q3
 refine wp_scope_jumps 0 (fun a' W => ∃ (k : Nat) (u9 u10 u11 u12 u13 u14 u15 u16 u17 u18 u19 u20 u21 u22 u23 : Value), k <= 24 /\ a' = { tmps := #[.agg (vals .u64 25 (fun j => (a j : Int))), .int .i64 0, .int .i64 24, .pointer (some ⟨w.heap.size, 0, none⟩), undef, undef, .pointer (some ⟨w.heap.size + 1, 0, none⟩), .int .i64 k, .int .i64 24, u9, u10, u11, u12, u13, u14, u15, u16, u17, u18, u19, u20, u21, u22, u23], defers := [] } /\ Hid ((hasRow W w.heap.size 25 /\ rowAt W w.heap.size = vals .u64 25 (fun j => (permR a k j : Int))) /\ hasRow W (w.heap.size + 1) 25 /\ Below w.heap.size w W)) (fun a' _ => 24 - (intOf (a'.tmps.getD 7 undef)).toNat) rfl ?_ ?_
 ·obtain ⟨⟨q0, q0v⟩, q1, q3⟩ := HI.out
  have P1 := Lib.hid (HI.out.2)
  have TK := Lib.hid (HT.out.below (Nat.le_refl _) q3)
  have CR : Hid (∀ W, TabK W -> Calls Tryz.prog 237 #[.agg (vals .u64 25 (fun j => (permR a 0 j : Int))), .int .i64 0] W fun e w' => e = .returned (.agg (vals .u64 25 (fun j => (permR a (0 + 1) j : Int)))) /\ Below W.heap.size W w') := Lib.hid (fun W h => roundP_w (permR a 0) (permR_lt a HA.out 0) 0 (by omega) W h)
  have m0 : (min 0 24 : Int) = 0 := rfl
  have m1 : (min (max 24 0) 24 : Int) = 24 := rfl
  clear q1 q3
  go_wp2_with fail
  go_step3
  go_wp2_with (go_at_call 237; (with_reducible refine (CR.out _ ⟨TK.out.off, TK.out.rc⟩).mono ?_); rintro e w3 ⟨rfl, hb⟩; have g0 := hasRow_below (Nat.le_refl _) hb q0)
  go_step3
  obtain ⟨r1, r2, r3⟩ := row_setRow g0 (vals .u64 25 (fun j => (permR a (0 + 1) j : Int))) (vals_size _ _ _)
  refine ⟨rfl, 1, _, _, _, _, _, _, _, _, _, _, _, _, _, _, _, by omega, rfl, Lib.hid ⟨⟨r1, r2⟩, ?_, ?_⟩⟩
  ·exact hasRow_grown r3 (by omega) (hasRow_below (Nat.le_refl _) hb P1.out.1)
  ·exact (bl_call P1.out.2 hb).trans (below_setRow' (by omega) _)
 ·rintro a' W ⟨k, u9, u10, u11, u12, u13, u14, u15, u16, u17, u18, u19, u20, u21, u22, u23, hk, rfl, HI⟩
  by_cases hlt : k < 24
  ·obtain ⟨⟨q0, q0v⟩, q1, q3⟩ := HI.out
   have hlt' : (k : Int) < 24 := by omega
   have P1 := Lib.hid (HI.out.2)
   have TK := Lib.hid (HT.out.below (Nat.le_refl _) q3)
   have CR : Hid (∀ W, TabK W -> Calls Tryz.prog 237 #[.agg (vals .u64 25 (fun j => (permR a k j : Int))), .int .i64 k] W fun e w' => e = .returned (.agg (vals .u64 25 (fun j => (permR a (k + 1) j : Int)))) /\ Below W.heap.size W w') := Lib.hid (fun W h => roundP_w (permR a k) (permR_lt a HA.out k) k hlt W h)
   clear q1 q3
   go_wp2_with (go_at_call 237; (with_reducible refine (CR.out _ ⟨TK.out.off, TK.out.rc⟩).mono ?_); rintro e w3 ⟨rfl, hb⟩; have g0 := hasRow_below (Nat.le_refl _) hb q0)
   go_step3
   obtain ⟨r1, r2, r3⟩ := row_setRow g0 (vals .u64 25 (fun j => (permR a (k + 1) j : Int))) (vals_size _ _ _)
   refine ⟨rfl, ⟨k + 1, _, _, _, _, _, _, _, _, _, _, _, _, _, _, _, by omega, rfl, Lib.hid ⟨⟨r1, r2⟩, ?_, ?_⟩⟩, ?_⟩
   ·exact hasRow_grown r3 (by omega) (hasRow_below (Nat.le_refl _) hb P1.out.1)
   ·exact (bl_call P1.out.2 hb).trans (below_setRow' (by omega) _)
   ·simp [intOf]
    omega
  ·obtain rfl : k = 24 := by omega
   obtain ⟨⟨q0, q0v⟩, q1, q3⟩ := HI.out
   have P3 := Lib.hid q3
   clear q3
   go_wp2_with fail
   simp only [Exit.jump]
   obtain ⟨s1, s2, s3⟩ := row_setRow q1 (vals .u64 25 (fun j => (permR a 24 j : Int))) (vals_size _ _ _)
   refine bodyPost_ret (results_row arr25 rfl _ (w.heap.size + 1) rfl s1) rfl ⟨?_, ?_⟩
   ·rw [s2]
    rfl
   ·exact P3.out.trans (below_setRow' (by omega) _)
set_option maxRecDepth 100000 in
theorem permF_w (a : Nat -> Nat) (ha : ∀ j, j < 25 -> a j < 18446744073709551616) (w : World) (ht : TabK w) :
  Calls Tryz.prog 117 #[.agg (vals .u64 25 (fun j => (a j : Int)))] w fun e w' => e = .returned (.agg (vals .u64 25 (fun j => (permF a j : Int)))) /\ Below w.heap.size w w' := by
 have HA := Lib.hid ha
 have HT := Lib.hid ht
 clear ha ht
 have hz2 := zero25
 have CR : Hid (∀ W, TabK W -> Calls Tryz.prog 179 #[.agg (vals .u64 25 (fun j => (a j : Int))), .int .i64 0, .int .i64 24] W fun e w' => e = .returned (.agg (vals .u64 25 (fun j => (permF a j : Int)))) /\ Below W.heap.size W w') := Lib.hid (fun W h => rounds_w a HA.out W h)
 go_enter Tryz.func117, Tryz.ntmps117
 go_wp2_with fail
 clear hz2
 have q0 : hasRow ((w.alloc (.cells (vals .u64 25 (fun j => (a j : Int))) 70)).alloc (.cells (vals .u64 25 (fun _ => 0)) 70)) w.heap.size 25 /\ rowAt ((w.alloc (.cells (vals .u64 25 (fun j => (a j : Int))) 70)).alloc (.cells (vals .u64 25 (fun _ => 0)) 70)) w.heap.size = vals .u64 25 (fun j => (a j : Int)) :=
  rowP_below (bl_alloc (bl_refl _)) ⟨hasRow_at w (vals .u64 25 (fun j => (a j : Int))) 70 w.heap.size 25 rfl (vals_size _ _ _), rowAt_at w (vals .u64 25 (fun j => (a j : Int))) 70 w.heap.size rfl⟩
 have q1 : hasRow ((w.alloc (.cells (vals .u64 25 (fun j => (a j : Int))) 70)).alloc (.cells (vals .u64 25 (fun _ => 0)) 70)) (w.heap.size + 1) 25 := hasRow_at (w.alloc (.cells (vals .u64 25 (fun j => (a j : Int))) 70)) (vals .u64 25 (fun _ => 0)) 70 (w.heap.size + 1) 25 (by simp) (vals_size _ _ _)
 have q3 : Below w.heap.size w ((w.alloc (.cells (vals .u64 25 (fun j => (a j : Int))) 70)).alloc (.cells (vals .u64 25 (fun _ => 0)) 70)) := bl_alloc (bl_alloc (bl_refl w))
 generalize (w.alloc (.cells (vals .u64 25 (fun j => (a j : Int))) 70)).alloc (.cells (vals .u64 25 (fun _ => 0)) 70) = W2 at q0 q1 q3 ⊢
 have TK := Lib.hid (HT.out.below (Nat.le_refl _) q3)
 have P1 := Lib.hid (And.intro q1 q3)
 obtain ⟨q0, q0v⟩ := q0
 clear q1 q3
 go_wp2_with (go_at_call 179; (with_reducible refine (CR.out _ ⟨TK.out.off, TK.out.rc⟩).mono ?_); rintro e w3 ⟨rfl, hb⟩; have g1 := hasRow_below (Nat.le_refl _) hb P1.out.1)
 obtain ⟨s1, s2, s3⟩ := row_setRow g1 (vals .u64 25 (fun j => (permF a j : Int))) (vals_size _ _ _)
 refine bodyPost_ret (results_row arr25 rfl _ (w.heap.size + 1) rfl s1) rfl ⟨?_, ?_⟩
 ·rw [s2]
 ·exact (bl_call P1.out.2 hb).trans (below_setRow' (by omega) _)
end
section
open Go.RowKit Go.Shelf Bt
attribute [local go_sem] vals_get? vals_get vals_size rowAt_at rowAt_past hasRow_at hasRow_past run_loadRow run_storeCells_row setRow_at setRow_past lt_s2 lt_s3 lt_s4 lt_s5 lt_s6
attribute [local go_sem ↓] loadRow_is
theorem gb_below {w w1 : World} {r : Option Nat} (h : Below w.heap.size w w1) : w.grownBy w1 r := ⟨h.os, h.tape, h.output, h.size, fun k hk _ => h.block k hk⟩
theorem gb_trans {w w1 w2 : World} {r : Option Nat} (h : w.grownBy w1 r) (h2 : w1.grownBy w2 r) : w.grownBy w2 r :=
 ⟨h2.os.trans h.os, h2.tape.trans h.tape, h2.output.trans h.output, Nat.le_trans h.size h2.size, fun k hk hr => (h2.block k (Nat.lt_of_lt_of_le hk h.size) hr).trans (h.block k hk hr)⟩
theorem gb_own {w w1 w2 : World} {r : Option Nat} {g : Nat} (h : w.grownBy w1 r) (h2 : w1.grownBy w2 (some g)) (hg : w.heap.size <= g) : w.grownBy w2 r :=
 ⟨h2.os.trans h.os, h2.tape.trans h.tape, h2.output.trans h.output, Nat.le_trans h.size h2.size, fun k hk hr => (h2.block k (Nat.lt_of_lt_of_le hk h.size) (fun e => by cases e; omega)).trans (h.block k hk hr)⟩
theorem gb_call {w w1 w2 : World} {r : Option Nat} (h : w.grownBy w1 r) (h2 : Below w1.heap.size w1 w2) : w.grownBy w2 r := gb_trans h (gb_below h2)
theorem gb_drew {w w1 : World} {r : Option Nat} (h : w.grownBy w1 r) : w.grownBy w1.drew r := ⟨h.os, h.tape, h.output, h.size, h.block⟩
theorem gb_row (w : World) (b : Nat) (c : Array Value) : w.grownBy (w.setRow b c) (some b) where
 os := rfl
 tape := rfl
 output := rfl
 size := by simp
 block := fun k _ hr => by
  unfold World.setRow
  dsimp only
  rw [Array.getElem?_modify, if_neg (fun e => hr (by rw [e]))]
theorem TabK.grown {w w1 : World} {b : Nat} (h : TabK w) (hb : b ≠ 8 /\ b ≠ 9) (hg : w.grownBy w1 (some b)) : TabK w1 where
 off := fun j hj => by
  have h0 := h.off j hj
  rw [World.cell?_of_block (hg.block _ (cell_lt h0) (fun e => hb.1 (by cases e; rfl)))]
  exact h0
 rc := fun j hj => by
  have h0 := h.rc j hj
  rw [World.cell?_of_block (hg.block _ (cell_lt h0) (fun e => hb.2 (by cases e; rfl)))]
  exact h0
structure Spg where
 rate : Nat
 suf : Nat
 a : Nat -> Nat
 at_ : Nat
 rd : Bool
def spL (s : Spg) : List Value := .int .i64 s.rate :: .int .i64 s.suf :: ((vals .u64 25 (fun j => (s.a j : Int))).toList ++ [.int .i64 s.at_, .bool s.rd])
def spC (s : Spg) : Array Value := (spL s).toArray
theorem spL_length (s : Spg) : (spL s).length = 29 := by simp [spL, vals_size]
theorem spC_size (s : Spg) : (spC s).size = 29 := by simp [spC, spL_length]
def Sp (w : World) (b : Nat) (s : Spg) : Prop := ∃ t fr, w.heap[b]? = some (.cells (spC s) t fr) /\ fr.2 <= fr.1
theorem Sp.lt {w : World} {b : Nat} {s : Spg} (h : Sp w b s) : b < w.heap.size := by obtain ⟨t, fr, h, _⟩ := h; exact (Array.getElem?_eq_some_iff.1 h).1
theorem Sp.below {w w1 : World} {b B : Nat} {s : Spg} (h : Sp w b s) (hB : w.heap.size <= B) (hb : Below B w w1) : Sp w1 b s := by
 have hl := h.lt
 obtain ⟨t, fr, h, hf⟩ := h
 exact ⟨t, fr, by rw [hb.block b (by omega)]; exact h, hf⟩
theorem Sp.grown {w w1 : World} {b : Nat} {r : Option Nat} {s : Spg} (h : Sp w b s) (hg : w.grownBy w1 r) (hr : some b ≠ r) : Sp w1 b s := by
 have hl := h.lt
 obtain ⟨t, fr, h, hf⟩ := h
 exact ⟨t, fr, by rw [hg.block b hl hr]; exact h, hf⟩
theorem Sp.drew {w : World} {b : Nat} {s : Spg} (h : Sp w b s) : Sp w.drew b s := h
theorem Sp.row {w : World} {b : Nat} {s : Spg} (h : Sp w b s) (s' : Spg) : Sp (w.setRow b (spC s')) b s' := by
 obtain ⟨t, fr, h, hf⟩ := h
 exact ⟨t, fr, setRow_heap w b _ _ t _ h, hf⟩
theorem Sp.cell {w : World} {b : Nat} {s : Spg} (h : Sp w b s) (i : Nat) : w.cell? ⟨b, i, none⟩ = (spL s)[i]? /\ w.frozen? ⟨b, i, none⟩ = false := by
 obtain ⟨t, fr, h, hf⟩ := h
 constructor
 ·rw [cell_of_row w b i _ t fr h]
  simp [spC]
 ·simp [World.frozen?, h]
  omega
theorem Sp.rate {w : World} {b : Nat} {s : Spg} (h : Sp w b s) : w.cell? ⟨b, 0, none⟩ = some (.int .i64 s.rate) := by rw [(h.cell 0).1]; rfl
theorem Sp.suf {w : World} {b : Nat} {s : Spg} (h : Sp w b s) : w.cell? ⟨b, 1, none⟩ = some (.int .i64 s.suf) := by rw [(h.cell 1).1]; rfl
theorem Sp.at_ {w : World} {b : Nat} {s : Spg} (h : Sp w b s) : w.cell? ⟨b, 27, none⟩ = some (.int .i64 s.at_) := by rw [(h.cell 27).1]; rfl
theorem Sp.rd {w : World} {b : Nat} {s : Spg} (h : Sp w b s) : w.cell? ⟨b, 28, none⟩ = some (.bool s.rd) := by rw [(h.cell 28).1]; rfl
theorem Sp.lane {w : World} {b : Nat} {s : Spg} (h : Sp w b s) (j : Nat) (hj : j < 25) : w.cell? ⟨b, 2 + j, none⟩ = some (.int .u64 (s.a j)) := by
 rw [(h.cell _).1]
 unfold spL
 rw [show 2 + j = j + 1 + 1 by omega, List.getElem?_cons_succ, List.getElem?_cons_succ, List.getElem?_append_left (by simp [vals_size]; exact hj), Array.getElem?_toList, vals_get? _ _ _ _ hj]
theorem Sp.load {w : World} {b : Nat} {s : Spg} (h : Sp w b s) (P : Program) : (loadRow ⟨b, 2, none⟩ 25).run P w = .ok (vals .u64 25 (fun j => (s.a j : Int))) w :=
 run_loadRow_at P w b 2 25 .u64 (fun j => (s.a j : Int)) h.lane
theorem storeCells_at {P : Program} (g o : Nat) (t : TypeId) (fr : Nat × Nat) (hfr : fr.2 <= fr.1) : ∀ (vs : List Value) (i : Nat) (cur : Array Value) (w : World), w.heap[g]? = some (.cells cur t fr) -> o + i + vs.length <= cur.size -> (∀ v ∈ vs, v.oneCell' = true) ->
  (storeCells ⟨g, o, none⟩ vs i).run P w = .ok () (w.setRow g (cur.toList.take (o + i) ++ vs ++ cur.toList.drop (o + i + vs.length)).toArray)
 | [], i, cur, w, hg, hl, _ => by
  have hlt : g < w.heap.size := (Array.getElem?_eq_some_iff.1 hg).1
  have hv : w.heap[g] = .cells cur t fr := (Array.getElem?_eq_some_iff.1 hg).2
  simp only [storeCells, List.append_nil, List.length_nil, Nat.add_zero, List.take_append_drop, Array.toArray_toList]
  show Result.ok () w = _
  congr 1
  unfold World.setRow
  cases w with
  | mk heap tape drawn os output =>
   congr 1
   apply Array.ext
   ·simp
   ·intro k h1 h2
    simp only [Array.getElem_modify]
    split
    ·rename_i hk; subst hk; simp at hv; simp [hv]
    ·rfl
 | v :: rest, i, cur, w, hg, hl, h1 => by
  have hi : o + i < cur.size := by simp at hl; omega
  have hadd : (⟨g, o, none⟩ : Addr).add i = ⟨g, o + i, none⟩ := by unfold Addr.add; split <;> simp_all
  have hcell : w.cell? ⟨g, o + i, none⟩ = some cur[o + i] := by simp [World.cell?, hg, hi]
  have hfro : w.frozen? ⟨g, o + i, none⟩ = false := by
   simp [World.frozen?, hg]
   omega
  have hst : (store ((⟨g, o, none⟩ : Addr).add i) v).run P w = .ok () (w.setRow g (cur.setIfInBounds (o + i) v)) := by
   rw [hadd, run_store P w _ v _ (h1 v (by simp)), hcell]
   simp [hfro, setCell_eq_setRow w g (o + i) cur t fr v hg]
  have ih := storeCells_at (P := P) g o t fr hfr rest (i + 1) (cur.setIfInBounds (o + i) v) (w.setRow g (cur.setIfInBounds (o + i) v)) (setRow_heap w g cur _ t _ hg) (by simp at hl ⊢; omega) (fun x hx => h1 x (by simp [hx]))
  simp only [storeCells, Sem.run_bind, hst, Result.andThen_ok, ih, setRow_setRow]
  congr 3
  apply List.ext_getElem?
  intro k
  have e1 : min (o + (i + 1)) cur.size = o + (i + 1) := by omega
  have e2 : min (o + i) cur.size = o + i := by omega
  simp only [Array.toList_setIfInBounds, List.getElem?_append, List.length_take, List.length_set, Array.length_toList, List.length_append, List.length_cons, List.getElem?_drop, List.getElem?_take, List.getElem?_set, e1, e2]
  by_cases hk : k < o + i
  ·simp [hk, show k < o + (i + 1) by omega, show k < o + (i + 1) + rest.length by omega, show k < o + i + (rest.length + 1) by omega, show o + i ≠ k by omega]
  ·by_cases hk2 : k = o + i
   ·subst hk2
    simp [show o + i < o + (i + 1) by omega, show o + i < o + (i + 1) + rest.length by omega, hi]
   ·have e3 : k - (o + i) = (k - (o + (i + 1))) + 1 := by omega
    by_cases hk3 : k < o + (i + 1) + rest.length
    ·simp [hk, hk3, show ¬ k < o + (i + 1) by omega, show k < o + i + (rest.length + 1) by omega, e3]
    ·simp [hk3, show ¬ k < o + i + (rest.length + 1) by omega, show o + (i + 1) + rest.length + (k - (o + (i + 1) + rest.length)) = k by omega, show o + i + (rest.length + 1) + (k - (o + i + (rest.length + 1))) = k by omega, show ¬ o + i = k by omega]
theorem Sp.store {w : World} {b : Nat} {s : Spg} (h : Sp w b s) (P : Program) (f : Nat -> Nat) : (storeCells ⟨b, 2, none⟩ (vals .u64 25 (fun j => (f j : Int))).toList).run P w = .ok () (w.setRow b (spC { s with a := f })) := by
 obtain ⟨t, fr, h, hf⟩ := h
 have h1 : ∀ v ∈ (vals .u64 25 (fun j => (f j : Int))).toList, v.oneCell' = true := fun v hv => (Array.all_eq_true_iff_forall_mem.1 (vals_oneCell .u64 25 _)) v (by simpa using hv)
 rw [storeCells_at (P := P) b 2 t fr hf _ 0 _ w h (by simp [vals_size, spC_size]) h1]
 congr 2
theorem Sp.setAt {w : World} {b : Nat} {s : Spg} (h : Sp w b s) (n : Nat) : w.setCell ⟨b, 27, none⟩ (.int .i64 n) = w.setRow b (spC { s with at_ := n }) := by
 obtain ⟨t, fr, h, _⟩ := h
 rw [setCell_eq_setRow w b 27 _ t fr _ h]
 congr 1
theorem Sp.setRd {w : World} {b : Nat} {s : Spg} (h : Sp w b s) (r : Bool) : w.setCell ⟨b, 28, none⟩ (.bool r) = w.setRow b (spC { s with rd := r }) := by
 obtain ⟨t, fr, h, _⟩ := h
 rw [setCell_eq_setRow w b 28 _ t fr _ h]
 congr 1
set_option maxRecDepth 100000 in
theorem permute_w (b : Nat) (s : Spg) (ha : ∀ j, j < 25 -> s.a j < 18446744073709551616) (w : World) (hs : Sp w b s) (ht : TabK w) :
  Calls Tryz.prog 77 #[.pointer (some ⟨b, 0, none⟩)] w fun e w' => e = .returned (.tuple #[]) /\ Sp w' b { s with a := permF s.a, at_ := 0 } /\ w.grownBy w' (some b) := by
 have HA := Lib.hid ha
 have HT := Lib.hid ht
 have HS := Lib.hid hs
 have hld := hs.load Tryz.prog
 clear ha ht
 have CF : Hid (∀ W, TabK W -> Calls Tryz.prog 117 #[.agg (vals .u64 25 (fun j => (s.a j : Int)))] W fun e w' => e = .returned (.agg (vals .u64 25 (fun j => (permF s.a j : Int)))) /\ Below W.heap.size W w') := Lib.hid (fun W h => permF_w s.a HA.out W h)
 go_enter Tryz.func77, Tryz.ntmps77
 go_wp2_with (go_at_call 117; (with_reducible refine (CF.out _ ⟨HT.out.off, HT.out.rc⟩).mono ?_); rintro e w3 ⟨rfl, hb⟩; have q3 := HS.out.below (Nat.le_refl _) hb; have hst := q3.store Tryz.prog (permF s.a); have hc := (q3.row { s with a := permF s.a }).at_; have hf := ((q3.row { s with a := permF s.a }).cell 27).2)
 have e : ((0 : Nat) : Int) = 0 := rfl
 rw [<- e, (q3.row { s with a := permF s.a }).setAt 0, setRow_setRow]
 refine bodyPost_end (results_none rfl _ _ _) rfl ?_
 exact ⟨rfl, q3.row _, gb_trans (gb_below hb) (gb_row _ _ _)⟩
end
section
open Go Go.RowKit Bt
section
variable {P : Program} {ops : Array Oper} {Q : Exit -> Act -> World -> Prop} {md : Region.Mode} {S : World -> Prop} {m : Nat}
def wpAnyK (P : Program) (md : Region.Mode) (ops : Array Oper) (Q : Exit -> Act -> World -> Prop) (S : World -> Prop) (m : Nat) : Nat -> Array Bool -> Act -> World -> Prop
 | 0, listed, a, w => Region.ready md ops listed = [] /\ Q .normal a w
 | fuel + 1, listed, a, w => (Region.ready md ops listed = [] -> Q .normal a w) /\
  ∀ i ∈ Region.ready md ops listed, wpOp P ops Q i (fun a' w' => ((listed.setIfInBounds i true).getD m true = false -> S w') /\ wpAnyK P md ops Q S m fuel (listed.setIfInBounds i true) a' w') a w
theorem wpAny_of_K : ∀ (fuel : Nat) (listed : Array Bool) (a : Act) (w : World), wpAnyK P md ops Q S m fuel listed a w -> wpAny P md ops Q fuel listed a w
 | 0, _, _, _, h => h
 | fuel + 1, _, _, _, h => ⟨h.1, fun i hi => wpOp_mono (fun a' w' h' => wpAny_of_K fuel _ a' w' h'.2) (h.2 i hi)⟩
theorem wpAnyK_first {i : Nat} {oi : Oper} {v : Value} (hi : ops[i]? = some oi) (hsel : ∀ (j : Nat) (o : Oper) cs b, ops[j]? = some o -> o.op ≠ .select cs b)
  (hQ : ∀ c a w, Q (.panic c) (a.put oi.dst v) w -> Q (.panic c) a w) (hm : ∃ om, ops[m]? = some om /\ ∃ e ∈ om.after, Region.binds md e = true /\ e.on = i) (him : i ≠ m) :
  ∀ (fuel : Nat) (listed : Array Bool) (a : Act) (w : World), listed.getD m true = false ->
   (∀ j oj, ops[j]? = some oj -> j ≠ i -> listed.getD j true = false -> (∀ e ∈ oj.after, Region.binds md e = true -> e.on ≠ i) -> oi.apart ops oj = true) ->
   i ∈ Region.ready md ops listed -> YieldsIf P ops S oi v a -> S w ->
   wpAnyK P md ops Q S m fuel (listed.setIfInBounds i true) (a.put oi.dst v) w -> wpAnyK P md ops Q S m (fuel + 1) listed a w := by
 intro fuel
 induction fuel with
 | zero =>
  intro listed a w _ _ hr hy hS H
  refine ⟨fun h => (by rw [h] at hr; cases hr), fun j hj => ?_⟩
  by_cases hji : j = i
  ·subst hji; exact hy.wpOp hi hS ⟨fun _ => hS, H⟩
  ·have := ready_mono hj hji
   rw [H.1] at this
   cases this
 | succ fuel ih =>
  intro listed a w hml hfree hr hy hS H
  refine ⟨fun h => (by rw [h] at hr; cases hr), fun j hj => ?_⟩
  by_cases hji : j = i
  ·subst hji; exact hy.wpOp hi hS ⟨fun _ => hS, H⟩
  ·have h1 := H.2 j (ready_mono hj hji)
   obtain ⟨hjun, oj, hoj, hall⟩ := mem_ready.1 hj
   have hnot : ∀ e ∈ oj.after, Region.binds md e = true -> e.on ≠ i := fun e he hb heq => by
    have h1 := hall e he hb
    have h0 := (mem_ready.1 hr).1
    rw [heq] at h1
    rcases Nat.lt_or_ge i listed.size with h' | h'
    ·simp [h'] at h0 h1; rw [h0] at h1; cases h1
    ·simp [Array.getElem?_eq_none h'] at h1
   have hjm : j ≠ m := fun e => by
    obtain ⟨om, h3, x, h4, h5, h6⟩ := hm
    rw [<- e, hoj] at h3
    obtain rfl := Option.some.inj h3
    exact hnot x h4 h5 h6
   have h2 := wpOp_putIf hoj (hfree j oj hoj hji hjun hnot) (fun cs b => hsel i oi cs b hi) (fun cs b => hsel j oj cs b hoj) hQ hy h1
   have hfree' : ∀ k ok, ops[k]? = some ok -> k ≠ i -> (listed.setIfInBounds j true).getD k true = false ->
     (∀ e ∈ ok.after, Region.binds md e = true -> e.on ≠ i) -> oi.apart ops ok = true := fun k ok hk hki hun hno => by
    refine hfree k ok hk hki ?_ hno
    by_cases hjk : j = k
    ·subst hjk; exact hjun
    ·rw [getD_set_ne true hjk] at hun; exact hun
   have hm1 : (listed.setIfInBounds j true).getD m true = false := by rw [getD_set_ne true hjm]; exact hml
   have hm2 : ((listed.setIfInBounds i true).setIfInBounds j true).getD m true = false := by rw [getD_set_ne true hjm, getD_set_ne true him]; exact hml
   refine wpOp_mono (fun a' w' h3 => ⟨fun _ => h3.2.1 hm2, ih (listed.setIfInBounds j true) a' w' hm1 hfree' (ready_mono hr (Ne.symm hji)) h3.1 (h3.2.1 hm2) ?_⟩) h2
   rw [Array.setIfInBounds_comm _ _ hji]
   exact h3.2.2
def wpListS (P : Program) (ops : Array Oper) (Q : Exit -> Act -> World -> Prop) (S : World -> Prop) : List Oper -> Act -> World -> Prop
 | [], a, w => Q .normal a w
 | o :: rest, a, w => if Region.wanted o (yielded ops a.tmps) then o.wp P a w (fun a' w' => (rest ≠ [] -> S w') /\ wpListS P ops Q S rest a' w') Q else (rest ≠ [] -> S w) /\ wpListS P ops Q S rest (a.put o.dst undef) w
theorem wpListS_step {o : Oper} {rest : List Oper} {a : Act} {w : World} (h : ∀ K : Act -> World -> Prop, Hid (∀ a w, (rest ≠ [] -> S w) -> wpListS P ops Q S rest a w -> K a w) -> if Region.wanted o (yielded ops a.tmps) = true then o.wp P a w K Q else K (a.put o.dst undef) w) : wpListS P ops Q S (o :: rest) a w := by
 have := h _ (Lib.hid fun _ _ h1 h2 => And.intro h1 h2)
 unfold wpListS
 exact this
theorem wpListS_last {a : Act} {w : World} (h : Q .normal a w) : wpListS P ops Q S [] a w := h
theorem wpAnyK_of_seq : ∀ (l : List Oper) (k : Nat) (listed : Array Bool) (a : Act) (w : World), (∀ j, l[j]? = ops[k + j]?) ->
  Region.seqB md ops l.length k listed = true -> (l ≠ [] -> k + l.length = m + 1) -> wpListS P ops Q S l a w -> wpAnyK P md ops Q S m l.length listed a w
 | [], _, _, _, _, _, hB, _, h => ⟨by simpa [Region.seqB] using hB, h⟩
 | o :: l, k, listed, a, w, hl, hB, hm, h => by
  have h0 : ops[k]? = some o := by simpa using (hl 0).symm
  simp only [List.length_cons, Region.seqB, Bool.and_eq_true, decide_eq_true_eq] at hB
  refine ⟨fun h1 => (by rw [hB.1] at h1; cases h1), fun i hi => ?_⟩
  rw [hB.1] at hi
  have hik : i = k := by simpa using hi
  subst hik
  have hmm := hm (by simp)
  have hw : wpOp P ops Q i (fun a' w' => (l ≠ [] -> S w') /\ wpListS P ops Q S l a' w') a w := by
   unfold wpOp
   simp only [h0]
   unfold wpListS at h
   split at h
   ·rw [if_pos ‹_›]; exact .inl h
   ·rw [if_neg ‹_›]; exact h
  refine wpOp_mono (fun a' w' h' => ⟨fun hx => h'.1 (fun e => ?_), wpAnyK_of_seq l (i + 1) _ a' w' (fun j => by have := hl (j + 1); simpa [Nat.add_assoc, Nat.add_comm 1 j] using this) hB.2 (fun hne => by simp only [List.length_cons] at hmm; omega) h'.2⟩) hw
  subst e
  have e2 : i = m := by simp only [List.length_cons, List.length_nil] at hmm; omega
  subst e2
  rcases Nat.lt_or_ge i listed.size with hlt | hge
  ·simp [hlt] at hx
  ·simp at hx
def wpHeld (P : Program) (ops : Array Oper) (S : World -> Prop) (K : Act -> Prop) : List Oper -> Act -> Prop
 | [], a => K a
 | o :: l, a => ∃ v, YieldsIf P ops S o v a /\ wpHeld P ops S K l (a.put o.dst v)
theorem wpHeld_step {K : Act -> Prop} {o : Oper} {l : List Oper} {a : Act} {v : Value} (hw : Region.wanted o (yielded ops a.tmps) = true) (hy : ∀ w, S w -> (execOp a.eval o).run P w = .ok (.value v) w) (h : wpHeld P ops S K l (a.put o.dst v)) : wpHeld P ops S K (o :: l) a :=
 ⟨v, .inl ⟨hw, hy⟩, h⟩
def waitsB (md : Region.Mode) (ops : Array Oper) (m i : Nat) : Bool := match ops[m]? with
 | some om => om.after.any fun e => Region.binds md e && e.on == i
 | none => false
theorem waitsB_spec {i : Nat} (h : waitsB md ops m i = true) : ∃ om, ops[m]? = some om /\ ∃ e ∈ om.after, Region.binds md e = true /\ e.on = i := by
 unfold waitsB at h
 split at h
 ·rename_i om ho
  obtain ⟨e, he, hb⟩ := Array.any_eq_true'.1 h
  simp only [Bool.and_eq_true, beq_iff_eq] at hb
  exact ⟨om, ho, e, he, hb.1, hb.2⟩
 ·cases h
def lexHeldB (md : Region.Mode) (ops : Array Oper) (n : Nat) : Bool :=
 Region.noSelect ops && decide (n < ops.size) && (List.range n).all (waitsB md ops (ops.size - 1)) && Region.lexHead md ops (ops.size - n) n 0 (Array.replicate ops.size false)
theorem wpAnyK_lex {n g : Nat} (hsel : Region.noSelect ops = true) (hQ : ∀ c a d v w, Q (.panic c) (Act.put a d v) w -> Q (.panic c) a w) (hw : ∀ i, i < n -> waitsB md ops m i = true) {Lr : List Oper} (hLr : ∀ j, Lr[j]? = ops[n + j]?) (hLg : Lr.length = g) (hne : Lr ≠ []) (hmg : n + g = m + 1) :
  ∀ (l : List Oper) (k : Nat) (listed : Array Bool) (a : Act) (w : World), (∀ j, j < l.length -> l[j]? = ops[k + j]?) -> k + l.length = n -> listed.getD m true = false ->
   Region.lexHead md ops g l.length k listed = true -> S w -> wpHeld P ops S (fun a' => wpListS P ops Q S Lr a' w) l a -> wpAnyK P md ops Q S m (l.length + g) listed a w
 | [], k, listed, a, w, _, hk, _, hB, _, h => by
  have : k = n := by simpa using hk
  subst this
  rw [List.length_nil, Nat.zero_add, <- hLg]
  exact wpAnyK_of_seq Lr k listed a w hLr (by rw [hLg]; exact hB) (fun _ => by rw [hLg]; exact hmg) h
 | o :: l, k, listed, a, w, hl, hk, hml, hB, hS, h => by
  have h0 : ops[k]? = some o := by simpa using (hl 0 (by simp)).symm
  simp only [List.length_cons, Region.lexHead, Bool.and_eq_true] at hB
  obtain ⟨⟨hr, hf⟩, hB'⟩ := hB
  simp only [List.length_cons] at hk
  have hg : 0 < g := by rw [<- hLg]; exact List.length_pos_iff.2 hne
  have hkm : k ≠ m := by omega
  obtain ⟨v, hy, hK⟩ := h
  rw [show (o :: l).length + g = (l.length + g) + 1 by simp only [List.length_cons]; omega]
  exact wpAnyK_first h0 (Region.noSelect_spec hsel) (fun c a w => hQ c a o.dst v w) (waitsB_spec (hw k (by omega))) hkm _ listed a w hml (Region.free_spec h0 hf) (by simpa using hr) hy hS
   (wpAnyK_lex hsel hQ hw hLr hLg hne hmg l (k + 1) _ _ w (fun j hj => by have := hl (j + 1) (by simp; omega); simpa [Nat.add_assoc, Nat.add_comm 1 j] using this) (by omega) (by rw [getD_set_ne true hkm]; exact hml) hB' hS hK)
theorem region_held_tail {id : Nat} {a : Act} {w : World} {l : List Oper} (n : Nat) (S : World -> Prop) (hm : P.follows .mixedOrders = true) (hB : lexHeldB .any l.toArray n = true) (hQ : ∀ c a d v w, Q (.panic c) (Act.put a d v) w -> Q (.panic c) a w)
  (hS : S w.drew) (h : wpHeld P l.toArray S (fun a' => wpListS P l.toArray Q S (l.drop n) a' w.drew) (l.take n) a) : (Code.region id l.toArray true).wp P Q a w := by
 simp only [lexHeldB, Bool.and_eq_true, decide_eq_true_eq, List.all_eq_true, List.mem_range] at hB
 obtain ⟨⟨⟨hsel, hn⟩, hw⟩, hlex⟩ := hB
 have hn' : n < l.length := by simpa using hn
 have htl : (l.take n).length = n := by simp; omega
 have hdl : (l.drop n).length = l.toArray.size - n := by simp
 have hne : l.drop n ≠ [] := fun e => by rw [e] at hdl; simp at hdl; omega
 have H := wpAnyK_lex (P := P) (Q := Q) (md := .any) (S := S) (m := l.toArray.size - 1) (n := n) (g := l.toArray.size - n) hsel hQ hw (Lr := l.drop n) (fun j => by simp [List.getElem?_drop]) hdl hne (by simp; omega) (l.take n) 0 (Array.replicate l.toArray.size false) a w.drew (fun j hj => by
  have hj' : j < n := by rw [htl] at hj; exact hj
  simp [hj']) (by simpa using htl) (by
   rw [Array.getD_eq_getD_getElem?, Array.getElem?_replicate, if_pos (by simp; omega)]
   rfl) (by rw [htl]; exact hlex) hS h
 refine wp_region_any hm (wpAny_of_K (S := S) (m := l.toArray.size - 1) _ _ _ _ ?_)
 rw [htl, show n + (l.toArray.size - n) = l.toArray.size by omega] at H
 exact H
end
end
section
open Go.RowKit Go.Shelf Bt
attribute [local go_sem] vals_get? vals_get vals_size rowAt_at rowAt_past hasRow_at hasRow_past run_loadRow run_storeCells_row setRow_at setRow_past lt_s2 lt_s3 lt_s4 lt_s5 lt_s6
attribute [local go_sem ↓] loadRow_is
def lanX (f : Nat -> Nat) (i : Int) (n : Nat) (g : Nat -> Nat) (j : Nat) : Nat := (leN (fun t => (xorB f i n g t : Int)) (j * 8) 8).toNat
theorem lanX_is (f : Nat -> Nat) (i : Int) (n : Nat) (g : Nat -> Nat) (hg : ∀ j, j < n -> g j < 256) (j : Nat) : leN (fun t => (xorB f i n g t : Int)) (j * 8) 8 = (lanX f i n g j : Int) /\ lanX f i n g j < 18446744073709551616 := by
 have h := beN_bd (fun i' => (fun t => (xorB f i n g t : Int)) (j * 8 + (7 - i'))) 0 8 fun k _ => by
  have := xorB_lt f i n g hg (j * 8 + (7 - (0 + k)))
  dsimp only
  omega
 have e : beN (fun i' => (fun t => (xorB f i n g t : Int)) (j * 8 + (7 - i'))) 0 8 = leN (fun t => (xorB f i n g t : Int)) (j * 8) 8 := rfl
 rw [e] at h
 unfold lanX
 have h2 : (256 : Int) ^ 8 = 18446744073709551616 := by decide
 omega
theorem lanX_w (f : Nat -> Nat) (hf : ∀ j, j < 25 -> f j < 18446744073709551616) (i : Int) (hi : -9223372036854775808 <= i /\ i < 9223372036854775808) (b : Option Addr) (n cb : Nat) (hcb : n <= cb) (g : Nat -> Nat) (w : World) (hn : n <= 100000) (hr : reads w b n .u8 (fun j => (g j : Int))) (hg : ∀ j, j < n -> g j < 256) :
  Calls Tryz.prog 116 #[.agg (vals .u64 25 (fun j => (f j : Int))), .int .i64 i, .slice b n cb] w fun e w' => e = .returned (.agg (vals .u64 25 (fun j => (lanX f i n g j : Int)))) /\ Below w.heap.size w w' := by
 have h := lxorL_w f hf i hi b n cb hcb g w hn hr hg
 have e : (vals .u64 25 (fun j => leN (fun t => (xorB f i n g t : Int)) (j * 8) 8)) = vals .u64 25 (fun j => (lanX f i n g j : Int)) := vals_ext _ _ fun j _ => (lanX_is f i n g hg j).1
 rw [e] at h
 exact h
def turnS (s : Spg) : Spg := { s with a := permF (lanX (lanX s.a s.at_ 1 (fun _ => s.suf)) ((s.rate : Int) - 1) 1 (fun _ => 128)), at_ := 0, rd := true }
theorem Sp.alloc {w : World} {b : Nat} {s : Spg} (h : Sp w b s) (o : Obj) : Sp (w.alloc o) b s := h.below (Nat.le_refl _) ((Below.refl _ _).alloc (Nat.le_refl _) o)
theorem reads_one (w : World) (x : Nat) (T : TypeId) : reads (w.alloc (.cells #[.int .u8 x] T)).drew (some ⟨w.heap.size, 0, none⟩) 1 .u8 (fun _ => (x : Int)) :=
 reads_drewN 1 (reads_new w T (k := .u8) (n := 1) (fun _ => (x : Int)) rfl)
set_option maxRecDepth 100000 in
set_option maxHeartbeats 4000000 in
theorem turn_w (b : Nat) (s : Spg) (ha : ∀ j, j < 25 -> s.a j < 18446744073709551616) (hat : s.at_ < 1000) (hrt : s.rate < 1000) (hsf : s.suf < 256) (w : World) (hs : Sp w b s) (ht : TabK w) (hbt : b ≠ 8 /\ b ≠ 9) :
  Calls Tryz.prog 76 #[.pointer (some ⟨b, 0, none⟩)] w fun e w' => e = .returned (.tuple #[]) /\ Sp w' b (turnS s) /\ w.grownBy w' (some b) := by
 have HA := Lib.hid ha
 have HT := Lib.hid ht
 have HS := Lib.hid hs
 have hw8 : IntKind.u8.wrap (s.suf : Int) = (s.suf : Int) := by rw [IntKind.wrap_u8]; omega
 clear ha ht hs
 go_enter Tryz.func76, Tryz.ntmps76
 go_wp2_with fail
 refine region_held_tail 14 (fun W => Sp W b s) (by kernel_rfl) (by kernel_rfl) (fun _ _ d _ _ h => by cases d <;> exact h) HS.out.drew ?_
 simp only [List.take_succ_cons, List.take_zero, List.drop_succ_cons, List.drop_zero]
 iterate 14
  apply wpHeld_step rfl
  ·intro W hW
   have c1 := hW.at_
   have c2 := hW.suf
   have c3 := hW.load Tryz.prog
   go_simp
   exact rfl
  simp only [Act.put, List.setIfInBounds_toArray, List.set_cons_zero, List.set_cons_succ]
 unfold wpHeld
 refine wpListS_step fun K1 hK1 => ?_
 go_simp
 have S1 : Sp (w.alloc (Obj.cells #[.int .u8 (s.suf : Int)] 5)).drew b s := (HS.out.alloc _).drew
 refine hK1.out _ _ (fun _ => S1) ?_
 refine wpListS_step fun K2 hK2 => ?_
 go_simp
 refine (lanX_w s.a HA.out s.at_ (by omega) _ 1 1 (Nat.le_refl _) (fun _ => s.suf) _ (by omega) (reads_one _ _ _) (fun _ _ => hsf)).mono ?_
 rintro e w3 ⟨rfl, hb⟩
 have S3 := S1.below (Nat.le_refl _) hb
 refine hK2.out _ _ (fun _ => S3) ?_
 refine wpListS_step fun K3 hK3 => ?_
 go_simp
 refine hK3.out _ _ (fun _ => S3) ?_
 refine wpListS_step fun K4 hK4 => ?_
 go_simp
 refine hK4.out _ _ (fun _ => S3) ?_
 refine wpListS_step fun K5 hK5 => ?_
 have hst := S3.store Tryz.prog (lanX s.a s.at_ 1 (fun _ => s.suf))
 go_simp
 refine hK5.out _ _ (fun h => absurd rfl h) (wpListS_last ?_)
 have G1 : w.grownBy (w3.setRow b (spC { s with a := lanX s.a s.at_ 1 (fun _ => s.suf) })) (some b) := gb_trans (gb_call (gb_below (bl_alloc (bl_refl w)).drew) hb) (gb_row _ _ _)
 have S5 := S3.row { s with a := lanX s.a s.at_ 1 (fun _ => s.suf) }
 have hf1 : ∀ j, j < 25 -> lanX s.a s.at_ 1 (fun _ => s.suf) j < 18446744073709551616 := fun j _ => (lanX_is _ _ _ _ (fun _ _ => hsf) j).2
 generalize w3.setRow b (spC { s with a := lanX s.a s.at_ 1 (fun _ => s.suf) }) = w5 at G1 S5 ⊢
 obtain ⟨f1, ef1⟩ : ∃ f, Hid (f = lanX s.a s.at_ 1 (fun _ => s.suf)) := ⟨_, Lib.hid rfl⟩
 rw [<- ef1.out] at S5 hf1
 have HS5 := Lib.hid S5
 have HG1 := Lib.hid G1
 have HF1 := Lib.hid hf1
 clear S5 G1 hf1 S3 S1 hb hst hK1 hK2 hK3 hK4 hK5
 have hrt1 : IntKind.i64.wrap ((s.rate : Int) - 1) = (s.rate : Int) - 1 := by rw [IntKind.wrap_i64]; omega
 go_wp2_with fail
 refine region_held_tail 10 (fun W => Sp W b { s with a := f1 }) (by kernel_rfl) (by kernel_rfl) (fun _ _ d _ _ h => by cases d <;> exact h) HS5.out.drew ?_
 simp only [List.take_succ_cons, List.take_zero, List.drop_succ_cons, List.drop_zero]
 iterate 10
  apply wpHeld_step rfl
  ·intro W hW
   have c1 := hW.at_
   have c2 := hW.rate
   have c3 := hW.load Tryz.prog
   go_simp
   exact rfl
  simp only [Act.put, List.setIfInBounds_toArray, List.set_cons_zero, List.set_cons_succ]
 unfold wpHeld
 refine wpListS_step fun K1 hK1 => ?_
 go_simp
 have S1 : Sp (w5.alloc (Obj.cells #[.int .u8 ((128 : Nat) : Int)] 5)).drew b { s with a := f1 } := (HS5.out.alloc _).drew
 refine hK1.out _ _ (fun _ => S1) ?_
 refine wpListS_step fun K2 hK2 => ?_
 go_simp
 refine (lanX_w f1 HF1.out ((s.rate : Int) - 1) (by omega) _ 1 1 (Nat.le_refl _) (fun _ => 128) _ (by omega) (reads_one _ 128 _) (fun _ _ => by omega)).mono ?_
 rintro e w3 ⟨rfl, hb⟩
 have S3 := S1.below (Nat.le_refl _) hb
 refine hK2.out _ _ (fun _ => S3) ?_
 refine wpListS_step fun K3 hK3 => ?_
 go_simp
 refine hK3.out _ _ (fun _ => S3) ?_
 refine wpListS_step fun K4 hK4 => ?_
 go_simp
 refine hK4.out _ _ (fun _ => S3) ?_
 refine wpListS_step fun K5 hK5 => ?_
 have hst := S3.store Tryz.prog (lanX f1 ((s.rate : Int) - 1) 1 (fun _ => 128))
 go_simp
 refine hK5.out _ _ (fun h => absurd rfl h) (wpListS_last ?_)
 have G2 := gb_trans HG1.out (gb_trans (gb_call (gb_below (bl_alloc (bl_refl w5)).drew) hb) (gb_row w3 b (spC { s with a := lanX f1 ((s.rate : Int) - 1) 1 (fun _ => 128) })))
 have S6 := S3.row { s with a := lanX f1 ((s.rate : Int) - 1) 1 (fun _ => 128) }
 have hf2 : ∀ j, j < 25 -> lanX f1 ((s.rate : Int) - 1) 1 (fun _ => 128) j < 18446744073709551616 := fun j _ => (lanX_is _ _ _ _ (fun _ _ => by omega) j).2
 have hf2b : Hid (∀ j, j < 25 -> lanX f1 ((s.rate : Int) - 1) 1 (fun _ => 128) j < 18446744073709551616) := Lib.hid hf2
 generalize w3.setRow b (spC { s with a := lanX f1 ((s.rate : Int) - 1) 1 (fun _ => 128) }) = w6 at G2 S6 ⊢
 have T6 := Lib.hid (HT.out.grown hbt G2)
 have HS6 := Lib.hid S6
 have HG2 := Lib.hid G2
 clear S6 G2 hf2 S3 S1 hb hst hK1 hK2 hK3 hK4 hK5
 go_wp2_with (go_at_call 77; (refine (permute_w b _ hf2b.out _ HS6.out ⟨T6.out.off, T6.out.rc⟩).mono ?_); rintro e w7 ⟨rfl, S7, g7⟩; have c7 := S7.rd; have d7 := (S7.cell 28).2)
 rw [S7.setRd true]
 refine bodyPost_end (results_none rfl _ _ _) rfl ⟨rfl, ?_, ?_⟩
 ·unfold turnS
  rw [<- ef1.out]
  exact S7.row _
 ·exact gb_trans HG2.out (gb_trans g7 (gb_row _ _ _))
end
end Go.Proofs.YtdobjciaikofdaaGreatDoor
