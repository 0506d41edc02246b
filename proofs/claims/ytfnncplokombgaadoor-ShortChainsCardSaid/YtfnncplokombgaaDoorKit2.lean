/- General: many appended at once; stores into owned rows and into arrays in cells. Written by gen_kit2.py out of the texts of layers 3 and 14. -/
import Derived.Test.YtfnncplokombgaaDoorSlices
import Derived.Test.YtfnncplokombgaaDoorRange
import Derived.Test.YtfnncplokombgaaDoorProg
import Derived.WalkKit
import Derived.Lib.Walk
import Derived.Sort.Row
import Derived.Lib.SliceRun
import Derived.Laws.CopyOwn
import Derived.Deep.RegionHeld3
namespace Go.Proofs.YtfnncplokombgaaDoor
open Go.RowKit Go.Shelf Go.Lib Go.Sort
theorem vals_append (k : IntKind) (n m : Nat) (f g : Nat → Int) : (vals k n f).toList ++ (vals k m g).toList = (vals k (n + m) (fun j => if j < n then f j else g (j - n))).toList := by
  apply List.ext_getElem?
  intro j
  rw [List.getElem?_append]
  simp only [Array.getElem?_toList, Array.length_toList, vals_size]
  by_cases h : j < n
  · rw [if_pos h, vals_get? _ _ _ _ h, vals_get? _ _ _ _ (by omega), if_pos h]
  · rw [if_neg h]
    by_cases h2 : j < n + m
    · rw [vals_get? _ _ _ _ (by omega), vals_get? _ _ _ _ h2, if_neg h]
    · rw [Array.getElem?_eq_none (by rw [vals_size]; omega), Array.getElem?_eq_none (by rw [vals_size]; omega)]
theorem vals_one {k : IntKind} {n : Nat} {f : Nat → Int} : ∀ u ∈ (vals k n f).toList, u.oneCell' = true := by
  intro u hu
  simp only [vals, List.mem_map, List.mem_range] at hu
  obtain ⟨j, _, rfl⟩ := hu
  rfl
/-- what 'reads' tells, in the form that the laws on append ask -/
theorem reads_news {w : World} {ad : Addr} {n : Nat} {k : IntKind} {f : Nat → Int} (h : reads w (some ad) n k f) : ∀ (j : Nat) (u : Value), (vals k n f).toList[j]? = some u → w.cell? (ad.add j) = some u := by
  intro j u hu
  have hj : j < n := by
    rcases Nat.lt_or_ge j n with h1 | h1
    · exact h1
    · rw [Array.getElem?_toList, Array.getElem?_eq_none (by rw [vals_size]; omega)] at hu
      cases hu
  obtain ⟨b, off, e, hc⟩ := h (by omega)
  cases e
  rw [Array.getElem?_toList, vals_get? _ _ _ _ hj] at hu
  rw [Addr.add_lit, hc j hj]
  exact hu
section
variable {P : Program} {ops : Array Oper} {rest : List Oper} {o : Oper} {a : Act} {w : World} {Q : Exit → Act → World → Prop}
/-- 'append(s, x...)', s the call's own -/
theorem append_many {T e : TypeId} {bytes : Nat} (hT : EltT P T e bytes) (hgd : o.guard = none) (s x : Operand) (ho : o.op = .call { callee := .builtin .append, args := #[s, x], argTypes := #[T, T] })
    {base : Nat} {k : IntKind} {v : Value} {n : Nat} {f : Nat → Int} (hs : a.eval s = v) (hown : owns w base e k v n f) {ad : Addr} {m c : Nat} {g : Nat → Int}
    (hx : a.eval x = .slice (some ad) m c) (hr : reads w (some ad) m k g) (hn : n + m ≤ maxLen) (hby : (n + m) * bytes ≤ 140737488355328) (hbase : base ≤ w.heap.size)
    (h : ∀ v' w', owns w' base e k v' (n + m) (fun j => if j < n then f j else g (j - n)) → w.grownBy w' v.ownBlock → wpList P ops Q rest (a.put o.dst v') w') : wpList P ops Q (o :: rest) a w := by
  obtain ⟨hu, i, z, hi, hz, h1, h2, h3⟩ := hT
  refine wpList_append_own _ hgd s x T ho base e i z 1 bytes hu hi hz h1 h2 h3 (by decide) v n (vals k n f).toList hs hown ad m c (vals k m g).toList hx (by simp [vals_size]) (reads_news hr) vals_one hn hby hbase ?_
  intro v' w' h' hg _
  refine h v' w' ?_ hg
  unfold owns
  rw [← vals_append]
  exact h'
end
theorem heap_mapBlock (w : World) (g : Nat) (F : Array Value → Array Value) {cur : Array Value} {e : TypeId} {fr : Nat × Nat} (h : w.heap[g]? = some (.cells cur e fr)) : (mapBlock w g F).heap[g]? = some (.cells (F cur) e fr) := by
  simp [mapBlock, Array.getElem?_modify, h, onCells]
theorem heap_mapBlock_other (w : World) (g : Nat) (F : Array Value → Array Value) {k : Nat} (h : k ≠ g) : (mapBlock w g F).heap[k]? = w.heap[k]? := by
  simp [mapBlock, Array.getElem?_modify, show g ≠ k from fun e => h e.symm]
theorem size_mapBlock (w : World) (g : Nat) (F : Array Value → Array Value) : (mapBlock w g F).heap.size = w.heap.size := by simp [mapBlock]
theorem grownBy_mapBlock (w : World) (g : Nat) (F : Array Value → Array Value) : w.grownBy (mapBlock w g F) (some g) :=
  ⟨rfl, rfl, rfl, by rw [size_mapBlock]; exact Nat.le_refl _, fun k _ hk => heap_mapBlock_other w g F (fun e => hk (by rw [e]))⟩
theorem below_own {n₀ g : Nat} {w w' : World} (h : w.grownBy w' (some g)) (hg : n₀ ≤ g) (hn : n₀ ≤ w.heap.size) : Below n₀ w w' :=
  (Below.refl n₀ w).grown h hn (fun k e => by cases e; exact hg)
/-- where an owned slice's row lies -/
theorem owns_at {w : World} {base : Nat} {e : TypeId} {k : IntKind} {v : Value} {n : Nat} {f : Nat → Int} (h : owns w base e k v n f) (hn : 0 < n) :
    ∃ g cap, v = .slice (some ⟨g, 0, none⟩) n cap ∧ n ≤ cap ∧ base ≤ g ∧ g < w.heap.size ∧ ∀ j, j < n → w.cell? ⟨g, j, none⟩ = some (.int k (f j)) ∧ w.frozen? ⟨g, j, none⟩ = false := by
  have h0 := h
  rcases h.2 with ⟨_, h1⟩ | ⟨g, cap, cur, rfl, hb, hg, hnc, hc, hs, ht⟩
  · omega
  · refine ⟨g, cap, rfl, hnc, hb, ?_, fun j hj => ⟨?_, by simp [World.frozen?, hg]⟩⟩
    · rcases Nat.lt_or_ge g w.heap.size with hl | hl
      · exact hl
      · simp [hl] at hg
    · rw [World.ownsRow.cellAt h0 j (by omega), ← vals_get? k n f j hj]
      simp
theorem owns_mapBlock {w : World} {base : Nat} {e : TypeId} {k : IntKind} {n g cap : Nat} {f f' : Nat → Int} (h : owns w base e k (.slice (some ⟨g, 0, none⟩) n cap) n f) (F : Array Value → Array Value) (hF : ∀ c, (F c).size = c.size)
    (hc : ∀ c : Array Value, (∀ j, j < n → c[j]? = some (.int k (f j))) → ∀ j, j < n → (F c)[j]? = some (.int k (f' j))) : owns (mapBlock w g F) base e k (.slice (some ⟨g, 0, none⟩) n cap) n f' := by
  rcases h.2 with ⟨e0, _⟩ | ⟨g', cap', cur, e0, hb, hg, hnc, hcm, hs, ht⟩
  · cases e0
  · injection e0 with e1 _ e3
    injection e1 with e1
    injection e1 with e1
    subst e1; subst e3
    have hcur : ∀ j, j < n → cur[j]? = some (.int k (f j)) := by
      intro j hj
      have e1 : (cur.toList.take (n * 1))[j]? = (vals k n f).toList[j]? := by rw [ht]
      rw [List.getElem?_take, if_pos (by omega), Array.getElem?_toList, Array.getElem?_toList, vals_get? k n f j hj] at e1
      exact e1
    refine ⟨by simp [vals_size], .inr ⟨g, cap, F cur, rfl, hb, heap_mapBlock w g F hg, hnc, hcm, by rw [hF]; exact hs, ?_⟩⟩
    apply List.ext_getElem?
    intro j
    rw [List.getElem?_take]
    by_cases hj : j < n
    · rw [if_pos (by omega), Array.getElem?_toList, Array.getElem?_toList, vals_get? k n f' j hj, hc cur hcur j hj]
    · rw [if_neg (by omega), Array.getElem?_toList, Array.getElem?_eq_none (by rw [vals_size]; omega)]
theorem owns_setCell {w : World} {base : Nat} {e : TypeId} {k : IntKind} {n g cap : Nat} {f : Nat → Int} (h : owns w base e k (.slice (some ⟨g, 0, none⟩) n cap) n f) (i : Nat) (y : Int) :
    owns (w.setCell ⟨g, i, none⟩ (.int k y)) base e k (.slice (some ⟨g, 0, none⟩) n cap) n (fun j => if j = i then y else f j) := by
  rw [setCell_eq]
  refine owns_mapBlock h _ (by simp) fun c hc j hj => ?_
  have hlt : j < c.size := by
    have := hc j hj
    exact (Array.getElem?_eq_some_iff.1 this).1
  rw [Array.getElem?_setIfInBounds]
  by_cases hji : j = i
  · subst hji
    simp [hlt]
  · rw [if_neg (fun e => hji e.symm), if_neg hji, hc j hj]
theorem own_grown {W W' : World} {B : Nat} {e : TypeId} {k : IntKind} {v : Value} {n : Nat} {f : Nat → Int} (ho : owns W B e k v n f) (hg : W.grownBy W' v.ownBlock) (hB : B ≤ W.heap.size) : Below B W W' :=
  (Below.refl B W).grown hg hB (fun r hr => by
    rcases ho.2 with ⟨rfl, _⟩ | ⟨g, cap, cur, rfl, hb, _⟩
    · simp [Value.ownBlock] at hr
    · simp [Value.ownBlock] at hr
      omega)
theorem hasRow_below {w w1 : World} {g n B : Nat} (hB : w.heap.size ≤ B) (hb : Below B w w1) (h : hasRow w g n) : hasRow w1 g n := by
  obtain ⟨c, t, hg, hn⟩ := h
  refine ⟨c, t, ?_, hn⟩
  rw [hb.block g (Nat.lt_of_lt_of_le (by
    rcases Nat.lt_or_ge g w.heap.size with hl | hl
    · exact hl
    · simp [hl] at hg) hB)]
  exact hg
theorem hasRow_grown {w w1 : World} {g g' n : Nat} (hg : w.grownBy w1 (some g)) (hne : g' ≠ g) (h : hasRow w g' n) : hasRow w1 g' n := by
  obtain ⟨c, t, hh, hn⟩ := h
  refine ⟨c, t, ?_, hn⟩
  rw [hg.block g' (by
    rcases Nat.lt_or_ge g' w.heap.size with hl | hl
    · exact hl
    · simp [hl] at hh) (fun e => hne (by cases e; rfl))]
  exact hh
theorem row_setRow {w : World} {g n : Nat} (h : hasRow w g n) (c : Array Value) (hc : c.size = n) : hasRow (w.setRow g c) g n ∧ rowAt (w.setRow g c) g = c ∧ w.grownBy (w.setRow g c) (some g) := by
  obtain ⟨c0, t, hg, hn⟩ := h
  have h1 : (w.setRow g c).heap[g]? = some (.cells c t (0, 0)) := setRow_heap w g c0 _ t _ hg
  refine ⟨⟨c, t, h1, hc⟩, ?_, ⟨rfl, rfl, rfl, by simp [World.setRow], fun k _ hk => setRow_other w g k _ (fun e => hk (by rw [e]))⟩⟩
  unfold rowAt
  rw [h1]
section
variable {P : Program} {ops : Array Oper} {rest : List Oper} {o : Oper} {a : Act} {w : World} {Q : Exit → Act → World → Prop}
/-- 'copy(arr[:], s)', as many as the array has -/
theorem copy_row {T sT e : TypeId} (hu : P.underlying T = some (.slice e)) (hsz : (P.info? e).map (·.size) = some 1) (hgd : o.guard = none) (d s : Operand) (ho : o.op = .call { callee := .builtin .copy, args := #[d, s], argTypes := #[T, sT] })
    {g n c c' : Nat} {ad : Addr} {k : IntKind} {h : Nat → Int} (hd : a.eval d = .slice (some ⟨g, 0, none⟩) n c) (hs : a.eval s = .slice (some ad) n c') (hrow : hasRow w g n) (hr : reads w (some ad) n k h)
    (hK : ∀ w', hasRow w' g n → rowAt w' g = vals k n h → w.grownBy w' (some g) → wpList P ops Q rest (a.put o.dst (goInt n)) w') : wpList P ops Q (o :: rest) a w := by
  have hrow0 := hrow
  obtain ⟨cur, t, hg, hn⟩ := hrow
  refine wpList_copy_own hgd d s T sT ho e hu hsz g 0 n c ad n c' hd hs cur t hg (vals k n h).toList (by simp [vals_size]) (reads_news hr) (by simp [vals_size, hn]) vals_one ?_
  have e1 : (cur.toList.take 0 ++ ((vals k n h).toList ++ cur.toList.drop (0 + (vals k n h).toList.length))).toArray = vals k n h := by
    rw [List.take_zero, List.nil_append, Nat.zero_add, Array.length_toList, vals_size, List.drop_of_length_le (by simp [hn]), List.append_nil]
  have e2 : (vals k n h).toList.length = n := by simp [vals_size]
  rw [e1, e2]
  obtain ⟨q1, q2, q3⟩ := row_setRow hrow0 (vals k n h) (vals_size _ _ _)
  exact hK _ q1 q2 q3
end
theorem step_copy_row {P : Program} {ops : Array Oper} {o : Oper} {a : Act} {w : World} {K : Act → World → Prop} {Q : Exit → Act → World → Prop} {E : Prop} {T sT e : TypeId} (hu : P.underlying T = some (.slice e)) (hsz : (P.info? e).map (·.size) = some 1) (hgd : o.guard = none) (d s : Operand) (ho : o.op = .call { callee := .builtin .copy, args := #[d, s], argTypes := #[T, sT] })
    {g n c c' : Nat} {ad : Addr} {k : IntKind} {h : Nat → Int} (hd : a.eval d = .slice (some ⟨g, 0, none⟩) n c) (hs : a.eval s = .slice (some ad) n c') (hrow : hasRow w g n) (hr : reads w (some ad) n k h)
    (hK : ∀ w', hasRow w' g n → rowAt w' g = vals k n h → w.grownBy w' (some g) → K (a.put o.dst (goInt n)) w') : if Region.wanted o (yielded ops a.tmps) = true then Oper.wp P o a w K Q else E := by
  have hw : Region.wanted o (yielded ops a.tmps) = true := by simp [Region.wanted, hgd]
  rw [if_pos hw]
  have hrow0 := hrow
  obtain ⟨cur, t, hg, hn⟩ := hrow
  have e1 : (cur.toList.take 0 ++ (vals k n h).toList ++ cur.toList.drop (0 + (vals k n h).toList.length)).toArray = vals k n h := by
    rw [List.take_zero, List.nil_append, Nat.zero_add, Array.length_toList, vals_size, List.drop_of_length_le (by simp [hn]), List.append_nil]
  have e2 : (vals k n h).toList.length = n := by simp [vals_size]
  have hrun := run_copy_row (P := P) w T sT o.type e g 0 n c ad n c' cur t (vals k n h).toList hu hsz hg (by simp [vals_size]) (reads_news hr) (by simp [vals_size, hn]) vals_one
  rw [e1, e2] at hrun
  obtain ⟨q1, q2, q3⟩ := row_setRow hrow0 (vals k n h) (vals_size _ _ _)
  unfold Oper.wp
  simp [execOp, ho, resolve, invoke, builtin, hd, hs, hrun, Result.andThen]
  exact hK _ q1 q2 q3
theorem below_setRow' {B g : Nat} {w : World} (hB : B ≤ g) (c : Array Value) : Below B w (w.setRow g c) :=
  (Below.refl B w).trans ⟨rfl, rfl, rfl, by simp [World.setRow], fun k hk => setRow_other w g k c (by omega)⟩
theorem cell_of_hasRow {w : World} {g n : Nat} {k : IntKind} {f : Nat → Int} (h : hasRow w g n) (hr : rowAt w g = vals k n f) {i : Nat} (hi : i < n) : w.cell? ⟨g, i, none⟩ = some (.int k (f i)) ∧ w.frozen? ⟨g, i, none⟩ = false := by
  obtain ⟨c, t, hg, hn⟩ := h
  unfold rowAt at hr
  rw [hg] at hr
  subst hr
  refine ⟨?_, by simp [World.frozen?, hg]⟩
  rw [cell_of_row w g i _ t (0, 0) hg, vals_get? k n f i hi]
theorem row_setCell {w : World} {g n : Nat} {k : IntKind} {f : Nat → Int} (h : hasRow w g n) (hr : rowAt w g = vals k n f) (i : Nat) (y : Int) :
    hasRow (w.setCell ⟨g, i, none⟩ (.int k y)) g n ∧ rowAt (w.setCell ⟨g, i, none⟩ (.int k y)) g = vals k n (fun j => if j = i then y else f j) ∧ w.grownBy (w.setCell ⟨g, i, none⟩ (.int k y)) (some g) := by
  obtain ⟨c, t, hg, hn⟩ := h
  unfold rowAt at hr
  rw [hg] at hr
  subst hr
  rw [Sort.setCell_eq]
  have h1 := heap_mapBlock w g (·.setIfInBounds i (.int k y)) hg
  have e : (vals k n f).setIfInBounds i (.int k y) = vals k n (fun j => if j = i then y else f j) := by
    apply Array.ext_getElem?
    intro j
    rw [Array.getElem?_setIfInBounds]
    by_cases hj : j < n
    · rw [vals_get? k n f j hj, vals_get? k n (fun j => if j = i then y else f j) j hj]
      by_cases hji : j = i
      · subst hji
        simp [vals_size, hj]
      · rw [if_neg (fun e => hji e.symm), if_neg hji]
    · rw [vals_get?_none _ _ _ _ (by omega), vals_get?_none _ _ _ _ (by omega)]
      split
      · rename_i e; subst e; simp [vals_size, hj]
      · rfl
  refine ⟨⟨_, t, h1, by simp [vals_size]⟩, ?_, grownBy_mapBlock _ _ _⟩
  unfold rowAt
  rw [h1]
  exact e
theorem reads_grown {w w1 : World} {g' o g n : Nat} {k : IntKind} {f : Nat → Int} (hg : w.grownBy w1 (some g)) (hne : g' ≠ g) (h : reads w (some ⟨g', o, none⟩) n k f) : reads w1 (some ⟨g', o, none⟩) n k f := by
  intro hn
  obtain ⟨b, off, e, hc⟩ := h hn
  refine ⟨b, off, e, fun j hj => ?_⟩
  cases e
  have h1 := hc j hj
  rw [World.cell?_of_block (w := w) (w' := w1) (a := ⟨g', o + j, none⟩) (hg.block g' (cell_lt h1) (fun e => hne (by cases e; rfl)))]
  exact h1
theorem lt_of_hasRow {w : World} {g n : Nat} (h : hasRow w g n) : g < w.heap.size := by
  obtain ⟨c, t, hg, _⟩ := h
  rcases Nat.lt_or_ge g w.heap.size with hl | hl
  · exact hl
  · simp [hl] at hg
theorem row_below {w w1 : World} {g n : Nat} {c : Array Value} (hb : Below w.heap.size w w1) (h : hasRow w g n ∧ rowAt w g = c) : hasRow w1 g n ∧ rowAt w1 g = c := by
  refine ⟨hasRow_below (Nat.le_refl _) hb h.1, ?_⟩
  rw [← h.2]
  unfold rowAt
  rw [hb.block _ (lt_of_hasRow h.1)]
theorem reads_new (w : World) {cs : Array Value} (e : TypeId) {n : Nat} {k : IntKind} (f : Nat → Int) (h : cs = vals k n f) : reads (w.alloc (.cells cs e)) (some ⟨w.heap.size, 0, none⟩) n k f := by
  subst h
  intro _
  refine ⟨_, _, rfl, fun j hj => ?_⟩
  rw [World.cell?_alloc_new, Nat.zero_add, vals_get? _ _ _ _ hj]
end Go.Proofs.YtfnncplokombgaaDoor
