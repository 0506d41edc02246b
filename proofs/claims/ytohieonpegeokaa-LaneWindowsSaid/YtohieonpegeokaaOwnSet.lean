/- Stores into a row that the call owns. -/
import Derived.Test.YtohieonpegeokaaBytes
import Derived.Lib.OwnBridge
namespace Go.Proofs.Ytohieonpegeokaa
open Go.RowKit Go.Shelf Go.Lib Go.Sort

theorem heap_mapBlock (w : World) (g : Nat) (F : Array Value → Array Value) {cur : Array Value} {e : TypeId} {fr : Nat × Nat} (h : w.heap[g]? = some (.cells cur e fr)) : (mapBlock w g F).heap[g]? = some (.cells (F cur) e fr) := by
  simp [mapBlock, Array.getElem?_modify, h, onCells]
theorem heap_mapBlock_other (w : World) (g : Nat) (F : Array Value → Array Value) {k : Nat} (h : k ≠ g) : (mapBlock w g F).heap[k]? = w.heap[k]? := by
  simp [mapBlock, Array.getElem?_modify, show g ≠ k from fun e => h e.symm]
theorem size_mapBlock (w : World) (g : Nat) (F : Array Value → Array Value) : (mapBlock w g F).heap.size = w.heap.size := by simp [mapBlock]
theorem grownBy_mapBlock (w : World) (g : Nat) (F : Array Value → Array Value) : w.grownBy (mapBlock w g F) (some g) :=
  ⟨rfl, rfl, rfl, by rw [size_mapBlock]; exact Nat.le_refl _, fun k _ hk => heap_mapBlock_other w g F (fun e => hk (by rw [e]))⟩
theorem grownBy_putRow (w : World) (g off q : Nat) (d : Array Int) : w.grownBy (putRow encB (Sort.ahead w q) g off d) (some g) :=
  ⟨rfl, rfl, rfl, by simp [Sort.ahead], fun k _ hk => by
    unfold putRow
    rw [heap_mapBlock_other _ _ _ (fun e => hk (by rw [e]))]
    rfl⟩
theorem below_own {n₀ g : Nat} {w w' : World} (h : w.grownBy w' (some g)) (hg : n₀ ≤ g) (hn : n₀ ≤ w.heap.size) : Below n₀ w w' :=
  (Below.refl n₀ w).grown h hn (fun k e => by cases e; exact hg)

/-- where an owned slice's row lies -/
theorem owns_at {w : World} {base : Nat} {e : TypeId} {k : IntKind} {v : Value} {n : Nat} {f : Nat → Int} (h : owns w base e k v n f) (hn : 0 < n) :
    ∃ g cap, v = .slice (some ⟨g, 0, none⟩) n cap ∧ n ≤ cap ∧ base ≤ g ∧ g < w.heap.size ∧ ∀ j, j < n → w.cell? ⟨g, j, none⟩ = some (.int k (f j)) ∧ w.frozen? ⟨g, j, none⟩ = false := by
  have h0 := h
  rcases h.2 with ⟨_, h1⟩ | ⟨g, cap, cur, rfl, hb, hg, hnc, hc, hs, ht⟩
  · omega
  · refine ⟨g, cap, rfl, hnc, hb, ?_, fun j hj => ⟨?_, by simp [World.frozen?, hg]⟩⟩
    · rcases Nat.lt_or_ge g w.heap.size with hl | hl
      · exact hl
      · simp [hl] at hg
    · rw [World.ownsRow.cellAt h0 j (by omega), ← vals_get? k n f j hj]
      simp
theorem owns_mapBlock {w : World} {base : Nat} {e : TypeId} {k : IntKind} {n g cap : Nat} {f f' : Nat → Int} (h : owns w base e k (.slice (some ⟨g, 0, none⟩) n cap) n f) (F : Array Value → Array Value) (hF : ∀ c, (F c).size = c.size)
    (hc : ∀ c : Array Value, (∀ j, j < n → c[j]? = some (.int k (f j))) → ∀ j, j < n → (F c)[j]? = some (.int k (f' j))) : owns (mapBlock w g F) base e k (.slice (some ⟨g, 0, none⟩) n cap) n f' := by
  rcases h.2 with ⟨e0, _⟩ | ⟨g', cap', cur, e0, hb, hg, hnc, hcm, hs, ht⟩
  · cases e0
  · injection e0 with e1 _ e3
    injection e1 with e1
    injection e1 with e1
    subst e1; subst e3
    have hcur : ∀ j, j < n → cur[j]? = some (.int k (f j)) := by
      intro j hj
      have e1 : (cur.toList.take (n * 1))[j]? = (vals k n f).toList[j]? := by rw [ht]
      rw [List.getElem?_take, if_pos (by omega), Array.getElem?_toList, Array.getElem?_toList, vals_get? k n f j hj] at e1
      exact e1
    refine ⟨by simp [vals_size], .inr ⟨g, cap, F cur, rfl, hb, heap_mapBlock w g F hg, hnc, hcm, by rw [hF]; exact hs, ?_⟩⟩
    apply List.ext_getElem?
    intro j
    rw [List.getElem?_take]
    by_cases hj : j < n
    · rw [if_pos (by omega), Array.getElem?_toList, Array.getElem?_toList, vals_get? k n f' j hj, hc cur hcur j hj]
    · rw [if_neg (by omega), Array.getElem?_toList, Array.getElem?_eq_none (by rw [vals_size]; omega)]
theorem owns_setCell {w : World} {base : Nat} {e : TypeId} {k : IntKind} {n g cap : Nat} {f : Nat → Int} (h : owns w base e k (.slice (some ⟨g, 0, none⟩) n cap) n f) (i : Nat) (y : Int) :
    owns (w.setCell ⟨g, i, none⟩ (.int k y)) base e k (.slice (some ⟨g, 0, none⟩) n cap) n (fun j => if j = i then y else f j) := by
  rw [setCell_eq]
  refine owns_mapBlock h _ (by simp) fun c hc j hj => ?_
  have hlt : j < c.size := by
    have := hc j hj
    exact (Array.getElem?_eq_some_iff.1 this).1
  rw [Array.getElem?_setIfInBounds]
  by_cases hji : j = i
  · subst hji
    simp [hlt]
  · rw [if_neg (fun e => hji e.symm), if_neg hji, hc j hj]
theorem owns_putRow {w : World} {base : Nat} {e : TypeId} {n g cap : Nat} {f : Nat → Int} (h : owns w base e .u8 (.slice (some ⟨g, 0, none⟩) n cap) n f) (off q : Nat) (d : Array Int) :
    owns (putRow encB (Sort.ahead w q) g off d) base e .u8 (.slice (some ⟨g, 0, none⟩) n cap) n (fun j => if off ≤ j ∧ j < off + d.size then d[j - off]! else f j) := by
  have h' : owns (Sort.ahead w q) base e .u8 (.slice (some ⟨g, 0, none⟩) n cap) n f := h
  refine owns_mapBlock h' _ (by simp [putCells]) fun c hc j hj => ?_
  simp only [putCells, Array.getElem?_mapIdx, hc j hj, Option.map_some]
  split <;> rfl
/-- so many numbers of f from o on, as an array -/
def arrN (f : Nat → Int) (o n : Nat) : Array Int := ((List.range n).map (fun j => f (o + j))).toArray
theorem size_arrN (f : Nat → Int) (o n : Nat) : (arrN f o n).size = n := by simp [arrN]
theorem arrN_get (f : Nat → Int) (o n : Nat) {j : Nat} (h : j < n) : (arrN f o n)[j]! = f (o + j) := by
  rw [getElem!_pos _ j (by rw [size_arrN]; exact h)]
  simp [arrN]
theorem arrN_rev (f : Nat → Int) (o n : Nat) {j : Nat} (h : j < n) : (arrN f o n).reverse[j]! = f (o + (n - 1 - j)) := by
  rw [getElem!_pos _ j (by rw [Array.size_reverse, size_arrN]; exact h), Array.getElem_reverse]
  simp [arrN]
theorem holds_arrN {w : World} {g o n : Nat} {f : Nat → Int} (h : ∀ j, j < n → w.cell? ⟨g, o + j, none⟩ = some (.int .u8 (f (o + j))) ∧ w.frozen? ⟨g, o + j, none⟩ = false) : Holds encB w g o (arrN f o n) := by
  intro j hj
  rw [size_arrN] at hj
  rw [arrN_get f o n hj]
  exact h j hj

theorem byte_shr (x m : Nat) : (x : Int) / 2 ^ (8 * m) % 256 = ((x / 256 ^ m % 256 : Nat) : Int) := by
  have e : (x : Int) / 2 ^ (8 * m) = ((x / 256 ^ m : Nat) : Int) := by
    rw [show (256 : Nat) ^ m = 2 ^ (8 * m) by rw [Nat.pow_mul]]
    simp
  rw [e]
  rfl
/-! turned, piece by piece -/
def revAt (f : Nat → Int) (o sz : Nat) (j : Nat) : Int := if o ≤ j ∧ j < o + sz then f (o + (sz - 1 - (j - o))) else f j
def stepT (sz len M : Nat) (h : Nat → Int) (x : Nat) : Nat → Int := if min x M * sz + sz ≤ len then revAt h (min x M * sz) sz else h
def foldT (f : Nat → Int) (sz len M : Nat) (pre : List Nat) : Nat → Int := pre.foldl (stepT sz len M) f
theorem foldT_snoc (f : Nat → Int) (sz len M : Nat) (pre : List Nat) (x : Nat) : foldT f sz len M (pre ++ [x]) = stepT sz len M (foldT f sz len M pre) x := by simp [foldT]
def turnI (f : Nat → Int) (sz len j : Nat) : Int := if (j / sz + 1) * sz ≤ len then f (j / sz * sz + (sz - 1 - j % sz)) else f j
theorem foldT_range (f : Nat → Int) (sz len : Nat) (h : 1 ≤ sz) : ∀ c, c * sz < len + sz → ∀ j, foldT f sz len ((len - 1) / sz) (List.range c) j = if j / sz < c then turnI f sz len j else f j
  | 0, _, j => by simp [foldT]
  | c + 1, hc, j => by
    rw [Nat.succ_mul] at hc
    have ih := foldT_range f sz len h c (by omega)
    rw [List.range_succ, foldT_snoc]
    have hM : min c ((len - 1) / sz) = c := Nat.min_eq_left ((Nat.le_div_iff_mul_le (by omega)).2 (by omega))
    unfold stepT
    rw [hM]
    obtain ⟨o, ho⟩ : ∃ o, o = c * sz := ⟨_, rfl⟩
    have hj1 := Nat.div_add_mod j sz
    have hj2 := Nat.mod_lt j (show 0 < sz by omega)
    rw [Nat.mul_comm] at hj1
    rw [← ho] at hc ⊢
    have hdiv : ∀ i, i / sz = c ↔ o ≤ i ∧ i < o + sz := by
      intro i
      constructor
      · intro e
        have h1 := Nat.div_add_mod i sz
        have h2 := Nat.mod_lt i (show 0 < sz by omega)
        rw [e, Nat.mul_comm, ← ho] at h1
        omega
      · intro ⟨e1, e2⟩
        have h1 : c ≤ i / sz := (Nat.le_div_iff_mul_le (by omega)).2 (by omega)
        have h2 : i / sz < c + 1 := (Nat.div_lt_iff_lt_mul (by omega)).2 (by rw [Nat.succ_mul]; omega)
        omega
    by_cases hin : j / sz = c
    · obtain ⟨e1, e2⟩ := (hdiv j).1 hin
      have e3 : j % sz = j - o := by rw [hin, ← ho] at hj1; omega
      by_cases hfull : o + sz ≤ len
      · rw [if_pos hfull, if_pos (by omega)]
        unfold revAt
        rw [if_pos ⟨e1, e2⟩, ih, if_neg (by rw [(hdiv _).2 ⟨by omega, by omega⟩]; omega)]
        unfold turnI
        rw [hin, Nat.succ_mul, ← ho, if_pos hfull, e3]
      · rw [if_neg hfull, ih, if_neg (by omega), if_pos (by omega)]
        unfold turnI
        rw [hin, Nat.succ_mul, ← ho, if_neg hfull]
    · have hnin : ¬ (o ≤ j ∧ j < o + sz) := fun e => hin ((hdiv j).2 e)
      have e4 : (if o + sz ≤ len then revAt (foldT f sz len ((len - 1) / sz) (List.range c)) o sz else foldT f sz len ((len - 1) / sz) (List.range c)) j = foldT f sz len ((len - 1) / sz) (List.range c) j := by
        split
        · unfold revAt
          rw [if_neg hnin]
        · rfl
      rw [e4, ih]
      by_cases hlt : j / sz < c
      · rw [if_pos hlt, if_pos (by omega)]
      · rw [if_neg hlt, if_neg (by omega)]
end Go.Proofs.Ytohieonpegeokaa
