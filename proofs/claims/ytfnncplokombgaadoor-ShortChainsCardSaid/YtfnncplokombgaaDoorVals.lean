/- Arrays of numbers as one word: 'vals k n f' is the array of the n numbers f 0, f 1, .. of kind k. Reading, storing, and the laws of a whole array in memory. -/
import Derived.Test.YtfnncplokombgaaDoorBase
import Derived.Laws.Rows
import Derived.Laws.Tables
import Derived.Below
import Derived.Deep.Draws
import Derived.StillTailTactics
namespace Go.Proofs.YtfnncplokombgaaDoor
open Go.RowKit

def vals (k : IntKind) (n : Nat) (f : Nat → Int) : Array Value := ((List.range n).map fun j => Value.int k (f j)).toArray
theorem vals_size (k : IntKind) (n : Nat) (f : Nat → Int) : (vals k n f).size = n := by simp [vals]
theorem vals_get? (k : IntKind) (n : Nat) (f : Nat → Int) (j : Nat) (h : j < n) : (vals k n f)[j]? = some (.int k (f j)) := by
  simp [vals, h]
theorem vals_get (k : IntKind) (n : Nat) (f : Nat → Int) (j : Nat) (h : j < (vals k n f).size) : (vals k n f)[j] = .int k (f j) := by
  have h2 : j < n := by rw [vals_size] at h; exact h
  have := vals_get? k n f j h2
  rw [Array.getElem?_eq_getElem h] at this
  exact Option.some.inj this
theorem vals_get?_none (k : IntKind) (n : Nat) (f : Nat → Int) (j : Nat) (h : n ≤ j) : (vals k n f)[j]? = none := by
  simp [vals, h]
theorem vals_ext (k : IntKind) (n : Nat) {f g : Nat → Int} (h : ∀ j, j < n → f j = g j) : vals k n f = vals k n g := by
  apply Array.ext_getElem?
  intro j
  by_cases hj : j < n
  · rw [vals_get? _ _ _ _ hj, vals_get? _ _ _ _ hj, h j hj]
  · rw [vals_get?_none _ _ _ _ (by omega), vals_get?_none _ _ _ _ (by omega)]
def upd (f : Nat → Int) (i : Nat) (v : Int) : Nat → Int := fun j => if j = i then v else f j
theorem vals_set (k : IntKind) (n : Nat) (f : Nat → Int) (i : Nat) (v : Int) : (vals k n f).setIfInBounds i (.int k v) = vals k n (upd f i v) := by
  apply Array.ext_getElem?
  intro j
  rw [Array.getElem?_setIfInBounds]
  by_cases hj : j < n
  · rw [vals_get? _ _ _ _ hj, vals_get? _ _ _ _ hj, vals_size]
    unfold upd
    by_cases e : i = j
    · subst e; simp [hj]
    · have e' : ¬ j = i := fun h => e h.symm
      simp [e, e']
  · rw [vals_get?_none _ _ _ _ (by omega), vals_get?_none _ _ _ _ (by omega), vals_size]
    by_cases e : i = j
    · subst e; simp only [if_true]; rw [if_neg hj]
    · rw [if_neg e]
theorem vals_fill (k : IntKind) (n : Nat) (f g : Nat → Int) (i : Nat) (v : Int) (hv : v = f i) : vals k n (upd (fun j => if j < i then f j else g j) i v) = vals k n (fun j => if j < i + 1 then f j else g j) := by
  subst hv
  apply vals_ext
  intro j _
  unfold upd
  by_cases e : j = i
  · subst e; simp
  · by_cases e2 : j < i
    · have : j < i + 1 := by omega
      simp [e, e2, this]
    · have : ¬ j < i + 1 := by omega
      simp [e, e2, this]
theorem vals_keep (k : IntKind) (n : Nat) (f g : Nat → Int) (i : Nat) (h : f i = g i) : vals k n (fun j => if j < i then f j else g j) = vals k n (fun j => if j < i + 1 then f j else g j) := by
  apply vals_ext
  intro j _
  by_cases e : j = i
  · subst e; simp [h]
  · by_cases e2 : j < i
    · have : j < i + 1 := by omega
      simp [e2, this]
    · have : ¬ j < i + 1 := by omega
      simp [e2, this]
theorem vals_full (k : IntKind) (n : Nat) (f g : Nat → Int) : vals k n (fun j => if j < n then f j else g j) = vals k n f :=
  vals_ext _ _ fun j hj => by simp [hj]
theorem vals_none (k : IntKind) (n : Nat) (f g : Nat → Int) : vals k n (fun j => if j < 0 then f j else g j) = vals k n g :=
  vals_ext _ _ fun j hj => by simp
theorem vals_zero (k : IntKind) (n : Nat) : vals k n (fun _ => 0) = Array.replicate n (.int k 0) := by
  apply Array.ext_getElem?
  intro j
  by_cases hj : j < n
  · rw [vals_get? _ _ _ _ hj]; simp [hj]
  · rw [vals_get?_none _ _ _ _ (by omega)]; simp [hj]
theorem vals_cells (k : IntKind) (n : Nat) (f : Nat → Int) : (Value.agg (vals k n f)).cells = vals k n f := rfl
/-- a number's bits, each a number -/
def bitI (f : Nat → Bool) : Nat → Int := fun j => ((f j).toNat : Nat)

theorem bitI_nonneg (f : Nat → Bool) (k : Nat) : 0 ≤ bitI f k := by unfold bitI; omega
theorem bitI_le (f : Nat → Bool) (k : Nat) : bitI f k ≤ 1 := by unfold bitI; cases f k <;> simp
theorem maj_bit (f g h : Nat → Bool) (k : Nat) : (bitI f k + bitI g k + bitI h k) / 2 = bitI (fun i => ((f i).toNat + (g i).toNat + (h i).toNat) / 2 == 1) k := by
  simp only [bitI]
  cases f k <;> cases g k <;> cases h k <;> rfl
theorem xor_bit (f g : Nat → Bool) (k : Nat) : (bitI f k + bitI g k) % 2 = bitI (fun i => ((f i).toNat + (g i).toNat) % 2 == 1) k := by
  simp only [bitI]
  cases f k <;> cases g k <;> rfl
theorem heap_at (w : World) (o : Obj) (n : Nat) (h : n = w.heap.size) : (w.alloc o).heap[n]? = some o := by rw [h]; exact heap_alloc_new w o
theorem heap_past (w : World) (o o' : Obj) (n : Nat) (h : n < w.heap.size) (hw : w.heap[n]? = some o') : (w.alloc o).heap[n]? = some o' := by
  rw [Below.heap_alloc w o n h]; exact hw
theorem setRow_at (w : World) (c c' : Array Value) (t : TypeId) (n : Nat) (h : n = w.heap.size) : (w.alloc (.cells c t)).setRow n c' = w.alloc (.cells c' t) := by
  rw [h]
  unfold World.setRow World.alloc
  congr 1
  apply Array.ext_getElem?
  intro k
  rw [Array.getElem?_modify]
  by_cases hk : w.heap.size = k
  · subst hk; simp
  · have hk' : k ≠ w.heap.size := fun e => hk e.symm
    simp [hk, hk', Array.getElem?_push]
theorem setRow_past (w : World) (c : Array Value) (o : Obj) (n : Nat) (h : n < w.heap.size) : (w.alloc o).setRow n c = (w.setRow n c).alloc o := by
  unfold World.setRow World.alloc
  congr 1
  apply Array.ext_getElem?
  intro k
  simp only [Array.getElem?_modify, Array.getElem?_push, Array.size_modify]
  by_cases hk : k = w.heap.size
  · subst hk
    simp [Nat.ne_of_lt h]
  · simp [hk]

/-- type T is an array of n cells -/
def ArrT (P : Program) (T : TypeId) (n : Nat) : Prop :=
  ∃ l e, P.underlying T = some (.array l e) ∧ (P.info? T).map (·.size) = some n
theorem vals_oneCell (k : IntKind) (n : Nat) (f : Nat → Int) : (vals k n f).all (·.oneCell') = true := by
  rw [Array.all_eq_true_iff_forall_mem]
  intro v hv
  simp only [vals, List.mem_toArray, List.mem_map] at hv
  obtain ⟨j, _, rfl⟩ := hv
  rfl
/-- the cells of block n · block n is a row of m cells, none frozen -/
def rowAt (w : World) (n : Nat) : Array Value := match w.heap[n]? with | some (.cells c _ _) => c | _ => #[]
def hasRow (w : World) (n m : Nat) : Prop := ∃ c t, w.heap[n]? = some (.cells c t (0, 0)) ∧ c.size = m
theorem rowAt_at (w : World) (c : Array Value) (t : TypeId) (n : Nat) (h : n = w.heap.size) : rowAt (w.alloc (.cells c t)) n = c := by
  unfold rowAt; rw [heap_at _ _ _ h]
theorem rowAt_past (w : World) (o : Obj) (n : Nat) (h : n < w.heap.size) : rowAt (w.alloc o) n = rowAt w n := by
  unfold rowAt; rw [Below.heap_alloc w o n h]
theorem hasRow_at (w : World) (c : Array Value) (t : TypeId) (n m : Nat) (h : n = w.heap.size) (hm : c.size = m) : hasRow (w.alloc (.cells c t)) n m :=
  ⟨c, t, heap_at _ _ _ h, hm⟩
theorem hasRow_past (w : World) (o : Obj) (n m : Nat) (h : n < w.heap.size) : hasRow (w.alloc o) n m = hasRow w n m := by
  unfold hasRow; rw [Below.heap_alloc w o n h]
theorem rowAt_drew (w : World) (n : Nat) : rowAt w.drew n = rowAt w n := by unfold rowAt; rfl
theorem hasRow_drew (w : World) (n m : Nat) : hasRow w.drew n m = hasRow w n m := by rw [World.drew_is_drewN]; unfold hasRow; rw [World.heap_drewN]
theorem setRow_drew (w : World) (n : Nat) (c : Array Value) : w.drew.setRow n c = (w.setRow n c).drew := rfl
theorem rowAt_drewN (w : World) (d n : Nat) : rowAt (w.drewN d) n = rowAt w n := by unfold rowAt; rw [World.heap_drewN]
theorem hasRow_drewN (w : World) (d n m : Nat) : hasRow (w.drewN d) n m = hasRow w n m := by unfold hasRow; rw [World.heap_drewN]
theorem setRow_drewN (w : World) (d n : Nat) (c : Array Value) : (w.drewN d).setRow n c = (w.setRow n c).drewN d := rfl
theorem alloc_drewN (w : World) (d : Nat) (o : Obj) : (w.drewN d).alloc o = (w.alloc o).drewN d := rfl
theorem setCell_drewN (w : World) (d : Nat) (a : Addr) (v : Value) : (w.drewN d).setCell a v = (w.setCell a v).drewN d := rfl
/-- a row of cells loaded whole: 'loadCells' under a name that the walk leaves standing -/
def loadRow (a : Addr) (n : Nat) : Sem (Array Value) := loadCells a n
theorem loadRow_is (a : Addr) (n : Nat) : loadCells a n = loadRow a n := by unfold loadRow; rfl
theorem run_loadCells_row (P : Program) (w : World) (n m : Nat) (h : hasRow w n m) : (loadCells ⟨n, 0, none⟩ m).run P w = .ok (rowAt w n) w := by
  obtain ⟨c, t, hg, rfl⟩ := h
  have hl := run_loadCells_list (P := P) w ⟨n, 0, none⟩ c.toList (fun j v hv => by
    have hadd : (⟨n, 0, none⟩ : Addr).add j = ⟨n, j, none⟩ := by unfold Addr.add; split <;> simp_all
    rw [hadd, cell_of_row w n j c t (0, 0) hg]
    simpa using hv)
  simp only [Array.length_toList, Array.toArray_toList] at hl
  unfold rowAt
  rw [hl, hg]
theorem run_loadRow (P : Program) (w : World) (n m : Nat) (h : hasRow w n m) : (loadRow ⟨n, 0, none⟩ m).run P w = .ok (rowAt w n) w := by
  unfold loadRow
  exact run_loadCells_row P w n m h
theorem run_storeCells_row (P : Program) (w : World) (n m : Nat) (k : IntKind) (f : Nat → Int) (h : hasRow w n m) :
    (storeCells ⟨n, 0, none⟩ (vals k m f).toList).run P w = .ok () (w.setRow n (vals k m f)) := by
  obtain ⟨c, t, hg, rfl⟩ := h
  have h1 : ∀ v ∈ (vals k c.size f).toList, v.oneCell' = true := fun v hv => (Array.all_eq_true_iff_forall_mem.1 (vals_oneCell k c.size f)) v (by simpa using hv)
  have := run_storeCells_from (P := P) n t (vals k c.size f).toList 0 c w hg (by simp [vals_size]) h1
  rw [this]
  simp
theorem results_row {P : Program} {w : World} {T : TypeId} {n : Nat} (hT : ArrT P T n) {fn : Func} {p : Tmp} (h : fn.results = #[.cell p T]) (tmps : Array Value) (g : Nat)
    (hp : tmps.getD p undef = .pointer (some ⟨g, 0, none⟩)) (hg : hasRow w g n) : (results fn tmps).run P w = .ok (.agg (rowAt w g)) w := by
  obtain ⟨l, e, hu, hi⟩ := hT
  obtain ⟨c, t, hg, rfl⟩ := hg
  unfold rowAt
  rw [hg]
  exact results_cell_row h tmps w g t c (0, 0) _ hp hg hu rfl (by rw [hi])
/-- a region that draws its order, whose first n operations only read, and whose rest stands in one order: walked once, in the order of the text -/
theorem region_tail {P : Program} {id : Nat} {Q : Exit → Act → World → Prop} {a : Act} {w w' : World} {l : List Oper} (n : Nat) (hm : P.follows .mixedOrders = true) (hB : Region.lexTailB .any l.toArray n = true)
    (hw : w.drew = w') (h : wpStill P l.toArray w' (fun a' => wpList P l.toArray Q (l.drop n) a' w') (l.take n) a) : (Code.region id l.toArray true).wp P Q a w :=
  wp_region_still_tail n hm hB (by subst hw; exact h)
/-- the same where all operations only read, or call what leaves the world as it was -/
theorem region_still {P : Program} {id : Nat} {Q : Exit → Act → World → Prop} {a : Act} {w w' : World} {l : List Oper} (hm : P.follows .mixedOrders = true) (hB : Region.lexB .any l.toArray = true)
    (hw : w.drew = w') (h : wpStill P l.toArray w' (fun a' => Q .normal a' w') l a) : (Code.region id l.toArray true).wp P Q a w :=
  wp_region_still_lit hm hB (by subst hw; exact h)
theorem calls_still {P : Program} {f : FuncId} {args : Array Value} {w : World} {v : Value} (h : Calls P f args w fun e w' => e = .returned v ∧ w = w') :
    Calls P f args w fun e w' => e = .returned v ∧ w' = w := h.mono fun _ _ ⟨a, b⟩ => ⟨a, b.symm⟩
/-- heights of blocks laid one behind the other -/
theorem lt_s2 (a : Nat) : a < a + 1 + 1 := by omega
theorem lt_s3 (a : Nat) : a < a + 1 + 1 + 1 := by omega
theorem lt_s4 (a : Nat) : a < a + 1 + 1 + 1 + 1 := by omega
theorem lt_s5 (a : Nat) : a < a + 1 + 1 + 1 + 1 + 1 := by omega
theorem lt_s6 (a : Nat) : a < a + 1 + 1 + 1 + 1 + 1 + 1 := by omega
theorem lt_s7 (a : Nat) : a < a + 1 + 1 + 1 + 1 + 1 + 1 + 1 := by omega
theorem lt_s8 (a : Nat) : a < a + 1 + 1 + 1 + 1 + 1 + 1 + 1 + 1 := by omega
theorem lt_s9 (a : Nat) : a < a + 1 + 1 + 1 + 1 + 1 + 1 + 1 + 1 + 1 := by omega
theorem lt_s10 (a : Nat) : a < a + 1 + 1 + 1 + 1 + 1 + 1 + 1 + 1 + 1 + 1 := by omega
theorem lt_s11 (a : Nat) : a < a + 1 + 1 + 1 + 1 + 1 + 1 + 1 + 1 + 1 + 1 + 1 := by omega
theorem lt_s12 (a : Nat) : a < a + 1 + 1 + 1 + 1 + 1 + 1 + 1 + 1 + 1 + 1 + 1 + 1 := by omega
theorem cell_lt {w : World} {b off : Nat} {v : Value} (h : w.cell? ⟨b, off, none⟩ = some v) : b < w.heap.size := by
  unfold World.cell? at h
  rcases Nat.lt_or_ge b w.heap.size with hb | hb
  · exact hb
  · simp [hb] at h
/-- what a call has left below its own beginning, step by step -/
theorem bl_refl (w : World) : Below w.heap.size w w := Below.refl _ _
theorem bl_alloc {w w1 : World} {o : Obj} (h : Below w.heap.size w w1) : Below w.heap.size w (w1.alloc o) := h.alloc h.size o
theorem bl_call {w w1 w2 : World} (h : Below w.heap.size w w1) (h2 : Below w1.heap.size w1 w2) : Below w.heap.size w w2 := h.trans (h2.mono h.size)
theorem bl_drewN {w w1 : World} (d : Nat) (h : Below w.heap.size w w1) : Below w.heap.size w (w1.drewN d) := ⟨h.os, h.tape, h.output, h.size, h.block⟩
theorem bl_drew {w w1 : World} (h : Below w.heap.size w w1) : Below w.heap.size w w1.drew := h.drew
end Go.Proofs.YtfnncplokombgaaDoor
