/- Part 11 of 39 of what the proof of this law needs. Put together by a program out of the texts: Bits Base Vals Slices Chunk Range WordsA. -/
import Derived.KernelRfl
import Derived.WalkKit
import Derived.WalkLawsBesides
import Derived.Lib.Hide
import Derived.Laws.BitsAllLaws
import Derived.Laws.Rows
import Derived.Laws.Tables
import Derived.Below
import Derived.Deep.Draws
import Derived.StillTailTactics
import Derived.OwnWalk
import Derived.Maps.AppendAt
import Derived.Laws.OwnMore
import Derived.Test.YtdobjciaikofdaaGreatDoorProg
import Derived.RangeFuncBox
import Derived.RangeFuncLeaves
import Derived.Shelf.Abstract
import Derived.OwnWalkIn
import Derived.TacticsInMore
import Derived.LoopNIn
import Derived.LoopIn
import Derived.RangeFuncNested
import Derived.RangeFuncBound
import Derived.RangeFuncCalls
section
namespace Go.Proofs.YtdobjciaikofdaaGreatDoor.Bt
def ofB (f : Nat -> Bool) : Nat -> Nat -> Nat
 | 0, _ => 0
 | k + 1, i => 2 * ofB f k (i + 1) + (f i).toNat
theorem ofB_testBit (f : Nat -> Bool) : ∀ k i j, (ofB f k i).testBit j = (decide (j < k) && f (i + j)) := by
 intro k
 induction k with
 | zero => intro i j; simp [ofB]
 | succ k ih =>
  intro i j
  cases j with
  | zero =>
   simp only [ofB, Nat.testBit_zero, Nat.add_zero]
   cases f i <;> simp <;> omega
  | succ j =>
   rw [Nat.testBit_succ, ofB]
   have : (2 * ofB f k (i + 1) + (f i).toNat) / 2 = ofB f k (i + 1) := by cases f i <;> simp <;> omega
   rw [this, ih]
   have e : i + 1 + j = i + (j + 1) := by omega
   rw [e]; simp
theorem ofB_lt (f : Nat -> Bool) : ∀ k i, ofB f k i < 2 ^ k := by
 intro k
 induction k with
 | zero => intro i; simp [ofB]
 | succ k ih =>
  intro i
  have := ih (i + 1)
  simp only [ofB, Nat.pow_succ]
  cases f i <;> simp <;> omega
theorem eq_of_bits {n x y : Nat} (hx : x < 2 ^ n) (hy : y < 2 ^ n) (h : ∀ j, j < n -> x.testBit j = y.testBit j) : x = y := by
 apply Nat.eq_of_testBit_eq
 intro j
 by_cases hj : j < n
 ·exact h j hj
 ·have h1 : x < 2 ^ j := Nat.lt_of_lt_of_le hx (Nat.pow_le_pow_right (by omega) (by omega))
  have h2 : y < 2 ^ j := Nat.lt_of_lt_of_le hy (Nat.pow_le_pow_right (by omega) (by omega))
  rw [Nat.testBit_lt_two_pow h1, Nat.testBit_lt_two_pow h2]
def rotr (n x k : Nat) : Nat := ofB (fun i => x.testBit ((i + k) % n)) n 0
theorem rotr_lt (n x k : Nat) : rotr n x k < 2 ^ n := ofB_lt _ _ _
theorem rotr_testBit (n x k j : Nat) : (rotr n x k).testBit j = (decide (j < n) && x.testBit ((j + k) % n)) := by
 simp [rotr, ofB_testBit]
theorem rotr_congr {n x k l : Nat} (h : k % n = l % n) : rotr n x k = rotr n x l := by
 unfold rotr
 congr 1
 funext i
 rw [Nat.add_mod, h, <- Nat.add_mod]
theorem rotl_eq {n x s : Nat} (hx : x < 2 ^ n) (hs : s < n) :
  (x <<< s % 2 ^ n) ||| (x >>> (n - s)) = rotr n x (n - s) := by
 refine eq_of_bits (n := n) (Nat.or_lt_two_pow (Nat.mod_lt _ (Nat.two_pow_pos n)) ?_) (rotr_lt _ _ _) fun j hj => ?_
 ·exact Nat.lt_of_le_of_lt (Nat.shiftRight_le _ _) hx
 ·simp only [Nat.testBit_or, Nat.testBit_mod_two_pow, Nat.testBit_shiftLeft, Nat.testBit_shiftRight, rotr_testBit, hj, decide_true, Bool.true_and]
  by_cases h : s <= j
  ·have e : (j + (n - s)) % n = j - s := by
    have : j + (n - s) = (j - s) + n := by omega
    rw [this, Nat.add_mod_right, Nat.mod_eq_of_lt (by omega)]
   have h2 : x.testBit (n - s + j) = false := Nat.testBit_lt_two_pow (Nat.lt_of_lt_of_le hx (Nat.pow_le_pow_right (by omega) (by omega)))
   simp [h, e, h2]
  ·have e : (j + (n - s)) % n = n - s + j := by
    rw [Nat.mod_eq_of_lt (by omega)]; omega
   have : ¬ j ≥ s := by omega
   simp [this, e]
end Go.Proofs.YtdobjciaikofdaaGreatDoor.Bt
end
namespace Go.Proofs.YtdobjciaikofdaaGreatDoor
section
open Go.RowKit Bt
theorem ret_int {k : IntKind} {a b : Int} (h : a = b) : Ending.returned (.int k a) = .returned (.int k b) := by rw [h]
theorem ofInt_toNat64 (n : Int) : (BitVec.ofInt 64 n).toNat = (n % 18446744073709551616).toNat := by
 rw [BitVec.toNat_ofInt]; rfl
theorem dvd_two_pow (k : Nat) (hk : k <= 64) : ((2 ^ k : Nat) : Int) ∣ 18446744073709551616 := by
 have : (18446744073709551616 : Int) = ((2 ^ k : Nat) : Int) * ((2 ^ (64 - k) : Nat) : Int) := by
  rw [<- Int.natCast_mul, <- Nat.pow_add, show k + (64 - k) = 64 by omega]; rfl
 exact ⟨_, this⟩
theorem mask_nat (n : Int) (k : Nat) (hk : k <= 63) (m : Int) (hm : m = ((2 ^ k - 1 : Nat) : Int)) :
  (BitVec.ofInt 64 n &&& BitVec.ofInt 64 m).toNat = (n % (2 ^ k : Nat)).toNat /\ (n % ((2 ^ k : Nat) : Int)).toNat < 2 ^ k := by
 subst hm
 have h2 : (2 : Nat) ^ k <= 2 ^ 63 := Nat.pow_le_pow_right (by omega) hk
 have hp : 0 < 2 ^ k := Nat.two_pow_pos k
 rw [BitVec.toNat_and, ofInt_toNat64, BitVec.ofInt_natCast, BitVec.toNat_ofNat, Nat.mod_eq_of_lt (by omega), Nat.and_two_pow_sub_one_eq_mod]
 refine ⟨?_, ?_⟩
 ·have h1 : ((n % 18446744073709551616).toNat : Int) = n % 18446744073709551616 := Int.toNat_of_nonneg (Int.emod_nonneg _ (by omega))
  apply Int.ofNat.inj
  show (((n % 18446744073709551616).toNat % 2 ^ k : Nat) : Int) = ((n % (2 ^ k : Nat)).toNat : Int)
  rw [Int.natCast_emod, h1, Int.emod_emod_of_dvd _ (dvd_two_pow k (by omega)), Int.toNat_of_nonneg (Int.emod_nonneg _ (by omega))]
 ·have := Int.emod_lt_of_pos n (show (0 : Int) < ((2 ^ k : Nat) : Int) by omega)
  omega
theorem and_mask_u64 (n : Int) (k : Nat) (hk : k <= 63) (m : Int) (hm : m = ((2 ^ k - 1 : Nat) : Int)) : bits .and .u64 n m = ((n % (2 ^ k : Nat)).toNat : Int) := by
 have h2 : (2 : Nat) ^ k <= 2 ^ 63 := Nat.pow_le_pow_right (by omega) hk
 obtain ⟨h, hl⟩ := mask_nat n k hk m hm
 show IntKind.u64.wrap (((BitVec.ofInt 64 n &&& BitVec.ofInt 64 m).toNat : Nat) : Int) = _
 rw [h, IntKind.wrap_u64]
 omega
theorem and_mask_i64 (n : Int) (k : Nat) (hk : k <= 62) (m : Int) (hm : m = ((2 ^ k - 1 : Nat) : Int)) : bits .and .i64 n m = ((n % (2 ^ k : Nat)).toNat : Int) := by
 have h2 : (2 : Nat) ^ k <= 2 ^ 62 := Nat.pow_le_pow_right (by omega) hk
 obtain ⟨h, hl⟩ := mask_nat n k (by omega) m hm
 show IntKind.i64.wrap (((BitVec.ofInt 64 n &&& BitVec.ofInt 64 m).toNat : Nat) : Int) = _
 rw [h, IntKind.wrap_i64]
 omega
theorem and63_u64 (n : Int) : bits .and .u64 (IntKind.u64.wrap n) 63 = ((n % 64).toNat : Int) := by
 rw [and_mask_u64 _ 6 (by omega) 63 rfl, IntKind.wrap_u64, Int.emod_emod_of_dvd _ (by decide)]; rfl
theorem and63_i64 (n : Int) : bits .and .i64 n 63 = ((n % 64).toNat : Int) := and_mask_i64 n 6 (by omega) 63 rfl
theorem cast_shl (x s m : Nat) : (x : Int) * 2 ^ s % (m : Int) = ((x <<< s % m : Nat) : Int) := by
 rw [Nat.shiftLeft_eq]; simp
theorem cast_shr (x s : Nat) : (x : Int) / 2 ^ s = ((x >>> s : Nat) : Int) := by
 rw [Nat.shiftRight_eq_div_pow]; simp
end
section
open Go.RowKit
def vals (k : IntKind) (n : Nat) (f : Nat -> Int) : Array Value := ((List.range n).map fun j => Value.int k (f j)).toArray
theorem vals_size (k : IntKind) (n : Nat) (f : Nat -> Int) : (vals k n f).size = n := by simp [vals]
theorem vals_get? (k : IntKind) (n : Nat) (f : Nat -> Int) (j : Nat) (h : j < n) : (vals k n f)[j]? = some (.int k (f j)) := by
 simp [vals, h]
theorem vals_get (k : IntKind) (n : Nat) (f : Nat -> Int) (j : Nat) (h : j < (vals k n f).size) : (vals k n f)[j] = .int k (f j) := by
 have h2 : j < n := by rw [vals_size] at h; exact h
 have := vals_get? k n f j h2
 rw [Array.getElem?_eq_getElem h] at this
 exact Option.some.inj this
theorem vals_get?_none (k : IntKind) (n : Nat) (f : Nat -> Int) (j : Nat) (h : n <= j) : (vals k n f)[j]? = none := by
 simp [vals, h]
theorem vals_ext (k : IntKind) (n : Nat) {f g : Nat -> Int} (h : ∀ j, j < n -> f j = g j) : vals k n f = vals k n g := by
 apply Array.ext_getElem?
 intro j
 by_cases hj : j < n
 ·rw [vals_get? _ _ _ _ hj, vals_get? _ _ _ _ hj, h j hj]
 ·rw [vals_get?_none _ _ _ _ (by omega), vals_get?_none _ _ _ _ (by omega)]
theorem heap_at (w : World) (o : Obj) (n : Nat) (h : n = w.heap.size) : (w.alloc o).heap[n]? = some o := by rw [h]; exact heap_alloc_new w o
theorem heap_past (w : World) (o o' : Obj) (n : Nat) (h : n < w.heap.size) (hw : w.heap[n]? = some o') : (w.alloc o).heap[n]? = some o' := by
 rw [Below.heap_alloc w o n h]; exact hw
theorem setRow_at (w : World) (c c' : Array Value) (t : TypeId) (n : Nat) (h : n = w.heap.size) : (w.alloc (.cells c t)).setRow n c' = w.alloc (.cells c' t) := by
 rw [h]
 unfold World.setRow World.alloc
 congr 1
 apply Array.ext_getElem?
 intro k
 rw [Array.getElem?_modify]
 by_cases hk : w.heap.size = k
 ·subst hk; simp
 ·have hk' : k ≠ w.heap.size := fun e => hk e.symm
  simp [hk, hk', Array.getElem?_push]
theorem setRow_past (w : World) (c : Array Value) (o : Obj) (n : Nat) (h : n < w.heap.size) : (w.alloc o).setRow n c = (w.setRow n c).alloc o := by
 unfold World.setRow World.alloc
 congr 1
 apply Array.ext_getElem?
 intro k
 simp only [Array.getElem?_modify, Array.getElem?_push, Array.size_modify]
 by_cases hk : k = w.heap.size
 ·subst hk
  simp [Nat.ne_of_lt h]
 ·simp [hk]
def ArrT (P : Program) (T : TypeId) (n : Nat) : Prop :=
 ∃ l e, P.underlying T = some (.array l e) /\ (P.info? T).map (·.size) = some n
theorem vals_oneCell (k : IntKind) (n : Nat) (f : Nat -> Int) : (vals k n f).all (·.oneCell') = true := by
 rw [Array.all_eq_true_iff_forall_mem]
 intro v hv
 simp only [vals, List.mem_toArray, List.mem_map] at hv
 obtain ⟨j, _, rfl⟩ := hv
 rfl
def rowAt (w : World) (n : Nat) : Array Value := match w.heap[n]? with | some (.cells c _ _) => c | _ => #[]
def hasRow (w : World) (n m : Nat) : Prop := ∃ c t, w.heap[n]? = some (.cells c t (0, 0)) /\ c.size = m
theorem rowAt_at (w : World) (c : Array Value) (t : TypeId) (n : Nat) (h : n = w.heap.size) : rowAt (w.alloc (.cells c t)) n = c := by
 unfold rowAt; rw [heap_at _ _ _ h]
theorem rowAt_past (w : World) (o : Obj) (n : Nat) (h : n < w.heap.size) : rowAt (w.alloc o) n = rowAt w n := by
 unfold rowAt; rw [Below.heap_alloc w o n h]
theorem hasRow_at (w : World) (c : Array Value) (t : TypeId) (n m : Nat) (h : n = w.heap.size) (hm : c.size = m) : hasRow (w.alloc (.cells c t)) n m :=
 ⟨c, t, heap_at _ _ _ h, hm⟩
theorem hasRow_past (w : World) (o : Obj) (n m : Nat) (h : n < w.heap.size) : hasRow (w.alloc o) n m = hasRow w n m := by
 unfold hasRow; rw [Below.heap_alloc w o n h]
theorem rowAt_drew (w : World) (n : Nat) : rowAt w.drew n = rowAt w n := by unfold rowAt; rfl
theorem hasRow_drew (w : World) (n m : Nat) : hasRow w.drew n m = hasRow w n m := by rw [World.drew_is_drewN]; unfold hasRow; rw [World.heap_drewN]
def loadRow (a : Addr) (n : Nat) : Sem (Array Value) := loadCells a n
theorem loadRow_is (a : Addr) (n : Nat) : loadCells a n = loadRow a n := by unfold loadRow; rfl
theorem run_loadCells_row (P : Program) (w : World) (n m : Nat) (h : hasRow w n m) : (loadCells ⟨n, 0, none⟩ m).run P w = .ok (rowAt w n) w := by
 obtain ⟨c, t, hg, rfl⟩ := h
 have hl := run_loadCells_list (P := P) w ⟨n, 0, none⟩ c.toList (fun j v hv => by
  have hadd : (⟨n, 0, none⟩ : Addr).add j = ⟨n, j, none⟩ := by unfold Addr.add; split <;> simp_all
  rw [hadd, cell_of_row w n j c t (0, 0) hg]
  simpa using hv)
 simp only [Array.length_toList, Array.toArray_toList] at hl
 unfold rowAt
 rw [hl, hg]
theorem run_loadRow (P : Program) (w : World) (n m : Nat) (h : hasRow w n m) : (loadRow ⟨n, 0, none⟩ m).run P w = .ok (rowAt w n) w := by
 unfold loadRow
 exact run_loadCells_row P w n m h
theorem run_storeCells_row (P : Program) (w : World) (n m : Nat) (k : IntKind) (f : Nat -> Int) (h : hasRow w n m) :
  (storeCells ⟨n, 0, none⟩ (vals k m f).toList).run P w = .ok () (w.setRow n (vals k m f)) := by
 obtain ⟨c, t, hg, rfl⟩ := h
 have h1 : ∀ v ∈ (vals k c.size f).toList, v.oneCell' = true := fun v hv => (Array.all_eq_true_iff_forall_mem.1 (vals_oneCell k c.size f)) v (by simpa using hv)
 have := run_storeCells_from (P := P) n t (vals k c.size f).toList 0 c w hg (by simp [vals_size]) h1
 rw [this]
 simp
theorem results_row {P : Program} {w : World} {T : TypeId} {n : Nat} (hT : ArrT P T n) {fn : Func} {p : Tmp} (h : fn.results = #[.cell p T]) (tmps : Array Value) (g : Nat)
  (hp : tmps.getD p undef = .pointer (some ⟨g, 0, none⟩)) (hg : hasRow w g n) : (results fn tmps).run P w = .ok (.agg (rowAt w g)) w := by
 obtain ⟨l, e, hu, hi⟩ := hT
 obtain ⟨c, t, hg, rfl⟩ := hg
 unfold rowAt
 rw [hg]
 exact results_cell_row h tmps w g t c (0, 0) _ hp hg hu rfl (by rw [hi])
theorem region_tail {P : Program} {id : Nat} {Q : Exit -> Act -> World -> Prop} {a : Act} {w w' : World} {l : List Oper} (n : Nat) (hm : P.follows .mixedOrders = true) (hB : Region.lexTailB .any l.toArray n = true)
  (hw : w.drew = w') (h : wpStill P l.toArray w' (fun a' => wpList P l.toArray Q (l.drop n) a' w') (l.take n) a) : (Code.region id l.toArray true).wp P Q a w :=
 wp_region_still_tail n hm hB (by subst hw; exact h)
theorem region_still {P : Program} {id : Nat} {Q : Exit -> Act -> World -> Prop} {a : Act} {w w' : World} {l : List Oper} (hm : P.follows .mixedOrders = true) (hB : Region.lexB .any l.toArray = true)
  (hw : w.drew = w') (h : wpStill P l.toArray w' (fun a' => Q .normal a' w') l a) : (Code.region id l.toArray true).wp P Q a w :=
 wp_region_still_lit hm hB (by subst hw; exact h)
theorem calls_still {P : Program} {f : FuncId} {args : Array Value} {w : World} {v : Value} (h : Calls P f args w fun e w' => e = .returned v /\ w = w') :
  Calls P f args w fun e w' => e = .returned v /\ w' = w := h.mono fun _ _ ⟨a, b⟩ => ⟨a, b.symm⟩
theorem lt_s2 (a : Nat) : a < a + 1 + 1 := by omega
theorem lt_s3 (a : Nat) : a < a + 1 + 1 + 1 := by omega
theorem lt_s4 (a : Nat) : a < a + 1 + 1 + 1 + 1 := by omega
theorem lt_s5 (a : Nat) : a < a + 1 + 1 + 1 + 1 + 1 := by omega
theorem lt_s6 (a : Nat) : a < a + 1 + 1 + 1 + 1 + 1 + 1 := by omega
theorem lt_s7 (a : Nat) : a < a + 1 + 1 + 1 + 1 + 1 + 1 + 1 := by omega
theorem lt_s8 (a : Nat) : a < a + 1 + 1 + 1 + 1 + 1 + 1 + 1 + 1 := by omega
theorem lt_s9 (a : Nat) : a < a + 1 + 1 + 1 + 1 + 1 + 1 + 1 + 1 + 1 := by omega
theorem lt_s10 (a : Nat) : a < a + 1 + 1 + 1 + 1 + 1 + 1 + 1 + 1 + 1 + 1 := by omega
theorem lt_s11 (a : Nat) : a < a + 1 + 1 + 1 + 1 + 1 + 1 + 1 + 1 + 1 + 1 + 1 := by omega
theorem lt_s12 (a : Nat) : a < a + 1 + 1 + 1 + 1 + 1 + 1 + 1 + 1 + 1 + 1 + 1 + 1 := by omega
theorem cell_lt {w : World} {b off : Nat} {v : Value} (h : w.cell? ⟨b, off, none⟩ = some v) : b < w.heap.size := by
 unfold World.cell? at h
 rcases Nat.lt_or_ge b w.heap.size with hb | hb
 ·exact hb
 ·simp [hb] at h
theorem bl_refl (w : World) : Below w.heap.size w w := Below.refl _ _
theorem bl_alloc {w w1 : World} {o : Obj} (h : Below w.heap.size w w1) : Below w.heap.size w (w1.alloc o) := h.alloc h.size o
theorem bl_call {w w1 w2 : World} (h : Below w.heap.size w w1) (h2 : Below w1.heap.size w1 w2) : Below w.heap.size w w2 := h.trans (h2.mono h.size)
theorem bl_drew {w w1 : World} (h : Below w.heap.size w w1) : Below w.heap.size w w1.drew := h.drew
end
section
open Go.RowKit
def reads (w : World) (a : Option Addr) (n : Nat) (k : IntKind) (f : Nat -> Int) : Prop :=
 0 < n -> ∃ b off, a = some ⟨b, off, none⟩ /\ ∀ j, j < n -> w.cell? ⟨b, off + j, none⟩ = some (.int k (f j))
theorem reads_below {w w1 : World} {a : Option Addr} {n : Nat} {k : IntKind} {f : Nat -> Int} {B : Nat} (hB : w.heap.size <= B) (hb : Below B w w1) (h : reads w a n k f) : reads w1 a n k f := by
 intro hn
 obtain ⟨b, off, rfl, hc⟩ := h hn
 refine ⟨b, off, rfl, fun j hj => ?_⟩
 rw [hb.cell (p := ⟨b, off + j, none⟩) (Nat.lt_of_lt_of_le (cell_lt (hc j hj)) hB)]
 exact hc j hj
theorem reads_alloc {w : World} {a : Option Addr} {n : Nat} {k : IntKind} {f : Nat -> Int} (o : Obj) (h : reads w a n k f) : reads (w.alloc o) a n k f :=
 reads_below (Nat.le_refl _) ((Below.refl _ _).alloc (Nat.le_refl _) o) h
theorem reads_drewN {w : World} {a : Option Addr} {n : Nat} {k : IntKind} {f : Nat -> Int} (d : Nat) (h : reads w a n k f) : reads (w.drewN d) a n k f := h
theorem reads_ext {w : World} {a : Option Addr} {n : Nat} {k : IntKind} {f g : Nat -> Int} (hfg : ∀ j, j < n -> f j = g j) (h : reads w a n k f) : reads w a n k g := by
 intro hn
 obtain ⟨b, off, rfl, hc⟩ := h hn
 exact ⟨b, off, rfl, fun j hj => by rw [<- hfg j hj]; exact hc j hj⟩
def owns (w : World) (base : Nat) (e : TypeId) (k : IntKind) (v : Value) (n : Nat) (f : Nat -> Int) : Prop := w.ownsRow base e 1 v n (vals k n f).toList
theorem owns_nil (w : World) (base : Nat) (e : TypeId) (k : IntKind) (f : Nat -> Int) : owns w base e k (.slice none 0 0) 0 f := World.ownsRow_nil _ _ _ _
theorem owns_ext {w : World} {base : Nat} {e : TypeId} {k : IntKind} {v : Value} {n : Nat} {f g : Nat -> Int} (hfg : ∀ j, j < n -> f j = g j) (h : owns w base e k v n f) : owns w base e k v n g := by
 unfold owns at h ⊢
 rw [<- vals_ext k n hfg]
 exact h
theorem owns_reads {w : World} {base : Nat} {e : TypeId} {k : IntKind} {v : Value} {n : Nat} {f : Nat -> Int} (h : owns w base e k v n f) :
  ∃ a cap, v = .slice a n cap /\ n <= cap /\ cap <= maxLen /\ reads w a n k f := by
 rcases h.2 with ⟨rfl, rfl⟩ | ⟨g, cap, cur, rfl, hb, hg, hn, hc, hs, ht⟩
 ·exact ⟨none, 0, rfl, Nat.le_refl _, Nat.zero_le _, fun h => absurd h (by omega)⟩
 ·refine ⟨_, cap, rfl, hn, hc, fun _ => ⟨g, 0, rfl, fun j hj => ?_⟩⟩
  rw [Nat.zero_add, World.ownsRow.cellAt h j (by omega), <- vals_get? k n f j hj]
  simp
theorem owns_below {w w1 : World} {base : Nat} {e : TypeId} {k : IntKind} {v : Value} {n : Nat} {f : Nat -> Int} {B : Nat} (hB : w.heap.size <= B) (hb : Below B w w1) (h : owns w base e k v n f) : owns w1 base e k v n f := by
 unfold owns World.ownsRow at h ⊢
 refine ⟨h.1, ?_⟩
 rcases h.2 with h0 | ⟨g, cap, cur, hv, hbg, hg, r⟩
 ·exact .inl h0
 ·refine .inr ⟨g, cap, cur, hv, hbg, ?_, r⟩
  rw [hb.block g (Nat.lt_of_lt_of_le (by
   rcases Nat.lt_or_ge g w.heap.size with hl | hl
   ·exact hl
   ·simp [hl] at hg) hB)]
  exact hg
def EltT (P : Program) (T e : TypeId) (bytes : Nat) : Prop :=
 P.underlying T = some (.slice e) /\ ∃ i z, P.info? e = some i /\ i.zero = some z /\ i.size = 1 /\ i.bytes = bytes /\ z.cells.size = 1
theorem elt_of {P : Program} {T e : TypeId} {bytes : Nat} {k : IntKind} (hu : P.underlying T = some (.slice e)) (h : (P.info? e).map (fun i => (i.zero, i.size, i.bytes)) = some (some (.int k 0), 1, bytes)) : EltT P T e bytes := by
 obtain ⟨i, h1, h2, h3, h4⟩ := info_parts h
 exact ⟨hu, i, _, h1, h2, h3, h4, rfl⟩
theorem vals_snoc (k : IntKind) (n : Nat) (f : Nat -> Int) (y : Int) : (vals k n f).toList ++ [.int k y] = (vals k (n + 1) (fun j => if j < n then f j else y)).toList := by
 simp only [vals, List.range_succ, List.map_append, List.map_cons, List.map_nil]
 rw [if_neg (Nat.lt_irrefl n)]
 congr 1
 ·apply List.map_congr_left
  intro j hj
  simp only [List.mem_range] at hj
  simp [hj]
section
variable {P : Program} {ops : Array Oper} {rest : List Oper} {o : Oper} {a : Act} {w : World} {Q : Exit -> Act -> World -> Prop}
theorem append_one {T e : TypeId} {bytes : Nat} (hT : EltT P T e bytes) (hgd : o.guard = none) (s x : Operand) (ho : o.op = .call { callee := .builtin .append, args := #[s, x], argTypes := #[T, T] })
  {base : Nat} {k : IntKind} {v : Value} {n : Nat} {f : Nat -> Int} (hs : a.eval s = v) {w1 : World} (hown : owns w1 base e k v n f) {y : Int}
  (hx : a.eval x = .slice (some ⟨w1.heap.size, 0, none⟩) 1 1) (hw : w = w1.alloc (.cells #[.int k y] e)) (hn : n + 1 <= maxLen) (hby : (n + 1) * bytes <= 140737488355328) (hbase : base <= w1.heap.size)
  (h : ∀ v' w', owns w' base e k v' (n + 1) (fun j => if j < n then f j else y) -> Below base w1 w' -> wpList P ops Q rest (a.put o.dst v') w') : wpList P ops Q (o :: rest) a w := by
 subst hw
 obtain ⟨hu, i, z, hi, hz, h1, h2, h3⟩ := hT
 refine wpList_append_own _ hgd s x T ho base e i z 1 bytes hu hi hz h1 h2 h3 (by decide) v n (vals k n f).toList hs (hown.alloc _) ⟨w1.heap.size, 0, none⟩ 1 1 [.int k y] hx rfl (cell_one_new _ _ _) (by simp [Value.oneCell']) hn hby (by simp; omega) ?_
 intro v' w' h' hg _
 refine h v' w' ?_ ?_
 ·unfold owns
  rw [<- vals_snoc]
  exact h'
 ·have hbl : Below base w1 (w1.alloc (.cells #[.int k y] e)) := (Below.refl _ _).alloc hbase _
  refine hbl.grown hg (by simp; omega) fun r hr => ?_
  rcases hown.2 with ⟨rfl, _⟩ | ⟨g, cap, cur, rfl, hb, _⟩
  ·simp [Value.ownBlock] at hr
  ·simp [Value.ownBlock] at hr; omega
end
end
section
open Go.RowKit Go.Shelf
attribute [local go_sem] Oper.semAt_some
theorem chunk_w (a : Option Addr) (len cap : Nat) (sz : Nat) (h1 : 1 <= sz) (h2 : sz <= 64) (w : World) :
  Calls Tryz.prog 234 #[.slice a len cap, .int .i64 sz] w fun e w' => e = .returned (.func (.func 269) #[] #[.pointer (some ⟨w.heap.size, 0, none⟩), .pointer (some ⟨w.heap.size + 1, 0, none⟩)]) /\
   (w.alloc (.cells #[.slice a len cap] 22)).alloc (.cells #[.int .i64 sz] 3) = w' := by
 go_enter Tryz.func234, Tryz.ntmps234
 go_wp2
 go_ret
 exact ⟨rfl, rfl⟩
def chunkV (b off len sz k : Nat) : Value := .slice (some ⟨b, off + k * sz, none⟩) (min sz (len - k * sz)) (min sz (len - k * sz))
set_option maxRecDepth 100000 in
set_option maxHeartbeats 2000000 in
theorem chunk1_in (n : Nat) (hn : 1 <= n) (l Bs Bn b off len cap sz : Nat) (h1 : 1 <= sz) (h2 : sz <= 64) (hlen : len <= 1000000) (hcap : len <= cap)
  (Kp : World -> World -> Prop) (hKp : ∀ W W', Kp W W' -> W'.cell? ⟨Bs, 0, none⟩ = W.cell? ⟨Bs, 0, none⟩ /\ W'.cell? ⟨Bn, 0, none⟩ = W.cell? ⟨Bn, 0, none⟩)
  (J Jx : List Nat -> World -> Prop) (hJd : ∀ pre W, J pre W -> J pre W.drew)
  (hY : ∀ k W, J (List.range k) W -> k * sz < len -> YieldAt Fence.wide (n - 1) Tryz.prog l #[chunkV b off len sz k] W fun e W' =>
   (e = .returned (.bool true) /\ J (List.range (k + 1)) W' /\ Kp W W') \/ (e = .returned (.bool false) /\ Jx (List.range (k + 1)) W'))
  (W : World) (hs : W.cell? ⟨Bs, 0, none⟩ = some (.slice (some ⟨b, off, none⟩) len cap)) (hz : W.cell? ⟨Bn, 0, none⟩ = some (.int .i64 sz)) (h0 : J [] W) :
  CallsIn Fence.wide n Tryz.prog 269 #[.func (.yield l) #[] #[], .pointer (some ⟨Bs, 0, none⟩), .pointer (some ⟨Bn, 0, none⟩)] W fun e W' => (∃ v, e = .returned v) /\
   ((∃ k, len <= k * sz /\ k * sz < len + sz /\ J (List.range k) W') \/ (∃ k, k * sz < len /\ Jx (List.range (k + 1)) W')) := by
 refine callsIn_of_wp Tryz.func269 rfl trivial ?_ rfl
 simp only [Tryz.ntmps269, List.size_toArray, List.length_cons, List.length_nil, Nat.reduceAdd, Nat.reduceSub, Array.replicate_succ, Array.replicate_zero, List.push_toArray, List.append_toArray, List.nil_append, List.cons_append]
 gi_wp2
 gi_loopw [4] (fun i wr => ∃ k : Nat, k * sz < len + sz /\ i = .int .i64 ((k * sz : Nat) : Int) /\ J (List.range k) wr /\ wr.cell? ⟨Bs, 0, none⟩ = some (.slice (some ⟨b, off, none⟩) len cap) /\ wr.cell? ⟨Bn, 0, none⟩ = some (.int .i64 sz))
  (fun i _ => len + sz - (intOf i).toNat)
 case atStart => exact ⟨0, by omega, by simp, h0, hs, hz⟩
 case round =>
  obtain ⟨k, hk, rfl, hJ, hs1, hz1⟩ := hrel
  clear hs hz h0
  have HY := Lib.hid hY
  have HK := Lib.hid hKp
  have HD := Lib.hid hJd
  clear hY hKp hJd
  obtain ⟨i, hi⟩ : ∃ i : Nat, Hid (i = k * sz) := ⟨k * sz, Lib.hid rfl⟩
  rw [<- hi.out] at hk ⊢
  by_cases hlt : i < len
  ·obtain ⟨r, rfl⟩ : ∃ r, len = i + r := ⟨len - i, by omega⟩
   have hr : 0 < r := by omega
   have hir : (i : Int) <= (i : Int) + (r : Int) := by omega
   have hci : ¬ cap = i := by omega
   by_cases hfull : sz <= r
   ·have hlt2 : ¬ r < sz := by omega
    have hv : chunkV b off (i + r) sz k = .slice (some ⟨b, off + i, none⟩) sz sz := by
     have e : min sz (i + r - i) = sz := by omega
     unfold chunkV
     rw [<- hi.out, e]
    obtain ⟨fn, tmps, assign, body, hy, hR⟩ := HY.out k wr.drew (HD.out _ _ hJ) (by rw [<- hi.out]; omega)
    rw [hv] at hy
    have HR := Lib.hid hR
    clear hR hv
    gi_wp2
    refine wpIn_wide.2 (region_still (by kernel_rfl) (by kernel_rfl) rfl ?_)
    iterate 7 still_step
    refine wpStill_nil ?_
    gi_wp2
    refine HR.out.mono ?_
    rintro e W3 (⟨rfl, hJ3, hk3⟩ | ⟨rfl, hJx3⟩)
    ·obtain ⟨g1, g2⟩ := HK.out _ _ hk3
     have hs3 : W3.cell? ⟨Bs, 0, none⟩ = some (.slice (some ⟨b, off, none⟩) (i + r) cap) := g1.trans hs1
     have hz3 : W3.cell? ⟨Bn, 0, none⟩ = some (.int .i64 sz) := g2.trans hz1
     clear g1 g2 hk3 hy
     gi_wp2
     go_roundw
     case rel =>
      have e : (k + 1) * sz = i + sz := by rw [Nat.add_mul, <- hi.out, Nat.one_mul]
      refine ⟨k + 1, by rw [e]; omega, by rw [e]; go_num, hJ3, hs3, hz3⟩
     case measure => simp [intOf]; omega
    ·gi_wp2
     refine bodyPost_ret (results_none rfl _ _ _) rfl ?_
     exact ⟨⟨_, rfl⟩, .inr ⟨k, by rw [<- hi.out]; omega, hJx3⟩⟩
   ·have hlt2 : r < sz := by omega
    have hv : chunkV b off (i + r) sz k = .slice (some ⟨b, off + i, none⟩) r r := by
     have e : min sz (i + r - i) = r := by omega
     unfold chunkV
     rw [<- hi.out, e]
    obtain ⟨fn, tmps, assign, body, hy, hR⟩ := HY.out k wr.drew (HD.out _ _ hJ) (by rw [<- hi.out]; omega)
    rw [hv] at hy
    have HR := Lib.hid hR
    clear hR hv
    gi_wp2
    refine wpIn_wide.2 (region_still (by kernel_rfl) (by kernel_rfl) rfl ?_)
    iterate 7 still_step
    refine wpStill_nil ?_
    gi_wp2
    refine HR.out.mono ?_
    rintro e W3 (⟨rfl, hJ3, hk3⟩ | ⟨rfl, hJx3⟩)
    ·obtain ⟨g1, g2⟩ := HK.out _ _ hk3
     have hs3 : W3.cell? ⟨Bs, 0, none⟩ = some (.slice (some ⟨b, off, none⟩) (i + r) cap) := g1.trans hs1
     have hz3 : W3.cell? ⟨Bn, 0, none⟩ = some (.int .i64 sz) := g2.trans hz1
     clear g1 g2 hk3 hy
     gi_wp2
     go_roundw
     case rel =>
      have e : (k + 1) * sz = i + sz := by rw [Nat.add_mul, <- hi.out, Nat.one_mul]
      refine ⟨k + 1, by rw [e]; omega, by rw [e]; go_num, hJ3, hs3, hz3⟩
     case measure => simp [intOf]; omega
    ·gi_wp2
     refine bodyPost_ret (results_none rfl _ _ _) rfl ?_
     exact ⟨⟨_, rfl⟩, .inr ⟨k, by rw [<- hi.out]; omega, hJx3⟩⟩
  ·gi_wp2
   go_end0
   exact ⟨⟨_, rfl⟩, .inl ⟨k, by rw [<- hi.out]; omega, by rw [<- hi.out]; omega, hJ⟩⟩
set_option maxRecDepth 100000 in
theorem chunk0_in (n : Nat) (l Bs Bn cap : Nat) (a : Option Addr) (J : List Nat -> World -> Prop) (W : World) (hs : W.cell? ⟨Bs, 0, none⟩ = some (.slice a 0 cap)) (h0 : J [] W) :
  CallsIn Fence.wide n Tryz.prog 269 #[.func (.yield l) #[] #[], .pointer (some ⟨Bs, 0, none⟩), .pointer (some ⟨Bn, 0, none⟩)] W fun e W' => (∃ v, e = .returned v) /\ J [] W' := by
 refine callsIn_of_wp Tryz.func269 rfl trivial ?_ rfl
 simp only [Tryz.ntmps269, List.size_toArray, List.length_cons, List.length_nil, Nat.reduceAdd, Nat.reduceSub, Array.replicate_succ, Array.replicate_zero, List.push_toArray, List.append_toArray, List.nil_append, List.cons_append]
 gi_wp2
 gi_loopw [4] (fun i wr => i = .int .i64 0 /\ J [] wr /\ wr.cell? ⟨Bs, 0, none⟩ = some (.slice a 0 cap)) (fun _ _ => 0)
 case atStart => exact ⟨rfl, h0, hs⟩
 case round =>
  obtain ⟨rfl, hJ, hs1⟩ := hrel
  gi_wp2
  go_end0
  exact ⟨⟨_, rfl⟩, hJ⟩
theorem chunk_stops (n : Nat) (hn : 1 <= n) (Bs Bn len cap sz : Nat) (a : Option Addr) (b off : Nat) (ha : 0 < len -> a = some ⟨b, off, none⟩) (h1 : 1 <= sz) (h2 : sz <= 64) (hlen : len <= 1000000) (hcap : len <= cap)
  (Kp : World -> World -> Prop) (hKp : ∀ W W', Kp W W' -> W'.cell? ⟨Bs, 0, none⟩ = W.cell? ⟨Bs, 0, none⟩ /\ W'.cell? ⟨Bn, 0, none⟩ = W.cell? ⟨Bn, 0, none⟩)
  (w : World) (hs : w.cell? ⟨Bs, 0, none⟩ = some (.slice a len cap)) (hz : w.cell? ⟨Bn, 0, none⟩ = some (.int .i64 sz)) :
  SeqStopsK Fence.wide n Tryz.prog 269 #[.pointer (some ⟨Bs, 0, none⟩), .pointer (some ⟨Bn, 0, none⟩)] (fun k : Nat => #[chunkV b off len sz (min k ((len - 1) / sz))]) Kp
   (fun ys => ys = List.range ((len + sz - 1) / sz)) (fun pre => ∃ k, k * sz < len /\ pre = List.range (k + 1)) ((len - 1) / sz + 1) w := by
 intro l J Jx W hW hJ _ hY h0
 have hs' : W.cell? ⟨Bs, 0, none⟩ = some (.slice a len cap) := (hW.cell (p := ⟨Bs, 0, none⟩) (cell_lt hs)).trans hs
 have hz' : W.cell? ⟨Bn, 0, none⟩ = some (.int .i64 sz) := (hW.cell (p := ⟨Bn, 0, none⟩) (cell_lt hz)).trans hz
 rcases Nat.eq_zero_or_pos len with hl | hl
 ·subst hl
  refine (chunk0_in n l Bs Bn cap a J W hs' h0).mono ?_
  rintro e W' ⟨he, hj⟩
  refine ⟨he, .inl ⟨[], ?_, hj⟩⟩
  rw [show (0 + sz - 1) / sz = 0 from Nat.div_eq_of_lt (by omega)]
  rfl
 ·rw [ha hl] at hs'
  refine (chunk1_in n hn l Bs Bn b off len cap sz h1 h2 hlen hcap Kp hKp J Jx (fun pre W hp => hJ pre W _ none hp ⟨rfl, rfl, rfl, Nat.le_refl _, fun _ _ _ => rfl⟩ (fun r hr => by cases hr)) ?_ W hs' hz' h0).mono ?_
  ·intro k W1 hk hlt
   have hk1 : k <= (len - 1) / sz := (Nat.le_div_iff_mul_le (by omega)).2 (by omega)
   have := hY (List.range k) k W1 hk (by simp; omega)
   dsimp only at this
   rw [Nat.min_eq_left hk1, <- List.range_succ] at this
   exact this
  ·rintro e W' ⟨he, ⟨k, h3, h4, hj⟩ | ⟨k, h3, hj⟩⟩
   ·refine ⟨he, .inl ⟨_, ?_, hj⟩⟩
    congr 1
    have e1 : k <= (len + sz - 1) / sz := (Nat.le_div_iff_mul_le (by omega)).2 (by omega)
    have e2 : (len + sz - 1) / sz < k + 1 := (Nat.div_lt_iff_lt_mul (by omega)).2 (by rw [Nat.add_mul, Nat.one_mul]; omega)
    omega
   ·exact ⟨he, .inr ⟨_, ⟨k, h3, rfl⟩, hj⟩⟩
end
section
open Go.RowKit Go.Shelf
def Kpt (n₁ B : Nat) (W W' : World) : Prop := ∀ k, k < n₁ -> k ≠ B -> W'.heap[k]? = W.heap[k]?
theorem Kpt.refl (n₁ B : Nat) (W : World) : Kpt n₁ B W W := fun _ _ _ => rfl
theorem Kpt.trans {n₁ B : Nat} {X Y Z : World} (h : Kpt n₁ B X Y) (h2 : Kpt n₁ B Y Z) : Kpt n₁ B X Z := fun k a b => (h2 k a b).trans (h k a b)
theorem Kpt.putObj {n₁ B : Nat} {w : World} (hn : n₁ <= w.heap.size) (W : World) (l : Nat) (o o' : Obj) (hl : w.heap.size <= l) (_ : W.heap[l]? = some o) (_ : o.isCells = false) (_ : o.isWalk = false) : Kpt n₁ B W (W.putObj l o') :=
 fun k hk _ => (grownBy_putObj' W l o').block k (by
  rcases Nat.lt_or_ge k W.heap.size with h | h
  ·exact h
  ·have := (Array.getElem?_eq_some_iff.1 ‹W.heap[l]? = some o›).1
   omega) (fun e => by cases e; omega)
theorem Kpt.cell {n₁ B : Nat} {W W' : World} (h : Kpt n₁ B W W') (k : Nat) (hk : k < n₁) (hB : k ≠ B) : W'.cell? ⟨k, 0, none⟩ = W.cell? ⟨k, 0, none⟩ :=
 World.cell?_of_block (h k hk hB)
theorem Kpt.setCell {n₁ B : Nat} (W : World) (v : Value) : Kpt n₁ B W (W.setCell ⟨B, 0, none⟩ v) := fun k _ hB => Below.heap_setCell W _ v k (fun e => hB e)
theorem append_one_in {F : Fence} {nf : Nat} {P : Program} {ops : Array Oper} {rest : List Oper} {o : Oper} {a : Act} {w : World} {Q : Exit -> Act -> World -> Prop}
  {T e : TypeId} {bytes : Nat} (hT : EltT P T e bytes) (hgd : o.guard = none) (s x : Operand) (ho : o.op = .call { callee := .builtin .append, args := #[s, x], argTypes := #[T, T] })
  {base : Nat} {k : IntKind} {v : Value} {n : Nat} {f : Nat -> Int} (hs : a.eval s = v) {w1 : World} (hown : owns w1 base e k v n f) {y : Int}
  (hx : a.eval x = .slice (some ⟨w1.heap.size, 0, none⟩) 1 1) (hw : w = w1.alloc (.cells #[.int k y] e)) (hn : n + 1 <= maxLen) (hby : (n + 1) * bytes <= 140737488355328) (hbase : base <= w1.heap.size)
  (h : ∀ g cap w', owns w' base e k (.slice (some ⟨g, 0, none⟩) (n + 1) cap) (n + 1) (fun j => if j < n then f j else y) -> (w1.alloc (.cells #[.int k y] e)).grownBy w' v.ownBlock -> wpListIn F nf P ops Q rest (a.put o.dst (.slice (some ⟨g, 0, none⟩) (n + 1) cap)) w') : wpListIn F nf P ops Q (o :: rest) a w := by
 subst hw
 obtain ⟨hu, i, z, hi, hz, h1, h2, h3⟩ := hT
 refine wpListIn_append_own _ hgd s x T ho base e i z 1 bytes hu hi hz h1 h2 h3 (by decide) v n (vals k n f).toList hs (hown.alloc _) ⟨w1.heap.size, 0, none⟩ 1 1 [.int k y] hx rfl (cell_one_new _ _ _) (by simp [Value.oneCell']) hn hby (by simp; omega) ?_
 intro v' w' h' hg _
 obtain ⟨g, cap, rfl⟩ := ownsRow_succ h'
 refine h g cap w' ?_ hg
 unfold owns
 rw [<- vals_snoc]
 exact h'
theorem owns_base {w : World} {base base' : Nat} {e : TypeId} {k : IntKind} {v : Value} {n : Nat} {f : Nat -> Int} (hb : base' <= base) (h : owns w base e k v n f) : owns w base' e k v n f := by
 unfold owns World.ownsRow at h ⊢
 refine ⟨h.1, ?_⟩
 rcases h.2 with h0 | ⟨g, cap, cur, hv, hbg, r⟩
 ·exact .inl h0
 ·exact .inr ⟨g, cap, cur, hv, Nat.le_trans hb hbg, r⟩
theorem box_appended {W w1 : World} {n₀ n₁ B : Nat} {t e : TypeId} {k : IntKind} {v v' : Value} {n m : Nat} {f g : Nat -> Int} {tmp : Obj} (hn0 : n₀ <= B) (hB1 : B < n₁) (hn1 : n₁ <= W.heap.size)
  (hv : Boxed W B t v) (hte : t ≠ e) (hrow : owns W n₁ e k v n f) (hown' : owns w1 n₁ e k v' m g) (hgrow : (W.alloc tmp).grownBy w1 v.ownBlock) :
  Boxed w1 B t v /\ Boxed (w1.setCell ⟨B, 0, none⟩ v') B t v' /\ owns (w1.setCell ⟨B, 0, none⟩ v') n₁ e k v' m g /\ KeepsOthers W (w1.setCell ⟨B, 0, none⟩ v') /\ Below n₀ W (w1.setCell ⟨B, 0, none⟩ v') /\ Kpt n₁ B W (w1.setCell ⟨B, 0, none⟩ v') := by
 obtain ⟨h1, h2, _, h4, h5⟩ := Boxed.appended hv hte (owns_base (base' := n₀) (by omega) hrow) (by omega) hn0 (owns_base (base' := n₀) (by omega) hown') hgrow
 refine ⟨h1, h2, World.ownsRow.kept hown' (grownBy_setCell' w1 B v') (.inr (h1.not_row hte hown').symm), h4, h5, ?_⟩
 refine Kpt.trans (fun j hj _ => ?_) (Kpt.setCell w1 v')
 rw [hgrow.block j (by simp; omega) ?_, Below.heap_alloc W tmp j (by omega)]
 intro e'
 rcases hrow.2 with ⟨rfl, _⟩ | ⟨g', cap, cur, rfl, hb, _⟩
 ·simp [Value.ownBlock] at e'
 ·simp [Value.ownBlock] at e'
  omega
def beN (f : Nat -> Int) (p : Nat) : Nat -> Int
 | 0 => 0
 | j + 1 => beN f p j * 256 + f (p + j)
theorem beN_bd (f : Nat -> Int) (p : Nat) : ∀ n, (∀ j, j < n -> 0 <= f (p + j) /\ f (p + j) < 256) -> 0 <= beN f p n /\ beN f p n < 256 ^ n
 | 0, _ => by simp [beN]
 | n + 1, h => by
  have ih := beN_bd f p n (fun j hj => h j (by omega))
  have h1 := h n (by omega)
  simp only [beN, Int.pow_succ]
  omega
theorem pow256_le {j n : Nat} (h : j <= n) : (256 : Int) ^ j <= 256 ^ n := by
 have h1 : (256 : Nat) ^ j <= 256 ^ n := Nat.pow_le_pow_right (by omega) h
 have h2 : ((256 ^ j : Nat) : Int) <= ((256 ^ n : Nat) : Int) := Int.ofNat_le.2 h1
 simpa using h2
theorem beN_congr {f g : Nat -> Int} {p q : Nat} : ∀ n, (∀ j, j < n -> f (p + j) = g (q + j)) -> beN f p n = beN g q n
 | 0, _ => rfl
 | n + 1, h => by simp only [beN]; rw [beN_congr n (fun j hj => h j (by omega)), h n (by omega)]
theorem getD_append_lt (l : List Nat) (x : Nat) {j : Nat} (h : j < l.length) : (l ++ [x]).getD j 0 = l.getD j 0 := by
 simp [List.getD, List.getElem?_append_left h]
theorem getD_append_at (l : List Nat) (x : Nat) : (l ++ [x]).getD l.length 0 = x := by simp [List.getD]
theorem getD_range {n j : Nat} (h : j < n) : (List.range n).getD j 0 = j := by simp [List.getD, h]
theorem chunks_full {len sz : Nat} (h : 1 <= sz) (hall : ∀ x ∈ List.range ((len + sz - 1) / sz), (min x ((len - 1) / sz) + 1) * sz <= len) : (len + sz - 1) / sz = len / sz /\ ∀ j, j < len / sz -> min j ((len - 1) / sz) = j := by
 rcases Nat.eq_zero_or_pos len with rfl | hl
 ·rw [Nat.div_eq_of_lt (show 0 + sz - 1 < sz by omega), Nat.zero_div]
  exact ⟨rfl, fun j hj => absurd hj (by omega)⟩
 ·have e1 : (len + sz - 1) / sz = (len - 1) / sz + 1 := by
   rw [show len + sz - 1 = len - 1 + sz by omega, Nat.add_div_right _ (by omega)]
  have h1 := hall ((len - 1) / sz) (by rw [e1]; simp)
  rw [Nat.min_self] at h1
  have h2 := (Nat.le_div_iff_mul_le (by omega : 0 < sz)).2 h1
  have h3 : len / sz <= (len - 1 + sz) / sz := Nat.div_le_div_right (by omega)
  rw [Nat.add_div_right _ (by omega)] at h3
  refine ⟨by omega, fun j hj => by omega⟩
theorem chunks_short {len sz k x : Nat} {ini : List Nat} (h : 1 <= sz) (hk : k * sz < len) (e : List.range (k + 1) = ini ++ [x]) (hs : len < (min x ((len - 1) / sz) + 1) * sz) :
  ini = List.range k /\ x = k /\ len / sz = k /\ ∀ j, j < k -> min j ((len - 1) / sz) = j := by
 rw [List.range_succ] at e
 obtain ⟨rfl, h2⟩ := List.append_inj' e rfl
 obtain rfl : k = x := by simpa using h2
 have h3 : k <= (len - 1) / sz := (Nat.le_div_iff_mul_le (by omega : 0 < sz)).2 (by omega)
 rw [Nat.min_eq_left h3] at hs
 refine ⟨rfl, rfl, ?_, fun j hj => by omega⟩
 have h4 := (Nat.div_lt_iff_lt_mul (by omega : 0 < sz)).2 hs
 have h5 := (Nat.le_div_iff_mul_le (by omega : 0 < sz)).2 (Nat.le_of_lt hk)
 omega
end
section
open Go.RowKit Go.Shelf Bt
attribute [local go_sem] Oper.semAt_some
end
end Go.Proofs.YtdobjciaikofdaaGreatDoor
