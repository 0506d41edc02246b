/- Arrays of numbers by value: '==', '!='; results in cells. -/
import Derived.Test.YtfnncplokombgaaDoorVals
import Derived.ChangeKeysEq
import Derived.Laws.StructEq
namespace Go.Proofs.YtfnncplokombgaaDoor
open Go.RowKit

def allEq (f g : Nat → Int) (n : Nat) : Bool := (List.range n).all fun i => f i == g i
theorem allEq_true {f g : Nat → Int} {n : Nat} (h : ∀ j, j < n → f j = g j) : allEq f g n = true := by
  unfold allEq
  rw [List.all_eq_true]
  intro j hj
  simp only [List.mem_range] at hj
  simp [h j hj]
theorem allEq_iff {f g : Nat → Int} {n : Nat} : allEq f g n = true ↔ ∀ j, j < n → f j = g j := by
  constructor
  · intro h j hj
    unfold allEq at h
    rw [List.all_eq_true] at h
    have := h j (by simpa using hj)
    simpa using this
  · exact allEq_true
theorem run_items {P : Program} {e : TypeId} {k : IntKind} (he : P.underlying e = some (.int k)) (d n : Nat) (f g : Nat → Int) (w : World) : ∀ is : List Nat, (∀ i ∈ is, i < n) →
    (Op.eqItems (d + 1) e 1 (vals k n f) (vals k n g) is).run P w = .ok (is.all fun i => f i == g i) w
  | [], _ => by simp [Op.eqItems]
  | i :: is, h => by
    have hi : i < n := h i (by simp)
    have ih := run_items he d n f g w is (fun j hj => h j (by simp [hj]))
    have hp : P.plainKey e = true := by simp [Program.plainKey, he]
    have p1 := run_part_plain (P := P) w hp (xs := vals k n f) (off := i * 1) (v := .int k (f i)) (by rw [Nat.mul_one, vals_get? _ _ _ _ hi])
    have p2 := run_part_plain (P := P) w hp (xs := vals k n g) (off := i * 1) (v := .int k (g i)) (by rw [Nat.mul_one, vals_get? _ _ _ _ hi])
    have p3 : (Op.equalIn (d + 1) e (.int k (f i)) (.int k (g i))).run P w = .ok (f i == g i) w := by simp [Op.equalIn, run_underlying he]
    simp only [Op.eqItems, Sem.run_bind, p1, p2, p3, Result.andThen_ok, List.all_cons]
    cases h0 : (f i == g i)
    · simp
    · simpa using ih
theorem eql_vals {P : Program} {T e : TypeId} {k : IntKind} {n : Nat} {i : TypeInfo} (hu : P.underlying T = some (.array n e)) (he : P.underlying e = some (.int k)) (hi : P.info? e = some i) (hc : P.cellsOf e = 1) (f g : Nat → Int) (w : World) :
    (binOp .eql T (.agg (vals k n f)) (.agg (vals k n g))).run P w = .ok (.bool (allEq f g n)) w := by
  rw [run_eql_struct, show (10000 : Nat) = 9998 + 1 + 1 from rfl, run_equalIn_array w (9998 + 1) _ _ hu hi, hc, run_items he 9998 n f g w _ (by simp)]
  rfl
theorem neq_vals {P : Program} {T e : TypeId} {k : IntKind} {n : Nat} {i : TypeInfo} (hu : P.underlying T = some (.array n e)) (he : P.underlying e = some (.int k)) (hi : P.info? e = some i) (hc : P.cellsOf e = 1) (f g : Nat → Int) (w : World) :
    (binOp .neq T (.agg (vals k n f)) (.agg (vals k n g))).run P w = .ok (.bool (!(allEq f g n))) w := by
  rw [run_neq_struct, show (10000 : Nat) = 9998 + 1 + 1 from rfl, run_equalIn_array w (9998 + 1) _ _ hu hi, hc, run_items he 9998 n f g w _ (by simp)]
  rfl
theorem eqin_vals {P : Program} {T e : TypeId} {k : IntKind} {n : Nat} {i : TypeInfo} (hu : P.underlying T = some (.array n e)) (he : P.underlying e = some (.int k)) (hi : P.info? e = some i) (hc : P.cellsOf e = 1) (f g : Nat → Int) (w : World) :
    (Op.equalIn 10000 T (.agg (vals k n f)) (.agg (vals k n g))).run P w = .ok (allEq f g n) w := by
  rw [show (10000 : Nat) = 9998 + 1 + 1 from rfl, run_equalIn_array w (9998 + 1) _ _ hu hi, hc, run_items he 9998 n f g w _ (by simp)]
  rfl
/-- an array in a cell, and a plain result -/
theorem results_row_tmp {P : Program} {w : World} {T : TypeId} {n : Nat} (hT : ArrT P T n) {fn : Func} {p t : Tmp} (h : fn.results = #[.cell p T, .tmp t]) (tmps : Array Value) (g : Nat)
    (hp : tmps.getD p undef = .pointer (some ⟨g, 0, none⟩)) (hg : hasRow w g n) : (results fn tmps).run P w = .ok (.tuple #[.agg (rowAt w g), tmps.getD t undef]) w := by
  obtain ⟨l, e, hu, hi⟩ := hT
  obtain ⟨c, t', hg', rfl⟩ := hg
  unfold rowAt
  rw [hg']
  have hp' : tmps[p]?.getD undef = .pointer (some ⟨g, 0, none⟩) := by simpa using hp
  have hl := run_loadVar_row (P := P) w g t' T c (0, 0) _ hg' hu rfl (by rw [hi])
  simp [results, h, hp', asAddr, hl]
end Go.Proofs.YtfnncplokombgaaDoor
