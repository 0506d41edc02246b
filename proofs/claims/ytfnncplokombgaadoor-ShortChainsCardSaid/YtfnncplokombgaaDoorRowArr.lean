/- For the rows: an argument that is an array of numbers by value. -/
import Derived.Test.YtfnncplokombgaaDoorRowKit
import Derived.SizedLaws
namespace Go.Proofs.YtfnncplokombgaaDoor
open Go.ChangeShapes Go.WideShapes Go.ChangeAt Go.RowKit
def numAt (v : Option Value) : Int := match v with | some (.int _ z) => z | _ => 0
theorem open_arr {H : Type} {enc : TypeId × Value → H} {P : Program} {W : World} {base : Nat} {spare : Nat → Bool} {held : Bool} {t e : TypeId} {k : IntKind} {n : Nat} {cs : Array Value} {d : DataW H} {ps : List MemPlace}
    (ht : P.underlying t = some (.array n e)) (he : P.underlying e = some (.int k)) (hce : P.cellsOf e = 1) (hct : P.cellsOf t = n) (h : DataW.Trod enc P W base spare held t (.agg cs) d ps) :
    ∃ f : Nat → Int, cs = vals k n f ∧ ∀ j, j < n → (Lit.int k (f j)).wf = true := by
  obtain ⟨fuel, hf⟩ := h
  obtain ⟨xs, m, rfl, hx, hl, hxl, hi⟩ := DataW.trod_array ht hf
  rw [hct] at hl
  rw [hce] at hi
  have hcell : ∀ j, j < n → ∃ z, cs[j]? = some (.int k z) ∧ (Lit.int k z).wf = true := by
    intro j hj
    have h1 := hi j hj
    rw [List.getElem?_eq_getElem (by omega)] at h1
    obtain ⟨z, e1, _, w1⟩ := DataW.trod_int he h1
    refine ⟨z, ?_, w1⟩
    have hl2 : cs.toList.length = n := hl
    have hj2 : j < cs.toList.length := by omega
    have e2 : ((cs.toList.drop (j * 1)).take 1) = [cs.toList[j]] := by
      rw [Nat.mul_one, List.drop_eq_getElem_cons hj2]
      rfl
    rw [show (Value.agg cs).cells.toList = cs.toList from rfl, e2] at e1
    have e3 : cs.toList[j] = .int k z := by simpa using e1
    rw [← Array.getElem?_toList, List.getElem?_eq_getElem hj2, e3]
  refine ⟨fun j => numAt cs[j]?, ?_, fun j hj => ?_⟩
  · apply Array.ext_getElem?
    intro j
    by_cases hj : j < n
    · obtain ⟨z, e1, _⟩ := hcell j hj
      rw [vals_get? k n _ j hj, e1]
      rfl
    · rw [vals_get?_none _ _ _ _ (by omega), Array.getElem?_eq_none]
      have hl2 : cs.toList.length = n := hl
      rw [Array.length_toList] at hl2
      omega
  · obtain ⟨z, e1, w1⟩ := hcell j hj
    show (Lit.int k (numAt cs[j]?)).wf = true
    rw [e1]
    exact w1
/-- a slice's reading has as many places as the slice is long, or is nil -/
theorem reads_len {H : Type} {enc : TypeId × Value → H} {P : Program} {W : World} {base : Nat} {spare : Nat → Bool} {held : Bool} {t e : TypeId} {k : IntKind} {a : Option Addr} {len cap : Nat} {d : DataW H} {ps : List MemPlace}
    (hu : P.underlying t = some (.slice e)) (he : P.underlying e = some (.int k)) (hc : P.cellsOf e = 1) (h : DataW.Trod enc P W base spare held t (.slice a len cap) d ps) :
    len = 0 ∨ ∃ elems rest, d = .slice elems rest ∧ elems.length = len := by
  obtain ⟨fuel, hf⟩ := h
  rcases open_ints hu he hc hf with ⟨hcs, _⟩ | ⟨x, l, c, zs, hcs, _, hl, hm, hz, hx, _⟩
  · simp [Value.cells] at hcs
    exact .inl hcs.2.1
  · simp [Value.cells] at hcs
    obtain ⟨_, rfl, _⟩ := hcs
    refine .inr ⟨_, _, congrArg Prod.fst hx, ?_⟩
    simp only [lits, List.length_map, List.length_take]
    rw [hz]
    split <;> omega
end Go.Proofs.YtfnncplokombgaaDoor
