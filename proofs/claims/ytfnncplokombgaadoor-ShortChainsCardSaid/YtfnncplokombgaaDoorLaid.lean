/- For the rows that list tables: from the row's condition to the cells. -/
import Derived.Test.YtfnncplokombgaaDoorSlices
import Derived.ProofKit
import Derived.OpenShut
import Derived.Lib.LaidTab
namespace Go.Proofs.YtfnncplokombgaaDoor
open Go.RowKit Go.Lib

/-- an array of two rows of three integers that reads as listed holds just these six -/
theorem cells_of_tab23 {H : Type} {enc : TypeId × Value → H} {P : Program} {w : World} {base : Nat} {sp : Nat → Bool} {held : Bool} {fuel : Nat} {t e1 e : TypeId} {k : IntKind} {cs : List Value} {r0 r1 : List Int} {p : List MemPlace}
    (ht : P.underlying t = some (.array 2 e1)) (ht1 : P.underlying e1 = some (.array 3 e)) (he : P.underlying e = some (.int k)) (hce : P.cellsOf e = 1) (hc1 : P.cellsOf e1 = 3) (hct : P.cellsOf t = 6)
    (h : DataW.trod enc P w base sp held fuel t cs = some (.agg [tabData k r0, tabData k r1], p)) : cs = (r0 ++ r1).map fun z => Value.int k z := by
  obtain ⟨xs, m, rfl, hx, hl, hxl, hi⟩ := DataW.trod_array ht h
  rw [hct] at hl
  have hm : xs.map (·.1) = [tabData k r0, tabData k r1] := by
    have := congrArg Prod.fst hx
    simpa using this.symm
  match xs, hxl, hm, hi with
  | [(d0, p0), (d1, p1)], _, hm, hi =>
    simp only [List.map_cons, List.map_nil, List.cons.injEq, and_true] at hm
    obtain ⟨rfl, rfl⟩ := hm
    have a0 := hi 0 (by omega)
    have a1 := hi 1 (by omega)
    rw [hc1] at a0 a1
    have b0 := cells_of_tab ht1 he hce hc1 a0
    have b1 := cells_of_tab ht1 he hce hc1 a1
    rw [List.map_append, ← b0, ← b1]
    simp only [Nat.zero_mul, Nat.one_mul, List.drop_zero]
    rw [List.take_of_length_le (l := cs.drop 3) (by simp; omega), List.take_append_drop]
/-- a block with other cells -/
def layCells (c : Array Value) : Obj → Obj
  | .cells _ t frozen => .cells c t frozen
  | o => o
theorem laid_cell {P : Program} {W : World} {name : String} {g : Nat} {cs : Array Value} (hg : P.globalNamed name = some g) (h : W.var? P name = some cs) {k : IntKind} {zs : List Int} (hz : cs.toList = zs.map fun z => Value.int k z) (i : Nat) (hi : i < zs.length) :
    W.cell? ⟨g, i, none⟩ = some (.int k (zs.getD i 0)) := by
  rw [World.var?_cell hg h i, ← Array.getElem?_toList, hz]
  simp [List.getD, hi]
end Go.Proofs.YtfnncplokombgaaDoor
