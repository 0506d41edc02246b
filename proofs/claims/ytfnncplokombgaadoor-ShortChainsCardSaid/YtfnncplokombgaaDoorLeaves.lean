/- From a call that is alone at its return to one whose others only leave; the tied card of a row whose call can start goroutines. -/
import Derived.Conc.Holds
import Derived.Handed
import Derived.Leaving
import Derived.SevenTiedAt
namespace Go.Proofs.YtfnncplokombgaaDoor
theorem leaving_of_handed {a : Assume} {C : Checked} {os : Os} {f : FuncId} {r : Reach} {Pre : World → Array Value → Prop} {Post : World → Array Value → Value → World → Prop} (h : ReturnsInHanded a C os f r Pre Post) : ReturnsInLeavingWide a C os f r Pre Post :=
  fun enter => ReturnsInOpen.mono (fun _ _ _ x => ⟨x.2.1, onlyLeaving_of_quiet x.1, x.2.2⟩) (fun _ x => x) (h enter)
theorem tied_goes (L : Looks) {p : Pinned} {s : OpenSpec} {c : OpenClaim} (kinds : List LaidKind) (tests : Bool) (har : Bool × String) (hc : c.holds p s) (hw : c.wfByText s = true) (htie : c.laidByTextAt L p kinds tests)
    (hst : c.start = .entering) (hnb : c.noBlocks = false ∧ c.again = false) (hm : p.checked.prog.mainIs = some (har.1, har.2.toList)) (hn : har.1 = true)
    (hl : ∀ f fn, p.checked.prog.funcNamed c.func = some f → p.checked.prog.funcs[f]? = some fn → false = p.checked.prog.looks [] ∧ ∀ (j : Nat) t, fn.params[j]? = some t → p.checked.prog.wantsStandIn t = false)
    (hg : true = c.goesBy p.checked.prog) :
    Claim7.holds p (.plain s) { stood := { row := c, standIns := [], harness := har, looks := false }, kinds := [], alts := [], goes := true, laidByText := true, laidKinds := kinds, laidTests := tests, laidLooks := L } := by
  have h6 : Claim7.isSixth { stood := { row := c, standIns := [], harness := har, looks := false }, kinds := [] } = false := by simp [Claim7.isSixth, hn]
  refine ⟨Claim7.tied_new_at L kinds tests (Claim7.new_of_sixth hc har false hst hnb hm h6 hl) hw, fun D hD => ?_, htie, (fun h => by cases h), hg⟩
  cases hD
end Go.Proofs.YtfnncplokombgaaDoor
