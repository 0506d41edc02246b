/-
  DERIVED. GIVEN WITH THE SEED: THE CARDS: each row of YtdobjciaikofdaaGreatDoorRows.lean that lists a variable, with what it lists TIED to the program's text (the seventh form; the later family's looks); each row that meets fmt, with fmt's text TOLD by the authors' own Lean function (tested against real Go, not proved from fmt's source: count such statements apart). THE CARD IS WHAT COUNTS. Prove the row's statement (the work); the ties are given (YtdobjciaikofdaaGreatDoorTie.lean); close each card by the builder's one call (the guide's Derived/Test/ToyasCard.lean, 'card_holds'). Laid BY PROGRAM, IN A SANDBOX (cutbox-door.mjs). By AI agents, Wed Nov 11 2026. No macro, syntax, notation, axiom, sorry.
-/
import Derived.Test.YtdobjciaikofdaaGreatDoorRows
import GoSem.ClaimSeven
namespace Go.Proofs.YtdobjciaikofdaaGreatDoor
namespace Rows

/-- THE TIED CARD OF 'cribbletop.TopOwn'. -/
def topOwnCard : Claim7 := { stood := { row := topOwnRow, standIns := [], harness := (true, "2f2da5ce436654d585fc8810648a386e30d648b271c9c3a409035e1298319af8"), looks := true }, kinds := [], alts := [], goes := true, laidByText := true, laidKinds := [.data, .data, .data, .data, .widerDeep, .data, .data, .sentinel, .sentinel, .data, .data, .data, .data, .sentinel, .data, .pinned], laidTests := true, laidLooks := .later }
def TopOwnCardSaid : Prop := Claim7.holds Tryz.pinned (.plain (OpenSpec.ofChange topOwnSpec)) topOwnCard

/-- THE TIED CARD OF 'cribbletop.TopLimit'. -/
def topLimitCard : Claim7 := { stood := { row := topLimitRow, standIns := [], harness := (true, "2f2da5ce436654d585fc8810648a386e30d648b271c9c3a409035e1298319af8"), looks := true }, kinds := [], alts := [], goes := true, laidByText := true, laidKinds := [.data, .data, .data, .data, .widerDeep, .data, .data, .sentinel, .sentinel, .data, .data, .data, .data, .sentinel, .data, .pinned], laidTests := true, laidLooks := .later }
def TopLimitCardSaid : Prop := Claim7.holds Tryz.pinned (.plain (OpenSpec.ofChange topLimitSpec)) topLimitCard

/-- THE TIED CARD OF 'cribbletop.TopShake'. -/
def topShakeCard : Claim7 := { stood := { row := topShakeRow, standIns := [], harness := (true, "2f2da5ce436654d585fc8810648a386e30d648b271c9c3a409035e1298319af8"), looks := true }, kinds := [], alts := [], goes := true, laidByText := true, laidKinds := [.data, .data, .data, .data, .widerDeep, .data, .data, .sentinel, .sentinel, .data, .data, .data, .data, .sentinel, .data, .pinned], laidTests := true, laidLooks := .later }
def TopShakeCardSaid : Prop := Claim7.holds Tryz.pinned (.plain (OpenSpec.ofChange topShakeSpec)) topShakeCard

/-- THE SECOND FORM's CARD OF 'cribbletop.TopOwn'. -/
def topOwnUptoCard : Claim7 := { stood := { row := topOwnUptoRow, standIns := [], harness := (true, "2f2da5ce436654d585fc8810648a386e30d648b271c9c3a409035e1298319af8"), looks := true }, kinds := [], alts := [], goes := true, laidByText := true, laidKinds := [.data, .data, .data, .data, .widerDeep, .data, .data, .sentinel, .sentinel, .data, .data, .data, .data, .sentinel, .data, .pinned], laidTests := true, laidLooks := .later }
def TopOwnUptoCardSaid : Prop := Claim7.holds Tryz.pinned (.plain (OpenSpec.upto topOwnSpec)) topOwnUptoCard

/-- THE SECOND FORM's CARD OF 'cribbletop.TopLimit'. -/
def topLimitUptoCard : Claim7 := { stood := { row := topLimitUptoRow, standIns := [], harness := (true, "2f2da5ce436654d585fc8810648a386e30d648b271c9c3a409035e1298319af8"), looks := true }, kinds := [], alts := [], goes := true, laidByText := true, laidKinds := [.data, .data, .data, .data, .widerDeep, .data, .data, .sentinel, .sentinel, .data, .data, .data, .data, .sentinel, .data, .pinned], laidTests := true, laidLooks := .later }
def TopLimitUptoCardSaid : Prop := Claim7.holds Tryz.pinned (.plain (OpenSpec.upto topLimitSpec)) topLimitUptoCard

/-- THE SECOND FORM's CARD OF 'cribbletop.TopShake'. -/
def topShakeUptoCard : Claim7 := { stood := { row := topShakeUptoRow, standIns := [], harness := (true, "2f2da5ce436654d585fc8810648a386e30d648b271c9c3a409035e1298319af8"), looks := true }, kinds := [], alts := [], goes := true, laidByText := true, laidKinds := [.data, .data, .data, .data, .widerDeep, .data, .data, .sentinel, .sentinel, .data, .data, .data, .data, .sentinel, .data, .pinned], laidTests := true, laidLooks := .later }
def TopShakeUptoCardSaid : Prop := Claim7.holds Tryz.pinned (.plain (OpenSpec.upto topShakeSpec)) topShakeUptoCard
end Rows
end Go.Proofs.YtdobjciaikofdaaGreatDoor
