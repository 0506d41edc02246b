/-
  DERIVED. GIVEN WITH THE SEED: THE CARDS: each row of YtfnncplokombgaaDoorRows.lean that lists a variable, with what it lists TIED to the program's text (the seventh form; the later family's looks); each row that meets fmt, with fmt's text TOLD by the authors' own Lean function (tested against real Go, not proved from fmt's source: count such statements apart). THE CARD IS WHAT COUNTS. Prove the row's statement (the work); the ties are given (YtfnncplokombgaaDoorTie.lean); close each card by the builder's one call (the guide's Derived/Test/ToyasCard.lean, 'card_holds'). Laid BY PROGRAM, IN A SANDBOX (cutbox-door.mjs). By AI agents, Wed Nov 11 2026. No macro, syntax, notation, axiom, sorry.
-/
import Derived.Test.YtfnncplokombgaaDoorRows
import GoSem.ClaimSeven
namespace Go.Proofs.YtfnncplokombgaaDoor
namespace Rows

/-- THE TIED CARD OF 'cribblelaw07.ShortSchedules'. -/
def shortSchedulesCard : Claim7 := { stood := { row := shortSchedulesRow, standIns := [], harness := (true, "fe53890780335cc377ce5f06c8ca89872c9c761b583840e24da2ebbb03017113"), looks := false }, kinds := [], alts := [], goes := true, laidByText := true, laidKinds := [.widerDeep, .data, .data], laidTests := true, laidLooks := .later }
def ShortSchedulesCardSaid : Prop := Claim7.holds Tryd.pinned (.plain (OpenSpec.ofChange shortSchedulesSpec)) shortSchedulesCard

/-- THE TIED CARD OF 'cribblelaw07.ShortRounds'. -/
def shortRoundsCard : Claim7 := { stood := { row := shortRoundsRow, standIns := [], harness := (true, "fe53890780335cc377ce5f06c8ca89872c9c761b583840e24da2ebbb03017113"), looks := false }, kinds := [], alts := [], goes := true, laidByText := true, laidKinds := [.widerDeep, .data, .data], laidTests := true, laidLooks := .later }
def ShortRoundsCardSaid : Prop := Claim7.holds Tryd.pinned (.plain (OpenSpec.ofChange shortRoundsSpec)) shortRoundsCard

/-- THE TIED CARD OF 'cribblelaw07.ShortBlocks'. -/
def shortBlocksCard : Claim7 := { stood := { row := shortBlocksRow, standIns := [], harness := (true, "fe53890780335cc377ce5f06c8ca89872c9c761b583840e24da2ebbb03017113"), looks := false }, kinds := [], alts := [], goes := true, laidByText := true, laidKinds := [.widerDeep, .data, .data], laidTests := true, laidLooks := .later }
def ShortBlocksCardSaid : Prop := Claim7.holds Tryd.pinned (.plain (OpenSpec.ofChange shortBlocksSpec)) shortBlocksCard

/-- THE TIED CARD OF 'cribblelaw07.ShortChains'. -/
def shortChainsCard : Claim7 := { stood := { row := shortChainsRow, standIns := [], harness := (true, "fe53890780335cc377ce5f06c8ca89872c9c761b583840e24da2ebbb03017113"), looks := false }, kinds := [], alts := [], goes := true, laidByText := true, laidKinds := [.widerDeep, .data, .data], laidTests := true, laidLooks := .later }
def ShortChainsCardSaid : Prop := Claim7.holds Tryd.pinned (.plain (OpenSpec.ofChange shortChainsSpec)) shortChainsCard

/-- THE SECOND FORM's CARD OF 'cribblelaw07.ShortSchedules'. -/
def shortSchedulesUptoCard : Claim7 := { stood := { row := shortSchedulesUptoRow, standIns := [], harness := (true, "fe53890780335cc377ce5f06c8ca89872c9c761b583840e24da2ebbb03017113"), looks := false }, kinds := [], alts := [], goes := true, laidByText := true, laidKinds := [.widerDeep, .data, .data], laidTests := true, laidLooks := .later }
def ShortSchedulesUptoCardSaid : Prop := Claim7.holds Tryd.pinned (.plain (OpenSpec.upto shortSchedulesSpec)) shortSchedulesUptoCard

/-- THE SECOND FORM's CARD OF 'cribblelaw07.ShortRounds'. -/
def shortRoundsUptoCard : Claim7 := { stood := { row := shortRoundsUptoRow, standIns := [], harness := (true, "fe53890780335cc377ce5f06c8ca89872c9c761b583840e24da2ebbb03017113"), looks := false }, kinds := [], alts := [], goes := true, laidByText := true, laidKinds := [.widerDeep, .data, .data], laidTests := true, laidLooks := .later }
def ShortRoundsUptoCardSaid : Prop := Claim7.holds Tryd.pinned (.plain (OpenSpec.upto shortRoundsSpec)) shortRoundsUptoCard

/-- THE SECOND FORM's CARD OF 'cribblelaw07.ShortBlocks'. -/
def shortBlocksUptoCard : Claim7 := { stood := { row := shortBlocksUptoRow, standIns := [], harness := (true, "fe53890780335cc377ce5f06c8ca89872c9c761b583840e24da2ebbb03017113"), looks := false }, kinds := [], alts := [], goes := true, laidByText := true, laidKinds := [.widerDeep, .data, .data], laidTests := true, laidLooks := .later }
def ShortBlocksUptoCardSaid : Prop := Claim7.holds Tryd.pinned (.plain (OpenSpec.upto shortBlocksSpec)) shortBlocksUptoCard

/-- THE SECOND FORM's CARD OF 'cribblelaw07.ShortChains'. -/
def shortChainsUptoCard : Claim7 := { stood := { row := shortChainsUptoRow, standIns := [], harness := (true, "fe53890780335cc377ce5f06c8ca89872c9c761b583840e24da2ebbb03017113"), looks := false }, kinds := [], alts := [], goes := true, laidByText := true, laidKinds := [.widerDeep, .data, .data], laidTests := true, laidLooks := .later }
def ShortChainsUptoCardSaid : Prop := Claim7.holds Tryd.pinned (.plain (OpenSpec.upto shortChainsSpec)) shortChainsUptoCard
end Rows
end Go.Proofs.YtfnncplokombgaaDoor
