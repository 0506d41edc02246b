/-
  DERIVED. GIVEN WITH THE SEED: THE CARDS: each row of YtcpmamnoaiaieaaDoorRows.lean that lists a variable, with what it lists TIED to the program's text (the seventh form; the later family's looks); each row that meets fmt, with fmt's text TOLD by the authors' own Lean function (tested against real Go, not proved from fmt's source: count such statements apart). THE CARD IS WHAT COUNTS. Prove the row's statement (the work); the ties are given (YtcpmamnoaiaieaaDoorTie.lean); close each card by the builder's one call (the guide's Derived/Test/ToyasCard.lean, 'card_holds'). Laid BY PROGRAM, IN A SANDBOX (cutbox-door.mjs). By AI agents, Wed Nov 11 2026. No macro, syntax, notation, axiom, sorry.
-/
import Derived.Test.YtcpmamnoaiaieaaDoorRows
import GoSem.ClaimSeven
namespace Go.Proofs.YtcpmamnoaiaieaaDoor
namespace Rows

/-- THE TIED CARD OF 'cribblelaw08.WideSchedules'. -/
def wideSchedulesCard : Claim7 := { stood := { row := wideSchedulesRow, standIns := [], harness := (true, "0d4ae40f86a3136d2be6b16433ce3b592e0e3ad3f616254f1b09515088aecf32"), looks := false }, kinds := [], alts := [], laidByText := true, laidKinds := [.data, .data, .widerDeep], laidTests := true, laidLooks := .later }
def WideSchedulesCardSaid : Prop := Claim7.holds Tryd.pinned (.plain (OpenSpec.ofChange wideSchedulesSpec)) wideSchedulesCard

/-- THE TIED CARD OF 'cribblelaw08.WideRounds'. -/
def wideRoundsCard : Claim7 := { stood := { row := wideRoundsRow, standIns := [], harness := (true, "0d4ae40f86a3136d2be6b16433ce3b592e0e3ad3f616254f1b09515088aecf32"), looks := false }, kinds := [], alts := [], laidByText := true, laidKinds := [.data, .data, .widerDeep], laidTests := true, laidLooks := .later }
def WideRoundsCardSaid : Prop := Claim7.holds Tryd.pinned (.plain (OpenSpec.ofChange wideRoundsSpec)) wideRoundsCard

/-- THE TIED CARD OF 'cribblelaw08.WideBlocks'. -/
def wideBlocksCard : Claim7 := { stood := { row := wideBlocksRow, standIns := [], harness := (true, "0d4ae40f86a3136d2be6b16433ce3b592e0e3ad3f616254f1b09515088aecf32"), looks := false }, kinds := [], alts := [], laidByText := true, laidKinds := [.data, .data, .widerDeep], laidTests := true, laidLooks := .later }
def WideBlocksCardSaid : Prop := Claim7.holds Tryd.pinned (.plain (OpenSpec.ofChange wideBlocksSpec)) wideBlocksCard

/-- THE TIED CARD OF 'cribblelaw08.WideChains'. -/
def wideChainsCard : Claim7 := { stood := { row := wideChainsRow, standIns := [], harness := (true, "0d4ae40f86a3136d2be6b16433ce3b592e0e3ad3f616254f1b09515088aecf32"), looks := false }, kinds := [], alts := [], laidByText := true, laidKinds := [.data, .data, .widerDeep], laidTests := true, laidLooks := .later }
def WideChainsCardSaid : Prop := Claim7.holds Tryd.pinned (.plain (OpenSpec.ofChange wideChainsSpec)) wideChainsCard

/-- THE SECOND FORM's CARD OF 'cribblelaw08.WideSchedules'. -/
def wideSchedulesUptoCard : Claim7 := { stood := { row := wideSchedulesUptoRow, standIns := [], harness := (true, "0d4ae40f86a3136d2be6b16433ce3b592e0e3ad3f616254f1b09515088aecf32"), looks := false }, kinds := [], alts := [], laidByText := true, laidKinds := [.data, .data, .widerDeep], laidTests := true, laidLooks := .later }
def WideSchedulesUptoCardSaid : Prop := Claim7.holds Tryd.pinned (.plain (OpenSpec.upto wideSchedulesSpec)) wideSchedulesUptoCard

/-- THE SECOND FORM's CARD OF 'cribblelaw08.WideRounds'. -/
def wideRoundsUptoCard : Claim7 := { stood := { row := wideRoundsUptoRow, standIns := [], harness := (true, "0d4ae40f86a3136d2be6b16433ce3b592e0e3ad3f616254f1b09515088aecf32"), looks := false }, kinds := [], alts := [], laidByText := true, laidKinds := [.data, .data, .widerDeep], laidTests := true, laidLooks := .later }
def WideRoundsUptoCardSaid : Prop := Claim7.holds Tryd.pinned (.plain (OpenSpec.upto wideRoundsSpec)) wideRoundsUptoCard

/-- THE SECOND FORM's CARD OF 'cribblelaw08.WideBlocks'. -/
def wideBlocksUptoCard : Claim7 := { stood := { row := wideBlocksUptoRow, standIns := [], harness := (true, "0d4ae40f86a3136d2be6b16433ce3b592e0e3ad3f616254f1b09515088aecf32"), looks := false }, kinds := [], alts := [], laidByText := true, laidKinds := [.data, .data, .widerDeep], laidTests := true, laidLooks := .later }
def WideBlocksUptoCardSaid : Prop := Claim7.holds Tryd.pinned (.plain (OpenSpec.upto wideBlocksSpec)) wideBlocksUptoCard

/-- THE SECOND FORM's CARD OF 'cribblelaw08.WideChains'. -/
def wideChainsUptoCard : Claim7 := { stood := { row := wideChainsUptoRow, standIns := [], harness := (true, "0d4ae40f86a3136d2be6b16433ce3b592e0e3ad3f616254f1b09515088aecf32"), looks := false }, kinds := [], alts := [], laidByText := true, laidKinds := [.data, .data, .widerDeep], laidTests := true, laidLooks := .later }
def WideChainsUptoCardSaid : Prop := Claim7.holds Tryd.pinned (.plain (OpenSpec.upto wideChainsSpec)) wideChainsUptoCard
end Rows
end Go.Proofs.YtcpmamnoaiaieaaDoor
