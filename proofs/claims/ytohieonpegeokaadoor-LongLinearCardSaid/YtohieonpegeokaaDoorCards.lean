/-
  DERIVED. GIVEN WITH THE SEED: THE CARDS: each row of YtohieonpegeokaaDoorRows.lean that lists a variable, with what it lists TIED to the program's text (the seventh form; the later family's looks); each row that meets fmt, with fmt's text TOLD by the authors' own Lean function (tested against real Go, not proved from fmt's source: count such statements apart). THE CARD IS WHAT COUNTS. Prove the row's statement (the work); the ties are given (YtohieonpegeokaaDoorTie.lean); close each card by the builder's one call (the guide's Derived/Test/ToyasCard.lean, 'card_holds'). Laid BY PROGRAM, IN A SANDBOX (cutbox-door.mjs). By AI agents, Wed Nov 11 2026. No macro, syntax, notation, axiom, sorry.
-/
import Derived.Test.YtohieonpegeokaaDoorRows
import GoSem.ClaimSeven
namespace Go.Proofs.YtohieonpegeokaaDoor
namespace Rows

/-- THE TIED CARD OF 'cribblelaw01.WordSigmas'. -/
def wordSigmasCard : Claim7 := { stood := { row := wordSigmasRow, standIns := [], harness := (true, "365cff1f6930bb94b92afe62a819de602c5145ef2ebdd7a6488e4fcd99e0581a"), looks := false }, kinds := [], alts := [], laidByText := true, laidKinds := [.data, .data], laidTests := true, laidLooks := .later }
def WordSigmasCardSaid : Prop := Claim7.holds Tryd.pinned (.plain (OpenSpec.ofChange wordSigmasSpec)) wordSigmasCard

/-- THE TIED CARD OF 'cribblelaw01.WordLinear'. -/
def wordLinearCard : Claim7 := { stood := { row := wordLinearRow, standIns := [], harness := (true, "365cff1f6930bb94b92afe62a819de602c5145ef2ebdd7a6488e4fcd99e0581a"), looks := false }, kinds := [], alts := [], laidByText := true, laidKinds := [.data, .data], laidTests := true, laidLooks := .later }
def WordLinearCardSaid : Prop := Claim7.holds Tryd.pinned (.plain (OpenSpec.ofChange wordLinearSpec)) wordLinearCard

/-- THE TIED CARD OF 'cribblelaw02.LongSigmas'. -/
def longSigmasCard : Claim7 := { stood := { row := longSigmasRow, standIns := [], harness := (true, "365cff1f6930bb94b92afe62a819de602c5145ef2ebdd7a6488e4fcd99e0581a"), looks := false }, kinds := [], alts := [], laidByText := true, laidKinds := [.data, .data], laidTests := true, laidLooks := .later }
def LongSigmasCardSaid : Prop := Claim7.holds Tryd.pinned (.plain (OpenSpec.ofChange longSigmasSpec)) longSigmasCard

/-- THE TIED CARD OF 'cribblelaw02.LongLinear'. -/
def longLinearCard : Claim7 := { stood := { row := longLinearRow, standIns := [], harness := (true, "365cff1f6930bb94b92afe62a819de602c5145ef2ebdd7a6488e4fcd99e0581a"), looks := false }, kinds := [], alts := [], laidByText := true, laidKinds := [.data, .data], laidTests := true, laidLooks := .later }
def LongLinearCardSaid : Prop := Claim7.holds Tryd.pinned (.plain (OpenSpec.ofChange longLinearSpec)) longLinearCard

/-- THE TIED CARD OF 'cribblelaw08.WideSchedules'. -/
def wideSchedulesCard : Claim7 := { stood := { row := wideSchedulesRow, standIns := [], harness := (true, "365cff1f6930bb94b92afe62a819de602c5145ef2ebdd7a6488e4fcd99e0581a"), looks := false }, kinds := [], alts := [], goes := true, laidByText := true, laidKinds := [.data, .data, .widerDeep], laidTests := true, laidLooks := .later }
def WideSchedulesCardSaid : Prop := Claim7.holds Tryd.pinned (.plain (OpenSpec.ofChange wideSchedulesSpec)) wideSchedulesCard

/-- THE TIED CARD OF 'cribblelaw08.WideRounds'. -/
def wideRoundsCard : Claim7 := { stood := { row := wideRoundsRow, standIns := [], harness := (true, "365cff1f6930bb94b92afe62a819de602c5145ef2ebdd7a6488e4fcd99e0581a"), looks := false }, kinds := [], alts := [], goes := true, laidByText := true, laidKinds := [.data, .data, .widerDeep], laidTests := true, laidLooks := .later }
def WideRoundsCardSaid : Prop := Claim7.holds Tryd.pinned (.plain (OpenSpec.ofChange wideRoundsSpec)) wideRoundsCard

/-- THE TIED CARD OF 'cribblelaw08.WideBlocks'. -/
def wideBlocksCard : Claim7 := { stood := { row := wideBlocksRow, standIns := [], harness := (true, "365cff1f6930bb94b92afe62a819de602c5145ef2ebdd7a6488e4fcd99e0581a"), looks := false }, kinds := [], alts := [], goes := true, laidByText := true, laidKinds := [.data, .data, .widerDeep], laidTests := true, laidLooks := .later }
def WideBlocksCardSaid : Prop := Claim7.holds Tryd.pinned (.plain (OpenSpec.ofChange wideBlocksSpec)) wideBlocksCard

/-- THE TIED CARD OF 'cribblelaw08.WideChains'. -/
def wideChainsCard : Claim7 := { stood := { row := wideChainsRow, standIns := [], harness := (true, "365cff1f6930bb94b92afe62a819de602c5145ef2ebdd7a6488e4fcd99e0581a"), looks := false }, kinds := [], alts := [], goes := true, laidByText := true, laidKinds := [.data, .data, .widerDeep], laidTests := true, laidLooks := .later }
def WideChainsCardSaid : Prop := Claim7.holds Tryd.pinned (.plain (OpenSpec.ofChange wideChainsSpec)) wideChainsCard

/-- THE TIED CARD OF 'cribblelaw07.ShortSchedules'. -/
def shortSchedulesCard : Claim7 := { stood := { row := shortSchedulesRow, standIns := [], harness := (true, "365cff1f6930bb94b92afe62a819de602c5145ef2ebdd7a6488e4fcd99e0581a"), looks := false }, kinds := [], alts := [], goes := true, laidByText := true, laidKinds := [.widerDeep, .data, .data], laidTests := true, laidLooks := .later }
def ShortSchedulesCardSaid : Prop := Claim7.holds Tryd.pinned (.plain (OpenSpec.ofChange shortSchedulesSpec)) shortSchedulesCard

/-- THE TIED CARD OF 'cribblelaw07.ShortRounds'. -/
def shortRoundsCard : Claim7 := { stood := { row := shortRoundsRow, standIns := [], harness := (true, "365cff1f6930bb94b92afe62a819de602c5145ef2ebdd7a6488e4fcd99e0581a"), looks := false }, kinds := [], alts := [], goes := true, laidByText := true, laidKinds := [.widerDeep, .data, .data], laidTests := true, laidLooks := .later }
def ShortRoundsCardSaid : Prop := Claim7.holds Tryd.pinned (.plain (OpenSpec.ofChange shortRoundsSpec)) shortRoundsCard

/-- THE TIED CARD OF 'cribblelaw07.ShortBlocks'. -/
def shortBlocksCard : Claim7 := { stood := { row := shortBlocksRow, standIns := [], harness := (true, "365cff1f6930bb94b92afe62a819de602c5145ef2ebdd7a6488e4fcd99e0581a"), looks := false }, kinds := [], alts := [], goes := true, laidByText := true, laidKinds := [.widerDeep, .data, .data], laidTests := true, laidLooks := .later }
def ShortBlocksCardSaid : Prop := Claim7.holds Tryd.pinned (.plain (OpenSpec.ofChange shortBlocksSpec)) shortBlocksCard

/-- THE TIED CARD OF 'cribblelaw07.ShortChains'. -/
def shortChainsCard : Claim7 := { stood := { row := shortChainsRow, standIns := [], harness := (true, "365cff1f6930bb94b92afe62a819de602c5145ef2ebdd7a6488e4fcd99e0581a"), looks := false }, kinds := [], alts := [], goes := true, laidByText := true, laidKinds := [.widerDeep, .data, .data], laidTests := true, laidLooks := .later }
def ShortChainsCardSaid : Prop := Claim7.holds Tryd.pinned (.plain (OpenSpec.ofChange shortChainsSpec)) shortChainsCard

/-- THE SECOND FORM's CARD OF 'cribblelaw01.WordSigmas'. -/
def wordSigmasUptoCard : Claim7 := { stood := { row := wordSigmasUptoRow, standIns := [], harness := (true, "365cff1f6930bb94b92afe62a819de602c5145ef2ebdd7a6488e4fcd99e0581a"), looks := false }, kinds := [], alts := [], laidByText := true, laidKinds := [.data, .data], laidTests := true, laidLooks := .later }
def WordSigmasUptoCardSaid : Prop := Claim7.holds Tryd.pinned (.plain (OpenSpec.upto wordSigmasSpec)) wordSigmasUptoCard

/-- THE SECOND FORM's CARD OF 'cribblelaw01.WordLinear'. -/
def wordLinearUptoCard : Claim7 := { stood := { row := wordLinearUptoRow, standIns := [], harness := (true, "365cff1f6930bb94b92afe62a819de602c5145ef2ebdd7a6488e4fcd99e0581a"), looks := false }, kinds := [], alts := [], laidByText := true, laidKinds := [.data, .data], laidTests := true, laidLooks := .later }
def WordLinearUptoCardSaid : Prop := Claim7.holds Tryd.pinned (.plain (OpenSpec.upto wordLinearSpec)) wordLinearUptoCard

/-- THE SECOND FORM's CARD OF 'cribblelaw02.LongSigmas'. -/
def longSigmasUptoCard : Claim7 := { stood := { row := longSigmasUptoRow, standIns := [], harness := (true, "365cff1f6930bb94b92afe62a819de602c5145ef2ebdd7a6488e4fcd99e0581a"), looks := false }, kinds := [], alts := [], laidByText := true, laidKinds := [.data, .data], laidTests := true, laidLooks := .later }
def LongSigmasUptoCardSaid : Prop := Claim7.holds Tryd.pinned (.plain (OpenSpec.upto longSigmasSpec)) longSigmasUptoCard

/-- THE SECOND FORM's CARD OF 'cribblelaw02.LongLinear'. -/
def longLinearUptoCard : Claim7 := { stood := { row := longLinearUptoRow, standIns := [], harness := (true, "365cff1f6930bb94b92afe62a819de602c5145ef2ebdd7a6488e4fcd99e0581a"), looks := false }, kinds := [], alts := [], laidByText := true, laidKinds := [.data, .data], laidTests := true, laidLooks := .later }
def LongLinearUptoCardSaid : Prop := Claim7.holds Tryd.pinned (.plain (OpenSpec.upto longLinearSpec)) longLinearUptoCard

/-- THE SECOND FORM's CARD OF 'cribblelaw08.WideSchedules'. -/
def wideSchedulesUptoCard : Claim7 := { stood := { row := wideSchedulesUptoRow, standIns := [], harness := (true, "365cff1f6930bb94b92afe62a819de602c5145ef2ebdd7a6488e4fcd99e0581a"), looks := false }, kinds := [], alts := [], goes := true, laidByText := true, laidKinds := [.data, .data, .widerDeep], laidTests := true, laidLooks := .later }
def WideSchedulesUptoCardSaid : Prop := Claim7.holds Tryd.pinned (.plain (OpenSpec.upto wideSchedulesSpec)) wideSchedulesUptoCard

/-- THE SECOND FORM's CARD OF 'cribblelaw08.WideRounds'. -/
def wideRoundsUptoCard : Claim7 := { stood := { row := wideRoundsUptoRow, standIns := [], harness := (true, "365cff1f6930bb94b92afe62a819de602c5145ef2ebdd7a6488e4fcd99e0581a"), looks := false }, kinds := [], alts := [], goes := true, laidByText := true, laidKinds := [.data, .data, .widerDeep], laidTests := true, laidLooks := .later }
def WideRoundsUptoCardSaid : Prop := Claim7.holds Tryd.pinned (.plain (OpenSpec.upto wideRoundsSpec)) wideRoundsUptoCard

/-- THE SECOND FORM's CARD OF 'cribblelaw08.WideBlocks'. -/
def wideBlocksUptoCard : Claim7 := { stood := { row := wideBlocksUptoRow, standIns := [], harness := (true, "365cff1f6930bb94b92afe62a819de602c5145ef2ebdd7a6488e4fcd99e0581a"), looks := false }, kinds := [], alts := [], goes := true, laidByText := true, laidKinds := [.data, .data, .widerDeep], laidTests := true, laidLooks := .later }
def WideBlocksUptoCardSaid : Prop := Claim7.holds Tryd.pinned (.plain (OpenSpec.upto wideBlocksSpec)) wideBlocksUptoCard

/-- THE SECOND FORM's CARD OF 'cribblelaw08.WideChains'. -/
def wideChainsUptoCard : Claim7 := { stood := { row := wideChainsUptoRow, standIns := [], harness := (true, "365cff1f6930bb94b92afe62a819de602c5145ef2ebdd7a6488e4fcd99e0581a"), looks := false }, kinds := [], alts := [], goes := true, laidByText := true, laidKinds := [.data, .data, .widerDeep], laidTests := true, laidLooks := .later }
def WideChainsUptoCardSaid : Prop := Claim7.holds Tryd.pinned (.plain (OpenSpec.upto wideChainsSpec)) wideChainsUptoCard

/-- THE SECOND FORM's CARD OF 'cribblelaw07.ShortSchedules'. -/
def shortSchedulesUptoCard : Claim7 := { stood := { row := shortSchedulesUptoRow, standIns := [], harness := (true, "365cff1f6930bb94b92afe62a819de602c5145ef2ebdd7a6488e4fcd99e0581a"), looks := false }, kinds := [], alts := [], goes := true, laidByText := true, laidKinds := [.widerDeep, .data, .data], laidTests := true, laidLooks := .later }
def ShortSchedulesUptoCardSaid : Prop := Claim7.holds Tryd.pinned (.plain (OpenSpec.upto shortSchedulesSpec)) shortSchedulesUptoCard

/-- THE SECOND FORM's CARD OF 'cribblelaw07.ShortRounds'. -/
def shortRoundsUptoCard : Claim7 := { stood := { row := shortRoundsUptoRow, standIns := [], harness := (true, "365cff1f6930bb94b92afe62a819de602c5145ef2ebdd7a6488e4fcd99e0581a"), looks := false }, kinds := [], alts := [], goes := true, laidByText := true, laidKinds := [.widerDeep, .data, .data], laidTests := true, laidLooks := .later }
def ShortRoundsUptoCardSaid : Prop := Claim7.holds Tryd.pinned (.plain (OpenSpec.upto shortRoundsSpec)) shortRoundsUptoCard

/-- THE SECOND FORM's CARD OF 'cribblelaw07.ShortBlocks'. -/
def shortBlocksUptoCard : Claim7 := { stood := { row := shortBlocksUptoRow, standIns := [], harness := (true, "365cff1f6930bb94b92afe62a819de602c5145ef2ebdd7a6488e4fcd99e0581a"), looks := false }, kinds := [], alts := [], goes := true, laidByText := true, laidKinds := [.widerDeep, .data, .data], laidTests := true, laidLooks := .later }
def ShortBlocksUptoCardSaid : Prop := Claim7.holds Tryd.pinned (.plain (OpenSpec.upto shortBlocksSpec)) shortBlocksUptoCard

/-- THE SECOND FORM's CARD OF 'cribblelaw07.ShortChains'. -/
def shortChainsUptoCard : Claim7 := { stood := { row := shortChainsUptoRow, standIns := [], harness := (true, "365cff1f6930bb94b92afe62a819de602c5145ef2ebdd7a6488e4fcd99e0581a"), looks := false }, kinds := [], alts := [], goes := true, laidByText := true, laidKinds := [.widerDeep, .data, .data], laidTests := true, laidLooks := .later }
def ShortChainsUptoCardSaid : Prop := Claim7.holds Tryd.pinned (.plain (OpenSpec.upto shortChainsSpec)) shortChainsUptoCard
end Rows
end Go.Proofs.YtohieonpegeokaaDoor
