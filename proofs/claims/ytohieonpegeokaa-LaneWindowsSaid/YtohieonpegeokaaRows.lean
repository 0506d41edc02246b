/-
  No cell of these rows narrows 'for every input' (looked for: loops, veiled, ifaces, maps, wideKeys, modest, calm, conditions, laid).
  DERIVED. THE GIVEN ROWS OF THIS SEAT. 16 by the template 'for every input the law returns true; each argument reads behind the call as it read before'; 0 by the template 'total and deterministic' (their statements: YtohieonpegeokaaTotals.lean).
  GIVEN WITH THE SEED: the statements are not yours to turn. If you find one false, say at which input.
  Laid BY PROGRAM, IN A SANDBOX (cutbox-rows.mjs): the forced cells as the released guide's own fill.sh prints them over the translation 55d364cd51e5f382… (all of the seat's roots in one cut). By AI agents, Wed Nov 11 2026. No macro, syntax, notation, axiom, sorry.
-/
import Derived.Test.YtohieonpegeokaaChecked
import GoSem.Claim
import GoSem.ClaimJoined
import GoSem.ClaimMapViews
import Derived.JoinedTies
import Derived.KernelRfl
namespace Go.Proofs.Ytohieonpegeokaa
/- THE CELL 'sum', in the pinned program and in every row, IS THE sha256 OF THE DUMP (.gsa) THAT YtohieonpegeokaaProg.lean LOADS. Nothing in Lean hashes anything: it is a label: what it is worth is what the hold of that sum in a sandbox is worth. -/
noncomputable def Try.pinned : Pinned := { name := "ytohieonpegeokaa", sum := "55d364cd51e5f382fc4b1dfd433b4082ec67fcaae15beca22542ccb8c4f7ccad", checked := Try.checked }
namespace Rows
def none {H : Type} : Left H := { results := [], args := [] }

/-- 'cribblelaw01.WordTurns': WHATEVER THE INPUT: true; the input reads as it did. -/
def wordTurnsSpec : ChangeSpec := { name := "wordTurns", fn := fun _ => fun
  | [d1, d2] => { results := [.lit (.bool true)], args := [d1, d2] }
  | _ => none }
def wordTurnsRow : OpenClaim := { program := "ytohieonpegeokaa", sum := "55d364cd51e5f382fc4b1dfd433b4082ec67fcaae15beca22542ccb8c4f7ccad", func := "cribble/cribblelaw01.WordTurns", spec := "wordTurns", apart := false }
def WordTurnsSaid : Prop := wordTurnsRow.holds Try.pinned (OpenSpec.ofChange wordTurnsSpec)

/-- ITS FALSE NEIGHBOUR: 'it returns false'. Refute it at one input. -/
def wordTurnsWrong : ChangeSpec := { name := "wordTurns", fn := fun _ => fun
  | [d1, d2] => { results := [.lit (.bool false)], args := [d1, d2] }
  | _ => none }
def WordTurnsWrongFalsely : Prop := wordTurnsRow.holds Try.pinned (OpenSpec.ofChange wordTurnsWrong)

/-- 'cribblelaw01.WordPicks': WHATEVER THE INPUT: true; the input reads as it did. -/
def wordPicksSpec : ChangeSpec := { name := "wordPicks", fn := fun _ => fun
  | [d1, d2, d3] => { results := [.lit (.bool true)], args := [d1, d2, d3] }
  | _ => none }
def wordPicksRow : OpenClaim := { program := "ytohieonpegeokaa", sum := "55d364cd51e5f382fc4b1dfd433b4082ec67fcaae15beca22542ccb8c4f7ccad", func := "cribble/cribblelaw01.WordPicks", spec := "wordPicks", apart := false }
def WordPicksSaid : Prop := wordPicksRow.holds Try.pinned (OpenSpec.ofChange wordPicksSpec)

/-- ITS FALSE NEIGHBOUR: 'it returns false'. Refute it at one input. -/
def wordPicksWrong : ChangeSpec := { name := "wordPicks", fn := fun _ => fun
  | [d1, d2, d3] => { results := [.lit (.bool false)], args := [d1, d2, d3] }
  | _ => none }
def WordPicksWrongFalsely : Prop := wordPicksRow.holds Try.pinned (OpenSpec.ofChange wordPicksWrong)

/-- 'cribblelaw01.WordShifts': WHATEVER THE INPUT: true; the input reads as it did. -/
def wordShiftsSpec : ChangeSpec := { name := "wordShifts", fn := fun _ => fun
  | [d1, d2, d3] => { results := [.lit (.bool true)], args := [d1, d2, d3] }
  | _ => none }
def wordShiftsRow : OpenClaim := { program := "ytohieonpegeokaa", sum := "55d364cd51e5f382fc4b1dfd433b4082ec67fcaae15beca22542ccb8c4f7ccad", func := "cribble/cribblelaw01.WordShifts", spec := "wordShifts", apart := false }
def WordShiftsSaid : Prop := wordShiftsRow.holds Try.pinned (OpenSpec.ofChange wordShiftsSpec)

/-- ITS FALSE NEIGHBOUR: 'it returns false'. Refute it at one input. -/
def wordShiftsWrong : ChangeSpec := { name := "wordShifts", fn := fun _ => fun
  | [d1, d2, d3] => { results := [.lit (.bool false)], args := [d1, d2, d3] }
  | _ => none }
def WordShiftsWrongFalsely : Prop := wordShiftsRow.holds Try.pinned (OpenSpec.ofChange wordShiftsWrong)

/-- 'cribblelaw02.LongTurns': WHATEVER THE INPUT: true; the input reads as it did. -/
def longTurnsSpec : ChangeSpec := { name := "longTurns", fn := fun _ => fun
  | [d1, d2] => { results := [.lit (.bool true)], args := [d1, d2] }
  | _ => none }
def longTurnsRow : OpenClaim := { program := "ytohieonpegeokaa", sum := "55d364cd51e5f382fc4b1dfd433b4082ec67fcaae15beca22542ccb8c4f7ccad", func := "cribble/cribblelaw02.LongTurns", spec := "longTurns", apart := false }
def LongTurnsSaid : Prop := longTurnsRow.holds Try.pinned (OpenSpec.ofChange longTurnsSpec)

/-- ITS FALSE NEIGHBOUR: 'it returns false'. Refute it at one input. -/
def longTurnsWrong : ChangeSpec := { name := "longTurns", fn := fun _ => fun
  | [d1, d2] => { results := [.lit (.bool false)], args := [d1, d2] }
  | _ => none }
def LongTurnsWrongFalsely : Prop := longTurnsRow.holds Try.pinned (OpenSpec.ofChange longTurnsWrong)

/-- 'cribblelaw02.LongPicks': WHATEVER THE INPUT: true; the input reads as it did. -/
def longPicksSpec : ChangeSpec := { name := "longPicks", fn := fun _ => fun
  | [d1, d2, d3] => { results := [.lit (.bool true)], args := [d1, d2, d3] }
  | _ => none }
def longPicksRow : OpenClaim := { program := "ytohieonpegeokaa", sum := "55d364cd51e5f382fc4b1dfd433b4082ec67fcaae15beca22542ccb8c4f7ccad", func := "cribble/cribblelaw02.LongPicks", spec := "longPicks", apart := false }
def LongPicksSaid : Prop := longPicksRow.holds Try.pinned (OpenSpec.ofChange longPicksSpec)

/-- ITS FALSE NEIGHBOUR: 'it returns false'. Refute it at one input. -/
def longPicksWrong : ChangeSpec := { name := "longPicks", fn := fun _ => fun
  | [d1, d2, d3] => { results := [.lit (.bool false)], args := [d1, d2, d3] }
  | _ => none }
def LongPicksWrongFalsely : Prop := longPicksRow.holds Try.pinned (OpenSpec.ofChange longPicksWrong)

/-- 'cribblelaw02.LongShifts': WHATEVER THE INPUT: true; the input reads as it did. -/
def longShiftsSpec : ChangeSpec := { name := "longShifts", fn := fun _ => fun
  | [d1, d2, d3] => { results := [.lit (.bool true)], args := [d1, d2, d3] }
  | _ => none }
def longShiftsRow : OpenClaim := { program := "ytohieonpegeokaa", sum := "55d364cd51e5f382fc4b1dfd433b4082ec67fcaae15beca22542ccb8c4f7ccad", func := "cribble/cribblelaw02.LongShifts", spec := "longShifts", apart := false }
def LongShiftsSaid : Prop := longShiftsRow.holds Try.pinned (OpenSpec.ofChange longShiftsSpec)

/-- ITS FALSE NEIGHBOUR: 'it returns false'. Refute it at one input. -/
def longShiftsWrong : ChangeSpec := { name := "longShifts", fn := fun _ => fun
  | [d1, d2, d3] => { results := [.lit (.bool false)], args := [d1, d2, d3] }
  | _ => none }
def LongShiftsWrongFalsely : Prop := longShiftsRow.holds Try.pinned (OpenSpec.ofChange longShiftsWrong)

/-- 'cribblelaw01.WordSums': WHATEVER THE INPUT: true; the input reads as it did. -/
def wordSumsSpec : ChangeSpec := { name := "wordSums", fn := fun _ => fun
  | [d1, d2] => { results := [.lit (.bool true)], args := [d1, d2] }
  | _ => none }
def wordSumsRow : OpenClaim := { program := "ytohieonpegeokaa", sum := "55d364cd51e5f382fc4b1dfd433b4082ec67fcaae15beca22542ccb8c4f7ccad", func := "cribble/cribblelaw01.WordSums", spec := "wordSums", apart := false }
def WordSumsSaid : Prop := wordSumsRow.holds Try.pinned (OpenSpec.ofChange wordSumsSpec)

/-- ITS FALSE NEIGHBOUR: 'it returns false'. Refute it at one input. -/
def wordSumsWrong : ChangeSpec := { name := "wordSums", fn := fun _ => fun
  | [d1, d2] => { results := [.lit (.bool false)], args := [d1, d2] }
  | _ => none }
def WordSumsWrongFalsely : Prop := wordSumsRow.holds Try.pinned (OpenSpec.ofChange wordSumsWrong)

/-- 'cribblelaw02.LongSums': WHATEVER THE INPUT: true; the input reads as it did. -/
def longSumsSpec : ChangeSpec := { name := "longSums", fn := fun _ => fun
  | [d1, d2] => { results := [.lit (.bool true)], args := [d1, d2] }
  | _ => none }
def longSumsRow : OpenClaim := { program := "ytohieonpegeokaa", sum := "55d364cd51e5f382fc4b1dfd433b4082ec67fcaae15beca22542ccb8c4f7ccad", func := "cribble/cribblelaw02.LongSums", spec := "longSums", apart := false }
def LongSumsSaid : Prop := longSumsRow.holds Try.pinned (OpenSpec.ofChange longSumsSpec)

/-- ITS FALSE NEIGHBOUR: 'it returns false'. Refute it at one input. -/
def longSumsWrong : ChangeSpec := { name := "longSums", fn := fun _ => fun
  | [d1, d2] => { results := [.lit (.bool false)], args := [d1, d2] }
  | _ => none }
def LongSumsWrongFalsely : Prop := longSumsRow.holds Try.pinned (OpenSpec.ofChange longSumsWrong)

/-- 'cribblelaw03.LoadWords': WHATEVER THE INPUT: true; the input reads as it did. -/
def loadWordsSpec : ChangeSpec := { name := "loadWords", fn := fun _ => fun
  | [d] => { results := [.lit (.bool true)], args := [d] }
  | _ => none }
def loadWordsRow : OpenClaim := { program := "ytohieonpegeokaa", sum := "55d364cd51e5f382fc4b1dfd433b4082ec67fcaae15beca22542ccb8c4f7ccad", func := "cribble/cribblelaw03.LoadWords", spec := "loadWords", unfollowed := true, recurses := true, apart := false }
def LoadWordsSaid : Prop := loadWordsRow.holds Try.pinned (OpenSpec.ofChange loadWordsSpec)

/-- ITS FALSE NEIGHBOUR: 'it returns false'. Refute it at one input. -/
def loadWordsWrong : ChangeSpec := { name := "loadWords", fn := fun _ => fun
  | [d] => { results := [.lit (.bool false)], args := [d] }
  | _ => none }
def LoadWordsWrongFalsely : Prop := loadWordsRow.holds Try.pinned (OpenSpec.ofChange loadWordsWrong)

/-- 'cribblelaw03.LoadTurns': WHATEVER THE INPUT: true; the input reads as it did. -/
def loadTurnsSpec : ChangeSpec := { name := "loadTurns", fn := fun _ => fun
  | [d] => { results := [.lit (.bool true)], args := [d] }
  | _ => none }
def loadTurnsRow : OpenClaim := { program := "ytohieonpegeokaa", sum := "55d364cd51e5f382fc4b1dfd433b4082ec67fcaae15beca22542ccb8c4f7ccad", func := "cribble/cribblelaw03.LoadTurns", spec := "loadTurns", unfollowed := true, recurses := true, apart := false }
def LoadTurnsSaid : Prop := loadTurnsRow.holds Try.pinned (OpenSpec.ofChange loadTurnsSpec)

/-- ITS FALSE NEIGHBOUR: 'it returns false'. Refute it at one input. -/
def loadTurnsWrong : ChangeSpec := { name := "loadTurns", fn := fun _ => fun
  | [d] => { results := [.lit (.bool false)], args := [d] }
  | _ => none }
def LoadTurnsWrongFalsely : Prop := loadTurnsRow.holds Try.pinned (OpenSpec.ofChange loadTurnsWrong)

/-- 'cribblelaw03.LoadPuts': WHATEVER THE INPUT: true; the input reads as it did. -/
def loadPutsSpec : ChangeSpec := { name := "loadPuts", fn := fun _ => fun
  | [d] => { results := [.lit (.bool true)], args := [d] }
  | _ => none }
def loadPutsRow : OpenClaim := { program := "ytohieonpegeokaa", sum := "55d364cd51e5f382fc4b1dfd433b4082ec67fcaae15beca22542ccb8c4f7ccad", func := "cribble/cribblelaw03.LoadPuts", spec := "loadPuts", unfollowed := true, recurses := true, apart := false }
def LoadPutsSaid : Prop := loadPutsRow.holds Try.pinned (OpenSpec.ofChange loadPutsSpec)

/-- ITS FALSE NEIGHBOUR: 'it returns false'. Refute it at one input. -/
def loadPutsWrong : ChangeSpec := { name := "loadPuts", fn := fun _ => fun
  | [d] => { results := [.lit (.bool false)], args := [d] }
  | _ => none }
def LoadPutsWrongFalsely : Prop := loadPutsRow.holds Try.pinned (OpenSpec.ofChange loadPutsWrong)

/-- 'cribblelaw03.LoadXors': WHATEVER THE INPUT: true; the input reads as it did. -/
def loadXorsSpec : ChangeSpec := { name := "loadXors", fn := fun _ => fun
  | [d1, d2] => { results := [.lit (.bool true)], args := [d1, d2] }
  | _ => none }
def loadXorsRow : OpenClaim := { program := "ytohieonpegeokaa", sum := "55d364cd51e5f382fc4b1dfd433b4082ec67fcaae15beca22542ccb8c4f7ccad", func := "cribble/cribblelaw03.LoadXors", spec := "loadXors", unfollowed := true, recurses := true, apart := false }
def LoadXorsSaid : Prop := loadXorsRow.holds Try.pinned (OpenSpec.ofChange loadXorsSpec)

/-- ITS FALSE NEIGHBOUR: 'it returns false'. Refute it at one input. -/
def loadXorsWrong : ChangeSpec := { name := "loadXors", fn := fun _ => fun
  | [d1, d2] => { results := [.lit (.bool false)], args := [d1, d2] }
  | _ => none }
def LoadXorsWrongFalsely : Prop := loadXorsRow.holds Try.pinned (OpenSpec.ofChange loadXorsWrong)

/-- 'cribblelaw14.LaneBytes': WHATEVER THE INPUT: true; the input reads as it did. -/
def laneBytesSpec : ChangeSpec := { name := "laneBytes", fn := fun _ => fun
  | [d1, d2] => { results := [.lit (.bool true)], args := [d1, d2] }
  | _ => none }
def laneBytesRow : OpenClaim := { program := "ytohieonpegeokaa", sum := "55d364cd51e5f382fc4b1dfd433b4082ec67fcaae15beca22542ccb8c4f7ccad", func := "cribble/cribblelaw14.LaneBytes", spec := "laneBytes", unfollowed := true, recurses := true, apart := false }
def LaneBytesSaid : Prop := laneBytesRow.holds Try.pinned (OpenSpec.ofChange laneBytesSpec)

/-- ITS FALSE NEIGHBOUR: 'it returns false'. Refute it at one input. -/
def laneBytesWrong : ChangeSpec := { name := "laneBytes", fn := fun _ => fun
  | [d1, d2] => { results := [.lit (.bool false)], args := [d1, d2] }
  | _ => none }
def LaneBytesWrongFalsely : Prop := laneBytesRow.holds Try.pinned (OpenSpec.ofChange laneBytesWrong)

/-- 'cribblelaw14.LaneXors': WHATEVER THE INPUT: true; the input reads as it did. -/
def laneXorsSpec : ChangeSpec := { name := "laneXors", fn := fun _ => fun
  | [d1, d2, d3] => { results := [.lit (.bool true)], args := [d1, d2, d3] }
  | _ => none }
def laneXorsRow : OpenClaim := { program := "ytohieonpegeokaa", sum := "55d364cd51e5f382fc4b1dfd433b4082ec67fcaae15beca22542ccb8c4f7ccad", func := "cribble/cribblelaw14.LaneXors", spec := "laneXors", unfollowed := true, recurses := true, apart := false }
def LaneXorsSaid : Prop := laneXorsRow.holds Try.pinned (OpenSpec.ofChange laneXorsSpec)

/-- ITS FALSE NEIGHBOUR: 'it returns false'. Refute it at one input. -/
def laneXorsWrong : ChangeSpec := { name := "laneXors", fn := fun _ => fun
  | [d1, d2, d3] => { results := [.lit (.bool false)], args := [d1, d2, d3] }
  | _ => none }
def LaneXorsWrongFalsely : Prop := laneXorsRow.holds Try.pinned (OpenSpec.ofChange laneXorsWrong)

/-- 'cribblelaw14.LaneOuts': WHATEVER THE INPUT: true; the input reads as it did. -/
def laneOutsSpec : ChangeSpec := { name := "laneOuts", fn := fun _ => fun
  | [d1, d2, d3] => { results := [.lit (.bool true)], args := [d1, d2, d3] }
  | _ => none }
def laneOutsRow : OpenClaim := { program := "ytohieonpegeokaa", sum := "55d364cd51e5f382fc4b1dfd433b4082ec67fcaae15beca22542ccb8c4f7ccad", func := "cribble/cribblelaw14.LaneOuts", spec := "laneOuts", unfollowed := true, recurses := true, apart := false }
def LaneOutsSaid : Prop := laneOutsRow.holds Try.pinned (OpenSpec.ofChange laneOutsSpec)

/-- ITS FALSE NEIGHBOUR: 'it returns false'. Refute it at one input. -/
def laneOutsWrong : ChangeSpec := { name := "laneOuts", fn := fun _ => fun
  | [d1, d2, d3] => { results := [.lit (.bool false)], args := [d1, d2, d3] }
  | _ => none }
def LaneOutsWrongFalsely : Prop := laneOutsRow.holds Try.pinned (OpenSpec.ofChange laneOutsWrong)

/-- 'cribblelaw14.LaneWindows': WHATEVER THE INPUT: true; the input reads as it did. -/
def laneWindowsSpec : ChangeSpec := { name := "laneWindows", fn := fun _ => fun
  | [d1, d2] => { results := [.lit (.bool true)], args := [d1, d2] }
  | _ => none }
def laneWindowsRow : OpenClaim := { program := "ytohieonpegeokaa", sum := "55d364cd51e5f382fc4b1dfd433b4082ec67fcaae15beca22542ccb8c4f7ccad", func := "cribble/cribblelaw14.LaneWindows", spec := "laneWindows", unfollowed := true, recurses := true, apart := false }
def LaneWindowsSaid : Prop := laneWindowsRow.holds Try.pinned (OpenSpec.ofChange laneWindowsSpec)

/-- ITS FALSE NEIGHBOUR: 'it returns false'. Refute it at one input. -/
def laneWindowsWrong : ChangeSpec := { name := "laneWindows", fn := fun _ => fun
  | [d1, d2] => { results := [.lit (.bool false)], args := [d1, d2] }
  | _ => none }
def LaneWindowsWrongFalsely : Prop := laneWindowsRow.holds Try.pinned (OpenSpec.ofChange laneWindowsWrong)

/- THE SECOND FORM. 'bulk': how many values and letters a reading holds, each counted each time it is reached (what is shared counts as often as it is met; a slice's spare places count too). A statement '..UptoSaid' is the law's where the arguments, and the package variables that the reading takes, are together of bulk at most 1048576: NARROWER than '..Said'. Prove '..Said' where nothing that the law and all that it calls make is longer than what came in: it says more and counts as full. Else prove '..UptoSaid'. A law counts once. -/
mutual
def uptoBulk {H : Type} : DataW H → Nat
  | .lit (.string bytes) => bytes.length + 1
  | .lit _ => 1
  | .nil => 1
  | .ptr d => uptoBulk d + 1
  | .slice elems spare => uptoBulkAll elems + uptoBulkAll spare + 1
  | .agg parts => uptoBulkAll parts + 1
  | .iface _ d => uptoBulk d + 1
  | .map entries => uptoBulkEntries entries + 1
  | .held _ => 1
def uptoBulkAll {H : Type} : List (DataW H) → Nat
  | [] => 0
  | d :: r => uptoBulk d + uptoBulkAll r
def uptoBulkEntries {H : Type} : List (Lit × DataW H) → Nat
  | [] => 0
  | x :: r => uptoBulkEntry x + uptoBulkEntries r
def uptoBulkEntry {H : Type} : Lit × DataW H → Nat
  | (.string bytes, d) => bytes.length + uptoBulk d + 1
  | (_, d) => uptoBulk d + 1
 end
def uptoSmall : (H : Type) → List (DataW H) → Bool := fun _ ds => decide (uptoBulkAll ds ≤ 1048576)
def OpenSpec.upto (s : _root_.Go.ChangeSpec) : _root_.Go.OpenSpec := { _root_.Go.OpenSpec.ofChange s with cond := some uptoSmall }

/-- 'cribblelaw01.WordTurns', WHERE WHAT IT READS IS OF BULK AT MOST 1048576: true; the input reads as it did. -/
def wordTurnsUptoRow : OpenClaim := { program := "ytohieonpegeokaa", sum := "55d364cd51e5f382fc4b1dfd433b4082ec67fcaae15beca22542ccb8c4f7ccad", func := "cribble/cribblelaw01.WordTurns", spec := "wordTurns", apart := false, narrowed := true }
def WordTurnsUptoSaid : Prop := wordTurnsUptoRow.holds Try.pinned (OpenSpec.upto wordTurnsSpec)

/-- 'cribblelaw01.WordPicks', WHERE WHAT IT READS IS OF BULK AT MOST 1048576: true; the input reads as it did. -/
def wordPicksUptoRow : OpenClaim := { program := "ytohieonpegeokaa", sum := "55d364cd51e5f382fc4b1dfd433b4082ec67fcaae15beca22542ccb8c4f7ccad", func := "cribble/cribblelaw01.WordPicks", spec := "wordPicks", apart := false, narrowed := true }
def WordPicksUptoSaid : Prop := wordPicksUptoRow.holds Try.pinned (OpenSpec.upto wordPicksSpec)

/-- 'cribblelaw01.WordShifts', WHERE WHAT IT READS IS OF BULK AT MOST 1048576: true; the input reads as it did. -/
def wordShiftsUptoRow : OpenClaim := { program := "ytohieonpegeokaa", sum := "55d364cd51e5f382fc4b1dfd433b4082ec67fcaae15beca22542ccb8c4f7ccad", func := "cribble/cribblelaw01.WordShifts", spec := "wordShifts", apart := false, narrowed := true }
def WordShiftsUptoSaid : Prop := wordShiftsUptoRow.holds Try.pinned (OpenSpec.upto wordShiftsSpec)

/-- 'cribblelaw02.LongTurns', WHERE WHAT IT READS IS OF BULK AT MOST 1048576: true; the input reads as it did. -/
def longTurnsUptoRow : OpenClaim := { program := "ytohieonpegeokaa", sum := "55d364cd51e5f382fc4b1dfd433b4082ec67fcaae15beca22542ccb8c4f7ccad", func := "cribble/cribblelaw02.LongTurns", spec := "longTurns", apart := false, narrowed := true }
def LongTurnsUptoSaid : Prop := longTurnsUptoRow.holds Try.pinned (OpenSpec.upto longTurnsSpec)

/-- 'cribblelaw02.LongPicks', WHERE WHAT IT READS IS OF BULK AT MOST 1048576: true; the input reads as it did. -/
def longPicksUptoRow : OpenClaim := { program := "ytohieonpegeokaa", sum := "55d364cd51e5f382fc4b1dfd433b4082ec67fcaae15beca22542ccb8c4f7ccad", func := "cribble/cribblelaw02.LongPicks", spec := "longPicks", apart := false, narrowed := true }
def LongPicksUptoSaid : Prop := longPicksUptoRow.holds Try.pinned (OpenSpec.upto longPicksSpec)

/-- 'cribblelaw02.LongShifts', WHERE WHAT IT READS IS OF BULK AT MOST 1048576: true; the input reads as it did. -/
def longShiftsUptoRow : OpenClaim := { program := "ytohieonpegeokaa", sum := "55d364cd51e5f382fc4b1dfd433b4082ec67fcaae15beca22542ccb8c4f7ccad", func := "cribble/cribblelaw02.LongShifts", spec := "longShifts", apart := false, narrowed := true }
def LongShiftsUptoSaid : Prop := longShiftsUptoRow.holds Try.pinned (OpenSpec.upto longShiftsSpec)

/-- 'cribblelaw01.WordSums', WHERE WHAT IT READS IS OF BULK AT MOST 1048576: true; the input reads as it did. -/
def wordSumsUptoRow : OpenClaim := { program := "ytohieonpegeokaa", sum := "55d364cd51e5f382fc4b1dfd433b4082ec67fcaae15beca22542ccb8c4f7ccad", func := "cribble/cribblelaw01.WordSums", spec := "wordSums", apart := false, narrowed := true }
def WordSumsUptoSaid : Prop := wordSumsUptoRow.holds Try.pinned (OpenSpec.upto wordSumsSpec)

/-- 'cribblelaw02.LongSums', WHERE WHAT IT READS IS OF BULK AT MOST 1048576: true; the input reads as it did. -/
def longSumsUptoRow : OpenClaim := { program := "ytohieonpegeokaa", sum := "55d364cd51e5f382fc4b1dfd433b4082ec67fcaae15beca22542ccb8c4f7ccad", func := "cribble/cribblelaw02.LongSums", spec := "longSums", apart := false, narrowed := true }
def LongSumsUptoSaid : Prop := longSumsUptoRow.holds Try.pinned (OpenSpec.upto longSumsSpec)

/-- 'cribblelaw03.LoadWords', WHERE WHAT IT READS IS OF BULK AT MOST 1048576: true; the input reads as it did. -/
def loadWordsUptoRow : OpenClaim := { program := "ytohieonpegeokaa", sum := "55d364cd51e5f382fc4b1dfd433b4082ec67fcaae15beca22542ccb8c4f7ccad", func := "cribble/cribblelaw03.LoadWords", spec := "loadWords", unfollowed := true, recurses := true, apart := false, narrowed := true }
def LoadWordsUptoSaid : Prop := loadWordsUptoRow.holds Try.pinned (OpenSpec.upto loadWordsSpec)

/-- 'cribblelaw03.LoadTurns', WHERE WHAT IT READS IS OF BULK AT MOST 1048576: true; the input reads as it did. -/
def loadTurnsUptoRow : OpenClaim := { program := "ytohieonpegeokaa", sum := "55d364cd51e5f382fc4b1dfd433b4082ec67fcaae15beca22542ccb8c4f7ccad", func := "cribble/cribblelaw03.LoadTurns", spec := "loadTurns", unfollowed := true, recurses := true, apart := false, narrowed := true }
def LoadTurnsUptoSaid : Prop := loadTurnsUptoRow.holds Try.pinned (OpenSpec.upto loadTurnsSpec)

/-- 'cribblelaw03.LoadPuts', WHERE WHAT IT READS IS OF BULK AT MOST 1048576: true; the input reads as it did. -/
def loadPutsUptoRow : OpenClaim := { program := "ytohieonpegeokaa", sum := "55d364cd51e5f382fc4b1dfd433b4082ec67fcaae15beca22542ccb8c4f7ccad", func := "cribble/cribblelaw03.LoadPuts", spec := "loadPuts", unfollowed := true, recurses := true, apart := false, narrowed := true }
def LoadPutsUptoSaid : Prop := loadPutsUptoRow.holds Try.pinned (OpenSpec.upto loadPutsSpec)

/-- 'cribblelaw03.LoadXors', WHERE WHAT IT READS IS OF BULK AT MOST 1048576: true; the input reads as it did. -/
def loadXorsUptoRow : OpenClaim := { program := "ytohieonpegeokaa", sum := "55d364cd51e5f382fc4b1dfd433b4082ec67fcaae15beca22542ccb8c4f7ccad", func := "cribble/cribblelaw03.LoadXors", spec := "loadXors", unfollowed := true, recurses := true, apart := false, narrowed := true }
def LoadXorsUptoSaid : Prop := loadXorsUptoRow.holds Try.pinned (OpenSpec.upto loadXorsSpec)

/-- 'cribblelaw14.LaneBytes', WHERE WHAT IT READS IS OF BULK AT MOST 1048576: true; the input reads as it did. -/
def laneBytesUptoRow : OpenClaim := { program := "ytohieonpegeokaa", sum := "55d364cd51e5f382fc4b1dfd433b4082ec67fcaae15beca22542ccb8c4f7ccad", func := "cribble/cribblelaw14.LaneBytes", spec := "laneBytes", unfollowed := true, recurses := true, apart := false, narrowed := true }
def LaneBytesUptoSaid : Prop := laneBytesUptoRow.holds Try.pinned (OpenSpec.upto laneBytesSpec)

/-- 'cribblelaw14.LaneXors', WHERE WHAT IT READS IS OF BULK AT MOST 1048576: true; the input reads as it did. -/
def laneXorsUptoRow : OpenClaim := { program := "ytohieonpegeokaa", sum := "55d364cd51e5f382fc4b1dfd433b4082ec67fcaae15beca22542ccb8c4f7ccad", func := "cribble/cribblelaw14.LaneXors", spec := "laneXors", unfollowed := true, recurses := true, apart := false, narrowed := true }
def LaneXorsUptoSaid : Prop := laneXorsUptoRow.holds Try.pinned (OpenSpec.upto laneXorsSpec)

/-- 'cribblelaw14.LaneOuts', WHERE WHAT IT READS IS OF BULK AT MOST 1048576: true; the input reads as it did. -/
def laneOutsUptoRow : OpenClaim := { program := "ytohieonpegeokaa", sum := "55d364cd51e5f382fc4b1dfd433b4082ec67fcaae15beca22542ccb8c4f7ccad", func := "cribble/cribblelaw14.LaneOuts", spec := "laneOuts", unfollowed := true, recurses := true, apart := false, narrowed := true }
def LaneOutsUptoSaid : Prop := laneOutsUptoRow.holds Try.pinned (OpenSpec.upto laneOutsSpec)

/-- 'cribblelaw14.LaneWindows', WHERE WHAT IT READS IS OF BULK AT MOST 1048576: true; the input reads as it did. -/
def laneWindowsUptoRow : OpenClaim := { program := "ytohieonpegeokaa", sum := "55d364cd51e5f382fc4b1dfd433b4082ec67fcaae15beca22542ccb8c4f7ccad", func := "cribble/cribblelaw14.LaneWindows", spec := "laneWindows", unfollowed := true, recurses := true, apart := false, narrowed := true }
def LaneWindowsUptoSaid : Prop := laneWindowsUptoRow.holds Try.pinned (OpenSpec.upto laneWindowsSpec)

end Rows
end Go.Proofs.Ytohieonpegeokaa
