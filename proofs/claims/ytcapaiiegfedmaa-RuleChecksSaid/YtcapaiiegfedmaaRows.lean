/-
  No cell of these rows narrows 'for every input' (looked for: loops, veiled, ifaces, maps, wideKeys, modest, calm, conditions, laid).
  DERIVED. THE GIVEN ROWS OF THIS SEAT. 16 by the template 'for every input the law returns true; each argument reads behind the call as it read before'; 0 by the template 'total and deterministic' (their statements: YtcapaiiegfedmaaTotals.lean).
  GIVEN WITH THE SEED: the statements are not yours to turn. If you find one false, say at which input.
  Laid BY PROGRAM, IN A SANDBOX (cutbox-rows.mjs): the forced cells as the released guide's own fill.sh prints them over the translation 393d2d68ada05042… (all of the seat's roots in one cut). By AI agents, Wed Nov 11 2026. No macro, syntax, notation, axiom, sorry.
-/
import Derived.Test.YtcapaiiegfedmaaChecked
import GoSem.Claim
import GoSem.ClaimJoined
import GoSem.ClaimMapViews
import Derived.JoinedTies
import Derived.KernelRfl
namespace Go.Proofs.Ytcapaiiegfedmaa
/- THE CELL 'sum', in the pinned program and in every row, IS THE sha256 OF THE DUMP (.gsa) THAT YtcapaiiegfedmaaProg.lean LOADS. Nothing in Lean hashes anything: it is a label: what it is worth is what the hold of that sum in a sandbox is worth. -/
noncomputable def Try.pinned : Pinned := { name := "ytcapaiiegfedmaa", sum := "393d2d68ada05042da527a7c3c9804f3520004e7814e2fbc22138982fdf691e5", checked := Try.checked }
namespace Rows
def none {H : Type} : Left H := { results := [], args := [] }

/-- 'flittinglaw02.GlobPlain': WHATEVER THE INPUT: true; the input reads as it did. -/
def globPlainSpec : ChangeSpec := { name := "globPlain", fn := fun _ => fun
  | [d1, d2] => { results := [.lit (.bool true)], args := [d1, d2] }
  | _ => none }
def globPlainRow : OpenClaim := { program := "ytcapaiiegfedmaa", sum := "393d2d68ada05042da527a7c3c9804f3520004e7814e2fbc22138982fdf691e5", func := "flitting/flittinglaw02.GlobPlain", spec := "globPlain", apart := false }
def GlobPlainSaid : Prop := globPlainRow.holds Try.pinned (OpenSpec.ofChange globPlainSpec)

/-- ITS FALSE NEIGHBOUR: 'it returns false'. Refute it at one input. -/
def globPlainWrong : ChangeSpec := { name := "globPlain", fn := fun _ => fun
  | [d1, d2] => { results := [.lit (.bool false)], args := [d1, d2] }
  | _ => none }
def GlobPlainWrongFalsely : Prop := globPlainRow.holds Try.pinned (OpenSpec.ofChange globPlainWrong)

/-- 'flittinglaw02.GlobStars': WHATEVER THE INPUT: true; the input reads as it did. -/
def globStarsSpec : ChangeSpec := { name := "globStars", fn := fun _ => fun
  | [d1, d2] => { results := [.lit (.bool true)], args := [d1, d2] }
  | _ => none }
def globStarsRow : OpenClaim := { program := "ytcapaiiegfedmaa", sum := "393d2d68ada05042da527a7c3c9804f3520004e7814e2fbc22138982fdf691e5", func := "flitting/flittinglaw02.GlobStars", spec := "globStars", apart := false }
def GlobStarsSaid : Prop := globStarsRow.holds Try.pinned (OpenSpec.ofChange globStarsSpec)

/-- ITS FALSE NEIGHBOUR: 'it returns false'. Refute it at one input. -/
def globStarsWrong : ChangeSpec := { name := "globStars", fn := fun _ => fun
  | [d1, d2] => { results := [.lit (.bool false)], args := [d1, d2] }
  | _ => none }
def GlobStarsWrongFalsely : Prop := globStarsRow.holds Try.pinned (OpenSpec.ofChange globStarsWrong)

/-- 'flittinglaw01.PathsOrder': WHATEVER THE INPUT: true; the input reads as it did. -/
def pathsOrderSpec : ChangeSpec := { name := "pathsOrder", fn := fun _ => fun
  | [d1, d2, d3] => { results := [.lit (.bool true)], args := [d1, d2, d3] }
  | _ => none }
def pathsOrderRow : OpenClaim := { program := "ytcapaiiegfedmaa", sum := "393d2d68ada05042da527a7c3c9804f3520004e7814e2fbc22138982fdf691e5", func := "flitting/flittinglaw01.PathsOrder", spec := "pathsOrder", inPlace := ["internal/bytealg.IndexByteString"], unfollowed := true, recurses := true, apart := false }
def PathsOrderSaid : Prop := pathsOrderRow.holds Try.pinned (OpenSpec.ofChange pathsOrderSpec)

/-- ITS FALSE NEIGHBOUR: 'it returns false'. Refute it at one input. -/
def pathsOrderWrong : ChangeSpec := { name := "pathsOrder", fn := fun _ => fun
  | [d1, d2, d3] => { results := [.lit (.bool false)], args := [d1, d2, d3] }
  | _ => none }
def PathsOrderWrongFalsely : Prop := pathsOrderRow.holds Try.pinned (OpenSpec.ofChange pathsOrderWrong)

/-- 'flittinglaw01.PathsTogether': WHATEVER THE INPUT: true; the input reads as it did. -/
def pathsTogetherSpec : ChangeSpec := { name := "pathsTogether", fn := fun _ => fun
  | [d] => { results := [.lit (.bool true)], args := [d] }
  | _ => none }
def pathsTogetherRow : OpenClaim := { program := "ytcapaiiegfedmaa", sum := "393d2d68ada05042da527a7c3c9804f3520004e7814e2fbc22138982fdf691e5", func := "flitting/flittinglaw01.PathsTogether", spec := "pathsTogether", inPlace := ["internal/bytealg.IndexByteString"], unfollowed := true, recurses := true, apart := false }
def PathsTogetherSaid : Prop := pathsTogetherRow.holds Try.pinned (OpenSpec.ofChange pathsTogetherSpec)

/-- ITS FALSE NEIGHBOUR: 'it returns false'. Refute it at one input. -/
def pathsTogetherWrong : ChangeSpec := { name := "pathsTogether", fn := fun _ => fun
  | [d] => { results := [.lit (.bool false)], args := [d] }
  | _ => none }
def PathsTogetherWrongFalsely : Prop := pathsTogetherRow.holds Try.pinned (OpenSpec.ofChange pathsTogetherWrong)

/-- 'flittinglaw01.PathsMoves': WHATEVER THE INPUT: true; the input reads as it did. -/
def pathsMovesSpec : ChangeSpec := { name := "pathsMoves", fn := fun _ => fun
  | [d1, d2, d3] => { results := [.lit (.bool true)], args := [d1, d2, d3] }
  | _ => none }
def pathsMovesRow : OpenClaim := { program := "ytcapaiiegfedmaa", sum := "393d2d68ada05042da527a7c3c9804f3520004e7814e2fbc22138982fdf691e5", func := "flitting/flittinglaw01.PathsMoves", spec := "pathsMoves", inPlace := ["internal/bytealg.IndexByteString"], unfollowed := true, recurses := true, apart := false }
def PathsMovesSaid : Prop := pathsMovesRow.holds Try.pinned (OpenSpec.ofChange pathsMovesSpec)

/-- ITS FALSE NEIGHBOUR: 'it returns false'. Refute it at one input. -/
def pathsMovesWrong : ChangeSpec := { name := "pathsMoves", fn := fun _ => fun
  | [d1, d2, d3] => { results := [.lit (.bool false)], args := [d1, d2, d3] }
  | _ => none }
def PathsMovesWrongFalsely : Prop := pathsMovesRow.holds Try.pinned (OpenSpec.ofChange pathsMovesWrong)

/-- 'flittinglaw01.PathsParts': WHATEVER THE INPUT: true; the input reads as it did. -/
def pathsPartsSpec : ChangeSpec := { name := "pathsParts", fn := fun _ => fun
  | [d1, d2] => { results := [.lit (.bool true)], args := [d1, d2] }
  | _ => none }
def pathsPartsRow : OpenClaim := { program := "ytcapaiiegfedmaa", sum := "393d2d68ada05042da527a7c3c9804f3520004e7814e2fbc22138982fdf691e5", func := "flitting/flittinglaw01.PathsParts", spec := "pathsParts", inPlace := ["internal/bytealg.IndexByteString"], unfollowed := true, recurses := true, apart := false }
def PathsPartsSaid : Prop := pathsPartsRow.holds Try.pinned (OpenSpec.ofChange pathsPartsSpec)

/-- ITS FALSE NEIGHBOUR: 'it returns false'. Refute it at one input. -/
def pathsPartsWrong : ChangeSpec := { name := "pathsParts", fn := fun _ => fun
  | [d1, d2] => { results := [.lit (.bool false)], args := [d1, d2] }
  | _ => none }
def PathsPartsWrongFalsely : Prop := pathsPartsRow.holds Try.pinned (OpenSpec.ofChange pathsPartsWrong)

/-- 'flittinglaw32.JournalReads': WHATEVER THE INPUT: true; the input reads as it did. -/
def journalReadsSpec : ChangeSpec := { name := "journalReads", fn := fun _ => fun
  | [d1, d2] => { results := [.lit (.bool true)], args := [d1, d2] }
  | _ => none }
def journalReadsRow : OpenClaim := { program := "ytcapaiiegfedmaa", sum := "393d2d68ada05042da527a7c3c9804f3520004e7814e2fbc22138982fdf691e5", func := "flitting/flittinglaw32.JournalReads", spec := "journalReads", inPlace := ["internal/bytealg.IndexByteString", "internal/bytealg.IndexString"], unfollowed := true, recurses := true, named := ["internal/bytealg.MaxLen"], apart := false }
def JournalReadsSaid : Prop := journalReadsRow.holds Try.pinned (OpenSpec.ofChange journalReadsSpec)

/-- ITS FALSE NEIGHBOUR: 'it returns false'. Refute it at one input. -/
def journalReadsWrong : ChangeSpec := { name := "journalReads", fn := fun _ => fun
  | [d1, d2] => { results := [.lit (.bool false)], args := [d1, d2] }
  | _ => none }
def JournalReadsWrongFalsely : Prop := journalReadsRow.holds Try.pinned (OpenSpec.ofChange journalReadsWrong)

/-- 'flittinglaw32.JournalBack': WHATEVER THE INPUT: true; the input reads as it did. -/
def journalBackSpec : ChangeSpec := { name := "journalBack", fn := fun _ => fun
  | [d1, d2] => { results := [.lit (.bool true)], args := [d1, d2] }
  | _ => none }
def journalBackRow : OpenClaim := { program := "ytcapaiiegfedmaa", sum := "393d2d68ada05042da527a7c3c9804f3520004e7814e2fbc22138982fdf691e5", func := "flitting/flittinglaw32.JournalBack", spec := "journalBack", inPlace := ["internal/bytealg.IndexByteString", "internal/bytealg.IndexString"], unfollowed := true, recurses := true, named := ["internal/bytealg.MaxLen"], apart := false }
def JournalBackSaid : Prop := journalBackRow.holds Try.pinned (OpenSpec.ofChange journalBackSpec)

/-- ITS FALSE NEIGHBOUR: 'it returns false'. Refute it at one input. -/
def journalBackWrong : ChangeSpec := { name := "journalBack", fn := fun _ => fun
  | [d1, d2] => { results := [.lit (.bool false)], args := [d1, d2] }
  | _ => none }
def JournalBackWrongFalsely : Prop := journalBackRow.holds Try.pinned (OpenSpec.ofChange journalBackWrong)

/-- 'flittinglaw34.WorkOps': WHATEVER THE INPUT: true; the input reads as it did. -/
def workOpsSpec : ChangeSpec := { name := "workOps", fn := fun _ => fun
  | [d1, d2, d3] => { results := [.lit (.bool true)], args := [d1, d2, d3] }
  | _ => none }
def workOpsRow : OpenClaim := { program := "ytcapaiiegfedmaa", sum := "393d2d68ada05042da527a7c3c9804f3520004e7814e2fbc22138982fdf691e5", func := "flitting/flittinglaw34.WorkOps", spec := "workOps", inPlace := ["internal/bytealg.IndexByteString"], unfollowed := true, recurses := true, apart := false }
def WorkOpsSaid : Prop := workOpsRow.holds Try.pinned (OpenSpec.ofChange workOpsSpec)

/-- ITS FALSE NEIGHBOUR: 'it returns false'. Refute it at one input. -/
def workOpsWrong : ChangeSpec := { name := "workOps", fn := fun _ => fun
  | [d1, d2, d3] => { results := [.lit (.bool false)], args := [d1, d2, d3] }
  | _ => none }
def WorkOpsWrongFalsely : Prop := workOpsRow.holds Try.pinned (OpenSpec.ofChange workOpsWrong)

/-- 'flittinglaw32.JournalTells': WHATEVER THE INPUT: true; the input reads as it did. -/
def journalTellsSpec : ChangeSpec := { name := "journalTells", fn := fun _ => fun
  | [d] => { results := [.lit (.bool true)], args := [d] }
  | _ => none }
def journalTellsRow : OpenClaim := { program := "ytcapaiiegfedmaa", sum := "393d2d68ada05042da527a7c3c9804f3520004e7814e2fbc22138982fdf691e5", func := "flitting/flittinglaw32.JournalTells", spec := "journalTells", inPlace := ["internal/bytealg.IndexByteString", "internal/bytealg.IndexString"], unfollowed := true, recurses := true, named := ["internal/bytealg.MaxLen"], apart := false }
def JournalTellsSaid : Prop := journalTellsRow.holds Try.pinned (OpenSpec.ofChange journalTellsSpec)

/-- ITS FALSE NEIGHBOUR: 'it returns false'. Refute it at one input. -/
def journalTellsWrong : ChangeSpec := { name := "journalTells", fn := fun _ => fun
  | [d] => { results := [.lit (.bool false)], args := [d] }
  | _ => none }
def JournalTellsWrongFalsely : Prop := journalTellsRow.holds Try.pinned (OpenSpec.ofChange journalTellsWrong)

/-- 'flittinglaw01.PathsJoins': WHATEVER THE INPUT: true; the input reads as it did. -/
def pathsJoinsSpec : ChangeSpec := { name := "pathsJoins", fn := fun _ => fun
  | [d] => { results := [.lit (.bool true)], args := [d] }
  | _ => none }
def pathsJoinsRow : OpenClaim := { program := "ytcapaiiegfedmaa", sum := "393d2d68ada05042da527a7c3c9804f3520004e7814e2fbc22138982fdf691e5", func := "flitting/flittinglaw01.PathsJoins", spec := "pathsJoins", inPlace := ["internal/bytealg.IndexByteString", "internal/abi.NoEscape", "internal/bytealg.MakeNoZero"], unfollowed := true, recurses := true, apart := false }
def PathsJoinsSaid : Prop := pathsJoinsRow.holds Try.pinned (OpenSpec.ofChange pathsJoinsSpec)

/-- ITS FALSE NEIGHBOUR: 'it returns false'. Refute it at one input. -/
def pathsJoinsWrong : ChangeSpec := { name := "pathsJoins", fn := fun _ => fun
  | [d] => { results := [.lit (.bool false)], args := [d] }
  | _ => none }
def PathsJoinsWrongFalsely : Prop := pathsJoinsRow.holds Try.pinned (OpenSpec.ofChange pathsJoinsWrong)

/-- 'flittinglaw28.EditCounts': WHATEVER THE INPUT: true; the input reads as it did. -/
def editCountsSpec : ChangeSpec := { name := "editCounts", fn := fun _ => fun
  | [d1, d2] => { results := [.lit (.bool true)], args := [d1, d2] }
  | _ => none }
def editCountsRow : OpenClaim := { program := "ytcapaiiegfedmaa", sum := "393d2d68ada05042da527a7c3c9804f3520004e7814e2fbc22138982fdf691e5", func := "flitting/flittinglaw28.EditCounts", spec := "editCounts", inPlace := ["internal/bytealg.IndexByteString", "internal/abi.NoEscape", "internal/bytealg.MakeNoZero"], unfollowed := true, recurses := true, apart := false }
def EditCountsSaid : Prop := editCountsRow.holds Try.pinned (OpenSpec.ofChange editCountsSpec)

/-- ITS FALSE NEIGHBOUR: 'it returns false'. Refute it at one input. -/
def editCountsWrong : ChangeSpec := { name := "editCounts", fn := fun _ => fun
  | [d1, d2] => { results := [.lit (.bool false)], args := [d1, d2] }
  | _ => none }
def EditCountsWrongFalsely : Prop := editCountsRow.holds Try.pinned (OpenSpec.ofChange editCountsWrong)

/-- 'flittinglaw03.RuleKeeps': WHATEVER THE INPUT: true; the input reads as it did. -/
def ruleKeepsSpec : ChangeSpec := { name := "ruleKeeps", fn := fun _ => fun
  | [d1, d2, d3] => { results := [.lit (.bool true)], args := [d1, d2, d3] }
  | _ => none }
def ruleKeepsRow : OpenClaim := { program := "ytcapaiiegfedmaa", sum := "393d2d68ada05042da527a7c3c9804f3520004e7814e2fbc22138982fdf691e5", func := "flitting/flittinglaw03.RuleKeeps", spec := "ruleKeeps", inPlace := ["internal/bytealg.IndexByteString", "internal/bytealg.IndexString"], unfollowed := true, recurses := true, named := ["internal/bytealg.MaxLen"], apart := false }
def RuleKeepsSaid : Prop := ruleKeepsRow.holds Try.pinned (OpenSpec.ofChange ruleKeepsSpec)

/-- ITS FALSE NEIGHBOUR: 'it returns false'. Refute it at one input. -/
def ruleKeepsWrong : ChangeSpec := { name := "ruleKeeps", fn := fun _ => fun
  | [d1, d2, d3] => { results := [.lit (.bool false)], args := [d1, d2, d3] }
  | _ => none }
def RuleKeepsWrongFalsely : Prop := ruleKeepsRow.holds Try.pinned (OpenSpec.ofChange ruleKeepsWrong)

/-- 'flittinglaw03.RuleUnder': WHATEVER THE INPUT: true; the input reads as it did. -/
def ruleUnderSpec : ChangeSpec := { name := "ruleUnder", fn := fun _ => fun
  | [d1, d2, d3] => { results := [.lit (.bool true)], args := [d1, d2, d3] }
  | _ => none }
def ruleUnderRow : OpenClaim := { program := "ytcapaiiegfedmaa", sum := "393d2d68ada05042da527a7c3c9804f3520004e7814e2fbc22138982fdf691e5", func := "flitting/flittinglaw03.RuleUnder", spec := "ruleUnder", inPlace := ["internal/bytealg.IndexByteString", "internal/bytealg.IndexString"], unfollowed := true, recurses := true, named := ["internal/bytealg.MaxLen"], apart := false }
def RuleUnderSaid : Prop := ruleUnderRow.holds Try.pinned (OpenSpec.ofChange ruleUnderSpec)

/-- ITS FALSE NEIGHBOUR: 'it returns false'. Refute it at one input. -/
def ruleUnderWrong : ChangeSpec := { name := "ruleUnder", fn := fun _ => fun
  | [d1, d2, d3] => { results := [.lit (.bool false)], args := [d1, d2, d3] }
  | _ => none }
def RuleUnderWrongFalsely : Prop := ruleUnderRow.holds Try.pinned (OpenSpec.ofChange ruleUnderWrong)

/-- 'flittinglaw03.RuleChecks': WHATEVER THE INPUT: true; the input reads as it did. -/
def ruleChecksSpec : ChangeSpec := { name := "ruleChecks", fn := fun _ => fun
  | [d1, d2, d3] => { results := [.lit (.bool true)], args := [d1, d2, d3] }
  | _ => none }
def ruleChecksRow : OpenClaim := { program := "ytcapaiiegfedmaa", sum := "393d2d68ada05042da527a7c3c9804f3520004e7814e2fbc22138982fdf691e5", func := "flitting/flittinglaw03.RuleChecks", spec := "ruleChecks", inPlace := ["internal/bytealg.IndexByteString", "internal/bytealg.IndexString"], unfollowed := true, recurses := true, named := ["internal/bytealg.MaxLen"], apart := false }
def RuleChecksSaid : Prop := ruleChecksRow.holds Try.pinned (OpenSpec.ofChange ruleChecksSpec)

/-- ITS FALSE NEIGHBOUR: 'it returns false'. Refute it at one input. -/
def ruleChecksWrong : ChangeSpec := { name := "ruleChecks", fn := fun _ => fun
  | [d1, d2, d3] => { results := [.lit (.bool false)], args := [d1, d2, d3] }
  | _ => none }
def RuleChecksWrongFalsely : Prop := ruleChecksRow.holds Try.pinned (OpenSpec.ofChange ruleChecksWrong)

/-- 'flittinglaw03.RuleTexts': WHATEVER THE INPUT: true; the input reads as it did. -/
def ruleTextsSpec : ChangeSpec := { name := "ruleTexts", fn := fun _ => fun
  | [d1, d2] => { results := [.lit (.bool true)], args := [d1, d2] }
  | _ => none }
def ruleTextsRow : OpenClaim := { program := "ytcapaiiegfedmaa", sum := "393d2d68ada05042da527a7c3c9804f3520004e7814e2fbc22138982fdf691e5", func := "flitting/flittinglaw03.RuleTexts", spec := "ruleTexts", inPlace := ["internal/bytealg.IndexByteString", "internal/bytealg.IndexString", "internal/abi.NoEscape"], unfollowed := true, recurses := true, named := ["internal/bytealg.MaxLen"], apart := false }
def RuleTextsSaid : Prop := ruleTextsRow.holds Try.pinned (OpenSpec.ofChange ruleTextsSpec)

/-- ITS FALSE NEIGHBOUR: 'it returns false'. Refute it at one input. -/
def ruleTextsWrong : ChangeSpec := { name := "ruleTexts", fn := fun _ => fun
  | [d1, d2] => { results := [.lit (.bool false)], args := [d1, d2] }
  | _ => none }
def RuleTextsWrongFalsely : Prop := ruleTextsRow.holds Try.pinned (OpenSpec.ofChange ruleTextsWrong)

/- THE SECOND FORM. 'bulk': how many values and letters a reading holds, each counted each time it is reached (what is shared counts as often as it is met; a slice's spare places count too). A statement '..UptoSaid' is the law's where the arguments, and the package variables that the reading takes, are together of bulk at most 1048576: NARROWER than '..Said'. Prove '..Said' where nothing that the law and all that it calls make is longer than what came in: it says more and counts as full. Else prove '..UptoSaid'. A law counts once. -/
mutual
def uptoBulk {H : Type} : DataW H → Nat
  | .lit (.string bytes) => bytes.length + 1
  | .lit _ => 1
  | .nil => 1
  | .ptr d => uptoBulk d + 1
  | .slice elems spare => uptoBulkAll elems + uptoBulkAll spare + 1
  | .agg parts => uptoBulkAll parts + 1
  | .iface _ d => uptoBulk d + 1
  | .map entries => uptoBulkEntries entries + 1
  | .held _ => 1
def uptoBulkAll {H : Type} : List (DataW H) → Nat
  | [] => 0
  | d :: r => uptoBulk d + uptoBulkAll r
def uptoBulkEntries {H : Type} : List (Lit × DataW H) → Nat
  | [] => 0
  | x :: r => uptoBulkEntry x + uptoBulkEntries r
def uptoBulkEntry {H : Type} : Lit × DataW H → Nat
  | (.string bytes, d) => bytes.length + uptoBulk d + 1
  | (_, d) => uptoBulk d + 1
 end
def uptoSmall : (H : Type) → List (DataW H) → Bool := fun _ ds => decide (uptoBulkAll ds ≤ 1048576)
def OpenSpec.upto (s : _root_.Go.ChangeSpec) : _root_.Go.OpenSpec := { _root_.Go.OpenSpec.ofChange s with cond := some uptoSmall }

/-- 'flittinglaw02.GlobPlain', WHERE WHAT IT READS IS OF BULK AT MOST 1048576: true; the input reads as it did. -/
def globPlainUptoRow : OpenClaim := { program := "ytcapaiiegfedmaa", sum := "393d2d68ada05042da527a7c3c9804f3520004e7814e2fbc22138982fdf691e5", func := "flitting/flittinglaw02.GlobPlain", spec := "globPlain", apart := false, narrowed := true }
def GlobPlainUptoSaid : Prop := globPlainUptoRow.holds Try.pinned (OpenSpec.upto globPlainSpec)

/-- 'flittinglaw02.GlobStars', WHERE WHAT IT READS IS OF BULK AT MOST 1048576: true; the input reads as it did. -/
def globStarsUptoRow : OpenClaim := { program := "ytcapaiiegfedmaa", sum := "393d2d68ada05042da527a7c3c9804f3520004e7814e2fbc22138982fdf691e5", func := "flitting/flittinglaw02.GlobStars", spec := "globStars", apart := false, narrowed := true }
def GlobStarsUptoSaid : Prop := globStarsUptoRow.holds Try.pinned (OpenSpec.upto globStarsSpec)

/-- 'flittinglaw01.PathsOrder', WHERE WHAT IT READS IS OF BULK AT MOST 1048576: true; the input reads as it did. -/
def pathsOrderUptoRow : OpenClaim := { program := "ytcapaiiegfedmaa", sum := "393d2d68ada05042da527a7c3c9804f3520004e7814e2fbc22138982fdf691e5", func := "flitting/flittinglaw01.PathsOrder", spec := "pathsOrder", inPlace := ["internal/bytealg.IndexByteString"], unfollowed := true, recurses := true, apart := false, narrowed := true }
def PathsOrderUptoSaid : Prop := pathsOrderUptoRow.holds Try.pinned (OpenSpec.upto pathsOrderSpec)

/-- 'flittinglaw01.PathsTogether', WHERE WHAT IT READS IS OF BULK AT MOST 1048576: true; the input reads as it did. -/
def pathsTogetherUptoRow : OpenClaim := { program := "ytcapaiiegfedmaa", sum := "393d2d68ada05042da527a7c3c9804f3520004e7814e2fbc22138982fdf691e5", func := "flitting/flittinglaw01.PathsTogether", spec := "pathsTogether", inPlace := ["internal/bytealg.IndexByteString"], unfollowed := true, recurses := true, apart := false, narrowed := true }
def PathsTogetherUptoSaid : Prop := pathsTogetherUptoRow.holds Try.pinned (OpenSpec.upto pathsTogetherSpec)

/-- 'flittinglaw01.PathsMoves', WHERE WHAT IT READS IS OF BULK AT MOST 1048576: true; the input reads as it did. -/
def pathsMovesUptoRow : OpenClaim := { program := "ytcapaiiegfedmaa", sum := "393d2d68ada05042da527a7c3c9804f3520004e7814e2fbc22138982fdf691e5", func := "flitting/flittinglaw01.PathsMoves", spec := "pathsMoves", inPlace := ["internal/bytealg.IndexByteString"], unfollowed := true, recurses := true, apart := false, narrowed := true }
def PathsMovesUptoSaid : Prop := pathsMovesUptoRow.holds Try.pinned (OpenSpec.upto pathsMovesSpec)

/-- 'flittinglaw01.PathsParts', WHERE WHAT IT READS IS OF BULK AT MOST 1048576: true; the input reads as it did. -/
def pathsPartsUptoRow : OpenClaim := { program := "ytcapaiiegfedmaa", sum := "393d2d68ada05042da527a7c3c9804f3520004e7814e2fbc22138982fdf691e5", func := "flitting/flittinglaw01.PathsParts", spec := "pathsParts", inPlace := ["internal/bytealg.IndexByteString"], unfollowed := true, recurses := true, apart := false, narrowed := true }
def PathsPartsUptoSaid : Prop := pathsPartsUptoRow.holds Try.pinned (OpenSpec.upto pathsPartsSpec)

/-- 'flittinglaw32.JournalReads', WHERE WHAT IT READS IS OF BULK AT MOST 1048576: true; the input reads as it did. -/
def journalReadsUptoRow : OpenClaim := { program := "ytcapaiiegfedmaa", sum := "393d2d68ada05042da527a7c3c9804f3520004e7814e2fbc22138982fdf691e5", func := "flitting/flittinglaw32.JournalReads", spec := "journalReads", inPlace := ["internal/bytealg.IndexByteString", "internal/bytealg.IndexString"], unfollowed := true, recurses := true, named := ["internal/bytealg.MaxLen"], apart := false, narrowed := true }
def JournalReadsUptoSaid : Prop := journalReadsUptoRow.holds Try.pinned (OpenSpec.upto journalReadsSpec)

/-- 'flittinglaw32.JournalBack', WHERE WHAT IT READS IS OF BULK AT MOST 1048576: true; the input reads as it did. -/
def journalBackUptoRow : OpenClaim := { program := "ytcapaiiegfedmaa", sum := "393d2d68ada05042da527a7c3c9804f3520004e7814e2fbc22138982fdf691e5", func := "flitting/flittinglaw32.JournalBack", spec := "journalBack", inPlace := ["internal/bytealg.IndexByteString", "internal/bytealg.IndexString"], unfollowed := true, recurses := true, named := ["internal/bytealg.MaxLen"], apart := false, narrowed := true }
def JournalBackUptoSaid : Prop := journalBackUptoRow.holds Try.pinned (OpenSpec.upto journalBackSpec)

/-- 'flittinglaw34.WorkOps', WHERE WHAT IT READS IS OF BULK AT MOST 1048576: true; the input reads as it did. -/
def workOpsUptoRow : OpenClaim := { program := "ytcapaiiegfedmaa", sum := "393d2d68ada05042da527a7c3c9804f3520004e7814e2fbc22138982fdf691e5", func := "flitting/flittinglaw34.WorkOps", spec := "workOps", inPlace := ["internal/bytealg.IndexByteString"], unfollowed := true, recurses := true, apart := false, narrowed := true }
def WorkOpsUptoSaid : Prop := workOpsUptoRow.holds Try.pinned (OpenSpec.upto workOpsSpec)

/-- 'flittinglaw32.JournalTells', WHERE WHAT IT READS IS OF BULK AT MOST 1048576: true; the input reads as it did. -/
def journalTellsUptoRow : OpenClaim := { program := "ytcapaiiegfedmaa", sum := "393d2d68ada05042da527a7c3c9804f3520004e7814e2fbc22138982fdf691e5", func := "flitting/flittinglaw32.JournalTells", spec := "journalTells", inPlace := ["internal/bytealg.IndexByteString", "internal/bytealg.IndexString"], unfollowed := true, recurses := true, named := ["internal/bytealg.MaxLen"], apart := false, narrowed := true }
def JournalTellsUptoSaid : Prop := journalTellsUptoRow.holds Try.pinned (OpenSpec.upto journalTellsSpec)

/-- 'flittinglaw01.PathsJoins', WHERE WHAT IT READS IS OF BULK AT MOST 1048576: true; the input reads as it did. -/
def pathsJoinsUptoRow : OpenClaim := { program := "ytcapaiiegfedmaa", sum := "393d2d68ada05042da527a7c3c9804f3520004e7814e2fbc22138982fdf691e5", func := "flitting/flittinglaw01.PathsJoins", spec := "pathsJoins", inPlace := ["internal/bytealg.IndexByteString", "internal/abi.NoEscape", "internal/bytealg.MakeNoZero"], unfollowed := true, recurses := true, apart := false, narrowed := true }
def PathsJoinsUptoSaid : Prop := pathsJoinsUptoRow.holds Try.pinned (OpenSpec.upto pathsJoinsSpec)

/-- 'flittinglaw28.EditCounts', WHERE WHAT IT READS IS OF BULK AT MOST 1048576: true; the input reads as it did. -/
def editCountsUptoRow : OpenClaim := { program := "ytcapaiiegfedmaa", sum := "393d2d68ada05042da527a7c3c9804f3520004e7814e2fbc22138982fdf691e5", func := "flitting/flittinglaw28.EditCounts", spec := "editCounts", inPlace := ["internal/bytealg.IndexByteString", "internal/abi.NoEscape", "internal/bytealg.MakeNoZero"], unfollowed := true, recurses := true, apart := false, narrowed := true }
def EditCountsUptoSaid : Prop := editCountsUptoRow.holds Try.pinned (OpenSpec.upto editCountsSpec)

/-- 'flittinglaw03.RuleKeeps', WHERE WHAT IT READS IS OF BULK AT MOST 1048576: true; the input reads as it did. -/
def ruleKeepsUptoRow : OpenClaim := { program := "ytcapaiiegfedmaa", sum := "393d2d68ada05042da527a7c3c9804f3520004e7814e2fbc22138982fdf691e5", func := "flitting/flittinglaw03.RuleKeeps", spec := "ruleKeeps", inPlace := ["internal/bytealg.IndexByteString", "internal/bytealg.IndexString"], unfollowed := true, recurses := true, named := ["internal/bytealg.MaxLen"], apart := false, narrowed := true }
def RuleKeepsUptoSaid : Prop := ruleKeepsUptoRow.holds Try.pinned (OpenSpec.upto ruleKeepsSpec)

/-- 'flittinglaw03.RuleUnder', WHERE WHAT IT READS IS OF BULK AT MOST 1048576: true; the input reads as it did. -/
def ruleUnderUptoRow : OpenClaim := { program := "ytcapaiiegfedmaa", sum := "393d2d68ada05042da527a7c3c9804f3520004e7814e2fbc22138982fdf691e5", func := "flitting/flittinglaw03.RuleUnder", spec := "ruleUnder", inPlace := ["internal/bytealg.IndexByteString", "internal/bytealg.IndexString"], unfollowed := true, recurses := true, named := ["internal/bytealg.MaxLen"], apart := false, narrowed := true }
def RuleUnderUptoSaid : Prop := ruleUnderUptoRow.holds Try.pinned (OpenSpec.upto ruleUnderSpec)

/-- 'flittinglaw03.RuleChecks', WHERE WHAT IT READS IS OF BULK AT MOST 1048576: true; the input reads as it did. -/
def ruleChecksUptoRow : OpenClaim := { program := "ytcapaiiegfedmaa", sum := "393d2d68ada05042da527a7c3c9804f3520004e7814e2fbc22138982fdf691e5", func := "flitting/flittinglaw03.RuleChecks", spec := "ruleChecks", inPlace := ["internal/bytealg.IndexByteString", "internal/bytealg.IndexString"], unfollowed := true, recurses := true, named := ["internal/bytealg.MaxLen"], apart := false, narrowed := true }
def RuleChecksUptoSaid : Prop := ruleChecksUptoRow.holds Try.pinned (OpenSpec.upto ruleChecksSpec)

/-- 'flittinglaw03.RuleTexts', WHERE WHAT IT READS IS OF BULK AT MOST 1048576: true; the input reads as it did. -/
def ruleTextsUptoRow : OpenClaim := { program := "ytcapaiiegfedmaa", sum := "393d2d68ada05042da527a7c3c9804f3520004e7814e2fbc22138982fdf691e5", func := "flitting/flittinglaw03.RuleTexts", spec := "ruleTexts", inPlace := ["internal/bytealg.IndexByteString", "internal/bytealg.IndexString", "internal/abi.NoEscape"], unfollowed := true, recurses := true, named := ["internal/bytealg.MaxLen"], apart := false, narrowed := true }
def RuleTextsUptoSaid : Prop := ruleTextsUptoRow.holds Try.pinned (OpenSpec.upto ruleTextsSpec)

end Rows
end Go.Proofs.Ytcapaiiegfedmaa
