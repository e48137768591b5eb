/-
  NARROWER THAN 'FOR EVERY INPUT', by the rows' own cells (each row's printed sentence says how): JobSays: laid · JobOrder: laid · EdfSays: laid · EdfLess: laid · EdfBest: laid · RobustRuns: laid · RobustAlone: laid · RobustSheds: laid · DoverRuns: laid.
  DERIVED. THE GIVEN ROWS OF THIS SEAT. 9 by the template 'for every input the law returns true; each argument reads behind the call as it read before'; 0 by the template 'total and deterministic' (their statements: YtnnmakkbnfckmaaDoorTotals.lean).
  GIVEN WITH THE SEED: the statements are not yours to turn. If you find one false, say at which input.
  Laid BY PROGRAM, IN A SANDBOX (cutbox-rows.mjs): the forced cells as the released guide's own fill.sh prints them over the translation 3bf8a0cae21d8418… (all of the seat's roots in one cut). By AI agents, Wed Nov 11 2026. No macro, syntax, notation, axiom, sorry.
-/
import Derived.Test.YtnnmakkbnfckmaaDoorChecked
import GoSem.PinnedTables
import GoSem.Claim
import GoSem.ClaimJoined
import GoSem.ClaimMapViews
import Derived.JoinedTies
import Derived.KernelRfl
namespace Go.Proofs.YtnnmakkbnfckmaaDoor
/- THE CELL 'sum', in the pinned program and in every row, IS THE sha256 OF THE DUMP (.gsa) THAT YtnnmakkbnfckmaaDoorProg.lean LOADS. Nothing in Lean hashes anything: it is a label: what it is worth is what the hold of that sum in a sandbox is worth. -/
noncomputable def Tryd.pinned : Pinned := { name := "ytnnmakkbnfckmaadoor", sum := "3bf8a0cae21d84187110987494624852f2c819aff4325d5e7ee009cd916baf9e", checked := Tryd.checked }
namespace Rows
def none {H : Type} : Left H := { results := [], args := [] }

/- WHAT THE LISTED PACKAGE-LEVEL VARIABLES READ AS WHEN THE CALL BEGINS. Each datum BY PROGRAM (the guide's laid-datum.mjs) off the statement by which the dump's own 'gosem.cut.vars' lays the variable. In a bare row this is a premise. The card (YtnnmakkbnfckmaaDoorCards.lean) ties it to the program's text. -/
def laid_unicode_utf8_acceptRanges {H : Type} : DataW H := .agg [.agg [.lit (.int .u8 128), .lit (.int .u8 191)], .agg [.lit (.int .u8 160), .lit (.int .u8 191)], .agg [.lit (.int .u8 128), .lit (.int .u8 159)], .agg [.lit (.int .u8 144), .lit (.int .u8 191)], .agg [.lit (.int .u8 128), .lit (.int .u8 143)], .agg [.lit (.int .u8 0), .lit (.int .u8 0)], .agg [.lit (.int .u8 0), .lit (.int .u8 0)], .agg [.lit (.int .u8 0), .lit (.int .u8 0)], .agg [.lit (.int .u8 0), .lit (.int .u8 0)], .agg [.lit (.int .u8 0), .lit (.int .u8 0)], .agg [.lit (.int .u8 0), .lit (.int .u8 0)], .agg [.lit (.int .u8 0), .lit (.int .u8 0)], .agg [.lit (.int .u8 0), .lit (.int .u8 0)], .agg [.lit (.int .u8 0), .lit (.int .u8 0)], .agg [.lit (.int .u8 0), .lit (.int .u8 0)], .agg [.lit (.int .u8 0), .lit (.int .u8 0)]]
def laid_unicode_properties {H : Type} : DataW H := .agg [.lit (.int .u8 1), .lit (.int .u8 1), .lit (.int .u8 1), .lit (.int .u8 1), .lit (.int .u8 1), .lit (.int .u8 1), .lit (.int .u8 1), .lit (.int .u8 1), .lit (.int .u8 1), .lit (.int .u8 1), .lit (.int .u8 1), .lit (.int .u8 1), .lit (.int .u8 1), .lit (.int .u8 1), .lit (.int .u8 1), .lit (.int .u8 1), .lit (.int .u8 1), .lit (.int .u8 1), .lit (.int .u8 1), .lit (.int .u8 1), .lit (.int .u8 1), .lit (.int .u8 1), .lit (.int .u8 1), .lit (.int .u8 1), .lit (.int .u8 1), .lit (.int .u8 1), .lit (.int .u8 1), .lit (.int .u8 1), .lit (.int .u8 1), .lit (.int .u8 1), .lit (.int .u8 1), .lit (.int .u8 1), .lit (.int .u8 144), .lit (.int .u8 130), .lit (.int .u8 130), .lit (.int .u8 130), .lit (.int .u8 136), .lit (.int .u8 130), .lit (.int .u8 130), .lit (.int .u8 130), .lit (.int .u8 130), .lit (.int .u8 130), .lit (.int .u8 130), .lit (.int .u8 136), .lit (.int .u8 130), .lit (.int .u8 130), .lit (.int .u8 130), .lit (.int .u8 130), .lit (.int .u8 132), .lit (.int .u8 132), .lit (.int .u8 132), .lit (.int .u8 132), .lit (.int .u8 132), .lit (.int .u8 132), .lit (.int .u8 132), .lit (.int .u8 132), .lit (.int .u8 132), .lit (.int .u8 132), .lit (.int .u8 130), .lit (.int .u8 130), .lit (.int .u8 136), .lit (.int .u8 136), .lit (.int .u8 136), .lit (.int .u8 130), .lit (.int .u8 130), .lit (.int .u8 160), .lit (.int .u8 160), .lit (.int .u8 160), .lit (.int .u8 160), .lit (.int .u8 160), .lit (.int .u8 160), .lit (.int .u8 160), .lit (.int .u8 160), .lit (.int .u8 160), .lit (.int .u8 160), .lit (.int .u8 160), .lit (.int .u8 160), .lit (.int .u8 160), .lit (.int .u8 160), .lit (.int .u8 160), .lit (.int .u8 160), .lit (.int .u8 160), .lit (.int .u8 160), .lit (.int .u8 160), .lit (.int .u8 160), .lit (.int .u8 160), .lit (.int .u8 160), .lit (.int .u8 160), .lit (.int .u8 160), .lit (.int .u8 160), .lit (.int .u8 160), .lit (.int .u8 130), .lit (.int .u8 130), .lit (.int .u8 130), .lit (.int .u8 136), .lit (.int .u8 130), .lit (.int .u8 136), .lit (.int .u8 192), .lit (.int .u8 192), .lit (.int .u8 192), .lit (.int .u8 192), .lit (.int .u8 192), .lit (.int .u8 192), .lit (.int .u8 192), .lit (.int .u8 192), .lit (.int .u8 192), .lit (.int .u8 192), .lit (.int .u8 192), .lit (.int .u8 192), .lit (.int .u8 192), .lit (.int .u8 192), .lit (.int .u8 192), .lit (.int .u8 192), .lit (.int .u8 192), .lit (.int .u8 192), .lit (.int .u8 192), .lit (.int .u8 192), .lit (.int .u8 192), .lit (.int .u8 192), .lit (.int .u8 192), .lit (.int .u8 192), .lit (.int .u8 192), .lit (.int .u8 192), .lit (.int .u8 130), .lit (.int .u8 136), .lit (.int .u8 130), .lit (.int .u8 136), .lit (.int .u8 1), .lit (.int .u8 1), .lit (.int .u8 1), .lit (.int .u8 1), .lit (.int .u8 1), .lit (.int .u8 1), .lit (.int .u8 1), .lit (.int .u8 1), .lit (.int .u8 1), .lit (.int .u8 1), .lit (.int .u8 1), .lit (.int .u8 1), .lit (.int .u8 1), .lit (.int .u8 1), .lit (.int .u8 1), .lit (.int .u8 1), .lit (.int .u8 1), .lit (.int .u8 1), .lit (.int .u8 1), .lit (.int .u8 1), .lit (.int .u8 1), .lit (.int .u8 1), .lit (.int .u8 1), .lit (.int .u8 1), .lit (.int .u8 1), .lit (.int .u8 1), .lit (.int .u8 1), .lit (.int .u8 1), .lit (.int .u8 1), .lit (.int .u8 1), .lit (.int .u8 1), .lit (.int .u8 1), .lit (.int .u8 1), .lit (.int .u8 16), .lit (.int .u8 130), .lit (.int .u8 136), .lit (.int .u8 136), .lit (.int .u8 136), .lit (.int .u8 136), .lit (.int .u8 136), .lit (.int .u8 130), .lit (.int .u8 136), .lit (.int .u8 136), .lit (.int .u8 224), .lit (.int .u8 130), .lit (.int .u8 136), .lit (.int .u8 0), .lit (.int .u8 136), .lit (.int .u8 136), .lit (.int .u8 136), .lit (.int .u8 136), .lit (.int .u8 132), .lit (.int .u8 132), .lit (.int .u8 136), .lit (.int .u8 192), .lit (.int .u8 130), .lit (.int .u8 130), .lit (.int .u8 136), .lit (.int .u8 132), .lit (.int .u8 224), .lit (.int .u8 130), .lit (.int .u8 132), .lit (.int .u8 132), .lit (.int .u8 132), .lit (.int .u8 130), .lit (.int .u8 160), .lit (.int .u8 160), .lit (.int .u8 160), .lit (.int .u8 160), .lit (.int .u8 160), .lit (.int .u8 160), .lit (.int .u8 160), .lit (.int .u8 160), .lit (.int .u8 160), .lit (.int .u8 160), .lit (.int .u8 160), .lit (.int .u8 160), .lit (.int .u8 160), .lit (.int .u8 160), .lit (.int .u8 160), .lit (.int .u8 160), .lit (.int .u8 160), .lit (.int .u8 160), .lit (.int .u8 160), .lit (.int .u8 160), .lit (.int .u8 160), .lit (.int .u8 160), .lit (.int .u8 160), .lit (.int .u8 136), .lit (.int .u8 160), .lit (.int .u8 160), .lit (.int .u8 160), .lit (.int .u8 160), .lit (.int .u8 160), .lit (.int .u8 160), .lit (.int .u8 160), .lit (.int .u8 192), .lit (.int .u8 192), .lit (.int .u8 192), .lit (.int .u8 192), .lit (.int .u8 192), .lit (.int .u8 192), .lit (.int .u8 192), .lit (.int .u8 192), .lit (.int .u8 192), .lit (.int .u8 192), .lit (.int .u8 192), .lit (.int .u8 192), .lit (.int .u8 192), .lit (.int .u8 192), .lit (.int .u8 192), .lit (.int .u8 192), .lit (.int .u8 192), .lit (.int .u8 192), .lit (.int .u8 192), .lit (.int .u8 192), .lit (.int .u8 192), .lit (.int .u8 192), .lit (.int .u8 192), .lit (.int .u8 192), .lit (.int .u8 136), .lit (.int .u8 192), .lit (.int .u8 192), .lit (.int .u8 192), .lit (.int .u8 192), .lit (.int .u8 192), .lit (.int .u8 192), .lit (.int .u8 192), .lit (.int .u8 192)]
/-- One of Go's own tables, pinned by name: the form's constant. -/
def laid_unicode_Letter : DataW Unit := Go.Pinned.letter
/-- One of Go's own tables, pinned by name: the form's constant. -/
def laid_unicode_utf8_first : DataW Unit := Go.Pinned.utf8First

/-- 'tocsinlaw8.JobSays': WHATEVER THE INPUT: true; the input reads as it did. -/
def jobSaysSpec : ChangeSpec := { name := "jobSays", fn := fun _ => fun
  | [d1, d2] => { results := [.lit (.bool true)], args := [d1, d2] }
  | _ => none }
def jobSaysRow : OpenClaim := { program := "ytnnmakkbnfckmaadoor", sum := "3bf8a0cae21d84187110987494624852f2c819aff4325d5e7ee009cd916baf9e", func := "tocsin/tocsinlaw8.JobSays", spec := "jobSays", unfollowed := true, recurses := true, named := ["unicode.properties", "unicode.Letter", "unicode/utf8.first", "unicode/utf8.acceptRanges"], apart := false, laid := [("unicode/utf8.acceptRanges", laid_unicode_utf8_acceptRanges), ("unicode.properties", laid_unicode_properties), ("unicode.Letter", laid_unicode_Letter), ("unicode/utf8.first", laid_unicode_utf8_first)] }
def JobSaysSaid : Prop := jobSaysRow.holds Tryd.pinned (OpenSpec.ofChange jobSaysSpec)

/-- ITS FALSE NEIGHBOUR: 'it returns false'. Refute it at one input. -/
def jobSaysWrong : ChangeSpec := { name := "jobSays", fn := fun _ => fun
  | [d1, d2] => { results := [.lit (.bool false)], args := [d1, d2] }
  | _ => none }
def JobSaysWrongFalsely : Prop := jobSaysRow.holds Tryd.pinned (OpenSpec.ofChange jobSaysWrong)

/-- 'tocsinlaw8.JobOrder': WHATEVER THE INPUT: true; the input reads as it did. -/
def jobOrderSpec : ChangeSpec := { name := "jobOrder", fn := fun _ => fun
  | [d] => { results := [.lit (.bool true)], args := [d] }
  | _ => none }
def jobOrderRow : OpenClaim := { program := "ytnnmakkbnfckmaadoor", sum := "3bf8a0cae21d84187110987494624852f2c819aff4325d5e7ee009cd916baf9e", func := "tocsin/tocsinlaw8.JobOrder", spec := "jobOrder", unfollowed := true, recurses := true, named := ["unicode.properties", "unicode.Letter", "unicode/utf8.first", "unicode/utf8.acceptRanges"], apart := false, laid := [("unicode/utf8.acceptRanges", laid_unicode_utf8_acceptRanges), ("unicode.properties", laid_unicode_properties), ("unicode.Letter", laid_unicode_Letter), ("unicode/utf8.first", laid_unicode_utf8_first)] }
def JobOrderSaid : Prop := jobOrderRow.holds Tryd.pinned (OpenSpec.ofChange jobOrderSpec)

/-- ITS FALSE NEIGHBOUR: 'it returns false'. Refute it at one input. -/
def jobOrderWrong : ChangeSpec := { name := "jobOrder", fn := fun _ => fun
  | [d] => { results := [.lit (.bool false)], args := [d] }
  | _ => none }
def JobOrderWrongFalsely : Prop := jobOrderRow.holds Tryd.pinned (OpenSpec.ofChange jobOrderWrong)

/-- 'tocsinlaw10.EdfSays': WHATEVER THE INPUT: true; the input reads as it did. -/
def edfSaysSpec : ChangeSpec := { name := "edfSays", fn := fun _ => fun
  | [d1, d2, d3, d4] => { results := [.lit (.bool true)], args := [d1, d2, d3, d4] }
  | _ => none }
def edfSaysRow : OpenClaim := { program := "ytnnmakkbnfckmaadoor", sum := "3bf8a0cae21d84187110987494624852f2c819aff4325d5e7ee009cd916baf9e", func := "tocsin/tocsinlaw10.EdfSays", spec := "edfSays", unfollowed := true, recurses := true, named := ["unicode.properties", "unicode.Letter", "unicode/utf8.first", "unicode/utf8.acceptRanges"], apart := false, laid := [("unicode/utf8.acceptRanges", laid_unicode_utf8_acceptRanges), ("unicode.properties", laid_unicode_properties), ("unicode.Letter", laid_unicode_Letter), ("unicode/utf8.first", laid_unicode_utf8_first)] }
def EdfSaysSaid : Prop := edfSaysRow.holds Tryd.pinned (OpenSpec.ofChange edfSaysSpec)

/-- ITS FALSE NEIGHBOUR: 'it returns false'. Refute it at one input. -/
def edfSaysWrong : ChangeSpec := { name := "edfSays", fn := fun _ => fun
  | [d1, d2, d3, d4] => { results := [.lit (.bool false)], args := [d1, d2, d3, d4] }
  | _ => none }
def EdfSaysWrongFalsely : Prop := edfSaysRow.holds Tryd.pinned (OpenSpec.ofChange edfSaysWrong)

/-- 'tocsinlaw10.EdfLess': WHATEVER THE INPUT: true; the input reads as it did. -/
def edfLessSpec : ChangeSpec := { name := "edfLess", fn := fun _ => fun
  | [d1, d2, d3, d4, d5] => { results := [.lit (.bool true)], args := [d1, d2, d3, d4, d5] }
  | _ => none }
def edfLessRow : OpenClaim := { program := "ytnnmakkbnfckmaadoor", sum := "3bf8a0cae21d84187110987494624852f2c819aff4325d5e7ee009cd916baf9e", func := "tocsin/tocsinlaw10.EdfLess", spec := "edfLess", unfollowed := true, recurses := true, named := ["unicode.properties", "unicode.Letter", "unicode/utf8.first", "unicode/utf8.acceptRanges"], apart := false, laid := [("unicode/utf8.acceptRanges", laid_unicode_utf8_acceptRanges), ("unicode.properties", laid_unicode_properties), ("unicode.Letter", laid_unicode_Letter), ("unicode/utf8.first", laid_unicode_utf8_first)] }
def EdfLessSaid : Prop := edfLessRow.holds Tryd.pinned (OpenSpec.ofChange edfLessSpec)

/-- ITS FALSE NEIGHBOUR: 'it returns false'. Refute it at one input. -/
def edfLessWrong : ChangeSpec := { name := "edfLess", fn := fun _ => fun
  | [d1, d2, d3, d4, d5] => { results := [.lit (.bool false)], args := [d1, d2, d3, d4, d5] }
  | _ => none }
def EdfLessWrongFalsely : Prop := edfLessRow.holds Tryd.pinned (OpenSpec.ofChange edfLessWrong)

/-- 'tocsinlaw10.EdfBest': WHATEVER THE INPUT: true; the input reads as it did. -/
def edfBestSpec : ChangeSpec := { name := "edfBest", fn := fun _ => fun
  | [d1, d2] => { results := [.lit (.bool true)], args := [d1, d2] }
  | _ => none }
def edfBestRow : OpenClaim := { program := "ytnnmakkbnfckmaadoor", sum := "3bf8a0cae21d84187110987494624852f2c819aff4325d5e7ee009cd916baf9e", func := "tocsin/tocsinlaw10.EdfBest", spec := "edfBest", unfollowed := true, recurses := true, named := ["unicode.properties", "unicode.Letter", "unicode/utf8.first", "unicode/utf8.acceptRanges"], apart := false, laid := [("unicode/utf8.acceptRanges", laid_unicode_utf8_acceptRanges), ("unicode.properties", laid_unicode_properties), ("unicode.Letter", laid_unicode_Letter), ("unicode/utf8.first", laid_unicode_utf8_first)] }
def EdfBestSaid : Prop := edfBestRow.holds Tryd.pinned (OpenSpec.ofChange edfBestSpec)

/-- ITS FALSE NEIGHBOUR: 'it returns false'. Refute it at one input. -/
def edfBestWrong : ChangeSpec := { name := "edfBest", fn := fun _ => fun
  | [d1, d2] => { results := [.lit (.bool false)], args := [d1, d2] }
  | _ => none }
def EdfBestWrongFalsely : Prop := edfBestRow.holds Tryd.pinned (OpenSpec.ofChange edfBestWrong)

/-- 'tocsinlaw20.RobustRuns': WHATEVER THE INPUT: true; the input reads as it did. -/
def robustRunsSpec : ChangeSpec := { name := "robustRuns", fn := fun _ => fun
  | [d] => { results := [.lit (.bool true)], args := [d] }
  | _ => none }
def robustRunsRow : OpenClaim := { program := "ytnnmakkbnfckmaadoor", sum := "3bf8a0cae21d84187110987494624852f2c819aff4325d5e7ee009cd916baf9e", func := "tocsin/tocsinlaw20.RobustRuns", spec := "robustRuns", unfollowed := true, recurses := true, named := ["unicode.properties", "unicode.Letter", "unicode/utf8.first", "unicode/utf8.acceptRanges"], apart := false, laid := [("unicode/utf8.acceptRanges", laid_unicode_utf8_acceptRanges), ("unicode.properties", laid_unicode_properties), ("unicode.Letter", laid_unicode_Letter), ("unicode/utf8.first", laid_unicode_utf8_first)] }
def RobustRunsSaid : Prop := robustRunsRow.holds Tryd.pinned (OpenSpec.ofChange robustRunsSpec)

/-- ITS FALSE NEIGHBOUR: 'it returns false'. Refute it at one input. -/
def robustRunsWrong : ChangeSpec := { name := "robustRuns", fn := fun _ => fun
  | [d] => { results := [.lit (.bool false)], args := [d] }
  | _ => none }
def RobustRunsWrongFalsely : Prop := robustRunsRow.holds Tryd.pinned (OpenSpec.ofChange robustRunsWrong)

/-- 'tocsinlaw20.RobustAlone': WHATEVER THE INPUT: true; the input reads as it did. -/
def robustAloneSpec : ChangeSpec := { name := "robustAlone", fn := fun _ => fun
  | [d] => { results := [.lit (.bool true)], args := [d] }
  | _ => none }
def robustAloneRow : OpenClaim := { program := "ytnnmakkbnfckmaadoor", sum := "3bf8a0cae21d84187110987494624852f2c819aff4325d5e7ee009cd916baf9e", func := "tocsin/tocsinlaw20.RobustAlone", spec := "robustAlone", unfollowed := true, recurses := true, named := ["unicode.properties", "unicode.Letter", "unicode/utf8.first", "unicode/utf8.acceptRanges"], apart := false, laid := [("unicode/utf8.acceptRanges", laid_unicode_utf8_acceptRanges), ("unicode.properties", laid_unicode_properties), ("unicode.Letter", laid_unicode_Letter), ("unicode/utf8.first", laid_unicode_utf8_first)] }
def RobustAloneSaid : Prop := robustAloneRow.holds Tryd.pinned (OpenSpec.ofChange robustAloneSpec)

/-- ITS FALSE NEIGHBOUR: 'it returns false'. Refute it at one input. -/
def robustAloneWrong : ChangeSpec := { name := "robustAlone", fn := fun _ => fun
  | [d] => { results := [.lit (.bool false)], args := [d] }
  | _ => none }
def RobustAloneWrongFalsely : Prop := robustAloneRow.holds Tryd.pinned (OpenSpec.ofChange robustAloneWrong)

/-- 'tocsinlaw20.RobustSheds': WHATEVER THE INPUT: true; the input reads as it did. -/
def robustShedsSpec : ChangeSpec := { name := "robustSheds", fn := fun _ => fun
  | [d] => { results := [.lit (.bool true)], args := [d] }
  | _ => none }
def robustShedsRow : OpenClaim := { program := "ytnnmakkbnfckmaadoor", sum := "3bf8a0cae21d84187110987494624852f2c819aff4325d5e7ee009cd916baf9e", func := "tocsin/tocsinlaw20.RobustSheds", spec := "robustSheds", unfollowed := true, recurses := true, named := ["unicode.properties", "unicode.Letter", "unicode/utf8.first", "unicode/utf8.acceptRanges"], apart := false, laid := [("unicode/utf8.acceptRanges", laid_unicode_utf8_acceptRanges), ("unicode.properties", laid_unicode_properties), ("unicode.Letter", laid_unicode_Letter), ("unicode/utf8.first", laid_unicode_utf8_first)] }
def RobustShedsSaid : Prop := robustShedsRow.holds Tryd.pinned (OpenSpec.ofChange robustShedsSpec)

/-- ITS FALSE NEIGHBOUR: 'it returns false'. Refute it at one input. -/
def robustShedsWrong : ChangeSpec := { name := "robustSheds", fn := fun _ => fun
  | [d] => { results := [.lit (.bool false)], args := [d] }
  | _ => none }
def RobustShedsWrongFalsely : Prop := robustShedsRow.holds Tryd.pinned (OpenSpec.ofChange robustShedsWrong)

/-- 'tocsinlaw19.DoverRuns': WHATEVER THE INPUT: true; the input reads as it did. -/
def doverRunsSpec : ChangeSpec := { name := "doverRuns", fn := fun _ => fun
  | [d1, d2] => { results := [.lit (.bool true)], args := [d1, d2] }
  | _ => none }
def doverRunsRow : OpenClaim := { program := "ytnnmakkbnfckmaadoor", sum := "3bf8a0cae21d84187110987494624852f2c819aff4325d5e7ee009cd916baf9e", func := "tocsin/tocsinlaw19.DoverRuns", spec := "doverRuns", unfollowed := true, recurses := true, named := ["unicode.properties", "unicode.Letter", "unicode/utf8.first", "unicode/utf8.acceptRanges"], apart := false, laid := [("unicode/utf8.acceptRanges", laid_unicode_utf8_acceptRanges), ("unicode.properties", laid_unicode_properties), ("unicode.Letter", laid_unicode_Letter), ("unicode/utf8.first", laid_unicode_utf8_first)] }
def DoverRunsSaid : Prop := doverRunsRow.holds Tryd.pinned (OpenSpec.ofChange doverRunsSpec)

/-- ITS FALSE NEIGHBOUR: 'it returns false'. Refute it at one input. -/
def doverRunsWrong : ChangeSpec := { name := "doverRuns", fn := fun _ => fun
  | [d1, d2] => { results := [.lit (.bool false)], args := [d1, d2] }
  | _ => none }
def DoverRunsWrongFalsely : Prop := doverRunsRow.holds Tryd.pinned (OpenSpec.ofChange doverRunsWrong)

/- THE SECOND FORM. 'bulk': how many values and letters a reading holds, each counted each time it is reached (what is shared counts as often as it is met; a slice's spare places count too). A statement '..UptoSaid' is the law's where the arguments, and the package variables that the reading takes, are together of bulk at most 1048576: NARROWER than '..Said'. Prove '..Said' where nothing that the law and all that it calls make is longer than what came in: it says more and counts as full. Else prove '..UptoSaid'. A law counts once. -/
mutual
def uptoBulk {H : Type} : DataW H → Nat
  | .lit (.string bytes) => bytes.length + 1
  | .lit _ => 1
  | .nil => 1
  | .ptr d => uptoBulk d + 1
  | .slice elems spare => uptoBulkAll elems + uptoBulkAll spare + 1
  | .agg parts => uptoBulkAll parts + 1
  | .iface _ d => uptoBulk d + 1
  | .map entries => uptoBulkEntries entries + 1
  | .held _ => 1
def uptoBulkAll {H : Type} : List (DataW H) → Nat
  | [] => 0
  | d :: r => uptoBulk d + uptoBulkAll r
def uptoBulkEntries {H : Type} : List (Lit × DataW H) → Nat
  | [] => 0
  | x :: r => uptoBulkEntry x + uptoBulkEntries r
def uptoBulkEntry {H : Type} : Lit × DataW H → Nat
  | (.string bytes, d) => bytes.length + uptoBulk d + 1
  | (_, d) => uptoBulk d + 1
 end
def uptoSmall : (H : Type) → List (DataW H) → Bool := fun _ ds => decide (uptoBulkAll ds ≤ 1048576)
def OpenSpec.upto (s : _root_.Go.ChangeSpec) : _root_.Go.OpenSpec := { _root_.Go.OpenSpec.ofChange s with cond := some uptoSmall }

/-- 'tocsinlaw8.JobSays', WHERE WHAT IT READS IS OF BULK AT MOST 1048576: true; the input reads as it did. -/
def jobSaysUptoRow : OpenClaim := { program := "ytnnmakkbnfckmaadoor", sum := "3bf8a0cae21d84187110987494624852f2c819aff4325d5e7ee009cd916baf9e", func := "tocsin/tocsinlaw8.JobSays", spec := "jobSays", unfollowed := true, recurses := true, named := ["unicode.properties", "unicode.Letter", "unicode/utf8.first", "unicode/utf8.acceptRanges"], apart := false, laid := [("unicode/utf8.acceptRanges", laid_unicode_utf8_acceptRanges), ("unicode.properties", laid_unicode_properties), ("unicode.Letter", laid_unicode_Letter), ("unicode/utf8.first", laid_unicode_utf8_first)], narrowed := true }
def JobSaysUptoSaid : Prop := jobSaysUptoRow.holds Tryd.pinned (OpenSpec.upto jobSaysSpec)

/-- 'tocsinlaw8.JobOrder', WHERE WHAT IT READS IS OF BULK AT MOST 1048576: true; the input reads as it did. -/
def jobOrderUptoRow : OpenClaim := { program := "ytnnmakkbnfckmaadoor", sum := "3bf8a0cae21d84187110987494624852f2c819aff4325d5e7ee009cd916baf9e", func := "tocsin/tocsinlaw8.JobOrder", spec := "jobOrder", unfollowed := true, recurses := true, named := ["unicode.properties", "unicode.Letter", "unicode/utf8.first", "unicode/utf8.acceptRanges"], apart := false, laid := [("unicode/utf8.acceptRanges", laid_unicode_utf8_acceptRanges), ("unicode.properties", laid_unicode_properties), ("unicode.Letter", laid_unicode_Letter), ("unicode/utf8.first", laid_unicode_utf8_first)], narrowed := true }
def JobOrderUptoSaid : Prop := jobOrderUptoRow.holds Tryd.pinned (OpenSpec.upto jobOrderSpec)

/-- 'tocsinlaw10.EdfSays', WHERE WHAT IT READS IS OF BULK AT MOST 1048576: true; the input reads as it did. -/
def edfSaysUptoRow : OpenClaim := { program := "ytnnmakkbnfckmaadoor", sum := "3bf8a0cae21d84187110987494624852f2c819aff4325d5e7ee009cd916baf9e", func := "tocsin/tocsinlaw10.EdfSays", spec := "edfSays", unfollowed := true, recurses := true, named := ["unicode.properties", "unicode.Letter", "unicode/utf8.first", "unicode/utf8.acceptRanges"], apart := false, laid := [("unicode/utf8.acceptRanges", laid_unicode_utf8_acceptRanges), ("unicode.properties", laid_unicode_properties), ("unicode.Letter", laid_unicode_Letter), ("unicode/utf8.first", laid_unicode_utf8_first)], narrowed := true }
def EdfSaysUptoSaid : Prop := edfSaysUptoRow.holds Tryd.pinned (OpenSpec.upto edfSaysSpec)

/-- 'tocsinlaw10.EdfLess', WHERE WHAT IT READS IS OF BULK AT MOST 1048576: true; the input reads as it did. -/
def edfLessUptoRow : OpenClaim := { program := "ytnnmakkbnfckmaadoor", sum := "3bf8a0cae21d84187110987494624852f2c819aff4325d5e7ee009cd916baf9e", func := "tocsin/tocsinlaw10.EdfLess", spec := "edfLess", unfollowed := true, recurses := true, named := ["unicode.properties", "unicode.Letter", "unicode/utf8.first", "unicode/utf8.acceptRanges"], apart := false, laid := [("unicode/utf8.acceptRanges", laid_unicode_utf8_acceptRanges), ("unicode.properties", laid_unicode_properties), ("unicode.Letter", laid_unicode_Letter), ("unicode/utf8.first", laid_unicode_utf8_first)], narrowed := true }
def EdfLessUptoSaid : Prop := edfLessUptoRow.holds Tryd.pinned (OpenSpec.upto edfLessSpec)

/-- 'tocsinlaw10.EdfBest', WHERE WHAT IT READS IS OF BULK AT MOST 1048576: true; the input reads as it did. -/
def edfBestUptoRow : OpenClaim := { program := "ytnnmakkbnfckmaadoor", sum := "3bf8a0cae21d84187110987494624852f2c819aff4325d5e7ee009cd916baf9e", func := "tocsin/tocsinlaw10.EdfBest", spec := "edfBest", unfollowed := true, recurses := true, named := ["unicode.properties", "unicode.Letter", "unicode/utf8.first", "unicode/utf8.acceptRanges"], apart := false, laid := [("unicode/utf8.acceptRanges", laid_unicode_utf8_acceptRanges), ("unicode.properties", laid_unicode_properties), ("unicode.Letter", laid_unicode_Letter), ("unicode/utf8.first", laid_unicode_utf8_first)], narrowed := true }
def EdfBestUptoSaid : Prop := edfBestUptoRow.holds Tryd.pinned (OpenSpec.upto edfBestSpec)

/-- 'tocsinlaw20.RobustRuns', WHERE WHAT IT READS IS OF BULK AT MOST 1048576: true; the input reads as it did. -/
def robustRunsUptoRow : OpenClaim := { program := "ytnnmakkbnfckmaadoor", sum := "3bf8a0cae21d84187110987494624852f2c819aff4325d5e7ee009cd916baf9e", func := "tocsin/tocsinlaw20.RobustRuns", spec := "robustRuns", unfollowed := true, recurses := true, named := ["unicode.properties", "unicode.Letter", "unicode/utf8.first", "unicode/utf8.acceptRanges"], apart := false, laid := [("unicode/utf8.acceptRanges", laid_unicode_utf8_acceptRanges), ("unicode.properties", laid_unicode_properties), ("unicode.Letter", laid_unicode_Letter), ("unicode/utf8.first", laid_unicode_utf8_first)], narrowed := true }
def RobustRunsUptoSaid : Prop := robustRunsUptoRow.holds Tryd.pinned (OpenSpec.upto robustRunsSpec)

/-- 'tocsinlaw20.RobustAlone', WHERE WHAT IT READS IS OF BULK AT MOST 1048576: true; the input reads as it did. -/
def robustAloneUptoRow : OpenClaim := { program := "ytnnmakkbnfckmaadoor", sum := "3bf8a0cae21d84187110987494624852f2c819aff4325d5e7ee009cd916baf9e", func := "tocsin/tocsinlaw20.RobustAlone", spec := "robustAlone", unfollowed := true, recurses := true, named := ["unicode.properties", "unicode.Letter", "unicode/utf8.first", "unicode/utf8.acceptRanges"], apart := false, laid := [("unicode/utf8.acceptRanges", laid_unicode_utf8_acceptRanges), ("unicode.properties", laid_unicode_properties), ("unicode.Letter", laid_unicode_Letter), ("unicode/utf8.first", laid_unicode_utf8_first)], narrowed := true }
def RobustAloneUptoSaid : Prop := robustAloneUptoRow.holds Tryd.pinned (OpenSpec.upto robustAloneSpec)

/-- 'tocsinlaw20.RobustSheds', WHERE WHAT IT READS IS OF BULK AT MOST 1048576: true; the input reads as it did. -/
def robustShedsUptoRow : OpenClaim := { program := "ytnnmakkbnfckmaadoor", sum := "3bf8a0cae21d84187110987494624852f2c819aff4325d5e7ee009cd916baf9e", func := "tocsin/tocsinlaw20.RobustSheds", spec := "robustSheds", unfollowed := true, recurses := true, named := ["unicode.properties", "unicode.Letter", "unicode/utf8.first", "unicode/utf8.acceptRanges"], apart := false, laid := [("unicode/utf8.acceptRanges", laid_unicode_utf8_acceptRanges), ("unicode.properties", laid_unicode_properties), ("unicode.Letter", laid_unicode_Letter), ("unicode/utf8.first", laid_unicode_utf8_first)], narrowed := true }
def RobustShedsUptoSaid : Prop := robustShedsUptoRow.holds Tryd.pinned (OpenSpec.upto robustShedsSpec)

/-- 'tocsinlaw19.DoverRuns', WHERE WHAT IT READS IS OF BULK AT MOST 1048576: true; the input reads as it did. -/
def doverRunsUptoRow : OpenClaim := { program := "ytnnmakkbnfckmaadoor", sum := "3bf8a0cae21d84187110987494624852f2c819aff4325d5e7ee009cd916baf9e", func := "tocsin/tocsinlaw19.DoverRuns", spec := "doverRuns", unfollowed := true, recurses := true, named := ["unicode.properties", "unicode.Letter", "unicode/utf8.first", "unicode/utf8.acceptRanges"], apart := false, laid := [("unicode/utf8.acceptRanges", laid_unicode_utf8_acceptRanges), ("unicode.properties", laid_unicode_properties), ("unicode.Letter", laid_unicode_Letter), ("unicode/utf8.first", laid_unicode_utf8_first)], narrowed := true }
def DoverRunsUptoSaid : Prop := doverRunsUptoRow.holds Tryd.pinned (OpenSpec.upto doverRunsSpec)

end Rows
end Go.Proofs.YtnnmakkbnfckmaaDoor
