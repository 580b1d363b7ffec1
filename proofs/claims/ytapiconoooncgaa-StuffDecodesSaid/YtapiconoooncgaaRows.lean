/-
  No cell of these rows narrows 'for every input' (looked for: loops, veiled, ifaces, maps, wideKeys, modest, calm, conditions, laid).
  DERIVED. THE GIVEN ROWS OF THIS SEAT. 12 by the template 'for every input the law returns true; each argument reads behind the call as it read before'; 0 by the template 'total and deterministic' (their statements: YtapiconoooncgaaTotals.lean).
  GIVEN WITH THE SEED: the statements are not yours to turn. If you find one false, say at which input.
  Laid BY PROGRAM, IN A SANDBOX (cutbox-rows.mjs): the forced cells as the released guide's own fill.sh prints them over the translation 63709cd407593964… (all of the seat's roots in one cut). By AI agents, Wed Nov 11 2026. No macro, syntax, notation, axiom, sorry.
-/
import Derived.Test.YtapiconoooncgaaChecked
import GoSem.Claim
import GoSem.ClaimJoined
import GoSem.ClaimMapViews
import Derived.JoinedTies
import Derived.KernelRfl
namespace Go.Proofs.Ytapiconoooncgaa
/- THE CELL 'sum', in the pinned program and in every row, IS THE sha256 OF THE DUMP (.gsa) THAT YtapiconoooncgaaProg.lean LOADS. Nothing in Lean hashes anything: it is a label: what it is worth is what the hold of that sum in a sandbox is worth. -/
noncomputable def Try.pinned : Pinned := { name := "ytapiconoooncgaa", sum := "63709cd407593964420ab722b63cbf4c7a5e772839443935ebd92eb06cf94314", checked := Try.checked }
namespace Rows
def none {H : Type} : Left H := { results := [], args := [] }

/-- 'tontinelaw02.CrcSums': WHATEVER THE INPUT: true; the input reads as it did. -/
def crcSumsSpec : ChangeSpec := { name := "crcSums", fn := fun _ => fun
  | [d1, d2] => { results := [.lit (.bool true)], args := [d1, d2] }
  | _ => none }
def crcSumsRow : OpenClaim := { program := "ytapiconoooncgaa", sum := "63709cd407593964420ab722b63cbf4c7a5e772839443935ebd92eb06cf94314", func := "tontine/tontinelaw02.CrcSums", spec := "crcSums", apart := false }
def CrcSumsSaid : Prop := crcSumsRow.holds Try.pinned (OpenSpec.ofChange crcSumsSpec)

/-- ITS FALSE NEIGHBOUR: 'it returns false'. Refute it at one input. -/
def crcSumsWrong : ChangeSpec := { name := "crcSums", fn := fun _ => fun
  | [d1, d2] => { results := [.lit (.bool false)], args := [d1, d2] }
  | _ => none }
def CrcSumsWrongFalsely : Prop := crcSumsRow.holds Try.pinned (OpenSpec.ofChange crcSumsWrong)

/-- 'tontinelaw02.CrcBursts': WHATEVER THE INPUT: true; the input reads as it did. -/
def crcBurstsSpec : ChangeSpec := { name := "crcBursts", fn := fun _ => fun
  | [d1, d2, d3] => { results := [.lit (.bool true)], args := [d1, d2, d3] }
  | _ => none }
def crcBurstsRow : OpenClaim := { program := "ytapiconoooncgaa", sum := "63709cd407593964420ab722b63cbf4c7a5e772839443935ebd92eb06cf94314", func := "tontine/tontinelaw02.CrcBursts", spec := "crcBursts", apart := false }
def CrcBurstsSaid : Prop := crcBurstsRow.holds Try.pinned (OpenSpec.ofChange crcBurstsSpec)

/-- ITS FALSE NEIGHBOUR: 'it returns false'. Refute it at one input. -/
def crcBurstsWrong : ChangeSpec := { name := "crcBursts", fn := fun _ => fun
  | [d1, d2, d3] => { results := [.lit (.bool false)], args := [d1, d2, d3] }
  | _ => none }
def CrcBurstsWrongFalsely : Prop := crcBurstsRow.holds Try.pinned (OpenSpec.ofChange crcBurstsWrong)

/-- 'tontinelaw02.CrcThree': WHATEVER THE INPUT: true; the input reads as it did. -/
def crcThreeSpec : ChangeSpec := { name := "crcThree", fn := fun _ => fun
  | [d1, d2, d3] => { results := [.lit (.bool true)], args := [d1, d2, d3] }
  | _ => none }
def crcThreeRow : OpenClaim := { program := "ytapiconoooncgaa", sum := "63709cd407593964420ab722b63cbf4c7a5e772839443935ebd92eb06cf94314", func := "tontine/tontinelaw02.CrcThree", spec := "crcThree", apart := false }
def CrcThreeSaid : Prop := crcThreeRow.holds Try.pinned (OpenSpec.ofChange crcThreeSpec)

/-- ITS FALSE NEIGHBOUR: 'it returns false'. Refute it at one input. -/
def crcThreeWrong : ChangeSpec := { name := "crcThree", fn := fun _ => fun
  | [d1, d2, d3] => { results := [.lit (.bool false)], args := [d1, d2, d3] }
  | _ => none }
def CrcThreeWrongFalsely : Prop := crcThreeRow.holds Try.pinned (OpenSpec.ofChange crcThreeWrong)

/-- 'tontinelaw01.StuffEncodes': WHATEVER THE INPUT: true; the input reads as it did. -/
def stuffEncodesSpec : ChangeSpec := { name := "stuffEncodes", fn := fun _ => fun
  | [d] => { results := [.lit (.bool true)], args := [d] }
  | _ => none }
def stuffEncodesRow : OpenClaim := { program := "ytapiconoooncgaa", sum := "63709cd407593964420ab722b63cbf4c7a5e772839443935ebd92eb06cf94314", func := "tontine/tontinelaw01.StuffEncodes", spec := "stuffEncodes", apart := false }
def StuffEncodesSaid : Prop := stuffEncodesRow.holds Try.pinned (OpenSpec.ofChange stuffEncodesSpec)

/-- ITS FALSE NEIGHBOUR: 'it returns false'. Refute it at one input. -/
def stuffEncodesWrong : ChangeSpec := { name := "stuffEncodes", fn := fun _ => fun
  | [d] => { results := [.lit (.bool false)], args := [d] }
  | _ => none }
def StuffEncodesWrongFalsely : Prop := stuffEncodesRow.holds Try.pinned (OpenSpec.ofChange stuffEncodesWrong)

/-- 'tontinelaw01.StuffDecodes': WHATEVER THE INPUT: true; the input reads as it did. -/
def stuffDecodesSpec : ChangeSpec := { name := "stuffDecodes", fn := fun _ => fun
  | [d] => { results := [.lit (.bool true)], args := [d] }
  | _ => none }
def stuffDecodesRow : OpenClaim := { program := "ytapiconoooncgaa", sum := "63709cd407593964420ab722b63cbf4c7a5e772839443935ebd92eb06cf94314", func := "tontine/tontinelaw01.StuffDecodes", spec := "stuffDecodes", apart := false }
def StuffDecodesSaid : Prop := stuffDecodesRow.holds Try.pinned (OpenSpec.ofChange stuffDecodesSpec)

/-- ITS FALSE NEIGHBOUR: 'it returns false'. Refute it at one input. -/
def stuffDecodesWrong : ChangeSpec := { name := "stuffDecodes", fn := fun _ => fun
  | [d] => { results := [.lit (.bool false)], args := [d] }
  | _ => none }
def StuffDecodesWrongFalsely : Prop := stuffDecodesRow.holds Try.pinned (OpenSpec.ofChange stuffDecodesWrong)

/-- 'tontinelaw01.StuffBack': WHATEVER THE INPUT: true; the input reads as it did. -/
def stuffBackSpec : ChangeSpec := { name := "stuffBack", fn := fun _ => fun
  | [d] => { results := [.lit (.bool true)], args := [d] }
  | _ => none }
def stuffBackRow : OpenClaim := { program := "ytapiconoooncgaa", sum := "63709cd407593964420ab722b63cbf4c7a5e772839443935ebd92eb06cf94314", func := "tontine/tontinelaw01.StuffBack", spec := "stuffBack", apart := false }
def StuffBackSaid : Prop := stuffBackRow.holds Try.pinned (OpenSpec.ofChange stuffBackSpec)

/-- ITS FALSE NEIGHBOUR: 'it returns false'. Refute it at one input. -/
def stuffBackWrong : ChangeSpec := { name := "stuffBack", fn := fun _ => fun
  | [d] => { results := [.lit (.bool false)], args := [d] }
  | _ => none }
def StuffBackWrongFalsely : Prop := stuffBackRow.holds Try.pinned (OpenSpec.ofChange stuffBackWrong)

/-- 'tontinelaw01.StuffOne': WHATEVER THE INPUT: true; the input reads as it did. -/
def stuffOneSpec : ChangeSpec := { name := "stuffOne", fn := fun _ => fun
  | [d] => { results := [.lit (.bool true)], args := [d] }
  | _ => none }
def stuffOneRow : OpenClaim := { program := "ytapiconoooncgaa", sum := "63709cd407593964420ab722b63cbf4c7a5e772839443935ebd92eb06cf94314", func := "tontine/tontinelaw01.StuffOne", spec := "stuffOne", apart := false }
def StuffOneSaid : Prop := stuffOneRow.holds Try.pinned (OpenSpec.ofChange stuffOneSpec)

/-- ITS FALSE NEIGHBOUR: 'it returns false'. Refute it at one input. -/
def stuffOneWrong : ChangeSpec := { name := "stuffOne", fn := fun _ => fun
  | [d] => { results := [.lit (.bool false)], args := [d] }
  | _ => none }
def StuffOneWrongFalsely : Prop := stuffOneRow.holds Try.pinned (OpenSpec.ofChange stuffOneWrong)

/-- 'tontinelaw01.StuffRuns': WHATEVER THE INPUT: true; the input reads as it did. -/
def stuffRunsSpec : ChangeSpec := { name := "stuffRuns", fn := fun _ => fun
  | [d1, d2, d3] => { results := [.lit (.bool true)], args := [d1, d2, d3] }
  | _ => none }
def stuffRunsRow : OpenClaim := { program := "ytapiconoooncgaa", sum := "63709cd407593964420ab722b63cbf4c7a5e772839443935ebd92eb06cf94314", func := "tontine/tontinelaw01.StuffRuns", spec := "stuffRuns", apart := false }
def StuffRunsSaid : Prop := stuffRunsRow.holds Try.pinned (OpenSpec.ofChange stuffRunsSpec)

/-- ITS FALSE NEIGHBOUR: 'it returns false'. Refute it at one input. -/
def stuffRunsWrong : ChangeSpec := { name := "stuffRuns", fn := fun _ => fun
  | [d1, d2, d3] => { results := [.lit (.bool false)], args := [d1, d2, d3] }
  | _ => none }
def StuffRunsWrongFalsely : Prop := stuffRunsRow.holds Try.pinned (OpenSpec.ofChange stuffRunsWrong)

/-- 'tontinelaw01.StuffJoins': WHATEVER THE INPUT: true; the input reads as it did. -/
def stuffJoinsSpec : ChangeSpec := { name := "stuffJoins", fn := fun _ => fun
  | [d1, d2] => { results := [.lit (.bool true)], args := [d1, d2] }
  | _ => none }
def stuffJoinsRow : OpenClaim := { program := "ytapiconoooncgaa", sum := "63709cd407593964420ab722b63cbf4c7a5e772839443935ebd92eb06cf94314", func := "tontine/tontinelaw01.StuffJoins", spec := "stuffJoins", apart := false }
def StuffJoinsSaid : Prop := stuffJoinsRow.holds Try.pinned (OpenSpec.ofChange stuffJoinsSpec)

/-- ITS FALSE NEIGHBOUR: 'it returns false'. Refute it at one input. -/
def stuffJoinsWrong : ChangeSpec := { name := "stuffJoins", fn := fun _ => fun
  | [d1, d2] => { results := [.lit (.bool false)], args := [d1, d2] }
  | _ => none }
def StuffJoinsWrongFalsely : Prop := stuffJoinsRow.holds Try.pinned (OpenSpec.ofChange stuffJoinsWrong)

/-- 'tontinelaw02.CrcJoins': WHATEVER THE INPUT: true; the input reads as it did. -/
def crcJoinsSpec : ChangeSpec := { name := "crcJoins", fn := fun _ => fun
  | [d1, d2, d3] => { results := [.lit (.bool true)], args := [d1, d2, d3] }
  | _ => none }
def crcJoinsRow : OpenClaim := { program := "ytapiconoooncgaa", sum := "63709cd407593964420ab722b63cbf4c7a5e772839443935ebd92eb06cf94314", func := "tontine/tontinelaw02.CrcJoins", spec := "crcJoins", apart := false }
def CrcJoinsSaid : Prop := crcJoinsRow.holds Try.pinned (OpenSpec.ofChange crcJoinsSpec)

/-- ITS FALSE NEIGHBOUR: 'it returns false'. Refute it at one input. -/
def crcJoinsWrong : ChangeSpec := { name := "crcJoins", fn := fun _ => fun
  | [d1, d2, d3] => { results := [.lit (.bool false)], args := [d1, d2, d3] }
  | _ => none }
def CrcJoinsWrongFalsely : Prop := crcJoinsRow.holds Try.pinned (OpenSpec.ofChange crcJoinsWrong)

/-- 'tontinelaw02.CrcParts': WHATEVER THE INPUT: true; the input reads as it did. -/
def crcPartsSpec : ChangeSpec := { name := "crcParts", fn := fun _ => fun
  | [d1, d2] => { results := [.lit (.bool true)], args := [d1, d2] }
  | _ => none }
def crcPartsRow : OpenClaim := { program := "ytapiconoooncgaa", sum := "63709cd407593964420ab722b63cbf4c7a5e772839443935ebd92eb06cf94314", func := "tontine/tontinelaw02.CrcParts", spec := "crcParts", apart := false }
def CrcPartsSaid : Prop := crcPartsRow.holds Try.pinned (OpenSpec.ofChange crcPartsSpec)

/-- ITS FALSE NEIGHBOUR: 'it returns false'. Refute it at one input. -/
def crcPartsWrong : ChangeSpec := { name := "crcParts", fn := fun _ => fun
  | [d1, d2] => { results := [.lit (.bool false)], args := [d1, d2] }
  | _ => none }
def CrcPartsWrongFalsely : Prop := crcPartsRow.holds Try.pinned (OpenSpec.ofChange crcPartsWrong)

/-- 'tontinelaw02.CrcMany': WHATEVER THE INPUT: true; the input reads as it did. -/
def crcManySpec : ChangeSpec := { name := "crcMany", fn := fun _ => fun
  | [d] => { results := [.lit (.bool true)], args := [d] }
  | _ => none }
def crcManyRow : OpenClaim := { program := "ytapiconoooncgaa", sum := "63709cd407593964420ab722b63cbf4c7a5e772839443935ebd92eb06cf94314", func := "tontine/tontinelaw02.CrcMany", spec := "crcMany", apart := false }
def CrcManySaid : Prop := crcManyRow.holds Try.pinned (OpenSpec.ofChange crcManySpec)

/-- ITS FALSE NEIGHBOUR: 'it returns false'. Refute it at one input. -/
def crcManyWrong : ChangeSpec := { name := "crcMany", fn := fun _ => fun
  | [d] => { results := [.lit (.bool false)], args := [d] }
  | _ => none }
def CrcManyWrongFalsely : Prop := crcManyRow.holds Try.pinned (OpenSpec.ofChange crcManyWrong)

/- THE SECOND FORM. 'bulk': how many values and letters a reading holds, each counted each time it is reached (what is shared counts as often as it is met; a slice's spare places count too). A statement '..UptoSaid' is the law's where the arguments, and the package variables that the reading takes, are together of bulk at most 1048576: NARROWER than '..Said'. Prove '..Said' where nothing that the law and all that it calls make is longer than what came in: it says more and counts as full. Else prove '..UptoSaid'. A law counts once. -/
mutual
def uptoBulk {H : Type} : DataW H → Nat
  | .lit (.string bytes) => bytes.length + 1
  | .lit _ => 1
  | .nil => 1
  | .ptr d => uptoBulk d + 1
  | .slice elems spare => uptoBulkAll elems + uptoBulkAll spare + 1
  | .agg parts => uptoBulkAll parts + 1
  | .iface _ d => uptoBulk d + 1
  | .map entries => uptoBulkEntries entries + 1
  | .held _ => 1
def uptoBulkAll {H : Type} : List (DataW H) → Nat
  | [] => 0
  | d :: r => uptoBulk d + uptoBulkAll r
def uptoBulkEntries {H : Type} : List (Lit × DataW H) → Nat
  | [] => 0
  | x :: r => uptoBulkEntry x + uptoBulkEntries r
def uptoBulkEntry {H : Type} : Lit × DataW H → Nat
  | (.string bytes, d) => bytes.length + uptoBulk d + 1
  | (_, d) => uptoBulk d + 1
 end
def uptoSmall : (H : Type) → List (DataW H) → Bool := fun _ ds => decide (uptoBulkAll ds ≤ 1048576)
def OpenSpec.upto (s : _root_.Go.ChangeSpec) : _root_.Go.OpenSpec := { _root_.Go.OpenSpec.ofChange s with cond := some uptoSmall }

/-- 'tontinelaw02.CrcSums', WHERE WHAT IT READS IS OF BULK AT MOST 1048576: true; the input reads as it did. -/
def crcSumsUptoRow : OpenClaim := { program := "ytapiconoooncgaa", sum := "63709cd407593964420ab722b63cbf4c7a5e772839443935ebd92eb06cf94314", func := "tontine/tontinelaw02.CrcSums", spec := "crcSums", apart := false, narrowed := true }
def CrcSumsUptoSaid : Prop := crcSumsUptoRow.holds Try.pinned (OpenSpec.upto crcSumsSpec)

/-- 'tontinelaw02.CrcBursts', WHERE WHAT IT READS IS OF BULK AT MOST 1048576: true; the input reads as it did. -/
def crcBurstsUptoRow : OpenClaim := { program := "ytapiconoooncgaa", sum := "63709cd407593964420ab722b63cbf4c7a5e772839443935ebd92eb06cf94314", func := "tontine/tontinelaw02.CrcBursts", spec := "crcBursts", apart := false, narrowed := true }
def CrcBurstsUptoSaid : Prop := crcBurstsUptoRow.holds Try.pinned (OpenSpec.upto crcBurstsSpec)

/-- 'tontinelaw02.CrcThree', WHERE WHAT IT READS IS OF BULK AT MOST 1048576: true; the input reads as it did. -/
def crcThreeUptoRow : OpenClaim := { program := "ytapiconoooncgaa", sum := "63709cd407593964420ab722b63cbf4c7a5e772839443935ebd92eb06cf94314", func := "tontine/tontinelaw02.CrcThree", spec := "crcThree", apart := false, narrowed := true }
def CrcThreeUptoSaid : Prop := crcThreeUptoRow.holds Try.pinned (OpenSpec.upto crcThreeSpec)

/-- 'tontinelaw01.StuffEncodes', WHERE WHAT IT READS IS OF BULK AT MOST 1048576: true; the input reads as it did. -/
def stuffEncodesUptoRow : OpenClaim := { program := "ytapiconoooncgaa", sum := "63709cd407593964420ab722b63cbf4c7a5e772839443935ebd92eb06cf94314", func := "tontine/tontinelaw01.StuffEncodes", spec := "stuffEncodes", apart := false, narrowed := true }
def StuffEncodesUptoSaid : Prop := stuffEncodesUptoRow.holds Try.pinned (OpenSpec.upto stuffEncodesSpec)

/-- 'tontinelaw01.StuffDecodes', WHERE WHAT IT READS IS OF BULK AT MOST 1048576: true; the input reads as it did. -/
def stuffDecodesUptoRow : OpenClaim := { program := "ytapiconoooncgaa", sum := "63709cd407593964420ab722b63cbf4c7a5e772839443935ebd92eb06cf94314", func := "tontine/tontinelaw01.StuffDecodes", spec := "stuffDecodes", apart := false, narrowed := true }
def StuffDecodesUptoSaid : Prop := stuffDecodesUptoRow.holds Try.pinned (OpenSpec.upto stuffDecodesSpec)

/-- 'tontinelaw01.StuffBack', WHERE WHAT IT READS IS OF BULK AT MOST 1048576: true; the input reads as it did. -/
def stuffBackUptoRow : OpenClaim := { program := "ytapiconoooncgaa", sum := "63709cd407593964420ab722b63cbf4c7a5e772839443935ebd92eb06cf94314", func := "tontine/tontinelaw01.StuffBack", spec := "stuffBack", apart := false, narrowed := true }
def StuffBackUptoSaid : Prop := stuffBackUptoRow.holds Try.pinned (OpenSpec.upto stuffBackSpec)

/-- 'tontinelaw01.StuffOne', WHERE WHAT IT READS IS OF BULK AT MOST 1048576: true; the input reads as it did. -/
def stuffOneUptoRow : OpenClaim := { program := "ytapiconoooncgaa", sum := "63709cd407593964420ab722b63cbf4c7a5e772839443935ebd92eb06cf94314", func := "tontine/tontinelaw01.StuffOne", spec := "stuffOne", apart := false, narrowed := true }
def StuffOneUptoSaid : Prop := stuffOneUptoRow.holds Try.pinned (OpenSpec.upto stuffOneSpec)

/-- 'tontinelaw01.StuffRuns', WHERE WHAT IT READS IS OF BULK AT MOST 1048576: true; the input reads as it did. -/
def stuffRunsUptoRow : OpenClaim := { program := "ytapiconoooncgaa", sum := "63709cd407593964420ab722b63cbf4c7a5e772839443935ebd92eb06cf94314", func := "tontine/tontinelaw01.StuffRuns", spec := "stuffRuns", apart := false, narrowed := true }
def StuffRunsUptoSaid : Prop := stuffRunsUptoRow.holds Try.pinned (OpenSpec.upto stuffRunsSpec)

/-- 'tontinelaw01.StuffJoins', WHERE WHAT IT READS IS OF BULK AT MOST 1048576: true; the input reads as it did. -/
def stuffJoinsUptoRow : OpenClaim := { program := "ytapiconoooncgaa", sum := "63709cd407593964420ab722b63cbf4c7a5e772839443935ebd92eb06cf94314", func := "tontine/tontinelaw01.StuffJoins", spec := "stuffJoins", apart := false, narrowed := true }
def StuffJoinsUptoSaid : Prop := stuffJoinsUptoRow.holds Try.pinned (OpenSpec.upto stuffJoinsSpec)

/-- 'tontinelaw02.CrcJoins', WHERE WHAT IT READS IS OF BULK AT MOST 1048576: true; the input reads as it did. -/
def crcJoinsUptoRow : OpenClaim := { program := "ytapiconoooncgaa", sum := "63709cd407593964420ab722b63cbf4c7a5e772839443935ebd92eb06cf94314", func := "tontine/tontinelaw02.CrcJoins", spec := "crcJoins", apart := false, narrowed := true }
def CrcJoinsUptoSaid : Prop := crcJoinsUptoRow.holds Try.pinned (OpenSpec.upto crcJoinsSpec)

/-- 'tontinelaw02.CrcParts', WHERE WHAT IT READS IS OF BULK AT MOST 1048576: true; the input reads as it did. -/
def crcPartsUptoRow : OpenClaim := { program := "ytapiconoooncgaa", sum := "63709cd407593964420ab722b63cbf4c7a5e772839443935ebd92eb06cf94314", func := "tontine/tontinelaw02.CrcParts", spec := "crcParts", apart := false, narrowed := true }
def CrcPartsUptoSaid : Prop := crcPartsUptoRow.holds Try.pinned (OpenSpec.upto crcPartsSpec)

/-- 'tontinelaw02.CrcMany', WHERE WHAT IT READS IS OF BULK AT MOST 1048576: true; the input reads as it did. -/
def crcManyUptoRow : OpenClaim := { program := "ytapiconoooncgaa", sum := "63709cd407593964420ab722b63cbf4c7a5e772839443935ebd92eb06cf94314", func := "tontine/tontinelaw02.CrcMany", spec := "crcMany", apart := false, narrowed := true }
def CrcManyUptoSaid : Prop := crcManyUptoRow.holds Try.pinned (OpenSpec.upto crcManySpec)

end Rows
end Go.Proofs.Ytapiconoooncgaa
