/-
  No cell of these rows narrows 'for every input' (looked for: loops, veiled, ifaces, maps, wideKeys, modest, calm, conditions, laid).
  DERIVED. THE GIVEN ROWS OF THIS SEAT. 11 by the template 'for every input the law returns true; each argument reads behind the call as it read before'; 0 by the template 'total and deterministic' (their statements: YtolipnnfdclkoaaTotals.lean).
  GIVEN WITH THE SEED: the statements are not yours to turn. If you find one false, say at which input.
  Laid BY PROGRAM, IN A SANDBOX (cutbox-rows.mjs): the forced cells as the released guide's own fill.sh prints them over the translation 6fe090b03e167450… (all of the seat's roots in one cut). By AI agents, Wed Nov 11 2026. No macro, syntax, notation, axiom, sorry.
-/
import Derived.Test.YtolipnnfdclkoaaChecked
import GoSem.Claim
import GoSem.ClaimJoined
import GoSem.ClaimMapViews
import Derived.JoinedTies
import Derived.KernelRfl
namespace Go.Proofs.Ytolipnnfdclkoaa
/- THE CELL 'sum', in the pinned program and in every row, IS THE sha256 OF THE DUMP (.gsa) THAT YtolipnnfdclkoaaProg.lean LOADS. Nothing in Lean hashes anything: it is a label: what it is worth is what the hold of that sum in a sandbox is worth. -/
noncomputable def Try.pinned : Pinned := { name := "ytolipnnfdclkoaa", sum := "6fe090b03e167450bf0a06c7b2fe69560938e88a4c84d9d6f20bea6a0a8308b7", checked := Try.checked }
namespace Rows
def none {H : Type} : Left H := { results := [], args := [] }

/-- 'tontinelaw07.RlogMerges': WHATEVER THE INPUT: true; the input reads as it did. -/
def rlogMergesSpec : ChangeSpec := { name := "rlogMerges", fn := fun _ => fun
  | [d1, d2, d3] => { results := [.lit (.bool true)], args := [d1, d2, d3] }
  | _ => none }
def rlogMergesRow : OpenClaim := { program := "ytolipnnfdclkoaa", sum := "6fe090b03e167450bf0a06c7b2fe69560938e88a4c84d9d6f20bea6a0a8308b7", func := "tontine/tontinelaw07.RlogMerges", spec := "rlogMerges", plainKeys := false, apart := false }
def RlogMergesSaid : Prop := rlogMergesRow.holds Try.pinned (OpenSpec.ofChange rlogMergesSpec)

/-- ITS FALSE NEIGHBOUR: 'it returns false'. Refute it at one input. -/
def rlogMergesWrong : ChangeSpec := { name := "rlogMerges", fn := fun _ => fun
  | [d1, d2, d3] => { results := [.lit (.bool false)], args := [d1, d2, d3] }
  | _ => none }
def RlogMergesWrongFalsely : Prop := rlogMergesRow.holds Try.pinned (OpenSpec.ofChange rlogMergesWrong)

/-- 'tontinelaw07.RlogMatches': WHATEVER THE INPUT: true; the input reads as it did. -/
def rlogMatchesSpec : ChangeSpec := { name := "rlogMatches", fn := fun _ => fun
  | [d] => { results := [.lit (.bool true)], args := [d] }
  | _ => none }
def rlogMatchesRow : OpenClaim := { program := "ytolipnnfdclkoaa", sum := "6fe090b03e167450bf0a06c7b2fe69560938e88a4c84d9d6f20bea6a0a8308b7", func := "tontine/tontinelaw07.RlogMatches", spec := "rlogMatches", plainKeys := false, apart := false }
def RlogMatchesSaid : Prop := rlogMatchesRow.holds Try.pinned (OpenSpec.ofChange rlogMatchesSpec)

/-- ITS FALSE NEIGHBOUR: 'it returns false'. Refute it at one input. -/
def rlogMatchesWrong : ChangeSpec := { name := "rlogMatches", fn := fun _ => fun
  | [d] => { results := [.lit (.bool false)], args := [d] }
  | _ => none }
def RlogMatchesWrongFalsely : Prop := rlogMatchesRow.holds Try.pinned (OpenSpec.ofChange rlogMatchesWrong)

/-- 'tontinelaw07.RlogCompacts': WHATEVER THE INPUT: true; the input reads as it did. -/
def rlogCompactsSpec : ChangeSpec := { name := "rlogCompacts", fn := fun _ => fun
  | [d1, d2, d3] => { results := [.lit (.bool true)], args := [d1, d2, d3] }
  | _ => none }
def rlogCompactsRow : OpenClaim := { program := "ytolipnnfdclkoaa", sum := "6fe090b03e167450bf0a06c7b2fe69560938e88a4c84d9d6f20bea6a0a8308b7", func := "tontine/tontinelaw07.RlogCompacts", spec := "rlogCompacts", plainKeys := false, apart := false }
def RlogCompactsSaid : Prop := rlogCompactsRow.holds Try.pinned (OpenSpec.ofChange rlogCompactsSpec)

/-- ITS FALSE NEIGHBOUR: 'it returns false'. Refute it at one input. -/
def rlogCompactsWrong : ChangeSpec := { name := "rlogCompacts", fn := fun _ => fun
  | [d1, d2, d3] => { results := [.lit (.bool false)], args := [d1, d2, d3] }
  | _ => none }
def RlogCompactsWrongFalsely : Prop := rlogCompactsRow.holds Try.pinned (OpenSpec.ofChange rlogCompactsWrong)

/-- 'tontinelaw07.RlogRuns': WHATEVER THE INPUT: true; the input reads as it did. -/
def rlogRunsSpec : ChangeSpec := { name := "rlogRuns", fn := fun _ => fun
  | [d1, d2, d3] => { results := [.lit (.bool true)], args := [d1, d2, d3] }
  | _ => none }
def rlogRunsRow : OpenClaim := { program := "ytolipnnfdclkoaa", sum := "6fe090b03e167450bf0a06c7b2fe69560938e88a4c84d9d6f20bea6a0a8308b7", func := "tontine/tontinelaw07.RlogRuns", spec := "rlogRuns", plainKeys := false, apart := false }
def RlogRunsSaid : Prop := rlogRunsRow.holds Try.pinned (OpenSpec.ofChange rlogRunsSpec)

/-- ITS FALSE NEIGHBOUR: 'it returns false'. Refute it at one input. -/
def rlogRunsWrong : ChangeSpec := { name := "rlogRuns", fn := fun _ => fun
  | [d1, d2, d3] => { results := [.lit (.bool false)], args := [d1, d2, d3] }
  | _ => none }
def RlogRunsWrongFalsely : Prop := rlogRunsRow.holds Try.pinned (OpenSpec.ofChange rlogRunsWrong)

/-- 'tontinelaw07.RlogStays': WHATEVER THE INPUT: true; the input reads as it did. -/
def rlogStaysSpec : ChangeSpec := { name := "rlogStays", fn := fun _ => fun
  | [d1, d2, d3] => { results := [.lit (.bool true)], args := [d1, d2, d3] }
  | _ => none }
def rlogStaysRow : OpenClaim := { program := "ytolipnnfdclkoaa", sum := "6fe090b03e167450bf0a06c7b2fe69560938e88a4c84d9d6f20bea6a0a8308b7", func := "tontine/tontinelaw07.RlogStays", spec := "rlogStays", plainKeys := false, apart := false }
def RlogStaysSaid : Prop := rlogStaysRow.holds Try.pinned (OpenSpec.ofChange rlogStaysSpec)

/-- ITS FALSE NEIGHBOUR: 'it returns false'. Refute it at one input. -/
def rlogStaysWrong : ChangeSpec := { name := "rlogStays", fn := fun _ => fun
  | [d1, d2, d3] => { results := [.lit (.bool false)], args := [d1, d2, d3] }
  | _ => none }
def RlogStaysWrongFalsely : Prop := rlogStaysRow.holds Try.pinned (OpenSpec.ofChange rlogStaysWrong)

/-- 'tontinelaw21.ClientAsks': WHATEVER THE INPUT: true; the input reads as it did. -/
def clientAsksSpec : ChangeSpec := { name := "clientAsks", fn := fun _ => fun
  | [d1, d2] => { results := [.lit (.bool true)], args := [d1, d2] }
  | _ => none }
def clientAsksRow : OpenClaim := { program := "ytolipnnfdclkoaa", sum := "6fe090b03e167450bf0a06c7b2fe69560938e88a4c84d9d6f20bea6a0a8308b7", func := "tontine/tontinelaw21.ClientAsks", spec := "clientAsks", plainKeys := false, apart := false }
def ClientAsksSaid : Prop := clientAsksRow.holds Try.pinned (OpenSpec.ofChange clientAsksSpec)

/-- ITS FALSE NEIGHBOUR: 'it returns false'. Refute it at one input. -/
def clientAsksWrong : ChangeSpec := { name := "clientAsks", fn := fun _ => fun
  | [d1, d2] => { results := [.lit (.bool false)], args := [d1, d2] }
  | _ => none }
def ClientAsksWrongFalsely : Prop := clientAsksRow.holds Try.pinned (OpenSpec.ofChange clientAsksWrong)

/-- 'tontinelaw21.ClientGives': WHATEVER THE INPUT: true; the input reads as it did. -/
def clientGivesSpec : ChangeSpec := { name := "clientGives", fn := fun _ => fun
  | [d1, d2, d3] => { results := [.lit (.bool true)], args := [d1, d2, d3] }
  | _ => none }
def clientGivesRow : OpenClaim := { program := "ytolipnnfdclkoaa", sum := "6fe090b03e167450bf0a06c7b2fe69560938e88a4c84d9d6f20bea6a0a8308b7", func := "tontine/tontinelaw21.ClientGives", spec := "clientGives", unfollowed := true, recurses := true, plainKeys := false, apart := false }
def ClientGivesSaid : Prop := clientGivesRow.holds Try.pinned (OpenSpec.ofChange clientGivesSpec)

/-- ITS FALSE NEIGHBOUR: 'it returns false'. Refute it at one input. -/
def clientGivesWrong : ChangeSpec := { name := "clientGives", fn := fun _ => fun
  | [d1, d2, d3] => { results := [.lit (.bool false)], args := [d1, d2, d3] }
  | _ => none }
def ClientGivesWrongFalsely : Prop := clientGivesRow.holds Try.pinned (OpenSpec.ofChange clientGivesWrong)

/-- 'tontinelaw07.RlogNone': WHATEVER THE INPUT: true; the input reads as it did. -/
def rlogNoneSpec : ChangeSpec := { name := "rlogNone", fn := fun _ => fun
  | [d1, d2, d3] => { results := [.lit (.bool true)], args := [d1, d2, d3] }
  | _ => none }
def rlogNoneRow : OpenClaim := { program := "ytolipnnfdclkoaa", sum := "6fe090b03e167450bf0a06c7b2fe69560938e88a4c84d9d6f20bea6a0a8308b7", func := "tontine/tontinelaw07.RlogNone", spec := "rlogNone", plainKeys := false, apart := false }
def RlogNoneSaid : Prop := rlogNoneRow.holds Try.pinned (OpenSpec.ofChange rlogNoneSpec)

/-- ITS FALSE NEIGHBOUR: 'it returns false'. Refute it at one input. -/
def rlogNoneWrong : ChangeSpec := { name := "rlogNone", fn := fun _ => fun
  | [d1, d2, d3] => { results := [.lit (.bool false)], args := [d1, d2, d3] }
  | _ => none }
def RlogNoneWrongFalsely : Prop := rlogNoneRow.holds Try.pinned (OpenSpec.ofChange rlogNoneWrong)

/-- 'tontinelaw21.ClientRuns': WHATEVER THE INPUT: true; the input reads as it did. -/
def clientRunsSpec : ChangeSpec := { name := "clientRuns", fn := fun _ => fun
  | [d1, d2] => { results := [.lit (.bool true)], args := [d1, d2] }
  | _ => none }
def clientRunsRow : OpenClaim := { program := "ytolipnnfdclkoaa", sum := "6fe090b03e167450bf0a06c7b2fe69560938e88a4c84d9d6f20bea6a0a8308b7", func := "tontine/tontinelaw21.ClientRuns", spec := "clientRuns", plainKeys := false, apart := false }
def ClientRunsSaid : Prop := clientRunsRow.holds Try.pinned (OpenSpec.ofChange clientRunsSpec)

/-- ITS FALSE NEIGHBOUR: 'it returns false'. Refute it at one input. -/
def clientRunsWrong : ChangeSpec := { name := "clientRuns", fn := fun _ => fun
  | [d1, d2] => { results := [.lit (.bool false)], args := [d1, d2] }
  | _ => none }
def ClientRunsWrongFalsely : Prop := clientRunsRow.holds Try.pinned (OpenSpec.ofChange clientRunsWrong)

/-- 'tontinelaw21.ClientNumbers': WHATEVER THE INPUT: true; the input reads as it did. -/
def clientNumbersSpec : ChangeSpec := { name := "clientNumbers", fn := fun _ => fun
  | [d] => { results := [.lit (.bool true)], args := [d] }
  | _ => none }
def clientNumbersRow : OpenClaim := { program := "ytolipnnfdclkoaa", sum := "6fe090b03e167450bf0a06c7b2fe69560938e88a4c84d9d6f20bea6a0a8308b7", func := "tontine/tontinelaw21.ClientNumbers", spec := "clientNumbers", plainKeys := false, apart := false }
def ClientNumbersSaid : Prop := clientNumbersRow.holds Try.pinned (OpenSpec.ofChange clientNumbersSpec)

/-- ITS FALSE NEIGHBOUR: 'it returns false'. Refute it at one input. -/
def clientNumbersWrong : ChangeSpec := { name := "clientNumbers", fn := fun _ => fun
  | [d] => { results := [.lit (.bool false)], args := [d] }
  | _ => none }
def ClientNumbersWrongFalsely : Prop := clientNumbersRow.holds Try.pinned (OpenSpec.ofChange clientNumbersWrong)

/-- 'tontinelaw21.ClientNone': WHATEVER THE INPUT: true; the input reads as it did. -/
def clientNoneSpec : ChangeSpec := { name := "clientNone", fn := fun _ => fun
  | [d1, d2] => { results := [.lit (.bool true)], args := [d1, d2] }
  | _ => none }
def clientNoneRow : OpenClaim := { program := "ytolipnnfdclkoaa", sum := "6fe090b03e167450bf0a06c7b2fe69560938e88a4c84d9d6f20bea6a0a8308b7", func := "tontine/tontinelaw21.ClientNone", spec := "clientNone", plainKeys := false, apart := false }
def ClientNoneSaid : Prop := clientNoneRow.holds Try.pinned (OpenSpec.ofChange clientNoneSpec)

/-- ITS FALSE NEIGHBOUR: 'it returns false'. Refute it at one input. -/
def clientNoneWrong : ChangeSpec := { name := "clientNone", fn := fun _ => fun
  | [d1, d2] => { results := [.lit (.bool false)], args := [d1, d2] }
  | _ => none }
def ClientNoneWrongFalsely : Prop := clientNoneRow.holds Try.pinned (OpenSpec.ofChange clientNoneWrong)

/- THE SECOND FORM. 'bulk': how many values and letters a reading holds, each counted each time it is reached (what is shared counts as often as it is met; a slice's spare places count too). A statement '..UptoSaid' is the law's where the arguments, and the package variables that the reading takes, are together of bulk at most 1048576: NARROWER than '..Said'. Prove '..Said' where nothing that the law and all that it calls make is longer than what came in: it says more and counts as full. Else prove '..UptoSaid'. A law counts once. -/
mutual
def uptoBulk {H : Type} : DataW H → Nat
  | .lit (.string bytes) => bytes.length + 1
  | .lit _ => 1
  | .nil => 1
  | .ptr d => uptoBulk d + 1
  | .slice elems spare => uptoBulkAll elems + uptoBulkAll spare + 1
  | .agg parts => uptoBulkAll parts + 1
  | .iface _ d => uptoBulk d + 1
  | .map entries => uptoBulkEntries entries + 1
  | .held _ => 1
def uptoBulkAll {H : Type} : List (DataW H) → Nat
  | [] => 0
  | d :: r => uptoBulk d + uptoBulkAll r
def uptoBulkEntries {H : Type} : List (Lit × DataW H) → Nat
  | [] => 0
  | x :: r => uptoBulkEntry x + uptoBulkEntries r
def uptoBulkEntry {H : Type} : Lit × DataW H → Nat
  | (.string bytes, d) => bytes.length + uptoBulk d + 1
  | (_, d) => uptoBulk d + 1
 end
def uptoSmall : (H : Type) → List (DataW H) → Bool := fun _ ds => decide (uptoBulkAll ds ≤ 1048576)
def OpenSpec.upto (s : _root_.Go.ChangeSpec) : _root_.Go.OpenSpec := { _root_.Go.OpenSpec.ofChange s with cond := some uptoSmall }

/-- 'tontinelaw07.RlogMerges', WHERE WHAT IT READS IS OF BULK AT MOST 1048576: true; the input reads as it did. -/
def rlogMergesUptoRow : OpenClaim := { program := "ytolipnnfdclkoaa", sum := "6fe090b03e167450bf0a06c7b2fe69560938e88a4c84d9d6f20bea6a0a8308b7", func := "tontine/tontinelaw07.RlogMerges", spec := "rlogMerges", plainKeys := false, apart := false, narrowed := true }
def RlogMergesUptoSaid : Prop := rlogMergesUptoRow.holds Try.pinned (OpenSpec.upto rlogMergesSpec)

/-- 'tontinelaw07.RlogMatches', WHERE WHAT IT READS IS OF BULK AT MOST 1048576: true; the input reads as it did. -/
def rlogMatchesUptoRow : OpenClaim := { program := "ytolipnnfdclkoaa", sum := "6fe090b03e167450bf0a06c7b2fe69560938e88a4c84d9d6f20bea6a0a8308b7", func := "tontine/tontinelaw07.RlogMatches", spec := "rlogMatches", plainKeys := false, apart := false, narrowed := true }
def RlogMatchesUptoSaid : Prop := rlogMatchesUptoRow.holds Try.pinned (OpenSpec.upto rlogMatchesSpec)

/-- 'tontinelaw07.RlogCompacts', WHERE WHAT IT READS IS OF BULK AT MOST 1048576: true; the input reads as it did. -/
def rlogCompactsUptoRow : OpenClaim := { program := "ytolipnnfdclkoaa", sum := "6fe090b03e167450bf0a06c7b2fe69560938e88a4c84d9d6f20bea6a0a8308b7", func := "tontine/tontinelaw07.RlogCompacts", spec := "rlogCompacts", plainKeys := false, apart := false, narrowed := true }
def RlogCompactsUptoSaid : Prop := rlogCompactsUptoRow.holds Try.pinned (OpenSpec.upto rlogCompactsSpec)

/-- 'tontinelaw07.RlogRuns', WHERE WHAT IT READS IS OF BULK AT MOST 1048576: true; the input reads as it did. -/
def rlogRunsUptoRow : OpenClaim := { program := "ytolipnnfdclkoaa", sum := "6fe090b03e167450bf0a06c7b2fe69560938e88a4c84d9d6f20bea6a0a8308b7", func := "tontine/tontinelaw07.RlogRuns", spec := "rlogRuns", plainKeys := false, apart := false, narrowed := true }
def RlogRunsUptoSaid : Prop := rlogRunsUptoRow.holds Try.pinned (OpenSpec.upto rlogRunsSpec)

/-- 'tontinelaw07.RlogStays', WHERE WHAT IT READS IS OF BULK AT MOST 1048576: true; the input reads as it did. -/
def rlogStaysUptoRow : OpenClaim := { program := "ytolipnnfdclkoaa", sum := "6fe090b03e167450bf0a06c7b2fe69560938e88a4c84d9d6f20bea6a0a8308b7", func := "tontine/tontinelaw07.RlogStays", spec := "rlogStays", plainKeys := false, apart := false, narrowed := true }
def RlogStaysUptoSaid : Prop := rlogStaysUptoRow.holds Try.pinned (OpenSpec.upto rlogStaysSpec)

/-- 'tontinelaw21.ClientAsks', WHERE WHAT IT READS IS OF BULK AT MOST 1048576: true; the input reads as it did. -/
def clientAsksUptoRow : OpenClaim := { program := "ytolipnnfdclkoaa", sum := "6fe090b03e167450bf0a06c7b2fe69560938e88a4c84d9d6f20bea6a0a8308b7", func := "tontine/tontinelaw21.ClientAsks", spec := "clientAsks", plainKeys := false, apart := false, narrowed := true }
def ClientAsksUptoSaid : Prop := clientAsksUptoRow.holds Try.pinned (OpenSpec.upto clientAsksSpec)

/-- 'tontinelaw21.ClientGives', WHERE WHAT IT READS IS OF BULK AT MOST 1048576: true; the input reads as it did. -/
def clientGivesUptoRow : OpenClaim := { program := "ytolipnnfdclkoaa", sum := "6fe090b03e167450bf0a06c7b2fe69560938e88a4c84d9d6f20bea6a0a8308b7", func := "tontine/tontinelaw21.ClientGives", spec := "clientGives", unfollowed := true, recurses := true, plainKeys := false, apart := false, narrowed := true }
def ClientGivesUptoSaid : Prop := clientGivesUptoRow.holds Try.pinned (OpenSpec.upto clientGivesSpec)

/-- 'tontinelaw07.RlogNone', WHERE WHAT IT READS IS OF BULK AT MOST 1048576: true; the input reads as it did. -/
def rlogNoneUptoRow : OpenClaim := { program := "ytolipnnfdclkoaa", sum := "6fe090b03e167450bf0a06c7b2fe69560938e88a4c84d9d6f20bea6a0a8308b7", func := "tontine/tontinelaw07.RlogNone", spec := "rlogNone", plainKeys := false, apart := false, narrowed := true }
def RlogNoneUptoSaid : Prop := rlogNoneUptoRow.holds Try.pinned (OpenSpec.upto rlogNoneSpec)

/-- 'tontinelaw21.ClientRuns', WHERE WHAT IT READS IS OF BULK AT MOST 1048576: true; the input reads as it did. -/
def clientRunsUptoRow : OpenClaim := { program := "ytolipnnfdclkoaa", sum := "6fe090b03e167450bf0a06c7b2fe69560938e88a4c84d9d6f20bea6a0a8308b7", func := "tontine/tontinelaw21.ClientRuns", spec := "clientRuns", plainKeys := false, apart := false, narrowed := true }
def ClientRunsUptoSaid : Prop := clientRunsUptoRow.holds Try.pinned (OpenSpec.upto clientRunsSpec)

/-- 'tontinelaw21.ClientNumbers', WHERE WHAT IT READS IS OF BULK AT MOST 1048576: true; the input reads as it did. -/
def clientNumbersUptoRow : OpenClaim := { program := "ytolipnnfdclkoaa", sum := "6fe090b03e167450bf0a06c7b2fe69560938e88a4c84d9d6f20bea6a0a8308b7", func := "tontine/tontinelaw21.ClientNumbers", spec := "clientNumbers", plainKeys := false, apart := false, narrowed := true }
def ClientNumbersUptoSaid : Prop := clientNumbersUptoRow.holds Try.pinned (OpenSpec.upto clientNumbersSpec)

/-- 'tontinelaw21.ClientNone', WHERE WHAT IT READS IS OF BULK AT MOST 1048576: true; the input reads as it did. -/
def clientNoneUptoRow : OpenClaim := { program := "ytolipnnfdclkoaa", sum := "6fe090b03e167450bf0a06c7b2fe69560938e88a4c84d9d6f20bea6a0a8308b7", func := "tontine/tontinelaw21.ClientNone", spec := "clientNone", plainKeys := false, apart := false, narrowed := true }
def ClientNoneUptoSaid : Prop := clientNoneUptoRow.holds Try.pinned (OpenSpec.upto clientNoneSpec)

end Rows
end Go.Proofs.Ytolipnnfdclkoaa
