/-
  No cell of these rows narrows 'for every input' (looked for: loops, veiled, ifaces, maps, wideKeys, modest, calm, conditions, laid).
  DERIVED. THE GIVEN ROWS OF THIS SEAT. 11 by the template 'for every input the law returns true; each argument reads behind the call as it read before'; 0 by the template 'total and deterministic' (their statements: YtciohdgjlcaokaaTotals.lean).
  GIVEN WITH THE SEED: the statements are not yours to turn. If you find one false, say at which input.
  Laid BY PROGRAM, IN A SANDBOX (cutbox-rows.mjs): the forced cells as the released guide's own fill.sh prints them over the translation bf87b7d6ec3fbacc… (all of the seat's roots in one cut). By AI agents, Wed Nov 11 2026. No macro, syntax, notation, axiom, sorry.
-/
import Derived.Test.YtciohdgjlcaokaaChecked
import GoSem.Claim
import GoSem.ClaimJoined
import GoSem.ClaimMapViews
import Derived.JoinedTies
import Derived.KernelRfl
namespace Go.Proofs.Ytciohdgjlcaokaa
/- THE CELL 'sum', in the pinned program and in every row, IS THE sha256 OF THE DUMP (.gsa) THAT YtciohdgjlcaokaaProg.lean LOADS. Nothing in Lean hashes anything: it is a label: what it is worth is what the hold of that sum in a sandbox is worth. -/
noncomputable def Try.pinned : Pinned := { name := "ytciohdgjlcaokaa", sum := "bf87b7d6ec3fbacceda49135f12507dacdb5abf73e45824f3280333fefccd3cf", checked := Try.checked }
namespace Rows
def none {H : Type} : Left H := { results := [], args := [] }

/-- 'tontinelaw15.SessionOnce': WHATEVER THE INPUT: true; the input reads as it did. -/
def sessionOnceSpec : ChangeSpec := { name := "sessionOnce", fn := fun _ => fun
  | [d] => { results := [.lit (.bool true)], args := [d] }
  | _ => none }
def sessionOnceRow : OpenClaim := { program := "ytciohdgjlcaokaa", sum := "bf87b7d6ec3fbacceda49135f12507dacdb5abf73e45824f3280333fefccd3cf", func := "tontine/tontinelaw15.SessionOnce", spec := "sessionOnce", plainKeys := false, apart := false }
def SessionOnceSaid : Prop := sessionOnceRow.holds Try.pinned (OpenSpec.ofChange sessionOnceSpec)

/-- ITS FALSE NEIGHBOUR: 'it returns false'. Refute it at one input. -/
def sessionOnceWrong : ChangeSpec := { name := "sessionOnce", fn := fun _ => fun
  | [d] => { results := [.lit (.bool false)], args := [d] }
  | _ => none }
def SessionOnceWrongFalsely : Prop := sessionOnceRow.holds Try.pinned (OpenSpec.ofChange sessionOnceWrong)

/-- 'tontinelaw11.LetterEncodes': WHATEVER THE INPUT: true; the input reads as it did. -/
def letterEncodesSpec : ChangeSpec := { name := "letterEncodes", fn := fun _ => fun
  | [d] => { results := [.lit (.bool true)], args := [d] }
  | _ => none }
def letterEncodesRow : OpenClaim := { program := "ytciohdgjlcaokaa", sum := "bf87b7d6ec3fbacceda49135f12507dacdb5abf73e45824f3280333fefccd3cf", func := "tontine/tontinelaw11.LetterEncodes", spec := "letterEncodes", plainKeys := false, apart := false }
def LetterEncodesSaid : Prop := letterEncodesRow.holds Try.pinned (OpenSpec.ofChange letterEncodesSpec)

/-- ITS FALSE NEIGHBOUR: 'it returns false'. Refute it at one input. -/
def letterEncodesWrong : ChangeSpec := { name := "letterEncodes", fn := fun _ => fun
  | [d] => { results := [.lit (.bool false)], args := [d] }
  | _ => none }
def LetterEncodesWrongFalsely : Prop := letterEncodesRow.holds Try.pinned (OpenSpec.ofChange letterEncodesWrong)

/-- 'tontinelaw15.SessionLives': WHATEVER THE INPUT: true; the input reads as it did. -/
def sessionLivesSpec : ChangeSpec := { name := "sessionLives", fn := fun _ => fun
  | [d] => { results := [.lit (.bool true)], args := [d] }
  | _ => none }
def sessionLivesRow : OpenClaim := { program := "ytciohdgjlcaokaa", sum := "bf87b7d6ec3fbacceda49135f12507dacdb5abf73e45824f3280333fefccd3cf", func := "tontine/tontinelaw15.SessionLives", spec := "sessionLives", plainKeys := false, apart := false }
def SessionLivesSaid : Prop := sessionLivesRow.holds Try.pinned (OpenSpec.ofChange sessionLivesSpec)

/-- ITS FALSE NEIGHBOUR: 'it returns false'. Refute it at one input. -/
def sessionLivesWrong : ChangeSpec := { name := "sessionLives", fn := fun _ => fun
  | [d] => { results := [.lit (.bool false)], args := [d] }
  | _ => none }
def SessionLivesWrongFalsely : Prop := sessionLivesRow.holds Try.pinned (OpenSpec.ofChange sessionLivesWrong)

/-- 'tontinelaw15.SessionNone': WHATEVER THE INPUT: true; the input reads as it did. -/
def sessionNoneSpec : ChangeSpec := { name := "sessionNone", fn := fun _ => fun
  | [d1, d2, d3] => { results := [.lit (.bool true)], args := [d1, d2, d3] }
  | _ => none }
def sessionNoneRow : OpenClaim := { program := "ytciohdgjlcaokaa", sum := "bf87b7d6ec3fbacceda49135f12507dacdb5abf73e45824f3280333fefccd3cf", func := "tontine/tontinelaw15.SessionNone", spec := "sessionNone", plainKeys := false, apart := false }
def SessionNoneSaid : Prop := sessionNoneRow.holds Try.pinned (OpenSpec.ofChange sessionNoneSpec)

/-- ITS FALSE NEIGHBOUR: 'it returns false'. Refute it at one input. -/
def sessionNoneWrong : ChangeSpec := { name := "sessionNone", fn := fun _ => fun
  | [d1, d2, d3] => { results := [.lit (.bool false)], args := [d1, d2, d3] }
  | _ => none }
def SessionNoneWrongFalsely : Prop := sessionNoneRow.holds Try.pinned (OpenSpec.ofChange sessionNoneWrong)

/-- 'tontinelaw15.SessionRuns': WHATEVER THE INPUT: true; the input reads as it did. -/
def sessionRunsSpec : ChangeSpec := { name := "sessionRuns", fn := fun _ => fun
  | [d] => { results := [.lit (.bool true)], args := [d] }
  | _ => none }
def sessionRunsRow : OpenClaim := { program := "ytciohdgjlcaokaa", sum := "bf87b7d6ec3fbacceda49135f12507dacdb5abf73e45824f3280333fefccd3cf", func := "tontine/tontinelaw15.SessionRuns", spec := "sessionRuns", plainKeys := false, apart := false }
def SessionRunsSaid : Prop := sessionRunsRow.holds Try.pinned (OpenSpec.ofChange sessionRunsSpec)

/-- ITS FALSE NEIGHBOUR: 'it returns false'. Refute it at one input. -/
def sessionRunsWrong : ChangeSpec := { name := "sessionRuns", fn := fun _ => fun
  | [d] => { results := [.lit (.bool false)], args := [d] }
  | _ => none }
def SessionRunsWrongFalsely : Prop := sessionRunsRow.holds Try.pinned (OpenSpec.ofChange sessionRunsWrong)

/-- 'tontinelaw11.LetterDecodes': WHATEVER THE INPUT: true; the input reads as it did. -/
def letterDecodesSpec : ChangeSpec := { name := "letterDecodes", fn := fun _ => fun
  | [d] => { results := [.lit (.bool true)], args := [d] }
  | _ => none }
def letterDecodesRow : OpenClaim := { program := "ytciohdgjlcaokaa", sum := "bf87b7d6ec3fbacceda49135f12507dacdb5abf73e45824f3280333fefccd3cf", func := "tontine/tontinelaw11.LetterDecodes", spec := "letterDecodes", plainKeys := false, apart := false }
def LetterDecodesSaid : Prop := letterDecodesRow.holds Try.pinned (OpenSpec.ofChange letterDecodesSpec)

/-- ITS FALSE NEIGHBOUR: 'it returns false'. Refute it at one input. -/
def letterDecodesWrong : ChangeSpec := { name := "letterDecodes", fn := fun _ => fun
  | [d] => { results := [.lit (.bool false)], args := [d] }
  | _ => none }
def LetterDecodesWrongFalsely : Prop := letterDecodesRow.holds Try.pinned (OpenSpec.ofChange letterDecodesWrong)

/-- 'tontinelaw11.LetterBack': WHATEVER THE INPUT: true; the input reads as it did. -/
def letterBackSpec : ChangeSpec := { name := "letterBack", fn := fun _ => fun
  | [d] => { results := [.lit (.bool true)], args := [d] }
  | _ => none }
def letterBackRow : OpenClaim := { program := "ytciohdgjlcaokaa", sum := "bf87b7d6ec3fbacceda49135f12507dacdb5abf73e45824f3280333fefccd3cf", func := "tontine/tontinelaw11.LetterBack", spec := "letterBack", plainKeys := false, apart := false }
def LetterBackSaid : Prop := letterBackRow.holds Try.pinned (OpenSpec.ofChange letterBackSpec)

/-- ITS FALSE NEIGHBOUR: 'it returns false'. Refute it at one input. -/
def letterBackWrong : ChangeSpec := { name := "letterBack", fn := fun _ => fun
  | [d] => { results := [.lit (.bool false)], args := [d] }
  | _ => none }
def LetterBackWrongFalsely : Prop := letterBackRow.holds Try.pinned (OpenSpec.ofChange letterBackWrong)

/-- 'tontinelaw11.LetterOne': WHATEVER THE INPUT: true; the input reads as it did. -/
def letterOneSpec : ChangeSpec := { name := "letterOne", fn := fun _ => fun
  | [d] => { results := [.lit (.bool true)], args := [d] }
  | _ => none }
def letterOneRow : OpenClaim := { program := "ytciohdgjlcaokaa", sum := "bf87b7d6ec3fbacceda49135f12507dacdb5abf73e45824f3280333fefccd3cf", func := "tontine/tontinelaw11.LetterOne", spec := "letterOne", plainKeys := false, apart := false }
def LetterOneSaid : Prop := letterOneRow.holds Try.pinned (OpenSpec.ofChange letterOneSpec)

/-- ITS FALSE NEIGHBOUR: 'it returns false'. Refute it at one input. -/
def letterOneWrong : ChangeSpec := { name := "letterOne", fn := fun _ => fun
  | [d] => { results := [.lit (.bool false)], args := [d] }
  | _ => none }
def LetterOneWrongFalsely : Prop := letterOneRow.holds Try.pinned (OpenSpec.ofChange letterOneWrong)

/-- 'tontinelaw11.LetterSpoilt': WHATEVER THE INPUT: true; the input reads as it did. -/
def letterSpoiltSpec : ChangeSpec := { name := "letterSpoilt", fn := fun _ => fun
  | [d1, d2, d3] => { results := [.lit (.bool true)], args := [d1, d2, d3] }
  | _ => none }
def letterSpoiltRow : OpenClaim := { program := "ytciohdgjlcaokaa", sum := "bf87b7d6ec3fbacceda49135f12507dacdb5abf73e45824f3280333fefccd3cf", func := "tontine/tontinelaw11.LetterSpoilt", spec := "letterSpoilt", plainKeys := false, apart := false }
def LetterSpoiltSaid : Prop := letterSpoiltRow.holds Try.pinned (OpenSpec.ofChange letterSpoiltSpec)

/-- ITS FALSE NEIGHBOUR: 'it returns false'. Refute it at one input. -/
def letterSpoiltWrong : ChangeSpec := { name := "letterSpoilt", fn := fun _ => fun
  | [d1, d2, d3] => { results := [.lit (.bool false)], args := [d1, d2, d3] }
  | _ => none }
def LetterSpoiltWrongFalsely : Prop := letterSpoiltRow.holds Try.pinned (OpenSpec.ofChange letterSpoiltWrong)

/-- 'tontinelaw15.SessionReads': WHATEVER THE INPUT: true; the input reads as it did. -/
def sessionReadsSpec : ChangeSpec := { name := "sessionReads", fn := fun _ => fun
  | [d1, d2] => { results := [.lit (.bool true)], args := [d1, d2] }
  | _ => none }
def sessionReadsRow : OpenClaim := { program := "ytciohdgjlcaokaa", sum := "bf87b7d6ec3fbacceda49135f12507dacdb5abf73e45824f3280333fefccd3cf", func := "tontine/tontinelaw15.SessionReads", spec := "sessionReads", plainKeys := false, apart := false }
def SessionReadsSaid : Prop := sessionReadsRow.holds Try.pinned (OpenSpec.ofChange sessionReadsSpec)

/-- ITS FALSE NEIGHBOUR: 'it returns false'. Refute it at one input. -/
def sessionReadsWrong : ChangeSpec := { name := "sessionReads", fn := fun _ => fun
  | [d1, d2] => { results := [.lit (.bool false)], args := [d1, d2] }
  | _ => none }
def SessionReadsWrongFalsely : Prop := sessionReadsRow.holds Try.pinned (OpenSpec.ofChange sessionReadsWrong)

/-- 'tontinelaw15.SessionSaves': WHATEVER THE INPUT: true; the input reads as it did. -/
def sessionSavesSpec : ChangeSpec := { name := "sessionSaves", fn := fun _ => fun
  | [d] => { results := [.lit (.bool true)], args := [d] }
  | _ => none }
def sessionSavesRow : OpenClaim := { program := "ytciohdgjlcaokaa", sum := "bf87b7d6ec3fbacceda49135f12507dacdb5abf73e45824f3280333fefccd3cf", func := "tontine/tontinelaw15.SessionSaves", spec := "sessionSaves", plainKeys := false, apart := false }
def SessionSavesSaid : Prop := sessionSavesRow.holds Try.pinned (OpenSpec.ofChange sessionSavesSpec)

/-- ITS FALSE NEIGHBOUR: 'it returns false'. Refute it at one input. -/
def sessionSavesWrong : ChangeSpec := { name := "sessionSaves", fn := fun _ => fun
  | [d] => { results := [.lit (.bool false)], args := [d] }
  | _ => none }
def SessionSavesWrongFalsely : Prop := sessionSavesRow.holds Try.pinned (OpenSpec.ofChange sessionSavesWrong)

/- THE SECOND FORM. 'bulk': how many values and letters a reading holds, each counted each time it is reached (what is shared counts as often as it is met; a slice's spare places count too). A statement '..UptoSaid' is the law's where the arguments, and the package variables that the reading takes, are together of bulk at most 1048576: NARROWER than '..Said'. Prove '..Said' where nothing that the law and all that it calls make is longer than what came in: it says more and counts as full. Else prove '..UptoSaid'. A law counts once. -/
mutual
def uptoBulk {H : Type} : DataW H → Nat
  | .lit (.string bytes) => bytes.length + 1
  | .lit _ => 1
  | .nil => 1
  | .ptr d => uptoBulk d + 1
  | .slice elems spare => uptoBulkAll elems + uptoBulkAll spare + 1
  | .agg parts => uptoBulkAll parts + 1
  | .iface _ d => uptoBulk d + 1
  | .map entries => uptoBulkEntries entries + 1
  | .held _ => 1
def uptoBulkAll {H : Type} : List (DataW H) → Nat
  | [] => 0
  | d :: r => uptoBulk d + uptoBulkAll r
def uptoBulkEntries {H : Type} : List (Lit × DataW H) → Nat
  | [] => 0
  | x :: r => uptoBulkEntry x + uptoBulkEntries r
def uptoBulkEntry {H : Type} : Lit × DataW H → Nat
  | (.string bytes, d) => bytes.length + uptoBulk d + 1
  | (_, d) => uptoBulk d + 1
 end
def uptoSmall : (H : Type) → List (DataW H) → Bool := fun _ ds => decide (uptoBulkAll ds ≤ 1048576)
def OpenSpec.upto (s : _root_.Go.ChangeSpec) : _root_.Go.OpenSpec := { _root_.Go.OpenSpec.ofChange s with cond := some uptoSmall }

/-- 'tontinelaw15.SessionOnce', WHERE WHAT IT READS IS OF BULK AT MOST 1048576: true; the input reads as it did. -/
def sessionOnceUptoRow : OpenClaim := { program := "ytciohdgjlcaokaa", sum := "bf87b7d6ec3fbacceda49135f12507dacdb5abf73e45824f3280333fefccd3cf", func := "tontine/tontinelaw15.SessionOnce", spec := "sessionOnce", plainKeys := false, apart := false, narrowed := true }
def SessionOnceUptoSaid : Prop := sessionOnceUptoRow.holds Try.pinned (OpenSpec.upto sessionOnceSpec)

/-- 'tontinelaw11.LetterEncodes', WHERE WHAT IT READS IS OF BULK AT MOST 1048576: true; the input reads as it did. -/
def letterEncodesUptoRow : OpenClaim := { program := "ytciohdgjlcaokaa", sum := "bf87b7d6ec3fbacceda49135f12507dacdb5abf73e45824f3280333fefccd3cf", func := "tontine/tontinelaw11.LetterEncodes", spec := "letterEncodes", plainKeys := false, apart := false, narrowed := true }
def LetterEncodesUptoSaid : Prop := letterEncodesUptoRow.holds Try.pinned (OpenSpec.upto letterEncodesSpec)

/-- 'tontinelaw15.SessionLives', WHERE WHAT IT READS IS OF BULK AT MOST 1048576: true; the input reads as it did. -/
def sessionLivesUptoRow : OpenClaim := { program := "ytciohdgjlcaokaa", sum := "bf87b7d6ec3fbacceda49135f12507dacdb5abf73e45824f3280333fefccd3cf", func := "tontine/tontinelaw15.SessionLives", spec := "sessionLives", plainKeys := false, apart := false, narrowed := true }
def SessionLivesUptoSaid : Prop := sessionLivesUptoRow.holds Try.pinned (OpenSpec.upto sessionLivesSpec)

/-- 'tontinelaw15.SessionNone', WHERE WHAT IT READS IS OF BULK AT MOST 1048576: true; the input reads as it did. -/
def sessionNoneUptoRow : OpenClaim := { program := "ytciohdgjlcaokaa", sum := "bf87b7d6ec3fbacceda49135f12507dacdb5abf73e45824f3280333fefccd3cf", func := "tontine/tontinelaw15.SessionNone", spec := "sessionNone", plainKeys := false, apart := false, narrowed := true }
def SessionNoneUptoSaid : Prop := sessionNoneUptoRow.holds Try.pinned (OpenSpec.upto sessionNoneSpec)

/-- 'tontinelaw15.SessionRuns', WHERE WHAT IT READS IS OF BULK AT MOST 1048576: true; the input reads as it did. -/
def sessionRunsUptoRow : OpenClaim := { program := "ytciohdgjlcaokaa", sum := "bf87b7d6ec3fbacceda49135f12507dacdb5abf73e45824f3280333fefccd3cf", func := "tontine/tontinelaw15.SessionRuns", spec := "sessionRuns", plainKeys := false, apart := false, narrowed := true }
def SessionRunsUptoSaid : Prop := sessionRunsUptoRow.holds Try.pinned (OpenSpec.upto sessionRunsSpec)

/-- 'tontinelaw11.LetterDecodes', WHERE WHAT IT READS IS OF BULK AT MOST 1048576: true; the input reads as it did. -/
def letterDecodesUptoRow : OpenClaim := { program := "ytciohdgjlcaokaa", sum := "bf87b7d6ec3fbacceda49135f12507dacdb5abf73e45824f3280333fefccd3cf", func := "tontine/tontinelaw11.LetterDecodes", spec := "letterDecodes", plainKeys := false, apart := false, narrowed := true }
def LetterDecodesUptoSaid : Prop := letterDecodesUptoRow.holds Try.pinned (OpenSpec.upto letterDecodesSpec)

/-- 'tontinelaw11.LetterBack', WHERE WHAT IT READS IS OF BULK AT MOST 1048576: true; the input reads as it did. -/
def letterBackUptoRow : OpenClaim := { program := "ytciohdgjlcaokaa", sum := "bf87b7d6ec3fbacceda49135f12507dacdb5abf73e45824f3280333fefccd3cf", func := "tontine/tontinelaw11.LetterBack", spec := "letterBack", plainKeys := false, apart := false, narrowed := true }
def LetterBackUptoSaid : Prop := letterBackUptoRow.holds Try.pinned (OpenSpec.upto letterBackSpec)

/-- 'tontinelaw11.LetterOne', WHERE WHAT IT READS IS OF BULK AT MOST 1048576: true; the input reads as it did. -/
def letterOneUptoRow : OpenClaim := { program := "ytciohdgjlcaokaa", sum := "bf87b7d6ec3fbacceda49135f12507dacdb5abf73e45824f3280333fefccd3cf", func := "tontine/tontinelaw11.LetterOne", spec := "letterOne", plainKeys := false, apart := false, narrowed := true }
def LetterOneUptoSaid : Prop := letterOneUptoRow.holds Try.pinned (OpenSpec.upto letterOneSpec)

/-- 'tontinelaw11.LetterSpoilt', WHERE WHAT IT READS IS OF BULK AT MOST 1048576: true; the input reads as it did. -/
def letterSpoiltUptoRow : OpenClaim := { program := "ytciohdgjlcaokaa", sum := "bf87b7d6ec3fbacceda49135f12507dacdb5abf73e45824f3280333fefccd3cf", func := "tontine/tontinelaw11.LetterSpoilt", spec := "letterSpoilt", plainKeys := false, apart := false, narrowed := true }
def LetterSpoiltUptoSaid : Prop := letterSpoiltUptoRow.holds Try.pinned (OpenSpec.upto letterSpoiltSpec)

/-- 'tontinelaw15.SessionReads', WHERE WHAT IT READS IS OF BULK AT MOST 1048576: true; the input reads as it did. -/
def sessionReadsUptoRow : OpenClaim := { program := "ytciohdgjlcaokaa", sum := "bf87b7d6ec3fbacceda49135f12507dacdb5abf73e45824f3280333fefccd3cf", func := "tontine/tontinelaw15.SessionReads", spec := "sessionReads", plainKeys := false, apart := false, narrowed := true }
def SessionReadsUptoSaid : Prop := sessionReadsUptoRow.holds Try.pinned (OpenSpec.upto sessionReadsSpec)

/-- 'tontinelaw15.SessionSaves', WHERE WHAT IT READS IS OF BULK AT MOST 1048576: true; the input reads as it did. -/
def sessionSavesUptoRow : OpenClaim := { program := "ytciohdgjlcaokaa", sum := "bf87b7d6ec3fbacceda49135f12507dacdb5abf73e45824f3280333fefccd3cf", func := "tontine/tontinelaw15.SessionSaves", spec := "sessionSaves", plainKeys := false, apart := false, narrowed := true }
def SessionSavesUptoSaid : Prop := sessionSavesUptoRow.holds Try.pinned (OpenSpec.upto sessionSavesSpec)

end Rows
end Go.Proofs.Ytciohdgjlcaokaa
