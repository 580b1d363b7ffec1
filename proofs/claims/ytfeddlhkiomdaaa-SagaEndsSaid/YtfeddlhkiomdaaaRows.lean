/-
  No cell of these rows narrows 'for every input' (looked for: loops, veiled, ifaces, maps, wideKeys, modest, calm, conditions, laid).
  DERIVED. THE GIVEN ROWS OF THIS SEAT. 12 by the template 'for every input the law returns true; each argument reads behind the call as it read before'; 0 by the template 'total and deterministic' (their statements: YtfeddlhkiomdaaaTotals.lean).
  GIVEN WITH THE SEED: the statements are not yours to turn. If you find one false, say at which input.
  Laid BY PROGRAM, IN A SANDBOX (cutbox-rows.mjs): the forced cells as the released guide's own fill.sh prints them over the translation d55e05ece24ea85d… (all of the seat's roots in one cut). By AI agents, Wed Nov 11 2026. No macro, syntax, notation, axiom, sorry.
-/
import Derived.Test.YtfeddlhkiomdaaaChecked
import GoSem.Claim
import GoSem.ClaimJoined
import GoSem.ClaimMapViews
import Derived.JoinedTies
import Derived.KernelRfl
namespace Go.Proofs.Ytfeddlhkiomdaaa
/- THE CELL 'sum', in the pinned program and in every row, IS THE sha256 OF THE DUMP (.gsa) THAT YtfeddlhkiomdaaaProg.lean LOADS. Nothing in Lean hashes anything: it is a label: what it is worth is what the hold of that sum in a sandbox is worth. -/
noncomputable def Try.pinned : Pinned := { name := "ytfeddlhkiomdaaa", sum := "d55e05ece24ea85d67438258c531cdc1de402a9c74720817d92be8385693ac49", checked := Try.checked }
namespace Rows
def none {H : Type} : Left H := { results := [], args := [] }

/-- 'tontinelaw16.CommandEncodes': WHATEVER THE INPUT: true; the input reads as it did. -/
def commandEncodesSpec : ChangeSpec := { name := "commandEncodes", fn := fun _ => fun
  | [d] => { results := [.lit (.bool true)], args := [d] }
  | _ => none }
def commandEncodesRow : OpenClaim := { program := "ytfeddlhkiomdaaa", sum := "d55e05ece24ea85d67438258c531cdc1de402a9c74720817d92be8385693ac49", func := "tontine/tontinelaw16.CommandEncodes", spec := "commandEncodes", apart := false }
def CommandEncodesSaid : Prop := commandEncodesRow.holds Try.pinned (OpenSpec.ofChange commandEncodesSpec)

/-- ITS FALSE NEIGHBOUR: 'it returns false'. Refute it at one input. -/
def commandEncodesWrong : ChangeSpec := { name := "commandEncodes", fn := fun _ => fun
  | [d] => { results := [.lit (.bool false)], args := [d] }
  | _ => none }
def CommandEncodesWrongFalsely : Prop := commandEncodesRow.holds Try.pinned (OpenSpec.ofChange commandEncodesWrong)

/-- 'tontinelaw14.SagaSteps': WHATEVER THE INPUT: true; the input reads as it did. -/
def sagaStepsSpec : ChangeSpec := { name := "sagaSteps", fn := fun _ => fun
  | [d1, d2] => { results := [.lit (.bool true)], args := [d1, d2] }
  | _ => none }
def sagaStepsRow : OpenClaim := { program := "ytfeddlhkiomdaaa", sum := "d55e05ece24ea85d67438258c531cdc1de402a9c74720817d92be8385693ac49", func := "tontine/tontinelaw14.SagaSteps", spec := "sagaSteps", apart := false }
def SagaStepsSaid : Prop := sagaStepsRow.holds Try.pinned (OpenSpec.ofChange sagaStepsSpec)

/-- ITS FALSE NEIGHBOUR: 'it returns false'. Refute it at one input. -/
def sagaStepsWrong : ChangeSpec := { name := "sagaSteps", fn := fun _ => fun
  | [d1, d2] => { results := [.lit (.bool false)], args := [d1, d2] }
  | _ => none }
def SagaStepsWrongFalsely : Prop := sagaStepsRow.holds Try.pinned (OpenSpec.ofChange sagaStepsWrong)

/-- 'tontinelaw14.SagaOrder': WHATEVER THE INPUT: true; the input reads as it did. -/
def sagaOrderSpec : ChangeSpec := { name := "sagaOrder", fn := fun _ => fun
  | [d1, d2] => { results := [.lit (.bool true)], args := [d1, d2] }
  | _ => none }
def sagaOrderRow : OpenClaim := { program := "ytfeddlhkiomdaaa", sum := "d55e05ece24ea85d67438258c531cdc1de402a9c74720817d92be8385693ac49", func := "tontine/tontinelaw14.SagaOrder", spec := "sagaOrder", apart := false }
def SagaOrderSaid : Prop := sagaOrderRow.holds Try.pinned (OpenSpec.ofChange sagaOrderSpec)

/-- ITS FALSE NEIGHBOUR: 'it returns false'. Refute it at one input. -/
def sagaOrderWrong : ChangeSpec := { name := "sagaOrder", fn := fun _ => fun
  | [d1, d2] => { results := [.lit (.bool false)], args := [d1, d2] }
  | _ => none }
def SagaOrderWrongFalsely : Prop := sagaOrderRow.holds Try.pinned (OpenSpec.ofChange sagaOrderWrong)

/-- 'tontinelaw14.SagaEnds': WHATEVER THE INPUT: true; the input reads as it did. -/
def sagaEndsSpec : ChangeSpec := { name := "sagaEnds", fn := fun _ => fun
  | [d1, d2, d3] => { results := [.lit (.bool true)], args := [d1, d2, d3] }
  | _ => none }
def sagaEndsRow : OpenClaim := { program := "ytfeddlhkiomdaaa", sum := "d55e05ece24ea85d67438258c531cdc1de402a9c74720817d92be8385693ac49", func := "tontine/tontinelaw14.SagaEnds", spec := "sagaEnds", apart := false }
def SagaEndsSaid : Prop := sagaEndsRow.holds Try.pinned (OpenSpec.ofChange sagaEndsSpec)

/-- ITS FALSE NEIGHBOUR: 'it returns false'. Refute it at one input. -/
def sagaEndsWrong : ChangeSpec := { name := "sagaEnds", fn := fun _ => fun
  | [d1, d2, d3] => { results := [.lit (.bool false)], args := [d1, d2, d3] }
  | _ => none }
def SagaEndsWrongFalsely : Prop := sagaEndsRow.holds Try.pinned (OpenSpec.ofChange sagaEndsWrong)

/-- 'tontinelaw14.SagaTwice': WHATEVER THE INPUT: true; the input reads as it did. -/
def sagaTwiceSpec : ChangeSpec := { name := "sagaTwice", fn := fun _ => fun
  | [d1, d2] => { results := [.lit (.bool true)], args := [d1, d2] }
  | _ => none }
def sagaTwiceRow : OpenClaim := { program := "ytfeddlhkiomdaaa", sum := "d55e05ece24ea85d67438258c531cdc1de402a9c74720817d92be8385693ac49", func := "tontine/tontinelaw14.SagaTwice", spec := "sagaTwice", apart := false }
def SagaTwiceSaid : Prop := sagaTwiceRow.holds Try.pinned (OpenSpec.ofChange sagaTwiceSpec)

/-- ITS FALSE NEIGHBOUR: 'it returns false'. Refute it at one input. -/
def sagaTwiceWrong : ChangeSpec := { name := "sagaTwice", fn := fun _ => fun
  | [d1, d2] => { results := [.lit (.bool false)], args := [d1, d2] }
  | _ => none }
def SagaTwiceWrongFalsely : Prop := sagaTwiceRow.holds Try.pinned (OpenSpec.ofChange sagaTwiceWrong)

/-- 'tontinelaw14.SagaBudgets': WHATEVER THE INPUT: true; the input reads as it did. -/
def sagaBudgetsSpec : ChangeSpec := { name := "sagaBudgets", fn := fun _ => fun
  | [d1, d2, d3] => { results := [.lit (.bool true)], args := [d1, d2, d3] }
  | _ => none }
def sagaBudgetsRow : OpenClaim := { program := "ytfeddlhkiomdaaa", sum := "d55e05ece24ea85d67438258c531cdc1de402a9c74720817d92be8385693ac49", func := "tontine/tontinelaw14.SagaBudgets", spec := "sagaBudgets", apart := false }
def SagaBudgetsSaid : Prop := sagaBudgetsRow.holds Try.pinned (OpenSpec.ofChange sagaBudgetsSpec)

/-- ITS FALSE NEIGHBOUR: 'it returns false'. Refute it at one input. -/
def sagaBudgetsWrong : ChangeSpec := { name := "sagaBudgets", fn := fun _ => fun
  | [d1, d2, d3] => { results := [.lit (.bool false)], args := [d1, d2, d3] }
  | _ => none }
def SagaBudgetsWrongFalsely : Prop := sagaBudgetsRow.holds Try.pinned (OpenSpec.ofChange sagaBudgetsWrong)

/-- 'tontinelaw16.CommandReplies': WHATEVER THE INPUT: true; the input reads as it did. -/
def commandRepliesSpec : ChangeSpec := { name := "commandReplies", fn := fun _ => fun
  | [d1, d2] => { results := [.lit (.bool true)], args := [d1, d2] }
  | _ => none }
def commandRepliesRow : OpenClaim := { program := "ytfeddlhkiomdaaa", sum := "d55e05ece24ea85d67438258c531cdc1de402a9c74720817d92be8385693ac49", func := "tontine/tontinelaw16.CommandReplies", spec := "commandReplies", apart := false }
def CommandRepliesSaid : Prop := commandRepliesRow.holds Try.pinned (OpenSpec.ofChange commandRepliesSpec)

/-- ITS FALSE NEIGHBOUR: 'it returns false'. Refute it at one input. -/
def commandRepliesWrong : ChangeSpec := { name := "commandReplies", fn := fun _ => fun
  | [d1, d2] => { results := [.lit (.bool false)], args := [d1, d2] }
  | _ => none }
def CommandRepliesWrongFalsely : Prop := commandRepliesRow.holds Try.pinned (OpenSpec.ofChange commandRepliesWrong)

/-- 'tontinelaw16.CommandDecodes': WHATEVER THE INPUT: true; the input reads as it did. -/
def commandDecodesSpec : ChangeSpec := { name := "commandDecodes", fn := fun _ => fun
  | [d] => { results := [.lit (.bool true)], args := [d] }
  | _ => none }
def commandDecodesRow : OpenClaim := { program := "ytfeddlhkiomdaaa", sum := "d55e05ece24ea85d67438258c531cdc1de402a9c74720817d92be8385693ac49", func := "tontine/tontinelaw16.CommandDecodes", spec := "commandDecodes", apart := false }
def CommandDecodesSaid : Prop := commandDecodesRow.holds Try.pinned (OpenSpec.ofChange commandDecodesSpec)

/-- ITS FALSE NEIGHBOUR: 'it returns false'. Refute it at one input. -/
def commandDecodesWrong : ChangeSpec := { name := "commandDecodes", fn := fun _ => fun
  | [d] => { results := [.lit (.bool false)], args := [d] }
  | _ => none }
def CommandDecodesWrongFalsely : Prop := commandDecodesRow.holds Try.pinned (OpenSpec.ofChange commandDecodesWrong)

/-- 'tontinelaw16.CommandBack': WHATEVER THE INPUT: true; the input reads as it did. -/
def commandBackSpec : ChangeSpec := { name := "commandBack", fn := fun _ => fun
  | [d] => { results := [.lit (.bool true)], args := [d] }
  | _ => none }
def commandBackRow : OpenClaim := { program := "ytfeddlhkiomdaaa", sum := "d55e05ece24ea85d67438258c531cdc1de402a9c74720817d92be8385693ac49", func := "tontine/tontinelaw16.CommandBack", spec := "commandBack", apart := false }
def CommandBackSaid : Prop := commandBackRow.holds Try.pinned (OpenSpec.ofChange commandBackSpec)

/-- ITS FALSE NEIGHBOUR: 'it returns false'. Refute it at one input. -/
def commandBackWrong : ChangeSpec := { name := "commandBack", fn := fun _ => fun
  | [d] => { results := [.lit (.bool false)], args := [d] }
  | _ => none }
def CommandBackWrongFalsely : Prop := commandBackRow.holds Try.pinned (OpenSpec.ofChange commandBackWrong)

/-- 'tontinelaw16.CommandOne': WHATEVER THE INPUT: true; the input reads as it did. -/
def commandOneSpec : ChangeSpec := { name := "commandOne", fn := fun _ => fun
  | [d] => { results := [.lit (.bool true)], args := [d] }
  | _ => none }
def commandOneRow : OpenClaim := { program := "ytfeddlhkiomdaaa", sum := "d55e05ece24ea85d67438258c531cdc1de402a9c74720817d92be8385693ac49", func := "tontine/tontinelaw16.CommandOne", spec := "commandOne", apart := false }
def CommandOneSaid : Prop := commandOneRow.holds Try.pinned (OpenSpec.ofChange commandOneSpec)

/-- ITS FALSE NEIGHBOUR: 'it returns false'. Refute it at one input. -/
def commandOneWrong : ChangeSpec := { name := "commandOne", fn := fun _ => fun
  | [d] => { results := [.lit (.bool false)], args := [d] }
  | _ => none }
def CommandOneWrongFalsely : Prop := commandOneRow.holds Try.pinned (OpenSpec.ofChange commandOneWrong)

/-- 'tontinelaw16.CommandTimes': WHATEVER THE INPUT: true; the input reads as it did. -/
def commandTimesSpec : ChangeSpec := { name := "commandTimes", fn := fun _ => fun
  | [d1, d2] => { results := [.lit (.bool true)], args := [d1, d2] }
  | _ => none }
def commandTimesRow : OpenClaim := { program := "ytfeddlhkiomdaaa", sum := "d55e05ece24ea85d67438258c531cdc1de402a9c74720817d92be8385693ac49", func := "tontine/tontinelaw16.CommandTimes", spec := "commandTimes", apart := false }
def CommandTimesSaid : Prop := commandTimesRow.holds Try.pinned (OpenSpec.ofChange commandTimesSpec)

/-- ITS FALSE NEIGHBOUR: 'it returns false'. Refute it at one input. -/
def commandTimesWrong : ChangeSpec := { name := "commandTimes", fn := fun _ => fun
  | [d1, d2] => { results := [.lit (.bool false)], args := [d1, d2] }
  | _ => none }
def CommandTimesWrongFalsely : Prop := commandTimesRow.holds Try.pinned (OpenSpec.ofChange commandTimesWrong)

/-- 'tontinelaw14.SagaBytes': WHATEVER THE INPUT: true; the input reads as it did. -/
def sagaBytesSpec : ChangeSpec := { name := "sagaBytes", fn := fun _ => fun
  | [d1, d2] => { results := [.lit (.bool true)], args := [d1, d2] }
  | _ => none }
def sagaBytesRow : OpenClaim := { program := "ytfeddlhkiomdaaa", sum := "d55e05ece24ea85d67438258c531cdc1de402a9c74720817d92be8385693ac49", func := "tontine/tontinelaw14.SagaBytes", spec := "sagaBytes", apart := false }
def SagaBytesSaid : Prop := sagaBytesRow.holds Try.pinned (OpenSpec.ofChange sagaBytesSpec)

/-- ITS FALSE NEIGHBOUR: 'it returns false'. Refute it at one input. -/
def sagaBytesWrong : ChangeSpec := { name := "sagaBytes", fn := fun _ => fun
  | [d1, d2] => { results := [.lit (.bool false)], args := [d1, d2] }
  | _ => none }
def SagaBytesWrongFalsely : Prop := sagaBytesRow.holds Try.pinned (OpenSpec.ofChange sagaBytesWrong)

/- THE SECOND FORM. 'bulk': how many values and letters a reading holds, each counted each time it is reached (what is shared counts as often as it is met; a slice's spare places count too). A statement '..UptoSaid' is the law's where the arguments, and the package variables that the reading takes, are together of bulk at most 1048576: NARROWER than '..Said'. Prove '..Said' where nothing that the law and all that it calls make is longer than what came in: it says more and counts as full. Else prove '..UptoSaid'. A law counts once. -/
mutual
def uptoBulk {H : Type} : DataW H → Nat
  | .lit (.string bytes) => bytes.length + 1
  | .lit _ => 1
  | .nil => 1
  | .ptr d => uptoBulk d + 1
  | .slice elems spare => uptoBulkAll elems + uptoBulkAll spare + 1
  | .agg parts => uptoBulkAll parts + 1
  | .iface _ d => uptoBulk d + 1
  | .map entries => uptoBulkEntries entries + 1
  | .held _ => 1
def uptoBulkAll {H : Type} : List (DataW H) → Nat
  | [] => 0
  | d :: r => uptoBulk d + uptoBulkAll r
def uptoBulkEntries {H : Type} : List (Lit × DataW H) → Nat
  | [] => 0
  | x :: r => uptoBulkEntry x + uptoBulkEntries r
def uptoBulkEntry {H : Type} : Lit × DataW H → Nat
  | (.string bytes, d) => bytes.length + uptoBulk d + 1
  | (_, d) => uptoBulk d + 1
 end
def uptoSmall : (H : Type) → List (DataW H) → Bool := fun _ ds => decide (uptoBulkAll ds ≤ 1048576)
def OpenSpec.upto (s : _root_.Go.ChangeSpec) : _root_.Go.OpenSpec := { _root_.Go.OpenSpec.ofChange s with cond := some uptoSmall }

/-- 'tontinelaw16.CommandEncodes', WHERE WHAT IT READS IS OF BULK AT MOST 1048576: true; the input reads as it did. -/
def commandEncodesUptoRow : OpenClaim := { program := "ytfeddlhkiomdaaa", sum := "d55e05ece24ea85d67438258c531cdc1de402a9c74720817d92be8385693ac49", func := "tontine/tontinelaw16.CommandEncodes", spec := "commandEncodes", apart := false, narrowed := true }
def CommandEncodesUptoSaid : Prop := commandEncodesUptoRow.holds Try.pinned (OpenSpec.upto commandEncodesSpec)

/-- 'tontinelaw14.SagaSteps', WHERE WHAT IT READS IS OF BULK AT MOST 1048576: true; the input reads as it did. -/
def sagaStepsUptoRow : OpenClaim := { program := "ytfeddlhkiomdaaa", sum := "d55e05ece24ea85d67438258c531cdc1de402a9c74720817d92be8385693ac49", func := "tontine/tontinelaw14.SagaSteps", spec := "sagaSteps", apart := false, narrowed := true }
def SagaStepsUptoSaid : Prop := sagaStepsUptoRow.holds Try.pinned (OpenSpec.upto sagaStepsSpec)

/-- 'tontinelaw14.SagaOrder', WHERE WHAT IT READS IS OF BULK AT MOST 1048576: true; the input reads as it did. -/
def sagaOrderUptoRow : OpenClaim := { program := "ytfeddlhkiomdaaa", sum := "d55e05ece24ea85d67438258c531cdc1de402a9c74720817d92be8385693ac49", func := "tontine/tontinelaw14.SagaOrder", spec := "sagaOrder", apart := false, narrowed := true }
def SagaOrderUptoSaid : Prop := sagaOrderUptoRow.holds Try.pinned (OpenSpec.upto sagaOrderSpec)

/-- 'tontinelaw14.SagaEnds', WHERE WHAT IT READS IS OF BULK AT MOST 1048576: true; the input reads as it did. -/
def sagaEndsUptoRow : OpenClaim := { program := "ytfeddlhkiomdaaa", sum := "d55e05ece24ea85d67438258c531cdc1de402a9c74720817d92be8385693ac49", func := "tontine/tontinelaw14.SagaEnds", spec := "sagaEnds", apart := false, narrowed := true }
def SagaEndsUptoSaid : Prop := sagaEndsUptoRow.holds Try.pinned (OpenSpec.upto sagaEndsSpec)

/-- 'tontinelaw14.SagaTwice', WHERE WHAT IT READS IS OF BULK AT MOST 1048576: true; the input reads as it did. -/
def sagaTwiceUptoRow : OpenClaim := { program := "ytfeddlhkiomdaaa", sum := "d55e05ece24ea85d67438258c531cdc1de402a9c74720817d92be8385693ac49", func := "tontine/tontinelaw14.SagaTwice", spec := "sagaTwice", apart := false, narrowed := true }
def SagaTwiceUptoSaid : Prop := sagaTwiceUptoRow.holds Try.pinned (OpenSpec.upto sagaTwiceSpec)

/-- 'tontinelaw14.SagaBudgets', WHERE WHAT IT READS IS OF BULK AT MOST 1048576: true; the input reads as it did. -/
def sagaBudgetsUptoRow : OpenClaim := { program := "ytfeddlhkiomdaaa", sum := "d55e05ece24ea85d67438258c531cdc1de402a9c74720817d92be8385693ac49", func := "tontine/tontinelaw14.SagaBudgets", spec := "sagaBudgets", apart := false, narrowed := true }
def SagaBudgetsUptoSaid : Prop := sagaBudgetsUptoRow.holds Try.pinned (OpenSpec.upto sagaBudgetsSpec)

/-- 'tontinelaw16.CommandReplies', WHERE WHAT IT READS IS OF BULK AT MOST 1048576: true; the input reads as it did. -/
def commandRepliesUptoRow : OpenClaim := { program := "ytfeddlhkiomdaaa", sum := "d55e05ece24ea85d67438258c531cdc1de402a9c74720817d92be8385693ac49", func := "tontine/tontinelaw16.CommandReplies", spec := "commandReplies", apart := false, narrowed := true }
def CommandRepliesUptoSaid : Prop := commandRepliesUptoRow.holds Try.pinned (OpenSpec.upto commandRepliesSpec)

/-- 'tontinelaw16.CommandDecodes', WHERE WHAT IT READS IS OF BULK AT MOST 1048576: true; the input reads as it did. -/
def commandDecodesUptoRow : OpenClaim := { program := "ytfeddlhkiomdaaa", sum := "d55e05ece24ea85d67438258c531cdc1de402a9c74720817d92be8385693ac49", func := "tontine/tontinelaw16.CommandDecodes", spec := "commandDecodes", apart := false, narrowed := true }
def CommandDecodesUptoSaid : Prop := commandDecodesUptoRow.holds Try.pinned (OpenSpec.upto commandDecodesSpec)

/-- 'tontinelaw16.CommandBack', WHERE WHAT IT READS IS OF BULK AT MOST 1048576: true; the input reads as it did. -/
def commandBackUptoRow : OpenClaim := { program := "ytfeddlhkiomdaaa", sum := "d55e05ece24ea85d67438258c531cdc1de402a9c74720817d92be8385693ac49", func := "tontine/tontinelaw16.CommandBack", spec := "commandBack", apart := false, narrowed := true }
def CommandBackUptoSaid : Prop := commandBackUptoRow.holds Try.pinned (OpenSpec.upto commandBackSpec)

/-- 'tontinelaw16.CommandOne', WHERE WHAT IT READS IS OF BULK AT MOST 1048576: true; the input reads as it did. -/
def commandOneUptoRow : OpenClaim := { program := "ytfeddlhkiomdaaa", sum := "d55e05ece24ea85d67438258c531cdc1de402a9c74720817d92be8385693ac49", func := "tontine/tontinelaw16.CommandOne", spec := "commandOne", apart := false, narrowed := true }
def CommandOneUptoSaid : Prop := commandOneUptoRow.holds Try.pinned (OpenSpec.upto commandOneSpec)

/-- 'tontinelaw16.CommandTimes', WHERE WHAT IT READS IS OF BULK AT MOST 1048576: true; the input reads as it did. -/
def commandTimesUptoRow : OpenClaim := { program := "ytfeddlhkiomdaaa", sum := "d55e05ece24ea85d67438258c531cdc1de402a9c74720817d92be8385693ac49", func := "tontine/tontinelaw16.CommandTimes", spec := "commandTimes", apart := false, narrowed := true }
def CommandTimesUptoSaid : Prop := commandTimesUptoRow.holds Try.pinned (OpenSpec.upto commandTimesSpec)

/-- 'tontinelaw14.SagaBytes', WHERE WHAT IT READS IS OF BULK AT MOST 1048576: true; the input reads as it did. -/
def sagaBytesUptoRow : OpenClaim := { program := "ytfeddlhkiomdaaa", sum := "d55e05ece24ea85d67438258c531cdc1de402a9c74720817d92be8385693ac49", func := "tontine/tontinelaw14.SagaBytes", spec := "sagaBytes", apart := false, narrowed := true }
def SagaBytesUptoSaid : Prop := sagaBytesUptoRow.holds Try.pinned (OpenSpec.upto sagaBytesSpec)

end Rows
end Go.Proofs.Ytfeddlhkiomdaaa
