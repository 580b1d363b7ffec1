/-
  No cell of these rows narrows 'for every input' (looked for: loops, veiled, ifaces, maps, wideKeys, modest, calm, conditions, laid).
  DERIVED. THE GIVEN ROWS OF THIS SEAT. 11 by the template 'for every input the law returns true; each argument reads behind the call as it read before'; 0 by the template 'total and deterministic' (their statements: YtmpockelhphkdaaTotals.lean).
  GIVEN WITH THE SEED: the statements are not yours to turn. If you find one false, say at which input.
  Laid BY PROGRAM, IN A SANDBOX (cutbox-rows.mjs): the forced cells as the released guide's own fill.sh prints them over the translation d854e288f9359231… (all of the seat's roots in one cut). By AI agents, Wed Nov 11 2026. No macro, syntax, notation, axiom, sorry.
-/
import Derived.Test.YtmpockelhphkdaaChecked
import GoSem.Claim
import GoSem.ClaimJoined
import GoSem.ClaimMapViews
import Derived.JoinedTies
import Derived.KernelRfl
namespace Go.Proofs.Ytmpockelhphkdaa
/- THE CELL 'sum', in the pinned program and in every row, IS THE sha256 OF THE DUMP (.gsa) THAT YtmpockelhphkdaaProg.lean LOADS. Nothing in Lean hashes anything: it is a label: what it is worth is what the hold of that sum in a sandbox is worth. -/
noncomputable def Try.pinned : Pinned := { name := "ytmpockelhphkdaa", sum := "d854e288f9359231192ea59f036404a64f66b0423f0bcfc4964bf4046b5cc7ab", checked := Try.checked }
namespace Rows
def none {H : Type} : Left H := { results := [], args := [] }

/-- 'tontinelaw10.NetOrder': WHATEVER THE INPUT: true; the input reads as it did. -/
def netOrderSpec : ChangeSpec := { name := "netOrder", fn := fun _ => fun
  | [d1, d2] => { results := [.lit (.bool true)], args := [d1, d2] }
  | _ => none }
def netOrderRow : OpenClaim := { program := "ytmpockelhphkdaa", sum := "d854e288f9359231192ea59f036404a64f66b0423f0bcfc4964bf4046b5cc7ab", func := "tontine/tontinelaw10.NetOrder", spec := "netOrder", plainKeys := false, apart := false }
def NetOrderSaid : Prop := netOrderRow.holds Try.pinned (OpenSpec.ofChange netOrderSpec)

/-- ITS FALSE NEIGHBOUR: 'it returns false'. Refute it at one input. -/
def netOrderWrong : ChangeSpec := { name := "netOrder", fn := fun _ => fun
  | [d1, d2] => { results := [.lit (.bool false)], args := [d1, d2] }
  | _ => none }
def NetOrderWrongFalsely : Prop := netOrderRow.holds Try.pinned (OpenSpec.ofChange netOrderWrong)

/-- 'tontinelaw10.NetDoubles': WHATEVER THE INPUT: true; the input reads as it did. -/
def netDoublesSpec : ChangeSpec := { name := "netDoubles", fn := fun _ => fun
  | [d1, d2] => { results := [.lit (.bool true)], args := [d1, d2] }
  | _ => none }
def netDoublesRow : OpenClaim := { program := "ytmpockelhphkdaa", sum := "d854e288f9359231192ea59f036404a64f66b0423f0bcfc4964bf4046b5cc7ab", func := "tontine/tontinelaw10.NetDoubles", spec := "netDoubles", plainKeys := false, apart := false }
def NetDoublesSaid : Prop := netDoublesRow.holds Try.pinned (OpenSpec.ofChange netDoublesSpec)

/-- ITS FALSE NEIGHBOUR: 'it returns false'. Refute it at one input. -/
def netDoublesWrong : ChangeSpec := { name := "netDoubles", fn := fun _ => fun
  | [d1, d2] => { results := [.lit (.bool false)], args := [d1, d2] }
  | _ => none }
def NetDoublesWrongFalsely : Prop := netDoublesRow.holds Try.pinned (OpenSpec.ofChange netDoublesWrong)

/-- 'tontinelaw18.LedgerOnce': WHATEVER THE INPUT: true; the input reads as it did. -/
def ledgerOnceSpec : ChangeSpec := { name := "ledgerOnce", fn := fun _ => fun
  | [d] => { results := [.lit (.bool true)], args := [d] }
  | _ => none }
def ledgerOnceRow : OpenClaim := { program := "ytmpockelhphkdaa", sum := "d854e288f9359231192ea59f036404a64f66b0423f0bcfc4964bf4046b5cc7ab", func := "tontine/tontinelaw18.LedgerOnce", spec := "ledgerOnce", plainKeys := false, apart := false }
def LedgerOnceSaid : Prop := ledgerOnceRow.holds Try.pinned (OpenSpec.ofChange ledgerOnceSpec)

/-- ITS FALSE NEIGHBOUR: 'it returns false'. Refute it at one input. -/
def ledgerOnceWrong : ChangeSpec := { name := "ledgerOnce", fn := fun _ => fun
  | [d] => { results := [.lit (.bool false)], args := [d] }
  | _ => none }
def LedgerOnceWrongFalsely : Prop := ledgerOnceRow.holds Try.pinned (OpenSpec.ofChange ledgerOnceWrong)

/-- 'tontinelaw18.LedgerTokens': WHATEVER THE INPUT: true; the input reads as it did. -/
def ledgerTokensSpec : ChangeSpec := { name := "ledgerTokens", fn := fun _ => fun
  | [d1, d2, d3] => { results := [.lit (.bool true)], args := [d1, d2, d3] }
  | _ => none }
def ledgerTokensRow : OpenClaim := { program := "ytmpockelhphkdaa", sum := "d854e288f9359231192ea59f036404a64f66b0423f0bcfc4964bf4046b5cc7ab", func := "tontine/tontinelaw18.LedgerTokens", spec := "ledgerTokens", plainKeys := false, apart := false }
def LedgerTokensSaid : Prop := ledgerTokensRow.holds Try.pinned (OpenSpec.ofChange ledgerTokensSpec)

/-- ITS FALSE NEIGHBOUR: 'it returns false'. Refute it at one input. -/
def ledgerTokensWrong : ChangeSpec := { name := "ledgerTokens", fn := fun _ => fun
  | [d1, d2, d3] => { results := [.lit (.bool false)], args := [d1, d2, d3] }
  | _ => none }
def LedgerTokensWrongFalsely : Prop := ledgerTokensRow.holds Try.pinned (OpenSpec.ofChange ledgerTokensWrong)

/-- 'tontinelaw18.LedgerRuns': WHATEVER THE INPUT: true; the input reads as it did. -/
def ledgerRunsSpec : ChangeSpec := { name := "ledgerRuns", fn := fun _ => fun
  | [d] => { results := [.lit (.bool true)], args := [d] }
  | _ => none }
def ledgerRunsRow : OpenClaim := { program := "ytmpockelhphkdaa", sum := "d854e288f9359231192ea59f036404a64f66b0423f0bcfc4964bf4046b5cc7ab", func := "tontine/tontinelaw18.LedgerRuns", spec := "ledgerRuns", plainKeys := false, apart := false }
def LedgerRunsSaid : Prop := ledgerRunsRow.holds Try.pinned (OpenSpec.ofChange ledgerRunsSpec)

/-- ITS FALSE NEIGHBOUR: 'it returns false'. Refute it at one input. -/
def ledgerRunsWrong : ChangeSpec := { name := "ledgerRuns", fn := fun _ => fun
  | [d] => { results := [.lit (.bool false)], args := [d] }
  | _ => none }
def LedgerRunsWrongFalsely : Prop := ledgerRunsRow.holds Try.pinned (OpenSpec.ofChange ledgerRunsWrong)

/-- 'tontinelaw18.LedgerFences': WHATEVER THE INPUT: true; the input reads as it did. -/
def ledgerFencesSpec : ChangeSpec := { name := "ledgerFences", fn := fun _ => fun
  | [d] => { results := [.lit (.bool true)], args := [d] }
  | _ => none }
def ledgerFencesRow : OpenClaim := { program := "ytmpockelhphkdaa", sum := "d854e288f9359231192ea59f036404a64f66b0423f0bcfc4964bf4046b5cc7ab", func := "tontine/tontinelaw18.LedgerFences", spec := "ledgerFences", plainKeys := false, apart := false }
def LedgerFencesSaid : Prop := ledgerFencesRow.holds Try.pinned (OpenSpec.ofChange ledgerFencesSpec)

/-- ITS FALSE NEIGHBOUR: 'it returns false'. Refute it at one input. -/
def ledgerFencesWrong : ChangeSpec := { name := "ledgerFences", fn := fun _ => fun
  | [d] => { results := [.lit (.bool false)], args := [d] }
  | _ => none }
def LedgerFencesWrongFalsely : Prop := ledgerFencesRow.holds Try.pinned (OpenSpec.ofChange ledgerFencesWrong)

/-- 'tontinelaw18.LedgerNone': WHATEVER THE INPUT: true; the input reads as it did. -/
def ledgerNoneSpec : ChangeSpec := { name := "ledgerNone", fn := fun _ => fun
  | [d1, d2, d3] => { results := [.lit (.bool true)], args := [d1, d2, d3] }
  | _ => none }
def ledgerNoneRow : OpenClaim := { program := "ytmpockelhphkdaa", sum := "d854e288f9359231192ea59f036404a64f66b0423f0bcfc4964bf4046b5cc7ab", func := "tontine/tontinelaw18.LedgerNone", spec := "ledgerNone", plainKeys := false, apart := false }
def LedgerNoneSaid : Prop := ledgerNoneRow.holds Try.pinned (OpenSpec.ofChange ledgerNoneSpec)

/-- ITS FALSE NEIGHBOUR: 'it returns false'. Refute it at one input. -/
def ledgerNoneWrong : ChangeSpec := { name := "ledgerNone", fn := fun _ => fun
  | [d1, d2, d3] => { results := [.lit (.bool false)], args := [d1, d2, d3] }
  | _ => none }
def LedgerNoneWrongFalsely : Prop := ledgerNoneRow.holds Try.pinned (OpenSpec.ofChange ledgerNoneWrong)

/-- 'tontinelaw18.LedgerDead': WHATEVER THE INPUT: true; the input reads as it did. -/
def ledgerDeadSpec : ChangeSpec := { name := "ledgerDead", fn := fun _ => fun
  | [d1, d2, d3] => { results := [.lit (.bool true)], args := [d1, d2, d3] }
  | _ => none }
def ledgerDeadRow : OpenClaim := { program := "ytmpockelhphkdaa", sum := "d854e288f9359231192ea59f036404a64f66b0423f0bcfc4964bf4046b5cc7ab", func := "tontine/tontinelaw18.LedgerDead", spec := "ledgerDead", plainKeys := false, apart := false }
def LedgerDeadSaid : Prop := ledgerDeadRow.holds Try.pinned (OpenSpec.ofChange ledgerDeadSpec)

/-- ITS FALSE NEIGHBOUR: 'it returns false'. Refute it at one input. -/
def ledgerDeadWrong : ChangeSpec := { name := "ledgerDead", fn := fun _ => fun
  | [d1, d2, d3] => { results := [.lit (.bool false)], args := [d1, d2, d3] }
  | _ => none }
def LedgerDeadWrongFalsely : Prop := ledgerDeadRow.holds Try.pinned (OpenSpec.ofChange ledgerDeadWrong)

/-- 'tontinelaw10.NetRuns': WHATEVER THE INPUT: true; the input reads as it did. -/
def netRunsSpec : ChangeSpec := { name := "netRuns", fn := fun _ => fun
  | [d] => { results := [.lit (.bool true)], args := [d] }
  | _ => none }
def netRunsRow : OpenClaim := { program := "ytmpockelhphkdaa", sum := "d854e288f9359231192ea59f036404a64f66b0423f0bcfc4964bf4046b5cc7ab", func := "tontine/tontinelaw10.NetRuns", spec := "netRuns", plainKeys := false, apart := false }
def NetRunsSaid : Prop := netRunsRow.holds Try.pinned (OpenSpec.ofChange netRunsSpec)

/-- ITS FALSE NEIGHBOUR: 'it returns false'. Refute it at one input. -/
def netRunsWrong : ChangeSpec := { name := "netRuns", fn := fun _ => fun
  | [d] => { results := [.lit (.bool false)], args := [d] }
  | _ => none }
def NetRunsWrongFalsely : Prop := netRunsRow.holds Try.pinned (OpenSpec.ofChange netRunsWrong)

/-- 'tontinelaw10.NetCounts': WHATEVER THE INPUT: true; the input reads as it did. -/
def netCountsSpec : ChangeSpec := { name := "netCounts", fn := fun _ => fun
  | [d1, d2] => { results := [.lit (.bool true)], args := [d1, d2] }
  | _ => none }
def netCountsRow : OpenClaim := { program := "ytmpockelhphkdaa", sum := "d854e288f9359231192ea59f036404a64f66b0423f0bcfc4964bf4046b5cc7ab", func := "tontine/tontinelaw10.NetCounts", spec := "netCounts", plainKeys := false, apart := false }
def NetCountsSaid : Prop := netCountsRow.holds Try.pinned (OpenSpec.ofChange netCountsSpec)

/-- ITS FALSE NEIGHBOUR: 'it returns false'. Refute it at one input. -/
def netCountsWrong : ChangeSpec := { name := "netCounts", fn := fun _ => fun
  | [d1, d2] => { results := [.lit (.bool false)], args := [d1, d2] }
  | _ => none }
def NetCountsWrongFalsely : Prop := netCountsRow.holds Try.pinned (OpenSpec.ofChange netCountsWrong)

/-- 'tontinelaw10.NetApart': WHATEVER THE INPUT: true; the input reads as it did. -/
def netApartSpec : ChangeSpec := { name := "netApart", fn := fun _ => fun
  | [d1, d2] => { results := [.lit (.bool true)], args := [d1, d2] }
  | _ => none }
def netApartRow : OpenClaim := { program := "ytmpockelhphkdaa", sum := "d854e288f9359231192ea59f036404a64f66b0423f0bcfc4964bf4046b5cc7ab", func := "tontine/tontinelaw10.NetApart", spec := "netApart", plainKeys := false, apart := false }
def NetApartSaid : Prop := netApartRow.holds Try.pinned (OpenSpec.ofChange netApartSpec)

/-- ITS FALSE NEIGHBOUR: 'it returns false'. Refute it at one input. -/
def netApartWrong : ChangeSpec := { name := "netApart", fn := fun _ => fun
  | [d1, d2] => { results := [.lit (.bool false)], args := [d1, d2] }
  | _ => none }
def NetApartWrongFalsely : Prop := netApartRow.holds Try.pinned (OpenSpec.ofChange netApartWrong)

/- THE SECOND FORM. 'bulk': how many values and letters a reading holds, each counted each time it is reached (what is shared counts as often as it is met; a slice's spare places count too). A statement '..UptoSaid' is the law's where the arguments, and the package variables that the reading takes, are together of bulk at most 1048576: NARROWER than '..Said'. Prove '..Said' where nothing that the law and all that it calls make is longer than what came in: it says more and counts as full. Else prove '..UptoSaid'. A law counts once. -/
mutual
def uptoBulk {H : Type} : DataW H → Nat
  | .lit (.string bytes) => bytes.length + 1
  | .lit _ => 1
  | .nil => 1
  | .ptr d => uptoBulk d + 1
  | .slice elems spare => uptoBulkAll elems + uptoBulkAll spare + 1
  | .agg parts => uptoBulkAll parts + 1
  | .iface _ d => uptoBulk d + 1
  | .map entries => uptoBulkEntries entries + 1
  | .held _ => 1
def uptoBulkAll {H : Type} : List (DataW H) → Nat
  | [] => 0
  | d :: r => uptoBulk d + uptoBulkAll r
def uptoBulkEntries {H : Type} : List (Lit × DataW H) → Nat
  | [] => 0
  | x :: r => uptoBulkEntry x + uptoBulkEntries r
def uptoBulkEntry {H : Type} : Lit × DataW H → Nat
  | (.string bytes, d) => bytes.length + uptoBulk d + 1
  | (_, d) => uptoBulk d + 1
 end
def uptoSmall : (H : Type) → List (DataW H) → Bool := fun _ ds => decide (uptoBulkAll ds ≤ 1048576)
def OpenSpec.upto (s : _root_.Go.ChangeSpec) : _root_.Go.OpenSpec := { _root_.Go.OpenSpec.ofChange s with cond := some uptoSmall }

/-- 'tontinelaw10.NetOrder', WHERE WHAT IT READS IS OF BULK AT MOST 1048576: true; the input reads as it did. -/
def netOrderUptoRow : OpenClaim := { program := "ytmpockelhphkdaa", sum := "d854e288f9359231192ea59f036404a64f66b0423f0bcfc4964bf4046b5cc7ab", func := "tontine/tontinelaw10.NetOrder", spec := "netOrder", plainKeys := false, apart := false, narrowed := true }
def NetOrderUptoSaid : Prop := netOrderUptoRow.holds Try.pinned (OpenSpec.upto netOrderSpec)

/-- 'tontinelaw10.NetDoubles', WHERE WHAT IT READS IS OF BULK AT MOST 1048576: true; the input reads as it did. -/
def netDoublesUptoRow : OpenClaim := { program := "ytmpockelhphkdaa", sum := "d854e288f9359231192ea59f036404a64f66b0423f0bcfc4964bf4046b5cc7ab", func := "tontine/tontinelaw10.NetDoubles", spec := "netDoubles", plainKeys := false, apart := false, narrowed := true }
def NetDoublesUptoSaid : Prop := netDoublesUptoRow.holds Try.pinned (OpenSpec.upto netDoublesSpec)

/-- 'tontinelaw18.LedgerOnce', WHERE WHAT IT READS IS OF BULK AT MOST 1048576: true; the input reads as it did. -/
def ledgerOnceUptoRow : OpenClaim := { program := "ytmpockelhphkdaa", sum := "d854e288f9359231192ea59f036404a64f66b0423f0bcfc4964bf4046b5cc7ab", func := "tontine/tontinelaw18.LedgerOnce", spec := "ledgerOnce", plainKeys := false, apart := false, narrowed := true }
def LedgerOnceUptoSaid : Prop := ledgerOnceUptoRow.holds Try.pinned (OpenSpec.upto ledgerOnceSpec)

/-- 'tontinelaw18.LedgerTokens', WHERE WHAT IT READS IS OF BULK AT MOST 1048576: true; the input reads as it did. -/
def ledgerTokensUptoRow : OpenClaim := { program := "ytmpockelhphkdaa", sum := "d854e288f9359231192ea59f036404a64f66b0423f0bcfc4964bf4046b5cc7ab", func := "tontine/tontinelaw18.LedgerTokens", spec := "ledgerTokens", plainKeys := false, apart := false, narrowed := true }
def LedgerTokensUptoSaid : Prop := ledgerTokensUptoRow.holds Try.pinned (OpenSpec.upto ledgerTokensSpec)

/-- 'tontinelaw18.LedgerRuns', WHERE WHAT IT READS IS OF BULK AT MOST 1048576: true; the input reads as it did. -/
def ledgerRunsUptoRow : OpenClaim := { program := "ytmpockelhphkdaa", sum := "d854e288f9359231192ea59f036404a64f66b0423f0bcfc4964bf4046b5cc7ab", func := "tontine/tontinelaw18.LedgerRuns", spec := "ledgerRuns", plainKeys := false, apart := false, narrowed := true }
def LedgerRunsUptoSaid : Prop := ledgerRunsUptoRow.holds Try.pinned (OpenSpec.upto ledgerRunsSpec)

/-- 'tontinelaw18.LedgerFences', WHERE WHAT IT READS IS OF BULK AT MOST 1048576: true; the input reads as it did. -/
def ledgerFencesUptoRow : OpenClaim := { program := "ytmpockelhphkdaa", sum := "d854e288f9359231192ea59f036404a64f66b0423f0bcfc4964bf4046b5cc7ab", func := "tontine/tontinelaw18.LedgerFences", spec := "ledgerFences", plainKeys := false, apart := false, narrowed := true }
def LedgerFencesUptoSaid : Prop := ledgerFencesUptoRow.holds Try.pinned (OpenSpec.upto ledgerFencesSpec)

/-- 'tontinelaw18.LedgerNone', WHERE WHAT IT READS IS OF BULK AT MOST 1048576: true; the input reads as it did. -/
def ledgerNoneUptoRow : OpenClaim := { program := "ytmpockelhphkdaa", sum := "d854e288f9359231192ea59f036404a64f66b0423f0bcfc4964bf4046b5cc7ab", func := "tontine/tontinelaw18.LedgerNone", spec := "ledgerNone", plainKeys := false, apart := false, narrowed := true }
def LedgerNoneUptoSaid : Prop := ledgerNoneUptoRow.holds Try.pinned (OpenSpec.upto ledgerNoneSpec)

/-- 'tontinelaw18.LedgerDead', WHERE WHAT IT READS IS OF BULK AT MOST 1048576: true; the input reads as it did. -/
def ledgerDeadUptoRow : OpenClaim := { program := "ytmpockelhphkdaa", sum := "d854e288f9359231192ea59f036404a64f66b0423f0bcfc4964bf4046b5cc7ab", func := "tontine/tontinelaw18.LedgerDead", spec := "ledgerDead", plainKeys := false, apart := false, narrowed := true }
def LedgerDeadUptoSaid : Prop := ledgerDeadUptoRow.holds Try.pinned (OpenSpec.upto ledgerDeadSpec)

/-- 'tontinelaw10.NetRuns', WHERE WHAT IT READS IS OF BULK AT MOST 1048576: true; the input reads as it did. -/
def netRunsUptoRow : OpenClaim := { program := "ytmpockelhphkdaa", sum := "d854e288f9359231192ea59f036404a64f66b0423f0bcfc4964bf4046b5cc7ab", func := "tontine/tontinelaw10.NetRuns", spec := "netRuns", plainKeys := false, apart := false, narrowed := true }
def NetRunsUptoSaid : Prop := netRunsUptoRow.holds Try.pinned (OpenSpec.upto netRunsSpec)

/-- 'tontinelaw10.NetCounts', WHERE WHAT IT READS IS OF BULK AT MOST 1048576: true; the input reads as it did. -/
def netCountsUptoRow : OpenClaim := { program := "ytmpockelhphkdaa", sum := "d854e288f9359231192ea59f036404a64f66b0423f0bcfc4964bf4046b5cc7ab", func := "tontine/tontinelaw10.NetCounts", spec := "netCounts", plainKeys := false, apart := false, narrowed := true }
def NetCountsUptoSaid : Prop := netCountsUptoRow.holds Try.pinned (OpenSpec.upto netCountsSpec)

/-- 'tontinelaw10.NetApart', WHERE WHAT IT READS IS OF BULK AT MOST 1048576: true; the input reads as it did. -/
def netApartUptoRow : OpenClaim := { program := "ytmpockelhphkdaa", sum := "d854e288f9359231192ea59f036404a64f66b0423f0bcfc4964bf4046b5cc7ab", func := "tontine/tontinelaw10.NetApart", spec := "netApart", plainKeys := false, apart := false, narrowed := true }
def NetApartUptoSaid : Prop := netApartUptoRow.holds Try.pinned (OpenSpec.upto netApartSpec)

end Rows
end Go.Proofs.Ytmpockelhphkdaa
