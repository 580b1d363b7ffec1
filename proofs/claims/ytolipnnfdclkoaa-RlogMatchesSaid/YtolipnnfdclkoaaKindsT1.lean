import Derived.Test.YtolipnnfdclkoaaPureT1
set_option linter.unusedVariables false
namespace Go.GL
open Go

def kT_api_Snapshot : Kd T_api_Snapshot := .flat 4 (fun x => [.int .u64 x.Index, .int .u64 x.Term, .int .u64 x.Config, .string (bs x.Data)]) (fun _ => rfl) (fun _ => rfl)
def kT_api_Entry : Kd T_api_Entry := .flat 4 (fun x => [.int .u64 x.Term, .int .u64 x.Index, .int .i64 x.Kind, .string (bs x.Data)]) (fun _ => rfl) (fun _ => rfl)
def kT_tontinelaw07_Call : Kd T_tontinelaw07_Call where
  sz := 10
  rel := fun w R x cs => ∃ A5 c5, cs = [.int .i64 x.Kind, .int .u64 x.Index, .int .u64 x.Term, .int .i64 x.What, .string (bs x.Data), .slice A5 (x.L).length c5, .int .u64 x.Snap.Index, .int .u64 x.Snap.Term, .int .u64 x.Snap.Config, .string (bs x.Snap.Data)] ∧ RowIn kT_api_Entry w R R A5 c5 x.L
  len := fun ⟨_, _, h, _⟩ => by subst h; rfl
  one := fun ⟨_, _, h, _⟩ => by subst h; exact allOne_ok rfl
  st := fun hR ⟨A5, c5, h, h5⟩ => ⟨A5, c5, h, h5.st hR hR⟩
def oT_tontinelaw07_Call (x : T_tontinelaw07_Call) : Opn kT_tontinelaw07_Call x where
  ε := (Option Addr × Nat)
  cells := fun e => [.int .i64 x.Kind, .int .u64 x.Index, .int .u64 x.Term, .int .i64 x.What, .string (bs x.Data), .slice e.1 (x.L).length e.2, .int .u64 x.Snap.Index, .int .u64 x.Snap.Term, .int .u64 x.Snap.Config, .string (bs x.Snap.Data)]
  newB := fun e => [Rd 0 kT_api_Entry e.1 e.2 x.L]
  ok := fun w S cs ⟨A5, c5, h, h5⟩ => ⟨⟨A5, c5⟩, h, fun f hf => by
    simp only [List.mem_cons, List.mem_nil_iff, or_false] at hf
    subst hf; exact h5⟩
def kT_rlog_Log : Kd T_rlog_Log where
  sz := 5
  rel := fun w R x cs => ∃ A4 c4, cs = [.int .u64 x.snap.Index, .int .u64 x.snap.Term, .int .u64 x.snap.Config, .string (bs x.snap.Data), .slice A4 (x.entries).length c4] ∧ RowIn kT_api_Entry w R R A4 c4 x.entries
  len := fun ⟨_, _, h, _⟩ => by subst h; rfl
  one := fun ⟨_, _, h, _⟩ => by subst h; exact allOne_ok rfl
  st := fun hR ⟨A4, c4, h, h4⟩ => ⟨A4, c4, h, h4.st hR hR⟩
def oT_rlog_Log (x : T_rlog_Log) : Opn kT_rlog_Log x where
  ε := (Option Addr × Nat)
  cells := fun e => [.int .u64 x.snap.Index, .int .u64 x.snap.Term, .int .u64 x.snap.Config, .string (bs x.snap.Data), .slice e.1 (x.entries).length e.2]
  newB := fun e => [Rd 0 kT_api_Entry e.1 e.2 x.entries]
  ok := fun w S cs ⟨A4, c4, h, h4⟩ => ⟨⟨A4, c4⟩, h, fun f hf => by
    simp only [List.mem_cons, List.mem_nil_iff, or_false] at hf
    subst hf; exact h4⟩
def kT_pack_Reader : Kd T_pack_Reader := .flat 2 (fun x => [.string (bs x.s), .bool x.bad]) (fun _ => rfl) (fun _ => rfl)
def kT_tontineref03_Reader : Kd T_tontineref03_Reader := .flat 2 (fun x => [.string (bs x.S_), .bool x.Bad]) (fun _ => rfl) (fun _ => rfl)
def kT_tontineref07_Log : Kd T_tontineref07_Log where
  sz := 5
  rel := fun w R x cs => ∃ A4 c4, cs = [.int .u64 x.Snap.Index, .int .u64 x.Snap.Term, .int .u64 x.Snap.Config, .string (bs x.Snap.Data), .slice A4 (x.L).length c4] ∧ RowIn kT_api_Entry w R R A4 c4 x.L
  len := fun ⟨_, _, h, _⟩ => by subst h; rfl
  one := fun ⟨_, _, h, _⟩ => by subst h; exact allOne_ok rfl
  st := fun hR ⟨A4, c4, h, h4⟩ => ⟨A4, c4, h, h4.st hR hR⟩
def oT_tontineref07_Log (x : T_tontineref07_Log) : Opn kT_tontineref07_Log x where
  ε := (Option Addr × Nat)
  cells := fun e => [.int .u64 x.Snap.Index, .int .u64 x.Snap.Term, .int .u64 x.Snap.Config, .string (bs x.Snap.Data), .slice e.1 (x.L).length e.2]
  newB := fun e => [Rd 0 kT_api_Entry e.1 e.2 x.L]
  ok := fun w S cs ⟨A4, c4, h, h4⟩ => ⟨⟨A4, c4⟩, h, fun f hf => by
    simp only [List.mem_cons, List.mem_nil_iff, or_false] at hf
    subst hf; exact h4⟩
def kT_pack_Writer : Kd T_pack_Writer where
  sz := 1
  rel := fun w R x cs => ∃ A0 c0, cs = [.slice A0 (x.b).length c0] ∧ RowIn Kd.u8 w R R A0 c0 x.b
  len := fun ⟨_, _, h, _⟩ => by subst h; rfl
  one := fun ⟨_, _, h, _⟩ => by subst h; exact allOne_ok rfl
  st := fun hR ⟨A0, c0, h, h0⟩ => ⟨A0, c0, h, h0.st hR hR⟩
def oT_pack_Writer (x : T_pack_Writer) : Opn kT_pack_Writer x where
  ε := (Option Addr × Nat)
  cells := fun e => [.slice e.1 (x.b).length e.2]
  newB := fun e => [Rd 0 Kd.u8 e.1 e.2 x.b]
  ok := fun w S cs ⟨A0, c0, h, h0⟩ => ⟨⟨A0, c0⟩, h, fun f hf => by
    simp only [List.mem_cons, List.mem_nil_iff, or_false] at hf
    subst hf; exact h0⟩
end Go.GL
