import Derived.Test.YtciohdgjlcaokaaPureT1
set_option linter.unusedVariables false
namespace Go.GL
open Go

def kT_api_Entry : Kd T_api_Entry := .flat 4 (fun x => [.int .u64 x.Term, .int .u64 x.Index, .int .i64 x.Kind, .string (bs x.Data)]) (fun _ => rfl) (fun _ => rfl)
def kT_api_Letter : Kd T_api_Letter where
  sz := 10
  rel := fun w R x cs => ∃ A8 c8, cs = [.int .i64 x.Kind, .int .i64 x.From, .int .i64 x.To, .int .u64 x.Term, .int .u64 x.Index, .int .u64 x.Prev, .int .u64 x.Commit, .bool x.Ok, .slice A8 (x.Entries).length c8, .string (bs x.Data)] ∧ RowIn kT_api_Entry w R R A8 c8 x.Entries
  len := fun ⟨_, _, h, _⟩ => by subst h; rfl
  one := fun ⟨_, _, h, _⟩ => by subst h; exact allOne_ok rfl
  st := fun hR ⟨A8, c8, h, h8⟩ => ⟨A8, c8, h, h8.st hR hR⟩
def oT_api_Letter (x : T_api_Letter) : Opn kT_api_Letter x where
  ε := (Option Addr × Nat)
  cells := fun e => [.int .i64 x.Kind, .int .i64 x.From, .int .i64 x.To, .int .u64 x.Term, .int .u64 x.Index, .int .u64 x.Prev, .int .u64 x.Commit, .bool x.Ok, .slice e.1 (x.Entries).length e.2, .string (bs x.Data)]
  newB := fun e => [Rd 0 kT_api_Entry e.1 e.2 x.Entries]
  ok := fun w S cs ⟨A8, c8, h, h8⟩ => ⟨⟨A8, c8⟩, h, fun f hf => by
    simp only [List.mem_cons, List.mem_nil_iff, or_false] at hf
    subst hf; exact h8⟩
def kT_pack_Writer : Kd T_pack_Writer where
  sz := 1
  rel := fun w R x cs => ∃ A0 c0, cs = [.slice A0 (x.b).length c0] ∧ RowIn Kd.u8 w R R A0 c0 x.b
  len := fun ⟨_, _, h, _⟩ => by subst h; rfl
  one := fun ⟨_, _, h, _⟩ => by subst h; exact allOne_ok rfl
  st := fun hR ⟨A0, c0, h, h0⟩ => ⟨A0, c0, h, h0.st hR hR⟩
def oT_pack_Writer (x : T_pack_Writer) : Opn kT_pack_Writer x where
  ε := (Option Addr × Nat)
  cells := fun e => [.slice e.1 (x.b).length e.2]
  newB := fun e => [Rd 0 Kd.u8 e.1 e.2 x.b]
  ok := fun w S cs ⟨A0, c0, h, h0⟩ => ⟨⟨A0, c0⟩, h, fun f hf => by
    simp only [List.mem_cons, List.mem_nil_iff, or_false] at hf
    subst hf; exact h0⟩
def kT_pack_Reader : Kd T_pack_Reader := .flat 2 (fun x => [.string (bs x.s), .bool x.bad]) (fun _ => rfl) (fun _ => rfl)
def kT_tontineref03_Reader : Kd T_tontineref03_Reader := .flat 2 (fun x => [.string (bs x.S_), .bool x.Bad]) (fun _ => rfl) (fun _ => rfl)
end Go.GL
