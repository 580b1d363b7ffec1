import Derived.Test.YtfeddlhkiomdaaaPureT1
set_option linter.unusedVariables false
namespace Go.GL
open Go

def kT_api_Step : Kd T_api_Step := .flat 3 (fun x => [.int .i64 x.Part, .string (bs x.Name), .int .i64 x.Budget]) (fun _ => rfl) (fun _ => rfl)
def kT_api_Command : Kd T_api_Command where
  sz := 10
  rel := fun w R x cs => ∃ A4 c4, cs = [.int .i64 x.Kind, .int .u64 x.Session, .int .u64 x.Seq, .int .u64 x.Saga, .slice A4 (x.Steps).length c4, .int .i64 x.Step, .bool x.Back, .int .i64 x.Try, .bool x.Ok, .int .u64 x.Now] ∧ RowIn kT_api_Step w R R A4 c4 x.Steps
  len := fun ⟨_, _, h, _⟩ => by subst h; rfl
  one := fun ⟨_, _, h, _⟩ => by subst h; exact allOne_ok rfl
  st := fun hR ⟨A4, c4, h, h4⟩ => ⟨A4, c4, h, h4.st hR hR⟩
def oT_api_Command (x : T_api_Command) : Opn kT_api_Command x where
  ε := (Option Addr × Nat)
  cells := fun e => [.int .i64 x.Kind, .int .u64 x.Session, .int .u64 x.Seq, .int .u64 x.Saga, .slice e.1 (x.Steps).length e.2, .int .i64 x.Step, .bool x.Back, .int .i64 x.Try, .bool x.Ok, .int .u64 x.Now]
  newB := fun e => [Rd 0 kT_api_Step e.1 e.2 x.Steps]
  ok := fun w S cs ⟨A4, c4, h, h4⟩ => ⟨⟨A4, c4⟩, h, fun f hf => by
    simp only [List.mem_cons, List.mem_nil_iff, or_false] at hf
    subst hf; exact h4⟩
def kT_pack_Writer : Kd T_pack_Writer where
  sz := 1
  rel := fun w R x cs => ∃ A0 c0, cs = [.slice A0 (x.b).length c0] ∧ RowIn Kd.u8 w R R A0 c0 x.b
  len := fun ⟨_, _, h, _⟩ => by subst h; rfl
  one := fun ⟨_, _, h, _⟩ => by subst h; exact allOne_ok rfl
  st := fun hR ⟨A0, c0, h, h0⟩ => ⟨A0, c0, h, h0.st hR hR⟩
def oT_pack_Writer (x : T_pack_Writer) : Opn kT_pack_Writer x where
  ε := (Option Addr × Nat)
  cells := fun e => [.slice e.1 (x.b).length e.2]
  newB := fun e => [Rd 0 Kd.u8 e.1 e.2 x.b]
  ok := fun w S cs ⟨A0, c0, h, h0⟩ => ⟨⟨A0, c0⟩, h, fun f hf => by
    simp only [List.mem_cons, List.mem_nil_iff, or_false] at hf
    subst hf; exact h0⟩
def kT_api_Saga : Kd T_api_Saga where
  sz := 4
  rel := fun w R x cs => ∃ A0 c0, cs = [.slice A0 (x.Steps).length c0, .int .i64 x.State, .int .i64 x.Cursor, .int .i64 x.Failed] ∧ RowIn kT_api_Step w R R A0 c0 x.Steps
  len := fun ⟨_, _, h, _⟩ => by subst h; rfl
  one := fun ⟨_, _, h, _⟩ => by subst h; exact allOne_ok rfl
  st := fun hR ⟨A0, c0, h, h0⟩ => ⟨A0, c0, h, h0.st hR hR⟩
def oT_api_Saga (x : T_api_Saga) : Opn kT_api_Saga x where
  ε := (Option Addr × Nat)
  cells := fun e => [.slice e.1 (x.Steps).length e.2, .int .i64 x.State, .int .i64 x.Cursor, .int .i64 x.Failed]
  newB := fun e => [Rd 0 kT_api_Step e.1 e.2 x.Steps]
  ok := fun w S cs ⟨A0, c0, h, h0⟩ => ⟨⟨A0, c0⟩, h, fun f hf => by
    simp only [List.mem_cons, List.mem_nil_iff, or_false] at hf
    subst hf; exact h0⟩
def kT_tontinelaw14_Call : Kd T_tontinelaw14_Call := .flat 4 (fun x => [.int .i64 x.Step, .bool x.Taken, .int .i64 x.Try, .bool x.Ok]) (fun _ => rfl) (fun _ => rfl)
def kT_api_Reply : Kd T_api_Reply := .flat 3 (fun x => [.int .i64 x.Err, .int .u64 x.Num, .int .u64 x.Extra]) (fun _ => rfl) (fun _ => rfl)
def kT_pack_Reader : Kd T_pack_Reader := .flat 2 (fun x => [.string (bs x.s), .bool x.bad]) (fun _ => rfl) (fun _ => rfl)
def kT_tontineref03_Reader : Kd T_tontineref03_Reader := .flat 2 (fun x => [.string (bs x.S_), .bool x.Bad]) (fun _ => rfl) (fun _ => rfl)
end Go.GL
