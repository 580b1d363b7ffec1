import Derived.Test.YtcpcdnjpdblhoaaPureT1
set_option linter.unusedVariables false
namespace Go.GL
open Go

def kT_api_Step : Kd T_api_Step := .flat 3 (fun x => [.int .i64 x.Part, .string (bs x.Name), .int .i64 x.Budget]) (fun _ => rfl) (fun _ => rfl)
def kT_pack_Writer : Kd T_pack_Writer where
  sz := 1
  rel := fun w R x cs => ∃ A0 c0, cs = [.slice A0 (x.b).length c0] ∧ RowIn Kd.u8 w R R A0 c0 x.b
  len := fun ⟨_, _, h, _⟩ => by subst h; rfl
  one := fun ⟨_, _, h, _⟩ => by subst h; exact allOne_ok rfl
  st := fun hR ⟨A0, c0, h, h0⟩ => ⟨A0, c0, h, h0.st hR hR⟩
def oT_pack_Writer (x : T_pack_Writer) : Opn kT_pack_Writer x where
  ε := (Option Addr × Nat)
  cells := fun e => [.slice e.1 (x.b).length e.2]
  newB := fun e => [Rd 0 Kd.u8 e.1 e.2 x.b]
  ok := fun w S cs ⟨A0, c0, h, h0⟩ => ⟨⟨A0, c0⟩, h, fun f hf => by
    simp only [List.mem_cons, List.mem_nil_iff, or_false] at hf
    subst hf; exact h0⟩
def kT_pack_Reader : Kd T_pack_Reader := .flat 2 (fun x => [.string (bs x.s), .bool x.bad]) (fun _ => rfl) (fun _ => rfl)
def kT_tontinelaw03_Thing : Kd T_tontinelaw03_Thing := .flat 3 (fun x => [.int .i64 x.Kind, .int .u64 x.Num, .string (bs x.Text)]) (fun _ => rfl) (fun _ => rfl)
def kT_tontineref03_Reader : Kd T_tontineref03_Reader := .flat 2 (fun x => [.string (bs x.S_), .bool x.Bad]) (fun _ => rfl) (fun _ => rfl)
end Go.GL
