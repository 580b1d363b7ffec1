import Derived.Test.YtmpockelhphkdaaPureT2
set_option linter.unusedVariables false
namespace Go.GL
open Go

def kT_api_Token : Kd T_api_Token := .flat 2 (fun x => [.int .u64 x.Term, .int .u64 x.Index]) (fun _ => rfl) (fun _ => rfl)
def kT_api_Key : Kd T_api_Key := .flat 3 (fun x => [.int .u64 x.Saga, .int .i64 x.Step, .bool x.Back]) (fun _ => rfl) (fun _ => rfl)
def kT_ledger_Effect : Kd T_ledger_Effect := .flat 4 (fun x => [.int .u64 x.Key.Saga, .int .i64 x.Key.Step, .bool x.Key.Back, .string (bs x.Name)]) (fun _ => rfl) (fun _ => rfl)
def kT_tontinelaw18_Call : Kd T_tontinelaw18_Call := .flat 7 (fun x => [.int .u64 x.Token.Term, .int .u64 x.Token.Index, .int .u64 x.Key.Saga, .int .i64 x.Key.Step, .bool x.Key.Back, .string (bs x.Name), .bool x.Fail]) (fun _ => rfl) (fun _ => rfl)
def kT_tontineref18_Said : Kd T_tontineref18_Said := .flat 4 (fun x => [.int .u64 x.Key.Saga, .int .i64 x.Key.Step, .bool x.Key.Back, .bool x.Ok]) (fun _ => rfl) (fun _ => rfl)
def kT_tontineref18_Ledger : Kd T_tontineref18_Ledger where
  sz := 6
  rel := fun w R x cs => ∃ A2 c2 A3 c3 A4 c4 A5 c5, cs = [.int .u64 x.Fence.Term, .int .u64 x.Fence.Index, .slice A2 (x.Keys).length c2, .slice A3 (x.Names).length c3, .slice A4 (x.Good).length c4, .slice A5 (x.Dead).length c5] ∧ RowIn kT_api_Key w R R A2 c2 x.Keys ∧ RowIn Kd.str w R R A3 c3 x.Names ∧ RowIn kT_tontineref18_Said w R R A4 c4 x.Good ∧ RowIn kT_api_Key w R R A5 c5 x.Dead
  len := fun ⟨_, _, _, _, _, _, _, _, h, _⟩ => by subst h; rfl
  one := fun ⟨_, _, _, _, _, _, _, _, h, _⟩ => by subst h; exact allOne_ok rfl
  st := fun hR ⟨A2, c2, A3, c3, A4, c4, A5, c5, h, h2, h3, h4, h5⟩ => ⟨A2, c2, A3, c3, A4, c4, A5, c5, h, h2.st hR hR, h3.st hR hR, h4.st hR hR, h5.st hR hR⟩
def oT_tontineref18_Ledger (x : T_tontineref18_Ledger) : Opn kT_tontineref18_Ledger x where
  ε := (Option Addr × Nat × Option Addr × Nat × Option Addr × Nat × Option Addr × Nat)
  cells := fun e => [.int .u64 x.Fence.Term, .int .u64 x.Fence.Index, .slice e.1 (x.Keys).length e.2.1, .slice e.2.2.1 (x.Names).length e.2.2.2.1, .slice e.2.2.2.2.1 (x.Good).length e.2.2.2.2.2.1, .slice e.2.2.2.2.2.2.1 (x.Dead).length e.2.2.2.2.2.2.2]
  newB := fun e => [Rd 0 kT_api_Key e.1 e.2.1 x.Keys, Rd 0 Kd.str e.2.2.1 e.2.2.2.1 x.Names, Rd 0 kT_tontineref18_Said e.2.2.2.2.1 e.2.2.2.2.2.1 x.Good, Rd 0 kT_api_Key e.2.2.2.2.2.2.1 e.2.2.2.2.2.2.2 x.Dead]
  ok := fun w S cs ⟨A2, c2, A3, c3, A4, c4, A5, c5, h, h2, h3, h4, h5⟩ => ⟨⟨A2, c2, A3, c3, A4, c4, A5, c5⟩, h, fun f hf => by
    simp only [List.mem_cons, List.mem_nil_iff, or_false] at hf
    rcases hf with rfl | rfl | rfl | rfl
    · exact h2
    · exact h3
    · exact h4
    · exact h5⟩
end Go.GL
