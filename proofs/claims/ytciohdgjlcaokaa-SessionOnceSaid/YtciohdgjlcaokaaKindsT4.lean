import Derived.Test.YtciohdgjlcaokaaPureT4
set_option linter.unusedVariables false
namespace Go.GL
open Go

def kT_api_Reply : Kd T_api_Reply := .flat 3 (fun x => [.int .i64 x.Err, .int .u64 x.Num, .int .u64 x.Extra]) (fun _ => rfl) (fun _ => rfl)
def kT_tontinelaw15_Call : Kd T_tontinelaw15_Call := .flat 6 (fun x => [.int .i64 x.Kind, .int .u64 x.Id, .int .u64 x.Seq, .int .i64 x.Reply.Err, .int .u64 x.Reply.Num, .int .u64 x.Reply.Extra]) (fun _ => rfl) (fun _ => rfl)
def kT_session_Row : Kd T_session_Row := .flat 6 (fun x => [.int .u64 x.Id, .int .u64 x.Used, .int .u64 x.Seq, .int .i64 x.Reply.Err, .int .u64 x.Reply.Num, .int .u64 x.Reply.Extra]) (fun _ => rfl) (fun _ => rfl)
def kT_session_Table : Kd T_session_Table where
  sz := 3
  rel := fun w R x cs => ∃ A2 c2, cs = [.int .u64 x.now, .int .u64 x.next, .slice A2 (x.rows).length c2] ∧ RowIn kT_session_Row w R R A2 c2 x.rows
  len := fun ⟨_, _, h, _⟩ => by subst h; rfl
  one := fun ⟨_, _, h, _⟩ => by subst h; exact allOne_ok rfl
  st := fun hR ⟨A2, c2, h, h2⟩ => ⟨A2, c2, h, h2.st hR hR⟩
def oT_session_Table (x : T_session_Table) : Opn kT_session_Table x where
  ε := (Option Addr × Nat)
  cells := fun e => [.int .u64 x.now, .int .u64 x.next, .slice e.1 (x.rows).length e.2]
  newB := fun e => [Rd 0 kT_session_Row e.1 e.2 x.rows]
  ok := fun w S cs ⟨A2, c2, h, h2⟩ => ⟨⟨A2, c2⟩, h, fun f hf => by
    simp only [List.mem_cons, List.mem_nil_iff, or_false] at hf
    subst hf; exact h2⟩
def kT_tontinelaw15_one : Kd T_tontinelaw15_one := .flat 2 (fun x => [.int .u64 x.id, .int .u64 x.seq]) (fun _ => rfl) (fun _ => rfl)
end Go.GL
