import Derived.Test.YtmpockelhphkdaaPureT1
set_option linter.unusedVariables false
namespace Go.GL
open Go

def kT_api_Entry : Kd T_api_Entry := .flat 4 (fun x => [.int .u64 x.Term, .int .u64 x.Index, .int .i64 x.Kind, .string (bs x.Data)]) (fun _ => rfl) (fun _ => rfl)
def kT_api_Letter : Kd T_api_Letter where
  sz := 10
  rel := fun w R x cs => ∃ A8 c8, cs = [.int .i64 x.Kind, .int .i64 x.From, .int .i64 x.To, .int .u64 x.Term, .int .u64 x.Index, .int .u64 x.Prev, .int .u64 x.Commit, .bool x.Ok, .slice A8 (x.Entries).length c8, .string (bs x.Data)] ∧ RowIn kT_api_Entry w R R A8 c8 x.Entries
  len := fun ⟨_, _, h, _⟩ => by subst h; rfl
  one := fun ⟨_, _, h, _⟩ => by subst h; exact allOne_ok rfl
  st := fun hR ⟨A8, c8, h, h8⟩ => ⟨A8, c8, h, h8.st hR hR⟩
def oT_api_Letter (x : T_api_Letter) : Opn kT_api_Letter x where
  ε := (Option Addr × Nat)
  cells := fun e => [.int .i64 x.Kind, .int .i64 x.From, .int .i64 x.To, .int .u64 x.Term, .int .u64 x.Index, .int .u64 x.Prev, .int .u64 x.Commit, .bool x.Ok, .slice e.1 (x.Entries).length e.2, .string (bs x.Data)]
  newB := fun e => [Rd 0 kT_api_Entry e.1 e.2 x.Entries]
  ok := fun w S cs ⟨A8, c8, h, h8⟩ => ⟨⟨A8, c8⟩, h, fun f hf => by
    simp only [List.mem_cons, List.mem_nil_iff, or_false] at hf
    subst hf; exact h8⟩
def kT_net_Net : Kd T_net_Net where
  sz := 2
  rel := fun w R x cs => ∃ A0 c0, cs = [.slice A0 (x.l).length c0, .int .i64 x.lost] ∧ RowIn kT_api_Letter w R R A0 c0 x.l
  len := fun ⟨_, _, h, _⟩ => by subst h; rfl
  one := fun ⟨_, _, h, _⟩ => by subst h; exact allOne_ok rfl
  st := fun hR ⟨A0, c0, h, h0⟩ => ⟨A0, c0, h, h0.st hR hR⟩
def oT_net_Net (x : T_net_Net) : Opn kT_net_Net x where
  ε := (Option Addr × Nat)
  cells := fun e => [.slice e.1 (x.l).length e.2, .int .i64 x.lost]
  newB := fun e => [Rd 0 kT_api_Letter e.1 e.2 x.l]
  ok := fun w S cs ⟨A0, c0, h, h0⟩ => ⟨⟨A0, c0⟩, h, fun f hf => by
    simp only [List.mem_cons, List.mem_nil_iff, or_false] at hf
    subst hf; exact h0⟩
def kT_api_Token : Kd T_api_Token := .flat 2 (fun x => [.int .u64 x.Term, .int .u64 x.Index]) (fun _ => rfl) (fun _ => rfl)
def kT_api_Key : Kd T_api_Key := .flat 3 (fun x => [.int .u64 x.Saga, .int .i64 x.Step, .bool x.Back]) (fun _ => rfl) (fun _ => rfl)
def kT_tontineref18_Said : Kd T_tontineref18_Said := .flat 4 (fun x => [.int .u64 x.Key.Saga, .int .i64 x.Key.Step, .bool x.Key.Back, .bool x.Ok]) (fun _ => rfl) (fun _ => rfl)
def kT_tontineref18_Ledger : Kd T_tontineref18_Ledger where
  sz := 6
  rel := fun w R x cs => ∃ A2 c2 A3 c3 A4 c4 A5 c5, cs = [.int .u64 x.Fence.Term, .int .u64 x.Fence.Index, .slice A2 (x.Keys).length c2, .slice A3 (x.Names).length c3, .slice A4 (x.Good).length c4, .slice A5 (x.Dead).length c5] ∧ RowIn kT_api_Key w R R A2 c2 x.Keys ∧ RowIn Kd.str w R R A3 c3 x.Names ∧ RowIn kT_tontineref18_Said w R R A4 c4 x.Good ∧ RowIn kT_api_Key w R R A5 c5 x.Dead
  len := fun ⟨_, _, _, _, _, _, _, _, h, _⟩ => by subst h; rfl
  one := fun ⟨_, _, _, _, _, _, _, _, h, _⟩ => by subst h; exact allOne_ok rfl
  st := fun hR ⟨A2, c2, A3, c3, A4, c4, A5, c5, h, h2, h3, h4, h5⟩ => ⟨A2, c2, A3, c3, A4, c4, A5, c5, h, h2.st hR hR, h3.st hR hR, h4.st hR hR, h5.st hR hR⟩
def oT_tontineref18_Ledger (x : T_tontineref18_Ledger) : Opn kT_tontineref18_Ledger x where
  ε := (Option Addr × Nat × Option Addr × Nat × Option Addr × Nat × Option Addr × Nat)
  cells := fun e => [.int .u64 x.Fence.Term, .int .u64 x.Fence.Index, .slice e.1 (x.Keys).length e.2.1, .slice e.2.2.1 (x.Names).length e.2.2.2.1, .slice e.2.2.2.2.1 (x.Good).length e.2.2.2.2.2.1, .slice e.2.2.2.2.2.2.1 (x.Dead).length e.2.2.2.2.2.2.2]
  newB := fun e => [Rd 0 kT_api_Key e.1 e.2.1 x.Keys, Rd 0 Kd.str e.2.2.1 e.2.2.2.1 x.Names, Rd 0 kT_tontineref18_Said e.2.2.2.2.1 e.2.2.2.2.2.1 x.Good, Rd 0 kT_api_Key e.2.2.2.2.2.2.1 e.2.2.2.2.2.2.2 x.Dead]
  ok := fun w S cs ⟨A2, c2, A3, c3, A4, c4, A5, c5, h, h2, h3, h4, h5⟩ => ⟨⟨A2, c2, A3, c3, A4, c4, A5, c5⟩, h, fun f hf => by
    simp only [List.mem_cons, List.mem_nil_iff, or_false] at hf
    rcases hf with rfl | rfl | rfl | rfl
    · exact h2
    · exact h3
    · exact h4
    · exact h5⟩
def kT_tontinelaw10_Call : Kd T_tontinelaw10_Call where
  sz := 12
  rel := fun w R x cs => ∃ A10 c10, cs = [.int .i64 x.Kind, .int .i64 x.I, .int .i64 x.Letter.Kind, .int .i64 x.Letter.From, .int .i64 x.Letter.To, .int .u64 x.Letter.Term, .int .u64 x.Letter.Index, .int .u64 x.Letter.Prev, .int .u64 x.Letter.Commit, .bool x.Letter.Ok, .slice A10 (x.Letter.Entries).length c10, .string (bs x.Letter.Data)] ∧ RowIn kT_api_Entry w R R A10 c10 x.Letter.Entries
  len := fun ⟨_, _, h, _⟩ => by subst h; rfl
  one := fun ⟨_, _, h, _⟩ => by subst h; exact allOne_ok rfl
  st := fun hR ⟨A10, c10, h, h10⟩ => ⟨A10, c10, h, h10.st hR hR⟩
def oT_tontinelaw10_Call (x : T_tontinelaw10_Call) : Opn kT_tontinelaw10_Call x where
  ε := (Option Addr × Nat)
  cells := fun e => [.int .i64 x.Kind, .int .i64 x.I, .int .i64 x.Letter.Kind, .int .i64 x.Letter.From, .int .i64 x.Letter.To, .int .u64 x.Letter.Term, .int .u64 x.Letter.Index, .int .u64 x.Letter.Prev, .int .u64 x.Letter.Commit, .bool x.Letter.Ok, .slice e.1 (x.Letter.Entries).length e.2, .string (bs x.Letter.Data)]
  newB := fun e => [Rd 0 kT_api_Entry e.1 e.2 x.Letter.Entries]
  ok := fun w S cs ⟨A10, c10, h, h10⟩ => ⟨⟨A10, c10⟩, h, fun f hf => by
    simp only [List.mem_cons, List.mem_nil_iff, or_false] at hf
    subst hf; exact h10⟩
def kT_tontineref10_Net : Kd T_tontineref10_Net where
  sz := 2
  rel := fun w R x cs => ∃ A0 c0, cs = [.slice A0 (x.L).length c0, .int .i64 x.Lost] ∧ RowIn kT_api_Letter w R R A0 c0 x.L
  len := fun ⟨_, _, h, _⟩ => by subst h; rfl
  one := fun ⟨_, _, h, _⟩ => by subst h; exact allOne_ok rfl
  st := fun hR ⟨A0, c0, h, h0⟩ => ⟨A0, c0, h, h0.st hR hR⟩
def oT_tontineref10_Net (x : T_tontineref10_Net) : Opn kT_tontineref10_Net x where
  ε := (Option Addr × Nat)
  cells := fun e => [.slice e.1 (x.L).length e.2, .int .i64 x.Lost]
  newB := fun e => [Rd 0 kT_api_Letter e.1 e.2 x.L]
  ok := fun w S cs ⟨A0, c0, h, h0⟩ => ⟨⟨A0, c0⟩, h, fun f hf => by
    simp only [List.mem_cons, List.mem_nil_iff, or_false] at hf
    subst hf; exact h0⟩
end Go.GL
