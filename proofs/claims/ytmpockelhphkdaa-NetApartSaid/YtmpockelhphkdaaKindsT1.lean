import Derived.Test.YtmpockelhphkdaaPureT1
set_option linter.unusedVariables false
namespace Go.GL
open Go

def kT_api_Entry : Kd T_api_Entry := .flat 4 (fun x => [.int .u64 x.Term, .int .u64 x.Index, .int .i64 x.Kind, .string (bs x.Data)]) (fun _ => rfl) (fun _ => rfl)
def kT_api_Letter : Kd T_api_Letter where
  sz := 10
  rel := fun w R x cs => ∃ A8 c8, cs = [.int .i64 x.Kind, .int .i64 x.From, .int .i64 x.To, .int .u64 x.Term, .int .u64 x.Index, .int .u64 x.Prev, .int .u64 x.Commit, .bool x.Ok, .slice A8 (x.Entries).length c8, .string (bs x.Data)] ∧ RowIn kT_api_Entry w R R A8 c8 x.Entries
  len := fun ⟨_, _, h, _⟩ => by subst h; rfl
  one := fun ⟨_, _, h, _⟩ => by subst h; exact allOne_ok rfl
  st := fun hR ⟨A8, c8, h, h8⟩ => ⟨A8, c8, h, h8.st hR hR⟩
def dT_api_Letter : Dk T_api_Letter T_api_Entry where
  inn := kT_api_Entry
  get := fun x => x.Entries
  sz := 10
  cells := fun x A8 c8 => [.int .i64 x.Kind, .int .i64 x.From, .int .i64 x.To, .int .u64 x.Term, .int .u64 x.Index, .int .u64 x.Prev, .int .u64 x.Commit, .bool x.Ok, .slice A8 (x.Entries).length c8, .string (bs x.Data)]
  len := fun _ _ _ => rfl
  one := fun _ _ _ => rfl
  flat := fun h => h
def oT_api_Letter (x : T_api_Letter) : Opn kT_api_Letter x where
  ε := (Option Addr × Nat)
  cells := fun e => [.int .i64 x.Kind, .int .i64 x.From, .int .i64 x.To, .int .u64 x.Term, .int .u64 x.Index, .int .u64 x.Prev, .int .u64 x.Commit, .bool x.Ok, .slice e.1 (x.Entries).length e.2, .string (bs x.Data)]
  newB := fun e => [Rd 0 kT_api_Entry e.1 e.2 x.Entries]
  ok := fun w S cs ⟨A8, c8, h, h8⟩ => ⟨⟨A8, c8⟩, h, fun f hf => by
    simp only [List.mem_cons, List.mem_nil_iff, or_false] at hf
    subst hf; exact h8⟩
def kT_net_Net : Kd T_net_Net where
  sz := 2
  rel := fun w R x cs => ∃ A0 c0, cs = [.slice A0 (x.l).length c0, .int .i64 x.lost] ∧ RowIn kT_api_Letter w R R A0 c0 x.l
  len := fun ⟨_, _, h, _⟩ => by subst h; rfl
  one := fun ⟨_, _, h, _⟩ => by subst h; exact allOne_ok rfl
  st := fun hR ⟨A0, c0, h, h0⟩ => ⟨A0, c0, h, h0.st hR hR⟩
def oT_net_Net (x : T_net_Net) : Opn kT_net_Net x where
  ε := (Option Addr × Nat)
  cells := fun e => [.slice e.1 (x.l).length e.2, .int .i64 x.lost]
  newB := fun e => [Rd 0 kT_api_Letter e.1 e.2 x.l]
  ok := fun w S cs ⟨A0, c0, h, h0⟩ => ⟨⟨A0, c0⟩, h, fun f hf => by
    simp only [List.mem_cons, List.mem_nil_iff, or_false] at hf
    subst hf; exact h0⟩
def kT_tontinelaw10_Call : Kd T_tontinelaw10_Call where
  sz := 12
  rel := fun w R x cs => ∃ A10 c10, cs = [.int .i64 x.Kind, .int .i64 x.I, .int .i64 x.Letter.Kind, .int .i64 x.Letter.From, .int .i64 x.Letter.To, .int .u64 x.Letter.Term, .int .u64 x.Letter.Index, .int .u64 x.Letter.Prev, .int .u64 x.Letter.Commit, .bool x.Letter.Ok, .slice A10 (x.Letter.Entries).length c10, .string (bs x.Letter.Data)] ∧ RowIn kT_api_Entry w R R A10 c10 x.Letter.Entries
  len := fun ⟨_, _, h, _⟩ => by subst h; rfl
  one := fun ⟨_, _, h, _⟩ => by subst h; exact allOne_ok rfl
  st := fun hR ⟨A10, c10, h, h10⟩ => ⟨A10, c10, h, h10.st hR hR⟩
def dT_tontinelaw10_Call : Dk T_tontinelaw10_Call T_api_Entry where
  inn := kT_api_Entry
  get := fun x => x.Letter.Entries
  sz := 12
  cells := fun x A10 c10 => [.int .i64 x.Kind, .int .i64 x.I, .int .i64 x.Letter.Kind, .int .i64 x.Letter.From, .int .i64 x.Letter.To, .int .u64 x.Letter.Term, .int .u64 x.Letter.Index, .int .u64 x.Letter.Prev, .int .u64 x.Letter.Commit, .bool x.Letter.Ok, .slice A10 (x.Letter.Entries).length c10, .string (bs x.Letter.Data)]
  len := fun _ _ _ => rfl
  one := fun _ _ _ => rfl
  flat := fun h => h
def oT_tontinelaw10_Call (x : T_tontinelaw10_Call) : Opn kT_tontinelaw10_Call x where
  ε := (Option Addr × Nat)
  cells := fun e => [.int .i64 x.Kind, .int .i64 x.I, .int .i64 x.Letter.Kind, .int .i64 x.Letter.From, .int .i64 x.Letter.To, .int .u64 x.Letter.Term, .int .u64 x.Letter.Index, .int .u64 x.Letter.Prev, .int .u64 x.Letter.Commit, .bool x.Letter.Ok, .slice e.1 (x.Letter.Entries).length e.2, .string (bs x.Letter.Data)]
  newB := fun e => [Rd 0 kT_api_Entry e.1 e.2 x.Letter.Entries]
  ok := fun w S cs ⟨A10, c10, h, h10⟩ => ⟨⟨A10, c10⟩, h, fun f hf => by
    simp only [List.mem_cons, List.mem_nil_iff, or_false] at hf
    subst hf; exact h10⟩
def kT_tontineref10_Net : Kd T_tontineref10_Net where
  sz := 2
  rel := fun w R x cs => ∃ A0 c0, cs = [.slice A0 (x.L).length c0, .int .i64 x.Lost] ∧ RowIn kT_api_Letter w R R A0 c0 x.L
  len := fun ⟨_, _, h, _⟩ => by subst h; rfl
  one := fun ⟨_, _, h, _⟩ => by subst h; exact allOne_ok rfl
  st := fun hR ⟨A0, c0, h, h0⟩ => ⟨A0, c0, h, h0.st hR hR⟩
def oT_tontineref10_Net (x : T_tontineref10_Net) : Opn kT_tontineref10_Net x where
  ε := (Option Addr × Nat)
  cells := fun e => [.slice e.1 (x.L).length e.2, .int .i64 x.Lost]
  newB := fun e => [Rd 0 kT_api_Letter e.1 e.2 x.L]
  ok := fun w S cs ⟨A0, c0, h, h0⟩ => ⟨⟨A0, c0⟩, h, fun f hf => by
    simp only [List.mem_cons, List.mem_nil_iff, or_false] at hf
    subst hf; exact h0⟩
end Go.GL
