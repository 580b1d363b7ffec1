import Derived.Test.YtolipnnfdclkoaaPureT2
set_option linter.unusedVariables false
namespace Go.GL
open Go

def kT_api_Step : Kd T_api_Step := .flat 3 (fun x => [.int .i64 x.Part, .string (bs x.Name), .int .i64 x.Budget]) (fun _ => rfl) (fun _ => rfl)
def kT_api_Command : Kd T_api_Command where
  sz := 10
  rel := fun w R x cs => ∃ A4 c4, cs = [.int .i64 x.Kind, .int .u64 x.Session, .int .u64 x.Seq, .int .u64 x.Saga, .slice A4 (x.Steps).length c4, .int .i64 x.Step, .bool x.Back, .int .i64 x.Try, .bool x.Ok, .int .u64 x.Now] ∧ RowIn kT_api_Step w R R A4 c4 x.Steps
  len := fun ⟨_, _, h, _⟩ => by subst h; rfl
  one := fun ⟨_, _, h, _⟩ => by subst h; exact allOne_ok rfl
  st := fun hR ⟨A4, c4, h, h4⟩ => ⟨A4, c4, h, h4.st hR hR⟩
def oT_api_Command (x : T_api_Command) : Opn kT_api_Command x where
  ε := (Option Addr × Nat)
  cells := fun e => [.int .i64 x.Kind, .int .u64 x.Session, .int .u64 x.Seq, .int .u64 x.Saga, .slice e.1 (x.Steps).length e.2, .int .i64 x.Step, .bool x.Back, .int .i64 x.Try, .bool x.Ok, .int .u64 x.Now]
  newB := fun e => [Rd 0 kT_api_Step e.1 e.2 x.Steps]
  ok := fun w S cs ⟨A4, c4, h, h4⟩ => ⟨⟨A4, c4⟩, h, fun f hf => by
    simp only [List.mem_cons, List.mem_nil_iff, or_false] at hf
    subst hf; exact h4⟩
def kT_client_Client : Kd T_client_Client where
  sz := 17
  rel := fun w R x cs => ∃ A9 c9, cs = [.int .i64 x.id, .int .u64 x.session, .int .u64 x.seq, .int .u64 x.call, .bool x.busy, .int .i64 x.now.Kind, .int .u64 x.now.Session, .int .u64 x.now.Seq, .int .u64 x.now.Saga, .slice A9 (x.now.Steps).length c9, .int .i64 x.now.Step, .bool x.now.Back, .int .i64 x.now.Try, .bool x.now.Ok, .int .u64 x.now.Now, .string (bs x.data), .int .i64 x.to_] ∧ RowIn kT_api_Step w R R A9 c9 x.now.Steps
  len := fun ⟨_, _, h, _⟩ => by subst h; rfl
  one := fun ⟨_, _, h, _⟩ => by subst h; exact allOne_ok rfl
  st := fun hR ⟨A9, c9, h, h9⟩ => ⟨A9, c9, h, h9.st hR hR⟩
def oT_client_Client (x : T_client_Client) : Opn kT_client_Client x where
  ε := (Option Addr × Nat)
  cells := fun e => [.int .i64 x.id, .int .u64 x.session, .int .u64 x.seq, .int .u64 x.call, .bool x.busy, .int .i64 x.now.Kind, .int .u64 x.now.Session, .int .u64 x.now.Seq, .int .u64 x.now.Saga, .slice e.1 (x.now.Steps).length e.2, .int .i64 x.now.Step, .bool x.now.Back, .int .i64 x.now.Try, .bool x.now.Ok, .int .u64 x.now.Now, .string (bs x.data), .int .i64 x.to_]
  newB := fun e => [Rd 0 kT_api_Step e.1 e.2 x.now.Steps]
  ok := fun w S cs ⟨A9, c9, h, h9⟩ => ⟨⟨A9, c9⟩, h, fun f hf => by
    simp only [List.mem_cons, List.mem_nil_iff, or_false] at hf
    subst hf; exact h9⟩
def kT_pack_Writer : Kd T_pack_Writer where
  sz := 1
  rel := fun w R x cs => ∃ A0 c0, cs = [.slice A0 (x.b).length c0] ∧ RowIn Kd.u8 w R R A0 c0 x.b
  len := fun ⟨_, _, h, _⟩ => by subst h; rfl
  one := fun ⟨_, _, h, _⟩ => by subst h; exact allOne_ok rfl
  st := fun hR ⟨A0, c0, h, h0⟩ => ⟨A0, c0, h, h0.st hR hR⟩
def oT_pack_Writer (x : T_pack_Writer) : Opn kT_pack_Writer x where
  ε := (Option Addr × Nat)
  cells := fun e => [.slice e.1 (x.b).length e.2]
  newB := fun e => [Rd 0 Kd.u8 e.1 e.2 x.b]
  ok := fun w S cs ⟨A0, c0, h, h0⟩ => ⟨⟨A0, c0⟩, h, fun f hf => by
    simp only [List.mem_cons, List.mem_nil_iff, or_false] at hf
    subst hf; exact h0⟩
def kT_api_Entry : Kd T_api_Entry := .flat 4 (fun x => [.int .u64 x.Term, .int .u64 x.Index, .int .i64 x.Kind, .string (bs x.Data)]) (fun _ => rfl) (fun _ => rfl)
def kT_api_Letter : Kd T_api_Letter where
  sz := 10
  rel := fun w R x cs => ∃ A8 c8, cs = [.int .i64 x.Kind, .int .i64 x.From, .int .i64 x.To, .int .u64 x.Term, .int .u64 x.Index, .int .u64 x.Prev, .int .u64 x.Commit, .bool x.Ok, .slice A8 (x.Entries).length c8, .string (bs x.Data)] ∧ RowIn kT_api_Entry w R R A8 c8 x.Entries
  len := fun ⟨_, _, h, _⟩ => by subst h; rfl
  one := fun ⟨_, _, h, _⟩ => by subst h; exact allOne_ok rfl
  st := fun hR ⟨A8, c8, h, h8⟩ => ⟨A8, c8, h, h8.st hR hR⟩
def oT_api_Letter (x : T_api_Letter) : Opn kT_api_Letter x where
  ε := (Option Addr × Nat)
  cells := fun e => [.int .i64 x.Kind, .int .i64 x.From, .int .i64 x.To, .int .u64 x.Term, .int .u64 x.Index, .int .u64 x.Prev, .int .u64 x.Commit, .bool x.Ok, .slice e.1 (x.Entries).length e.2, .string (bs x.Data)]
  newB := fun e => [Rd 0 kT_api_Entry e.1 e.2 x.Entries]
  ok := fun w S cs ⟨A8, c8, h, h8⟩ => ⟨⟨A8, c8⟩, h, fun f hf => by
    simp only [List.mem_cons, List.mem_nil_iff, or_false] at hf
    subst hf; exact h8⟩
def kT_api_Reply : Kd T_api_Reply := .flat 3 (fun x => [.int .i64 x.Err, .int .u64 x.Num, .int .u64 x.Extra]) (fun _ => rfl) (fun _ => rfl)
def kT_pack_Reader : Kd T_pack_Reader := .flat 2 (fun x => [.string (bs x.s), .bool x.bad]) (fun _ => rfl) (fun _ => rfl)
def kT_api_Told : Kd T_api_Told where
  sz := 14
  rel := fun w R x cs => ∃ A5 c5, cs = [.int .i64 x.Client, .int .i64 x.Command.Kind, .int .u64 x.Command.Session, .int .u64 x.Command.Seq, .int .u64 x.Command.Saga, .slice A5 (x.Command.Steps).length c5, .int .i64 x.Command.Step, .bool x.Command.Back, .int .i64 x.Command.Try, .bool x.Command.Ok, .int .u64 x.Command.Now, .int .i64 x.Reply.Err, .int .u64 x.Reply.Num, .int .u64 x.Reply.Extra] ∧ RowIn kT_api_Step w R R A5 c5 x.Command.Steps
  len := fun ⟨_, _, h, _⟩ => by subst h; rfl
  one := fun ⟨_, _, h, _⟩ => by subst h; exact allOne_ok rfl
  st := fun hR ⟨A5, c5, h, h5⟩ => ⟨A5, c5, h, h5.st hR hR⟩
def oT_api_Told (x : T_api_Told) : Opn kT_api_Told x where
  ε := (Option Addr × Nat)
  cells := fun e => [.int .i64 x.Client, .int .i64 x.Command.Kind, .int .u64 x.Command.Session, .int .u64 x.Command.Seq, .int .u64 x.Command.Saga, .slice e.1 (x.Command.Steps).length e.2, .int .i64 x.Command.Step, .bool x.Command.Back, .int .i64 x.Command.Try, .bool x.Command.Ok, .int .u64 x.Command.Now, .int .i64 x.Reply.Err, .int .u64 x.Reply.Num, .int .u64 x.Reply.Extra]
  newB := fun e => [Rd 0 kT_api_Step e.1 e.2 x.Command.Steps]
  ok := fun w S cs ⟨A5, c5, h, h5⟩ => ⟨⟨A5, c5⟩, h, fun f hf => by
    simp only [List.mem_cons, List.mem_nil_iff, or_false] at hf
    subst hf; exact h5⟩
def kT_tontineref03_Reader : Kd T_tontineref03_Reader := .flat 2 (fun x => [.string (bs x.S_), .bool x.Bad]) (fun _ => rfl) (fun _ => rfl)
def kT_tontinelaw21_Call : Kd T_tontinelaw21_Call where
  sz := 21
  rel := fun w R x cs => ∃ A5 c5 A19 c19, cs = [.int .i64 x.Kind, .int .i64 x.Command.Kind, .int .u64 x.Command.Session, .int .u64 x.Command.Seq, .int .u64 x.Command.Saga, .slice A5 (x.Command.Steps).length c5, .int .i64 x.Command.Step, .bool x.Command.Back, .int .i64 x.Command.Try, .bool x.Command.Ok, .int .u64 x.Command.Now, .int .i64 x.Letter.Kind, .int .i64 x.Letter.From, .int .i64 x.Letter.To, .int .u64 x.Letter.Term, .int .u64 x.Letter.Index, .int .u64 x.Letter.Prev, .int .u64 x.Letter.Commit, .bool x.Letter.Ok, .slice A19 (x.Letter.Entries).length c19, .string (bs x.Letter.Data)] ∧ RowIn kT_api_Step w R R A5 c5 x.Command.Steps ∧ RowIn kT_api_Entry w R R A19 c19 x.Letter.Entries
  len := fun ⟨_, _, _, _, h, _⟩ => by subst h; rfl
  one := fun ⟨_, _, _, _, h, _⟩ => by subst h; exact allOne_ok rfl
  st := fun hR ⟨A5, c5, A19, c19, h, h5, h19⟩ => ⟨A5, c5, A19, c19, h, h5.st hR hR, h19.st hR hR⟩
def oT_tontinelaw21_Call (x : T_tontinelaw21_Call) : Opn kT_tontinelaw21_Call x where
  ε := (Option Addr × Nat × Option Addr × Nat)
  cells := fun e => [.int .i64 x.Kind, .int .i64 x.Command.Kind, .int .u64 x.Command.Session, .int .u64 x.Command.Seq, .int .u64 x.Command.Saga, .slice e.1 (x.Command.Steps).length e.2.1, .int .i64 x.Command.Step, .bool x.Command.Back, .int .i64 x.Command.Try, .bool x.Command.Ok, .int .u64 x.Command.Now, .int .i64 x.Letter.Kind, .int .i64 x.Letter.From, .int .i64 x.Letter.To, .int .u64 x.Letter.Term, .int .u64 x.Letter.Index, .int .u64 x.Letter.Prev, .int .u64 x.Letter.Commit, .bool x.Letter.Ok, .slice e.2.2.1 (x.Letter.Entries).length e.2.2.2, .string (bs x.Letter.Data)]
  newB := fun e => [Rd 0 kT_api_Step e.1 e.2.1 x.Command.Steps, Rd 0 kT_api_Entry e.2.2.1 e.2.2.2 x.Letter.Entries]
  ok := fun w S cs ⟨A5, c5, A19, c19, h, h5, h19⟩ => ⟨⟨A5, c5, A19, c19⟩, h, fun f hf => by
    simp only [List.mem_cons, List.mem_nil_iff, or_false] at hf
    rcases hf with rfl | rfl
    · exact h5
    · exact h19⟩
def kT_tontineref21_Client : Kd T_tontineref21_Client where
  sz := 16
  rel := fun w R x cs => ∃ A9 c9, cs = [.int .i64 x.Id, .int .u64 x.Session, .int .u64 x.Last, .int .u64 x.Calls, .bool x.Busy, .int .i64 x.Now.Kind, .int .u64 x.Now.Session, .int .u64 x.Now.Seq, .int .u64 x.Now.Saga, .slice A9 (x.Now.Steps).length c9, .int .i64 x.Now.Step, .bool x.Now.Back, .int .i64 x.Now.Try, .bool x.Now.Ok, .int .u64 x.Now.Now, .int .i64 x.To] ∧ RowIn kT_api_Step w R R A9 c9 x.Now.Steps
  len := fun ⟨_, _, h, _⟩ => by subst h; rfl
  one := fun ⟨_, _, h, _⟩ => by subst h; exact allOne_ok rfl
  st := fun hR ⟨A9, c9, h, h9⟩ => ⟨A9, c9, h, h9.st hR hR⟩
def oT_tontineref21_Client (x : T_tontineref21_Client) : Opn kT_tontineref21_Client x where
  ε := (Option Addr × Nat)
  cells := fun e => [.int .i64 x.Id, .int .u64 x.Session, .int .u64 x.Last, .int .u64 x.Calls, .bool x.Busy, .int .i64 x.Now.Kind, .int .u64 x.Now.Session, .int .u64 x.Now.Seq, .int .u64 x.Now.Saga, .slice e.1 (x.Now.Steps).length e.2, .int .i64 x.Now.Step, .bool x.Now.Back, .int .i64 x.Now.Try, .bool x.Now.Ok, .int .u64 x.Now.Now, .int .i64 x.To]
  newB := fun e => [Rd 0 kT_api_Step e.1 e.2 x.Now.Steps]
  ok := fun w S cs ⟨A9, c9, h, h9⟩ => ⟨⟨A9, c9⟩, h, fun f hf => by
    simp only [List.mem_cons, List.mem_nil_iff, or_false] at hf
    subst hf; exact h9⟩
def kT_tontinelaw21_one : Kd T_tontinelaw21_one := .flat 2 (fun x => [.int .u64 x.session, .int .u64 x.seq]) (fun _ => rfl) (fun _ => rfl)
end Go.GL
