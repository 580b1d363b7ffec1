/- The law ClientNone, over the plain functions. -/
import Derived.Test.YtolipnnfdclkoaaCBegun
set_option linter.unusedVariables false
set_option linter.unusedSimpArgs false
set_option maxRecDepth 10000
namespace Go.GL
open Go
def wf_T_api_Step (x : T_api_Step) : Prop := (fun n => (Lit.int .i64 n).wf = true) x.Part ∧ (fun l => l.length ≤ reachBytes) x.Name ∧ (fun n => (Lit.int .i64 n).wf = true) x.Budget
def ms_T_api_Step (x : T_api_Step) : Nat := (fun _ => 1) x.Part + (fun l => l.length + 1) x.Name + (fun _ => 1) x.Budget
def wf_T_api_Command (x : T_api_Command) : Prop := (fun n => (Lit.int .i64 n).wf = true) x.Kind ∧ (fun n => (Lit.int .u64 n).wf = true) x.Session ∧ (fun n => (Lit.int .u64 n).wf = true) x.Seq ∧ (fun n => (Lit.int .u64 n).wf = true) x.Saga ∧ (fun xs => xs.length * 32 ≤ reachBytes ∧ ∀ x ∈ xs, wf_T_api_Step x) x.Steps ∧ (fun n => (Lit.int .i64 n).wf = true) x.Step ∧ (fun _ => True) x.Back ∧ (fun n => (Lit.int .i64 n).wf = true) x.Try ∧ (fun _ => True) x.Ok ∧ (fun n => (Lit.int .u64 n).wf = true) x.Now
def ms_T_api_Command (x : T_api_Command) : Nat := (fun _ => 1) x.Kind + (fun _ => 1) x.Session + (fun _ => 1) x.Seq + (fun _ => 1) x.Saga + (fun xs => (xs.map ms_T_api_Step).sum + 1) x.Steps + (fun _ => 1) x.Step + (fun _ => 1) x.Back + (fun _ => 1) x.Try + (fun _ => 1) x.Ok + (fun _ => 1) x.Now
def wf_T_api_Entry (x : T_api_Entry) : Prop := (fun n => (Lit.int .u64 n).wf = true) x.Term ∧ (fun n => (Lit.int .u64 n).wf = true) x.Index ∧ (fun n => (Lit.int .i64 n).wf = true) x.Kind ∧ (fun l => l.length ≤ reachBytes) x.Data
def ms_T_api_Entry (x : T_api_Entry) : Nat := (fun _ => 1) x.Term + (fun _ => 1) x.Index + (fun _ => 1) x.Kind + (fun l => l.length + 1) x.Data
def wf_T_api_Letter (x : T_api_Letter) : Prop := (fun n => (Lit.int .i64 n).wf = true) x.Kind ∧ (fun n => (Lit.int .i64 n).wf = true) x.From ∧ (fun n => (Lit.int .i64 n).wf = true) x.To ∧ (fun n => (Lit.int .u64 n).wf = true) x.Term ∧ (fun n => (Lit.int .u64 n).wf = true) x.Index ∧ (fun n => (Lit.int .u64 n).wf = true) x.Prev ∧ (fun n => (Lit.int .u64 n).wf = true) x.Commit ∧ (fun _ => True) x.Ok ∧ (fun xs => xs.length * 40 ≤ reachBytes ∧ ∀ x ∈ xs, wf_T_api_Entry x) x.Entries ∧ (fun l => l.length ≤ reachBytes) x.Data
def ms_T_api_Letter (x : T_api_Letter) : Nat := (fun _ => 1) x.Kind + (fun _ => 1) x.From + (fun _ => 1) x.To + (fun _ => 1) x.Term + (fun _ => 1) x.Index + (fun _ => 1) x.Prev + (fun _ => 1) x.Commit + (fun _ => 1) x.Ok + (fun xs => (xs.map ms_T_api_Entry).sum + 1) x.Entries + (fun l => l.length + 1) x.Data
theorem tontinelaw21_ClientNone_law (x : T_api_Command) (y : T_api_Letter) (h1 : wf_T_api_Command x) (h2 : wf_T_api_Letter y) : Ev (fun n => tontinelaw21_ClientNone.f n x y) true := by
  refine Ev.ge 2000 fun n hn => ?_
  unfold tontinelaw21_ClientNone.f
  rw [begun21 n (by omega), Option.bind_some, if_neg (by simp)]
  obtain ⟨m, rfl⟩ : ∃ m, n = m + 40 := ⟨n - 40, by omega⟩
  rfl
end Go.GL
