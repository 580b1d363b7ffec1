/- The law RlogNone, over the plain functions. -/
import Derived.Test.YtolipnnfdclkoaaPlain
set_option linter.unusedVariables false
set_option linter.unusedSimpArgs false
set_option maxRecDepth 10000
namespace Go.GL
open Go
def wf_T_api_Snapshot (x : T_api_Snapshot) : Prop := (fun n => (Lit.int .u64 n).wf = true) x.Index ∧ (fun n => (Lit.int .u64 n).wf = true) x.Term ∧ (fun n => (Lit.int .u64 n).wf = true) x.Config ∧ (fun l => l.length ≤ reachBytes) x.Data
def ms_T_api_Snapshot (x : T_api_Snapshot) : Nat := (fun _ => 1) x.Index + (fun _ => 1) x.Term + (fun _ => 1) x.Config + (fun l => l.length + 1) x.Data
theorem tontinelaw07_RlogNone_law (i n2 : Int) (s : T_api_Snapshot) (h1 : (Lit.int .u64 i).wf = true) (h2 : (Lit.int .i64 n2).wf = true) (h3 : wf_T_api_Snapshot s) : Ev (fun n => tontinelaw07_RlogNone.f n i n2 s) true := by
  refine Ev.ge 2000 fun n hn => ?_
  have hi := wf_u64 h1
  unfold tontinelaw07_RlogNone.f
  rw [begun07 n (by omega), Option.bind_some, if_neg (by simp)]
  have e1 : rlog_Config.f n i = some (enc i.toNat) := by
    unfold rlog_Config.f
    rw [w_Num n (by omega) ⟨[]⟩ (by simp) hi, Option.bind_some]
    rfl
  have e2 : tontineref07_Config.f n i = some (enc i.toNat) := by
    unfold tontineref07_Config.f
    rw [ref_Num n (by omega) hi, Option.bind_some]
  have e3 : rlog_Log_Get_n0.f n i n2 = some [] := rfl
  have e4 : rlog_Log_Merge_n0.f n i i [] = some ([], false) := rfl
  simp [rlog_Log_Cut_n0.f, rlog_Log_at_n0.f, rlog_Log_Last_n0.f, rlog_Log_Members_n0.f, rlog_Log_MembersAt_n0.f, rlog_Log_Term_n0.f, rlog_Log_Add_n0.f, rlog_Log_First_n0.f, rlog_Log_Compact_n0.f, rlog_Log_Install_n0.f, e1, e2, e3, e4]
end Go.GL
