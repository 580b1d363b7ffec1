/- Sessions: both tables, call by call. -/
import Derived.Test.YtciohdgjlcaokaaSessR
set_option linter.unusedVariables false
set_option linter.unusedSimpArgs false
set_option maxRecDepth 10000
namespace Go.GL
open Go
def wf_T_api_Reply (x : T_api_Reply) : Prop := (fun n => (Lit.int .i64 n).wf = true) x.Err ∧ (fun n => (Lit.int .u64 n).wf = true) x.Num ∧ (fun n => (Lit.int .u64 n).wf = true) x.Extra
def ms_T_api_Reply (x : T_api_Reply) : Nat := (fun _ => 1) x.Err + (fun _ => 1) x.Num + (fun _ => 1) x.Extra
def wf_T_tontinelaw15_Call (x : T_tontinelaw15_Call) : Prop := (fun n => (Lit.int .i64 n).wf = true) x.Kind ∧ (fun n => (Lit.int .u64 n).wf = true) x.Id ∧ (fun n => (Lit.int .u64 n).wf = true) x.Seq ∧ wf_T_api_Reply x.Reply
def ms_T_tontinelaw15_Call (x : T_tontinelaw15_Call) : Nat := (fun _ => 1) x.Kind + (fun _ => 1) x.Id + (fun _ => 1) x.Seq + ms_T_api_Reply x.Reply
theorem tw_new : TW ⟨0, 1, []⟩ := ⟨by simp, by simp, by simp, by simp⟩
theorem f_both (n : Nat) (hn : 2000 ≤ n) (t : T_session_Table) (h : TW t) (c : T_tontinelaw15_Call) (hc : wf_T_tontinelaw15_Call c) : ∃ t', TW t' ∧ tontinelaw15_both.f n t (refT t) c = some (true, t', refT t') := by
  have h0 := h.len
  have hx := h.next
  have hid := wf_u64 hc.2.1
  have hseq := wf_u64 hc.2.2.1
  have hnum := wf_u64 hc.2.2.2.2.1
  have hex := wf_u64 hc.2.2.2.2.2
  unfold tontinelaw15_both.f
  split
  · rw [f_Clock n t c.Id (by omega) hn, Option.bind_some, r_Clock n t c.Id h hid hn, Option.bind_some]
    exact ⟨_, tw_clock h c.Id hid, rfl⟩
  split
  · rw [f_Reg n t (by omega) hx.2, Option.bind_some, r_Reg n t h, Option.bind_some, if_pos (by simp)]
    exact ⟨_, tw_reg h, by simp⟩
  split
  · rw [f_Begin n t c.Id c.Seq (by omega) hn, Option.bind_some, r_Begin n t c.Id c.Seq h hseq hn, Option.bind_some, if_pos (by simp)]
    exact ⟨_, tw_begin h c.Id c.Seq, by simp⟩
  · rw [f_End n t c.Id c.Seq _ (by omega) hn, Option.bind_some, r_End n t c.Id c.Seq _ h hseq hn, Option.bind_some]
    exact ⟨_, tw_end h c.Id c.Seq _ hseq hnum hex, by simp⟩
end Go.GL
