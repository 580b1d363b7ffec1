/- The law SessionRuns, over the plain functions. -/
import Derived.Test.YtciohdgjlcaokaaSessB
set_option linter.unusedVariables false
set_option linter.unusedSimpArgs false
set_option maxRecDepth 10000
namespace Go.GL
open Go
theorem sr_j0 (n : Nat) (hn : 2000 ≤ n) (t : T_session_Table) (h : TW t) : tontinelaw15_SessionRuns.j0 n t.now t.next t.rows (refT t).Now (refT t).Next (refT t).Rows = some true := by
  unfold tontinelaw15_SessionRuns.j0 pack_Writer_Bytes.f
  rw [f_Write n hn ⟨t.now, t.next, t.rows⟩ h ⟨[]⟩ (by simp), Option.bind_some, Option.bind_some]
  have : tontineref15_Table_Bytes.f n ⟨(refT t).Now, (refT t).Next, (refT t).Rows⟩ = some (tabB t) := r_Bytes n hn t h
  rw [this, Option.bind_some]
  congr 1
  simp
theorem sr_l0 (n : Nat) (hn : 2000 ≤ n) (cs : List T_tontinelaw15_Call) (hc : ∀ c ∈ cs, wf_T_tontinelaw15_Call c) : ∀ (j k i : Nat) (t : T_session_Table), TW t → i + j = 500 → j < k →
    tontinelaw15_SessionRuns.l0 n cs k t.now t.next t.rows (refT t).Now (refT t).Next (refT t).Rows (i : Int) = some true
  | j, 0, i, _, _, _, h => by omega
  | 0, k + 1, i, t, h, hi, _ => by
    unfold tontinelaw15_SessionRuns.l0
    have : i = 500 := by omega
    subst this
    split
    · rename_i hl
      have hl : (500 : Int) < (cs.length : Int) := of_decide_eq_true hl
      rw [if_pos ⟨by omega, by omega⟩, if_pos (by rfl)]
      exact sr_j0 n hn t h
    · exact sr_j0 n hn t h
  | j + 1, k + 1, i, t, h, hi, hk => by
    unfold tontinelaw15_SessionRuns.l0
    split
    rotate_left
    · exact sr_j0 n hn t h
    rename_i hl
    have hl : (i : Int) < (cs.length : Int) := of_decide_eq_true hl
    rw [if_pos ⟨by omega, by omega⟩, if_neg (by rw [beq_iff_eq]; omega), wi64_id (by omega) (by omega), show ((i : Int) + 1) = ((i + 1 : Nat) : Int) by omega]
    obtain ⟨t', h', e⟩ := f_both n hn t h (rdL cs (i : Int)) (hc _ (rdL_mem (by omega)))
    have e : tontinelaw15_both.f n ⟨t.now, t.next, t.rows⟩ ⟨(refT t).Now, (refT t).Next, (refT t).Rows⟩ ⟨(rdL cs (i : Int)).Kind, (rdL cs (i : Int)).Id, (rdL cs (i : Int)).Seq, (⟨(rdL cs (i : Int)).Reply.Err, (rdL cs (i : Int)).Reply.Num, (rdL cs (i : Int)).Reply.Extra⟩ : T_api_Reply)⟩ = some (true, t', refT t') := e
    rw [e, Option.bind_some, if_neg (by simp), f_alike n t' (by have := h'.len; omega) hn, Option.bind_some, if_neg (by simp)]
    exact sr_l0 n hn cs hc j k (i + 1) t' h' (by omega) (by omega)
theorem tontinelaw15_SessionRuns_law (cs : List T_tontinelaw15_Call) (h : cs.length * 48 ≤ reachBytes ∧ ∀ x ∈ cs, wf_T_tontinelaw15_Call x) : Ev (fun n => tontinelaw15_SessionRuns.f n cs) true := by
  refine Ev.ge 3000 fun n hn => ?_
  unfold tontinelaw15_SessionRuns.f
  rw [begun15 n (by omega), Option.bind_some, if_neg (by simp)]
  unfold session_New.f
  rw [Option.bind_some]
  exact sr_l0 n (by omega) cs h.2 500 n 0 ⟨0, 1, []⟩ tw_new (by omega) (by omega)
end Go.GL
