/- The law RlogStays, over the plain functions. -/
import Derived.Test.YtolipnnfdclkoaaXLogI
set_option linter.unusedVariables false
set_option linter.unusedSimpArgs false
set_option maxRecDepth 10000
namespace Go.GL
open Go
theorem rs_l3 (n : Nat) (hn : 2000000 ≤ n) (cs : List T_tontinelaw07_Call) (hc : ∀ c ∈ cs, wf_T_tontinelaw07_Call c) (hcl : ∀ c ∈ cs, c.L.length ≤ 1048576) (hl : cs.length ≤ 1048576) : ∀ (j k x : Nat) (g : T_rlog_Log), LI g → x + j = cs.length → j < k → g.entries.length + (cs.length - x) + wsum (cs.drop x) ≤ 800 →
    tontinelaw07_RlogStays.l3 n cs k g.snap.Index g.snap.Term g.snap.Config g.snap.Data g.entries (refL g).Snap.Index (refL g).Snap.Term (refL g).Snap.Config (refL g).Snap.Data (refL g).L (x : Int) = some true
  | j, 0, x, _, _, _, h, _ => by omega
  | 0, k + 1, x, g, h, hx, _, hw => by
    unfold tontinelaw07_RlogStays.l3
    rw [if_neg (by rw [decide_eq_true_eq]; omega)]
    
  | j + 1, k + 1, x, g, h, hx, hk, hw => by
    have hlt : x < cs.length := by omega
    have hm := rdL_mem hlt
    have hwf := hc _ hm
    have hcl1 := hcl _ hm
    have w : wi64 ((x : Int) + 1) = ((x + 1 : Nat) : Int) := by rw [wi64_id (by omega) (by omega)]; omega
    rw [getD_drop hlt] at hw
    simp only [wsum, List.map_cons, List.sum_cons] at hw
    obtain ⟨g', h', hl', e⟩ := f_both n g h (rdL cs (x : Int)) hwf (by omega) (by omega)
    have e : tontinelaw07_both.f n (⟨(⟨g.snap.Index, g.snap.Term, g.snap.Config, g.snap.Data⟩ : T_api_Snapshot), g.entries⟩ : T_rlog_Log) (⟨(⟨(refL g).Snap.Index, (refL g).Snap.Term, (refL g).Snap.Config, (refL g).Snap.Data⟩ : T_api_Snapshot), (refL g).L⟩ : T_tontineref07_Log) (⟨(rdL cs (x : Int)).Kind, (rdL cs (x : Int)).Index, (rdL cs (x : Int)).Term, (rdL cs (x : Int)).What, (rdL cs (x : Int)).Data, (rdL cs (x : Int)).L, (⟨(rdL cs (x : Int)).Snap.Index, (rdL cs (x : Int)).Snap.Term, (rdL cs (x : Int)).Snap.Config, (rdL cs (x : Int)).Snap.Data⟩ : T_api_Snapshot)⟩ : T_tontinelaw07_Call) = some (true, g', refL g') := e
    unfold tontinelaw07_RlogStays.l3
    rw [if_pos (by rw [decide_eq_true_eq]; omega), if_pos ⟨by omega, by omega⟩, e, Option.bind_some]
    have f1 : rlog_Log_First.f n (⟨(⟨g'.snap.Index, g'.snap.Term, g'.snap.Config, g'.snap.Data⟩ : T_api_Snapshot), g'.entries⟩ : T_rlog_Log) = some g'.snap := rfl
    have hsu : 0 ≤ wu64 (g'.snap.Index + 1) ∧ wu64 (g'.snap.Index + 1) ≤ 18446744073709551615 := by have := h'.ix; rw [next_u64 this]; split <;> omega
    have f2 : rlog_Log_Get.f n (⟨(⟨g'.snap.Index, g'.snap.Term, g'.snap.Config, g'.snap.Data⟩ : T_api_Snapshot), g'.entries⟩ : T_rlog_Log) (wu64 (g'.snap.Index + 1)) 2000 = some g'.entries := by
      refine (p_Get n g' (wu64 (g'.snap.Index + 1)) 2000 h'.ix hsu (by omega)).trans ?_
      rw [show (2000 : Int) = ((2000 : Nat) : Int) by rfl, get_whole g' h' 2000 (by omega)]
    have hcf : 0 ≤ g'.snap.Config ∧ g'.snap.Config ≤ 18446744073709551615 := by have := h'.cf; unfold soundC at this; have := of_decide_eq_true this; omega
    have f3 : rlog_New.f n g'.snap g'.entries = some (some g', 0) := by
      rw [p_New n g'.snap g'.entries (by omega) h'.ix hcf (by omega) h'.dat]
      unfold newM
      rw [h'.cf, h'.ch]
      rfl
    have ea : tontinelaw07_alike.f n (⟨(⟨g'.snap.Index, g'.snap.Term, g'.snap.Config, g'.snap.Data⟩ : T_api_Snapshot), g'.entries⟩ : T_rlog_Log) (⟨(⟨(refL g').Snap.Index, (refL g').Snap.Term, (refL g').Snap.Config, (refL g').Snap.Data⟩ : T_api_Snapshot), (refL g').L⟩ : T_tontineref07_Log) (rdL cs (x : Int)).Index (rdL cs (x : Int)).What = some true := f_alike n (by omega) g' h' _ _ (wf_u64 hwf.2.1) (by omega)
    simp only
    rw [f1, Option.bind_some, Option.bind_some, f2, Option.bind_some, f3, Option.bind_some]
    simp only
    rw [if_neg (by simp), ea, Option.bind_some, if_neg (by simp)]
    rw [w]
    exact rs_l3 n hn cs hc hcl hl j k (x + 1) g' h' (by omega) (by omega) (by simp only [wsum]; omega)
theorem tontinelaw07_RlogStays_law (s : T_api_Snapshot) (l : List T_api_Entry) (cs : List T_tontinelaw07_Call) (h1 : wf_T_api_Snapshot s) (h2 : l.length * 40 ≤ reachBytes ∧ ∀ x ∈ l, wf_T_api_Entry x) (h3 : cs.length * 112 ≤ reachBytes ∧ ∀ x ∈ cs, wf_T_tontinelaw07_Call x)
    (hsm : ms_T_api_Snapshot s + (fun xs : List T_api_Entry => (xs.map ms_T_api_Entry).sum + 1) l + (fun xs : List T_tontinelaw07_Call => (xs.map ms_T_tontinelaw07_Call).sum + 1) cs ≤ 1048576) : Ev (fun n => tontinelaw07_RlogStays.f n s l cs) true := by
  refine Ev.ge 3000000 fun n hn => ?_
  obtain ⟨q1, q2, q3, N, q4, q5⟩ := light_ge n s l cs hsm (by omega)
  have hd : ∀ e ∈ l, e.Data.length < 9000000000000000000 := fun e he => by have := (h2.2 e he).2.2.2; unfold reachBytes at this; omega
  have hu : ∀ e ∈ l, 0 ≤ e.Index ∧ e.Index ≤ 18446744073709551615 := fun e he => wf_u64 (h2.2 e he).2.1
  have hs := wf_u64 h1.1
  unfold tontinelaw07_RlogStays.f
  rw [begun07 n (by omega), Option.bind_some, if_neg (by simp), q5, Option.bind_some]
  by_cases hN : N ≤ 800
  rotate_left
  · rw [decide_eq_false (by omega : ¬ (N : Int) ≤ 800)]
    rfl
  rw [decide_eq_true (by omega : (N : Int) ≤ 800), if_neg (by simp), p_New n s l (by omega) hs (wf_u64 h1.2.2.1) (by omega) hd, Option.bind_some, r_New n s l (by omega) hs (by omega) hd hu]
  unfold newM
  by_cases hc : (soundC s.Config && chain s.Index s.Term l) = true
  rotate_left
  · rw [if_neg hc]
    rfl
  rw [if_pos hc]
  rw [Bool.and_eq_true] at hc
  have hg : LI ⟨s, l⟩ := ⟨hs, hc.1, hc.2, by show l.length ≤ 4000; omega⟩
  exact rs_l3 n (by omega) cs h3.2 q2 q3 cs.length n 0 ⟨s, l⟩ hg (by omega) (by omega) (by rw [List.drop_zero]; show l.length + _ + _ ≤ 800; omega)
end Go.GL
