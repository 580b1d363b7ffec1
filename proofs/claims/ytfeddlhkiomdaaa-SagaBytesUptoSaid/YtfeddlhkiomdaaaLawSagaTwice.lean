/- The law SagaTwice, over the plain functions. -/
import Derived.Test.YtfeddlhkiomdaaaSaga2
set_option linter.unusedVariables false
set_option linter.unusedSimpArgs false
set_option maxRecDepth 10000
namespace Go.GL
open Go
def wf_T_api_Saga (x : T_api_Saga) : Prop := (fun xs => xs.length * 32 ≤ reachBytes ∧ ∀ x ∈ xs, wf_T_api_Step x) x.Steps ∧ (fun n => (Lit.int .i64 n).wf = true) x.State ∧ (fun n => (Lit.int .i64 n).wf = true) x.Cursor ∧ (fun n => (Lit.int .i64 n).wf = true) x.Failed
def ms_T_api_Saga (x : T_api_Saga) : Nat := (fun xs => (xs.map ms_T_api_Step).sum + 1) x.Steps + (fun _ => 1) x.State + (fun _ => 1) x.Cursor + (fun _ => 1) x.Failed
def wf_T_tontinelaw14_Call (x : T_tontinelaw14_Call) : Prop := (fun n => (Lit.int .i64 n).wf = true) x.Step ∧ (fun _ => True) x.Taken ∧ (fun n => (Lit.int .i64 n).wf = true) x.Try ∧ (fun _ => True) x.Ok
def ms_T_tontinelaw14_Call (x : T_tontinelaw14_Call) : Nat := (fun _ => 1) x.Step + (fun _ => 1) x.Taken + (fun _ => 1) x.Try + (fun _ => 1) x.Ok
theorem steps_len {x : T_api_Saga} (h : wf_T_api_Saga x) : x.Steps.length ≤ 1000000000000000 := by
  have := h.1.1
  unfold reachBytes at this
  omega
theorem not_again {s : T_api_Saga} {step tr : Int} {taken ok : Bool} (h : takes s step taken tr ok) : ¬ takes (nextS s taken ok) step taken tr ok := by
  obtain ⟨hs, h2, h3, h4, h5⟩ := h
  have hst := hs.2.2
  have hc : within s := by
    rcases hst with h | h | h | h | h
    · exact h.2.1
    · exact h.2.1
    · have := h.1; omega
    · have := h.1; omega
    · exact h.2.1
  have hc1 := hc.1
  intro q
  obtain ⟨q1, q2, q3, q4, q5⟩ := q
  unfold nextS at q2 q3 q4 q5
  cases taken with
  | false =>
    cases ok with
    | true =>
      simp only [true_and, if_true] at q2 q3 q4 q5
      split at q3
      · have q3 : step = s.Cursor + 1 := q3
        omega
      · have q3 : step = s.Cursor + 1 := q3
        omega
    | false =>
      simp only [Bool.false_eq_true, and_false, false_and, if_false] at q2 q3 q4 q5
      unfold backS at q2 q4
      split at q4
      · rename_i hlt
        rw [if_pos hlt] at q2
        have q2 : (4 : Int) ≤ 2 := q2
        omega
      · cases q4
  | true =>
    cases ok with
    | true =>
      simp only [Bool.true_eq_false, and_false, false_and, if_false] at q2 q3 q4 q5
      unfold backS at q2 q3
      split at q3
      · rename_i hlt
        rw [if_pos hlt] at q2
        have q2 : (4 : Int) ≤ 2 := q2
        omega
      · have q3 : step = s.Cursor - 1 := q3
        omega
    | false =>
      simp only [Bool.true_eq_false, Bool.false_eq_true, and_false, false_and, and_true, true_and, if_false, if_true] at q2 q3 q4 q5
      split at q2
      · have q2 : (5 : Int) ≤ 2 := q2
        omega
      · rename_i hne
        rw [if_neg hne] at q5
        have q5 : tr = s.Failed + 1 := q5.elim (fun z => by cases z) id
        have h5 : tr = s.Failed := h5.elim (fun z => by cases z) id
        omega
theorem tontinelaw14_SagaTwice_law (s : T_api_Saga) (c : T_tontinelaw14_Call) (hs : wf_T_api_Saga s) (hc : wf_T_tontinelaw14_Call c) : Ev (fun n => tontinelaw14_SagaTwice.f n s c) true := by
  have hl := steps_len hs
  refine Ev.ge (s.Steps.length + 200) fun n hn => ?_
  unfold tontinelaw14_SagaTwice.f
  rw [begun14 n (by omega), Option.bind_some, if_neg (by simp), f_Outcome n s _ _ _ _ (by omega), Option.bind_some]
  by_cases ht : takes s c.Step c.Taken c.Try c.Ok
  · have e1 : outS s c.Step c.Taken c.Try c.Ok = (nextS s c.Taken c.Ok, true) := by unfold outS; rw [if_pos ht]
    obtain ⟨hS, hSt⟩ := nextS_sound (ok := c.Ok) ht.1 ht.2.1 ht.2.2.2.1
    have e2 : outS (nextS s c.Taken c.Ok) c.Step c.Taken c.Try c.Ok = (nextS s c.Taken c.Ok, false) := by unfold outS; rw [if_neg (not_again ht)]
    rw [e1, if_neg (by simp)]
    simp only []
    rw [f_Outcome n _ _ _ _ _ (by rw [hSt]; omega), Option.bind_some, e2, f_Abort n _ (by rw [hSt]; omega), Option.bind_some, if_pos (by simp)]
    simp only []
    rw [same_s n _ (by rw [hSt]; omega) (by rw [hSt]; omega), Option.bind_some, if_pos rfl]
    by_cases h1 : (nextS s c.Taken c.Ok).State = 1
    · have e3 : abS (nextS s c.Taken c.Ok) = (backS (nextS s c.Taken c.Ok) (nextS s c.Taken c.Ok).Cursor, true) := by unfold abS; rw [if_pos ⟨hS, h1⟩]
      obtain ⟨b1, b2⟩ := backS_sound hS h1
      rw [e3, if_pos (by simp [h1]), f_Sound n _ (by rw [b2, hSt]; omega), decide_eq_true b1]
      rfl
    · have e3 : abS (nextS s c.Taken c.Ok) = (nextS s c.Taken c.Ok, false) := by unfold abS; rw [if_neg (fun h => h1 h.2)]
      rw [e3, if_pos (by simp [h1]), f_Sound n _ (by rw [hSt]; omega), decide_eq_true hS]
      rfl
  · have e1 : outS s c.Step c.Taken c.Try c.Ok = (s, false) := by unfold outS; rw [if_neg ht]
    rw [e1, if_pos (by simp)]
    simp only []
    rw [same_s n s hl (by omega)]
    rfl
end Go.GL
