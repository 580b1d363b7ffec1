/- The law SagaOrder, over the plain functions. -/
import Derived.Test.YtfeddlhkiomdaaaLawSagaSteps
set_option linter.unusedVariables false
set_option linter.unusedSimpArgs false
set_option maxRecDepth 10000
namespace Go.GL
open Go
theorem f_New (n : Nat) (l : List T_api_Step) (hn : l.length < n) : saga_New.f n l = some (if okL l then (⟨l, 1, 0, 0⟩, 0) else (⟨[], 0, 0, 0⟩, 44)) := by
  unfold saga_New.f
  rw [p_Check n l hn, Option.bind_some]
  by_cases hk : okL l
  · have c : capOk 32 (([] : List T_api_Step) ++ l).length := by rw [List.nil_append]; have := hk.2.1; unfold capOk; omega
    rw [if_pos hk, if_pos hk, if_neg (by simp), if_pos c]
    rfl
  · rw [if_neg hk, if_neg hk, if_pos (by decide)]
/-- What the counting says of a saga. -/
def tally (s : T_api_Saga) (done undone : Int) (aborted : Bool) (fails : Int) : Prop :=
  (s.State = 1 → s.Cursor = done ∧ aborted = false ∧ fails = 0) ∧ (s.State = 2 → undone = s.Cursor ∧ fails = s.Failed) ∧ (s.State = 3 → done = (s.Steps.length : Int) ∧ aborted = false) ∧ (s.State = 4 → undone = -1) ∧
    (s.State = 5 → undone = s.Cursor ∧ fails = s.Failed)
theorem tally_back {s : T_api_Saga} (k done : Int) (aborted : Bool) (hk : -1 ≤ k) : tally (backS s k) done k aborted 0 := by
  unfold backS
  split
  · refine ⟨fun h => ?_, fun h => ?_, fun h => ?_, fun h => by omega, fun h => ?_⟩ <;> (have h : (4 : Int) = _ := h; omega)
  · refine ⟨fun h => ?_, fun h => ⟨rfl, rfl⟩, fun h => ?_, fun h => ?_, fun h => ?_⟩ <;> (have h : (2 : Int) = _ := h; omega)
theorem order_j2 (n : Nat) (L0 : List T_api_Step → Int → Int → Int → Int → Int → Bool → Int → Int → Option Bool) (was s : T_api_Saga) (x done undone fails : Int) (aborted took : Bool) (hs : soundP s) (hn : s.Steps.length < n) (he : 3 ≤ was.State → took = false ∧ s = was) :
    tontinelaw14_SagaOrder.j2 n L0 was.Steps was.State was.Cursor was.Failed x s.Steps s.State s.Cursor s.Failed done undone aborted fails took = L0 s.Steps s.State s.Cursor s.Failed done undone aborted fails (wi64 (x + 1)) := by
  unfold tontinelaw14_SagaOrder.j2
  have e : (⟨s.Steps, s.State, s.Cursor, s.Failed⟩ : T_api_Saga) = s := rfl
  have hno : tontinelaw14_SagaOrder.j3 n L0 x s.Steps s.State s.Cursor s.Failed done undone aborted fails false = L0 s.Steps s.State s.Cursor s.Failed done undone aborted fails (wi64 (x + 1)) := rfl
  rw [e, f_Sound n s hn, Option.bind_some, decide_eq_true hs, if_neg (by simp)]
  unfold saga_Ended.f
  by_cases h3 : was.State ≥ 3
  · obtain ⟨ht, hw⟩ := he h3
    have hl := len_ok hs
    rw [if_pos (by simpa using h3), Option.bind_some]
    by_cases h5 : was.State ≤ 5
    · rw [if_pos (by simpa using h5), ht, if_neg (by simp), ← hw, e, same_s n s (by omega) hn, Option.bind_some]
      exact hno
    · rw [if_neg (by simpa using h5)]; exact hno
  · rw [if_neg (by simpa using h3), Option.bind_some, if_neg (by simp)]
    exact hno
theorem order_end (n : Nat) (l : List T_api_Step) (s : T_api_Saga) (done undone fails : Int) (aborted : Bool) (hs : soundP s) (hl : s.Steps = l) (ht : tally s done undone aborted fails) :
    tontinelaw14_SagaOrder.j1 n l s.State s.Cursor s.Failed done undone aborted fails = some true := by
  unfold tontinelaw14_SagaOrder.j1
  obtain ⟨t1, t2, t3, t4, t5⟩ := ht
  rcases hs.2.2 with h | h | h | h | h
  · obtain ⟨q1, q2, q3⟩ := t1 h.1
    simp [h.1, q1]
  · obtain ⟨q1, q2⟩ := t2 h.1
    simp [h.1, q1, q2]
  · obtain ⟨q1, q2⟩ := t3 h.1
    rw [hl] at q1
    simp [h.1, q1, q2]
  · have q1 := t4 h.1
    simp [h.1, q1]
  · obtain ⟨q1, q2⟩ := t5 h.1
    have hw := h.2.1
    have hb := h.2.2
    unfold within at hw
    unfold bud at hb
    rw [hl] at hw hb
    simp [h.1, q1, q2, hw, hb]
theorem order_l0 (n : Nat) (l : List T_api_Step) (calls : List T_tontinelaw14_Call) (hn : l.length + 100 < n) :
    ∀ (j k i : Nat) (s : T_api_Saga) (done undone : Int) (aborted : Bool) (fails : Int), i ≤ 1000 → i + j = min 1000 calls.length → j < k → soundP s → s.Steps = l → tally s done undone aborted fails →
    tontinelaw14_SagaOrder.l0 n l calls k s.Steps s.State s.Cursor s.Failed done undone aborted fails (i : Int) = some true
  | j, 0, i, s, done, undone, aborted, fails, _, _, h, _, _, _ => by omega
  | 0, k + 1, i, s, done, undone, aborted, fails, h1, hi, _, hs, hl, ht => by
    unfold tontinelaw14_SagaOrder.l0
    have hend := order_end n l s done undone fails aborted hs hl ht
    by_cases h : i < calls.length
    · rw [if_pos (by simp; omega), if_pos ⟨by omega, by omega⟩, if_pos (by simp; omega)]
      exact hend
    · rw [if_neg (by simp; omega)]
      exact hend
  | j + 1, k + 1, i, s, done, undone, aborted, fails, h1, hi, hk, hs, hl, ht => by
    unfold tontinelaw14_SagaOrder.l0
    have e : (⟨s.Steps, s.State, s.Cursor, s.Failed⟩ : T_api_Saga) = s := rfl
    have hi1 : wi64 ((i : Int) + 1) = ((i + 1 : Nat) : Int) := by rw [wi64_id (by omega) (by omega)]; omega
    have ih : ∀ (s : T_api_Saga) (done undone : Int) (aborted : Bool) (fails : Int), soundP s → s.Steps = l → tally s done undone aborted fails →
        tontinelaw14_SagaOrder.l0 n l calls k s.Steps s.State s.Cursor s.Failed done undone aborted fails (wi64 ((i : Int) + 1)) = some true := by
      intro s done undone aborted fails hs hl ht
      rw [hi1]
      exact order_l0 n l calls hn j k (i + 1) s done undone aborted fails (by omega) (by omega) (by omega) hs hl ht
    have hst := hs.2.2
    have hL := len_ok hs
    have hnl : s.Steps.length < n := by rw [hl]; omega
    rw [if_pos (by simp; omega), if_pos ⟨by omega, by omega⟩, if_neg (by simp; omega), e]
    by_cases hneg : (rdL calls (i : Int)).Step < 0
    · rw [if_pos (by simpa using hneg), f_Abort n s hnl, Option.bind_some]
      by_cases h1' : s.State = 1
      · have ea : abS s = (backS s s.Cursor, true) := by unfold abS; rw [if_pos ⟨hs, h1'⟩]
        obtain ⟨b1, b2⟩ := backS_sound hs h1'
        obtain ⟨q1, q2, q3⟩ := ht.1 h1'
        rw [ea, if_pos rfl, order_j2 n _ s (backS s s.Cursor) _ _ _ _ _ _ b1 (by rw [b2]; exact hnl) (fun h => by omega)]
        refine ih _ _ _ _ _ b1 (by rw [b2]; exact hl) ?_
        have := tally_back (s := s) s.Cursor done true (by
          rcases hst with h | h | h | h | h
          · have := h.2.1.1; omega
          all_goals (have := h.1; omega))
        rw [q1] at this
        rw [q3, q1]
        exact this
      · have ea : abS s = (s, false) := by unfold abS; rw [if_neg (fun h => h1' h.2)]
        rw [ea, if_neg (by simp), order_j2 n _ s s _ _ _ _ _ _ hs hnl (fun h => ⟨rfl, rfl⟩)]
        exact ih _ _ _ _ _ hs hl ht
    · rw [if_neg (by simpa using hneg), f_Wants n s hnl, Option.bind_some]
      by_cases hw : soundP s ∧ s.State ≤ 2
      · rw [if_pos hw]
        simp only [Bool.not_true, Bool.false_eq_true, if_false]
        unfold tontinelaw14_SagaOrder.j4
        rw [e, f_Outcome n s _ _ _ _ hnl, Option.bind_some]
        have hc : within s := by
          rcases hst with h | h | h | h | h
          · exact h.2.1
          · exact h.2.1
          · have := h.1; omega
          · have := h.1; omega
          · exact h.2.1
        have hc1 := hc.1
        have hc2 := hc.2
        have hb := bud_pos hs.1 hc
        have hF := hs.2.1
        generalize hok : (rdL calls (i : Int)).Ok = ok
        generalize htr : (rdL calls (i : Int)).Try = tr
        by_cases htk : takes s s.Cursor (s.State == 2) tr ok
        · have eo : outS s s.Cursor (s.State == 2) tr ok = (nextS s (s.State == 2) ok, true) := by unfold outS; rw [if_pos htk]
          obtain ⟨b1, b2⟩ := nextS_sound (ok := ok) hs hw.2 htk.2.2.2.1
          have hj2 : ∀ done undone fails, tontinelaw14_SagaOrder.j2 n (tontinelaw14_SagaOrder.l0 n l calls k) s.Steps s.State s.Cursor s.Failed (i : Int) (nextS s (s.State == 2) ok).Steps (nextS s (s.State == 2) ok).State (nextS s (s.State == 2) ok).Cursor (nextS s (s.State == 2) ok).Failed done undone aborted fails true = _ := fun done undone fails =>
            order_j2 n _ s (nextS s (s.State == 2) ok) _ done undone fails aborted true b1 (by rw [b2]; exact hnl) (fun h => by omega)
          rw [eo, if_pos rfl]
          by_cases h2 : s.State = 2
          · obtain ⟨q1, q2⟩ := ht.2.1 h2
            have hs2 : s.Failed < bud s := by
              rcases hst with h | h | h | h | h
              · have := h.1; omega
              · exact h.2.2
              all_goals (have := h.1; omega)
            have et : (s.State == 2) = true := by simp [h2]
            simp only [et, Bool.not_true, Bool.false_eq_true, if_false] at *
            unfold tontinelaw14_SagaOrder.j5
            rw [if_neg (by simp), if_neg (by simp), hok]
            cases ok with
            | true =>
              rw [if_pos rfl]
              unfold tontinelaw14_SagaOrder.j6
              have w : wi64 (undone - 1) = s.Cursor - 1 := by rw [q1, wi64_id (by omega) (by omega)]
              rw [hj2, w]
              refine ih _ _ _ _ _ b1 (by rw [b2]; exact hl) ?_
              rw [nextS_tt]
              exact tally_back _ _ _ (by omega)
            | false =>
              rw [if_neg (by simp)]
              unfold tontinelaw14_SagaOrder.j6
              have w : wi64 (fails + 1) = s.Failed + 1 := by rw [q2, wi64_id (by omega) (by omega)]
              rw [hj2, w]
              refine ih _ _ _ _ _ b1 (by rw [b2]; exact hl) ?_
              rw [nextS_tf]
              split
              · refine ⟨fun h => ?_, fun h => ?_, fun h => ?_, fun h => ?_, fun h => ⟨q1, rfl⟩⟩ <;> (have h : (5 : Int) = _ := h; omega)
              · refine ⟨fun h => ?_, fun h => ⟨q1, rfl⟩, fun h => ?_, fun h => ?_, fun h => ?_⟩ <;> (have h : (2 : Int) = _ := h; omega)
          · have h1' : s.State = 1 := by
              rcases hst with h | h | h | h | h
              · exact h.1
              all_goals (have := h.1; omega)
            obtain ⟨q1, q2, q3⟩ := ht.1 h1'
            have et : (s.State == 2) = false := by simp [h2]
            simp only [et, Bool.not_false, if_true] at *
            unfold tontinelaw14_SagaOrder.j5
            rw [hok]
            cases ok with
            | true =>
              rw [if_pos rfl]
              unfold tontinelaw14_SagaOrder.j6
              have w : wi64 (done + 1) = s.Cursor + 1 := by rw [← q1, wi64_id (by omega) (by omega)]
              rw [hj2, w]
              refine ih _ _ _ _ _ b1 (by rw [b2]; exact hl) ?_
              rw [nextS_ft]
              split
              · rename_i hlen
                refine ⟨fun h => ?_, fun h => ?_, fun h => ⟨hlen, q2⟩, fun h => ?_, fun h => ?_⟩ <;> (have h : (3 : Int) = _ := h; omega)
              · refine ⟨fun h => ⟨rfl, q2, q3⟩, fun h => ?_, fun h => ?_, fun h => ?_, fun h => ?_⟩ <;> (have h : (1 : Int) = _ := h; omega)
            | false =>
              rw [if_neg (by simp), if_pos (by simp)]
              unfold tontinelaw14_SagaOrder.j6
              have w : wi64 (done - 1) = s.Cursor - 1 := by rw [← q1, wi64_id (by omega) (by omega)]
              rw [hj2, w]
              refine ih _ _ _ _ _ b1 (by rw [b2]; exact hl) ?_
              rw [nextS_ff, q3]
              exact tally_back _ _ _ (by omega)
        · have eo : outS s s.Cursor (s.State == 2) tr ok = (s, false) := by unfold outS; rw [if_neg htk]
          rw [eo, if_neg (by simp), order_j2 n _ s s _ _ _ _ _ _ hs hnl (fun h => ⟨rfl, rfl⟩)]
          exact ih _ _ _ _ _ hs hl ht
      · rw [if_neg hw]
        simp only [Bool.not_false, if_true]
        unfold tontinelaw14_SagaOrder.j4
        have eo : ∀ (a : Int) (b : Bool) (c : Int) (d : Bool), outS s a b c d = (s, false) := by
          intro a b c d
          unfold outS
          rw [if_neg (fun h => hw ⟨h.1, h.2.1⟩)]
        rw [e, f_Outcome n s _ _ _ _ hnl, Option.bind_some, eo, if_neg (by simp), order_j2 n _ s s _ _ _ _ _ _ hs hnl (fun h => ⟨rfl, rfl⟩)]
        exact ih _ _ _ _ _ hs hl ht
theorem tontinelaw14_SagaOrder_law (l : List T_api_Step) (calls : List T_tontinelaw14_Call) (hl : l.length * 32 ≤ reachBytes ∧ ∀ x ∈ l, wf_T_api_Step x) (hc : calls.length * 32 ≤ reachBytes ∧ ∀ x ∈ calls, wf_T_tontinelaw14_Call x) : Ev (fun n => tontinelaw14_SagaOrder.f n l calls) true := by
  refine Ev.ge (l.length + 2000) fun n hn => ?_
  unfold tontinelaw14_SagaOrder.f
  rw [begun14 n (by omega), Option.bind_some, if_neg (by simp), f_New n l (by omega), Option.bind_some, r_Check n l (by omega), Option.bind_some]
  by_cases hk : okL l
  · rw [if_pos hk, if_pos hk, if_neg (by simp)]
    unfold tontinelaw14_SagaOrder.j0
    rw [if_neg (by simp)]
    have h1 := hk.1
    have hs : soundP ⟨l, 1, 0, 0⟩ := ⟨hk, Int.le_refl _, .inl ⟨rfl, ⟨Int.le_refl _, by show (0 : Int) < (l.length : Int); omega⟩, rfl⟩⟩
    have := order_l0 n l calls (by omega) (min 1000 calls.length) n 0 ⟨l, 1, 0, 0⟩ 0 (-1) false 0 (by omega) (by omega) (by omega) hs rfl ⟨fun _ => ⟨rfl, rfl, rfl⟩, fun h => by have h : (1 : Int) = 2 := h; omega, fun h => by have h : (1 : Int) = 3 := h; omega, fun h => rfl, fun h => by have h : (1 : Int) = 5 := h; omega⟩
    exact this
  · rw [if_neg hk, if_neg hk, if_neg (by simp)]
    unfold tontinelaw14_SagaOrder.j0
    rw [if_pos (by decide), r_Check n l (by omega), Option.bind_some, if_neg hk]
    rfl
end Go.GL
