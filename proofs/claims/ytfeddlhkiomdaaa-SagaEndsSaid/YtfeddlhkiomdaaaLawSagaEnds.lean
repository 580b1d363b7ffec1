/- The law SagaEnds, over the plain functions. -/
import Derived.Test.YtfeddlhkiomdaaaSaga2
set_option linter.unusedVariables false
set_option linter.unusedSimpArgs false
set_option maxRecDepth 10000
namespace Go.GL
open Go
theorem f_New (n : Nat) (l : List T_api_Step) (hn : l.length < n) : saga_New.f n l = some (if okL l then (⟨l, 1, 0, 0⟩, 0) else (⟨[], 0, 0, 0⟩, 44)) := by
  unfold saga_New.f
  rw [p_Check n l hn, Option.bind_some]
  by_cases h : okL l
  · rw [if_pos h, if_pos h, if_neg (by simp)]
    have c : capOk 32 (([] : List T_api_Step) ++ l).length := by rw [List.nil_append]; have := h.2.1; unfold capOk; omega
    rw [if_pos c]
    rfl
  · rw [if_neg h, if_neg h, if_pos (by simp)]
/-- How many outcomes may come yet. -/
def most (s : T_api_Saga) : Int := if s.State = 1 then ((s.Steps.length : Int) - s.Cursor) + 9 * (s.Steps.length : Int) else if s.State = 2 then 9 * s.Cursor + 9 - s.Failed else 0
theorem st_of {s : T_api_Saga} (hs : soundP s) : 1 ≤ s.State ∧ s.State ≤ 5 := by
  rcases hs.2.2 with h | h | h | h | h <;> (have := h.1; omega)
theorem within_of {s : T_api_Saga} (hs : soundP s) (h : s.State ≤ 2) : within s ∧ (s.State = 1 ∧ s.Failed = 0 ∨ s.State = 2 ∧ s.Failed < bud s) := by
  rcases hs.2.2 with h | h | h | h | h
  · exact ⟨h.2.1, .inl ⟨h.1, h.2.2⟩⟩
  · exact ⟨h.2.1, .inr ⟨h.1, h.2.2⟩⟩
  all_goals (have := h.1; omega)
theorem most_pos {s : T_api_Saga} (hs : soundP s) : 0 ≤ most s := by
  have h0 := hs.2.1
  unfold most
  split
  · have := within_of hs (by omega)
    have := this.1.2; omega
  · split
    · have h := within_of hs (by omega)
      have hb := bud_pos hs.1 h.1
      have := h.1.1
      rcases h.2 with q | q
      · omega
      · have := q.2; omega
    · omega
theorem most_back {s : T_api_Saga} (hs : soundP s) (h1 : s.State = 1) : most (backS s s.Cursor) ≤ most s := by
  have h := within_of hs (by omega)
  have c1 := h.1.1
  have c2 := h.1.2
  unfold backS
  rw [if_neg (by omega)]
  unfold most
  rw [if_pos h1, if_neg (by simp), if_pos rfl]
  simp only
  omega
theorem most_next {s : T_api_Saga} (hs : soundP s) (h2 : s.State ≤ 2) (ok : Bool) : most (nextS s (decide (s.State = 2)) ok) + 1 ≤ most s := by
  have h0 := hs.2.1
  have h := within_of hs h2
  have c1 := h.1.1
  have c2 := h.1.2
  have hb := bud_pos hs.1 h.1
  have hback : most (backS s (s.Cursor - 1)) ≤ 9 * s.Cursor := by
    unfold backS
    split
    · unfold most; rw [if_neg (by simp), if_neg (by simp)]; omega
    · unfold most; rw [if_neg (by simp), if_pos rfl]; simp only; omega
  rcases h.2 with ⟨q1, q2⟩ | ⟨q1, q2⟩
  · have hm : most s = ((s.Steps.length : Int) - s.Cursor) + 9 * (s.Steps.length : Int) := by unfold most; rw [if_pos q1]
    rw [hm, decide_eq_false (by omega)]
    cases ok
    · rw [nextS_ff]; omega
    · rw [nextS_ft]
      split
      · unfold most; rw [if_neg (by simp), if_neg (by simp)]; omega
      · unfold most; rw [if_pos rfl]; simp only; omega
  · have hm : most s = 9 * s.Cursor + 9 - s.Failed := by unfold most; rw [if_neg (by omega), if_pos q1]
    rw [hm, decide_eq_true q1]
    cases ok
    · rw [nextS_tf]
      split
      · unfold most; rw [if_neg (by simp), if_neg (by simp)]; omega
      · unfold most; rw [if_neg (by simp), if_pos rfl]; simp only; omega
    · rw [nextS_tt]; omega
theorem ends_j1 (n : Nat) (l : List T_api_Step) (oks : List Bool) (hok : oks.length ≠ 0) (hol : oks.length ≤ 1000000000000000) (hn : 200 < n) (hl : l.length ≤ 64) (L : List T_api_Step → Int → Int → Int → Int → Option Bool) (i : Nat) (s : T_api_Saga) (hs : soundP s) (hst : s.Steps = l) (h2 : s.State ≤ 2)
    (hi : (i : Int) + most s ≤ (l.length : Int) + 9 * (l.length : Int))
    (hL : ∀ s' : T_api_Saga, soundP s' → s'.Steps = l → most s' + 1 ≤ most s → L s'.Steps s'.State s'.Cursor s'.Failed ((i + 1 : Nat) : Int) = some true) :
    tontinelaw14_SagaEnds.j1 n L l oks (i : Int) s.Steps s.State s.Cursor s.Failed = some true := by
  have hlen : s.Steps.length ≤ 64 := len_ok hs
  have hm0 := most_pos hs
  unfold tontinelaw14_SagaEnds.j1
  have e1 : saga_Wants.f n (⟨s.Steps, s.State, s.Cursor, s.Failed⟩ : T_api_Saga) = some (s.Cursor, s.State == 2, true) := by
    have := f_Wants n s (by omega)
    rw [if_pos ⟨hs, h2⟩] at this
    exact this
  have hmod : 0 ≤ ((i : Int)).tmod (oks.length : Int) ∧ ((i : Int)).tmod (oks.length : Int) < (oks.length : Int) := ⟨Int.tmod_nonneg _ (by omega), Int.tmod_lt_of_pos _ (by omega)⟩
  rw [e1, Option.bind_some, if_pos (by omega), if_pos hmod]
  generalize rdL oks (((i : Int)).tmod (oks.length : Int)) = ok
  have hb : (s.State == 2) = decide (s.State = 2) := by rw [Bool.eq_iff_iff]; simp
  have e2 : saga_Outcome.f n (⟨s.Steps, s.State, s.Cursor, s.Failed⟩ : T_api_Saga) s.Cursor (s.State == 2) s.Failed ok = some (nextS s (decide (s.State = 2)) ok, true) := by
    have := f_Outcome n s s.Cursor (s.State == 2) s.Failed ok (by omega)
    unfold outS at this
    rw [if_pos ⟨hs, h2, rfl, hb, .inr rfl⟩, hb] at this
    rw [hb]
    exact this
  simp only
  rw [e2, Option.bind_some, if_neg (by simp)]
  have hnx := nextS_sound (ok := ok) hs h2 rfl
  have hmx := most_next hs h2 ok
  unfold tontinelaw14_SagaEnds.j2
  have w1 : wi64 ((i : Int) + 1) = ((i + 1 : Nat) : Int) := by rw [wi64_id (by omega) (by omega)]; omega
  have w2 : wi64 ((l.length : Int) + (wi64 ((l.length : Int) * 9))) = (l.length : Int) + 9 * (l.length : Int) := by
    rw [wi64_id (x := (l.length : Int) * 9) (by omega) (by omega), wi64_id (by omega) (by omega)]; omega
  have hm1 := most_pos hnx.1
  rw [if_neg (by simp), w1, w2, if_neg (by rw [decide_eq_true_eq]; omega)]
  exact hL _ hnx.1 (by rw [hnx.2, hst]) hmx
theorem ends_l0 (n : Nat) (l : List T_api_Step) (oks : List Bool) (ab : Int) (hok : oks.length ≠ 0) (hol : oks.length ≤ 1000000000000000) (hn : 200 < n) (hl : l.length ≤ 64) :
    ∀ (j k i : Nat) (s : T_api_Saga), soundP s → s.Steps = l → most s ≤ (j : Int) → (i : Int) + most s ≤ (l.length : Int) + 9 * (l.length : Int) → j < k →
    tontinelaw14_SagaEnds.l0 n l oks ab k s.Steps s.State s.Cursor s.Failed (i : Int) = some true
  | j, 0, i, s, _, _, _, _, h => by omega
  | j, k + 1, i, s, hs, hst, hm, hi, hk => by
    have hlen := len_ok hs
    have hr := st_of hs
    unfold tontinelaw14_SagaEnds.l0
    have e0 : saga_Ended.f n (⟨s.Steps, s.State, s.Cursor, s.Failed⟩ : T_api_Saga) = some (decide (3 ≤ s.State)) := by
      unfold saga_Ended.f
      by_cases h3 : s.State ≥ 3
      · have e5 : decide (s.State ≤ 5) = true := decide_eq_true hr.2
        have e3 : decide (3 ≤ s.State) = true := decide_eq_true h3
        rw [if_pos (by simpa using h3), e3, e5]
      · have e3 : decide (3 ≤ s.State) = false := decide_eq_false (by omega)
        rw [if_neg (by simpa using h3), e3]
    rw [e0, Option.bind_some]
    by_cases h3 : 3 ≤ s.State
    · rw [decide_eq_true h3, if_neg (by simp)]
    · rw [decide_eq_false h3, if_pos (by simp)]
      have h2 : s.State ≤ 2 := by omega
      have ih : ∀ s' : T_api_Saga, soundP s' → s'.Steps = l → most s' + 1 ≤ most s → tontinelaw14_SagaEnds.l0 n l oks ab k s'.Steps s'.State s'.Cursor s'.Failed ((i + 1 : Nat) : Int) = some true := fun s' hs' hst' hm' => by
        have := most_pos hs'
        exact ends_l0 n l oks ab hok hol hn hl (j - 1) k (i + 1) s' hs' hst' (by omega) (by omega) (by omega)
      split
      · have ea : saga_Abort.f n (⟨s.Steps, s.State, s.Cursor, s.Failed⟩ : T_api_Saga) = some (abS s) := f_Abort n s (by omega)
        rw [ea, Option.bind_some]
        by_cases h1 : s.State = 1
        · have eb : abS s = (backS s s.Cursor, true) := by unfold abS; rw [if_pos ⟨hs, h1⟩]
          rw [eb]
          have hbs := backS_sound hs h1
          have hmb := most_back hs h1
          have hst2 : (backS s s.Cursor).State ≤ 2 := by
            unfold backS
            rw [if_neg (by have := (within_of hs h2).1.1; omega)]
            simp
          exact ends_j1 n l oks hok hol hn hl _ i (backS s s.Cursor) hbs.1 (by rw [hbs.2, hst]) hst2 (by omega) (fun s' a b c => ih s' a b (by omega))
        · have eb : abS s = (s, false) := by unfold abS; rw [if_neg (fun q => h1 q.2)]
          rw [eb]
          exact ends_j1 n l oks hok hol hn hl _ i s hs hst h2 hi ih
      · exact ends_j1 n l oks hok hol hn hl _ i s hs hst h2 hi ih
theorem tontinelaw14_SagaEnds_law (l : List T_api_Step) (oks : List Bool) (ab : Int) (h1 : l.length * 32 ≤ reachBytes ∧ ∀ x ∈ l, wf_T_api_Step x) (h2 : oks.length * 1 ≤ reachBytes ∧ ∀ x ∈ oks, True) (h3 : (Lit.int .i64 ab).wf = true) : Ev (fun n => tontinelaw14_SagaEnds.f n l oks ab) true := by
  have hr : reachBytes < 1000000000000000 := by decide
  unfold tontinelaw14_SagaEnds.f
  refine Ev.bind (Ev.ge 40 begun14) (Ev.ge (l.length + 2000) fun n hn => ?_)
  rw [if_neg (by simp), f_New n l (by omega), Option.bind_some]
  by_cases hk : okL l
  · rw [if_pos hk, if_neg (by simp)]
    unfold tontinelaw14_SagaEnds.j0
    by_cases ho : oks.length = 0
    · have e : ((oks.length : Int) == 0) = true := by rw [ho]; rfl
      rw [e, if_pos rfl]
    · have e : ((oks.length : Int) == 0) = false := by rw [beq_eq_false_iff_ne]; omega
      rw [e, if_neg (by simp)]
      have hl := hk.2.1
      have hs : soundP ⟨l, 1, 0, 0⟩ := ⟨hk, Int.le_refl _, .inl ⟨rfl, ⟨Int.le_refl _, by show (0 : Int) < (l.length : Int); have := hk.1; omega⟩, rfl⟩⟩
      have hm : most ⟨l, 1, 0, 0⟩ = (l.length : Int) + 9 * (l.length : Int) := by unfold most; rw [if_pos rfl]; simp only; omega
      exact ends_l0 n l oks ab ho (by omega) (by omega) hl (10 * l.length) n 0 ⟨l, 1, 0, 0⟩ hs rfl (by rw [hm]; omega) (by rw [hm]; omega) (by omega)
  · rw [if_neg hk, if_pos (by simp)]
    rfl
end Go.GL
