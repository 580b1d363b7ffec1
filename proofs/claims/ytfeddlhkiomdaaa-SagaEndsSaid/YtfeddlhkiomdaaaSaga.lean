/- Sagas: what the plain functions compute. No condition but the bounds named. -/
import Derived.Test.YtfeddlhkiomdaaaCheck
import Derived.Test.YtfeddlhkiomdaaaWf
set_option linter.unusedVariables false
set_option linter.unusedSimpArgs false
set_option maxRecDepth 10000
namespace Go.GL
open Go

theorem ref13_Chk_l0 (n : Nat) (l : List T_api_Step) (hl : l.length ≤ 64) : ∀ (k i : Nat) (bad : Bool), i ≤ l.length → l.length - i + 1 < k →
    tontineref13_Check.l0 n l k bad (i : Int) = some (if bad then 44 else if (l.drop i).all stepOk then 0 else 44)
  | 0, i, _, _, h => by omega
  | k + 1, i, bad, hi, hk => by
    unfold tontineref13_Check.l0
    cases bad with
    | true =>
      unfold tontineref13_Check.j1
      by_cases h : i < l.length <;> simp
    | false =>
    by_cases h : i < l.length
    · rw [if_pos (by simpa using h)]
      unfold tontineref13_Check.j1
      rw [if_pos (by rfl), if_pos ⟨by omega, by omega⟩, getD_drop h]
      have ih := fun bad => ref13_Chk_l0 n l hl k (i + 1) bad (by omega) (by omega)
      have e : wi64 ((i : Int) + 1) = ((i + 1 : Nat) : Int) := by rw [wi64_id (by omega) (by omega)]; omega
      generalize rdL l (i : Int) = s
      simp only [tontineref13_Check.j2, e, ih, List.all_cons]
      simp only [stepOk]
      by_cases h1 : s.Part < 0
      · simp [h1]; omega
      by_cases h2 : s.Part > 3
      · simp [h1, h2]; omega
      by_cases h3 : (s.Name.length : Int) < 1
      · simp [h1, h2, h3]; omega
      by_cases h4 : (s.Name.length : Int) > 16
      · simp [h1, h2, h3, h4]; omega
      by_cases h5 : s.Budget < 1
      · simp [h1, h2, h3, h4, h5]; omega
      by_cases h6 : s.Budget > 9
      · simp [h1, h2, h3, h4, h5, h6]; omega
      have : (decide (0 ≤ s.Part) && decide (s.Part < 4) && decide (1 ≤ s.Name.length) && decide (s.Name.length ≤ 16) && decide (1 ≤ s.Budget) && decide (s.Budget ≤ 9)) = true := by
        simp only [Bool.and_eq_true, decide_eq_true_eq]; omega
      simp [h1, h2, h3, h4, h5, h6, this]
    · have : i = l.length := by omega
      rw [if_neg (by simpa using h)]
      unfold tontineref13_Check.j1
      subst this; simp


def okL (l : List T_api_Step) : Prop := 1 ≤ l.length ∧ l.length ≤ 64 ∧ l.all stepOk = true
instance (l : List T_api_Step) : Decidable (okL l) := inferInstanceAs (Decidable (_ ∧ _ ∧ _))
theorem p_Check (n : Nat) (l : List T_api_Step) (hn : l.length < n) : plan_Check.f n l = some (if okL l then 0 else 44) := plan_Check_f n l hn
theorem r_Check (n : Nat) (l : List T_api_Step) (hn : l.length + 80 < n) : tontineref13_Check.f n l = some (if okL l then 0 else 44) := by
  unfold tontineref13_Check.f tontineref13_Check.j0
  by_cases h0 : l.length = 0
  · have : l = [] := List.length_eq_zero_iff.1 h0
    subst this
    obtain ⟨m, rfl⟩ : ∃ m, n = m + 30 := ⟨n - 30, by simp at hn; omega⟩
    rfl
  have h3 : ((l.length : Int) == 0) = false := by rw [beq_eq_false_iff_ne]; omega
  rw [h3, if_neg (by simp)]
  by_cases h : l.length ≤ 64
  · have b := ref13_Chk_l0 n l h n 0 false (by omega) (by omega)
    have b : tontineref13_Check.l0 n l n false 0 = _ := b
    have h2 : decide ((l.length : Int) > 64) = false := by simp; omega
    rw [h2, b, List.drop_zero, if_neg (by simp)]
    by_cases h4 : l.all stepOk = true
    · rw [if_pos h4, if_pos (show okL l from ⟨by omega, h, h4⟩)]
    · rw [if_neg h4, if_neg (show ¬ okL l from fun q => h4 q.2.2)]
  · have h2 : decide ((l.length : Int) > 64) = true := by simp; omega
    obtain ⟨m, rfl⟩ : ∃ m, n = m + 1 := ⟨n - 1, by omega⟩
    rw [h2, if_neg (show ¬ okL l from fun q => h q.2.1)]
    unfold tontineref13_Check.l0
    rw [if_pos (by simp; omega)]
    rfl

/-- The budget of the step at hand. -/
def bud (s : T_api_Saga) : Int := (rdL s.Steps s.Cursor).Budget
def within (s : T_api_Saga) : Prop := 0 ≤ s.Cursor ∧ s.Cursor < (s.Steps.length : Int)
instance (s : T_api_Saga) : Decidable (within s) := inferInstanceAs (Decidable (_ ∧ _))
def stOk (s : T_api_Saga) : Prop :=
  (s.State = 1 ∧ within s ∧ s.Failed = 0) ∨ (s.State = 2 ∧ within s ∧ s.Failed < bud s) ∨ (s.State = 3 ∧ s.Cursor = (s.Steps.length : Int) ∧ s.Failed = 0) ∨ (s.State = 4 ∧ s.Cursor = 0 ∧ s.Failed = 0) ∨
    (s.State = 5 ∧ within s ∧ s.Failed = bud s)
instance (s : T_api_Saga) : Decidable (stOk s) := inferInstanceAs (Decidable (_ ∨ _))
def soundP (s : T_api_Saga) : Prop := okL s.Steps ∧ 0 ≤ s.Failed ∧ stOk s
instance (s : T_api_Saga) : Decidable (soundP s) := inferInstanceAs (Decidable (_ ∧ _))

theorem f_Sound (n : Nat) (s : T_api_Saga) (hn : s.Steps.length < n) : saga_Sound.f n s = some (decide (soundP s)) := by
  unfold saga_Sound.f
  rw [p_Check n _ hn, Option.bind_some]
  by_cases hk : okL s.Steps
  · rw [if_pos hk, if_neg (by simp)]
    unfold saga_Sound.j0
    by_cases hf : s.Failed < 0
    · rw [if_pos (by simpa using hf)]
      congr 1
      rw [eq_comm, decide_eq_false_iff_not]
      exact fun h => absurd h.2.1 (by omega)
    · rw [if_neg (by simpa using hf)]
      have e : decide (soundP s) = decide (stOk s) := by
        rw [Bool.eq_iff_iff, decide_eq_true_eq, decide_eq_true_eq]
        exact ⟨fun h => h.2.2, fun h => ⟨hk, by omega, h⟩⟩
      rw [e]
      simp only [stOk, within]
      by_cases h1 : s.State = 1
      · by_cases c1 : 0 ≤ s.Cursor <;> by_cases c2 : s.Cursor < (s.Steps.length : Int) <;> simp [h1, c1, c2, bud] <;> rfl
      by_cases h2 : s.State = 2
      · by_cases c1 : 0 ≤ s.Cursor <;> by_cases c2 : s.Cursor < (s.Steps.length : Int) <;> simp [h2, c1, c2, bud] <;> rfl
      by_cases h3 : s.State = 3
      · by_cases c1 : s.Cursor = (s.Steps.length : Int) <;> simp [h3, c1, bud] <;> rfl
      by_cases h4 : s.State = 4
      · by_cases c1 : s.Cursor = 0 <;> simp [h4, c1, bud] <;> rfl
      by_cases h5 : s.State = 5
      · by_cases c1 : 0 ≤ s.Cursor <;> by_cases c2 : s.Cursor < (s.Steps.length : Int) <;> simp [h5, c1, c2, bud] <;> rfl
      simp [h1, h2, h3, h4, h5]
  · rw [if_neg hk, if_pos (by decide)]
    unfold saga_Sound.j0
    rw [if_pos rfl]
    congr 1
    rw [eq_comm, decide_eq_false_iff_not]
    exact fun h => hk h.1
theorem bud_pos {s : T_api_Saga} (h : okL s.Steps) (hw : within s) : 1 ≤ bud s ∧ bud s ≤ 9 := by
  obtain ⟨i, hi⟩ : ∃ i : Nat, s.Cursor = (i : Int) := ⟨s.Cursor.toNat, by have := hw.1; omega⟩
  have hlt : i < s.Steps.length := by have := hw.2; omega
  have hm : rdL s.Steps (i : Int) ∈ s.Steps := rdL_mem hlt
  have := List.all_eq_true.1 h.2.2 _ hm
  unfold stepOk at this
  simp only [Bool.and_eq_true, decide_eq_true_eq] at this
  unfold bud
  rw [hi]
  omega
theorem r_Sound (n : Nat) (s : T_api_Saga) (hn : s.Steps.length + 80 < n) : tontineref14_Sound.f n s = some (decide (soundP s)) := by
  unfold tontineref14_Sound.f
  rw [r_Check n _ hn, Option.bind_some]
  by_cases hk : okL s.Steps
  · rw [if_pos hk, if_neg (by simp)]
    have hj : ∀ w : Bool, w = decide (within s) → tontineref14_Sound.j0 n s w = some (decide (soundP s)) := by
      intro w hw
      have e : decide (soundP s) = decide (stOk s ∧ 0 ≤ s.Failed) := by
        rw [Bool.eq_iff_iff, decide_eq_true_eq, decide_eq_true_eq]
        exact ⟨fun h => ⟨h.2.2, h.2.1⟩, fun h => ⟨hk, h.2, h.1⟩⟩
      rw [e]
      by_cases hw' : within s
      · have hb := bud_pos hk hw'
        have hwa := hw'.1
        have hwb := hw'.2
        rw [decide_eq_true hw'] at hw
        subst hw
        simp only [tontineref14_Sound.j0, tontineref14_Sound.j1, tontineref14_Sound.j2, tontineref14_Sound.j3, tontineref14_Sound.j4, tontineref14_Sound.j5, tontineref14_Sound.j6, tontineref14_Sound.j7, tontineref14_Sound.j8, tontineref14_Sound.j9, tontineref14_Sound.j10, tontineref14_Sound.j11, tontineref14_Sound.j12, tontineref14_Sound.j13]
        have hbu : (rdL s.Steps s.Cursor).Budget = bud s := rfl
        simp only [hbu, stOk]
        by_cases h1 : s.State = 1
        · by_cases c1 : s.Failed = 0 <;> simp [h1, c1, hw', hwa, hwb]
        by_cases h2 : s.State = 2
        · by_cases c1 : 0 ≤ s.Failed <;> by_cases c2 : s.Failed < bud s <;> simp [h2, c1, c2, hw', hwa, hwb]
        by_cases h3 : s.State = 3
        · by_cases c1 : s.Cursor = (s.Steps.length : Int) <;> by_cases c2 : s.Failed = 0 <;> simp [h3, c1, c2, hw', hwa, hwb]
        by_cases h4 : s.State = 4
        · by_cases c1 : s.Cursor = 0 <;> by_cases c2 : s.Failed = 0 <;> simp [h4, c1, c2, hw', hwa, hwb]
        by_cases h5 : s.State = 5
        · by_cases c1 : s.Failed = bud s <;> simp [h5, c1, hw', hwa, hwb]
          omega
        simp [h1, h2, h3, h4, h5]
      · rw [decide_eq_false hw'] at hw
        subst hw
        simp only [tontineref14_Sound.j0, tontineref14_Sound.j1, tontineref14_Sound.j2, tontineref14_Sound.j3, tontineref14_Sound.j4, tontineref14_Sound.j5, tontineref14_Sound.j6, tontineref14_Sound.j7, tontineref14_Sound.j8, tontineref14_Sound.j9, tontineref14_Sound.j10, tontineref14_Sound.j11, tontineref14_Sound.j12, tontineref14_Sound.j13]
        simp only [stOk]
        by_cases h1 : s.State = 1
        · simp [h1, hw']
        by_cases h2 : s.State = 2
        · simp [h2, hw']
        by_cases h3 : s.State = 3
        · by_cases c1 : s.Cursor = (s.Steps.length : Int) <;> by_cases c2 : s.Failed = 0 <;> simp [h3, c1, c2, hw']
        by_cases h4 : s.State = 4
        · by_cases c1 : s.Cursor = 0 <;> by_cases c2 : s.Failed = 0 <;> simp [h4, c1, c2, hw']
        by_cases h5 : s.State = 5
        · simp [h5, hw']
        simp [h1, h2, h3, h4, h5]
    by_cases h0 : 0 ≤ s.Cursor
    · rw [if_pos (by simpa using h0)]
      exact hj _ (by rw [Bool.eq_iff_iff, decide_eq_true_eq, decide_eq_true_eq]; exact ⟨fun h => ⟨h0, h⟩, fun h => h.2⟩)
    · rw [if_neg (by simpa using h0)]
      exact hj _ (by rw [eq_comm, decide_eq_false_iff_not]; exact fun h => h0 h.1)
  · rw [if_neg hk, if_pos (by decide)]
    congr 1
    rw [eq_comm, decide_eq_false_iff_not]
    exact fun h => hk h.1

theorem begun14 : ∀ n, 40 ≤ n → tontinelaw14_begun.f n = some true := by
  intro n hn
  obtain ⟨m, rfl⟩ : ∃ m, n = m + 40 := ⟨n - 40, by omega⟩
  rfl
end Go.GL
