/- Whether two letters are the same, over the plain functions. -/
import Derived.Test.YtciohdgjlcaokaaDec4
set_option linter.unusedVariables false
set_option linter.unusedSimpArgs false
namespace Go.GL
open Go
theorem same07_ne (n : Nat) (a b : List T_api_Entry) (ha : a.length ≤ 1000000) (hl : a.length = b.length) : ∀ (k i : Nat), i ≤ a.length → a.length - i < k → tontineref07_Same.l0 n a b k (i : Int) = some (decide (a.drop i = b.drop i))
  | 0, i, _, h => by omega
  | k + 1, i, hi, hk => by
    unfold tontineref07_Same.l0
    by_cases h : i < a.length
    · have e : wi64 ((i : Int) + 1) = ((i + 1 : Nat) : Int) := by rw [wi64_id (by omega) (by omega)]; omega
      rw [if_pos (by simp <;> omega), if_pos ⟨by omega, by omega⟩, if_pos ⟨by omega, by omega⟩, e]
      have ih := same07_ne n a b ha hl k (i + 1) (by omega) (by omega)
      have ea : rdL a (i : Int) = a[i] := by simp [rdL, h]
      have hb : i < b.length := by omega
      have eb : rdL b (i : Int) = b[i] := by simp [rdL, hb]
      have q1 : a.drop i = a[i] :: a.drop (i + 1) := List.drop_eq_getElem_cons h
      have q2 : b.drop i = b[i] :: b.drop (i + 1) := List.drop_eq_getElem_cons hb
      rw [ea, eb, ih]
      by_cases he : a[i] = b[i]
      · rw [if_neg (by simp [he])]
        congr 1
        rw [decide_eq_decide, q1, q2, he]
        constructor
        · intro q; rw [q]
        · intro q; exact (List.cons.inj q).2
      · rw [if_pos]
        · congr 1
          symm
          rw [decide_eq_false_iff_not, q1, q2]
          intro q; exact he (List.cons.inj q).1
        · rw [Bool.not_eq_true', Bool.eq_false_iff]
          intro q
          apply he
          simp only [Bool.and_eq_true, beq_iff_eq, and_true] at q
          cases ha2 : a[i]; cases hb2 : b[i]
          rw [ha2, hb2] at q
          simp only at q
          obtain ⟨q1, q2, q3, q4⟩ := q
          subst q1; subst q2; subst q3; subst q4; rfl
    · rw [if_neg (by simp <;> omega)]
      have e1 : a.drop i = [] := List.drop_eq_nil_of_le (by omega)
      have e2 : b.drop i = [] := List.drop_eq_nil_of_le (by omega)
      rw [e1, e2]; simp
theorem same10_ne (n : Nat) (x y : T_api_Letter) (hx : x.Entries.length ≤ 1000000) (hn : x.Entries.length < n) : tontineref10_Same.f n x y = some (decide (x = y)) := by
  have h7 : tontineref07_Same.f n x.Entries y.Entries = some (decide (x.Entries = y.Entries)) := by
    unfold tontineref07_Same.f
    by_cases hl : x.Entries.length = y.Entries.length
    · rw [if_neg (by simp [hl])]
      have := same07_ne n x.Entries y.Entries hx hl n 0 (by omega) (by omega)
      simpa using this
    · rw [if_pos (by simp; omega)]
      have : x.Entries ≠ y.Entries := fun e => hl (by rw [e])
      simp [this]
  unfold tontineref10_Same.f
  rw [h7]
  obtain ⟨a1, a2, a3, a4, a5, a6, a7, a8, a9, a10⟩ := x
  obtain ⟨b1, b2, b3, b4, b5, b6, b7, b8, b9, b10⟩ := y
  simp only [Option.bind_some]
  by_cases e1 : a1 = b1
  case neg => simp [e1]
  by_cases e2 : a2 = b2
  case neg => simp [e2]
  by_cases e3 : a3 = b3
  case neg => simp [e3]
  by_cases e4 : a4 = b4
  case neg => simp [e4]
  by_cases e5 : a5 = b5
  case neg => simp [e5]
  by_cases e6 : a6 = b6
  case neg => simp [e6]
  by_cases e7 : a7 = b7
  case neg => simp [e7]
  by_cases e8 : a8 = b8
  case neg => simp [e8]
  by_cases e10 : a10 = b10
  case neg => simp [e10]
  subst e1; subst e2; subst e3; subst e4; subst e5; subst e6; subst e7; subst e8; subst e10
  simp
end Go.GL
