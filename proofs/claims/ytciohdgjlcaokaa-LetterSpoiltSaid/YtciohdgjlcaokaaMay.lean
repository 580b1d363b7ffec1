/- Which letters may be, and what is laid of one, over the plain functions. -/
import Derived.Test.YtciohdgjlcaokaaWf
set_option linter.unusedVariables false
set_option linter.unusedSimpArgs false
namespace Go.GL
open Go

def entOk (e : T_api_Entry) : Bool := decide (0 ≤ e.Kind) && decide (e.Kind ≤ 2) && decide (e.Data.length ≤ 65536)
def headOk (x : T_api_Letter) : Bool := decide (1 ≤ x.Kind) && decide (x.Kind ≤ 9) && decide (0 ≤ x.From) && decide (x.From ≤ 255) && decide (0 ≤ x.To) && decide (x.To ≤ 255) && decide (x.Entries.length ≤ 8) && decide (x.Data.length ≤ 65536)
def mayB (x : T_api_Letter) : Bool := headOk x && (decide (x.Entries = []) || decide (x.Kind = 3)) && x.Entries.all entOk

theorem headOk_iff {x : T_api_Letter} : headOk x = true ↔ 1 ≤ x.Kind ∧ x.Kind ≤ 9 ∧ 0 ≤ x.From ∧ x.From ≤ 255 ∧ 0 ≤ x.To ∧ x.To ≤ 255 ∧ x.Entries.length ≤ 8 ∧ x.Data.length ≤ 65536 := by
  simp only [headOk, Bool.and_eq_true, decide_eq_true_eq]
  constructor
  · rintro ⟨⟨⟨⟨⟨⟨⟨h1, h2⟩, h3⟩, h4⟩, h5⟩, h6⟩, h7⟩, h8⟩; exact ⟨h1, h2, h3, h4, h5, h6, h7, h8⟩
  · rintro ⟨h1, h2, h3, h4, h5, h6, h7, h8⟩; exact ⟨⟨⟨⟨⟨⟨⟨h1, h2⟩, h3⟩, h4⟩, h5⟩, h6⟩, h7⟩, h8⟩
theorem entOk_iff {e : T_api_Entry} : entOk e = true ↔ 0 ≤ e.Kind ∧ e.Kind ≤ 2 ∧ e.Data.length ≤ 65536 := by
  simp only [entOk, Bool.and_eq_true, decide_eq_true_eq]
  constructor
  · rintro ⟨⟨h1, h2⟩, h3⟩; exact ⟨h1, h2, h3⟩
  · rintro ⟨h1, h2, h3⟩; exact ⟨⟨h1, h2⟩, h3⟩

theorem p_May_l0 (n : Nat) (x : T_api_Letter) (hl : x.Entries.length ≤ 8) : ∀ (k i : Nat), i ≤ x.Entries.length → x.Entries.length - i < k → letter_May.l0 n x k (i : Int) = some ((x.Entries.drop i).all entOk)
  | 0, i, _, h => by omega
  | k + 1, i, hi, hk => by
    unfold letter_May.l0
    by_cases h : i < x.Entries.length
    · rw [if_pos (by simp <;> omega), if_pos ⟨by omega, by omega⟩, getD_drop h]
      have e : wi64 ((i : Int) + 1) = ((i + 1 : Nat) : Int) := by rw [wi64_id (by omega) (by omega)]; omega
      have ih := p_May_l0 n x hl k (i + 1) (by omega) (by omega)
      generalize rdL x.Entries (i : Int) = s at *
      simp only [letter_May.j2, e, ih, List.all_cons]
      by_cases h1 : s.Kind < 0
      · have : entOk s = false := by rw [Bool.eq_false_iff]; intro q; have := entOk_iff.1 q; omega
        simp [h1, this]
      by_cases h2 : s.Kind > 2
      · have : entOk s = false := by rw [Bool.eq_false_iff]; intro q; have := entOk_iff.1 q; omega
        simp [h1, h2, this]
      by_cases h3 : (s.Data.length : Int) > 65536
      · have : entOk s = false := by rw [Bool.eq_false_iff]; intro q; have := entOk_iff.1 q; omega
        simp [h1, h2, h3, this]
      have : entOk s = true := entOk_iff.2 ⟨by omega, by omega, by omega⟩
      simp [h1, h2, h3, this]
    · have : i = x.Entries.length := by omega
      rw [if_neg (by simp <;> omega)]
      subst this; simp

theorem p_May (n : Nat) (x : T_api_Letter) (hn : 20 ≤ n) : letter_May.f n x = some (mayB x) := by
  have hj : ∀ b, letter_May.j0 n x b = if b = true then some false else if x.Entries.length > 0 ∧ x.Kind ≠ 3 then some false else letter_May.l0 n x n 0 := by
    intro b
    unfold letter_May.j0 letter_May.j1
    cases b
    · simp only [Bool.false_eq_true, if_false]
      by_cases h : x.Entries.length > 0
      · have hd : decide ((x.Entries.length : Int) > 0) = true := decide_eq_true (by omega)
        simp only [hd, if_true]
        by_cases h3 : x.Kind = 3
        · rw [if_neg (by simp [h3]), if_neg (by simp [h3])]
        · rw [if_pos (by simpa using h3), if_pos ⟨h, h3⟩]
      · have hd : decide ((x.Entries.length : Int) > 0) = false := decide_eq_false (by omega)
        simp only [hd, Bool.false_eq_true, if_false]
        rw [if_neg (by omega)]
    · rfl
  have hno : headOk x = false → mayB x = false := fun h => by unfold mayB; rw [h]; rfl
  have bad : ∀ (_ : ¬ headOk x = true), some false = some (mayB x) := fun h => by rw [hno (by simpa using h)]
  unfold letter_May.f
  simp only [hj]
  by_cases h : headOk x = true
  · obtain ⟨h1, h2, h3, h4, h5, h6, h7, h8⟩ := headOk_iff.1 h
    have d1 : decide (x.Kind < 1) = false := decide_eq_false (by omega)
    have d2 : decide (x.Kind > 9) = false := decide_eq_false (by omega)
    have d3 : decide (x.From < 0) = false := decide_eq_false (by omega)
    have d4 : decide (x.From > 255) = false := decide_eq_false (by omega)
    have d5 : decide (x.To < 0) = false := decide_eq_false (by omega)
    have d6 : decide (x.To > 255) = false := decide_eq_false (by omega)
    have d7 : decide ((x.Entries.length : Int) > 8) = false := decide_eq_false (by omega)
    have d8 : decide ((x.Data.length : Int) > 65536) = false := decide_eq_false (by omega)
    simp only [d1, d2, d3, d4, d5, d6, d7, d8, Bool.false_eq_true, if_false]
    have hl := p_May_l0 n x h7 n 0 (by omega) (by omega)
    rw [List.drop_zero] at hl
    have hl : letter_May.l0 n x n 0 = _ := hl
    unfold mayB
    rw [h, hl]
    by_cases g : x.Entries = []
    · rw [if_neg (by simp [g])]; simp [g]
    · have g' : x.Entries.length > 0 := List.length_pos_iff.2 g
      by_cases g3 : x.Kind = 3
      · rw [if_neg (by simp [g3])]; simp [g, g3]
      · rw [if_pos ⟨g', g3⟩]; simp [g, g3]
  · rw [← bad h]
    have h' : ¬ (1 ≤ x.Kind ∧ x.Kind ≤ 9 ∧ 0 ≤ x.From ∧ x.From ≤ 255 ∧ 0 ≤ x.To ∧ x.To ≤ 255 ∧ x.Entries.length ≤ 8 ∧ x.Data.length ≤ 65536) := fun q => h (headOk_iff.2 q)
    simp only [if_true]
    split
    · rfl
    · rename_i k1; split
      · rfl
      · rename_i k2; split
        · rfl
        · rename_i k3; split
          · rfl
          · rename_i k4; split
            · rfl
            · rename_i k5; split
              · rfl
              · rename_i k6; split
                · rfl
                · rename_i k7
                  simp only [decide_eq_true_eq] at *
                  rw [if_pos (by omega)]
end Go.GL
