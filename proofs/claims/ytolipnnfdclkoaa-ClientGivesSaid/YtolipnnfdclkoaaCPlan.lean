/- Steps laid, over the plain functions. -/
import Derived.Test.YtolipnnfdclkoaaCWf
set_option linter.unusedVariables false
set_option linter.unusedSimpArgs false
namespace Go.GL
open Go

/-- A step, laid. -/
def encS (s : T_api_Step) : List UInt8 := enc (wu64 s.Part).toNat ++ encT s.Name ++ enc (wu64 s.Budget).toNat
def encL (l : List T_api_Step) : List UInt8 := l.flatMap encS
def lenL (l : List T_api_Step) : Nat := (l.map fun s => 27 + s.Name.length).sum
theorem encS_length (s : T_api_Step) : (encS s).length ≤ 27 + s.Name.length := by
  have h1 := enc_length (wu64 s.Part).toNat
  have h2 := encT_length s.Name
  have h3 := enc_length (wu64 s.Budget).toNat
  simp only [encS, List.length_append]; omega
theorem encL_length : ∀ l, (encL l).length ≤ lenL l
  | [] => by simp [encL, lenL]
  | s :: l => by
    have := encL_length l
    have := encS_length s
    simp only [encL, lenL, List.flatMap_cons, List.length_append, List.map_cons, List.sum_cons] at *
    omega

theorem plan_Write_l0 (n : Nat) (hn : 20 ≤ n) (l : List T_api_Step) : ∀ (k i : Nat) (f : List UInt8), i ≤ l.length → l.length - i < k → l.length ≤ 1000000 → f.length + lenL (l.drop i) ≤ 1000000000 →
    plan_Write.l0 n l k f (i : Int) = some ⟨f ++ encL (l.drop i)⟩
  | 0, i, f, _, hk, _, _ => by omega
  | k + 1, i, f, hi, hk, hl, hf => by
    unfold plan_Write.l0
    by_cases h : i < l.length
    · rw [if_pos (by simp <;> omega), if_pos ⟨by omega, by omega⟩]
      have e : wi64 ((i : Int) + 1) = ((i + 1 : Nat) : Int) := by rw [wi64_id (by omega) (by omega)]; omega
      rw [getD_drop h] at hf ⊢
      have ih := fun g hg => plan_Write_l0 n hn l k (i + 1) g (by omega) (by omega) hl hg
      generalize rdL l (i : Int) = s at *
      have z1 := enc_length (wu64 s.Part).toNat
      have z2 := encT_length s.Name
      have z3 := enc_length (wu64 s.Budget).toNat
      simp only [lenL, List.map_cons, List.sum_cons] at hf
      rw [w_Num n hn _ (by show f.length ≤ _; omega) (wu64_range _), Option.bind_some, w_Text n hn _ (by simp <;> omega) (by omega), Option.bind_some, w_Num n hn _ (by simp <;> omega) (wu64_range _), Option.bind_some, e, ih _ (by simp only [lenL, List.length_append]; omega)]
      simp [encL, encS]
    · have : i = l.length := by omega
      rw [if_neg (by simp <;> omega)]
      subst this; simp [encL]

theorem plan_Write_f (n : Nat) (w : T_pack_Writer) (l : List T_api_Step) (hn : 20 + l.length ≤ n) (hl : l.length ≤ 1000000) (hf : w.b.length + 9 + lenL l ≤ 1000000000) :
    plan_Write.f n w l = some ⟨w.b ++ (enc l.length ++ encL l)⟩ := by
  unfold plan_Write.f
  have z1 := enc_length l.length
  rw [wu64_id (by omega) (by omega), w_Num n (by omega) _ (by omega) ⟨by omega, by omega⟩, Option.bind_some]
  have := plan_Write_l0 n (by omega) l n 0 (w.b ++ enc l.length) (by omega) (by omega) hl (by simp <;> omega)
  simp only [List.drop_zero, List.append_assoc] at this
  exact this

theorem ref13_Bytes_l0 (n : Nat) (hn : 20 ≤ n) (l : List T_api_Step) : ∀ (k i : Nat) (f : List UInt8), i ≤ l.length → l.length - i < k → l.length ≤ 1000000 → f.length + lenL (l.drop i) ≤ 1000000000 →
    tontineref13_Bytes.l0 n l k f (i : Int) = some (f ++ encL (l.drop i))
  | 0, i, f, _, hk, _, _ => by omega
  | k + 1, i, f, hi, hk, hl, hf => by
    unfold tontineref13_Bytes.l0
    by_cases h : i < l.length
    · rw [if_pos (by simp <;> omega), if_pos ⟨by omega, by omega⟩, if_pos ⟨by omega, by omega⟩, if_pos ⟨by omega, by omega⟩]
      have e : wi64 ((i : Int) + 1) = ((i + 1 : Nat) : Int) := by rw [wi64_id (by omega) (by omega)]; omega
      rw [getD_drop h] at hf ⊢
      have ih := fun g hg => ref13_Bytes_l0 n hn l k (i + 1) g (by omega) (by omega) hl hg
      generalize rdL l (i : Int) = s at *
      have z1 := enc_length (wu64 s.Part).toNat
      have z2 := encT_length s.Name
      have z3 := enc_length (wu64 s.Budget).toNat
      simp only [lenL, List.map_cons, List.sum_cons] at hf
      rw [ref_Num n hn (wu64_range _), Option.bind_some, ref_Text n hn (by omega), Option.bind_some, if_pos (by simp only [i64max]; omega), ref_Num n hn (wu64_range _), Option.bind_some,
        if_pos (by simp only [i64max, List.length_append]; omega), if_pos (by simp only [i64max, List.length_append]; omega), e, ih _ (by simp only [lenL, List.length_append]; omega)]
      simp [encL, encS]
    · have : i = l.length := by omega
      rw [if_neg (by simp <;> omega)]
      subst this; simp [encL]

theorem ref13_Bytes_f (n : Nat) (l : List T_api_Step) (hn : 20 + l.length ≤ n) (hl : l.length ≤ 1000000) (hf : 9 + lenL l ≤ 1000000000) : tontineref13_Bytes.f n l = some (enc l.length ++ encL l) := by
  unfold tontineref13_Bytes.f
  have z1 := enc_length l.length
  rw [wu64_id (by omega) (by omega), ref_Num n (by omega) ⟨by omega, by omega⟩, Option.bind_some]
  exact ref13_Bytes_l0 n (by omega) l n 0 (enc l.length) (by omega) (by omega) hl (by simp <;> omega)
end Go.GL
