/- Both readers read alike, over the plain functions. -/
import Derived.Test.YtolipnnfdclkoaaXCWf
set_option linter.unusedVariables false
set_option linter.unusedSimpArgs false
namespace Go.GL
open Go
theorem rdNum_short {s : List UInt8} {x : Nat} {r : List UInt8} (h : rdNum s = some (x, r)) : r.length ≤ s.length ∧ x < 18446744073709551616 := by
  cases s with
  | nil => simp [rdNum] at h
  | cons c t =>
    simp only [rdNum] at h
    split at h
    · cases h
    · rename_i hc
      simp only [Option.some.injEq, Prod.mk.injEq] at h
      obtain ⟨rfl, rfl⟩ := h
      have := val_lt c.toNat t
      have hp : 256 ^ c.toNat ≤ 256 ^ 8 := Nat.pow_le_pow_right (by omega) (by omega)
      simp at hp
      exact ⟨by simp <;> omega, by omega⟩
def both {α : Type} (p : Option (α × T_pack_Reader)) (r : Option (α × T_tontineref03_Reader)) (L : Nat) : Prop :=
  ∃ a t b, p = some (a, ⟨t, b⟩) ∧ r = some (a, ⟨t, b⟩) ∧ t.length ≤ L
theorem both_Num {n : Nat} (hn : 20 ≤ n) (s : List UInt8) (bad : Bool) (hs : s.length < 1000000000000000000) : both (pack_Reader_Num.f n ⟨s, bad⟩) (tontineref03_Reader_Num.f n ⟨s, bad⟩) s.length := by
  rw [p_Num n hn s bad (by omega), r_Num n hn s bad (by omega)]
  cases h : rdNum s with
  | none => exact ⟨_, _, _, rfl, rfl, by simp⟩
  | some q => exact ⟨_, _, _, rfl, rfl, (rdNum_short h).1⟩
theorem both_Up {n : Nat} (hn : 20 ≤ n) (s : List UInt8) (bad : Bool) (hs : s.length < 1000000000000000000) (limit : Int) : both (pack_Reader_Up.f n ⟨s, bad⟩ limit) (tontineref03_Reader_Up.f n ⟨s, bad⟩ limit) s.length := by
  unfold pack_Reader_Up.f tontineref03_Reader_Up.f
  obtain ⟨a, t, b, e1, e2, hl⟩ := both_Num hn s bad hs
  rw [e1, e2]
  simp only [Option.bind_some]
  have h1 : ∀ c, pack_Reader_Up.j0 n (a, ⟨t, b⟩) c = if c = true then some (0, ⟨[], true⟩) else some (wi64 a, ⟨t, b⟩) := fun c => by cases c <;> rfl
  have h2 : ∀ c, tontineref03_Reader_Up.j0 n (a, ⟨t, b⟩) c = if c = true then some (0, ⟨[], true⟩) else some (wi64 a, ⟨t, b⟩) := fun c => by cases c <;> rfl
  simp only [h1, h2]
  split
  · exact ⟨_, _, _, rfl, rfl, by simp⟩
  · split
    · exact ⟨_, _, _, rfl, rfl, by simp⟩
    · exact ⟨_, _, _, rfl, rfl, hl⟩
theorem done_f (n : Nat) (t : List UInt8) (b : Bool) : pack_Reader_Done.f n (⟨t, b⟩ : T_pack_Reader) = some (if t = [] then !b else false) := by
  unfold pack_Reader_Done.f
  have hl : pack_Reader_Left.f n (⟨t, b⟩ : T_pack_Reader) = some ((t.length : Int), !b) := rfl
  rw [hl, Option.bind_some]
  by_cases h : t = []
  · subst h; rfl
  · have h' : ((t.length : Int) == 0) = false := by rw [beq_eq_false_iff_ne]; intro q; exact h (List.length_eq_zero_iff.1 (by omega))
    simp only [h', if_neg h]
    rfl
theorem num_ok {n : Nat} (hn : 20 ≤ n) (s : List UInt8) (bad : Bool) (hs : s.length < 1000000000000000000) : ∃ a t b, pack_Reader_Num.f n ⟨s, bad⟩ = some (a, ⟨t, b⟩) ∧ tontineref03_Reader_Num.f n ⟨s, bad⟩ = some (a, ⟨t, b⟩) ∧ t.length ≤ s.length ∧ 0 ≤ a ∧ a ≤ 18446744073709551615 := by
  rw [p_Num n hn s bad (by omega), r_Num n hn s bad (by omega)]
  cases h : rdNum s with
  | none => exact ⟨0, [], true, rfl, rfl, Nat.zero_le _, by omega, by omega⟩
  | some q =>
    have := rdNum_short h
    exact ⟨(q.1 : Int), q.2, bad, rfl, rfl, this.1, by omega, by omega⟩
theorem said_ok (n : Nat) (hn : 20 ≤ n) (s : List UInt8) (hs : s.length < 1000000000000000000) : ∃ r, command_Said.f n s = some r ∧ tontineref16_Said.f n s = some r ∧ 0 ≤ r.1.Num ∧ r.1.Num ≤ 18446744073709551615 := by
  unfold command_Said.f tontineref16_Said.f
  have hf : pack_From.f n s = some ⟨s, false⟩ := rfl
  rw [hf, Option.bind_some]
  obtain ⟨a1, t1, b1, e1, e1', l1⟩ := both_Up hn s false hs 52
  rw [e1, e1']
  simp only [Option.bind_some]
  obtain ⟨a2, t2, b2, e2, e2', l2, u0, u1⟩ := num_ok hn t1 b1 (by omega)
  rw [e2, e2']
  simp only [Option.bind_some]
  obtain ⟨a3, t3, b3, e3, e3', l3⟩ := both_Num hn t2 b2 (by omega)
  rw [e3, e3']
  simp only [Option.bind_some, done_f]
  by_cases h : t3 = []
  · subst h
    cases b3
    · exact ⟨_, rfl, rfl, u0, u1⟩
    · exact ⟨_, rfl, rfl, by simp, by simp⟩
  · rw [if_neg h]
    have h' : (t3 == ([] : List UInt8)) = false := by rw [beq_eq_false_iff_ne]; exact h
    refine ⟨_, rfl, ?_, by simp, by simp⟩
    cases b3
    · simp [h']
    · rfl
end Go.GL
