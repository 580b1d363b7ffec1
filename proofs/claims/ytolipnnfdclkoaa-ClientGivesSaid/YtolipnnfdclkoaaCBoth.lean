/- Both readers read alike, over the plain functions. -/
import Derived.Test.YtolipnnfdclkoaaCWf
set_option linter.unusedVariables false
set_option linter.unusedSimpArgs false
namespace Go.GL
open Go

theorem rdNum_short {s : List UInt8} {x : Nat} {r : List UInt8} (h : rdNum s = some (x, r)) : r.length ≤ s.length ∧ x < 18446744073709551616 := by
  cases s with
  | nil => simp [rdNum] at h
  | cons c t =>
    simp only [rdNum] at h
    split at h
    · cases h
    · rename_i hc
      simp only [Option.some.injEq, Prod.mk.injEq] at h
      obtain ⟨rfl, rfl⟩ := h
      have := val_lt c.toNat t
      have hp : 256 ^ c.toNat ≤ 256 ^ 8 := Nat.pow_le_pow_right (by omega) (by omega)
      simp at hp
      exact ⟨by simp <;> omega, by omega⟩

theorem unzz {m : Nat} (h : m < 18446744073709551616) : bXor .i64 (wi64 (shR .u64 (m : Int) 1)) (wi64 (0 - wi64 (bAnd .u64 (m : Int) 1))) = if m % 2 = 0 then ((m / 2 : Nat) : Int) else -((m / 2 : Nat) : Int) - 1 := by
  have e1 : wi64 (shR .u64 (m : Int) 1) = ((m / 2 : Nat) : Int) := by
    have : shR .u64 (m : Int) 1 = ((m / 2 : Nat) : Int) := by
      show (m : Int).fdiv (2 ^ 1) = _
      rw [Int.fdiv_eq_ediv_of_nonneg _ (by decide)]
      simp
    rw [this, wi64_id (by omega) (by omega)]
  rw [e1, bAnd_one m h]
  by_cases h0 : m % 2 = 0
  · rw [if_pos h0, h0]
    have e2 : wi64 (0 - wi64 ((0 : Nat) : Int)) = ((0 : Nat) : Int) := by rfl
    rw [e2]
    show IntKind.i64.wrap (((BitVec.ofInt 64 ((m / 2 : Nat) : Int) ^^^ BitVec.ofInt 64 ((0 : Nat) : Int)).toNat : Nat) : Int) = _
    rw [ofInt64, ofInt64, BitVec.toNat_xor, BitVec.toNat_ofNat, BitVec.toNat_ofNat, Nat.mod_eq_of_lt (by omega), Nat.zero_mod, Nat.xor_zero]
    exact wi64_id (by omega) (by omega)
  · have h1 : m % 2 = 1 := by omega
    rw [if_neg h0, h1]
    have e2 : wi64 (0 - wi64 ((1 : Nat) : Int)) = -1 := by rfl
    rw [e2]
    show IntKind.i64.wrap (((BitVec.ofInt 64 ((m / 2 : Nat) : Int) ^^^ BitVec.ofInt 64 (-1)).toNat : Nat) : Int) = _
    have a : BitVec.ofInt 64 (-1) = BitVec.allOnes 64 := by decide
    rw [a, ofInt64, BitVec.xor_allOnes, BitVec.toNat_not, BitVec.toNat_ofNat, Nat.mod_eq_of_lt (by omega)]
    simp only [IntKind.wrap, IntKind.bits, IntKind.signed]
    simp
    omega
theorem unzz_ref {m : Nat} (h : m < 18446744073709551616) : (if (((m : Int).tmod 2) == 0) = true then wi64 (wu64 ((m : Int).tdiv 2)) else wi64 ((wi64 (0 - wi64 (wu64 ((m : Int).tdiv 2)))) - 1)) = if m % 2 = 0 then ((m / 2 : Nat) : Int) else -((m / 2 : Nat) : Int) - 1 := by
  have e1 : ((m : Int)).tmod 2 = ((m % 2 : Nat) : Int) := by rfl
  have e2 : ((m : Int)).tdiv 2 = ((m / 2 : Nat) : Int) := by rfl
  rw [e1, e2, wu64_id (by omega) (by omega), wi64_id (x := ((m / 2 : Nat) : Int)) (by omega) (by omega)]
  by_cases h0 : m % 2 = 0
  · rw [if_pos (by rw [h0]; rfl), if_pos h0]
  · have h1 : m % 2 = 1 := by omega
    rw [if_neg (by rw [h1]; decide), if_neg h0, wi64_id (x := 0 - _) (by omega) (by omega), wi64_id (by omega) (by omega)]
    omega

/-- What a reader does, for both: a value of kind v, the rest, spoilt or not. -/
def both {α : Type} (p : Option (α × T_pack_Reader)) (r : Option (α × T_tontineref03_Reader)) (L : Nat) : Prop :=
  ∃ a t b, p = some (a, ⟨t, b⟩) ∧ r = some (a, ⟨t, b⟩) ∧ t.length ≤ L


theorem both_Num {n : Nat} (hn : 20 ≤ n) (s : List UInt8) (bad : Bool) (hs : s.length < 1000000000000000000) : both (pack_Reader_Num.f n ⟨s, bad⟩) (tontineref03_Reader_Num.f n ⟨s, bad⟩) s.length := by
  rw [p_Num n hn s bad (by omega), r_Num n hn s bad (by omega)]
  cases h : rdNum s with
  | none => exact ⟨_, _, _, rfl, rfl, by simp⟩
  | some q => exact ⟨_, _, _, rfl, rfl, (rdNum_short h).1⟩
theorem both_Up {n : Nat} (hn : 20 ≤ n) (s : List UInt8) (bad : Bool) (hs : s.length < 1000000000000000000) (limit : Int) : both (pack_Reader_Up.f n ⟨s, bad⟩ limit) (tontineref03_Reader_Up.f n ⟨s, bad⟩ limit) s.length := by
  unfold pack_Reader_Up.f tontineref03_Reader_Up.f
  obtain ⟨a, t, b, e1, e2, hl⟩ := both_Num hn s bad hs
  rw [e1, e2]
  simp only [Option.bind_some]
  have h1 : ∀ c, pack_Reader_Up.j0 n (a, ⟨t, b⟩) c = if c = true then some (0, ⟨[], true⟩) else some (wi64 a, ⟨t, b⟩) := fun c => by cases c <;> rfl
  have h2 : ∀ c, tontineref03_Reader_Up.j0 n (a, ⟨t, b⟩) c = if c = true then some (0, ⟨[], true⟩) else some (wi64 a, ⟨t, b⟩) := fun c => by cases c <;> rfl
  simp only [h1, h2]
  split
  · exact ⟨_, _, _, rfl, rfl, by simp⟩
  · split
    · exact ⟨_, _, _, rfl, rfl, by simp⟩
    · exact ⟨_, _, _, rfl, rfl, hl⟩
theorem up_ge {n : Nat} (hn : 20 ≤ n) (s : List UInt8) (bad : Bool) (hs : s.length < 1000000000000000000) (limit : Int) {a : Int} {t : List UInt8} {b : Bool} (h : pack_Reader_Up.f n ⟨s, bad⟩ limit = some (a, ⟨t, b⟩)) (hm : limit ≤ 9223372036854775807) : 0 ≤ a := by
  unfold pack_Reader_Up.f at h
  rw [p_Num n hn s bad (by omega)] at h
  simp only [Option.bind_some] at h
  have h1 : ∀ q c, pack_Reader_Up.j0 n q c = if c = true then some (0, ⟨[], true⟩) else some (wi64 q.1, q.2) := fun q c => by cases c <;> rfl
  simp only [h1] at h
  by_cases hl : limit < 0
  · rw [if_pos (by simpa using hl), if_pos trivial] at h
    simp only [Option.some.injEq, Prod.mk.injEq] at h; omega
  · rw [if_neg (by simpa using hl), wu64_id (by omega) (by omega)] at h
    cases hq : rdNum s with
    | none =>
      rw [hq] at h
      simp only at h
      split at h
      · simp only [Option.some.injEq, Prod.mk.injEq] at h; omega
      · simp only [Option.some.injEq, Prod.mk.injEq, show wi64 0 = 0 from rfl] at h; omega
    | some q =>
      rw [hq] at h
      simp only at h
      split at h
      · simp only [Option.some.injEq, Prod.mk.injEq] at h; omega
      · rename_i hc
        simp only [decide_eq_true_eq] at hc
        simp only [Option.some.injEq, Prod.mk.injEq] at h
        rw [wi64_id (by omega) (by omega)] at h
        omega
theorem done_f (n : Nat) (t : List UInt8) (b : Bool) : pack_Reader_Done.f n (⟨t, b⟩ : T_pack_Reader) = some (if t = [] then !b else false) := by
  unfold pack_Reader_Done.f
  have hl : pack_Reader_Left.f n (⟨t, b⟩ : T_pack_Reader) = some ((t.length : Int), !b) := rfl
  rw [hl, Option.bind_some]
  by_cases h : t = []
  · subst h; rfl
  · have h' : ((t.length : Int) == 0) = false := by rw [beq_eq_false_iff_ne]; intro q; exact h (List.length_eq_zero_iff.1 (by omega))
    simp only [h', if_neg h]
    rfl

theorem num_ok {n : Nat} (hn : 20 ≤ n) (s : List UInt8) (bad : Bool) (hs : s.length < 1000000000000000000) : ∃ a t b, pack_Reader_Num.f n ⟨s, bad⟩ = some (a, ⟨t, b⟩) ∧ tontineref03_Reader_Num.f n ⟨s, bad⟩ = some (a, ⟨t, b⟩) ∧ t.length ≤ s.length ∧ 0 ≤ a ∧ a ≤ 18446744073709551615 := by
  rw [p_Num n hn s bad (by omega), r_Num n hn s bad (by omega)]
  cases h : rdNum s with
  | none => exact ⟨0, [], true, rfl, rfl, Nat.zero_le _, by omega, by omega⟩
  | some q =>
    have := rdNum_short h
    exact ⟨(q.1 : Int), q.2, bad, rfl, rfl, this.1, by omega, by omega⟩
theorem said_ok (n : Nat) (hn : 20 ≤ n) (s : List UInt8) (hs : s.length < 1000000000000000000) : ∃ r, command_Said.f n s = some r ∧ tontineref16_Said.f n s = some r ∧ 0 ≤ r.1.Num ∧ r.1.Num ≤ 18446744073709551615 := by
  unfold command_Said.f tontineref16_Said.f
  have hf : pack_From.f n s = some ⟨s, false⟩ := rfl
  rw [hf, Option.bind_some]
  obtain ⟨a1, t1, b1, e1, e1', l1⟩ := both_Up hn s false hs 52
  rw [e1, e1']
  simp only [Option.bind_some]
  obtain ⟨a2, t2, b2, e2, e2', l2, u0, u1⟩ := num_ok hn t1 b1 (by omega)
  rw [e2, e2']
  simp only [Option.bind_some]
  obtain ⟨a3, t3, b3, e3, e3', l3⟩ := both_Num hn t2 b2 (by omega)
  rw [e3, e3']
  simp only [Option.bind_some, done_f]
  by_cases h : t3 = []
  · subst h
    cases b3
    · exact ⟨_, rfl, rfl, u0, u1⟩
    · exact ⟨_, rfl, rfl, by simp, by simp⟩
  · rw [if_neg h]
    have h' : (t3 == ([] : List UInt8)) = false := by rw [beq_eq_false_iff_ne]; exact h
    refine ⟨_, rfl, ?_, by simp, by simp⟩
    cases b3
    · simp [h']
    · rfl
end Go.GL
