/- Both readers read alike, over the plain functions. -/
import Derived.Test.YtciohdgjlcaokaaWf
set_option linter.unusedVariables false
set_option linter.unusedSimpArgs false
namespace Go.GL
open Go

theorem rdNum_short {s : List UInt8} {x : Nat} {r : List UInt8} (h : rdNum s = some (x, r)) : r.length ≤ s.length ∧ x < 18446744073709551616 := by
  cases s with
  | nil => simp [rdNum] at h
  | cons c t =>
    simp only [rdNum] at h
    split at h
    · cases h
    · rename_i hc
      simp only [Option.some.injEq, Prod.mk.injEq] at h
      obtain ⟨rfl, rfl⟩ := h
      have := val_lt c.toNat t
      have hp : 256 ^ c.toNat ≤ 256 ^ 8 := Nat.pow_le_pow_right (by omega) (by omega)
      simp at hp
      exact ⟨by simp <;> omega, by omega⟩

theorem unzz {m : Nat} (h : m < 18446744073709551616) : bXor .i64 (wi64 (shR .u64 (m : Int) 1)) (wi64 (0 - wi64 (bAnd .u64 (m : Int) 1))) = if m % 2 = 0 then ((m / 2 : Nat) : Int) else -((m / 2 : Nat) : Int) - 1 := by
  have e1 : wi64 (shR .u64 (m : Int) 1) = ((m / 2 : Nat) : Int) := by
    have : shR .u64 (m : Int) 1 = ((m / 2 : Nat) : Int) := by
      show (m : Int).fdiv (2 ^ 1) = _
      rw [Int.fdiv_eq_ediv_of_nonneg _ (by decide)]
      simp
    rw [this, wi64_id (by omega) (by omega)]
  rw [e1, bAnd_one m h]
  by_cases h0 : m % 2 = 0
  · rw [if_pos h0, h0]
    have e2 : wi64 (0 - wi64 ((0 : Nat) : Int)) = ((0 : Nat) : Int) := by rfl
    rw [e2]
    show IntKind.i64.wrap (((BitVec.ofInt 64 ((m / 2 : Nat) : Int) ^^^ BitVec.ofInt 64 ((0 : Nat) : Int)).toNat : Nat) : Int) = _
    rw [ofInt64, ofInt64, BitVec.toNat_xor, BitVec.toNat_ofNat, BitVec.toNat_ofNat, Nat.mod_eq_of_lt (by omega), Nat.zero_mod, Nat.xor_zero]
    exact wi64_id (by omega) (by omega)
  · have h1 : m % 2 = 1 := by omega
    rw [if_neg h0, h1]
    have e2 : wi64 (0 - wi64 ((1 : Nat) : Int)) = -1 := by rfl
    rw [e2]
    show IntKind.i64.wrap (((BitVec.ofInt 64 ((m / 2 : Nat) : Int) ^^^ BitVec.ofInt 64 (-1)).toNat : Nat) : Int) = _
    have a : BitVec.ofInt 64 (-1) = BitVec.allOnes 64 := by decide
    rw [a, ofInt64, BitVec.xor_allOnes, BitVec.toNat_not, BitVec.toNat_ofNat, Nat.mod_eq_of_lt (by omega)]
    simp only [IntKind.wrap, IntKind.bits, IntKind.signed]
    simp
    omega
theorem unzz_ref {m : Nat} (h : m < 18446744073709551616) : (if (((m : Int).tmod 2) == 0) = true then wi64 (wu64 ((m : Int).tdiv 2)) else wi64 ((wi64 (0 - wi64 (wu64 ((m : Int).tdiv 2)))) - 1)) = if m % 2 = 0 then ((m / 2 : Nat) : Int) else -((m / 2 : Nat) : Int) - 1 := by
  have e1 : ((m : Int)).tmod 2 = ((m % 2 : Nat) : Int) := by rfl
  have e2 : ((m : Int)).tdiv 2 = ((m / 2 : Nat) : Int) := by rfl
  rw [e1, e2, wu64_id (by omega) (by omega), wi64_id (x := ((m / 2 : Nat) : Int)) (by omega) (by omega)]
  by_cases h0 : m % 2 = 0
  · rw [if_pos (by rw [h0]; rfl), if_pos h0]
  · have h1 : m % 2 = 1 := by omega
    rw [if_neg (by rw [h1]; decide), if_neg h0, wi64_id (x := 0 - _) (by omega) (by omega), wi64_id (by omega) (by omega)]
    omega

/-- What a reader does, for both: a value of kind v, the rest, spoilt or not. -/
def both {α : Type} (p : Option (α × T_pack_Reader)) (r : Option (α × T_tontineref03_Reader)) (L : Nat) : Prop :=
  ∃ a t b, p = some (a, ⟨t, b⟩) ∧ r = some (a, ⟨t, b⟩) ∧ t.length ≤ L


theorem both_Num {n : Nat} (hn : 20 ≤ n) (s : List UInt8) (bad : Bool) (hs : s.length < 1000000000000000000) : both (pack_Reader_Num.f n ⟨s, bad⟩) (tontineref03_Reader_Num.f n ⟨s, bad⟩) s.length := by
  rw [p_Num n hn s bad (by omega), r_Num n hn s bad (by omega)]
  cases h : rdNum s with
  | none => exact ⟨_, _, _, rfl, rfl, by simp⟩
  | some q => exact ⟨_, _, _, rfl, rfl, (rdNum_short h).1⟩
theorem both_Up {n : Nat} (hn : 20 ≤ n) (s : List UInt8) (bad : Bool) (hs : s.length < 1000000000000000000) (limit : Int) : both (pack_Reader_Up.f n ⟨s, bad⟩ limit) (tontineref03_Reader_Up.f n ⟨s, bad⟩ limit) s.length := by
  unfold pack_Reader_Up.f tontineref03_Reader_Up.f
  obtain ⟨a, t, b, e1, e2, hl⟩ := both_Num hn s bad hs
  rw [e1, e2]
  simp only [Option.bind_some]
  have h1 : ∀ c, pack_Reader_Up.j0 n (a, ⟨t, b⟩) c = if c = true then some (0, ⟨[], true⟩) else some (wi64 a, ⟨t, b⟩) := fun c => by cases c <;> rfl
  have h2 : ∀ c, tontineref03_Reader_Up.j0 n (a, ⟨t, b⟩) c = if c = true then some (0, ⟨[], true⟩) else some (wi64 a, ⟨t, b⟩) := fun c => by cases c <;> rfl
  simp only [h1, h2]
  split
  · exact ⟨_, _, _, rfl, rfl, by simp⟩
  · split
    · exact ⟨_, _, _, rfl, rfl, by simp⟩
    · exact ⟨_, _, _, rfl, rfl, hl⟩
theorem up_ge {n : Nat} (hn : 20 ≤ n) (s : List UInt8) (bad : Bool) (hs : s.length < 1000000000000000000) (limit : Int) {a : Int} {t : List UInt8} {b : Bool} (h : pack_Reader_Up.f n ⟨s, bad⟩ limit = some (a, ⟨t, b⟩)) (hm : limit ≤ 9223372036854775807) : 0 ≤ a := by
  unfold pack_Reader_Up.f at h
  rw [p_Num n hn s bad (by omega)] at h
  simp only [Option.bind_some] at h
  have h1 : ∀ q c, pack_Reader_Up.j0 n q c = if c = true then some (0, ⟨[], true⟩) else some (wi64 q.1, q.2) := fun q c => by cases c <;> rfl
  simp only [h1] at h
  by_cases hl : limit < 0
  · rw [if_pos (by simpa using hl), if_pos trivial] at h
    simp only [Option.some.injEq, Prod.mk.injEq] at h; omega
  · rw [if_neg (by simpa using hl), wu64_id (by omega) (by omega)] at h
    cases hq : rdNum s with
    | none =>
      rw [hq] at h
      simp only at h
      split at h
      · simp only [Option.some.injEq, Prod.mk.injEq] at h; omega
      · simp only [Option.some.injEq, Prod.mk.injEq, show wi64 0 = 0 from rfl] at h; omega
    | some q =>
      rw [hq] at h
      simp only at h
      split at h
      · simp only [Option.some.injEq, Prod.mk.injEq] at h; omega
      · rename_i hc
        simp only [decide_eq_true_eq] at hc
        simp only [Option.some.injEq, Prod.mk.injEq] at h
        rw [wi64_id (by omega) (by omega)] at h
        omega
theorem both_Text {n : Nat} (hn : 20 ≤ n) (s : List UInt8) (bad : Bool) (hs : s.length < 1000000000000000000) (limit : Int) (hm : limit ≤ 9223372036854775807) : both (pack_Reader_Text.f n ⟨s, bad⟩ limit) (tontineref03_Reader_Text.f n ⟨s, bad⟩ limit) s.length := by
  unfold pack_Reader_Text.f tontineref03_Reader_Text.f
  obtain ⟨a, t, b, e1, e2, hl⟩ := both_Up hn s bad hs limit
  have ha := up_ge hn s bad hs limit e1 hm
  rw [e1, e2]
  simp only [Option.bind_some]
  by_cases h : a > (t.length : Int)
  · have hd : decide (a > (t.length : Int)) = true := decide_eq_true h
    simp only [hd, if_true]
    exact ⟨_, _, _, rfl, rfl, by simp⟩
  · have hd : decide (a > (t.length : Int)) = false := decide_eq_false h
    have hc : (0 : Int) ≤ a ∧ a ≤ (t.length : Int) := ⟨ha, by omega⟩
    simp only [hd, hc, Bool.false_eq_true, if_false, and_self, if_true]
    exact ⟨_, _, _, rfl, rfl, by simp <;> omega⟩
end Go.GL
