/- Numbers read, signed numbers, over the plain functions. -/
import Derived.Test.YtolipnnfdclkoaaPlain
set_option linter.unusedVariables false
set_option linter.unusedSimpArgs false
namespace Go.GL
open Go

theorem wu64_nat (a : Nat) : wu64 (a : Int) = ((a % 18446744073709551616 : Nat) : Int) := by
  simp only [wu64, IntKind.wrap, IntKind.bits, IntKind.signed]
  simp
theorem ofInt64 (a : Nat) : BitVec.ofInt 64 (a : Int) = BitVec.ofNat 64 a := by simp
theorem bOr_byte {x b : Nat} (hx : x < 72057594037927936) (hb : b < 256) : bOr .u64 (shL .u64 (x : Int) 8) (b : Int) = ((x * 256 + b : Nat) : Int) := by
  have e : shL .u64 (x : Int) 8 = ((x * 256 : Nat) : Int) := by
    show IntKind.u64.wrap ((x : Int) * 2 ^ 8) = _
    have := wu64_nat (x * 256)
    rw [show ((x : Int) * 2 ^ 8) = ((x * 256 : Nat) : Int) by simp]
    rw [show IntKind.u64.wrap ((x * 256 : Nat) : Int) = wu64 ((x * 256 : Nat) : Int) from rfl, this, Nat.mod_eq_of_lt (by omega)]
  rw [e]
  show IntKind.u64.wrap (((BitVec.ofInt 64 ((x * 256 : Nat) : Int) ||| BitVec.ofInt 64 (b : Int)).toNat : Nat) : Int) = _
  rw [ofInt64, ofInt64, BitVec.toNat_or, BitVec.toNat_ofNat, BitVec.toNat_ofNat, Nat.mod_eq_of_lt (by omega), Nat.mod_eq_of_lt (by omega)]
  have : x * 256 ||| b = x * 256 + b := by
    have := Nat.shiftLeft_add_eq_or_of_lt (i := 8) (b := b) (by omega) x
    rw [Nat.shiftLeft_eq] at this
    exact this.symm
  rw [this]
  exact (wu64_nat _).trans (by rw [Nat.mod_eq_of_lt (by omega)])
theorem bAnd_one (x : Nat) (hx : x < 18446744073709551616) : bAnd .u64 (x : Int) 1 = ((x % 2 : Nat) : Int) := by
  show IntKind.u64.wrap (((BitVec.ofInt 64 (x : Int) &&& BitVec.ofInt 64 ((1 : Nat) : Int)).toNat : Nat) : Int) = _
  rw [ofInt64, ofInt64, BitVec.toNat_and, BitVec.toNat_ofNat, BitVec.toNat_ofNat, Nat.mod_eq_of_lt (by omega), Nat.mod_eq_of_lt (by omega), Nat.and_one_is_mod]
  exact (wu64_nat _).trans (by rw [Nat.mod_eq_of_lt (by omega)])

/-- Signed numbers, folded. -/
def zz (x : Int) : Int := if 0 ≤ x then 2 * x else -2 * x - 1

theorem zz_w {x : Int} (h1 : -9223372036854775808 ≤ x) (h2 : x ≤ 9223372036854775807) : bXor .u64 (shL .u64 (wu64 x) 1) (wu64 (shR .i64 x 63)) = zz x := by
  by_cases h : 0 ≤ x
  · obtain ⟨m, rfl⟩ : ∃ m : Nat, x = (m : Int) := ⟨x.toNat, by omega⟩
    have e1 : shR .i64 (m : Int) 63 = ((0 : Nat) : Int) := by
      show (m : Int).fdiv (2 ^ 63) = _
      rw [Int.fdiv_eq_ediv_of_nonneg _ (by decide)]
      omega
    have e2 : shL .u64 (wu64 (m : Int)) 1 = ((2 * m : Nat) : Int) := by
      rw [wu64_id (by omega) (by omega)]
      show wu64 ((m : Int) * 2 ^ 1) = _
      rw [show ((m : Int) * 2 ^ 1) = ((2 * m : Nat) : Int) by omega, wu64_id (by omega) (by omega)]
    rw [e1, e2, wu64_id (by omega) (by omega)]
    show IntKind.u64.wrap (((BitVec.ofInt 64 ((2 * m : Nat) : Int) ^^^ BitVec.ofInt 64 ((0 : Nat) : Int)).toNat : Nat) : Int) = _
    rw [ofInt64, ofInt64, BitVec.toNat_xor, BitVec.toNat_ofNat, BitVec.toNat_ofNat, Nat.mod_eq_of_lt (by omega), Nat.zero_mod, Nat.xor_zero]
    have := wu64_id (x := ((2 * m : Nat) : Int)) (by omega) (by omega)
    rw [zz, if_pos h]
    exact this.trans (by omega)
  · obtain ⟨m, rfl⟩ : ∃ m : Nat, x = -(m : Int) - 1 := ⟨(-x - 1).toNat, by omega⟩
    have hm : m ≤ 9223372036854775807 := by omega
    have e1 : wu64 (shR .i64 (-(m : Int) - 1) 63) = ((18446744073709551615 : Nat) : Int) := by
      have : shR .i64 (-(m : Int) - 1) 63 = -1 := by
        show (-(m : Int) - 1).fdiv (2 ^ 63) = _
        rw [Int.fdiv_eq_ediv_of_nonneg _ (by decide)]
        omega
      rw [this]; rfl
    have e2 : shL .u64 (wu64 (-(m : Int) - 1)) 1 = ((18446744073709551615 - (2 * m + 1) : Nat) : Int) := by
      have e3 : wu64 (-(m : Int) - 1) = ((18446744073709551615 - m : Nat) : Int) := by
        simp only [wu64, IntKind.wrap, IntKind.bits, IntKind.signed]
        simp
        omega
      rw [e3]
      show wu64 (((18446744073709551615 - m : Nat) : Int) * 2 ^ 1) = _
      rw [show (((18446744073709551615 - m : Nat) : Int) * 2 ^ 1) = (((18446744073709551615 - m) * 2 : Nat) : Int) by omega, wu64_nat]
      omega
    rw [e1, e2]
    show IntKind.u64.wrap (((BitVec.ofInt 64 ((18446744073709551615 - (2 * m + 1) : Nat) : Int) ^^^ BitVec.ofInt 64 ((18446744073709551615 : Nat) : Int)).toNat : Nat) : Int) = _
    have a : BitVec.ofInt 64 ((18446744073709551615 : Nat) : Int) = BitVec.allOnes 64 := by decide
    rw [a, ofInt64, BitVec.xor_allOnes, BitVec.toNat_not, BitVec.toNat_ofNat, Nat.mod_eq_of_lt (by omega)]
    rw [zz, if_neg h]
    exact (wu64_nat _).trans (by omega)

/-- The value of bytes, the highest first. -/
def val (l : List UInt8) : Nat := l.foldl (fun a b => a * 256 + b.toNat) 0
theorem val_snoc (l : List UInt8) (b : UInt8) : val (l ++ [b]) = val l * 256 + b.toNat := by simp [val]
theorem val_lt : ∀ (j : Nat) (l : List UInt8), val (l.take j) < 256 ^ j
  | 0, l => by simp [val]
  | j + 1, l => by
    have ih := val_lt j l
    rw [List.take_add_one]
    cases h : l[j]? with
    | none =>
      simp only [Option.toList, List.append_nil]
      rw [Nat.pow_succ]; omega
    | some b =>
      simp only [Option.toList]
      rw [val_snoc, Nat.pow_succ]
      have := b.toNat_lt
      omega
theorem val_take {l : List UInt8} {j : Nat} (h : j < l.length) : val (l.take (j + 1)) = val (l.take j) * 256 + (l.getD j 0).toNat := by
  rw [List.take_add_one, List.getElem?_eq_getElem h]
  simp only [Option.toList, val_snoc]
  simp [h]

/-- A number, read: nothing where the bytes bear none. -/
def rdNum : List UInt8 → Option (Nat × List UInt8)
  | [] => none
  | c :: t => if c.toNat > 8 ∨ c.toNat > t.length ∨ (0 < c.toNat ∧ (t.getD 0 0).toNat = 0) then none else some (val (t.take c.toNat), t.drop c.toNat)

theorem p_Num_l0 (n : Nat) (c : UInt8) (t : List UInt8) (bad : Bool) (h8 : c.toNat ≤ 8) (hl : c.toNat ≤ t.length) (hs : t.length < 9000000000000000000) :
    ∀ (d k j : Nat), j + d = c.toNat → d < k → pack_Reader_Num.l0 n ⟨c :: t, bad⟩ k (val (t.take j) : Int) ((j : Int) + 1) = some ((val (t.take c.toNat) : Int), ⟨t.drop c.toNat, bad⟩)
  | d, 0, j, h, hk => by omega
  | 0, k + 1, j, h, hk => by
    have hj : j = c.toNat := by omega
    have e0 : wi64 ((rdB (c :: t) 0).toNat : Int) = (c.toNat : Int) := by
      show wi64 (c.toNat : Int) = _
      rw [wi64_id (by omega) (by omega)]
    have e1 : wi64 ((c.toNat : Int) + 1) = (c.toNat : Int) + 1 := wi64_id (by omega) (by omega)
    unfold pack_Reader_Num.l0
    simp only [e0, e1]
    rw [if_neg (by simp <;> omega), if_pos (by simp <;> omega)]
    have e2 : ((c.toNat : Int) + 1).toNat = c.toNat + 1 := by omega
    rw [e2, hj]
    rfl
  | d + 1, k + 1, j, h, hk => by
    have e0 : wi64 ((rdB (c :: t) 0).toNat : Int) = (c.toNat : Int) := by
      show wi64 (c.toNat : Int) = _
      rw [wi64_id (by omega) (by omega)]
    unfold pack_Reader_Num.l0
    simp only [e0]
    rw [if_pos (by simp <;> omega), if_pos (by simp <;> omega)]
    have e2 : ((j : Int) + 1).toNat = j + 1 := by omega
    have e3 : rdB (c :: t) ((j : Int) + 1) = t.getD j 0 := by unfold rdB; rw [e2]; rfl
    have hb := (t.getD j 0).toNat_lt
    have hv := val_lt j t
    have hp : 256 ^ j ≤ 256 ^ 7 := Nat.pow_le_pow_right (by omega) (by omega)
    have e4 : wi64 (((j : Int) + 1) + 1) = ((j + 1 : Nat) : Int) + 1 := by rw [wi64_id (by omega) (by omega)]; omega
    rw [e3, wu64_id (by omega) (by omega), bOr_byte (by simp at hp; omega) (by omega), ← val_take (by omega), e4]
    exact p_Num_l0 n c t bad h8 hl hs d k (j + 1) (by omega) (by omega)

theorem p_Num (n : Nat) (hn : 20 ≤ n) (s : List UInt8) (bad : Bool) (hs : s.length < 9000000000000000000) :
    pack_Reader_Num.f n ⟨s, bad⟩ = some (match rdNum s with | none => ((0 : Int), (⟨[], true⟩ : T_pack_Reader)) | some (x, r) => ((x : Int), ⟨r, bad⟩)) := by
  cases s with
  | nil => rfl
  | cons c t =>
    have hc := c.toNat_lt
    simp only [List.length_cons] at hs
    have e0 : wi64 ((rdB (c :: t) 0).toNat : Int) = (c.toNat : Int) := by
      show wi64 (c.toNat : Int) = _
      rw [wi64_id (by omega) (by omega)]
    have e1 : wi64 (((c :: t).length : Int) - 1) = (t.length : Int) := by rw [wi64_id (by simp <;> omega) (by simp <;> omega)]; simp
    have e3 : rdB (c :: t) 1 = t.getD 0 0 := rfl
    unfold pack_Reader_Num.f
    simp only [e0, e1, e3]
    rw [if_neg (by simp), if_pos (by simp <;> omega)]
    have hj : ∀ b, pack_Reader_Num.j0 n ⟨c :: t, bad⟩ b = if b then some (0, ⟨[], true⟩) else pack_Reader_Num.l0 n ⟨c :: t, bad⟩ n 0 1 := fun b => by cases b <;> rfl
    simp only [hj, rdNum]
    by_cases h1 : c.toNat > 8
    · rw [if_pos (by simp <;> omega)]; simp [h1]
    by_cases h2 : c.toNat > t.length
    · rw [if_neg (by simp <;> omega), if_pos (by simp <;> omega)]; simp [h2]
    rw [if_neg (by simp <;> omega), if_neg (by simp <;> omega)]
    have hl := p_Num_l0 n c t bad (by omega) (by omega) (by omega) c.toNat n 0 (by omega) (by omega)
    have hl : pack_Reader_Num.l0 n ⟨c :: t, bad⟩ n 0 1 = _ := hl
    rw [hl]
    by_cases h3 : 0 < c.toNat
    · rw [if_pos (by simp <;> omega), if_pos (by simp <;> omega)]
      by_cases h4 : (t.getD 0 0).toNat = 0
      · have h4' : (((t.getD 0 0).toNat : Int) == 0) = true := by rw [h4]; rfl
        rw [h4', if_pos rfl, if_pos (Or.inr (Or.inr ⟨h3, h4⟩))]
      · have h4' : (((t.getD 0 0).toNat : Int) == 0) = false := by rw [beq_eq_false_iff_ne]; omega
        rw [h4', if_neg (by simp), if_neg (by omega)]
    · rw [if_neg (by simp <;> omega), if_neg (by simp), if_neg (by omega)]

theorem r_Num_l0 (n : Nat) (c : UInt8) (t : List UInt8) (bad : Bool) (h8 : c.toNat ≤ 8) (hl : c.toNat ≤ t.length) (hs : t.length < 9000000000000000000) :
    ∀ (d k j : Nat), j + d = c.toNat → d < k → tontineref03_Reader_Num.l0 n ⟨c :: t, bad⟩ (c.toNat : Int) k (val (t.take j) : Int) ((j : Int) + 1) = some ((val (t.take c.toNat) : Int), ⟨t.drop c.toNat, bad⟩)
  | d, 0, j, h, hk => by omega
  | 0, k + 1, j, h, hk => by
    have hj : j = c.toNat := by omega
    have e1 : wi64 ((c.toNat : Int) + 1) = (c.toNat : Int) + 1 := wi64_id (by omega) (by omega)
    unfold tontineref03_Reader_Num.l0
    simp only [e1]
    rw [if_neg (by simp <;> omega), if_pos (by simp <;> omega)]
    have e2 : ((c.toNat : Int) + 1).toNat = c.toNat + 1 := by omega
    rw [e2, hj]
    rfl
  | d + 1, k + 1, j, h, hk => by
    unfold tontineref03_Reader_Num.l0
    rw [if_pos (by simp <;> omega), if_pos (by simp <;> omega)]
    have e2 : ((j : Int) + 1).toNat = j + 1 := by omega
    have e3 : rdB (c :: t) ((j : Int) + 1) = t.getD j 0 := by unfold rdB; rw [e2]; rfl
    have hb := (t.getD j 0).toNat_lt
    have hv := val_lt j t
    have hp : 256 ^ j ≤ 256 ^ 7 := Nat.pow_le_pow_right (by omega) (by omega)
    simp at hp
    have e4 : wi64 (((j : Int) + 1) + 1) = ((j + 1 : Nat) : Int) + 1 := by rw [wi64_id (by omega) (by omega)]; omega
    have e5 : wu64 (wu64 (256 * (val (t.take j) : Int)) + wu64 ((t.getD j 0).toNat : Int)) = ((val (t.take j) * 256 + (t.getD j 0).toNat : Nat) : Int) := by
      rw [wu64_id (x := 256 * _) (by omega) (by omega), wu64_id (x := ((t.getD j 0).toNat : Int)) (by omega) (by omega), wu64_id (by omega) (by omega)]; omega
    rw [e3, e5, ← val_take (by omega), e4]
    exact r_Num_l0 n c t bad h8 hl hs d k (j + 1) (by omega) (by omega)

theorem r_Num (n : Nat) (hn : 20 ≤ n) (s : List UInt8) (bad : Bool) (hs : s.length < 9000000000000000000) :
    tontineref03_Reader_Num.f n ⟨s, bad⟩ = some (match rdNum s with | none => ((0 : Int), (⟨[], true⟩ : T_tontineref03_Reader)) | some (x, r) => ((x : Int), ⟨r, bad⟩)) := by
  have hj : ∀ q b, tontineref03_Reader_Num.j1 n ⟨s, bad⟩ q b = if b then some (0, ⟨[], true⟩) else tontineref03_Reader_Num.l0 n ⟨s, bad⟩ q n 0 1 := fun q b => by cases b <;> rfl
  cases s with
  | nil => rfl
  | cons c t =>
    have hc := c.toNat_lt
    simp only [List.length_cons] at hs
    have e0 : wi64 ((rdB (c :: t) 0).toNat : Int) = (c.toNat : Int) := by
      show wi64 (c.toNat : Int) = _
      rw [wi64_id (by omega) (by omega)]
    have e1 : wi64 ((c.toNat : Int) + 1) = (c.toNat : Int) + 1 := wi64_id (by omega) (by omega)
    have e3 : rdB (c :: t) 1 = t.getD 0 0 := rfl
    unfold tontineref03_Reader_Num.f
    rw [if_pos (by simp <;> omega), if_pos (by simp <;> omega)]
    unfold tontineref03_Reader_Num.j0
    simp only [e0, e1, e3, hj, rdNum]
    rw [if_neg (by simp <;> omega)]
    by_cases h1 : c.toNat > 8
    · rw [if_pos (by simp <;> omega)]; simp [h1]
    by_cases h2 : c.toNat > t.length
    · rw [if_neg (by simp <;> omega), if_pos (by simp <;> omega)]; simp [h2]
    rw [if_neg (by simp <;> omega), if_neg (by simp <;> omega)]
    have hl := r_Num_l0 n c t bad (by omega) (by omega) (by omega) c.toNat n 0 (by omega) (by omega)
    have hl : tontineref03_Reader_Num.l0 n ⟨c :: t, bad⟩ (c.toNat : Int) n 0 1 = _ := hl
    rw [hl]
    by_cases h3 : 0 < c.toNat
    · rw [if_pos (by simp <;> omega), if_pos (by simp <;> omega)]
      by_cases h4 : (t.getD 0 0).toNat = 0
      · have h4' : (((t.getD 0 0).toNat : Int) == 0) = true := by rw [h4]; rfl
        rw [h4', if_pos rfl, if_pos (Or.inr (Or.inr ⟨h3, h4⟩))]
      · have h4' : (((t.getD 0 0).toNat : Int) == 0) = false := by rw [beq_eq_false_iff_ne]; omega
        rw [h4', if_neg (by simp), if_neg (by omega)]
    · rw [if_neg (by simp <;> omega), if_neg (by simp), if_neg (by omega)]
theorem rdNum_short {s : List UInt8} {x : Nat} {r : List UInt8} (h : rdNum s = some (x, r)) : r.length ≤ s.length ∧ x < 18446744073709551616 := by
  cases s with
  | nil => simp [rdNum] at h
  | cons c t =>
    simp only [rdNum] at h
    split at h
    · cases h
    · rename_i hc
      simp only [Option.some.injEq, Prod.mk.injEq] at h
      obtain ⟨rfl, rfl⟩ := h
      have := val_lt c.toNat t
      have hp : 256 ^ c.toNat ≤ 256 ^ 8 := Nat.pow_le_pow_right (by omega) (by omega)
      simp at hp
      exact ⟨by simp <;> omega, by omega⟩

/-- What a reader does, for both: a value of kind v, the rest, spoilt or not. -/
def both {α : Type} (p : Option (α × T_pack_Reader)) (r : Option (α × T_tontineref03_Reader)) (L : Nat) : Prop :=
  ∃ a t b, p = some (a, ⟨t, b⟩) ∧ r = some (a, ⟨t, b⟩) ∧ t.length ≤ L


theorem both_Num {n : Nat} (hn : 20 ≤ n) (s : List UInt8) (bad : Bool) (hs : s.length < 1000000000000000000) : both (pack_Reader_Num.f n ⟨s, bad⟩) (tontineref03_Reader_Num.f n ⟨s, bad⟩) s.length := by
  rw [p_Num n hn s bad (by omega), r_Num n hn s bad (by omega)]
  cases h : rdNum s with
  | none => exact ⟨_, _, _, rfl, rfl, by simp⟩
  | some q => exact ⟨_, _, _, rfl, rfl, (rdNum_short h).1⟩
end Go.GL
