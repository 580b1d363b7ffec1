/- Logs: what the plain functions compute; the parts. No condition but the bounds named. -/
import Derived.Test.YtolipnnfdclkoaaPlainRead
set_option linter.unusedVariables false
set_option linter.unusedSimpArgs false
set_option maxRecDepth 10000
namespace Go.GL
open Go
theorem an_iff (x : Nat) (hx : x < 18446744073709551616) : (BitVec.ofNat 64 x &&& ~~~(BitVec.ofNat 64 127)).toNat = 0 ↔ x < 128 := by
  have e : (~~~(BitVec.ofNat 64 127)).toNat = (2 ^ 57 - 1) <<< 7 := by decide
  have hb : ∀ i, (BitVec.ofNat 64 x &&& ~~~(BitVec.ofNat 64 127)).toNat.testBit i = (x.testBit i && decide (7 ≤ i)) := by
    intro i
    rw [BitVec.toNat_and, Nat.testBit_and, BitVec.toNat_ofNat, Nat.mod_eq_of_lt (by omega), e, Nat.testBit_shiftLeft, Nat.testBit_two_pow_sub_one]
    by_cases h : i < 64
    · by_cases h7 : 7 ≤ i
      · have : decide (i - 7 < 57) = true := by rw [decide_eq_true_eq]; omega
        rw [this, Bool.and_true]
      · have : decide (i ≥ 7) = false := by rw [decide_eq_false_iff_not]; omega
        rw [this, Bool.false_and]
    · have : x.testBit i = false := Nat.testBit_lt_two_pow (Nat.lt_of_lt_of_le hx (by
        have : 2 ^ 64 ≤ 2 ^ i := Nat.pow_le_pow_right (by omega) (by omega)
        simpa using this))
      rw [this, Bool.false_and, Bool.false_and]
  constructor
  · intro h
    have : x < 2 ^ 7 := by
      refine Nat.lt_pow_two_of_testBit x fun i hi => ?_
      have := hb i
      rw [h, Nat.zero_testBit, decide_eq_true hi, Bool.and_true] at this
      exact this.symm
    simpa using this
  · intro h
    refine Nat.eq_of_testBit_eq fun i => ?_
    rw [hb i, Nat.zero_testBit]
    by_cases h7 : 7 ≤ i
    · have : x.testBit i = false := Nat.testBit_lt_two_pow (Nat.lt_of_lt_of_le h (by
        have : 2 ^ 7 ≤ 2 ^ i := Nat.pow_le_pow_right (by omega) h7
        simpa using this))
      rw [this, Bool.false_and]
    · rw [decide_eq_false h7, Bool.and_false]
def soundC (c : Int) : Bool := decide (0 < c ∧ c < 128)
theorem p_Sound (n : Nat) (c : Int) (h : 0 ≤ c ∧ c ≤ 18446744073709551615) : quorum_Sound.f n c = some (soundC c) := by
  obtain ⟨x, rfl⟩ : ∃ x : Nat, c = (x : Int) := ⟨c.toNat, by omega⟩
  have e : (bAndNot .u64 (x : Int) 127 == 0) = decide (x < 128) := by
    rw [Bool.eq_iff_iff, beq_iff_eq, decide_eq_true_eq, ← an_iff x (by omega)]
    have e2 : bAndNot .u64 (x : Int) 127 = wu64 (((BitVec.ofNat 64 x &&& ~~~(BitVec.ofNat 64 127)).toNat : Nat) : Int) := by
      show IntKind.u64.wrap (((BitVec.ofInt 64 (x : Int) &&& ~~~(BitVec.ofInt 64 ((127 : Nat) : Int))).toNat : Nat) : Int) = _
      rw [ofInt64, ofInt64]
    have hlt := (BitVec.ofNat 64 x &&& ~~~(BitVec.ofNat 64 127)).isLt
    rw [e2, wu64_id (by omega) (by omega)]
    omega
  unfold quorum_Sound.f
  rw [e]
  by_cases h0 : x = 0
  · subst h0
    rfl
  · have h1 : ((x : Int) != 0) = true := by rw [bne_iff_ne]; omega
    rw [h1, if_pos rfl]
    congr 1
    rw [Bool.eq_iff_iff, decide_eq_true_eq]
    unfold soundC
    rw [decide_eq_true_eq]
    omega
theorem r_Sound (n : Nat) (c : Int) : tontineref06_Sound.f n c = some (soundC c) := by
  unfold tontineref06_Sound.f soundC
  by_cases h : c > 0
  · rw [if_pos (by simpa using h)]
    congr 1
    rw [Bool.eq_iff_iff, decide_eq_true_eq, decide_eq_true_eq]
    omega
  · rw [if_neg (by simpa using h)]
    congr 1
    rw [Bool.eq_iff_iff, decide_eq_true_eq]
    constructor
    · intro hh; cases hh
    · intro hh; omega
/-- The configuration that a text says. -/
def cfgM (s : List UInt8) : Int × Bool :=
  match rdNum s with
  | none => (0, false)
  | some (x, r) => ((x : Int), if r = [] then soundC (x : Int) else false)
theorem p_cfg (n : Nat) (hn : 20 ≤ n) (s : List UInt8) (hs : s.length < 9000000000000000000) : rlog_configOf.f n s = some (cfgM s) := by
  unfold rlog_configOf.f pack_From.f pack_Reader_Done.f pack_Reader_Left.f cfgM
  rw [Option.bind_some, p_Num n hn s false hs]
  cases h : rdNum s with
  | none => rfl
  | some q =>
    obtain ⟨x, r⟩ := q
    have hx := (rdNum_short h).2
    simp only [Option.bind_some]
    by_cases hr : r = []
    · subst hr
      rw [if_pos rfl]
      simp [p_Sound n (x : Int) ⟨by omega, by omega⟩]
    · have hl : ((r.length : Int) == 0) = false := by
        rw [beq_eq_false_iff_ne]
        intro hh
        exact hr (List.length_eq_zero_iff.1 (by omega))
      rw [if_neg hr, hl]
      rfl
theorem r_cfg (n : Nat) (hn : 20 ≤ n) (s : List UInt8) (hs : s.length < 9000000000000000000) : tontineref07_Said.f n s = some (cfgM s) := by
  unfold tontineref07_Said.f cfgM
  rw [r_Num n hn s false hs]
  cases h : rdNum s with
  | none => rfl
  | some q =>
    obtain ⟨x, r⟩ := q
    simp only [Option.bind_some]
    by_cases hr : r = []
    · subst hr
      rw [if_pos rfl]
      simp [r_Sound]
    · have hl : (r == ([] : List UInt8)) = false := by rw [beq_eq_false_iff_ne]; exact hr
      rw [if_neg hr, hl]
      rfl
/-- An entry that may stand behind index i and term t. -/
def okE (e : T_api_Entry) (i t : Int) : Bool := decide (i < 18446744073709551615 ∧ e.Index = i + 1 ∧ t ≤ e.Term ∧ 0 ≤ e.Kind ∧ e.Kind ≤ 2 ∧ e.Data.length ≤ 32768 ∧ (e.Kind = 2 → (cfgM e.Data).2 = true))
theorem next_u64 {i : Int} (h : 0 ≤ i ∧ i ≤ 18446744073709551615) : wu64 (i + 1) = if i = 18446744073709551615 then 0 else i + 1 := by
  by_cases h2 : i = 18446744073709551615
  · subst h2; rfl
  · rw [if_neg h2, wu64_id (by omega) (by omega)]
theorem p_sound (n : Nat) (hn : 20 ≤ n) (e : T_api_Entry) (i t : Int) (h : 0 ≤ i ∧ i ≤ 18446744073709551615) (hd : e.Data.length < 9000000000000000000) : rlog_sound.f n e (wu64 (i + 1)) t = some (okE e i t) := by
  have no : okE e i t = false → rlog_sound.j0 n e true = some (okE e i t) := fun hh => by rw [hh]; rfl
  unfold rlog_sound.f
  rw [next_u64 h]
  by_cases h1 : i = 18446744073709551615
  · rw [if_pos h1]
    refine (if_pos (by rfl)).trans (no ?_)
    unfold okE; rw [decide_eq_false_iff_not]; omega
  rw [if_neg h1, if_neg (show ¬ ((i + 1 == 0) = true) by rw [beq_iff_eq]; omega)]
  by_cases h2 : e.Index = i + 1
  rotate_left
  · rw [if_pos (show (e.Index != i + 1) = true by rw [bne_iff_ne]; exact h2)]
    exact no (by unfold okE; rw [decide_eq_false_iff_not]; exact fun hh => h2 hh.2.1)
  rw [if_neg (show ¬ ((e.Index != i + 1) = true) by rw [bne_iff_ne]; exact fun hh => hh h2)]
  by_cases h3 : e.Term < t
  · rw [if_pos (show decide (e.Term < t) = true from decide_eq_true h3)]
    exact no (by unfold okE; rw [decide_eq_false_iff_not]; exact fun hh => by have := hh.2.2.1; omega)
  rw [if_neg (show ¬ (decide (e.Term < t) = true) by rw [decide_eq_true_eq]; exact h3)]
  by_cases h4 : e.Kind < 0
  · rw [if_pos (show decide (e.Kind < 0) = true from decide_eq_true h4)]
    exact no (by unfold okE; rw [decide_eq_false_iff_not]; exact fun hh => by have := hh.2.2.2.1; omega)
  rw [if_neg (show ¬ (decide (e.Kind < 0) = true) by rw [decide_eq_true_eq]; exact h4)]
  by_cases h5 : e.Kind > 2
  · rw [if_pos (show decide (e.Kind > 2) = true from decide_eq_true h5)]
    exact no (by unfold okE; rw [decide_eq_false_iff_not]; exact fun hh => by have := hh.2.2.2.2.1; omega)
  rw [if_neg (show ¬ (decide (e.Kind > 2) = true) by rw [decide_eq_true_eq]; exact h5)]
  by_cases h6 : e.Data.length ≤ 32768
  rotate_left
  · rw [show decide ((e.Data.length : Int) > 32768) = true by rw [decide_eq_true_eq]; omega]
    exact no (by unfold okE; rw [decide_eq_false_iff_not]; exact fun hh => h6 hh.2.2.2.2.2.1)
  rw [show decide ((e.Data.length : Int) > 32768) = false by rw [decide_eq_false_iff_not]; omega]
  unfold rlog_sound.j0
  rw [if_neg (by simp), p_cfg n hn e.Data hd, Option.bind_some]
  by_cases h7 : e.Kind = 2
  · rw [show (e.Kind != 2) = false by rw [bne_eq_false_iff_eq]; exact h7, if_neg (by simp)]
    congr 1
    rw [Bool.eq_iff_iff]
    unfold okE; rw [decide_eq_true_eq]
    exact ⟨fun hh => ⟨by omega, h2, by omega, by omega, by omega, h6, fun _ => hh⟩, fun hh => hh.2.2.2.2.2.2 h7⟩
  · rw [if_pos (show (e.Kind != 2) = true by rw [bne_iff_ne]; exact h7)]
    congr 1
    symm
    unfold okE; rw [decide_eq_true_eq]
    exact ⟨by omega, h2, by omega, by omega, by omega, h6, fun hh => absurd hh h7⟩
theorem r_may0 (n : Nat) (e : T_api_Entry) (i t : Int) (h : 0 ≤ i ∧ i ≤ 18446744073709551615) : tontineref07_May.j0 n e (wu64 (i + 1)) t = some (decide (i < 18446744073709551615 ∧ e.Index = i + 1 ∧ t ≤ e.Term ∧ 0 ≤ e.Kind ∧ e.Kind ≤ 2 ∧ e.Data.length ≤ 32768)) := by
  unfold tontineref07_May.j0
  rw [next_u64 h]
  by_cases h1 : i = 18446744073709551615
  · rw [if_pos h1]
    refine (if_neg (by decide)).trans ?_
    congr 1
    symm
    rw [decide_eq_false_iff_not]; omega
  rw [if_neg h1, if_pos (show decide (i + 1 > 0) = true by rw [decide_eq_true_eq]; omega)]
  by_cases h2 : e.Index = i + 1
  rotate_left
  · rw [if_neg (show ¬ ((e.Index == i + 1) = true) by rw [beq_iff_eq]; exact h2)]
    congr 1; symm; rw [decide_eq_false_iff_not]; exact fun hh => h2 hh.2.1
  rw [if_pos (show (e.Index == i + 1) = true by rw [beq_iff_eq]; exact h2)]
  by_cases h3 : e.Term ≥ t
  rotate_left
  · rw [if_neg (show ¬ (decide (e.Term ≥ t) = true) by rw [decide_eq_true_eq]; exact h3)]
    congr 1; symm; rw [decide_eq_false_iff_not]; exact fun hh => h3 hh.2.2.1
  rw [if_pos (show decide (e.Term ≥ t) = true from decide_eq_true h3)]
  by_cases h4 : e.Kind ≥ 0
  rotate_left
  · rw [if_neg (show ¬ (decide (e.Kind ≥ 0) = true) by rw [decide_eq_true_eq]; exact h4)]
    congr 1; symm; rw [decide_eq_false_iff_not]; exact fun hh => h4 hh.2.2.2.1
  rw [if_pos (show decide (e.Kind ≥ 0) = true from decide_eq_true h4)]
  by_cases h5 : e.Kind ≤ 2
  rotate_left
  · rw [if_neg (show ¬ (decide (e.Kind ≤ 2) = true) by rw [decide_eq_true_eq]; exact h5)]
    congr 1; symm; rw [decide_eq_false_iff_not]; exact fun hh => h5 hh.2.2.2.2.1
  rw [if_pos (show decide (e.Kind ≤ 2) = true from decide_eq_true h5)]
  congr 1
  rw [Bool.eq_iff_iff, decide_eq_true_eq, decide_eq_true_eq]
  constructor
  · intro hh; exact ⟨by omega, h2, h3, h4, h5, by omega⟩
  · intro hh; have := hh.2.2.2.2.2; omega
theorem r_may (n : Nat) (hn : 20 ≤ n) (e : T_api_Entry) (i t : Int) (h : 0 ≤ i ∧ i ≤ 18446744073709551615) (hd : e.Data.length < 9000000000000000000) : tontineref07_May.f n e (wu64 (i + 1)) t = some (okE e i t) := by
  unfold tontineref07_May.f
  rw [r_may0 n e i t h]
  by_cases h7 : e.Kind = 2
  · rw [if_pos (show (e.Kind == 2) = true by rw [beq_iff_eq]; exact h7), r_cfg n hn e.Data hd, Option.bind_some]
    by_cases h8 : (cfgM e.Data).2 = true
    · rw [h8, if_neg (by simp)]
      congr 1
      rw [Bool.eq_iff_iff]
      unfold okE; rw [decide_eq_true_eq, decide_eq_true_eq]
      exact ⟨fun hh => ⟨hh.1, hh.2.1, hh.2.2.1, hh.2.2.2.1, hh.2.2.2.2.1, hh.2.2.2.2.2, fun _ => h8⟩, fun hh => ⟨hh.1, hh.2.1, hh.2.2.1, hh.2.2.2.1, hh.2.2.2.2.1, hh.2.2.2.2.2.1⟩⟩
    · have h8' : (cfgM e.Data).2 = false := by simpa using h8
      rw [h8', if_pos (by rfl)]
      congr 1; symm
      unfold okE; rw [decide_eq_false_iff_not]
      exact fun hh => h8 (hh.2.2.2.2.2.2 h7)
  · rw [if_neg (show ¬ ((e.Kind == 2) = true) by rw [beq_iff_eq]; exact h7)]
    congr 1
    rw [Bool.eq_iff_iff]
    unfold okE; rw [decide_eq_true_eq, decide_eq_true_eq]
    exact ⟨fun hh => ⟨hh.1, hh.2.1, hh.2.2.1, hh.2.2.2.1, hh.2.2.2.2.1, hh.2.2.2.2.2, fun h => absurd h h7⟩, fun hh => ⟨hh.1, hh.2.1, hh.2.2.1, hh.2.2.2.1, hh.2.2.2.2.1, hh.2.2.2.2.2.1⟩⟩
end Go.GL
