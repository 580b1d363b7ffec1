/- The law PackOne, over the plain functions. -/
import Derived.Test.YtcpcdnjpdblhoaaRound
set_option linter.unusedVariables false
set_option linter.unusedSimpArgs false
namespace Go.GL
open Go

theorem be_val (t : List UInt8) : ∀ j, j ≤ t.length → be j (val (t.take j)) = t.take j
  | 0, _ => by simp [be]
  | j + 1, h => by
    have hb := (t.getD j 0).toNat_lt
    have e1 : (val (t.take j) * 256 + (t.getD j 0).toNat) / 256 = val (t.take j) := by omega
    have e2 : (val (t.take j) * 256 + (t.getD j 0).toNat) % 256 = (t.getD j 0).toNat := by omega
    rw [val_take (by omega), be_succ, e1, e2, be_val t j (by omega), List.take_add_one, List.getElem?_eq_getElem (by omega)]
    simp [show j < t.length by omega]
theorem val_ge (t : List UInt8) (h0 : 1 ≤ (t.getD 0 0).toNat) : ∀ j, j + 1 ≤ t.length → 256 ^ j ≤ val (t.take (j + 1))
  | 0, h => by rw [val_take (by omega)]; simp only [List.take_zero, val, List.foldl_nil]; omega
  | j + 1, h => by
    have := val_ge t h0 j (by omega)
    rw [val_take (by omega), Nat.pow_succ]; omega
theorem blen_eq {x m : Nat} (h8 : m ≤ 8) (h : x < 256 ^ m) (h' : 0 < m → 256 ^ (m - 1) ≤ x) : blen 8 x = m := by
  have hx : x < 256 ^ 8 := Nat.lt_of_lt_of_le h (Nat.pow_le_pow_right (by omega) h8)
  have a := blen_lt 8 x hx
  have b := blen_ge 8 x
  rcases Nat.lt_trichotomy (blen 8 x) m with c | c | c
  · have := h' (by omega)
    have := Nat.pow_le_pow_right (n := 256) (by omega) (show blen 8 x ≤ m - 1 by omega)
    omega
  · exact c
  · have := b (by omega)
    have := Nat.pow_le_pow_right (n := 256) (by omega) (show m ≤ blen 8 x - 1 by omega)
    omega
theorem rd_canon {s : List UInt8} {x : Nat} {r : List UInt8} (h : rdNum s = some (x, r)) : s = enc x ++ r := by
  cases s with
  | nil => simp [rdNum] at h
  | cons c t =>
    simp only [rdNum] at h
    split at h
    · cases h
    · rename_i hc
      simp only [Option.some.injEq, Prod.mk.injEq] at h
      obtain ⟨rfl, rfl⟩ := h
      have h1 : ¬ c.toNat > 8 := fun q => hc (.inl q)
      have h2 : ¬ c.toNat > t.length := fun q => hc (.inr (.inl q))
      have h3 : 0 < c.toNat → (t.getD 0 0).toNat ≠ 0 := fun q q' => hc (.inr (.inr ⟨q, q'⟩))
      have hb : blen 8 (val (t.take c.toNat)) = c.toNat := blen_eq (by omega) (val_lt _ _) (fun q => by
        have := h3 q
        obtain ⟨m, hm⟩ : ∃ m, c.toNat = m + 1 := ⟨c.toNat - 1, by omega⟩
        rw [hm]
        exact val_ge t (by omega) m (by omega))
      rw [enc, hb, be_val t _ (by omega)]
      simp

theorem less_be : ∀ (m a b : Nat), Op.bytesLess (be m a) (be m b) = decide (a % 256 ^ m < b % 256 ^ m)
  | 0, a, b => by simp [be, Op.bytesLess, Nat.mod_one]
  | m + 1, a, b => by
    have ih := less_be m a b
    have ha := Nat.mod_pow_succ (x := a) (b := 256) (k := m)
    have hb := Nat.mod_pow_succ (x := b) (b := 256) (k := m)
    have pa : a / 256 ^ m % 256 < 256 := Nat.mod_lt _ (by omega)
    have pb : b / 256 ^ m % 256 < 256 := Nat.mod_lt _ (by omega)
    have hp : 0 < 256 ^ m := Nat.pow_pos (by omega)
    have ra := Nat.mod_lt a hp
    have rb := Nat.mod_lt b hp
    simp only [be, Op.bytesLess, ih, ha, hb]
    generalize a / 256 ^ m % 256 = A at *
    generalize b / 256 ^ m % 256 = B at *
    generalize a % 256 ^ m = u at *
    generalize b % 256 ^ m = v at *
    generalize 256 ^ m = P at *
    have ea : (UInt8.ofNat A).toNat = A := by simp <;> omega
    have eb : (UInt8.ofNat B).toNat = B := by simp <;> omega
    have el : (UInt8.ofNat A < UInt8.ofNat B) ↔ A < B := by rw [UInt8.lt_iff_toNat_lt, ea, eb]
    have ee : (UInt8.ofNat A = UInt8.ofNat B) ↔ A = B := ⟨fun h => by rw [← ea, ← eb, h], fun h => by rw [h]⟩
    rcases Nat.lt_trichotomy A B with c | c | c
    · have q : P * A + P ≤ P * B := by rw [← Nat.mul_succ]; exact Nat.mul_le_mul_left _ c
      rw [decide_eq_true (el.2 c), decide_eq_true (show u + P * A < v + P * B by omega)]
      rfl
    · subst c
      have e2 : decide (UInt8.ofNat A < UInt8.ofNat A) = false := decide_eq_false (fun h => by have := el.1 h; omega)
      rw [e2]
      simp
    · have q : P * B + P ≤ P * A := by rw [← Nat.mul_succ]; exact Nat.mul_le_mul_left _ c
      have e2 : decide (UInt8.ofNat A < UInt8.ofNat B) = false := decide_eq_false (fun h => by have := el.1 h; omega)
      have e3 : (UInt8.ofNat A == UInt8.ofNat B) = false := by rw [beq_eq_false_iff_ne]; intro h; have := ee.1 h; omega
      rw [e2, e3, decide_eq_false (show ¬ u + P * A < v + P * B by omega)]
      rfl

theorem less_enc {a b : Nat} (ha : a < 18446744073709551616) (hb : b < 18446744073709551616) : Op.bytesLess (enc a) (enc b) = decide (a < b) := by
  have a1 := blen_lt 8 a (by simpa using ha)
  have b1 := blen_lt 8 b (by simpa using hb)
  have a2 := blen_ge 8 a
  have b2 := blen_ge 8 b
  have a3 := blen_le 8 a
  have b3 := blen_le 8 b
  have hl := less_be (blen 8 b) a b
  rw [Nat.mod_eq_of_lt b1] at hl
  simp only [enc, Op.bytesLess]
  generalize hA : blen 8 a = A at *
  generalize hB : blen 8 b = B at *
  have ea : (UInt8.ofNat A).toNat = A := by simp <;> omega
  have eb : (UInt8.ofNat B).toNat = B := by simp <;> omega
  have el : (UInt8.ofNat A < UInt8.ofNat B) ↔ A < B := by rw [UInt8.lt_iff_toNat_lt, ea, eb]
  have ee : (UInt8.ofNat A = UInt8.ofNat B) ↔ A = B := ⟨fun h => by rw [← ea, ← eb, h], fun h => by rw [h]⟩
  rcases Nat.lt_trichotomy A B with c | c | c
  · have := b2 (by omega)
    have := Nat.pow_le_pow_right (n := 256) (by omega) (show A ≤ B - 1 by omega)
    rw [decide_eq_true (el.2 c), decide_eq_true (show a < b by omega)]
    rfl
  · subst c
    have e2 : decide (UInt8.ofNat A < UInt8.ofNat A) = false := decide_eq_false (fun h => by have := el.1 h; omega)
    rw [Nat.mod_eq_of_lt a1] at hl
    rw [e2, hl]
    simp
  · have := a2 (by omega)
    have := Nat.pow_le_pow_right (n := 256) (by omega) (show B ≤ A - 1 by omega)
    have e2 : decide (UInt8.ofNat A < UInt8.ofNat B) = false := decide_eq_false (fun h => by have := el.1 h; omega)
    have e3 : (UInt8.ofNat A == UInt8.ofNat B) = false := by rw [beq_eq_false_iff_ne]; intro h; have := ee.1 h; omega
    rw [e2, e3, decide_eq_false (show ¬ a < b by omega)]
    rfl
theorem enc_inj {a b : Nat} (ha : a < 18446744073709551616) (hb : b < 18446744073709551616) (h : enc a = enc b) : a = b := by
  have h1 := rd_enc ha []
  have h2 := rd_enc hb []
  rw [h, h2] at h1
  simp only [Option.some.injEq, Prod.mk.injEq] at h1
  exact h1.1.symm

theorem packOne_j0 (n : Nat) (hn : 20 ≤ n) {a b : Int} (ha : 0 ≤ a ∧ a ≤ 18446744073709551615) (hb : 0 ≤ b ∧ b ≤ 18446744073709551615) (r8 : Int × T_pack_Reader) (r9 : Int × Bool) (h : r9.2 = true ∨ (r8.1 = 0 ∧ r9.1 = 0)) :
    tontinelaw03_PackOne.j0 n a b r8 r9 false = some true := by
  unfold tontinelaw03_PackOne.j0
  have hw : ∀ l, pack_Writer_Bytes.f n (⟨l⟩ : T_pack_Writer) = some l := fun _ => rfl
  rw [if_neg (by simp), w_Num n hn _ (by simp) ha, Option.bind_some, hw, Option.bind_some, w_Num n hn _ (by simp) hb, Option.bind_some, hw, Option.bind_some]
  simp only [List.nil_append]
  obtain ⟨u, rfl⟩ : ∃ u : Nat, a = (u : Int) := ⟨a.toNat, by omega⟩
  obtain ⟨v, rfl⟩ : ∃ v : Nat, b = (v : Int) := ⟨b.toNat, by omega⟩
  simp only [Int.toNat_natCast]
  have e1 : (enc u == enc v) = ((u : Int) == (v : Int)) := by
    rw [Bool.eq_iff_iff, beq_iff_eq, beq_iff_eq]
    exact ⟨fun h => by rw [enc_inj (by omega) (by omega) h], fun h => by rw [show u = v by omega]⟩
  have e2 : Op.bytesLess (enc u) (enc v) = decide ((u : Int) < (v : Int)) := by
    rw [less_enc (by omega) (by omega), Bool.eq_iff_iff, decide_eq_true_eq, decide_eq_true_eq]
    omega
  rw [if_pos (by rw [e1]; simp), if_pos (by rw [e2]; simp)]
  rcases h with h | ⟨h, h'⟩
  · rw [if_pos h]
  · by_cases q : r9.2 = true
    · rw [if_pos q]
    · rw [if_neg q, h, h']; rfl

theorem tontinelaw03_PackOne_law (s : List UInt8) (a b : Int) (hs : s.length ≤ reachBytes) (ha : (Lit.int .u64 a).wf = true) (hb : (Lit.int .u64 b).wf = true) : Ev (fun n => tontinelaw03_PackOne.f n s a b) true := by
  unfold tontinelaw03_PackOne.f
  refine Ev.bind begun03 (Ev.ge 300 fun n hn => ?_)
  rw [if_neg (by simp)]
  have hr : reachBytes < 1000000000000000000 := by decide
  have ha := wf_u64 ha
  have hb := wf_u64 hb
  have hf : pack_From.f n s = some ⟨s, false⟩ := rfl
  have hl : ∀ (l : List UInt8) b, pack_Reader_Left.f n (⟨l, b⟩ : T_pack_Reader) = some ((l.length : Int), !b) := fun _ _ => rfl
  have hw : ∀ l, pack_Writer_Bytes.f n (⟨l⟩ : T_pack_Writer) = some l := fun _ => rfl
  rw [hf, Option.bind_some, p_Num n (by omega) s false (by omega), Option.bind_some]
  cases h : rdNum s with
  | none =>
    simp only
    rw [hl, Option.bind_some, if_neg (by simp)]
    exact packOne_j0 n (by omega) ha hb _ _ (.inr ⟨rfl, rfl⟩)
  | some q =>
    obtain ⟨x, r⟩ := q
    have hc := rd_canon h
    have hx := (rdNum_short h).2
    simp only
    rw [hl, Option.bind_some, if_pos (by simp)]
    have hlen : s.length = (enc x).length + r.length := by rw [hc]; simp
    have e1 : wi64 ((s.length : Int) - (r.length : Int)) = ((enc x).length : Int) := by rw [wi64_id (by omega) (by omega)]; omega
    simp only [e1]
    have htk : s.take (enc x).length = enc x := by rw [hc]; simp
    rw [if_pos ⟨by omega, by omega⟩, w_Num n (by omega) _ (by simp) ⟨by omega, by omega⟩, Option.bind_some, hw, Option.bind_some]
    simp only [List.nil_append, Int.toNat_natCast, htk, beq_self_eq_true, Bool.not_true]
    exact packOne_j0 n (by omega) ha hb _ _ (.inl rfl)
end Go.GL
