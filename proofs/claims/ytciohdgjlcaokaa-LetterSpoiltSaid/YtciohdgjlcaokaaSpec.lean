/- What a reading gives, over the plain functions. -/
import Derived.Test.YtciohdgjlcaokaaEnc
import Derived.Test.YtciohdgjlcaokaaRound
set_option linter.unusedVariables false
set_option linter.unusedSimpArgs false
namespace Go.GL
open Go

theorem be_val (t : List UInt8) : ∀ j, j ≤ t.length → be j (val (t.take j)) = t.take j
  | 0, _ => by simp [be]
  | j + 1, h => by
    have hb := (t.getD j 0).toNat_lt
    have e1 : (val (t.take j) * 256 + (t.getD j 0).toNat) / 256 = val (t.take j) := by omega
    have e2 : (val (t.take j) * 256 + (t.getD j 0).toNat) % 256 = (t.getD j 0).toNat := by omega
    rw [val_take (by omega), be_succ, e1, e2, be_val t j (by omega), List.take_add_one, List.getElem?_eq_getElem (by omega)]
    simp [show j < t.length by omega]
theorem val_ge (t : List UInt8) (h0 : 1 ≤ (t.getD 0 0).toNat) : ∀ j, j + 1 ≤ t.length → 256 ^ j ≤ val (t.take (j + 1))
  | 0, h => by rw [val_take (by omega)]; simp only [List.take_zero, val, List.foldl_nil]; omega
  | j + 1, h => by
    have := val_ge t h0 j (by omega)
    rw [val_take (by omega), Nat.pow_succ]; omega
theorem blen_eq {x m : Nat} (h8 : m ≤ 8) (h : x < 256 ^ m) (h' : 0 < m → 256 ^ (m - 1) ≤ x) : blen 8 x = m := by
  have hx : x < 256 ^ 8 := Nat.lt_of_lt_of_le h (Nat.pow_le_pow_right (by omega) h8)
  have a := blen_lt 8 x hx
  have b := blen_ge 8 x
  rcases Nat.lt_trichotomy (blen 8 x) m with c | c | c
  · have := h' (by omega)
    have := Nat.pow_le_pow_right (n := 256) (by omega) (show blen 8 x ≤ m - 1 by omega)
    omega
  · exact c
  · have := b (by omega)
    have := Nat.pow_le_pow_right (n := 256) (by omega) (show m ≤ blen 8 x - 1 by omega)
    omega
theorem rd_canon {s : List UInt8} {x : Nat} {r : List UInt8} (h : rdNum s = some (x, r)) : s = enc x ++ r := by
  cases s with
  | nil => simp [rdNum] at h
  | cons c t =>
    simp only [rdNum] at h
    split at h
    · cases h
    · rename_i hc
      simp only [Option.some.injEq, Prod.mk.injEq] at h
      obtain ⟨rfl, rfl⟩ := h
      have h1 : ¬ c.toNat > 8 := fun q => hc (.inl q)
      have h2 : ¬ c.toNat > t.length := fun q => hc (.inr (.inl q))
      have h3 : 0 < c.toNat → (t.getD 0 0).toNat ≠ 0 := fun q q' => hc (.inr (.inr ⟨q, q'⟩))
      have hb : blen 8 (val (t.take c.toNat)) = c.toNat := blen_eq (by omega) (val_lt _ _) (fun q => by
        have := h3 q
        obtain ⟨m, hm⟩ : ∃ m, c.toNat = m + 1 := ⟨c.toNat - 1, by omega⟩
        rw [hm]
        exact val_ge t (by omega) m (by omega))
      rw [enc, hb, be_val t _ (by omega)]
      simp

/-- What a reading of both readers gives: the value, the rest; and if it is not spoilt, what stood there. -/
theorem num_spec {n : Nat} (hn : 20 ≤ n) (s : List UInt8) (bad : Bool) (hs : s.length < 1000000000000000000) :
    ∃ a t b, pack_Reader_Num.f n ⟨s, bad⟩ = some (a, ⟨t, b⟩) ∧ tontineref03_Reader_Num.f n ⟨s, bad⟩ = some (a, ⟨t, b⟩) ∧ t.length ≤ s.length ∧ (0 ≤ a ∧ a ≤ 18446744073709551615) ∧ (b = false → bad = false ∧ s = enc a.toNat ++ t) := by
  rw [p_Num n hn s bad (by omega), r_Num n hn s bad (by omega)]
  cases h : rdNum s with
  | none => exact ⟨_, _, _, rfl, rfl, by simp, by simp, fun q => by cases q⟩
  | some q =>
    obtain ⟨x, r⟩ := q
    have h2 := rdNum_short h
    exact ⟨_, _, _, rfl, rfl, h2.1, ⟨by omega, by omega⟩, fun q => ⟨q, rd_canon h⟩⟩
theorem up_spec {n : Nat} (hn : 20 ≤ n) (s : List UInt8) (bad : Bool) (hs : s.length < 1000000000000000000) (limit : Int) (h0 : 0 ≤ limit) (hm : limit ≤ 1000000) :
    ∃ a t b, pack_Reader_Up.f n ⟨s, bad⟩ limit = some (a, ⟨t, b⟩) ∧ tontineref03_Reader_Up.f n ⟨s, bad⟩ limit = some (a, ⟨t, b⟩) ∧ t.length ≤ s.length ∧ (0 ≤ a ∧ a ≤ limit) ∧ (b = false → bad = false ∧ s = enc a.toNat ++ t) := by
  unfold pack_Reader_Up.f tontineref03_Reader_Up.f
  obtain ⟨a, t, b, e1, e2, hl, hr, hc⟩ := num_spec hn s bad hs
  rw [e1, e2]
  simp only [Option.bind_some]
  have h1 : ∀ c, pack_Reader_Up.j0 n (a, ⟨t, b⟩) c = if c = true then some (0, ⟨[], true⟩) else some (wi64 a, ⟨t, b⟩) := fun c => by cases c <;> rfl
  have h2 : ∀ c, tontineref03_Reader_Up.j0 n (a, ⟨t, b⟩) c = if c = true then some (0, ⟨[], true⟩) else some (wi64 a, ⟨t, b⟩) := fun c => by cases c <;> rfl
  simp only [h1, h2]
  have hd : decide (limit < 0) = false := decide_eq_false (by omega)
  have hw : wu64 limit = limit := wu64_id (by omega) (by omega)
  simp only [hd, hw, Bool.false_eq_true, if_false]
  by_cases h : a > limit
  · have hd2 : decide (a > limit) = true := decide_eq_true h
    simp only [hd2, if_true]
    exact ⟨_, _, _, rfl, rfl, by simp, ⟨by omega, by omega⟩, fun q => by cases q⟩
  · have hd2 : decide (a > limit) = false := decide_eq_false h
    have hw2 : wi64 a = a := wi64_id (by omega) (by omega)
    simp only [hd2, hw2, Bool.false_eq_true, if_false]
    exact ⟨_, _, _, rfl, rfl, hl, ⟨hr.1, by omega⟩, hc⟩
theorem text_spec {n : Nat} (hn : 20 ≤ n) (s : List UInt8) (bad : Bool) (hs : s.length < 1000000000000000000) (limit : Int) (h0 : 0 ≤ limit) (hm : limit ≤ 1000000) :
    ∃ a t b, pack_Reader_Text.f n ⟨s, bad⟩ limit = some (a, ⟨t, b⟩) ∧ tontineref03_Reader_Text.f n ⟨s, bad⟩ limit = some (a, ⟨t, b⟩) ∧ t.length ≤ s.length ∧ (a.length : Int) ≤ limit ∧ (b = false → bad = false ∧ s = encT a ++ t) := by
  unfold pack_Reader_Text.f tontineref03_Reader_Text.f
  obtain ⟨a, t, b, e1, e2, hl, hr, hc⟩ := up_spec hn s bad hs limit h0 hm
  rw [e1, e2]
  simp only [Option.bind_some]
  by_cases h : a > (t.length : Int)
  · have hd : decide (a > (t.length : Int)) = true := decide_eq_true h
    simp only [hd, if_true]
    exact ⟨_, _, _, rfl, rfl, by simp, by simp <;> omega, fun q => by cases q⟩
  · have hd : decide (a > (t.length : Int)) = false := decide_eq_false h
    have hcc : (0 : Int) ≤ a ∧ a ≤ (t.length : Int) := ⟨hr.1, by omega⟩
    simp only [hd, hcc, Bool.false_eq_true, if_false, and_self, if_true]
    refine ⟨_, _, _, rfl, rfl, by simp <;> omega, by simp <;> omega, fun q => ?_⟩
    obtain ⟨q1, q2⟩ := hc q
    refine ⟨q1, ?_⟩
    have el : (t.take a.toNat).length = a.toNat := by rw [List.length_take]; omega
    rw [encT, el, List.append_assoc, List.take_append_drop]
    exact q2


theorem bool_spec {n : Nat} (hn : 20 ≤ n) (s : List UInt8) (bad : Bool) (hs : s.length < 1000000000000000000) :
    ∃ a t b, pack_Reader_Bool.f n ⟨s, bad⟩ = some (a, ⟨t, b⟩) ∧ t.length ≤ s.length ∧ (b = false → bad = false ∧ s = enc (tr a) ++ t) := by
  unfold pack_Reader_Bool.f
  obtain ⟨a, t, b, e1, _, hl, hr, hc⟩ := up_spec hn s bad hs 1 (by omega) (by omega)
  rw [e1]
  refine ⟨a == 1, t, b, rfl, hl, fun q => ?_⟩
  obtain ⟨q1, q2⟩ := hc q
  refine ⟨q1, ?_⟩
  have : tr (a == 1) = a.toNat := by
    by_cases h : a = 1
    · subst h; rfl
    · have : a = 0 := by omega
      subst this; rfl
  rw [this]; exact q2
theorem done_f (n : Nat) (t : List UInt8) (b : Bool) : pack_Reader_Done.f n (⟨t, b⟩ : T_pack_Reader) = some (if t = [] then !b else false) := by
  unfold pack_Reader_Done.f
  have hl : pack_Reader_Left.f n (⟨t, b⟩ : T_pack_Reader) = some ((t.length : Int), !b) := rfl
  rw [hl, Option.bind_some]
  by_cases h : t = []
  · subst h; rfl
  · have h' : ((t.length : Int) == 0) = false := by rw [beq_eq_false_iff_ne]; intro q; exact h (List.length_eq_zero_iff.1 (by omega))
    simp only [h', if_neg h]
    rfl
theorem capOk40 {m : Nat} (h : m ≤ 1000000000) : capOk 40 m := by unfold capOk; omega
theorem same07_l0 (n : Nat) (a : List T_api_Entry) (ha : a.length ≤ 1000000) : ∀ (k i : Nat), i ≤ a.length → a.length - i < k → tontineref07_Same.l0 n a a k (i : Int) = some true
  | 0, i, _, h => by omega
  | k + 1, i, hi, hk => by
    unfold tontineref07_Same.l0
    by_cases h : i < a.length
    · have e : wi64 ((i : Int) + 1) = ((i + 1 : Nat) : Int) := by rw [wi64_id (by omega) (by omega)]; omega
      rw [if_pos (by simp <;> omega), if_pos ⟨by omega, by omega⟩, if_pos ⟨by omega, by omega⟩, if_neg (by simp), e]
      exact same07_l0 n a ha k (i + 1) (by omega) (by omega)
    · rw [if_neg (by simp <;> omega)]
theorem same_x (n : Nat) (x : T_api_Letter) (ha : x.Entries.length ≤ 1000000) (hn : x.Entries.length < n) : tontineref10_Same.f n x x = some true := by
  have h7 : tontineref07_Same.f n x.Entries x.Entries = some true := by
    unfold tontineref07_Same.f
    rw [if_neg (by simp)]
    exact same07_l0 n x.Entries ha n 0 (by omega) (by omega)
  unfold tontineref10_Same.f
  simp [h7]
end Go.GL
