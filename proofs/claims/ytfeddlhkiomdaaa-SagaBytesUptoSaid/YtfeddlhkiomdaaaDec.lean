/- Commands read, over the plain functions. -/
import Derived.Test.YtfeddlhkiomdaaaEnc
import Derived.Test.YtfeddlhkiomdaaaRound
set_option linter.unusedVariables false
set_option linter.unusedSimpArgs false
namespace Go.GL
open Go

theorem be_val (t : List UInt8) : ∀ j, j ≤ t.length → be j (val (t.take j)) = t.take j
  | 0, _ => by simp [be]
  | j + 1, h => by
    have hb := (t.getD j 0).toNat_lt
    have e1 : (val (t.take j) * 256 + (t.getD j 0).toNat) / 256 = val (t.take j) := by omega
    have e2 : (val (t.take j) * 256 + (t.getD j 0).toNat) % 256 = (t.getD j 0).toNat := by omega
    rw [val_take (by omega), be_succ, e1, e2, be_val t j (by omega), List.take_add_one, List.getElem?_eq_getElem (by omega)]
    simp [show j < t.length by omega]
theorem val_ge (t : List UInt8) (h0 : 1 ≤ (t.getD 0 0).toNat) : ∀ j, j + 1 ≤ t.length → 256 ^ j ≤ val (t.take (j + 1))
  | 0, h => by rw [val_take (by omega)]; simp only [List.take_zero, val, List.foldl_nil]; omega
  | j + 1, h => by
    have := val_ge t h0 j (by omega)
    rw [val_take (by omega), Nat.pow_succ]; omega
theorem blen_eq {x m : Nat} (h8 : m ≤ 8) (h : x < 256 ^ m) (h' : 0 < m → 256 ^ (m - 1) ≤ x) : blen 8 x = m := by
  have hx : x < 256 ^ 8 := Nat.lt_of_lt_of_le h (Nat.pow_le_pow_right (by omega) h8)
  have a := blen_lt 8 x hx
  have b := blen_ge 8 x
  rcases Nat.lt_trichotomy (blen 8 x) m with c | c | c
  · have := h' (by omega)
    have := Nat.pow_le_pow_right (n := 256) (by omega) (show blen 8 x ≤ m - 1 by omega)
    omega
  · exact c
  · have := b (by omega)
    have := Nat.pow_le_pow_right (n := 256) (by omega) (show m ≤ blen 8 x - 1 by omega)
    omega
theorem rd_canon {s : List UInt8} {x : Nat} {r : List UInt8} (h : rdNum s = some (x, r)) : s = enc x ++ r := by
  cases s with
  | nil => simp [rdNum] at h
  | cons c t =>
    simp only [rdNum] at h
    split at h
    · cases h
    · rename_i hc
      simp only [Option.some.injEq, Prod.mk.injEq] at h
      obtain ⟨rfl, rfl⟩ := h
      have h1 : ¬ c.toNat > 8 := fun q => hc (.inl q)
      have h2 : ¬ c.toNat > t.length := fun q => hc (.inr (.inl q))
      have h3 : 0 < c.toNat → (t.getD 0 0).toNat ≠ 0 := fun q q' => hc (.inr (.inr ⟨q, q'⟩))
      have hb : blen 8 (val (t.take c.toNat)) = c.toNat := blen_eq (by omega) (val_lt _ _) (fun q => by
        have := h3 q
        obtain ⟨m, hm⟩ : ∃ m, c.toNat = m + 1 := ⟨c.toNat - 1, by omega⟩
        rw [hm]
        exact val_ge t (by omega) m (by omega))
      rw [enc, hb, be_val t _ (by omega)]
      simp

/-- What a reading of both readers gives: the value, the rest; and if it is not spoilt, what stood there. -/
theorem num_spec {n : Nat} (hn : 20 ≤ n) (s : List UInt8) (bad : Bool) (hs : s.length < 1000000000000000000) :
    ∃ a t b, pack_Reader_Num.f n ⟨s, bad⟩ = some (a, ⟨t, b⟩) ∧ tontineref03_Reader_Num.f n ⟨s, bad⟩ = some (a, ⟨t, b⟩) ∧ t.length ≤ s.length ∧ (0 ≤ a ∧ a ≤ 18446744073709551615) ∧ (b = false → bad = false ∧ s = enc a.toNat ++ t) := by
  rw [p_Num n hn s bad (by omega), r_Num n hn s bad (by omega)]
  cases h : rdNum s with
  | none => exact ⟨_, _, _, rfl, rfl, by simp, by simp, fun q => by cases q⟩
  | some q =>
    obtain ⟨x, r⟩ := q
    have h2 := rdNum_short h
    exact ⟨_, _, _, rfl, rfl, h2.1, ⟨by omega, by omega⟩, fun q => ⟨q, rd_canon h⟩⟩
theorem up_spec {n : Nat} (hn : 20 ≤ n) (s : List UInt8) (bad : Bool) (hs : s.length < 1000000000000000000) (limit : Int) (h0 : 0 ≤ limit) (hm : limit ≤ 1000) :
    ∃ a t b, pack_Reader_Up.f n ⟨s, bad⟩ limit = some (a, ⟨t, b⟩) ∧ tontineref03_Reader_Up.f n ⟨s, bad⟩ limit = some (a, ⟨t, b⟩) ∧ t.length ≤ s.length ∧ (0 ≤ a ∧ a ≤ limit) ∧ (b = false → bad = false ∧ s = enc a.toNat ++ t) := by
  unfold pack_Reader_Up.f tontineref03_Reader_Up.f
  obtain ⟨a, t, b, e1, e2, hl, hr, hc⟩ := num_spec hn s bad hs
  rw [e1, e2]
  simp only [Option.bind_some]
  have h1 : ∀ c, pack_Reader_Up.j0 n (a, ⟨t, b⟩) c = if c = true then some (0, ⟨[], true⟩) else some (wi64 a, ⟨t, b⟩) := fun c => by cases c <;> rfl
  have h2 : ∀ c, tontineref03_Reader_Up.j0 n (a, ⟨t, b⟩) c = if c = true then some (0, ⟨[], true⟩) else some (wi64 a, ⟨t, b⟩) := fun c => by cases c <;> rfl
  simp only [h1, h2]
  have hd : decide (limit < 0) = false := decide_eq_false (by omega)
  have hw : wu64 limit = limit := wu64_id (by omega) (by omega)
  simp only [hd, hw, Bool.false_eq_true, if_false]
  by_cases h : a > limit
  · have hd2 : decide (a > limit) = true := decide_eq_true h
    simp only [hd2, if_true]
    exact ⟨_, _, _, rfl, rfl, by simp, ⟨by omega, by omega⟩, fun q => by cases q⟩
  · have hd2 : decide (a > limit) = false := decide_eq_false h
    have hw2 : wi64 a = a := wi64_id (by omega) (by omega)
    simp only [hd2, hw2, Bool.false_eq_true, if_false]
    exact ⟨_, _, _, rfl, rfl, hl, ⟨hr.1, by omega⟩, hc⟩
theorem text_spec {n : Nat} (hn : 20 ≤ n) (s : List UInt8) (bad : Bool) (hs : s.length < 1000000000000000000) (limit : Int) (h0 : 0 ≤ limit) (hm : limit ≤ 1000) :
    ∃ a t b, pack_Reader_Text.f n ⟨s, bad⟩ limit = some (a, ⟨t, b⟩) ∧ tontineref03_Reader_Text.f n ⟨s, bad⟩ limit = some (a, ⟨t, b⟩) ∧ t.length ≤ s.length ∧ (a.length : Int) ≤ limit ∧ (b = false → bad = false ∧ s = encT a ++ t) := by
  unfold pack_Reader_Text.f tontineref03_Reader_Text.f
  obtain ⟨a, t, b, e1, e2, hl, hr, hc⟩ := up_spec hn s bad hs limit h0 hm
  rw [e1, e2]
  simp only [Option.bind_some]
  by_cases h : a > (t.length : Int)
  · have hd : decide (a > (t.length : Int)) = true := decide_eq_true h
    simp only [hd, if_true]
    exact ⟨_, _, _, rfl, rfl, by simp, by simp <;> omega, fun q => by cases q⟩
  · have hd : decide (a > (t.length : Int)) = false := decide_eq_false h
    have hcc : (0 : Int) ≤ a ∧ a ≤ (t.length : Int) := ⟨hr.1, by omega⟩
    simp only [hd, hcc, Bool.false_eq_true, if_false, and_self, if_true]
    refine ⟨_, _, _, rfl, rfl, by simp <;> omega, by simp <;> omega, fun q => ?_⟩
    obtain ⟨q1, q2⟩ := hc q
    refine ⟨q1, ?_⟩
    have el : (t.take a.toNat).length = a.toNat := by rw [List.length_take]; omega
    rw [encT, el, List.append_assoc, List.take_append_drop]
    exact q2

theorem capOk32 {m : Nat} (h : m ≤ 1000000000) : capOk 32 m := by unfold capOk; omega
/-- A step that was read. -/
def stepRd (s : T_api_Step) : Prop := (0 ≤ s.Part ∧ s.Part ≤ 3) ∧ s.Name.length ≤ 16 ∧ (0 ≤ s.Budget ∧ s.Budget ≤ 9)
theorem encS_rd {s : T_api_Step} (h : stepRd s) : encS s = enc s.Part.toNat ++ (encT s.Name ++ enc s.Budget.toNat) := by
  obtain ⟨h1, _, h3⟩ := h
  rw [encS, wu64_id (by omega) (by omega), wu64_id (x := s.Budget) (by omega) (by omega), List.append_assoc]

theorem steps_spec (n : Nat) (hn : 20 ≤ n) (N : Nat) (hN : N ≤ 64) (r3 : Int × T_tontineref03_Reader) (h3 : r3.1 = (N : Int)) : ∀ (d k : Nat) (s : List UInt8) (bad : Bool) (l : List T_api_Step), d ≤ N → d < k → s.length < 1000000000000000000 → l.length + d ≤ 64 → (∀ x ∈ l, stepRd x) →
    ∃ a t b, plan_Read.l0 n k s bad l (d : Int) = some (a, ⟨t, b⟩) ∧ tontineref13_Read.l0 n r3 k s bad l ((N : Int) - d) = some (a, ⟨t, b⟩) ∧ t.length ≤ s.length ∧ a.length ≤ 64 ∧ (∀ x ∈ a, stepRd x) ∧ (b = false → bad = false ∧ ∃ l', a = l ++ l' ∧ l'.length = d ∧ s = encL l' ++ t)
  | d, 0, s, bad, l, _, h, _, _, _ => by omega
  | 0, k + 1, s, bad, l, hd, hk, hs, hl, hw => by
    unfold plan_Read.l0 tontineref13_Read.l0
    rw [if_neg (by simp), if_neg (by rw [h3]; simp)]
    have e : pack_Reader_Left.f n (⟨s, bad⟩ : T_pack_Reader) = some ((s.length : Int), !bad) := rfl
    rw [e, Option.bind_some]
    cases bad
    · exact ⟨l, s, false, rfl, rfl, Nat.le_refl _, by omega, hw, fun _ => ⟨rfl, [], by simp, rfl, by simp [encL]⟩⟩
    · exact ⟨[], s, true, rfl, rfl, Nat.le_refl _, by simp, by simp, fun q => by cases q⟩
  | d + 1, k + 1, s, bad, l, hd, hk, hs, hl, hw => by
    unfold plan_Read.l0 tontineref13_Read.l0
    rw [if_pos (by simp <;> omega), if_pos (by rw [h3]; simp <;> omega)]
    obtain ⟨a1, t1, b1, e1, e1', l1, r1, c1⟩ := up_spec hn s bad hs 3 (by omega) (by omega)
    rw [e1, e1']
    simp only [Option.bind_some]
    obtain ⟨a2, t2, b2, e2, e2', l2, r2, c2⟩ := text_spec hn t1 b1 (by omega) 16 (by omega) (by omega)
    rw [e2, e2']
    simp only [Option.bind_some]
    obtain ⟨a4, t4, b4, e4, e4', l4, r4, c4⟩ := up_spec hn t2 b2 (by omega) 9 (by omega) (by omega)
    rw [e4, e4']
    simp only [Option.bind_some]
    have c : capOk 32 (l ++ [(⟨a1, a2, a4⟩ : T_api_Step)]).length := capOk32 (by simp <;> omega)
    have w1 : wi64 (((d + 1 : Nat) : Int) - 1) = (d : Int) := by rw [wi64_id (by omega) (by omega)]; omega
    have w2 : wi64 ((N : Int) - ((d + 1 : Nat) : Int) + 1) = (N : Int) - (d : Int) := by rw [wi64_id (by omega) (by omega)]; omega
    have hsr : stepRd ⟨a1, a2, a4⟩ := ⟨r1, by show a2.length ≤ 16; omega, r4⟩
    rw [if_pos c, if_pos c, w1, w2]
    obtain ⟨a, t, b, f1, f2, f3, f4, f5, f6⟩ := steps_spec n hn N hN r3 h3 d k t4 b4 (l ++ [(⟨a1, a2, a4⟩ : T_api_Step)]) (by omega) (by omega) (by omega) (by simp <;> omega) (by
      intro x hx
      rcases List.mem_append.1 hx with hx | hx
      · exact hw x hx
      · rw [List.mem_singleton] at hx; subst hx; exact hsr)
    refine ⟨a, t, b, f1, f2, by omega, f4, f5, fun q => ?_⟩
    obtain ⟨q1, l', q2, q3, q4⟩ := f6 q
    obtain ⟨q5, q6⟩ := c4 q1
    obtain ⟨q7, q8⟩ := c2 q5
    obtain ⟨q9, q10⟩ := c1 q7
    refine ⟨q9, ⟨a1, a2, a4⟩ :: l', by rw [q2]; simp, by simp [q3], ?_⟩
    rw [q10, q8, q6, q4]
    simp only [encL, List.flatMap_cons, encS_rd hsr, List.append_assoc]

theorem plan_spec (n : Nat) (hn : 100 ≤ n) (s : List UInt8) (bad : Bool) (hs : s.length < 1000000000000000000) :
    ∃ a t b, plan_Read.f n ⟨s, bad⟩ = some (a, ⟨t, b⟩) ∧ tontineref13_Read.f n ⟨s, bad⟩ = some (a, ⟨t, b⟩) ∧ t.length ≤ s.length ∧ a.length ≤ 64 ∧ (∀ x ∈ a, stepRd x) ∧ (b = false → bad = false ∧ s = enc a.length ++ (encL a ++ t)) := by
  unfold plan_Read.f tontineref13_Read.f
  obtain ⟨a1, t1, b1, e1, e1', l1, r1, c1⟩ := up_spec (n := n) (by omega) s bad hs 64 (by omega) (by omega)
  rw [e1, e1']
  simp only [Option.bind_some]
  obtain ⟨N, rfl⟩ : ∃ N : Nat, a1 = (N : Int) := ⟨a1.toNat, by omega⟩
  obtain ⟨a, t, b, f1, f2, f3, f4, f5, f6⟩ := steps_spec n (by omega) N (by omega) ((N : Int), ⟨t1, b1⟩) rfl N n t1 b1 [] (by omega) (by omega) (by omega) (by simp <;> omega) (by simp)
  rw [show ((N : Int) - (N : Int)) = 0 by omega] at f2
  refine ⟨a, t, b, f1, f2, by omega, f4, f5, fun q => ?_⟩
  obtain ⟨q1, l', q2, q3, q4⟩ := f6 q
  obtain ⟨q5, q6⟩ := c1 q1
  rw [List.nil_append] at q2
  subst q2
  refine ⟨q5, ?_⟩
  rw [q6, q4, q3]
  rfl
end Go.GL
