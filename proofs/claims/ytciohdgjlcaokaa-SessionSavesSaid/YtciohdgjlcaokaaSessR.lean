/- Sessions: the reference computes the same. No condition but the bounds named. -/
import Derived.Test.YtciohdgjlcaokaaSess
set_option linter.unusedVariables false
set_option linter.unusedSimpArgs false
set_option maxRecDepth 10000
namespace Go.GL
open Go
def toR (r : T_session_Row) : T_tontineref15_Row := ⟨r.Id, r.Used, r.Seq, r.Reply⟩
def refT (t : T_session_Table) : T_tontineref15_Table := ⟨t.now, t.next, t.rows.map toR⟩
theorem toR_rd {l : List T_session_Row} {k : Nat} (h : k < l.length) : rdL (l.map toR) (k : Int) = toR (rdL l (k : Int)) := by
  simp [rdL, h]
theorem refT_len (t : T_session_Table) : (refT t).Rows.length = t.rows.length := by simp [refT]
theorem refT_rd {t : T_session_Table} {k : Nat} (h : k < t.rows.length) : rdL (refT t).Rows (k : Int) = toR (rdL t.rows (k : Int)) := toR_rd h
structure RW (now : Int) (r : T_session_Row) : Prop where
  id : 0 ≤ r.Id ∧ r.Id ≤ 18446744073709551615
  used : 0 ≤ r.Used ∧ r.Used ≤ now
  seq : 0 ≤ r.Seq ∧ r.Seq ≤ 18446744073709551615
  num : 0 ≤ r.Reply.Num ∧ r.Reply.Num ≤ 18446744073709551615
  extra : 0 ≤ r.Reply.Extra ∧ r.Reply.Extra ≤ 18446744073709551615
/-- What holds of every table. -/
structure TW (t : T_session_Table) : Prop where
  len : t.rows.length ≤ 16
  now : 0 ≤ t.now ∧ t.now ≤ 18446744073709551615
  next : 1 ≤ t.next ∧ t.next ≤ 18446744073709551615
  rows : ∀ r ∈ t.rows, RW t.now r
theorem r_Reg (n : Nat) (t : T_session_Table) (h : TW t) : tontineref15_Table_Register.f n (refT t) = some ((regM t).1, (regM t).2.1, refT (regM t).2.2) := by
  have h0 := h.len
  have h4 := h.next
  unfold tontineref15_Table_Register.f tontineref15_Table_Register.j0 regM
  rw [refT_len]
  by_cases h1 : 16 ≤ t.rows.length
  · rw [if_pos (by rw [beq_iff_eq]; omega), if_pos rfl, if_pos (.inl h1)]
  · rw [if_neg (by rw [beq_iff_eq]; omega)]
    by_cases h3 : t.next = 18446744073709551615
    · rw [if_pos (by show (wu64 (t.next + 1) == 0) = true; rw [h3]; rfl), if_pos (.inr h3)]
    · have c : capOk 48 ((refT t).Rows ++ [(⟨(refT t).Next, (refT t).Now, 0, ⟨0, 0, 0⟩⟩ : T_tontineref15_Row)]).length := by simp only [List.length_append, List.length_cons, List.length_nil, refT_len]; unfold capOk; omega
      have w : wu64 ((refT t).Next + 1) = t.next + 1 := wu64_id (by show 0 ≤ t.next + 1; omega) (by show t.next + 1 ≤ _; omega)
      rw [w, if_neg (by rw [beq_iff_eq]; omega), if_pos c, if_neg (by omega), show t.next + 1 - 1 = t.next by omega, wu64_id (x := t.next) (by omega) (by omega)]
      simp [refT, toR]
theorem rfind_l0 (n : Nat) (t : T_session_Table) (id : Int) (ht : t.rows.length ≤ 1000) : ∀ (j k i : Nat), i + j = t.rows.length → j < k → tontineref15_Table_find.l0 n (refT t) id k (i : Int) = some (findI id ((t.rows.drop i).map (·.Id)) i)
  | j, 0, i, _, h => by omega
  | 0, k + 1, i, hi, _ => by
    unfold tontineref15_Table_find.l0
    rw [refT_len, if_neg (by rw [decide_eq_true_eq]; omega), List.drop_of_length_le (by omega)]
    rfl
  | j + 1, k + 1, i, hi, hk => by
    unfold tontineref15_Table_find.l0
    rw [refT_len, if_pos (by rw [decide_eq_true_eq]; omega), if_pos ⟨by omega, by omega⟩, getD_drop (by omega), List.map_cons, refT_rd (by omega)]
    unfold findI
    by_cases h : (rdL t.rows (i : Int)).Id = id
    · rw [if_pos (by rw [beq_iff_eq]; exact h), if_pos h]
    · rw [if_neg (by rw [beq_iff_eq]; exact h), if_neg h, wi64_id (by omega) (by omega), show ((i : Int) + 1) = ((i + 1 : Nat) : Int) by omega]
      exact rfind_l0 n t id ht j k (i + 1) (by omega) (by omega)
theorem r_find (n : Nat) (t : T_session_Table) (id : Int) (ht : t.rows.length ≤ 1000) (hn : 2000 ≤ n) : tontineref15_Table_find.f n (refT t) id = some (find t id) :=
  rfind_l0 n t id ht t.rows.length n 0 (by omega) (by omega)
theorem seq_eq {a s : Int} (ha : 0 ≤ a ∧ a ≤ 18446744073709551615) (hs : 0 ≤ s ∧ s ≤ 18446744073709551615) (h : s ≠ 0) : s ≠ wu64 (a + 1) ↔ wu64 (s - 1) ≠ a := by
  rw [wu64_id (x := s - 1) (by omega) (by omega)]
  by_cases h2 : a = 18446744073709551615
  · subst h2
    have : wu64 (18446744073709551615 + 1) = 0 := by decide
    rw [this]
    omega
  · rw [wu64_id (by omega) (by omega)]
    omega
theorem refT_set (t : T_session_Table) (k : Nat) (r : T_session_Row) : (⟨t.now, t.next, (t.rows.map toR).set k (toR r)⟩ : T_tontineref15_Table) = refT ⟨t.now, t.next, t.rows.set k r⟩ := by
  simp [refT, List.map_set]
theorem r_Begin (n : Nat) (t : T_session_Table) (id seq : Int) (h : TW t) (hs : 0 ≤ seq ∧ seq ≤ 18446744073709551615) (hn : 2000 ≤ n) :
    tontineref15_Table_Begin.f n (refT t) id seq = some ((beginM t id seq).1, (beginM t id seq).2.1, refT (beginM t id seq).2.2) := by
  have h0 := h.len
  unfold tontineref15_Table_Begin.f beginM
  rw [r_find n t id (by omega) hn, Option.bind_some]
  rcases find_lt t id with hf | ⟨k, hk, hl⟩
  · rw [if_pos (by simpa using hf), if_pos hf]
  · have hl2 : k < (refT t).Rows.length := by rw [refT_len]; exact hl
    have hw := h.rows _ (rdL_mem hl)
    rw [hk, if_neg (by simp), if_neg (show ¬ ((k : Int) < 0) by omega), refT_len, if_pos ⟨by omega, by omega⟩]
    unfold tontineref15_Table_Begin.j0
    simp only [Int.toNat_natCast, rdL_set _ hl2, List.length_set, refT_len]
    rw [refT_rd hl]
    have e : ∀ r : T_session_Row, (⟨(refT t).Now, (refT t).Next, (refT t).Rows.set k (toR r)⟩ : T_tontineref15_Table) = refT ⟨t.now, t.next, t.rows.set k r⟩ := refT_set t k
    have e1 : (⟨(refT t).Now, (refT t).Next, (refT t).Rows.set k (⟨(rdL t.rows (k : Int)).Id, t.now, (rdL t.rows (k : Int)).Seq, (rdL t.rows (k : Int)).Reply⟩ : T_tontineref15_Row)⟩ : T_tontineref15_Table) = refT ⟨t.now, t.next, t.rows.set k ⟨(rdL t.rows (k : Int)).Id, t.now, (rdL t.rows (k : Int)).Seq, (rdL t.rows (k : Int)).Reply⟩⟩ := refT_set t k ⟨(rdL t.rows (k : Int)).Id, t.now, (rdL t.rows (k : Int)).Seq, (rdL t.rows (k : Int)).Reply⟩
    have e2 : ∀ (a : T_api_Reply) (b : Bool), some ((a, b, (⟨(refT t).Now, (refT t).Next, (refT t).Rows.set k (⟨(toR (rdL t.rows (k : Int))).Id, (refT t).Now, (toR (rdL t.rows (k : Int))).Seq, (⟨(toR (rdL t.rows (k : Int))).Reply.Err, (toR (rdL t.rows (k : Int))).Reply.Num, (toR (rdL t.rows (k : Int))).Reply.Extra⟩ : T_api_Reply)⟩ : T_tontineref15_Row)⟩ : T_tontineref15_Table))) = some (a, b, refT ⟨t.now, t.next, t.rows.set k ⟨(rdL t.rows (k : Int)).Id, t.now, (rdL t.rows (k : Int)).Seq, (rdL t.rows (k : Int)).Reply⟩⟩) := by
      intro a b
      exact congrArg some (congrArg (Prod.mk a) (congrArg (Prod.mk b) e1))
    have es : (toR (rdL t.rows (k : Int))).Seq = (rdL t.rows (k : Int)).Seq := rfl
    simp only [es]
    by_cases h4 : seq = 0
    · rw [if_neg (by simpa using h4), if_neg (by simp), if_pos (by simpa using h4), if_neg (show ¬ (seq = (rdL t.rows (k : Int)).Seq ∧ seq > 0) from fun h => by omega), if_pos (.inr h4)]
      exact e2 _ _
    · rw [if_pos (by simpa using h4), if_pos ⟨by omega, by omega⟩]
      by_cases h1 : seq = (rdL t.rows (k : Int)).Seq
      · rw [if_pos (by rw [beq_iff_eq]; exact h1), if_pos ⟨by omega, by omega⟩, if_pos ⟨h1, by omega⟩]
        exact e2 _ _
      · rw [if_neg (by rw [beq_iff_eq]; exact h1), if_neg (by simpa using h4), if_pos ⟨by omega, by omega⟩, if_neg (show ¬ (seq = (rdL t.rows (k : Int)).Seq ∧ seq > 0) from fun h => h1 h.1)]
        by_cases h3 : seq ≠ wu64 ((rdL t.rows (k : Int)).Seq + 1)
        · rw [if_pos (by simpa using (seq_eq hw.seq hs h4).1 h3), if_pos (.inl h3)]
          exact e2 _ _
        · rw [if_neg (by simpa using fun h => h3 ((seq_eq hw.seq hs h4).2 h)), if_neg (show ¬ (seq ≠ wu64 ((rdL t.rows (k : Int)).Seq + 1) ∨ seq = 0) from fun h => h.elim h3 h4)]
          exact e2 _ _
theorem r_End (n : Nat) (t : T_session_Table) (id seq : Int) (y : T_api_Reply) (h : TW t) (hs : 0 ≤ seq ∧ seq ≤ 18446744073709551615) (hn : 2000 ≤ n) :
    tontineref15_Table_End.f n (refT t) id seq y = some ((endM t id seq y).1, refT (endM t id seq y).2) := by
  have h0 := h.len
  unfold tontineref15_Table_End.f tontineref15_Table_End.j0 endM
  rw [r_find n t id (by omega) hn, Option.bind_some]
  rcases find_lt t id with hf | ⟨k, hk, hl⟩
  · rw [if_pos (by simpa using hf), if_pos rfl, if_pos (.inl hf)]
  · have hl2 : k < (refT t).Rows.length := by rw [refT_len]; exact hl
    have hw := h.rows _ (rdL_mem hl)
    rw [hk, if_neg (by simp)]
    by_cases h1 : seq = 0
    · rw [if_pos (by simpa using h1), if_pos rfl, if_pos (.inr (.inl h1))]
    · rw [if_neg (by simpa using h1), refT_len, if_pos ⟨by omega, by omega⟩, refT_rd hl]
      have es : (toR (rdL t.rows (k : Int))).Seq = (rdL t.rows (k : Int)).Seq := rfl
      simp only [es]
      by_cases h3 : seq ≠ wu64 ((rdL t.rows (k : Int)).Seq + 1)
      · rw [if_pos (by simpa using (seq_eq hw.seq hs h1).1 h3), if_pos (.inr (.inr h3))]
      · rw [if_neg (by simpa using fun h => h3 ((seq_eq hw.seq hs h1).2 h)), if_pos ⟨by omega, by omega⟩, if_neg (show ¬ ((k : Int) < 0 ∨ seq = 0 ∨ seq ≠ wu64 ((rdL t.rows (k : Int)).Seq + 1)) from fun h => h.elim (fun h => by omega) (fun h => h.elim h1 h3))]
        simp only [Int.toNat_natCast, rdL_set _ hl2, List.length_set, List.set_set, refT_len]
        rw [if_pos ⟨by omega, by omega⟩]
        exact congrArg some (congrArg (Prod.mk true) (refT_set t k ⟨(rdL t.rows (k : Int)).Id, (rdL t.rows (k : Int)).Used, seq, y⟩))
theorem keep_eq {now u : Int} (h : 0 ≤ u ∧ u < now ∧ now ≤ 18446744073709551615) : wu64 (now - u) ≤ 1000 ↔ (wu64 (u + 1000) ≥ now ∨ wu64 (u + 1000) < 1000) := by
  rw [wu64_id (x := now - u) (by omega) (by omega)]
  by_cases h2 : u + 1000 ≤ 18446744073709551615
  · rw [wu64_id (by omega) h2]; omega
  · have : wu64 (u + 1000) = u + 1000 - 18446744073709551616 := by
      simp only [wu64, IntKind.wrap, IntKind.bits, IntKind.signed]
      simp
      omega
    rw [this]; omega
theorem rclock_l0 (n : Nat) (t : T_session_Table) (now : Int) (h : TW t) (hnow : t.now < now ∧ now ≤ 18446744073709551615) : ∀ (j k i : Nat) (acc : List T_session_Row), i + j = t.rows.length → j < k → acc.length ≤ i →
    tontineref15_Table_Clock.l0 n (refT t) now k (acc.map toR) (i : Int) = some ⟨now, t.next, (acc ++ (t.rows.drop i).filter (keepR now)).map toR⟩
  | j, 0, i, _, _, h, _ => by omega
  | 0, k + 1, i, acc, hi, _, _ => by
    unfold tontineref15_Table_Clock.l0
    rw [refT_len, if_neg (by rw [decide_eq_true_eq]; omega), List.drop_of_length_le (by omega)]
    simp [refT]
  | j + 1, k + 1, i, acc, hi, hk, ha => by
    have h0 := h.len
    have hw := (h.rows _ (rdL_mem (l := t.rows) (i := i) (by omega))).used
    unfold tontineref15_Table_Clock.l0 tontineref15_Table_Clock.j0
    rw [refT_len, if_pos (by rw [decide_eq_true_eq]; omega), if_pos ⟨by omega, by omega⟩, getD_drop (by omega), List.filter_cons, wi64_id (by omega) (by omega), show ((i : Int) + 1) = ((i + 1 : Nat) : Int) by omega, refT_rd (by omega)]
    have eu : (toR (rdL t.rows (i : Int))).Used = (rdL t.rows (i : Int)).Used := rfl
    rw [eu]
    have ke := keep_eq (now := now) (u := (rdL t.rows (i : Int)).Used) ⟨hw.1, by omega, hnow.2⟩
    by_cases hh : keepR now (rdL t.rows (i : Int)) = true
    · have hor := ke.1 (of_decide_eq_true hh)
      have c : capOk 48 (acc.map toR ++ [toR (rdL t.rows (i : Int))]).length := by simp only [List.length_append, List.length_cons, List.length_nil, List.length_map]; unfold capOk; omega
      have ih := rclock_l0 n t now h hnow j k (i + 1) (acc ++ [rdL t.rows (i : Int)]) (by omega) (by omega) (by simp; omega)
      rw [if_pos hh]
      have ih' : tontineref15_Table_Clock.l0 n (refT t) now k (acc.map toR ++ [toR (rdL t.rows (i : Int))]) ((i + 1 : Nat) : Int) = some ⟨now, t.next, (acc ++ rdL t.rows (i : Int) :: (t.rows.drop (i + 1)).filter (keepR now)).map toR⟩ := by
        rw [List.map_append, List.map_cons, List.map_nil] at ih
        rw [ih]
        simp
      by_cases h5 : decide (wu64 ((rdL t.rows (i : Int)).Used + 1000) ≥ now) = true
      · rw [if_pos h5, if_pos rfl, if_pos ⟨by omega, by omega⟩]
        exact (if_pos c).trans ih'
      · have h6 : decide (wu64 ((rdL t.rows (i : Int)).Used + 1000) < 1000) = true := by
          rw [decide_eq_true_eq] at h5 ⊢
          exact hor.resolve_left h5
        rw [if_neg h5, if_pos ⟨by omega, by omega⟩, h6, if_pos rfl, if_pos ⟨by omega, by omega⟩]
        exact (if_pos c).trans ih'
    · have hor : ¬ (wu64 ((rdL t.rows (i : Int)).Used + 1000) ≥ now ∨ wu64 ((rdL t.rows (i : Int)).Used + 1000) < 1000) := fun h => hh (decide_eq_true (ke.2 h))
      have h5 : ¬ decide (wu64 ((rdL t.rows (i : Int)).Used + 1000) ≥ now) = true := by rw [decide_eq_true_eq]; exact fun h => hor (.inl h)
      have h6 : decide (wu64 ((rdL t.rows (i : Int)).Used + 1000) < 1000) = false := by rw [decide_eq_false_iff_not]; exact fun h => hor (.inr h)
      rw [if_neg h5, if_pos ⟨by omega, by omega⟩, h6, if_neg (by simp), if_neg hh]
      exact rclock_l0 n t now h hnow j k (i + 1) acc (by omega) (by omega) (by omega)
theorem r_Clock (n : Nat) (t : T_session_Table) (now : Int) (h : TW t) (hnow : 0 ≤ now ∧ now ≤ 18446744073709551615) (hn : 2000 ≤ n) : tontineref15_Table_Clock.f n (refT t) now = some (refT (clockM t now)) := by
  have h0 := h.len
  unfold tontineref15_Table_Clock.f clockM
  by_cases hh : now ≤ t.now
  · rw [if_pos (by rw [decide_eq_true_eq]; exact hh), if_pos hh]
  · rw [if_neg (by rw [decide_eq_true_eq]; exact hh), if_neg hh]
    exact rclock_l0 n t now h ⟨by omega, hnow.2⟩ t.rows.length n 0 [] (by omega) (by omega) (by simp)
theorem alike_l0 (n : Nat) (t : T_session_Table) (ht : t.rows.length ≤ 1000) : ∀ (j k i : Nat), i + j = t.rows.length → j < k → tontinelaw15_alike.l0 n (refT t) t.rows k (i : Int) = some true
  | j, 0, i, _, h => by omega
  | 0, k + 1, i, hi, _ => by
    unfold tontinelaw15_alike.l0
    rw [if_neg (by rw [decide_eq_true_eq]; omega)]
  | j + 1, k + 1, i, hi, hk => by
    unfold tontinelaw15_alike.l0
    rw [refT_len, if_pos (by rw [decide_eq_true_eq]; omega), if_pos ⟨by omega, by omega⟩, if_pos ⟨by omega, by omega⟩, refT_rd (by omega), wi64_id (by omega) (by omega), show ((i : Int) + 1) = ((i + 1 : Nat) : Int) by omega]
    rw [if_neg (by simp [toR])]
    exact alike_l0 n t ht j k (i + 1) (by omega) (by omega)
theorem f_alike (n : Nat) (t : T_session_Table) (ht : t.rows.length ≤ 1000) (hn : 2000 ≤ n) : tontinelaw15_alike.f n t (refT t) = some true := by
  unfold tontinelaw15_alike.f session_Table_Now.f tontinelaw15_alike.j0
  rw [f_Rows n t ht, Option.bind_some, Option.bind_some, if_neg (by simp [refT]), refT_len, if_neg (by simp)]
  exact alike_l0 n t ht t.rows.length n 0 (by omega) (by omega)
theorem tw_reg {t : T_session_Table} (h : TW t) : TW (regM t).2.2 := by
  unfold regM
  split
  · exact h
  · refine ⟨?_, h.now, ?_, ?_⟩
    · show (t.rows ++ [_]).length ≤ 16
      simp; omega
    · have := h.next
      show 1 ≤ t.next + 1 ∧ t.next + 1 ≤ _
      omega
    · intro r hr
      have hn := h.next
      have hw := h.now
      rcases List.mem_append.1 hr with hr | hr
      · exact h.rows r hr
      · rw [List.mem_singleton] at hr
        subst hr
        exact ⟨⟨by show 0 ≤ t.next; omega, hn.2⟩, ⟨hw.1, Int.le_refl _⟩, by simp, by simp, by simp⟩
theorem tw_set {t : T_session_Table} (h : TW t) (k : Nat) {r : T_session_Row} (hr : RW t.now r) : TW ⟨t.now, t.next, t.rows.set k r⟩ := by
  refine ⟨by show (t.rows.set k r).length ≤ 16; rw [List.length_set]; exact h.len, h.now, h.next, fun x hx => ?_⟩
  rcases List.mem_or_eq_of_mem_set hx with hx | hx
  · exact h.rows x hx
  · rw [hx]; exact hr
theorem tw_begin {t : T_session_Table} (h : TW t) (id seq : Int) : TW (beginM t id seq).2.2 := by
  unfold beginM
  rcases find_lt t id with hf | ⟨k, hk, hl⟩
  · rw [if_pos hf]; exact h
  · rw [hk, if_neg (show ¬ ((k : Int) < 0) by omega)]
    have hw := h.rows _ (rdL_mem hl)
    have := h.now
    have q := tw_set h (k : Int).toNat (r := ⟨(rdL t.rows (k : Int)).Id, t.now, (rdL t.rows (k : Int)).Seq, (rdL t.rows (k : Int)).Reply⟩) ⟨hw.id, ⟨this.1, Int.le_refl _⟩, hw.seq, hw.num, hw.extra⟩
    simp only
    split
    · exact q
    · split
      · exact q
      · exact q
theorem tw_end {t : T_session_Table} (h : TW t) (id seq : Int) (y : T_api_Reply) (hs : 0 ≤ seq ∧ seq ≤ 18446744073709551615) (h1 : 0 ≤ y.Num ∧ y.Num ≤ 18446744073709551615) (h2 : 0 ≤ y.Extra ∧ y.Extra ≤ 18446744073709551615) : TW (endM t id seq y).2 := by
  unfold endM
  rcases find_lt t id with hf | ⟨k, hk, hl⟩
  · rw [if_pos (.inl hf)]; exact h
  · rw [hk]
    have hw := h.rows _ (rdL_mem hl)
    split
    · exact h
    · exact tw_set h _ ⟨hw.id, hw.used, hs, h1, h2⟩
theorem tw_clock {t : T_session_Table} (h : TW t) (now : Int) (hnow : 0 ≤ now ∧ now ≤ 18446744073709551615) : TW (clockM t now) := by
  unfold clockM
  split
  · exact h
  · refine ⟨Nat.le_trans (List.length_filter_le _ _) h.len, hnow, h.next, fun r hr => ?_⟩
    have hw := h.rows r (List.mem_filter.1 hr).1
    exact ⟨hw.id, ⟨hw.used.1, by have := hw.used.2; show r.Used ≤ now; omega⟩, hw.seq, hw.num, hw.extra⟩
/-- The bytes of a row, of a table. -/
def rowB (r : T_session_Row) : List UInt8 := enc r.Id.toNat ++ enc r.Used.toNat ++ enc r.Seq.toNat ++ enc (wu64 r.Reply.Err).toNat ++ enc r.Reply.Num.toNat ++ enc r.Reply.Extra.toNat
def tabB (t : T_session_Table) : List UInt8 := enc t.now.toNat ++ enc t.next.toNat ++ enc t.rows.length ++ t.rows.flatMap rowB
theorem wu64_range (x : Int) : 0 ≤ wu64 x ∧ wu64 x ≤ 18446744073709551615 := by
  simp only [wu64, IntKind.wrap, IntKind.bits, IntKind.signed]
  simp
  omega
theorem rowB_len (r : T_session_Row) : (rowB r).length ≤ 54 := by
  have h := fun x => enc_length x
  simp only [rowB, List.length_append]
  have h1 := h r.Id.toNat
  have h2 := h r.Used.toNat
  have h3 := h r.Seq.toNat
  have h4 := h (wu64 r.Reply.Err).toNat
  have h5 := h r.Reply.Num.toNat
  have h6 := h r.Reply.Extra.toNat
  omega
theorem write_l0 (n : Nat) (hn : 2000 ≤ n) (t : T_session_Table) (h : TW t) : ∀ (j k i : Nat) (b : List UInt8), i + j = t.rows.length → j < k → b.length + j * 54 ≤ 100000000000 →
    session_Table_Write.l0 n t k b (i : Int) = some ⟨b ++ (t.rows.drop i).flatMap rowB⟩
  | j, 0, i, _, _, h, _ => by omega
  | 0, k + 1, i, b, hi, _, _ => by
    unfold session_Table_Write.l0
    rw [if_neg (by rw [decide_eq_true_eq]; omega), List.drop_of_length_le (by omega)]
    simp
  | j + 1, k + 1, i, b, hi, hk, hb => by
    have h0 := h.len
    have hw := h.rows _ (rdL_mem (l := t.rows) (i := i) (by omega))
    have hnow := h.now
    have hen := fun x => enc_length x
    have h1 := hen (rdL t.rows (i : Int)).Id.toNat
    have h2 := hen (rdL t.rows (i : Int)).Used.toNat
    have h3 := hen (rdL t.rows (i : Int)).Seq.toNat
    have h4 := hen (wu64 (rdL t.rows (i : Int)).Reply.Err).toNat
    have h5 := hen (rdL t.rows (i : Int)).Reply.Num.toNat
    have hl := rowB_len (rdL t.rows (i : Int))
    unfold session_Table_Write.l0
    rw [if_pos (by rw [decide_eq_true_eq]; omega), if_pos ⟨by omega, by omega⟩, getD_drop (by omega)]
    rw [w_Num n (by omega) ⟨b⟩ (by simp only; omega) hw.id, Option.bind_some,
      w_Num n (by omega) _ (by simp only [List.length_append]; omega) ⟨hw.used.1, by have := hw.used.2; omega⟩, Option.bind_some,
      w_Num n (by omega) _ (by simp only [List.length_append]; omega) hw.seq, Option.bind_some,
      w_Num n (by omega) _ (by simp only [List.length_append]; omega) (wu64_range _), Option.bind_some,
      w_Num n (by omega) _ (by simp only [List.length_append]; omega) hw.num, Option.bind_some,
      w_Num n (by omega) _ (by simp only [List.length_append]; omega) hw.extra, Option.bind_some]
    rw [wi64_id (by omega) (by omega), show ((i : Int) + 1) = ((i + 1 : Nat) : Int) by omega]
    have e : ((((((b ++ enc (rdL t.rows (i : Int)).Id.toNat) ++ enc (rdL t.rows (i : Int)).Used.toNat) ++ enc (rdL t.rows (i : Int)).Seq.toNat) ++ enc (wu64 (rdL t.rows (i : Int)).Reply.Err).toNat) ++ enc (rdL t.rows (i : Int)).Reply.Num.toNat) ++ enc (rdL t.rows (i : Int)).Reply.Extra.toNat) = b ++ rowB (rdL t.rows (i : Int)) := by
      simp [rowB]
    simp only
    rw [e, write_l0 n hn t h j k (i + 1) _ (by omega) (by omega) (by simp only [List.length_append]; omega)]
    simp
theorem f_Write (n : Nat) (hn : 2000 ≤ n) (t : T_session_Table) (h : TW t) (w : T_pack_Writer) (hw : w.b.length ≤ 1000000) : session_Table_Write.f n t w = some ⟨w.b ++ tabB t⟩ := by
  have h0 := h.len
  have hen := fun x => enc_length x
  have h1 := hen t.now.toNat
  have h2 := hen t.next.toNat
  have h3 := hen t.rows.length
  have hnext := h.next
  unfold session_Table_Write.f
  have wl : wu64 (t.rows.length : Int) = (t.rows.length : Int) := wu64_id (by omega) (by omega)
  rw [w_Num n (by omega) w (by omega) h.now, Option.bind_some,
    w_Num n (by omega) _ (by simp only [List.length_append]; omega) ⟨by omega, hnext.2⟩, Option.bind_some, wl,
    w_Num n (by omega) _ (by simp only [List.length_append]; omega) ⟨by omega, by omega⟩, Option.bind_some, Int.toNat_natCast]
  have := write_l0 n hn t h t.rows.length n 0 (((w.b ++ enc t.now.toNat) ++ enc t.next.toNat) ++ enc t.rows.length) (by omega) (by omega) (by simp only [List.length_append]; omega)
  refine Eq.trans this ?_
  simp [tabB]
theorem bytes_l0 (n : Nat) (hn : 2000 ≤ n) (t : T_session_Table) (h : TW t) : ∀ (j k i : Nat) (b : List UInt8), i + j = t.rows.length → j < k → b.length + j * 54 ≤ 100000000000 →
    tontineref15_Table_Bytes.l0 n (refT t) k b (i : Int) = some (b ++ (t.rows.drop i).flatMap rowB)
  | j, 0, i, _, _, h, _ => by omega
  | 0, k + 1, i, b, hi, _, _ => by
    unfold tontineref15_Table_Bytes.l0
    rw [refT_len, if_neg (by rw [decide_eq_true_eq]; omega), List.drop_of_length_le (by omega)]
    simp
  | j + 1, k + 1, i, b, hi, hk, hb => by
    have h0 := h.len
    have hw := h.rows _ (rdL_mem (l := t.rows) (i := i) (by omega))
    have hnow := h.now
    have hen := fun x => enc_length x
    have h1 := hen (rdL t.rows (i : Int)).Id.toNat
    have h2 := hen (rdL t.rows (i : Int)).Used.toNat
    have h3 := hen (rdL t.rows (i : Int)).Seq.toNat
    have h4 := hen (wu64 (rdL t.rows (i : Int)).Reply.Err).toNat
    have h5 := hen (rdL t.rows (i : Int)).Reply.Num.toNat
    have h6 := hen (rdL t.rows (i : Int)).Reply.Extra.toNat
    have hl := rowB_len (rdL t.rows (i : Int))
    have em : i64max = 9223372036854775807 := rfl
    unfold tontineref15_Table_Bytes.l0
    rw [refT_len, if_pos (by rw [decide_eq_true_eq]; omega), if_pos ⟨by omega, by omega⟩, getD_drop (by omega), refT_rd (by omega)]
    simp only [toR]
    rw [ref_Num n (by omega) hw.id, Option.bind_some,
      ref_Num n (by omega) ⟨hw.used.1, by have := hw.used.2; omega⟩, Option.bind_some, if_pos (by omega),
      ref_Num n (by omega) hw.seq, Option.bind_some, if_pos (by simp only [List.length_append]; omega),
      ref_Num n (by omega) (wu64_range _), Option.bind_some, if_pos (by simp only [List.length_append]; omega),
      ref_Num n (by omega) hw.num, Option.bind_some, if_pos (by simp only [List.length_append]; omega),
      ref_Num n (by omega) hw.extra, Option.bind_some, if_pos (by simp only [List.length_append]; omega), if_pos (by simp only [List.length_append]; omega)]
    rw [wi64_id (by omega) (by omega), show ((i : Int) + 1) = ((i + 1 : Nat) : Int) by omega]
    have := bytes_l0 n hn t h j k (i + 1) (b ++ rowB (rdL t.rows (i : Int))) (by omega) (by omega) (by simp only [List.length_append]; omega)
    refine Eq.trans this ?_
    simp
theorem r_Bytes (n : Nat) (hn : 2000 ≤ n) (t : T_session_Table) (h : TW t) : tontineref15_Table_Bytes.f n (refT t) = some (tabB t) := by
  have h0 := h.len
  have hen := fun x => enc_length x
  have h1 := hen t.now.toNat
  have h2 := hen t.next.toNat
  have h3 := hen t.rows.length
  have hnext := h.next
  have em : i64max = 9223372036854775807 := rfl
  unfold tontineref15_Table_Bytes.f
  have wl : wu64 (t.rows.length : Int) = (t.rows.length : Int) := wu64_id (by omega) (by omega)
  have e1 : (refT t).Now = t.now := rfl
  have e2 : (refT t).Next = t.next := rfl
  rw [refT_len, wl, e1, e2, ref_Num n (by omega) h.now, Option.bind_some, ref_Num n (by omega) ⟨by omega, hnext.2⟩, Option.bind_some, if_pos (by omega), ref_Num n (by omega) ⟨by omega, by omega⟩, Option.bind_some, Int.toNat_natCast, if_pos (by simp only [List.length_append]; omega)]
  have := bytes_l0 n hn t h t.rows.length n 0 ((enc t.now.toNat ++ enc t.next.toNat) ++ enc t.rows.length) (by omega) (by omega) (by simp only [List.length_append]; omega)
  refine Eq.trans this ?_
  simp [tabB]
end Go.GL
