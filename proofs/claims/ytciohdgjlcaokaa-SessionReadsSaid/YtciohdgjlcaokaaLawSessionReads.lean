/- The law SessionReads, over the plain functions. -/
import Derived.Test.YtciohdgjlcaokaaSessB
import Derived.Test.YtciohdgjlcaokaaSPlainRead
set_option linter.unusedVariables false
set_option linter.unusedSimpArgs false
set_option maxRecDepth 10000
namespace Go.GL
open Go
theorem num_ok {n : Nat} (hn : 20 ≤ n) (s : List UInt8) (bad : Bool) (hs : s.length < 1000000000000000000) : ∃ a t b, pack_Reader_Num.f n ⟨s, bad⟩ = some (a, ⟨t, b⟩) ∧ tontineref03_Reader_Num.f n ⟨s, bad⟩ = some (a, ⟨t, b⟩) ∧ t.length ≤ s.length ∧ 0 ≤ a ∧ a ≤ 18446744073709551615 := by
  rw [p_Num n hn s bad (by omega), r_Num n hn s bad (by omega)]
  cases h : rdNum s with
  | none => exact ⟨0, [], true, rfl, rfl, Nat.zero_le _, by omega, by omega⟩
  | some q =>
    have := rdNum_short h
    exact ⟨(q.1 : Int), q.2, bad, rfl, rfl, this.1, by omega, by omega⟩
theorem up_ok {n : Nat} (hn : 20 ≤ n) (s : List UInt8) (bad : Bool) (hs : s.length < 1000000000000000000) (L : Nat) (hL : L ≤ 1000000) : ∃ a t b, pack_Reader_Up.f n ⟨s, bad⟩ (L : Int) = some (a, ⟨t, b⟩) ∧ tontineref03_Reader_Up.f n ⟨s, bad⟩ (L : Int) = some (a, ⟨t, b⟩) ∧ t.length ≤ s.length ∧ 0 ≤ a ∧ a ≤ (L : Int) := by
  unfold pack_Reader_Up.f tontineref03_Reader_Up.f
  obtain ⟨a, t, b, e1, e2, hl, h0, h1⟩ := num_ok hn s bad hs
  rw [e1, e2]
  simp only [Option.bind_some]
  have h1 : ∀ c, pack_Reader_Up.j0 n (a, ⟨t, b⟩) c = if c = true then some (0, ⟨[], true⟩) else some (wi64 a, ⟨t, b⟩) := fun c => by cases c <;> rfl
  have h2 : ∀ c, tontineref03_Reader_Up.j0 n (a, ⟨t, b⟩) c = if c = true then some (0, ⟨[], true⟩) else some (wi64 a, ⟨t, b⟩) := fun c => by cases c <;> rfl
  have hneg : decide ((L : Int) < 0) = false := decide_eq_false (by omega)
  simp only [h1, h2, hneg, wu64_id (x := (L : Int)) (by omega) (by omega)]
  by_cases h : a > (L : Int)
  · simp only [decide_eq_true h]
    exact ⟨0, [], true, rfl, rfl, Nat.zero_le _, by omega, by omega⟩
  · simp only [decide_eq_false h]
    exact ⟨wi64 a, t, b, rfl, rfl, hl, by rw [wi64_id (by omega) (by omega)]; exact h0, by rw [wi64_id (by omega) (by omega)]; omega⟩
/-- Once the reference has found a row wrong, nothing comes of it. -/
theorem rread_bad (n : Nat) (hn : 2000 ≤ n) (r3 r5 r6 : Int × T_tontineref03_Reader) (C : Nat) (hC : r6.1 = (C : Int)) (hC2 : C ≤ 16) : ∀ (j k i : Nat) (s : List UInt8) (bad : Bool) (acc : List T_tontineref15_Row) (last : Int), i + j = C → j < k → acc.length ≤ i → s.length < 1000000000000000000 →
    ∃ rd, tontineref15_Read.l0 n r3 r5 r6 k s bad acc false last (i : Int) = some (none, rd)
  | j, 0, i, _, _, _, _, _, h, _, _ => by omega
  | 0, k + 1, i, s, bad, acc, last, hi, _, _, _ => by
    unfold tontineref15_Read.l0 tontineref15_Read.j1
    rw [hC, if_neg (by rw [decide_eq_true_eq]; omega)]
    cases bad
    · exact ⟨_, rfl⟩
    · exact ⟨_, rfl⟩
  | j + 1, k + 1, i, s, bad, acc, last, hi, hk, ha, hs => by
    unfold tontineref15_Read.l0 tontineref15_Read.j0
    rw [hC, if_pos (by rw [decide_eq_true_eq]; omega)]
    obtain ⟨a1, s1, b1, _, e1, l1, _, _⟩ := num_ok (n := n) (by omega) s bad hs
    obtain ⟨a2, s2, b2, _, e2, l2, _, _⟩ := num_ok (n := n) (by omega) s1 b1 (by omega)
    obtain ⟨a3, s3, b3, _, e3, l3, _, _⟩ := num_ok (n := n) (by omega) s2 b2 (by omega)
    obtain ⟨a4, s4, b4, _, e4, l4, _, _⟩ := up_ok (n := n) (by omega) s3 b3 (by omega) 52 (by omega)
    obtain ⟨a5, s5, b5, _, e5, l5, _, _⟩ := num_ok (n := n) (by omega) s4 b4 (by omega)
    obtain ⟨a6, s6, b6, _, e6, l6, _, _⟩ := num_ok (n := n) (by omega) s5 b5 (by omega)
    have e4 : tontineref03_Reader_Up.f n ⟨s3, b3⟩ 52 = some (a4, ⟨s4, b4⟩) := e4
    rw [e1, Option.bind_some, e2, Option.bind_some, e3, Option.bind_some, e4, Option.bind_some, e5, Option.bind_some, e6, Option.bind_some, if_neg (by simp)]
    have c : capOk 48 (acc ++ [(⟨a1, a2, a3, (⟨a4, a5, a6⟩ : T_api_Reply)⟩ : T_tontineref15_Row)]).length := by simp only [List.length_append, List.length_cons, List.length_nil]; unfold capOk; omega
    rw [wi64_id (by omega) (by omega), show ((i : Int) + 1) = ((i + 1 : Nat) : Int) by omega]
    obtain ⟨rd, e⟩ := rread_bad n hn r3 r5 r6 C hC hC2 j k (i + 1) s6 b6 (acc ++ [⟨a1, a2, a3, ⟨a4, a5, a6⟩⟩]) a1 (by omega) (by omega) (by simp; omega) (by omega)
    exact ⟨rd, (if_pos c).trans e⟩
/-- What both readers of a table make of a text: nothing, or the same table. -/
def bothT (p : Option (Option T_session_Table × T_pack_Reader)) (r : Option (Option T_tontineref15_Table × T_tontineref03_Reader)) : Prop :=
  (∃ a b, p = some (none, a) ∧ r = some (none, b)) ∨ (∃ t a b, TW t ∧ p = some (some t, a) ∧ r = some (some (refT t), b))
theorem read_l0 (n : Nat) (hn : 2000 ≤ n) (r4 r5 : Int × T_pack_Reader) (q3 q5 q6 : Int × T_tontineref03_Reader) (h34 : q3.1 = r4.1) (h55 : q5.1 = r5.1) (h4 : 0 ≤ r4.1 ∧ r4.1 ≤ 18446744073709551615) (h5 : 0 ≤ r5.1 ∧ r5.1 ≤ 18446744073709551615) (C : Nat) (hC : q6.1 = (C : Int)) (hC2 : C ≤ 16) :
    ∀ (j k i : Nat) (s : List UInt8) (bad : Bool) (acc : List T_session_Row) (last : Int), i + j = C → j < k → acc.length = i → s.length < 1000000000000000000 → (∀ r ∈ acc, RW r4.1 r) →
    bothT (session_Read.l0 n r4 r5 k s bad acc last (j : Int)) (tontineref15_Read.l0 n q3 q5 q6 k s bad (acc.map toR) true last (i : Int))
  | j, 0, i, _, _, _, _, _, h, _, _, _ => by omega
  | 0, k + 1, i, s, bad, acc, last, hi, _, ha, _, hr => by
    have hP : session_Read.l0 n r4 r5 (k + 1) s bad acc last ((0 : Nat) : Int) = (if (!(!bad)) = true then some (none, ⟨s, bad⟩) else if (r5.1 == 0) = true then some (none, ⟨s, bad⟩) else some (some ⟨r4.1, r5.1, acc⟩, ⟨s, bad⟩)) := by
      unfold session_Read.l0 pack_Reader_Left.f
      rw [if_neg (by simp)]
      rfl
    have hR : tontineref15_Read.l0 n q3 q5 q6 (k + 1) s bad (acc.map toR) true last (i : Int) = (if bad = true then some (none, ⟨s, bad⟩) else if (r5.1 == 0) = true then some (none, ⟨s, bad⟩) else some (some (refT ⟨r4.1, r5.1, acc⟩), ⟨s, bad⟩)) := by
      unfold tontineref15_Read.l0 tontineref15_Read.j1
      rw [hC, if_neg (by rw [decide_eq_true_eq]; omega), h34, h55]
      cases bad <;> rfl
    rw [hP, hR]
    cases bad
    · by_cases h : r5.1 = 0
      · rw [h]
        exact .inl ⟨_, _, rfl, rfl⟩
      · have h' : (r5.1 == 0) = false := by rw [beq_eq_false_iff_ne]; exact h
        rw [h']
        exact .inr ⟨⟨r4.1, r5.1, acc⟩, _, _, ⟨by show acc.length ≤ 16; omega, h4, by show 1 ≤ r5.1 ∧ r5.1 ≤ _; omega, hr⟩, rfl, rfl⟩
    · exact .inl ⟨_, _, rfl, rfl⟩
  | j + 1, k + 1, i, s, bad, acc, last, hi, hk, ha, hs, hr => by
    unfold session_Read.l0 tontineref15_Read.l0
    rw [hC, if_pos (by rw [decide_eq_true_eq]; omega), if_pos (by rw [decide_eq_true_eq]; omega)]
    obtain ⟨a1, s1, b1, p1, e1, l1, x1, y1⟩ := num_ok (n := n) (by omega) s bad hs
    obtain ⟨a2, s2, b2, p2, e2, l2, x2, y2⟩ := num_ok (n := n) (by omega) s1 b1 (by omega)
    obtain ⟨a3, s3, b3, p3, e3, l3, x3, y3⟩ := num_ok (n := n) (by omega) s2 b2 (by omega)
    obtain ⟨a4, s4, b4, p4, e4, l4, x4, y4⟩ := up_ok (n := n) (by omega) s3 b3 (by omega) 52 (by omega)
    obtain ⟨a5, s5, b5, p5, e5, l5, x5, y5⟩ := num_ok (n := n) (by omega) s4 b4 (by omega)
    obtain ⟨a6, s6, b6, p6, e6, l6, x6, y6⟩ := num_ok (n := n) (by omega) s5 b5 (by omega)
    have e4 : tontineref03_Reader_Up.f n ⟨s3, b3⟩ 52 = some (a4, ⟨s4, b4⟩) := e4
    have p4 : pack_Reader_Up.f n ⟨s3, b3⟩ 52 = some (a4, ⟨s4, b4⟩) := p4
    rw [e1, Option.bind_some, e2, Option.bind_some, e3, Option.bind_some, e4, Option.bind_some, e5, Option.bind_some, e6, Option.bind_some, if_pos rfl]
    rw [p1, Option.bind_some, p2, Option.bind_some, p3, Option.bind_some, p4, Option.bind_some, p5, Option.bind_some, p6, Option.bind_some]
    simp only
    rw [h34, h55]
    have c2 : capOk 48 (acc.map toR ++ [(⟨a1, a2, a3, (⟨a4, a5, a6⟩ : T_api_Reply)⟩ : T_tontineref15_Row)]).length := by simp only [List.length_append, List.length_cons, List.length_nil, List.length_map]; unfold capOk; omega
    have c1 : capOk 48 (acc ++ [(⟨a1, a2, a3, (⟨a4, a5, a6⟩ : T_api_Reply)⟩ : T_session_Row)]).length := by simp only [List.length_append, List.length_cons, List.length_nil]; unfold capOk; omega
    have w1 : wi64 ((i : Int) + 1) = ((i + 1 : Nat) : Int) := by rw [wi64_id (by omega) (by omega)]; omega
    have w2 : wi64 (((j + 1 : Nat) : Int) - 1) = (j : Int) := by rw [wi64_id (by omega) (by omega)]; omega
    have wrong : ∀ x, bothT (some (none, x)) (tontineref15_Read.j0 n (tontineref15_Read.l0 n q3 q5 q6 k) (acc.map toR) (i : Int) (a1, ⟨s1, b1⟩) (a2, ⟨s2, b2⟩) (a3, ⟨s3, b3⟩) (a4, ⟨s4, b4⟩) (a5, ⟨s5, b5⟩) (a6, ⟨s6, b6⟩) false) := by
      intro x
      unfold tontineref15_Read.j0
      obtain ⟨rd, e⟩ := rread_bad n hn q3 q5 q6 C hC hC2 j k (i + 1) s6 b6 (acc.map toR ++ [⟨a1, a2, a3, ⟨a4, a5, a6⟩⟩]) a1 (by omega) (by omega) (by simp; omega) (by omega)
      rw [w1]
      exact .inl ⟨x, rd, rfl, (if_pos c2).trans e⟩
    have good : RW r4.1 (⟨a1, a2, a3, (⟨a4, a5, a6⟩ : T_api_Reply)⟩ : T_session_Row) → bothT (session_Read.j0 n (session_Read.l0 n r4 r5 k) acc ((j + 1 : Nat) : Int) (a1, ⟨s1, b1⟩) (a2, ⟨s2, b2⟩) (a3, ⟨s3, b3⟩) (a4, ⟨s4, b4⟩) (a5, ⟨s5, b5⟩) (a6, ⟨s6, b6⟩) false) (tontineref15_Read.j0 n (tontineref15_Read.l0 n q3 q5 q6 k) (acc.map toR) (i : Int) (a1, ⟨s1, b1⟩) (a2, ⟨s2, b2⟩) (a3, ⟨s3, b3⟩) (a4, ⟨s4, b4⟩) (a5, ⟨s5, b5⟩) (a6, ⟨s6, b6⟩) true) := by
      intro hrow
      unfold tontineref15_Read.j0 session_Read.j0
      rw [w1, w2, if_neg (by simp)]
      have ih := read_l0 n hn r4 r5 q3 q5 q6 h34 h55 h4 h5 C hC hC2 j k (i + 1) s6 b6 (acc ++ [⟨a1, a2, a3, ⟨a4, a5, a6⟩⟩]) a1 (by omega) (by omega) (by simp; omega) (by omega) (fun r hr' => by
        rcases List.mem_append.1 hr' with h | h
        · exact hr r h
        · rw [List.mem_singleton] at h; rw [h]; exact hrow)
      rw [List.map_append, List.map_cons, List.map_nil] at ih
      refine Eq.mp ?_ ih
      exact congr (congrArg bothT (if_pos c1).symm) (if_pos c2).symm
    have jb : session_Read.j0 n (session_Read.l0 n r4 r5 k) acc ((j + 1 : Nat) : Int) (a1, ⟨s1, b1⟩) (a2, ⟨s2, b2⟩) (a3, ⟨s3, b3⟩) (a4, ⟨s4, b4⟩) (a5, ⟨s5, b5⟩) (a6, ⟨s6, b6⟩) true = some (none, ⟨s6, b6⟩) := rfl
    by_cases z1 : a1 ≤ last
    · rw [if_pos (show decide (a1 ≤ last) = true by rw [decide_eq_true_eq]; exact z1), if_neg (show ¬ decide (a1 > last) = true by rw [decide_eq_true_eq]; omega), jb]
      exact wrong _
    rw [if_neg (show ¬ decide (a1 ≤ last) = true by rw [decide_eq_true_eq]; exact z1), if_pos (show decide (a1 > last) = true by rw [decide_eq_true_eq]; omega)]
    by_cases z2 : a1 ≥ r5.1
    · rw [if_pos (show decide (a1 ≥ r5.1) = true by rw [decide_eq_true_eq]; exact z2), if_neg (show ¬ decide (a1 < r5.1) = true by rw [decide_eq_true_eq]; omega), jb]
      exact wrong _
    rw [if_neg (show ¬ decide (a1 ≥ r5.1) = true by rw [decide_eq_true_eq]; exact z2), if_pos (show decide (a1 < r5.1) = true by rw [decide_eq_true_eq]; omega)]
    by_cases z3 : a2 > r4.1
    · rw [if_pos (show decide (a2 > r4.1) = true by rw [decide_eq_true_eq]; exact z3), if_neg (show ¬ decide (a2 ≤ r4.1) = true by rw [decide_eq_true_eq]; omega), jb]
      exact wrong _
    rw [if_neg (show ¬ decide (a2 > r4.1) = true by rw [decide_eq_true_eq]; exact z3), if_pos (show decide (a2 ≤ r4.1) = true by rw [decide_eq_true_eq]; omega)]
    by_cases z4 : wu64 (r4.1 - a2) > 1000
    · rw [decide_eq_true z4, jb, decide_eq_false (by omega)]
      exact wrong _
    · rw [decide_eq_false z4, decide_eq_true (by omega)]
      exact good ⟨⟨x1, y1⟩, ⟨x2, by show a2 ≤ r4.1; omega⟩, ⟨x3, y3⟩, ⟨x5, y5⟩, ⟨x6, y6⟩⟩
theorem read_both (n : Nat) (hn : 2000 ≤ n) (s : List UInt8) (hs : s.length < 1000000000000000000) : bothT (session_Read.f n ⟨s, false⟩) (tontineref15_Read.f n ⟨s, false⟩) := by
  unfold session_Read.f tontineref15_Read.f
  obtain ⟨a1, s1, b1, p1, e1, l1, x1, y1⟩ := num_ok (n := n) (by omega) s false hs
  obtain ⟨a2, s2, b2, p2, e2, l2, x2, y2⟩ := num_ok (n := n) (by omega) s1 b1 (by omega)
  obtain ⟨a3, s3, b3, p3, e3, l3, x3, y3⟩ := up_ok (n := n) (by omega) s2 b2 (by omega) 16 (by omega)
  have e3 : tontineref03_Reader_Up.f n ⟨s2, b2⟩ 16 = some (a3, ⟨s3, b3⟩) := e3
  have p3 : pack_Reader_Up.f n ⟨s2, b2⟩ 16 = some (a3, ⟨s3, b3⟩) := p3
  rw [e1, Option.bind_some, e2, Option.bind_some, e3, Option.bind_some, p1, Option.bind_some, p2, Option.bind_some, p3, Option.bind_some]
  obtain ⟨C, rfl⟩ : ∃ C : Nat, a3 = (C : Int) := ⟨a3.toNat, by omega⟩
  exact read_l0 n hn (a1, ⟨s1, b1⟩) (a2, ⟨s2, b2⟩) (a1, ⟨s1, b1⟩) (a2, ⟨s2, b2⟩) ((C : Int), ⟨s3, b3⟩) rfl rfl ⟨x1, y1⟩ ⟨x2, y2⟩ C rfl (by omega) C n 0 s3 b3 [] 0 (by omega) (by omega) rfl (by omega) (by simp)
theorem sd_l0 (n : Nat) (hn : 2000 ≤ n) (cs : List T_tontinelaw15_Call) (hc : ∀ c ∈ cs, wf_T_tontinelaw15_Call c) : ∀ (j k i : Nat) (t : T_session_Table), TW t → i + j = 300 → j < k →
    tontinelaw15_SessionReads.l0 n cs k t.now t.next t.rows (refT t).Now (refT t).Next (refT t).Rows (i : Int) = some true
  | j, 0, i, _, _, _, h => by omega
  | 0, k + 1, i, t, h, hi, _ => by
    unfold tontinelaw15_SessionReads.l0
    have : i = 300 := by omega
    subst this
    split
    · rename_i hl
      have hl : (300 : Int) < (cs.length : Int) := of_decide_eq_true hl
      rw [if_pos ⟨by omega, by omega⟩, if_pos (by rfl)]
    · rfl
  | j + 1, k + 1, i, t, h, hi, hk => by
    unfold tontinelaw15_SessionReads.l0
    split
    rotate_left
    · rfl
    rename_i hl
    have hl : (i : Int) < (cs.length : Int) := of_decide_eq_true hl
    rw [if_pos ⟨by omega, by omega⟩, if_neg (by rw [beq_iff_eq]; omega), wi64_id (by omega) (by omega), show ((i : Int) + 1) = ((i + 1 : Nat) : Int) by omega]
    obtain ⟨t', h', e⟩ := f_both n hn t h (rdL cs (i : Int)) (hc _ (rdL_mem (by omega)))
    have e : tontinelaw15_both.f n ⟨t.now, t.next, t.rows⟩ ⟨(refT t).Now, (refT t).Next, (refT t).Rows⟩ ⟨(rdL cs (i : Int)).Kind, (rdL cs (i : Int)).Id, (rdL cs (i : Int)).Seq, (⟨(rdL cs (i : Int)).Reply.Err, (rdL cs (i : Int)).Reply.Num, (rdL cs (i : Int)).Reply.Extra⟩ : T_api_Reply)⟩ = some (true, t', refT t') := e
    rw [e, Option.bind_some, if_neg (by simp), f_alike n t' (by have := h'.len; omega) hn, Option.bind_some, if_neg (by simp)]
    exact sd_l0 n hn cs hc j k (i + 1) t' h' (by omega) (by omega)
theorem tontinelaw15_SessionReads_law (s : List UInt8) (cs : List T_tontinelaw15_Call) (hs : s.length ≤ reachBytes) (h : cs.length * 48 ≤ reachBytes ∧ ∀ x ∈ cs, wf_T_tontinelaw15_Call x) : Ev (fun n => tontinelaw15_SessionReads.f n s cs) true := by
  refine Ev.ge 3000 fun n hn => ?_
  have hs : s.length < 1000000000000000000 := by unfold reachBytes at hs; omega
  unfold tontinelaw15_SessionReads.f pack_From.f
  rw [begun15 n (by omega), Option.bind_some, if_neg (by simp), Option.bind_some]
  rcases read_both n (by omega) s hs with ⟨a, b, e1, e2⟩ | ⟨t, a, b, ht, e1, e2⟩
  · rw [e1, Option.bind_some]
    show (Option.bind (tontineref15_Read.f n ⟨s, false⟩) _) = _
    rw [e2, Option.bind_some]
  · rw [e1, Option.bind_some]
    show (Option.bind (tontineref15_Read.f n ⟨s, false⟩) _) = _
    rw [e2, Option.bind_some]
    simp only
    rw [f_alike n t (by have := ht.len; omega) (by omega), Option.bind_some, if_neg (by simp)]
    exact sd_l0 n (by omega) cs h.2 300 n 0 t ht (by omega) (by omega)
end Go.GL
