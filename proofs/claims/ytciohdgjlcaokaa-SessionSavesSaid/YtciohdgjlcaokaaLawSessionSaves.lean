/- The law SessionSaves, over the plain functions. -/
import Derived.Test.YtciohdgjlcaokaaSessB
import Derived.Test.YtciohdgjlcaokaaSRound
set_option linter.unusedVariables false
set_option linter.unusedSimpArgs false
set_option maxRecDepth 10000
namespace Go.GL
open Go
/-- What holds of every table that was built up: it can be saved. -/
structure TS (t : T_session_Table) : Prop where
  tw : TW t
  pw : (ids t).Pairwise (· < ·)
  rng : ∀ x ∈ ids t, 0 < x ∧ x < t.next
  fr : ∀ r ∈ t.rows, t.now - r.Used ≤ 1000
  er : ∀ r ∈ t.rows, 0 ≤ r.Reply.Err ∧ r.Reply.Err ≤ 52
theorem ts_new : TS ⟨0, 1, []⟩ := ⟨tw_new, List.Pairwise.nil, by simp [ids], by simp, by simp⟩
theorem ts_reg {t : T_session_Table} (h : TS t) : TS (regM t).2.2 := by
  have q := tw_reg h.tw
  unfold regM at q ⊢
  split at q
  · rename_i hc
    rw [if_pos hc]; exact h
  · rename_i hc
    rw [if_neg hc]
    have e : ids ⟨t.now, t.next + 1, t.rows ++ [⟨t.next, t.now, 0, ⟨0, 0, 0⟩⟩]⟩ = ids t ++ [t.next] := by simp [ids]
    refine ⟨q, ?_, ?_, ?_, ?_⟩
    · show (ids ⟨t.now, t.next + 1, t.rows ++ [⟨t.next, t.now, 0, ⟨0, 0, 0⟩⟩]⟩).Pairwise (· < ·)
      rw [e, List.pairwise_append]
      refine ⟨h.pw, by simp, fun a ha b hb => ?_⟩
      rw [List.mem_singleton] at hb
      rw [hb]; exact (h.rng a ha).2
    · show ∀ x ∈ ids ⟨t.now, t.next + 1, t.rows ++ [⟨t.next, t.now, 0, ⟨0, 0, 0⟩⟩]⟩, 0 < x ∧ x < t.next + 1
      rw [e]
      intro x hx
      have := h.tw.next
      rcases List.mem_append.1 hx with hx | hx
      · have := h.rng x hx; omega
      · rw [List.mem_singleton] at hx; omega
    · intro r hr
      rcases List.mem_append.1 hr with hr | hr
      · exact h.fr r hr
      · rw [List.mem_singleton] at hr
        rw [hr]; show t.now - t.now ≤ 1000; omega
    · intro r hr
      rcases List.mem_append.1 hr with hr | hr
      · exact h.er r hr
      · rw [List.mem_singleton] at hr
        rw [hr]; simp
theorem ids_set (t : T_session_Table) (k : Nat) (hk : k < t.rows.length) (r : T_session_Row) (hr : r.Id = (rdL t.rows (k : Int)).Id) : (t.rows.set k r).map (·.Id) = ids t := by
  unfold ids
  apply List.ext_getElem (by simp)
  intro i h1 h2
  simp only [List.getElem_map, List.getElem_set]
  split
  · rename_i e
    subst e
    rw [hr]
    simp [rdL, hk]
  · rfl
theorem ts_set {t : T_session_Table} (h : TS t) (k : Nat) (hk : k < t.rows.length) {r : T_session_Row} (hid : r.Id = (rdL t.rows (k : Int)).Id) (hr : RW t.now r) (hf : t.now - r.Used ≤ 1000) (he : 0 ≤ r.Reply.Err ∧ r.Reply.Err ≤ 52) : TS ⟨t.now, t.next, t.rows.set k r⟩ := by
  have e : ids ⟨t.now, t.next, t.rows.set k r⟩ = ids t := ids_set t k hk r hid
  refine ⟨tw_set h.tw k hr, by rw [e]; exact h.pw, by rw [e]; exact h.rng, fun x hx => ?_, fun x hx => ?_⟩
  · rcases List.mem_or_eq_of_mem_set hx with hx | hx
    · exact h.fr x hx
    · rw [hx]; exact hf
  · rcases List.mem_or_eq_of_mem_set hx with hx | hx
    · exact h.er x hx
    · rw [hx]; exact he
theorem ts_begin {t : T_session_Table} (h : TS t) (id seq : Int) : TS (beginM t id seq).2.2 := by
  unfold beginM
  rcases find_lt t id with hf | ⟨k, hk, hl⟩
  · rw [if_pos hf]; exact h
  · rw [hk, if_neg (show ¬ ((k : Int) < 0) by omega)]
    have hw := h.tw.rows _ (rdL_mem hl)
    have := h.tw.now
    have q := ts_set h k hl (r := ⟨(rdL t.rows (k : Int)).Id, t.now, (rdL t.rows (k : Int)).Seq, (rdL t.rows (k : Int)).Reply⟩) rfl ⟨hw.id, ⟨this.1, Int.le_refl _⟩, hw.seq, hw.num, hw.extra⟩ (by show t.now - t.now ≤ 1000; omega) (h.er (rdL t.rows (k : Int)) (rdL_mem hl))
    simp only [Int.toNat_natCast]
    split
    · exact q
    · split
      · exact q
      · exact q
theorem ts_end {t : T_session_Table} (h : TS t) (id seq : Int) (y : T_api_Reply) (hs : 0 ≤ seq ∧ seq ≤ 18446744073709551615) (h1 : 0 ≤ y.Num ∧ y.Num ≤ 18446744073709551615) (h2 : 0 ≤ y.Extra ∧ y.Extra ≤ 18446744073709551615) (h3 : 0 ≤ y.Err ∧ y.Err ≤ 52) : TS (endM t id seq y).2 := by
  unfold endM
  rcases find_lt t id with hf | ⟨k, hk, hl⟩
  · rw [if_pos (.inl hf)]; exact h
  · rw [hk]
    have hw := h.tw.rows _ (rdL_mem hl)
    split
    · exact h
    · rw [Int.toNat_natCast]
      exact ts_set h k hl rfl ⟨hw.id, hw.used, hs, h1, h2⟩ (h.fr (rdL t.rows (k : Int)) (rdL_mem hl)) h3
theorem ts_clock {t : T_session_Table} (h : TS t) (now : Int) (hnow : 0 ≤ now ∧ now ≤ 18446744073709551615) : TS (clockM t now) := by
  have q := tw_clock h.tw now hnow
  unfold clockM at q ⊢
  split at q
  · rename_i hc
    rw [if_pos hc]; exact h
  · rename_i hc
    rw [if_neg hc]
    have sub : (ids ⟨now, t.next, t.rows.filter (keepR now)⟩).Sublist (ids t) := List.Sublist.map _ List.filter_sublist
    refine ⟨q, h.pw.sublist sub, fun x hx => h.rng x (sub.subset hx), fun r hr => ?_, fun r hr => h.er r (List.mem_filter.1 hr).1⟩
    have hm := List.mem_filter.1 hr
    have hw := (h.tw.rows r hm.1).used
    have := of_decide_eq_true hm.2
    rw [wu64_id (by omega) (by omega)] at this
    exact this
theorem rowB_app (r : T_session_Row) (l : List UInt8) : rowB r ++ l = enc r.Id.toNat ++ (enc r.Used.toNat ++ (enc r.Seq.toNat ++ (enc (wu64 r.Reply.Err).toNat ++ (enc r.Reply.Num.toNat ++ (enc r.Reply.Extra.toNat ++ l))))) := by
  simp [rowB]
theorem p_encI {n : Nat} (hn : 20 ≤ n) {x : Int} (hx : 0 ≤ x ∧ x ≤ 18446744073709551615) (r : List UInt8) (bad : Bool) (hr : r.length < 1000000000000000000) : pack_Reader_Num.f n ⟨enc x.toNat ++ r, bad⟩ = some (x, ⟨r, bad⟩) := by
  rw [p_enc hn (by omega) r bad hr, Int.toNat_of_nonneg hx.1]
theorem flat_len : ∀ l : List T_session_Row, (l.flatMap rowB).length ≤ 54 * l.length
  | [] => by simp
  | r :: l => by
    have := rowB_len r
    have := flat_len l
    simp only [List.flatMap_cons, List.length_append, List.length_cons]
    omega
theorem save_l0 (n : Nat) (hn : 2000 ≤ n) (r4 r5 : Int × T_pack_Reader) (h5 : 1 ≤ r5.1) (hnow : r4.1 ≤ 18446744073709551615) : ∀ (rest acc : List T_session_Row) (k : Nat) (last : Int), rest.length < k → acc.length + rest.length ≤ 16 → (∀ r ∈ rest, RW r4.1 r) → (∀ r ∈ rest, r4.1 - r.Used ≤ 1000) → (∀ r ∈ rest, 0 ≤ r.Reply.Err ∧ r.Reply.Err ≤ 52) →
    (∀ r ∈ rest, r.Id < r5.1) → (∀ r ∈ rest, last < r.Id) → (rest.map (·.Id)).Pairwise (· < ·) → ∃ rd, session_Read.l0 n r4 r5 k (rest.flatMap rowB) false acc last (rest.length : Int) = some (some ⟨r4.1, r5.1, acc ++ rest⟩, rd)
  | _, _, 0, _, h, _, _, _, _, _, _, _ => by omega
  | [], acc, k + 1, last, _, _, _, _, _, _, _, _ => by
    unfold session_Read.l0 pack_Reader_Left.f
    rw [if_neg (by simp), Option.bind_some, if_neg (by simp), if_neg (by rw [beq_iff_eq]; omega), List.append_nil]
    exact ⟨_, rfl⟩
  | r :: rest, acc, k + 1, last, hk, hl, hw, hf, he, hid, hla, hp => by
    have hr := hw r (by simp)
    have hr2 := hf r (by simp)
    have hr3 := he r (by simp)
    have hr4 := hid r (by simp)
    have hr5 := hla r (by simp)
    have hfl := flat_len rest
    have hen := fun x => enc_length x
    have l1 := hen r.Id.toNat
    have l2 := hen r.Used.toNat
    have l3 := hen r.Seq.toNat
    have l4 := hen (wu64 r.Reply.Err).toNat
    have l5 := hen r.Reply.Num.toNat
    have l6 := hen r.Reply.Extra.toNat
    simp only [List.length_cons] at hk hl
    have w4 : wu64 r.Reply.Err = r.Reply.Err := wu64_id (by omega) (by omega)
    rw [w4] at l4
    have p4 : ∀ l : List UInt8, l.length < 1000000000000000000 → pack_Reader_Up.f n ⟨enc r.Reply.Err.toNat ++ l, false⟩ 52 = some (r.Reply.Err, ⟨l, false⟩) := by
      intro l hl
      rw [p_up (by omega) (by omega) l false hl (by omega) (by omega), Int.toNat_of_nonneg hr3.1]
    unfold session_Read.l0 session_Read.j0
    rw [if_pos (by rw [decide_eq_true_eq, List.length_cons]; omega), List.flatMap_cons, rowB_app, w4,
      p_encI (by omega) hr.id _ _ (by simp only [List.length_append]; omega), Option.bind_some,
      p_encI (by omega) ⟨hr.used.1, by have := hr.used.2; omega⟩ _ _ (by simp only [List.length_append]; omega), Option.bind_some,
      p_encI (by omega) hr.seq _ _ (by simp only [List.length_append]; omega), Option.bind_some,
      p4 _ (by simp only [List.length_append]; omega), Option.bind_some,
      p_encI (by omega) hr.num _ _ (by simp only [List.length_append]; omega), Option.bind_some,
      p_encI (by omega) hr.extra _ _ (by omega), Option.bind_some]
    have hu := hr.used
    have c1 : capOk 48 (acc ++ [r]).length := by simp only [List.length_append, List.length_cons, List.length_nil]; unfold capOk; omega
    have c1 : capOk 48 (acc ++ [(⟨r.Id, r.Used, r.Seq, (⟨r.Reply.Err, r.Reply.Num, r.Reply.Extra⟩ : T_api_Reply)⟩ : T_session_Row)]).length := c1
    rw [if_neg (by rw [decide_eq_true_eq]; show ¬ r.Id ≤ last; omega), if_neg (by rw [decide_eq_true_eq]; show ¬ r.Id ≥ r5.1; omega), if_neg (by rw [decide_eq_true_eq]; show ¬ r.Used > r4.1; omega), wu64_id (x := r4.1 - r.Used) (by omega) (by omega), if_neg (by rw [decide_eq_true_eq]; omega)]
    have w2 : wi64 (((r :: rest).length : Int) - 1) = (rest.length : Int) := by rw [wi64_id (by simp only [List.length_cons]; omega) (by simp only [List.length_cons]; omega)]; simp
    rw [w2]
    rw [List.map_cons, List.pairwise_cons] at hp
    obtain ⟨rd, e⟩ := save_l0 n hn r4 r5 h5 hnow rest (acc ++ [r]) k r.Id (by omega) (by simp; omega) (fun x hx => hw x (by simp [hx])) (fun x hx => hf x (by simp [hx])) (fun x hx => he x (by simp [hx])) (fun x hx => hid x (by simp [hx])) (fun x hx => hp.1 _ (List.mem_map_of_mem hx)) hp.2
    refine ⟨rd, (if_pos c1).trans (e.trans ?_)⟩
    simp
theorem save_read (n : Nat) (hn : 2000 ≤ n) (t : T_session_Table) (h : TS t) : ∃ rd, session_Read.f n ⟨tabB t, false⟩ = some (some t, rd) := by
  have h0 := h.tw.len
  have hnow := h.tw.now
  have hnext := h.tw.next
  have hfl := flat_len t.rows
  have hen := fun x => enc_length x
  have l2 := hen t.next.toNat
  have l3 := hen t.rows.length
  have e : tabB t = enc t.now.toNat ++ (enc t.next.toNat ++ (enc t.rows.length ++ t.rows.flatMap rowB)) := by simp [tabB]
  unfold session_Read.f
  rw [e, p_encI (by omega) hnow _ _ (by simp only [List.length_append]; omega), Option.bind_some, p_encI (by omega) ⟨by omega, hnext.2⟩ _ _ (by simp only [List.length_append]; omega), Option.bind_some,
    p_up (by omega) (by omega) _ false (by omega) (by omega) (by omega), Option.bind_some]
  obtain ⟨rd, e⟩ := save_l0 n hn (t.now, ⟨enc t.next.toNat ++ (enc t.rows.length ++ t.rows.flatMap rowB), false⟩) (t.next, ⟨enc t.rows.length ++ t.rows.flatMap rowB, false⟩) hnext.1 hnow.2 t.rows [] n 0 (by omega) (by simpa using h0) h.tw.rows h.fr h.er
    (fun r hr => (h.rng _ (List.mem_map_of_mem hr)).2) (fun r hr => (h.rng _ (List.mem_map_of_mem hr)).1) h.pw
  exact ⟨rd, e⟩
theorem ss_j0 (n : Nat) (hn : 2000 ≤ n) (t : T_session_Table) (h : TS t) : tontinelaw15_SessionSaves.j0 n t.now t.next t.rows = some true := by
  have h0 := h.tw.len
  unfold tontinelaw15_SessionSaves.j0 pack_Writer_Bytes.f pack_From.f session_Table_Now.f
  have e1 : session_Table_Write.f n ⟨t.now, t.next, t.rows⟩ ⟨[]⟩ = some ⟨tabB t⟩ := f_Write n hn t h.tw ⟨[]⟩ (by simp)
  obtain ⟨rd, e2⟩ := save_read n hn t h
  have e1' : session_Table_Write.f n t ⟨[]⟩ = some ⟨tabB t⟩ := e1
  have e3 : session_Table_Rows.f n ⟨t.now, t.next, t.rows⟩ = some t.rows := f_Rows n t (by omega)
  have e3' : session_Table_Rows.f n t = some t.rows := e3
  rw [e1, Option.bind_some, Option.bind_some, Option.bind_some, e2, Option.bind_some]
  simp only
  rw [e1', Option.bind_some, Option.bind_some, Option.bind_some, if_pos (by simp), Option.bind_some, Option.bind_some, if_pos (by simp), e3', Option.bind_some, Option.bind_some]
  simp
theorem ss_l0 (n : Nat) (hn : 2000 ≤ n) (cs : List T_tontinelaw15_Call) (hc : ∀ c ∈ cs, wf_T_tontinelaw15_Call c) : ∀ (j k i : Nat) (t : T_session_Table), TS t → i + j = 400 → j < k →
    tontinelaw15_SessionSaves.l0 n cs k t.now t.next t.rows (i : Int) = some true
  | j, 0, i, _, _, _, h => by omega
  | 0, k + 1, i, t, h, hi, _ => by
    unfold tontinelaw15_SessionSaves.l0
    have : i = 400 := by omega
    subst this
    split
    · rename_i hl
      have hl : (400 : Int) < (cs.length : Int) := of_decide_eq_true hl
      rw [if_pos ⟨by omega, by omega⟩, if_pos (by rfl)]
      exact ss_j0 n hn t h
    · exact ss_j0 n hn t h
  | j + 1, k + 1, i, t, h, hi, hk => by
    have h0 := h.tw.len
    have hx := h.tw.next
    unfold tontinelaw15_SessionSaves.l0
    split
    rotate_left
    · exact ss_j0 n hn t h
    rename_i hl
    have hl : (i : Int) < (cs.length : Int) := of_decide_eq_true hl
    have hcc := hc _ (rdL_mem (l := cs) (i := i) (by omega))
    have hid := wf_u64 hcc.2.1
    have hseq := wf_u64 hcc.2.2.1
    have hnum := wf_u64 hcc.2.2.2.2.1
    have hex := wf_u64 hcc.2.2.2.2.2
    rw [if_pos ⟨by omega, by omega⟩, if_neg (by rw [beq_iff_eq]; omega), wi64_id (by omega) (by omega), show ((i : Int) + 1) = ((i + 1 : Nat) : Int) by omega, show (⟨t.now, t.next, t.rows⟩ : T_session_Table) = t by rfl]
    split
    · rw [f_Clock n t _ (by omega) hn, Option.bind_some]
      exact ss_l0 n hn cs hc j k (i + 1) _ (ts_clock h _ hid) (by omega) (by omega)
    split
    · rw [f_Reg n t (by omega) hx.2, Option.bind_some]
      exact ss_l0 n hn cs hc j k (i + 1) _ (ts_reg h) (by omega) (by omega)
    split
    · rw [f_Begin n t _ _ (by omega) hn, Option.bind_some]
      exact ss_l0 n hn cs hc j k (i + 1) _ (ts_begin h _ _) (by omega) (by omega)
    · rw [f_End n t _ _ _ (by omega) hn, Option.bind_some]
      exact ss_l0 n hn cs hc j k (i + 1) _ (ts_end h _ _ _ hseq hnum hex (by simp only; split <;> split <;> omega)) (by omega) (by omega)
theorem tontinelaw15_SessionSaves_law (cs : List T_tontinelaw15_Call) (h : cs.length * 48 ≤ reachBytes ∧ ∀ x ∈ cs, wf_T_tontinelaw15_Call x) : Ev (fun n => tontinelaw15_SessionSaves.f n cs) true := by
  refine Ev.ge 3000 fun n hn => ?_
  unfold tontinelaw15_SessionSaves.f
  rw [begun15 n (by omega), Option.bind_some, if_neg (by simp)]
  unfold session_New.f
  rw [Option.bind_some]
  exact ss_l0 n (by omega) cs h.2 400 n 0 ⟨0, 1, []⟩ ts_new (by omega) (by omega)
end Go.GL
