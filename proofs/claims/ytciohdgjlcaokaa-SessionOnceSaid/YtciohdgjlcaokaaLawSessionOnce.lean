/- The law SessionOnce, over the plain functions. -/
import Derived.Test.YtciohdgjlcaokaaOSess
set_option linter.unusedVariables false
set_option linter.unusedSimpArgs false
set_option maxRecDepth 10000
namespace Go.GL
open Go
def wf_T_api_Reply (x : T_api_Reply) : Prop := (fun n => (Lit.int .i64 n).wf = true) x.Err ∧ (fun n => (Lit.int .u64 n).wf = true) x.Num ∧ (fun n => (Lit.int .u64 n).wf = true) x.Extra
def ms_T_api_Reply (x : T_api_Reply) : Nat := (fun _ => 1) x.Err + (fun _ => 1) x.Num + (fun _ => 1) x.Extra
def wf_T_tontinelaw15_Call (x : T_tontinelaw15_Call) : Prop := (fun n => (Lit.int .i64 n).wf = true) x.Kind ∧ (fun n => (Lit.int .u64 n).wf = true) x.Id ∧ (fun n => (Lit.int .u64 n).wf = true) x.Seq ∧ wf_T_api_Reply x.Reply
def ms_T_tontinelaw15_Call (x : T_tontinelaw15_Call) : Nat := (fun _ => 1) x.Kind + (fun _ => 1) x.Id + (fun _ => 1) x.Seq + ms_T_api_Reply x.Reply
theorem getA_put {κ ν : Type} [DecidableEq κ] (k k' : κ) (v : ν) : ∀ l : List (κ × ν), getA k (putA k' v l) = if k = k' then some v else getA k l
  | [] => by simp [putA, getA]
  | (a, b) :: l => by
    have ih := getA_put k k' v l
    unfold putA
    by_cases h : k' = a
    · rw [if_pos h]
      subst h
      unfold getA
      split <;> rfl
    · rw [if_neg h]
      unfold getA
      by_cases h2 : k = a
      · rw [if_pos h2, if_pos h2, if_neg (fun e : k = k' => h (e.symm.trans h2))]
      · rw [if_neg h2, if_neg h2]
        exact ih
abbrev DL := List (T_tontinelaw15_one × T_api_Reply)
/-- What holds of a session. -/
structure RO (next : Int) (D : DL) (La : List (Int × Int)) (r : T_session_Row) : Prop where
  id : r.Id < next
  seq : 0 ≤ r.Seq ∧ r.Seq ≤ 18446744073709551615
  said : r.Seq > 0 → getA ⟨r.Id, r.Seq⟩ D = some r.Reply ∧ r.Reply.Err = 0
  last : (getA r.Id La).getD 0 = r.Seq
  old : ∀ s y, getA ⟨r.Id, s⟩ D = some y → s ≤ r.Seq
/-- What holds all along. -/
structure SO (t : T_session_Table) (D : DL) (La : List (Int × Int)) : Prop where
  len : t.rows.length ≤ 16
  next : 1 ≤ t.next ∧ t.next ≤ 18446744073709551615
  uniq : (ids t).Pairwise (· ≠ ·)
  rows : ∀ r ∈ t.rows, RO t.next D La r
  d : ∀ i s y, getA ⟨i, s⟩ D = some y → i < t.next
  l : ∀ i, (getA i La).getD 0 ≠ 0 → i < t.next
theorem findI_id (id : Int) : ∀ (l : List Int) (i k : Nat), findI id l i = (k : Int) → i ≤ k ∧ l[k - i]? = some id
  | [], i, k, h => by unfold findI at h; omega
  | x :: l, i, k, h => by
    unfold findI at h
    split at h
    · rename_i hx
      have : i = k := by omega
      subst this
      subst hx
      simp
    · obtain ⟨h1, h2⟩ := findI_id id l (i + 1) k h
      refine ⟨by omega, ?_⟩
      rw [show k - i = (k - (i + 1)) + 1 by omega, List.getElem?_cons_succ]
      exact h2
theorem find_id {t : T_session_Table} {id : Int} {k : Nat} (h : find t id = (k : Int)) (hk : k < t.rows.length) : (rdL t.rows (k : Int)).Id = id := by
  have := (findI_id id (ids t) 0 k h).2
  rw [Nat.sub_zero] at this
  simp only [ids, List.getElem?_map] at this
  rw [List.getElem?_eq_getElem hk] at this
  simp only [Option.map_some, Option.some.injEq] at this
  rw [← this]
  simp [rdL, hk]
theorem ids_set {t : T_session_Table} {k : Nat} (hk : k < t.rows.length) {r : T_session_Row} (hr : r.Id = (rdL t.rows (k : Int)).Id) : (t.rows.set k r).map (·.Id) = ids t := by
  unfold ids
  apply List.ext_getElem (by simp)
  intro i h1 h2
  simp only [List.getElem_map, List.getElem_set]
  split
  · rename_i e
    subst e
    rw [hr]
    simp [rdL, hk]
  · rfl
theorem mem_set_of {l : List T_session_Row} {k : Nat} {x r : T_session_Row} (h : r ∈ l.set k x) : r = x ∨ ∃ j, j ≠ k ∧ ∃ hj : j < l.length, l[j] = r := by
  obtain ⟨j, hj, rfl⟩ := List.getElem_of_mem h
  rw [List.getElem_set]
  rw [List.length_set] at hj
  split
  · exact .inl rfl
  · rename_i hne
    exact .inr ⟨j, fun e => hne e.symm, hj, rfl⟩
theorem uniq_ne {t : T_session_Table} (h : (ids t).Pairwise (· ≠ ·)) {j k : Nat} (hj : j < t.rows.length) (hk : k < t.rows.length) (hne : j ≠ k) : (t.rows[j]).Id ≠ (rdL t.rows (k : Int)).Id := by
  have e : (rdL t.rows (k : Int)) = t.rows[k] := by simp [rdL, hk]
  rw [e]
  rw [List.pairwise_iff_getElem] at h
  rcases Nat.lt_or_gt_of_ne hne with hlt | hlt
  · have := h j k (by simpa [ids] using hj) (by simpa [ids] using hk) hlt
    simpa [ids] using this
  · have := h k j (by simpa [ids] using hk) (by simpa [ids] using hj) hlt
    simp only [ids, List.getElem_map] at this
    exact fun e => this e.symm
theorem so_clock {t : T_session_Table} {D : DL} {La : List (Int × Int)} (h : SO t D La) (now : Int) : SO (clockM t now) D La := by
  unfold clockM
  split
  · exact h
  · refine ⟨Nat.le_trans (List.length_filter_le _ _) h.len, h.next, ?_, fun r hr => h.rows r (List.mem_filter.1 hr).1, h.d, h.l⟩
    exact h.uniq.sublist (List.Sublist.map _ List.filter_sublist)
theorem so_reg {t : T_session_Table} {D : DL} {La : List (Int × Int)} (h : SO t D La) : SO (regM t).2.2 D La := by
  have hn := h.next
  unfold regM
  split
  · exact h
  · rename_i hc
    refine ⟨by show (t.rows ++ [_]).length ≤ 16; simp; omega, by show 1 ≤ t.next + 1 ∧ t.next + 1 ≤ _; omega, ?_, ?_, fun i s y hy => by have := h.d i s y hy; show i < t.next + 1; omega, fun i hi => by have := h.l i hi; show i < t.next + 1; omega⟩
    · show ((t.rows ++ [(⟨t.next, t.now, 0, ⟨0, 0, 0⟩⟩ : T_session_Row)]).map (·.Id)).Pairwise (· ≠ ·)
      rw [List.map_append, List.pairwise_append]
      refine ⟨h.uniq, by simp, fun a ha b hb => ?_⟩
      obtain ⟨r, hr, rfl⟩ := List.mem_map.1 ha
      simp only [List.map_cons, List.map_nil, List.mem_singleton] at hb
      rw [hb]
      have := (h.rows r hr).id
      intro e; omega
    · intro r hr
      rcases List.mem_append.1 hr with hr | hr
      · have q := h.rows r hr
        exact ⟨by have := q.id; show r.Id < t.next + 1; omega, q.seq, q.said, q.last, q.old⟩
      · rw [List.mem_singleton] at hr
        subst hr
        refine ⟨by show t.next < t.next + 1; omega, by simp, fun hh => by simp at hh, ?_, fun s y hy => by have := h.d _ _ _ hy; simp only at this; omega⟩
        show (getA t.next La).getD 0 = 0
        by_cases hz : (getA t.next La).getD 0 = 0
        · exact hz
        · have := h.l _ hz; omega
/-- A row's time is told anew. -/
theorem so_used {t : T_session_Table} {D : DL} {La : List (Int × Int)} (h : SO t D La) (k : Nat) (hk : k < t.rows.length) (u : Int) : SO ⟨t.now, t.next, t.rows.set k ⟨(rdL t.rows (k : Int)).Id, u, (rdL t.rows (k : Int)).Seq, (rdL t.rows (k : Int)).Reply⟩⟩ D La := by
  have q := h.rows _ (rdL_mem hk)
  refine ⟨by show (t.rows.set k _).length ≤ 16; rw [List.length_set]; exact h.len, h.next, ?_, fun r hr => ?_, h.d, h.l⟩
  · rw [show ids ⟨t.now, t.next, t.rows.set k ⟨(rdL t.rows (k : Int)).Id, u, (rdL t.rows (k : Int)).Seq, (rdL t.rows (k : Int)).Reply⟩⟩ = ids t from ids_set hk rfl]
    exact h.uniq
  · rcases List.mem_or_eq_of_mem_set hr with hr | hr
    · exact h.rows r hr
    · rw [hr]; exact ⟨q.id, q.seq, q.said, q.last, q.old⟩
theorem so_end {t : T_session_Table} {D : DL} {La : List (Int × Int)} (h : SO t D La) (k : Nat) (hk : k < t.rows.length) (u : Int) (y : T_api_Reply) (hy : y.Err = 0) (hs : (rdL t.rows (k : Int)).Seq + 1 ≤ 18446744073709551615) :
    SO ⟨t.now, t.next, t.rows.set k ⟨(rdL t.rows (k : Int)).Id, u, (rdL t.rows (k : Int)).Seq + 1, y⟩⟩ (putA ⟨(rdL t.rows (k : Int)).Id, (rdL t.rows (k : Int)).Seq + 1⟩ y D) (putA (rdL t.rows (k : Int)).Id ((rdL t.rows (k : Int)).Seq + 1) La) := by
  have q := h.rows _ (rdL_mem hk)
  have qs := q.seq
  refine ⟨by show (t.rows.set k _).length ≤ 16; rw [List.length_set]; exact h.len, h.next, ?_, fun r hr => ?_, fun i s y' hg => ?_, fun i hi => ?_⟩
  · rw [show ids ⟨t.now, t.next, t.rows.set k ⟨(rdL t.rows (k : Int)).Id, u, (rdL t.rows (k : Int)).Seq + 1, y⟩⟩ = ids t from ids_set hk rfl]
    exact h.uniq
  · rcases mem_set_of hr with hr | ⟨j, hne, hj, hr⟩
    · rw [hr]
      refine ⟨q.id, by simp only; omega, fun _ => ⟨by rw [getA_put, if_pos rfl], hy⟩, by rw [getA_put, if_pos rfl]; rfl, fun s y' hg => ?_⟩
      rw [getA_put] at hg
      split at hg
      · rename_i e
        have := (T_tontinelaw15_one.mk.inj e).2
        simp only; omega
      · have := q.old s y' hg
        simp only; omega
    · have hne2 := uniq_ne h.uniq hj hk hne
      rw [hr] at hne2
      have q2 := h.rows r (by rw [← hr]; exact List.getElem_mem hj)
      refine ⟨q2.id, q2.seq, fun hh => ?_, ?_, fun s y' hg => ?_⟩
      · rw [getA_put, if_neg (fun e => hne2 (T_tontinelaw15_one.mk.inj e).1)]
        exact q2.said hh
      · rw [getA_put, if_neg hne2]; exact q2.last
      · rw [getA_put, if_neg (fun e => hne2 (T_tontinelaw15_one.mk.inj e).1)] at hg
        exact q2.old s y' hg
  · rw [getA_put] at hg
    split at hg
    · rename_i e
      rw [(T_tontinelaw15_one.mk.inj e).1]
      exact q.id
    · exact h.d i s y' hg
  · rw [getA_put] at hi
    split at hi
    · rename_i e
      rw [e]; exact q.id
    · exact h.l i hi
theorem once_l0 (n : Nat) (hn : 2000 ≤ n) (cs : List T_tontinelaw15_Call) (hc : ∀ c ∈ cs, wf_T_tontinelaw15_Call c) : ∀ (j k i : Nat) (t : T_session_Table) (D : DL) (La : List (Int × Int)), i + j = 500 → j < k → SO t D La →
    tontinelaw15_SessionOnce.l0 n cs k t.now t.next t.rows D La (i : Int) = some true
  | j, 0, i, _, _, _, _, h, _ => by omega
  | 0, k + 1, i, t, D, La, hi, _, h => by
    have : i = 500 := by omega
    subst this
    unfold tontinelaw15_SessionOnce.l0
    split
    · rename_i hl
      have hl : (500 : Int) < (cs.length : Int) := of_decide_eq_true hl
      rw [if_pos ⟨by omega, by omega⟩, if_pos (by rfl)]
    · rfl
  | j + 1, k + 1, i, t, D, La, hi, hk, h => by
    have hlen := h.len
    have hnx := h.next
    unfold tontinelaw15_SessionOnce.l0
    split
    rotate_left
    · rfl
    rename_i hl
    have hl : (i : Int) < (cs.length : Int) := of_decide_eq_true hl
    have hm := hc _ (rdL_mem (l := cs) (i := i) (by omega))
    have hsq := wf_u64 hm.2.2.1
    have w : wi64 ((i : Int) + 1) = ((i + 1 : Nat) : Int) := by rw [wi64_id (by omega) (by omega)]; omega
    have ih := fun t' D' La' h' => once_l0 n hn cs hc j k (i + 1) t' D' La' (by omega) (by omega) h'
    rw [if_pos ⟨by omega, by omega⟩, if_neg (by rw [beq_iff_eq]; omega), show (⟨t.now, t.next, t.rows⟩ : T_session_Table) = t by rfl, w]
    generalize hcall : rdL cs (i : Int) = c at *
    split
    · rw [f_Clock n t _ (by omega) hn, Option.bind_some]
      exact ih _ _ _ (so_clock h _)
    split
    · rw [f_Reg n t (by omega) hnx.2, Option.bind_some]
      exact ih _ _ _ (so_reg h)
    · rw [f_Begin n t _ _ (by omega) hn, Option.bind_some]
      have plain : ∀ (y : T_api_Reply) (t' : T_session_Table), SO t' D La → (y.Err = 0 → getA ⟨c.Id, c.Seq⟩ D = some y) → tontinelaw15_SessionOnce.j2 n (tontinelaw15_SessionOnce.l0 n cs k) cs D La (i : Int) (y, false, t') false = some true := by
        intro y t' h' hyy
        have fin : tontinelaw15_SessionOnce.j0 n (tontinelaw15_SessionOnce.l0 n cs k) cs D La (i : Int) (y, false, t') false = some true := by
          unfold tontinelaw15_SessionOnce.j0
          rw [if_neg (by simp), if_neg (by simp), w]
          exact ih _ _ _ h'
        unfold tontinelaw15_SessionOnce.j2 tontinelaw15_SessionOnce.j3
        rw [if_neg (by simp), if_pos (by rfl)]
        simp only [hcall]
        by_cases hy0 : y.Err = 0
        · rw [hyy hy0]
          simp [hy0, fin]
        · have : (y.Err == 0) = false := by rw [beq_eq_false_iff_ne]; exact hy0
          rw [this, if_neg (by simp)]
          exact fin
      unfold beginM
      rcases find_lt t c.Id with hf | ⟨x, hx, hxl⟩
      · rw [if_pos hf]
        exact (if_neg (by simp)).trans (plain ⟨40, 0, 0⟩ t h (fun hh => absurd hh (by decide)))
      · have hid := find_id hx hxl
        have q := h.rows _ (rdL_mem hxl)
        have qs := q.seq
        rw [hx, if_neg (show ¬ ((x : Int) < 0) by omega), Int.toNat_natCast]
        simp only
        by_cases h1 : c.Seq = (rdL t.rows (x : Int)).Seq ∧ c.Seq > 0
        · rw [if_pos h1]
          refine (if_neg (by simp)).trans (plain _ _ (so_used h x hxl _) (fun _ => ?_))
          rw [← hid, h1.1]
          exact (q.said (by omega)).1
        · rw [if_neg h1]
          by_cases h2 : c.Seq ≠ wu64 ((rdL t.rows (x : Int)).Seq + 1) ∨ c.Seq = 0
          · rw [if_pos h2]
            exact (if_neg (by simp)).trans (plain ⟨41, 0, 0⟩ _ (so_used h x hxl _) (fun hh => absurd hh (by decide)))
          · rw [if_neg h2, if_pos (by rfl)]
            have hseq : c.Seq = (rdL t.rows (x : Int)).Seq + 1 ∧ (rdL t.rows (x : Int)).Seq + 1 ≤ 18446744073709551615 := by
              have a1 : c.Seq = wu64 ((rdL t.rows (x : Int)).Seq + 1) := Decidable.byContradiction fun hh => h2 (.inl hh)
              have a2 : c.Seq ≠ 0 := fun hh => h2 (.inr hh)
              by_cases hu : (rdL t.rows (x : Int)).Seq = 18446744073709551615
              · rw [hu] at a1
                exact absurd a1 (by intro hh; exact a2 (hh.trans (by rfl)))
              · rw [wu64_id (by omega) (by omega)] at a1
                exact ⟨a1, by omega⟩
            have hnone : getA (⟨c.Id, c.Seq⟩ : T_tontinelaw15_one) D = none := by
              cases hg : getA (⟨c.Id, c.Seq⟩ : T_tontinelaw15_one) D with
              | none => rfl
              | some y =>
                rw [← hid] at hg
                have := q.old _ _ hg
                omega
            have hso := so_used h x hxl t.now
            generalize ht1 : (⟨t.now, t.next, t.rows.set x ⟨(rdL t.rows (x : Int)).Id, t.now, (rdL t.rows (x : Int)).Seq, (rdL t.rows (x : Int)).Reply⟩⟩ : T_session_Table) = t1 at *
            have hx1l : x < t1.rows.length := by rw [← ht1]; simpa using hxl
            have hr1 : rdL t1.rows (x : Int) = ⟨(rdL t.rows (x : Int)).Id, t.now, (rdL t.rows (x : Int)).Seq, (rdL t.rows (x : Int)).Reply⟩ := by rw [← ht1]; exact rdL_set _ hxl
            have hx1 : find t1 c.Id = (x : Int) := by
              have e : ids t1 = ids t := by rw [← ht1]; exact ids_set hxl rfl
              unfold find
              rw [e]; exact hx
            have hE := f_End n t1 c.Id c.Seq ⟨0, c.Reply.Num, c.Reply.Extra⟩ (by have := hso.len; omega) hn
            have hEM : endM t1 c.Id c.Seq ⟨0, c.Reply.Num, c.Reply.Extra⟩ = (true, ⟨t1.now, t1.next, t1.rows.set x ⟨(rdL t1.rows (x : Int)).Id, (rdL t1.rows (x : Int)).Used, (rdL t1.rows (x : Int)).Seq + 1, ⟨0, c.Reply.Num, c.Reply.Extra⟩⟩⟩) := by
              unfold endM
              rw [hx1, hr1]
              simp only
              rw [if_neg, Int.toNat_natCast, hseq.1]
              rw [wu64_id (by omega) (by omega)]
              omega
            have hfin := so_end hso x hx1l (rdL t1.rows (x : Int)).Used ⟨0, c.Reply.Num, c.Reply.Extra⟩ rfl (by rw [hr1]; exact hseq.2)
            rw [show (rdL t1.rows (x : Int)).Id = c.Id by rw [hr1]; exact hid, show (rdL t1.rows (x : Int)).Seq + 1 = c.Seq by rw [hr1]; exact hseq.1.symm] at hfin
            rw [show (rdL t1.rows (x : Int)).Id = c.Id by rw [hr1]; exact hid, show (rdL t1.rows (x : Int)).Seq + 1 = c.Seq by rw [hr1]; exact hseq.1.symm] at hEM
            unfold tontinelaw15_SessionOnce.j2 tontinelaw15_SessionOnce.j3 tontinelaw15_SessionOnce.j0 tontinelaw15_SessionOnce.j1
            simp only [hcall, hnone, Option.isSome_none]
            have hlast : wu64 (((getA c.Id La).getD 0) + 1) = c.Seq := by
              rw [← hid, q.last, wu64_id (by omega) (by omega)]; exact hseq.1.symm
            simp only [hE, hEM, Option.bind_some, hlast, w]
            simpa using ih _ _ _ hfin
theorem tontinelaw15_SessionOnce_law (cs : List T_tontinelaw15_Call) (h : cs.length * 48 ≤ reachBytes ∧ ∀ x ∈ cs, wf_T_tontinelaw15_Call x) : Ev (fun n => tontinelaw15_SessionOnce.f n cs) true := by
  refine Ev.ge 3000 fun n hn => ?_
  unfold tontinelaw15_SessionOnce.f
  rw [begun15 n (by omega), Option.bind_some, if_neg (by simp)]
  unfold session_New.f
  rw [Option.bind_some]
  exact once_l0 n (by omega) cs h.2 500 n 0 ⟨0, 1, []⟩ [] [] (by omega) (by omega) ⟨by simp, by simp, by simp [ids], by simp, by simp [getA], by simp [getA]⟩
end Go.GL
