/- The law RlogMerges, over the plain functions. -/
import Derived.Test.YtolipnnfdclkoaaLogF
set_option linter.unusedVariables false
set_option linter.unusedSimpArgs false
set_option maxRecDepth 10000
namespace Go.GL
open Go
theorem light_one (n : Nat) (l : List T_api_Entry) (c : T_tontinelaw07_Call) (hn : 10 + l.length + c.L.length ≤ n) (hl : l.length ≤ 4000000000000) (hc : c.L.length ≤ 4000000000000) : ∃ b, tontinelaw07_light.f n l [c] = some b := by
  obtain ⟨m, rfl⟩ : ∃ m, n = m + 2 := ⟨n - 2, by omega⟩
  unfold tontinelaw07_light.f tontinelaw07_light.l0
  rw [if_pos (by rfl), if_pos (by simp)]
  have key : ∀ A : Int, ∃ b, tontinelaw07_light.l1 (m + 2) (tontinelaw07_light.l0 (m + 2) l [c] (m + 1)) [c] ((0 : Nat) : Int) (m + 2) A ((0 : Nat) : Int) = some b := by
    intro A
    obtain ⟨v, hv⟩ := light1_some (m + 2) (tontinelaw07_light.l0 (m + 2) l [c] (m + 1)) [c] 0 c rfl hc c.L.length (m + 2) 0 A (by omega) (by omega)
    obtain ⟨b, hb⟩ := light2_some (m + 2) l hl l.length (m + 2) 0 v (by omega) (by omega)
    refine ⟨b, hv.trans ?_⟩
    unfold tontinelaw07_light.l0
    refine (if_neg (fun hh => by cases hh)).trans ?_
    exact hb
  exact key _
theorem light_one_ge (n : Nat) (l : List T_api_Entry) (c : T_tontinelaw07_Call) (hn : 10 + l.length + c.L.length ≤ n) (hl : l.length ≤ 4000000000000) (hc : c.L.length ≤ 4000000000000) (hcd : c.Data.length ≤ 1000000000000000) (h1 : ∀ e ∈ l, e.Data.length ≤ 2000000) (h2 : ∀ e ∈ c.L, e.Data.length ≤ 2000000) : ∃ N : Nat, l.length + c.L.length ≤ N ∧ tontinelaw07_light.f n l [c] = some (decide ((N : Int) ≤ 800)) := by
  obtain ⟨m, rfl⟩ : ∃ m, n = m + 2 := ⟨n - 2, by omega⟩
  have ed : (c.Data.length : Int).tdiv 100 = ((c.Data.length / 100 : Nat) : Int) := by
    rw [Int.tdiv_eq_ediv_of_nonneg (by omega)]; omega
  unfold tontinelaw07_light.f tontinelaw07_light.l0
  rw [if_pos (by rfl), if_pos (by simp)]
  have e0 : rdL [c] (0 : Int) = c := rfl
  have w : wi64 (wi64 ((l.length : Int) + (([c] : List T_tontinelaw07_Call).length : Int)) + wi64 (((rdL [c] (0 : Int)).L.length : Int) + wi64 (((rdL [c] (0 : Int)).Data.length : Int).tdiv 100))) = ((l.length + 1 + c.L.length + c.Data.length / 100 : Nat) : Int) := by
    rw [e0, ed, List.length_singleton, wi64_id (x := ((c.Data.length / 100 : Nat) : Int)) (by omega) (by omega), wi64_id (x := (c.L.length : Int) + ((c.Data.length / 100 : Nat) : Int)) (by omega) (by omega), wi64_id (x := (l.length : Int) + ((1 : Nat) : Int)) (by omega) (by omega), wi64_id (by omega) (by omega)]
    omega
  rw [w]
  obtain ⟨N, n1, n2, hv⟩ := light_l1 (m + 2) (tontinelaw07_light.l0 (m + 2) l [c] (m + 1)) [c] 0 c rfl hc h2 c.L.length (m + 2) 0 (l.length + 1 + c.L.length + c.Data.length / 100) (by omega) (by omega) (by omega)
  obtain ⟨N2, m1, m2, hv2⟩ := light_l2 (m + 2) l hl h1 l.length (m + 2) 0 N (by omega) (by omega) (by omega)
  refine ⟨N2, by omega, ?_⟩
  refine hv.trans ?_
  unfold tontinelaw07_light.l0
  refine (if_neg (fun hh => by cases hh)).trans ?_
  exact hv2
theorem has_term {s : T_api_Snapshot} {l : List T_api_Entry} {e : T_api_Entry} (h : hasE s l e) : termM s l e.Index = (e.Term, 0) := by
  unfold termM
  rw [if_pos (show atM s.Index l.length e.Index ≥ 0 from h.1), h.2]
theorem mg_l0 (n : Nat) (s : T_api_Snapshot) (l' : List T_api_Entry) (c : T_tontinelaw07_Call) (r23 m1 : List T_api_Entry) (hs : 0 ≤ s.Index ∧ s.Index ≤ 18446744073709551615) (hl : l'.length ≤ 4000000) (hcl : c.L.length ≤ 4000000) (hu : ∀ e ∈ c.L, 0 ≤ e.Index ∧ e.Index ≤ 18446744073709551615) (hh : ∀ e ∈ c.L, s.Index < e.Index → hasE s l' e) : ∀ (j k x : Nat), x + j = c.L.length → j < k →
    tontinelaw07_RlogMerges.l0 n s c r23 (m1, true, ⟨s, l'⟩) k (x : Int) = tontinelaw07_RlogMerges.l1 n s c r23 (m1, true, ⟨s, l'⟩) n 0
  | j, 0, x, _, h => by omega
  | 0, k + 1, x, hx, _ => by
    unfold tontinelaw07_RlogMerges.l0
    rw [if_neg (by rw [decide_eq_true_eq]; omega)]
  | j + 1, k + 1, x, hx, hk => by
    have hlt : x < c.L.length := by omega
    have hm := rdL_mem hlt
    have w : wi64 ((x : Int) + 1) = ((x + 1 : Nat) : Int) := by rw [wi64_id (by omega) (by omega)]; omega
    have ih := mg_l0 n s l' c r23 m1 hs hl hcl hu hh j k (x + 1) (by omega) (by omega)
    have et : rlog_Log_Term.f n ⟨⟨s.Index, s.Term, s.Config, s.Data⟩, l'⟩ (rdL c.L (x : Int)).Index = some (termM s l' (rdL c.L (x : Int)).Index) := p_Term n ⟨s, l'⟩ _ hs (hu _ hm) (by simp only; omega)
    unfold tontinelaw07_RlogMerges.l0 tontinelaw07_RlogMerges.j1
    rw [if_pos (by rw [decide_eq_true_eq]; omega), if_pos ⟨by omega, by omega⟩]
    simp only
    rw [et, Option.bind_some, w]
    by_cases h : (rdL c.L (x : Int)).Index > s.Index
    · rw [if_pos (show decide ((rdL c.L (x : Int)).Index > s.Index) = true from decide_eq_true h), has_term (hh _ hm h)]
      simp only
      rw [if_neg (by simp), if_neg (by simp)]
      exact ih
    · rw [if_neg (show ¬ (decide ((rdL c.L (x : Int)).Index > s.Index) = true) by rw [decide_eq_true_eq]; exact h), if_neg (by simp)]
      exact ih
theorem mg_l1 (n : Nat) (s : T_api_Snapshot) (l l' : List T_api_Entry) (c : T_tontinelaw07_Call) (hn : 5000 + c.L.length ≤ n) (m1 : List T_api_Entry) (hs : 0 ≤ s.Index ∧ s.Index ≤ 18446744073709551615) (hll : l.length ≤ 4000000) (hl : l'.length + c.L.length ≤ 4000000) (hi : 0 ≤ c.Index ∧ c.Index ≤ 18446744073709551615) (hd : ∀ e ∈ c.L, e.Data.length < 9000000000000000000) (hu : ∀ e ∈ c.L, 0 ≤ e.Index ∧ e.Index ≤ 18446744073709551615) (hx : ∀ k : Nat, k < l.length → (rdL l (k : Int)).Index = s.Index + 1 + k) (hxu : s.Index + l.length ≤ 18446744073709551615)
    (hkeep : ∀ k : Nat, k < l.length → s.Index + 1 + k ≤ c.Index → k < l'.length ∧ rdL l' (k : Int) = rdL l (k : Int)) (hag : mergeM s l' c.Index c.Term c.L = ([], true, l')) : ∀ (j k x : Nat), x + j = l.length → j < k →
    tontinelaw07_RlogMerges.l1 n s c l (m1, true, ⟨s, l'⟩) k (x : Int) = some true
  | j, 0, x, _, h => by omega
  | 0, k + 1, x, hx', _ => by
    have hsu : 0 ≤ wu64 (s.Index + 1) ∧ wu64 (s.Index + 1) ≤ 18446744073709551615 := by rw [next_u64 hs]; split <;> omega
    have eg : rlog_Log_Get.f n ⟨⟨s.Index, s.Term, s.Config, s.Data⟩, l'⟩ (wu64 (s.Index + 1)) 2000 = some (getM s l' (wu64 (s.Index + 1)) 2000) := p_Get n ⟨s, l'⟩ _ 2000 hs hsu (by simp only; omega)
    have em : rlog_Log_Merge.f n ⟨⟨s.Index, s.Term, s.Config, s.Data⟩, l'⟩ c.Index c.Term c.L = some (outM s (mergeM s l' c.Index c.Term c.L)) := p_Merge n ⟨s, l'⟩ c.Index c.Term c.L (by omega) hs hi (by omega) hd hu (fun _ => by simp only; omega)
    have hgl : (getM s l' (wu64 (s.Index + 1)) 2000).length ≤ 2000 := by
      unfold getM
      split
      · simp
      · rw [List.length_take]; omega
    have esm := same07 n (getM s l' (wu64 (s.Index + 1)) 2000) (by omega) (by omega)
    unfold tontinelaw07_RlogMerges.l1
    rw [if_neg (by rw [decide_eq_true_eq]; omega)]
    simp only
    rw [eg, Option.bind_some, em, Option.bind_some, hag]
    simp [outM, eg, esm]
  | j + 1, k + 1, x, hx', hk => by
    have hlt : x < l.length := by omega
    have hm := rdL_mem hlt
    have hxx := hx x hlt
    have w : wi64 ((x : Int) + 1) = ((x + 1 : Nat) : Int) := by rw [wi64_id (by omega) (by omega)]; omega
    have ih := mg_l1 n s l l' c hn m1 hs hll hl hi hd hu hx hxu hkeep hag j k (x + 1) (by omega) (by omega)
    have et : rlog_Log_Term.f n ⟨⟨s.Index, s.Term, s.Config, s.Data⟩, l'⟩ (rdL l (x : Int)).Index = some (termM s l' (rdL l (x : Int)).Index) := p_Term n ⟨s, l'⟩ _ hs (by omega) (by simp only; omega)
    unfold tontinelaw07_RlogMerges.l1 tontinelaw07_RlogMerges.j2
    rw [if_pos (by rw [decide_eq_true_eq]; omega), if_pos ⟨by omega, by omega⟩]
    simp only
    rw [et, Option.bind_some, w]
    by_cases h : (rdL l (x : Int)).Index ≤ c.Index
    · obtain ⟨k1, k2⟩ := hkeep x hlt (by omega)
      have e2 : termM s l' (rdL l (x : Int)).Index = ((rdL l (x : Int)).Term, 0) := by rw [term_at s l' _ x hxx k1, k2]
      rw [if_pos (show decide ((rdL l (x : Int)).Index ≤ c.Index) = true from decide_eq_true h), e2]
      simp only
      rw [if_neg (by simp), if_neg (by simp)]
      exact ih
    · rw [if_neg (show ¬ (decide ((rdL l (x : Int)).Index ≤ c.Index) = true) by rw [decide_eq_true_eq]; exact h), if_neg (by simp)]
      exact ih
theorem tontinelaw07_RlogMerges_law (s : T_api_Snapshot) (l : List T_api_Entry) (c : T_tontinelaw07_Call) (h1 : wf_T_api_Snapshot s) (h2 : l.length * 40 ≤ reachBytes ∧ ∀ x ∈ l, wf_T_api_Entry x) (h3 : wf_T_tontinelaw07_Call c) : Ev (fun n => tontinelaw07_RlogMerges.f n s l c) true := by
  refine Ev.ge (6000 + l.length + c.L.length) fun n hn => ?_
  obtain ⟨c1, c2, c3, c4, c5, c6, c7⟩ := h3
  have hl : l.length ≤ 4000000000000 := by have := h2.1; unfold reachBytes at this; omega
  have hcl : c.L.length ≤ 4000000000000 := by have := c6.1; unfold reachBytes at this; omega
  have hcd : c.Data.length ≤ 1000000000000000 := by have : c.Data.length ≤ reachBytes := c5; unfold reachBytes at this; omega
  have hd : ∀ e ∈ l, e.Data.length < 9000000000000000000 := fun e he => by have := (h2.2 e he).2.2.2; unfold reachBytes at this; omega
  have hdc : ∀ e ∈ c.L, e.Data.length < 9000000000000000000 := fun e he => by have := (c6.2 e he).2.2.2; unfold reachBytes at this; omega
  have huc : ∀ e ∈ c.L, 0 ≤ e.Index ∧ e.Index ≤ 18446744073709551615 := fun e he => wf_u64 (c6.2 e he).2.1
  have hs := wf_u64 h1.1
  have hi := wf_u64 c2
  unfold tontinelaw07_RlogMerges.f
  rw [begun07 n (by omega), Option.bind_some, if_neg (by simp)]
  have ecc : (⟨c.Kind, c.Index, c.Term, c.What, c.Data, c.L, (⟨c.Snap.Index, c.Snap.Term, c.Snap.Config, c.Snap.Data⟩ : T_api_Snapshot)⟩ : T_tontinelaw07_Call) = c := rfl
  rw [ecc]
  obtain ⟨b, hb⟩ := light_one n l c (by omega) hl hcl
  rw [hb, Option.bind_some]
  cases b
  · rfl
  rw [if_neg (by simp), p_New n s l (by omega) hs (wf_u64 h1.2.2.1) hl hd, Option.bind_some]
  unfold newM
  by_cases hc : (soundC s.Config && chain s.Index s.Term l) = true
  rotate_left
  · rw [if_neg hc]
    rfl
  rw [if_pos hc]
  rw [Bool.and_eq_true] at hc
  simp only
  rw [if_neg (by simp)]
  have hlast := chain_last l s.Index s.Term hs.1 hs.2 hc.2
  have hsu : 0 ≤ wu64 (s.Index + 1) ∧ wu64 (s.Index + 1) ≤ 18446744073709551615 := by rw [next_u64 hs]; split <;> omega
  have small : chain c.Index c.Term c.L = true → l.length + c.L.length ≤ 800 := by
    intro hcc
    obtain ⟨N, hN, hNb⟩ := light_one_ge n l c (by omega) hl hcl hcd (fun e he => by have := (chain_mem l _ _ hc.2 e he).1; omega) (fun e he => by have := (chain_mem c.L _ _ hcc e he).1; omega)
    rw [hb] at hNb
    have := of_decide_eq_true (Option.some.inj hNb).symm
    omega
  have eg : rlog_Log_Get.f n ⟨⟨s.Index, s.Term, s.Config, s.Data⟩, l⟩ (wu64 (s.Index + 1)) 2000 = some (getM s l (wu64 (s.Index + 1)) 2000) := p_Get n ⟨s, l⟩ _ 2000 hs hsu hl
  have em : rlog_Log_Merge.f n ⟨⟨s.Index, s.Term, s.Config, s.Data⟩, l⟩ c.Index c.Term c.L = some (outM s (mergeM s l c.Index c.Term c.L)) := p_Merge n ⟨s, l⟩ c.Index c.Term c.L (by omega) hs hi hcl hdc huc (fun h => by have := small h; simp only; omega)
  rw [eg, Option.bind_some, em, Option.bind_some]
  have hgl : (getM s l (wu64 (s.Index + 1)) 2000).length ≤ 2000 := by
    unfold getM
    split
    · simp
    · rw [List.length_take]; omega
  rcases merge_spec s l hs hc.2 c.L c.Index c.Term hi with hm | ⟨t1, t2, t3, t4, t5, t6, t7⟩
  · rw [hm]
    have esm := same07 n (getM s l (wu64 (s.Index + 1)) 2000) (by omega) (by omega)
    simp [outM, eg, esm, tontinelaw07_RlogMerges.j0]
  · have hsm := small t2
    have hga : getM s l (wu64 (s.Index + 1)) 2000 = l := by
      have := get_all s l hs hlast.2 0 (by omega) (by omega)
      rw [show s.Index + ((0 : Nat) : Int) + 1 = s.Index + 1 by omega] at this
      rw [this]; rfl
    rw [hga]
    generalize hM : mergeM s l c.Index c.Term c.L = M at *
    obtain ⟨m1, mb, l'⟩ := M
    simp only at t1 t3 t4 t5 t6 t7
    subst t1
    refine (if_neg (by simp [outM])).trans ?_
    have q0 := mg_l0 n s l' c l m1 hs (by omega) (by omega) huc t5 c.L.length n 0 (by omega) (by omega)
    refine Eq.trans q0 ?_
    exact mg_l1 n s l l' c (by omega) m1 hs (by omega) (by omega) hi hdc huc (fun k hk => chain_idx l _ _ hc.2 k hk) hlast.2 t7 t6 l.length n 0 (by omega) (by omega)
end Go.GL
