/- The law RlogCompacts, over the plain functions. -/
import Derived.Test.YtolipnnfdclkoaaLogC
set_option linter.unusedVariables false
set_option linter.unusedSimpArgs false
set_option maxRecDepth 10000
namespace Go.GL
open Go
theorem comp_main (n : Nat) (hn : 3000 ≤ n) (s : T_api_Snapshot) (l : List T_api_Entry) (at' : Int) (hs : 0 ≤ s.Index ∧ s.Index ≤ 18446744073709551615) (hc : chain s.Index s.Term l = true) (hl0 : 0 < l.length) (hl : l.length ≤ 800) : tontinelaw07_RlogCompacts.j1 n l at' ⟨s, l⟩ false = some true := by
  obtain ⟨A, hA, hA2⟩ := modN at' l.length hl0 (by omega)
  have hd : ∀ e ∈ l, e.Data.length < 9000000000000000000 := fun e he => by have := (chain_mem l _ _ hc e he).1; omega
  have hlast := chain_last l s.Index s.Term hs.1 hs.2 hc
  have hix : (rdL l (A : Int)).Index = s.Index + 1 + A := chain_idx l _ _ hc A hA2
  have hA1 : A + 1 ≤ l.length := hA2
  unfold tontinelaw07_RlogCompacts.j1
  rw [if_neg (by simp), if_pos (show (l.length : Int) ≠ 0 by omega), hA, if_pos ⟨by omega, by omega⟩]
  have el : rlog_Log_Last.f n ⟨s, l⟩ = some (lastP s.Index s.Term l) := p_Last n ⟨s, l⟩ (by simp only; omega)
  have em : rlog_Log_Members.f n ⟨s, l⟩ = some (memF 18446744073709551615 (s.Config, s.Index) l) := p_Members n ⟨s, l⟩ (by simp only; omega) (by simp only; omega) hd
  have ea : rlog_Log_MembersAt.f n ⟨s, l⟩ (rdL l (A : Int)).Index = some (memF (rdL l (A : Int)).Index (s.Config, s.Index) l) := p_Mem n ⟨s, l⟩ _ (by simp only; omega) (by simp only; omega) hd
  have eg : rlog_Log_Get.f n ⟨s, l⟩ (wu64 ((rdL l (A : Int)).Index + 1)) 2000 = some (l.drop (A + 1)) := by
    have := p_Get n ⟨s, l⟩ (wu64 ((rdL l (A : Int)).Index + 1)) 2000 hs ⟨by rw [next_u64 (by omega)]; split <;> omega, by rw [next_u64 (by omega)]; split <;> omega⟩ (by simp only; omega)
    rw [this]
    have q := get_all s l hs hlast.2 (A + 1) hA1 (by omega)
    rw [show s.Index + ((A + 1 : Nat) : Int) + 1 = (rdL l (A : Int)).Index + 1 by omega] at q
    rw [q]
  have hat : atM s.Index l.length (rdL l (A : Int)).Index = (A : Int) := by unfold atM; rw [if_pos ⟨by omega, by omega⟩]; omega
  have et : rlog_Log_Term.f n ⟨s, l⟩ (rdL l (A : Int)).Index = some ((rdL l (A : Int)).Term, 0) := by
    rw [p_Term n ⟨s, l⟩ _ hs (by omega) (by simp only; omega)]
    unfold termM
    rw [hat, if_pos (by omega)]
  have ec : rlog_Log_Compact.f n ⟨s, l⟩ (rdL l (A : Int)).Index [100, 97, 116, 97] = some (0, ⟨⟨(rdL l (A : Int)).Index, (rdL l (A : Int)).Term, (memF (rdL l (A : Int)).Index (s.Config, s.Index) l).1, [100, 97, 116, 97]⟩, l.drop (A + 1)⟩) := by
    rw [p_Compact n ⟨s, l⟩ _ _ (by simp only; omega) hs (by omega) (by simp only; omega) hd]
    unfold compM
    simp only [hat]
    rw [if_neg (by omega), Int.toNat_natCast]
  have es : (⟨s.Index, s.Term, s.Config, s.Data⟩ : T_api_Snapshot) = s := rfl
  simp only [es]
  rw [el, Option.bind_some, em, Option.bind_some, ea, Option.bind_some, eg, Option.bind_some, et, Option.bind_some, ec, Option.bind_some, if_neg (by simp)]
  generalize hP : memF (rdL l (A : Int)).Index (s.Config, s.Index) l = P
  have hdd : ∀ e ∈ l.drop (A + 1), e.Data.length < 9000000000000000000 := fun e he => hd e (List.mem_of_mem_drop he)
  have hdl : (l.drop (A + 1)).length ≤ 800 := by rw [List.length_drop]; omega
  have ec2 : rlog_Log_Compact.f n ⟨⟨(rdL l (A : Int)).Index, (rdL l (A : Int)).Term, P.1, [100, 97, 116, 97]⟩, l.drop (A + 1)⟩ (rdL l (A : Int)).Index [97, 103, 97, 105, 110] = some (20, ⟨⟨(rdL l (A : Int)).Index, (rdL l (A : Int)).Term, P.1, [100, 97, 116, 97]⟩, l.drop (A + 1)⟩) := by
    rw [p_Compact n ⟨⟨(rdL l (A : Int)).Index, (rdL l (A : Int)).Term, P.1, [100, 97, 116, 97]⟩, l.drop (A + 1)⟩ _ _ (by simp only; omega) (by simp only; omega) (by omega) (by simp only; omega) hdd]
    unfold compM
    have : atM (rdL l (A : Int)).Index (l.drop (A + 1)).length (rdL l (A : Int)).Index = -1 := by unfold atM; rw [if_neg (by omega)]
    simp only [this]
    rw [if_pos (by omega)]
  rw [ec2, Option.bind_some]
  have e20 : (((20 : Int), (⟨⟨(rdL l (A : Int)).Index, (rdL l (A : Int)).Term, P.1, [100, 97, 116, 97]⟩, l.drop (A + 1)⟩ : T_rlog_Log)).1 != 20) = false := rfl
  rw [e20]
  -- the parts of the list
  have htake : l = l.take (A + 1) ++ l.drop (A + 1) := (List.take_append_drop _ _).symm
  have hlen : (l.take (A + 1)).length = A + 1 := by rw [List.length_take]; omega
  have hup : ∀ e ∈ l.take (A + 1), e.Index ≤ (rdL l (A : Int)).Index := by
    intro e he
    obtain ⟨k, hk, rfl⟩ := mem_rd he
    rw [hlen] at hk
    rw [rdL_take l (A + 1) k hk, chain_idx l _ _ hc k (by omega)]
    omega
  have hdown : ∀ e ∈ l.drop (A + 1), (rdL l (A : Int)).Index < e.Index ∧ e.Index ≤ 18446744073709551615 := by
    intro e he
    obtain ⟨k, hk, rfl⟩ := mem_rd he
    rw [List.length_drop] at hk
    rw [rdL_drop, chain_idx l _ _ hc (A + 1 + k) (by omega)]
    omega
  have hP2 : P = memF 18446744073709551615 (s.Config, s.Index) (l.take (A + 1)) := by
    rw [← hP]
    conv => lhs; rw [htake, memF_app]
    rw [memF_none _ _ _ (fun e he => ?_), memF_all _ 18446744073709551615]
    · intro e he
      have := hup e he
      refine ⟨?_, by omega⟩
      rw [← htake]; exact this
    · have := hdown e he
      rw [← htake]; exact this.1
  have hM : memF 18446744073709551615 (s.Config, s.Index) l = memF 18446744073709551615 P (l.drop (A + 1)) := by
    rw [hP2, ← memF_app, ← htake]
  have hPle : P.2 ≤ (rdL l (A : Int)).Index := by
    rw [hP2]
    exact memF_le _ _ _ _ (by simp only; omega) hup
  have hL : lastP s.Index s.Term l = lastP (rdL l (A : Int)).Index (rdL l (A : Int)).Term (l.drop (A + 1)) := by
    conv => lhs; rw [htake, lastP_app, take_snoc hA2, lastP_app]
    rfl
  unfold tontinelaw07_RlogCompacts.j2
  rw [if_neg (by simp), hA]
  have el2 : rlog_Log_Last.f n ⟨⟨(rdL l (A : Int)).Index, (rdL l (A : Int)).Term, P.1, [100, 97, 116, 97]⟩, l.drop (A + 1)⟩ = some (lastP s.Index s.Term l) := by
    rw [p_Last n _ (by simp only; omega), hL]
  have em2 : rlog_Log_Members.f n ⟨⟨(rdL l (A : Int)).Index, (rdL l (A : Int)).Term, P.1, [100, 97, 116, 97]⟩, l.drop (A + 1)⟩ = some (memF 18446744073709551615 (P.1, (rdL l (A : Int)).Index) (l.drop (A + 1))) := p_Members n _ (by simp only; omega) (by simp only; omega) hdd
  have et2 : rlog_Log_Term.f n ⟨⟨(rdL l (A : Int)).Index, (rdL l (A : Int)).Term, P.1, [100, 97, 116, 97]⟩, l.drop (A + 1)⟩ (rdL l (A : Int)).Index = some ((rdL l (A : Int)).Term, 0) := by
    rw [p_Term n _ _ (by simp only; omega) (by omega) (by simp only; omega)]
    unfold termM
    have : atM (rdL l (A : Int)).Index (l.drop (A + 1)).length (rdL l (A : Int)).Index = -1 := by unfold atM; rw [if_neg (by omega)]
    simp only [this]
    rw [if_neg (by omega)]
    simp
  have eg2 : rlog_Log_Get.f n ⟨⟨(rdL l (A : Int)).Index, (rdL l (A : Int)).Term, P.1, [100, 97, 116, 97]⟩, l.drop (A + 1)⟩ (wu64 ((rdL l (A : Int)).Index + 1)) 2000 = some (l.drop (A + 1)) := by
    rw [p_Get n _ _ 2000 (by simp only; omega) ⟨by rw [next_u64 (by omega)]; split <;> omega, by rw [next_u64 (by omega)]; split <;> omega⟩ (by simp only; omega)]
    have q := get_all (⟨(rdL l (A : Int)).Index, (rdL l (A : Int)).Term, P.1, [100, 97, 116, 97]⟩ : T_api_Snapshot) (l.drop (A + 1)) (by simp only; omega) (by simp only [List.length_drop]; omega) 0 (by omega) (by omega)
    rw [show (⟨(rdL l (A : Int)).Index, (rdL l (A : Int)).Term, P.1, [100, 97, 116, 97]⟩ : T_api_Snapshot).Index + ((0 : Nat) : Int) + 1 = (rdL l (A : Int)).Index + 1 by simp] at q
    rw [q]
    rfl
  have esm : tontineref07_Same.f n (l.drop (A + 1)) (l.drop (A + 1)) = some true := same07 n _ (by omega) (by omega)
  have ef : rlog_Log_First.f n ⟨⟨(rdL l (A : Int)).Index, (rdL l (A : Int)).Term, P.1, [100, 97, 116, 97]⟩, l.drop (A + 1)⟩ = some ⟨(rdL l (A : Int)).Index, (rdL l (A : Int)).Term, P.1, [100, 97, 116, 97]⟩ := rfl
  rw [el2, Option.bind_some, em2, Option.bind_some, et2, Option.bind_some, hM]
  have t1 : ∀ x : Int, (x == x) = true := fun x => by simp
  rcases memF_two 18446744073709551615 (l.drop (A + 1)) with hq | ⟨v, hq⟩
  · rw [hq, hq]
    simp only [t1, if_true]
    by_cases hx : (rdL l (A : Int)).Index = P.2
    · rw [hx]
      rw [hx] at ef eg2
      simp [ef, eg2, esm]
    · have hx2 : ((rdL l (A : Int)).Index == P.2) = false := by rw [beq_eq_false_iff_ne]; exact hx
      rw [hx2, decide_eq_true hPle]
      simp [ef, eg2, esm]
  · rw [hq, hq]
    simp [ef, eg2, esm]
theorem tontinelaw07_RlogCompacts_law (s : T_api_Snapshot) (l : List T_api_Entry) (at' : Int) (h1 : wf_T_api_Snapshot s) (h2 : l.length * 40 ≤ reachBytes ∧ ∀ x ∈ l, wf_T_api_Entry x) (h3 : (Lit.int .i64 at').wf = true) : Ev (fun n => tontinelaw07_RlogCompacts.f n s l at') true := by
  refine Ev.ge (5000 + l.length) fun n hn => ?_
  have hl : l.length ≤ 4000000000000 := by have := h2.1; unfold reachBytes at this; omega
  have hd : ∀ e ∈ l, e.Data.length < 9000000000000000000 := fun e he => by have := (h2.2 e he).2.2.2; unfold reachBytes at this; omega
  have hs := wf_u64 h1.1
  unfold tontinelaw07_RlogCompacts.f
  rw [begun07 n (by omega), Option.bind_some, if_neg (by simp), p_New n s l (by omega) hs (wf_u64 h1.2.2.1) hl hd, Option.bind_some]
  unfold newM
  by_cases hc : (soundC s.Config && chain s.Index s.Term l) = true
  · rw [if_pos hc]
    rw [Bool.and_eq_true] at hc
    simp only
    rw [if_neg (by simp)]
    obtain ⟨N, hN1, hN2, hN⟩ := light_l2 n l hl (fun e he => by have := (chain_mem l _ _ hc.2 e he).1; omega) l.length n 0 l.length (by omega) (by omega) (by omega)
    have hli : tontinelaw07_light.f n l [] = some (decide ((N : Int) ≤ 800)) := by
      unfold tontinelaw07_light.f
      obtain ⟨m, rfl⟩ : ∃ m, n = m + 1 := ⟨n - 1, by omega⟩
      unfold tontinelaw07_light.l0
      rw [if_neg (by simp)]
      rw [show wi64 ((l.length : Int) + (([] : List T_tontinelaw07_Call).length : Int)) = (l.length : Int) by rw [List.length_nil, wi64_id (by omega) (by omega)]; omega]
      exact hN
    rw [hli, Option.bind_some]
    by_cases hN8 : N ≤ 800
    · rw [decide_eq_true (by omega : (N : Int) ≤ 800), if_neg (by simp)]
      by_cases h0 : l.length = 0
      · rw [h0]
        rfl
      · rw [show ((l.length : Int) == 0) = false by rw [beq_eq_false_iff_ne]; omega]
        exact comp_main n (by omega) s l at' hs hc.2 (by omega) (by omega)
    · rw [decide_eq_false (by omega : ¬ (N : Int) ≤ 800), if_pos (by rfl)]
      rfl
  · rw [if_neg hc]
    rfl
end Go.GL
