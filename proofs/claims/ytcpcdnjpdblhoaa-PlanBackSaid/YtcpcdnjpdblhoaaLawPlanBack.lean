/- The law PlanBack, over the plain functions. -/
import Derived.Test.YtcpcdnjpdblhoaaRound
import Derived.Test.YtcpcdnjpdblhoaaCheck
import Derived.Test.YtcpcdnjpdblhoaaPlan
set_option linter.unusedVariables false
set_option linter.unusedSimpArgs false
namespace Go.GL
open Go

theorem capOk32 {m : Nat} (h : m ≤ 1000000000) : capOk 32 m := by unfold capOk; omega

theorem same_l0 (n : Nat) (a : List T_api_Step) (ha : a.length ≤ 1000000) : ∀ (k i : Nat), i ≤ a.length → a.length - i < k → tontineref13_Same.l0 n a a k (i : Int) = some true
  | 0, i, _, h => by omega
  | k + 1, i, hi, hk => by
    unfold tontineref13_Same.l0
    by_cases h : i < a.length
    · have e : wi64 ((i : Int) + 1) = ((i + 1 : Nat) : Int) := by rw [wi64_id (by omega) (by omega)]; omega
      rw [if_pos (by simp <;> omega), if_pos ⟨by omega, by omega⟩, if_pos ⟨by omega, by omega⟩, if_neg (by simp), e]
      exact same_l0 n a ha k (i + 1) (by omega) (by omega)
    · rw [if_neg (by simp <;> omega)]
theorem same_f (n : Nat) (a : List T_api_Step) (ha : a.length ≤ 1000000) (hn : a.length < n) : tontineref13_Same.f n a a = some true := by
  unfold tontineref13_Same.f
  rw [if_neg (by simp)]
  exact same_l0 n a ha n 0 (by omega) (by omega)

theorem stepOk_iff {s : T_api_Step} (h : stepOk s = true) : 0 ≤ s.Part ∧ s.Part < 4 ∧ 1 ≤ s.Name.length ∧ s.Name.length ≤ 16 ∧ 1 ≤ s.Budget ∧ s.Budget ≤ 9 := by
  simp only [stepOk, Bool.and_eq_true, decide_eq_true_eq] at h
  omega
theorem lenL_ok : ∀ l : List T_api_Step, l.all stepOk = true → lenL l ≤ 43 * l.length
  | [], _ => by simp [lenL]
  | s :: l, h => by
    simp only [List.all_cons, Bool.and_eq_true] at h
    have := lenL_ok l h.2
    have := stepOk_iff h.1
    simp only [lenL, List.map_cons, List.sum_cons, List.length_cons] at *
    omega

theorem read_back (n : Nat) (hn : 20 ≤ n) (l : List T_api_Step) (hl : l.length ≤ 64) (ha : l.all stepOk = true) : ∀ (d k i : Nat), i + d = l.length → d < k →
    plan_Read.l0 n k (encL (l.drop i)) false (l.take i) (d : Int) = some (l, ⟨[], false⟩)
  | d, 0, i, _, h => by omega
  | 0, k + 1, i, h, hk => by
    have hi : i = l.length := by omega
    subst hi
    unfold plan_Read.l0
    rw [if_neg (by simp)]
    simp only [List.drop_length, List.take_length]
    rfl
  | d + 1, k + 1, i, h, hk => by
    have hi : i < l.length := by omega
    have hso : stepOk (rdL l (i : Int)) = true := List.all_eq_true.1 ha _ (rdL_mem hi)
    have hdr := getD_drop hi
    have htk : l.take (i + 1) = l.take i ++ [rdL l (i : Int)] := by
      rw [List.take_add_one, List.getElem?_eq_getElem hi]
      simp [rdL, hi]
    have ih := read_back n hn l hl ha d k (i + 1) (by omega) (by omega)
    have hall : (l.drop (i + 1)).all stepOk = true := List.all_eq_true.2 fun x hx => List.all_eq_true.1 ha x (List.mem_of_mem_drop hx)
    have z := encL_length (l.drop (i + 1))
    have z' := lenL_ok _ hall
    have z'' : (l.drop (i + 1)).length ≤ 64 := by rw [List.length_drop]; omega
    rw [htk] at ih
    rw [hdr]
    unfold plan_Read.l0
    rw [if_pos (by simp <;> omega)]
    generalize rdL l (i : Int) = s at *
    obtain ⟨q1, q2, q3, q4, q5, q6⟩ := stepOk_iff hso
    have e1 : encL (s :: l.drop (i + 1)) = enc s.Part.toNat ++ (encT s.Name ++ (enc s.Budget.toNat ++ encL (l.drop (i + 1)))) := by
      simp only [encL, List.flatMap_cons, encS, List.append_assoc]
      rw [wu64_id q1 (by omega), wu64_id (x := s.Budget) (by omega) (by omega)]
    have z1 := encT_length s.Name
    have z2 := enc_length s.Budget.toNat
    rw [e1, p_up hn (by omega) _ false (by simp <;> omega) (by omega) (by omega), Option.bind_some]
    simp only
    rw [p_text hn s.Name _ false (by simp <;> omega) (by omega) (by omega), Option.bind_some]
    simp only
    rw [p_up hn (by omega) _ false (by omega) (by omega) (by omega), Option.bind_some]
    simp only
    have e2 : (s.Part.toNat : Int) = s.Part := by omega
    have e3 : (s.Budget.toNat : Int) = s.Budget := by omega
    have e4 : wi64 (((d + 1 : Nat) : Int) - 1) = (d : Int) := by rw [wi64_id (by omega) (by omega)]; omega
    have ht : (l.take i).length ≤ i := List.length_take_le i l
    rw [e2, e3, e4, if_pos (capOk32 (by simp <;> omega))]
    exact ih

theorem tontinelaw13_PlanBack_law (l : List T_api_Step) (h : l.length * 32 ≤ reachBytes ∧ ∀ x ∈ l, wf_T_api_Step x) : Ev (fun n => tontinelaw13_PlanBack.f n l) true := by
  unfold tontinelaw13_PlanBack.f
  refine Ev.bind begun13 (Ev.ge (l.length + 200) fun n hn => ?_)
  rw [if_neg (by simp), plan_Check_f n l (by omega), Option.bind_some]
  by_cases hc : 1 ≤ l.length ∧ l.length ≤ 64 ∧ l.all stepOk = true
  · rw [if_pos hc, if_neg (by simp)]
    obtain ⟨h1, h2, h3⟩ := hc
    have z1 := lenL_ok l h3
    have z2 := encL_length l
    rw [plan_Write_f n _ l (by omega) (by omega) (by simp <;> omega), Option.bind_some]
    have hb : ∀ l, pack_Writer_Bytes.f n (⟨l⟩ : T_pack_Writer) = some l := fun _ => rfl
    have hf : ∀ l, pack_From.f n l = some ⟨l, false⟩ := fun _ => rfl
    rw [hb, Option.bind_some, hf, Option.bind_some]
    have hr : plan_Read.f n ⟨[] ++ (enc l.length ++ encL l), false⟩ = some (l, ⟨[], false⟩) := by
      unfold plan_Read.f
      rw [List.nil_append, p_up (by omega) (by omega) _ false (by omega) (by omega) (by omega), Option.bind_some]
      exact read_back n (by omega) l h2 h3 l.length n 0 (by omega) (by omega)
    rw [hr, Option.bind_some, same_f n l (by omega) (by omega), Option.bind_some, if_pos rfl]
    rfl
  · rw [if_neg hc, if_pos (by simp)]
end Go.GL
