/- The law PlanLimits, over the plain functions. -/
import Derived.Test.YtcpcdnjpdblhoaaCheck
set_option linter.unusedVariables false
set_option linter.unusedSimpArgs false
set_option maxRecDepth 10000
namespace Go.GL
open Go
theorem modN (x : Int) (p : Nat) (hp : 0 < p) (hp2 : p ≤ 1000000) : ∃ y : Nat, (wi64 ((x.tmod (p : Int)) + (p : Int))).tmod (p : Int) = (y : Int) ∧ y < p := by
  have h1 : x.tmod (p : Int) < (p : Int) := Int.tmod_lt_of_pos x (by omega)
  have h2 : (-x).tmod (p : Int) < (p : Int) := Int.tmod_lt_of_pos (-x) (by omega)
  rw [Int.neg_tmod] at h2
  rw [wi64_id (by omega) (by omega)]
  have h3 : 0 ≤ (x.tmod (p : Int) + (p : Int)).tmod (p : Int) := Int.tmod_nonneg _ (by omega)
  have h4 : (x.tmod (p : Int) + (p : Int)).tmod (p : Int) < (p : Int) := Int.tmod_lt_of_pos _ (by omega)
  exact ⟨((x.tmod (p : Int) + (p : Int)).tmod (p : Int)).toNat, by omega, by omega⟩
def sOne : T_api_Step := ⟨1, [115], 1⟩
theorem lim_j0 (n : Nat) (z : List Int) (l : List T_api_Step) (C K : Nat) (hC : (wi64 (((rdL z (3 : Int)).tmod 70) + 70)).tmod 70 = (C : Int)) (hK : (wi64 (((rdL z (1 : Int)).tmod 30) + 30)).tmod 30 = (K : Int)) :
    tontinelaw13_PlanLimits.j0 n z l = tontinelaw13_PlanLimits.j1 n l (decide (1 ≤ C ∧ C ≤ 64 ∧ 0 ≤ (rdL z (0 : Int)).tmod 8 ∧ (rdL z (0 : Int)).tmod 8 < 4 ∧ 1 ≤ K ∧ K ≤ 16 ∧ 1 ≤ (rdL z (2 : Int)).tmod 14 ∧ (rdL z (2 : Int)).tmod 14 ≤ 9)) := by
  have no : ∀ p : Prop, [Decidable p] → ¬ p → tontinelaw13_PlanLimits.j1 n l false = tontinelaw13_PlanLimits.j1 n l (decide p) := fun p _ hp => by rw [decide_eq_false hp]
  unfold tontinelaw13_PlanLimits.j0
  rw [hC, hK]
  by_cases h1 : 1 ≤ C
  rotate_left
  · rw [if_neg (show ¬ decide ((C : Int) ≥ 1) = true by rw [decide_eq_true_eq]; omega)]
    exact no _ (fun hh => h1 hh.1)
  rw [if_pos (show decide ((C : Int) ≥ 1) = true by rw [decide_eq_true_eq]; omega)]
  by_cases h2 : C ≤ 64
  rotate_left
  · rw [if_neg (show ¬ decide ((C : Int) ≤ 64) = true by rw [decide_eq_true_eq]; omega)]
    exact no _ (fun hh => h2 hh.2.1)
  rw [if_pos (show decide ((C : Int) ≤ 64) = true by rw [decide_eq_true_eq]; omega)]
  by_cases h3 : (rdL z (0 : Int)).tmod 8 ≥ 0
  rotate_left
  · rw [if_neg (show ¬ decide ((rdL z (0 : Int)).tmod 8 ≥ 0) = true by rw [decide_eq_true_eq]; exact h3)]
    exact no _ (fun hh => h3 hh.2.2.1)
  rw [if_pos (show decide ((rdL z (0 : Int)).tmod 8 ≥ 0) = true from decide_eq_true h3)]
  by_cases h4 : (rdL z (0 : Int)).tmod 8 < 4
  rotate_left
  · rw [if_neg (show ¬ decide ((rdL z (0 : Int)).tmod 8 < 4) = true by rw [decide_eq_true_eq]; exact h4)]
    exact no _ (fun hh => h4 hh.2.2.2.1)
  rw [if_pos (show decide ((rdL z (0 : Int)).tmod 8 < 4) = true from decide_eq_true h4)]
  by_cases h5 : 1 ≤ K
  rotate_left
  · rw [if_neg (show ¬ decide ((K : Int) ≥ 1) = true by rw [decide_eq_true_eq]; omega)]
    exact no _ (fun hh => h5 hh.2.2.2.2.1)
  rw [if_pos (show decide ((K : Int) ≥ 1) = true by rw [decide_eq_true_eq]; omega)]
  by_cases h6 : K ≤ 16
  rotate_left
  · rw [if_neg (show ¬ decide ((K : Int) ≤ 16) = true by rw [decide_eq_true_eq]; omega)]
    exact no _ (fun hh => h6 hh.2.2.2.2.2.1)
  rw [if_pos (show decide ((K : Int) ≤ 16) = true by rw [decide_eq_true_eq]; omega)]
  by_cases h7 : (rdL z (2 : Int)).tmod 14 ≥ 1
  rotate_left
  · rw [if_neg (show ¬ decide ((rdL z (2 : Int)).tmod 14 ≥ 1) = true by rw [decide_eq_true_eq]; exact h7)]
    exact no _ (fun hh => h7 hh.2.2.2.2.2.2.1)
  rw [if_pos (show decide ((rdL z (2 : Int)).tmod 14 ≥ 1) = true from decide_eq_true h7)]
  congr 1
  rw [Bool.eq_iff_iff, decide_eq_true_eq, decide_eq_true_eq]
  exact ⟨fun hh => ⟨h1, h2, h3, h4, h5, h6, h7, hh⟩, fun hh => hh.2.2.2.2.2.2.2⟩
theorem lim_end (n : Nat) (hn : 1000 ≤ n) (l : List T_api_Step) (hl : l.length < 100) (b : Bool) (hb : b = decide (1 ≤ l.length ∧ l.length ≤ 64 ∧ l.all stepOk = true)) : tontinelaw13_PlanLimits.j1 n l b = some true := by
  unfold tontinelaw13_PlanLimits.j1
  rw [plan_Check_f n l (by omega), Option.bind_some, hb]
  by_cases h : 1 ≤ l.length ∧ l.length ≤ 64 ∧ l.all stepOk = true
  · rw [if_pos h, decide_eq_true h]; rfl
  · rw [if_neg h, decide_eq_false h]; rfl
theorem lim_l0 (n : Nat) (hn : 1000 ≤ n) (z : List Int) (C K : Nat) (hC : (wi64 (((rdL z (3 : Int)).tmod 70) + 70)).tmod 70 = (C : Int)) (hC2 : C < 70) (hK : (wi64 (((rdL z (1 : Int)).tmod 30) + 30)).tmod 30 = (K : Int)) (hK2 : K < 30) : ∀ (j k i : Nat), i + j = C → j < k → tontinelaw13_PlanLimits.l0 n z k (List.replicate i sOne) (i : Int) = some true
  | j, 0, i, _, h => by omega
  | 0, k + 1, i, hi, _ => by
    have : i = C := by omega
    subst this
    unfold tontinelaw13_PlanLimits.l0
    rw [hC, hK, if_neg (by rw [decide_eq_true_eq]; omega)]
    by_cases h0 : i = 0
    · subst h0
      rw [if_neg (by simp), lim_j0 n z _ 0 K hC hK]
      exact lim_end n hn _ (by simp) _ (by simp)
    · have w : wi64 ((i : Int) - 1) = ((i - 1 : Nat) : Int) := by rw [wi64_id (by omega) (by omega)]; omega
      rw [if_pos (by rw [decide_eq_true_eq]; omega), if_pos ⟨by omega, by omega, by omega⟩, w, if_pos ⟨by omega, by rw [List.length_replicate]; omega⟩, Int.toNat_natCast, Int.toNat_natCast, lim_j0 n z _ i K hC hK]
      have es : (List.replicate i sOne).set (i - 1) (⟨(rdL z (0 : Int)).tmod 8, List.replicate K (0 : UInt8), (rdL z (2 : Int)).tmod 14⟩ : T_api_Step) = List.replicate (i - 1) sOne ++ [⟨(rdL z (0 : Int)).tmod 8, List.replicate K (0 : UInt8), (rdL z (2 : Int)).tmod 14⟩] := by
        obtain ⟨m, rfl⟩ : ∃ m, i = m + 1 := ⟨i - 1, by omega⟩
        rw [Nat.add_sub_cancel, List.replicate_succ', List.set_append_right _ _ (by simp)]
        simp
      refine lim_end n hn _ (by rw [List.length_set, List.length_replicate]; omega) _ ?_
      rw [List.length_set, List.length_replicate, es, List.all_append, Bool.eq_iff_iff, decide_eq_true_eq, decide_eq_true_eq]
      have e1 : (List.replicate (i - 1) sOne).all stepOk = true := by
        rw [List.all_eq_true]
        intro x hx
        rw [List.eq_of_mem_replicate hx]
        rfl
      rw [e1]
      simp [stepOk]
      omega
  | j + 1, k + 1, i, hi, hk => by
    have c : capOk 32 (List.replicate i sOne ++ [sOne]).length := by simp only [List.length_append, List.length_replicate, List.length_cons, List.length_nil]; unfold capOk; omega
    have ih := lim_l0 n hn z C K hC hC2 hK hK2 j k (i + 1) (by omega) (by omega)
    unfold tontinelaw13_PlanLimits.l0
    rw [hC, if_pos (by rw [decide_eq_true_eq]; omega), wi64_id (x := (i : Int) + 1) (by omega) (by omega), show ((i : Int) + 1) = ((i + 1 : Nat) : Int) by omega]
    refine (if_pos c).trans ?_
    rw [List.replicate_succ'] at ih
    exact ih
theorem tontinelaw13_PlanLimits_law (z : List Int) (hz : z.length = 4 ∧ ∀ x ∈ z, (Lit.int .i64 x).wf = true) : Ev (fun n => tontinelaw13_PlanLimits.f n z) true := by
  obtain ⟨N0, hb⟩ := begun13
  refine Ev.ge (N0 + 2000) fun n hn => ?_
  obtain ⟨C, hC, hC2⟩ := modN (rdL z (3 : Int)) 70 (by omega) (by omega)
  obtain ⟨K, hK, hK2⟩ := modN (rdL z (1 : Int)) 30 (by omega) (by omega)
  have hbn := hb n (by omega)
  have h4 := hz.1
  unfold tontinelaw13_PlanLimits.f
  rw [if_pos (by omega), if_pos (by omega), if_pos (by omega), if_pos (by omega), if_pos (by omega), if_pos (by omega), if_pos (by omega), if_pos (by omega)]
  simp only at hbn
  rw [hbn, Option.bind_some, if_neg (by simp)]
  exact lim_l0 n (by omega) z C K hC hC2 hK hK2 C n 0 (by omega) (by omega)
end Go.GL
