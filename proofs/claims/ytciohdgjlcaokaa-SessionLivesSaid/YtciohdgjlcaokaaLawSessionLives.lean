/- The law SessionLives, over the plain functions. -/
import Derived.Test.YtciohdgjlcaokaaLawSessionNone
set_option linter.unusedVariables false
set_option linter.unusedSimpArgs false
set_option maxRecDepth 10000
namespace Go.GL
open Go
/-- A table of one session, 1, that was used just now. -/
def oneT (now seq : Int) (y : T_api_Reply) : T_session_Table := ⟨now, 2, [⟨1, now, seq, y⟩]⟩
theorem one_find (a b c u s : Int) (y : T_api_Reply) : find ⟨a, b, [⟨1, u, s, y⟩]⟩ 1 = 0 := by
  simp [find, ids, findI]
theorem sl_j0 (n : Nat) (now seq : Int) (y : T_api_Reply) : tontinelaw15_SessionLives.j0 n now 2 [⟨1, now, seq, y⟩] = some true := by
  unfold tontinelaw15_SessionLives.j0
  rw [f_Rows n ⟨now, 2, [⟨1, now, seq, y⟩]⟩ (by simp), Option.bind_some]
  simp
theorem sl_l0 (n : Nat) (hn : 2000 ≤ n) (ws : List Int) (r : Int × Int × T_session_Table) (hr : r.1 = 1) : ∀ (j k i : Nat) (N S : Nat) (y : T_api_Reply), i + j = 200 → j < k → N ≤ 1500 * i → S ≤ i →
    tontinelaw15_SessionLives.l0 n ws r k (N : Int) 2 [⟨1, (N : Int), (S : Int), y⟩] (N : Int) (S : Int) (i : Int) = some true
  | j, 0, i, _, _, _, _, h, _, _ => by omega
  | 0, k + 1, i, N, S, y, hi, _, hN, hS => by
    unfold tontinelaw15_SessionLives.l0
    have : i = 200 := by omega
    subst this
    split
    · rename_i hl
      have hl : (200 : Int) < (ws.length : Int) := of_decide_eq_true hl
      rw [if_pos ⟨by omega, by omega⟩, if_pos (by rfl)]
      exact sl_j0 n _ _ _
    · exact sl_j0 n _ _ _
  | j + 1, k + 1, i, N, S, y, hi, hk, hN, hS => by
    unfold tontinelaw15_SessionLives.l0
    split
    rotate_left
    · exact sl_j0 n _ _ _
    rename_i hl
    have hl : (i : Int) < (ws.length : Int) := of_decide_eq_true hl
    obtain ⟨W, hW, hW2⟩ := modN (rdL ws (i : Int)) 1500 (by omega) (by omega)
    have hW' : (wi64 (((rdL ws (i : Int)).tmod 1500) + 1500)).tmod 1500 = (W : Int) := hW
    have w1 : wi64 ((i : Int) + 1) = ((i + 1 : Nat) : Int) := by rw [wi64_id (by omega) (by omega)]; omega
    have w2 : wu64 ((S : Int) + 1) = ((S + 1 : Nat) : Int) := by rw [wu64_id (by omega) (by omega)]; omega
    have w3 : wu64 ((N : Int) + wu64 (W : Int)) = ((N + W : Nat) : Int) := by rw [wu64_id (x := (W : Int)) (by omega) (by omega), wu64_id (by omega) (by omega)]; omega
    rw [if_pos ⟨by omega, by omega⟩, if_neg (by rw [beq_iff_eq]; omega)]
    simp only [hW', w1, w2, w3, hr]
    rw [f_Clock n ⟨(N : Int), 2, [⟨1, (N : Int), (S : Int), y⟩]⟩ _ (by simp) (by omega), Option.bind_some]
    by_cases hb : W ≤ 1000
    · have ec : clockM ⟨(N : Int), 2, [⟨1, (N : Int), (S : Int), y⟩]⟩ ((N + W : Nat) : Int) = ⟨((N + W : Nat) : Int), 2, [⟨1, (N : Int), (S : Int), y⟩]⟩ := by
        unfold clockM
        simp only
        split
        · have : W = 0 := by omega
          subst this
          rfl
        · have : keepR ((N + W : Nat) : Int) ⟨1, (N : Int), (S : Int), y⟩ = true := by
            unfold keepR
            simp only
            rw [wu64_id (by omega) (by omega), decide_eq_true_eq]
            omega
          rw [List.filter_cons, if_pos this, List.filter_nil]
      rw [ec, f_Begin n _ _ _ (by simp) (by omega), Option.bind_some]
      have eb : beginM ⟨((N + W : Nat) : Int), 2, [⟨1, (N : Int), (S : Int), y⟩]⟩ 1 ((S + 1 : Nat) : Int) = (⟨0, 0, 0⟩, true, ⟨((N + W : Nat) : Int), 2, [⟨1, ((N + W : Nat) : Int), (S : Int), y⟩]⟩) := by
        unfold beginM
        rw [one_find _ _ 0]
        have e : rdL [(⟨1, (N : Int), (S : Int), y⟩ : T_session_Row)] 0 = ⟨1, (N : Int), (S : Int), y⟩ := rfl
        simp only [e, w2]
        rw [if_neg (by omega), if_neg (by omega), if_neg (by omega)]
        rfl
      rw [eb, if_neg (by rw [decide_eq_true_eq]; omega), if_neg (by simp)]
      have ee : endM ⟨((N + W : Nat) : Int), 2, [⟨1, ((N + W : Nat) : Int), (S : Int), y⟩]⟩ 1 ((S + 1 : Nat) : Int) ⟨0, 0, 0⟩ = (true, ⟨((N + W : Nat) : Int), 2, [⟨1, ((N + W : Nat) : Int), ((S + 1 : Nat) : Int), ⟨0, 0, 0⟩⟩]⟩) := by
        unfold endM
        rw [one_find _ _ 0]
        have e : rdL [(⟨1, ((N + W : Nat) : Int), (S : Int), y⟩ : T_session_Row)] 0 = ⟨1, ((N + W : Nat) : Int), (S : Int), y⟩ := rfl
        simp only [e, w2]
        rw [if_neg (by omega)]
        rfl
      rw [f_End n _ _ _ _ (by simp) (by omega), ee, Option.bind_some, if_neg (by simp)]
      exact sl_l0 n hn ws r hr j k (i + 1) (N + W) (S + 1) _ (by omega) (by omega) (by omega) (by omega)
    · have ec : clockM ⟨(N : Int), 2, [⟨1, (N : Int), (S : Int), y⟩]⟩ ((N + W : Nat) : Int) = ⟨((N + W : Nat) : Int), 2, []⟩ := by
        unfold clockM
        simp only
        rw [if_neg (by omega)]
        have : keepR ((N + W : Nat) : Int) ⟨1, (N : Int), (S : Int), y⟩ = false := by
          unfold keepR
          simp only
          rw [wu64_id (by omega) (by omega), decide_eq_false_iff_not]
          omega
        rw [List.filter_cons, if_neg (by rw [this]; simp), List.filter_nil]
      rw [ec, f_Begin n _ _ _ (by simp) (by omega), Option.bind_some]
      have eb : beginM ⟨((N + W : Nat) : Int), 2, []⟩ 1 ((S + 1 : Nat) : Int) = (⟨40, 0, 0⟩, false, ⟨((N + W : Nat) : Int), 2, []⟩) := by
        unfold beginM
        rw [if_pos (by simp [find, ids, findI])]
      rw [eb, if_pos (by rw [decide_eq_true_eq]; omega)]
      simp only
      rw [if_pos (by rfl), if_pos (by rfl), f_Rows n _ (by simp), Option.bind_some]
      rfl
theorem tontinelaw15_SessionLives_law (ws : List Int) (h : ws.length * 8 ≤ reachBytes ∧ ∀ x ∈ ws, (Lit.int .i64 x).wf = true) : Ev (fun n => tontinelaw15_SessionLives.f n ws) true := by
  refine Ev.ge 3000 fun n hn => ?_
  unfold tontinelaw15_SessionLives.f
  rw [begun15 n (by omega), Option.bind_some, if_neg (by simp)]
  unfold session_New.f
  rw [Option.bind_some, f_Reg n ⟨0, 1, []⟩ (by simp) (by simp), Option.bind_some]
  exact sl_l0 n (by omega) ws _ rfl 200 n 0 0 0 ⟨0, 0, 0⟩ (by omega) (by omega) (by omega) (by omega)
end Go.GL
