/- The law SessionNone, over the plain functions. -/
import Derived.Test.YtciohdgjlcaokaaSess
set_option linter.unusedVariables false
set_option linter.unusedSimpArgs false
set_option maxRecDepth 10000
namespace Go.GL
open Go
theorem modN (x : Int) (p : Nat) (hp : 0 < p) (hp2 : p ≤ 1000000) : ∃ y : Nat, (wi64 ((x.tmod (p : Int)) + (p : Int))).tmod (p : Int) = (y : Int) ∧ y < p := by
  have h1 : x.tmod (p : Int) < (p : Int) := Int.tmod_lt_of_pos x (by omega)
  have h2 : (-x).tmod (p : Int) < (p : Int) := Int.tmod_lt_of_pos (-x) (by omega)
  rw [Int.neg_tmod] at h2
  rw [wi64_id (by omega) (by omega)]
  have h3 : 0 ≤ (x.tmod (p : Int) + (p : Int)).tmod (p : Int) := Int.tmod_nonneg _ (by omega)
  have h4 : (x.tmod (p : Int) + (p : Int)).tmod (p : Int) < (p : Int) := Int.tmod_lt_of_pos _ (by omega)
  exact ⟨((x.tmod (p : Int) + (p : Int)).tmod (p : Int)).toNat, by omega, by omega⟩
theorem sn_l0 (n : Nat) (m3 : Int) (M : Nat) (hM : (wi64 ((m3.tmod 50) + 50)).tmod 50 = (M : Int)) (hM2 : M < 50) : ∀ (j k i : Nat) (now : Int) (rows : List T_session_Row), i + j = M → j < k → rows.length = min i 16 →
    tontinelaw15_SessionNone.l0 n m3 k now ((min i 16 + 1 : Nat) : Int) rows (i : Int) = some true
  | j, 0, i, _, _, _, h, _ => by omega
  | 0, k + 1, i, now, rows, hi, _, hr => by
    unfold tontinelaw15_SessionNone.l0
    simp only [hM]
    rw [if_neg (by rw [decide_eq_true_eq]; omega), f_Rows n ⟨now, _, rows⟩ (by show rows.length ≤ 1000; omega), Option.bind_some]
    have : ((rows.length : Int) == (if (16 : Int) < (M : Int) then 16 else (M : Int))) = true := by
      rw [beq_iff_eq]
      split <;> omega
    rw [this]
  | j + 1, k + 1, i, now, rows, hi, hk, hr => by
    unfold tontinelaw15_SessionNone.l0
    simp only [hM]
    have w : wi64 ((i : Int) + 1) = ((i + 1 : Nat) : Int) := by rw [wi64_id (by omega) (by omega)]; omega
    have w2 : wu64 ((i + 1 : Nat) : Int) = ((i + 1 : Nat) : Int) := wu64_id (by omega) (by omega)
    rw [if_pos (by rw [decide_eq_true_eq]; omega), f_Reg n ⟨now, ((min i 16 + 1 : Nat) : Int), rows⟩ (by show (0 : Int) ≤ ((min i 16 + 1 : Nat) : Int); omega) (by show ((min i 16 + 1 : Nat) : Int) ≤ _; omega), Option.bind_some, w, w2]
    by_cases h : i < 16
    · have e : regM ⟨now, ((min i 16 + 1 : Nat) : Int), rows⟩ = (((i + 1 : Nat) : Int), 0, ⟨now, ((min (i + 1) 16 + 1 : Nat) : Int), rows ++ [⟨((min i 16 + 1 : Nat) : Int), now, 0, ⟨0, 0, 0⟩⟩]⟩) := by
        unfold regM
        rw [if_neg (by simp only; omega)]
        simp only [Prod.mk.injEq, T_session_Table.mk.injEq, and_true, true_and]
        omega
      rw [e]
      have ih := sn_l0 n m3 M hM hM2 j k (i + 1) now (rows ++ [⟨((min i 16 + 1 : Nat) : Int), now, 0, ⟨0, 0, 0⟩⟩]) (by omega) (by omega) (by simp; omega)
      have d : decide ((i : Int) < 16) = true := by rw [decide_eq_true_eq]; omega
      simp only [d]
      unfold tontinelaw15_SessionNone.j1
      simpa [w] using ih
    · have e : regM ⟨now, ((min i 16 + 1 : Nat) : Int), rows⟩ = (0, 11, ⟨now, ((min (i + 1) 16 + 1 : Nat) : Int), rows⟩) := by
        unfold regM
        rw [if_pos (by simp only; omega)]
        simp only [Prod.mk.injEq, T_session_Table.mk.injEq, and_true, true_and]
        omega
      rw [e]
      have ih := sn_l0 n m3 M hM hM2 j k (i + 1) now rows (by omega) (by omega) (by omega)
      have d : decide ((i : Int) < 16) = false := by rw [decide_eq_false_iff_not]; omega
      simp only [d]
      unfold tontinelaw15_SessionNone.j1
      simpa [w] using ih
theorem tontinelaw15_SessionNone_law (id seq m3 : Int) (h1 : (Lit.int .u64 id).wf = true) (h2 : (Lit.int .u64 seq).wf = true) (h3 : (Lit.int .i64 m3).wf = true) : Ev (fun n => tontinelaw15_SessionNone.f n id seq m3) true := by
  refine Ev.ge 3000 fun n hn => ?_
  obtain ⟨M, hM, hM2⟩ := modN m3 50 (by omega) (by omega)
  unfold tontinelaw15_SessionNone.f
  rw [begun15 n (by omega), Option.bind_some, if_neg (by simp)]
  have e := sn_l0 n m3 M hM hM2 M n 0 0 [] (by omega) (by omega) (by simp)
  have e1 : session_Table_Begin_n0.f n id seq = some (⟨40, 0, 0⟩, false) := rfl
  have e2 : ∀ y, session_Table_End_n0.f n id seq y = some false := by
    intro y
    unfold session_Table_End_n0.f session_Table_End_n0.j0 session_Table_find_n0.f
    simp
  have e0 : tontinelaw15_SessionNone.j0 n m3 false = some true := e
  simp [session_Table_Clock_n0.f, session_Table_Write_n0.f, session_Table_Register_n0.f, session_Table_Now_n0.f, session_Table_Rows_n0.f, e1, e2, e0]
end Go.GL
