/- The law PlanWrites, over the plain functions. -/
import Derived.Test.YtcpcdnjpdblhoaaPlan
set_option linter.unusedVariables false
set_option linter.unusedSimpArgs false
namespace Go.GL
open Go

theorem lenL_le : ∀ l : List T_api_Step, lenL l ≤ 27 * (l.map ms_T_api_Step).sum
  | [] => by simp [lenL]
  | s :: l => by
    have := lenL_le l
    simp only [lenL, ms_T_api_Step, List.map_cons, List.sum_cons] at *
    omega
theorem tontinelaw13_PlanWrites_law (l : List T_api_Step) (a : Int) (h : l.length * 32 ≤ reachBytes ∧ ∀ x ∈ l, wf_T_api_Step x) (ha : (Lit.int .u64 a).wf = true) (hsm : ((l.map ms_T_api_Step).sum + 1) + 1 ≤ 1048576) :
    Ev (fun n => tontinelaw13_PlanWrites.f n l a) true := by
  unfold tontinelaw13_PlanWrites.f
  refine Ev.bind begun13 (Ev.ge 600 fun n hn => ?_)
  rw [if_neg (by simp)]
  by_cases hl : (l.length : Int) > 500
  · rw [if_pos (by simpa using hl)]
  rw [if_neg (by simpa using hl)]
  have ha := wf_u64 ha
  have z := enc_length a.toNat
  have z1 := enc_length l.length
  have z2 := lenL_le l
  have z3 := encL_length l
  rw [w_Num n (by omega) _ (by simp) ha, Option.bind_some, plan_Write_f n _ l (by omega) (by omega) (by simp <;> omega), Option.bind_some]
  show ((some _ : Option (List UInt8)).bind _) = _
  rw [Option.bind_some, ref_Num n (by omega) ha, Option.bind_some, ref13_Bytes_f n l (by omega) (by omega) (by omega), Option.bind_some, if_pos (by simp only [i64max, List.length_append]; omega)]
  simp
end Go.GL
