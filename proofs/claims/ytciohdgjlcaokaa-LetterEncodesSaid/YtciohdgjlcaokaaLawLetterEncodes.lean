/- The law LetterEncodes, over the plain functions. -/
import Derived.Test.YtciohdgjlcaokaaEnc
set_option linter.unusedVariables false
set_option linter.unusedSimpArgs false
namespace Go.GL
open Go
theorem tontinelaw11_LetterEncodes_law (x : T_api_Letter) (h : wf_T_api_Letter x) : Ev (fun n => tontinelaw11_LetterEncodes.f n x) true := by
  unfold tontinelaw11_LetterEncodes.f
  refine Ev.bind begun11 (Ev.ge 400 fun n hn => ?_)
  rw [if_neg (by simp), p_Encode n x (by omega) h, Option.bind_some, r_Encode n x (by omega) h, Option.bind_some, if_pos (by simp), if_pos (by simp), p_May n x (by omega), Option.bind_some]
  unfold outX
  cases mayB x <;> rfl
end Go.GL
