/- The law CommandEncodes, over the plain functions. -/
import Derived.Test.YtfeddlhkiomdaaaEnc
set_option linter.unusedVariables false
set_option linter.unusedSimpArgs false
namespace Go.GL
open Go
theorem tontinelaw16_CommandEncodes_law (c : T_api_Command) (h : wf_T_api_Command c) : Ev (fun n => tontinelaw16_CommandEncodes.f n c) true := by
  unfold tontinelaw16_CommandEncodes.f
  refine Ev.bind begun16 (Ev.ge (c.Steps.length + 400) fun n hn => ?_)
  rw [if_neg (by simp), p_Encode n c (by omega) h, Option.bind_some, r_Encode n c (by omega) h, Option.bind_some, if_pos (by simp), if_pos (by simp), p_May n c (by omega), Option.bind_some, r_May n c (by omega), Option.bind_some]
  simp
end Go.GL
