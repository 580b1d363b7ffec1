/- The law StuffEncodes, over the plain functions. -/
import Derived.Test.YtapiconoooncgaaStuffFn
set_option linter.unusedVariables false
namespace Go.GL
open Go
theorem tontinelaw01_StuffEncodes_law (b : List UInt8) (hb : b.length * 1 ≤ reachBytes ∧ ∀ x ∈ b, True) : Ev (fun n => tontinelaw01_StuffEncodes.f n b) true := by
  have hl := reach_len hb
  refine Ev.ge (b.length + 100) fun n hn => ?_
  unfold tontinelaw01_StuffEncodes.f
  rw [begun01 n (by omega), Option.bind_some, if_neg (by simp), f_Encode n b hl (by omega), Option.bind_some, r_Encode n b hl (by omega), Option.bind_some]
  simp
end Go.GL
