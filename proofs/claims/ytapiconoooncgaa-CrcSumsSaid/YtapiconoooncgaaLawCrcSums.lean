/- The law CrcSums, over the plain functions. -/
import Derived.Test.YtapiconoooncgaaCrcFn
set_option linter.unusedVariables false
namespace Go.GL
open Go Crc
theorem tontinelaw02_CrcSums_law (sum : Int) (b : List UInt8) (hs : (Lit.int .u32 sum).wf = true) (hb : b.length * 1 ≤ reachBytes ∧ ∀ x ∈ b, True) : Ev (fun n => tontinelaw02_CrcSums.f n sum b) true := by
  obtain ⟨s, rfl⟩ := wf_I hs
  have hl := reach_small (by simpa using hb.1 : b.length ≤ reachBytes)
  refine Ev.ge (b.length + 100) fun n hn => ?_
  unfold tontinelaw02_CrcSums.f
  have h0 := r_Add n 0#32 b hl (by omega)
  rw [show I 0#32 = 0 by decide] at h0
  rw [begun02 n (by omega), Option.bind_some, if_neg (by simp), f_Add n s b hl (by omega), Option.bind_some, r_Add n s b hl (by omega), Option.bind_some, if_pos (by simp), f_Sum n b hl (by omega), Option.bind_some, h0]
  simp
end Go.GL
