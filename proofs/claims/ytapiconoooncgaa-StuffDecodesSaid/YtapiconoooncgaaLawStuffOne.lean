/- The law StuffOne, over the plain functions. -/
import Derived.Test.YtapiconoooncgaaStuffDec
set_option linter.unusedVariables false
set_option linter.unusedSimpArgs false
set_option maxRecDepth 10000
namespace Go.GL
open Go Cobs
theorem dec_len (k : Nat) (b o : List UInt8) (h : dec k b = some o) : o.length < b.length := by
  have e := enc_dec k b o h
  have := (enc_len o [] (by simp)).1
  rw [e] at this
  simpa using this
theorem tontinelaw01_StuffOne_law (b : List UInt8) (hb : b.length * 1 ≤ reachBytes ∧ ∀ x ∈ b, True) : Ev (fun n => tontinelaw01_StuffOne.f n b) true := by
  have hl := reach_len hb
  refine Ev.ge (b.length + 400) fun n hn => ?_
  unfold tontinelaw01_StuffOne.f
  rw [begun01 n (by omega), Option.bind_some, if_neg (by simp), f_Decode n b (by omega) (by omega), Option.bind_some]
  cases hd : dec n b with
  | none => rfl
  | some o =>
    have := dec_len n b o hd
    rw [if_neg (by simp [decR])]
    show (stuff_Encode.f n ([] ++ o)).bind _ = _
    rw [List.nil_append, f_Encode n o (by omega) (by omega), Option.bind_some, enc_dec n b o hd]
    simp
end Go.GL
