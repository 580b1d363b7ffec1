/- The law StuffJoins, over the plain functions: the arguments being small. -/
import Derived.Test.YtapiconoooncgaaStuffFn
set_option linter.unusedVariables false
set_option linter.unusedSimpArgs false
set_option maxRecDepth 10000
namespace Go.GL
open Go Cobs
theorem ms_bytes1 (l : List UInt8) : (l.map fun _ => 1).sum = l.length := by
  induction l with
  | nil => rfl
  | cons x r ih => simp [ih]; omega
theorem tontinelaw01_StuffJoins_law (a b : List UInt8) (ha : a.length * 1 ≤ reachBytes ∧ ∀ x ∈ a, True) (hb : b.length * 1 ≤ reachBytes ∧ ∀ x ∈ b, True)
    (hs : (fun xs : List UInt8 => (xs.map (fun _ => 1)).sum + 1) a + (fun xs : List UInt8 => (xs.map (fun _ => 1)).sum + 1) b ≤ 1048576) : Ev (fun n => tontinelaw01_StuffJoins.f n a b) true := by
  simp only [ms_bytes1] at hs
  refine Ev.ge 3000000 fun n hn => ?_
  unfold tontinelaw01_StuffJoins.f
  have la := enc_len a [] (by simp)
  have lb := enc_len b [] (by simp)
  simp only [List.length_nil, Nat.zero_add] at la lb
  have e0 : a ++ [(0 : UInt8)] ++ b = a ++ 0 :: b := by simp
  have hl : (a ++ 0 :: b).length = a.length + b.length + 1 := by simp; omega
  have hl2 : (a ++ [(0 : UInt8)]).length = a.length + 1 := by simp
  have s1 := f_Encode n (a ++ 0 :: b) (by omega) (by omega)
  have s2 := f_Encode n a (by omega) (by omega)
  have s3 := f_Encode n b (by omega) (by omega)
  have c1 : capOk 1 a.length := capOk1 (by omega)
  have c2 : capOk 1 (a ++ [(0 : UInt8)]).length := capOk1 (by omega)
  have c3 : capOk 1 (a ++ 0 :: b).length := capOk1 (by omega)
  have c4 : (Cobs.enc [] a).length + (Cobs.enc [] b).length ≤ i64max := by unfold i64max; omega
  rw [begun01 n (by omega), Option.bind_some, if_neg (by simp)]
  simp only [List.nil_append, e0, if_pos c1, if_pos c2, if_pos c3, s1, s2, s3, Option.bind_some, if_pos c4, enc_join, beq_self_eq_true]
end Go.GL
