/- The law CrcParts, over the plain functions: the arguments being small. -/
import Derived.Test.YtapiconoooncgaaCrcJoin
set_option linter.unusedVariables false
set_option linter.unusedSimpArgs false
set_option maxRecDepth 10000
namespace Go.GL
open Go Crc
theorem ms_bytes (l : List UInt8) : (l.map fun _ => 1).sum = l.length := by
  induction l with
  | nil => rfl
  | cons x r ih => simp [ih]; omega
theorem tontinelaw02_CrcParts_law (a b : List UInt8) (ha : a.length * 1 ≤ reachBytes ∧ ∀ x ∈ a, True) (hb : b.length * 1 ≤ reachBytes ∧ ∀ x ∈ b, True)
    (hs : (fun xs : List UInt8 => (xs.map (fun _ => 1)).sum + 1) a + (fun xs : List UInt8 => (xs.map (fun _ => 1)).sum + 1) b ≤ 1048576) : Ev (fun n => tontinelaw02_CrcParts.f n a b) true := by
  simp only [ms_bytes] at hs
  refine Ev.ge (a.length + b.length + 1000) fun n hn => ?_
  unfold tontinelaw02_CrcParts.f
  have hl : (a ++ b).length = a.length + b.length := by simp
  have s1 := f_Sum n (a ++ b) (by omega) (by omega)
  have s2 := f_Sum n a (by omega) (by omega)
  have s3 := f_Sum n b (by omega) (by omega)
  have s4 := f_Add n (add 0#32 a) b (by omega) (by omega)
  have s5 := f_Join n (by omega) (add 0#32 a) (add 0#32 b) b.length (by omega)
  have c1 : capOk 1 a.length := by unfold capOk; omega
  have c2 : capOk 1 (a ++ b).length := by rw [hl]; unfold capOk; omega
  rw [begun02 n (by omega), Option.bind_some, if_neg (by simp)]
  simp only [List.nil_append, if_pos c1, if_pos c2, s1, s2, s3, s4, s5, Option.bind_some, ← add_join, ← add_append, beq_self_eq_true, if_true]
end Go.GL
