/- Numbers laid and read, over the plain functions: what pack and its reference compute. -/
import Derived.Test.YtolipnnfdclkoaaXBegun
set_option linter.unusedVariables false
set_option linter.unusedSimpArgs false
namespace Go.GL
open Go
def be : Nat → Nat → List UInt8
  | 0, _ => []
  | m + 1, x => UInt8.ofNat (x / 256 ^ m % 256) :: be m x
def blen : Nat → Nat → Nat
  | 0, _ => 0
  | j + 1, x => if x = 0 then 0 else blen j (x / 256) + 1
def enc (x : Nat) : List UInt8 := UInt8.ofNat (blen 8 x) :: be (blen 8 x) x
end Go.GL
