/- What both folders' laws begin with, over the plain functions; integers that are not cut. -/
import Derived.Test.YtolipnnfdclkoaaKindsT1
import Derived.Test.YtolipnnfdclkoaaG13
set_option linter.unusedVariables false
set_option linter.unusedSimpArgs false
namespace Go.GL
open Go

theorem wi64_id {x : Int} (h1 : -9223372036854775808 ≤ x) (h2 : x ≤ 9223372036854775807) : wi64 x = x := by
  simp only [wi64, IntKind.wrap, IntKind.bits, IntKind.signed]
  simp
  omega

theorem wu64_id {x : Int} (h1 : 0 ≤ x) (h2 : x ≤ 18446744073709551615) : wu64 x = x := by
  simp only [wu64, IntKind.wrap, IntKind.bits, IntKind.signed]
  simp
  omega

theorem getD_drop {α : Type} [Inhabited α] {l : List α} {i : Nat} (h : i < l.length) : l.drop i = rdL l (i : Int) :: l.drop (i + 1) := by
  rw [List.drop_eq_getElem_cons h]
  congr 1
  simp [rdL, h]
theorem rdL_mem {α : Type} [Inhabited α] {l : List α} {i : Nat} (h : i < l.length) : rdL l (i : Int) ∈ l := by
  simp [rdL, h]
theorem begun07 : ∀ n, 40 ≤ n → tontinelaw07_begun.f n = some true := by
  intro n hn
  obtain ⟨m, rfl⟩ : ∃ m, n = m + 40 := ⟨n - 40, by omega⟩
  rfl
end Go.GL
