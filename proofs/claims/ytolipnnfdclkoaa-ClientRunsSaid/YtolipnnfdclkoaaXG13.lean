import Derived.Test.YtolipnnfdclkoaaXG12
/-! Walks by symbolic states: arrays of numbers, conversions taken first. -/
set_option linter.unusedVariables false
set_option linter.unusedSimpArgs false
namespace Go.GL
open Go
section
variable {P : Program} {t : TypeId} {k : IntKind} {L L' : List Int} {n : Nat} {iv : Int}
end
def Opn.slice {α : Type} (K : Kd α) (xs : List α) : Opn (Kd.slice K) xs where
  ε := Option Addr × Nat
  cells := fun e => [.slice e.1 xs.length e.2]
  newB := fun e => [Rd 0 K e.1 e.2 xs]
  ok := fun w S cs ⟨A, c, h, hr⟩ => ⟨⟨A, c⟩, h, fun f hf => by
    simp only [List.mem_cons, List.mem_nil_iff, or_false] at hf
    subst hf; exact hr⟩
section
variable {ρ : Type} {C : Cx ρ} {env env' : Env} {H H' H0 : List Bx} {B B' B0 : List Fct} {k : List Item} {o : Option ρ} {ops : Array Oper} {rest : List Nat} {i : Nat} {G : Env → List Bx → List Fct → Option ρ → Prop} {fin : List Nat}
end
end Go.GL
