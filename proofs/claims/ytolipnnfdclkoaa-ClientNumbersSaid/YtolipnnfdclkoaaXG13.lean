import Derived.Test.YtolipnnfdclkoaaXG12
/-! Walks by symbolic states: arrays of numbers, conversions taken first. -/
set_option linter.unusedVariables false
set_option linter.unusedSimpArgs false
namespace Go.GL
open Go
section
variable {P : Program} {t : TypeId} {k : IntKind} {L L' : List Int} {n : Nat} {iv : Int}
end
def Opn.slice {α : Type} (K : Kd α) (xs : List α) : Opn (Kd.slice K) xs where
  ε := Option Addr × Nat
  cells := fun e => [.slice e.1 xs.length e.2]
  newB := fun e => [Rd 0 K e.1 e.2 xs]
  ok := fun w S cs ⟨A, c, h, hr⟩ => ⟨⟨A, c⟩, h, fun f hf => by
    simp only [List.mem_cons, List.mem_nil_iff, or_false] at hf
    subst hf; exact hr⟩
section
variable {ρ : Type} {C : Cx ρ} {env env' : Env} {H H' H0 : List Bx} {B B' B0 : List Fct} {k : List Item} {o : Option ρ} {ops : Array Oper} {rest : List Nat} {i : Nat} {G : Env → List Bx → List Fct → Option ρ → Prop} {fin : List Nat}
theorem anyF_mono {P : Program} {Q : Exit → Act → World → Prop} {S S' : World → Prop} {fi : Nat → Bool} (hS : ∀ w, S' w → S w) : ∀ (fuel : Nat) (listed : Array Bool) (a : Act) (w : World), anyF P ops Q S' fi fuel listed a w → anyF P ops Q S fi fuel listed a w
  | 0, _, _, _, h => h
  | fuel + 1, _, _, _, h => ⟨h.1, fun i hi => wpOp_mono (fun a' w' h' => ⟨fun hf => hS _ (h'.1 hf), anyF_mono hS fuel _ a' w' h'.2⟩) (h.2 i hi)⟩
theorem GoF.more {fuel : Nat} {listed : List Bool} (H0' : List Bx) (B0' : List Fct) {hk bk : List Nat} (hH : picks H0' hk = some H0) (hB : picks B0' bk = some B0) (g : GoF C ops fin H0' B0' k fuel listed env H B o) :
    GoF C ops fin H0 B0 k fuel listed env H B o :=
  fun r hr l w S hs => anyF_mono (fun w ⟨S, h1, h2⟩ => ⟨S, fun x hx => h1 x (picks_mem hH x hx), fun x hx => h2 x (picks_mem hB x hx)⟩) _ _ _ _ (g r hr l w S hs)
end
end Go.GL
