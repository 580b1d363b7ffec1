/- The law PackNone, over the plain functions. -/
import Derived.Test.YtcpcdnjpdblhoaaBegun
set_option linter.unusedVariables false
set_option linter.unusedSimpArgs false
namespace Go.GL
open Go

theorem up_none (n : Nat) (l : Int) : pack_Reader_Up_n0.f n l = some 0 := by
  unfold pack_Reader_Up_n0.f
  show (if decide (l < 0) = true then pack_Reader_Up_n0.j0 n 0 true else pack_Reader_Up_n0.j0 n 0 _) = _
  have h : ∀ b, pack_Reader_Up_n0.j0 n 0 b = some 0 := fun b => by cases b <;> rfl
  rw [h, h, ite_self]

theorem tontinelaw03_PackNone_law (x : Int) (s : List UInt8) (_ : (Lit.int .u64 x).wf = true) (_ : s.length ≤ reachBytes) : Ev (fun n => tontinelaw03_PackNone.f n x s) true := by
  unfold tontinelaw03_PackNone.f
  refine Ev.bind begun03 (Ev.of fun n => ?_)
  have hb : pack_Reader_Bool_n0.f n = some false := by unfold pack_Reader_Bool_n0.f; rw [up_none]; rfl
  have ht : pack_Reader_Text_n0.f n (wi64 (shR .u64 x 1)) = some [] := by unfold pack_Reader_Text_n0.f; rw [up_none]; rfl
  have hi : pack_Reader_Int_n0.f n = some 0 := rfl
  simp only [up_none, hb, ht, hi]
  rfl
end Go.GL
