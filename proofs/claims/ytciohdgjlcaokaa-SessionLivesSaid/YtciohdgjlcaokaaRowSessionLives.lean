/- Proves the given statement Rows.SessionLivesSaid: the law answers true and its arguments read as before. No condition beyond the given row's own. -/
import Derived.Test.YtciohdgjlcaokaaRows
import Derived.ProofKit
import Derived.SizedLaws
import Derived.OpenShut
import Derived.Test.YtciohdgjlcaokaaLawSessionLives
import Derived.Test.YtciohdgjlcaokaaWalkSessionLives
import Derived.Test.YtciohdgjlcaokaaG13
set_option linter.unusedVariables false
set_option linter.unusedSimpArgs false
set_option maxRecDepth 100000
namespace Go.Proofs.Ytciohdgjlcaokaa
open Go.ChangeShapes Go.WideShapes Go.ChangeAt Go.RowKit Go.GL

theorem own : ownKnob Try.prog.godebug = none := by kernel_rfl
theorem laidOut : laidOutB Try.prog = true := by kernel_rfl



theorem sessionLives_contract (H : Type) (enc : TypeId × Value → H) (W : World) (base : Nat) (args : Array Value) (ds gs : List (DataW H)) (before : List MemPlace)
    (hval : ∀ (j : Nat) t v, Try.f5.params[j]? = some t → args[j]? = some v → Value.okWide Try.prog W .any base t v)
    (hW : DataW.Whole enc Try.prog Try.f5.params.toList Rows.sessionLivesSpec.vars false W args.toList ds gs before)
    (hsz0 : (DataW.weightsEach Try.prog (Try.f5.params.toList ++ Rows.sessionLivesSpec.plain.varTypes Try.prog) (ds ++ gs)).all (· ≤ reachBytes) = true) :
    Calls Try.prog 5 args W fun e W' => ∃ v, e = .returned v ∧ Rows.sessionLivesSpec.post enc Try.prog Try.f5 false true false false W args v W' := by
  have hW' := hW
  obtain ⟨p, q, hA0, hV, rfl, hfz, hnd⟩ := hW
  have hA : DataW.TrodAll enc Try.prog W 0 (fun _ => true) true Try.f5.params.toList args.toList ds p := hA0
  rw [Try.params5] at hA hval
  obtain ⟨v0, vs0, d0, ds0, p0, q0, hargs0, rfl, rfl, t0, r0⟩ := trodAll_cons hA
  obtain ⟨rfl, rfl, rfl⟩ := trodAll_nil r0
  obtain rfl : args = #[v0] := by cases args; simp_all
  obtain ⟨rfl, rfl⟩ := trodVars_none hV
  have hsz : (DataW.weightsEach Try.prog [51] [d0]).all (· ≤ reachBytes) = true := hsz0
  simp only [DataW.weightsEach, List.all_append, Bool.and_eq_true] at hsz
  obtain ⟨z0, _⟩ := hsz
  have k0 := t0
  obtain ⟨A0, len0, cap0, rfl⟩ := okWide_slice Try.underlying51 (hval 0 51 v0 rfl rfl)
  obtain ⟨a0, ⟨A', c', e0, i0⟩, f0, m0⟩ := (Rdr.slice Try.underlying51 (by kernel_rfl) (by kernel_rfl) (Rdr.int Try.underlying3 (by kernel_rfl))).val t0 z0
  simp only [Value.cells, List.cons.injEq, Value.slice.injEq, and_true] at e0
  obtain ⟨rfl, rfl, rfl⟩ := e0
  obtain ⟨N, hN⟩ := tontinelaw15_SessionLives_law a0 f0
  have hN := hN N (Nat.le_refl _)
  refine (tontinelaw15_SessionLives_ok N a0 A0 cap0 true hN W (allRead W) (allRead_good W) (fun t ht b hb => absurd hb.1 (by omega)) (fun x hx => by cases hx) ?_).mono fun e W' ⟨_, S', he, hext, _, _⟩ => ?_
  · intro f hf
    simp only [List.mem_cons, List.mem_nil_iff, or_false] at hf
    rcases hf with rfl
    · exact i0.st (fun b hb _ => ⟨rfl, rfl, hb⟩) (fun b hb _ => ⟨rfl, rfl, hb⟩)
  subst he
  have hb := below_of_ext hext
  have hlt : ∀ y ∈ (p0 ++ []) ++ [], y.block < W.heap.size := fun y hy => hW'.lt y hy
  refine ⟨_, rfl, GL.post_of_below (pa := p0 ++ []) (pv := []) hW' (fun _ _ _ => trodAll_cons_mk (shut_bool Try.underlying4 true) trodAll_mk0) (fun sp hsp => ?_) (fun _ _ => rfl) rfl hb (ok_one (by kernel_rfl) rfl (okWide_bool_mk Try.underlying4 _))⟩
  exact trodAll_cons_mk (WideElems.Trod_stays laidOut (by kernel_rfl) (of_decide_eq_true (by kernel_rfl)) k0 (fun y hy => hb.same (hlt y (by simp [hy]))) (fun y hy => hsp y (by simp [hy]))) (trodAll_mk0)

set_option maxRecDepth 100000 in
theorem sessionLives_lifted (os : Os) (started : os.Started) (H : Type) (enc : TypeId × Value → H) :
    ReturnsInHanded {} Try.checked os 5 .any (Rows.sessionLivesSpec.pre6 enc Try.prog Try.f5 Rows.sessionLivesRow.domain false) (Rows.sessionLivesSpec.post enc Try.prog Try.f5 false true false false) := by
  refine returnsInHanded_of_change_sized (C := Try.checked) own started (by kernel_rfl) Try.func5
    (ChangeSpec.witness6 (enc := enc) (C := Try.checked) false ⟨#[], #[.slice none 0 0], []⟩ 8 (by kernel_rfl) (by kernel_rfl) (by kernel_rfl) (by kernel_rfl)) ?_
  intro W base args ds gs before hval hW _ hsz _
  exact sessionLives_contract H enc W base args ds gs before hval hW hsz

theorem sessionLives_holds : Rows.SessionLivesSaid :=
  OpenClaim.holds_of_wide 5 Try.f5 rfl rfl rfl rfl rfl rfl rfl ⟨rfl, rfl, rfl, rfl, rfl⟩ rfl rfl rfl rfl rfl (by kernel_rfl) Try.func5 (by kernel_rfl)
    (of_decide_eq_true (by kernel_rfl)) (by unfold Func.isWrapper; first | (rw [if_pos (by decide +kernel)]; kernel_rfl) | (rw [if_neg (by decide +kernel)]; exact ⟨rfl, rfl⟩))
    (fun os started H enc _ => sessionLives_lifted os started H enc)
end Go.Proofs.Ytciohdgjlcaokaa

