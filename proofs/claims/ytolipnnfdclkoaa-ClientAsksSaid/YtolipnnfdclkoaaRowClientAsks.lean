/- Proves the given statement Rows.ClientAsksSaid: the law answers true and its arguments read as before. No condition beyond the given row's own. -/
import Derived.Test.YtolipnnfdclkoaaRows
import Derived.ProofKit
import Derived.SizedLaws
import Derived.OpenShut
import Derived.Test.YtolipnnfdclkoaaLawClientAsks
import Derived.Test.YtolipnnfdclkoaaWalkClientAsks
import Derived.Test.YtolipnnfdclkoaaG13
set_option linter.unusedVariables false
set_option linter.unusedSimpArgs false
set_option maxRecDepth 100000
namespace Go.Proofs.Ytolipnnfdclkoaa
open Go.ChangeShapes Go.WideShapes Go.ChangeAt Go.RowKit Go.GL

theorem own : ownKnob Try.prog.godebug = none := by kernel_rfl
theorem laidOut : laidOutB Try.prog = true := by kernel_rfl



theorem clientAsks_contract (H : Type) (enc : TypeId × Value → H) (W : World) (base : Nat) (args : Array Value) (ds gs : List (DataW H)) (before : List MemPlace)
    (hval : ∀ (j : Nat) t v, Try.f8.params[j]? = some t → args[j]? = some v → Value.okWide Try.prog W .any base t v)
    (hW : DataW.Whole enc Try.prog Try.f8.params.toList Rows.clientAsksSpec.vars false W args.toList ds gs before)
    (hsz0 : (DataW.weightsEach Try.prog (Try.f8.params.toList ++ Rows.clientAsksSpec.plain.varTypes Try.prog) (ds ++ gs)).all (· ≤ reachBytes) = true) :
    Calls Try.prog 8 args W fun e W' => ∃ v, e = .returned v ∧ Rows.clientAsksSpec.post enc Try.prog Try.f8 false true false false W args v W' := by
  have hW' := hW
  obtain ⟨p, q, hA0, hV, rfl, hfz, hnd⟩ := hW
  have hA : DataW.TrodAll enc Try.prog W 0 (fun _ => true) true Try.f8.params.toList args.toList ds p := hA0
  rw [Try.params8] at hA hval
  obtain ⟨v0, vs0, d0, ds0, p0, q0, hargs0, rfl, rfl, t0, r0⟩ := trodAll_cons hA
  obtain ⟨v1, vs1, d1, ds1, p1, q1, rfl, rfl, rfl, t1, r1⟩ := trodAll_cons r0
  obtain ⟨rfl, rfl, rfl⟩ := trodAll_nil r1
  obtain rfl : args = #[v0, v1] := by cases args; simp_all
  obtain ⟨rfl, rfl⟩ := trodVars_none hV
  have hsz : (DataW.weightsEach Try.prog [3, 3] [d0, d1]).all (· ≤ reachBytes) = true := hsz0
  simp only [DataW.weightsEach, List.all_append, Bool.and_eq_true] at hsz
  obtain ⟨z0, z1, _⟩ := hsz
  have k0 := t0
  obtain ⟨n0, rfl⟩ := okWide_int Try.underlying3 (hval 0 3 v0 rfl rfl)
  obtain ⟨a0, e0, f0, m0⟩ := (Rdr.int Try.underlying3 (by kernel_rfl)).val t0 z0
  have e0 : (Value.int .i64 n0).cells.toList = [.int .i64 a0] := e0
  simp only [Value.cells, List.cons.injEq, Value.int.injEq, and_true, true_and] at e0
  have e0 := e0.symm
  subst e0
  have k1 := t1
  obtain ⟨n1, rfl⟩ := okWide_int Try.underlying3 (hval 1 3 v1 rfl rfl)
  obtain ⟨a1, e1, f1, m1⟩ := (Rdr.int Try.underlying3 (by kernel_rfl)).val t1 z1
  have e1 : (Value.int .i64 n1).cells.toList = [.int .i64 a1] := e1
  simp only [Value.cells, List.cons.injEq, Value.int.injEq, and_true, true_and] at e1
  have e1 := e1.symm
  subst e1
  obtain ⟨N, hN⟩ := tontinelaw21_ClientAsks_law a0 a1 f0 f1
  have hN := hN N (Nat.le_refl _)
  refine (tontinelaw21_ClientAsks_ok N a0 a1 true hN W (allRead W) (allRead_good W) (fun t ht b hb => absurd hb.1 (by omega)) (fun x hx => by cases hx) ?_).mono fun e W' ⟨_, S', he, hext, _, _⟩ => ?_
  · intro f hf
    cases hf
  subst he
  have hb := below_of_ext hext
  have hlt : ∀ y ∈ (p0 ++ (p1 ++ [])) ++ [], y.block < W.heap.size := fun y hy => hW'.lt y hy
  refine ⟨_, rfl, GL.post_of_below (pa := p0 ++ (p1 ++ [])) (pv := []) hW' (fun _ _ _ => trodAll_cons_mk (shut_bool Try.underlying4 true) trodAll_mk0) (fun sp hsp => ?_) (fun _ _ => rfl) rfl hb (ok_one (by kernel_rfl) rfl (okWide_bool_mk Try.underlying4 _))⟩
  exact trodAll_cons_mk (WideElems.Trod_stays laidOut (by kernel_rfl) (of_decide_eq_true (by kernel_rfl)) k0 (fun y hy => hb.same (hlt y (by simp [hy]))) (fun y hy => hsp y (by simp [hy]))) (trodAll_cons_mk (WideElems.Trod_stays laidOut (by kernel_rfl) (of_decide_eq_true (by kernel_rfl)) k1 (fun y hy => hb.same (hlt y (by simp [hy]))) (fun y hy => hsp y (by simp [hy]))) (trodAll_mk0))

set_option maxRecDepth 100000 in
theorem clientAsks_lifted (os : Os) (started : os.Started) (H : Type) (enc : TypeId × Value → H) :
    ReturnsInHanded {} Try.checked os 8 .any (Rows.clientAsksSpec.pre6 enc Try.prog Try.f8 Rows.clientAsksRow.domain false) (Rows.clientAsksSpec.post enc Try.prog Try.f8 false true false false) := by
  refine returnsInHanded_of_change_sized (C := Try.checked) own started (by kernel_rfl) Try.func8
    (ChangeSpec.witness6 (enc := enc) (C := Try.checked) false ⟨#[], #[.int .i64 0, .int .i64 0], []⟩ 8 (by kernel_rfl) (by kernel_rfl) (by kernel_rfl) (by kernel_rfl)) ?_
  intro W base args ds gs before hval hW _ hsz _
  exact clientAsks_contract H enc W base args ds gs before hval hW hsz

theorem clientAsks_holds : Rows.ClientAsksSaid :=
  OpenClaim.holds_of_wide 8 Try.f8 rfl rfl rfl rfl rfl rfl rfl ⟨rfl, rfl, rfl, rfl, rfl⟩ rfl rfl rfl rfl rfl (by kernel_rfl) Try.func8 (by kernel_rfl)
    (of_decide_eq_true (by kernel_rfl)) (by unfold Func.isWrapper; first | (rw [if_pos (by decide +kernel)]; kernel_rfl) | (rw [if_neg (by decide +kernel)]; exact ⟨rfl, rfl⟩))
    (fun os started H enc _ => clientAsks_lifted os started H enc)
end Go.Proofs.Ytolipnnfdclkoaa

