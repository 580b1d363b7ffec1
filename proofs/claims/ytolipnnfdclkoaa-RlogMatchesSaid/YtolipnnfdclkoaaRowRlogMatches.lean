/- Proves the given statement Rows.RlogMatchesSaid: the law answers true and its arguments read as before. No condition beyond the given row's own. -/
import Derived.Test.YtolipnnfdclkoaaRows
import Derived.ProofKit
import Derived.SizedLaws
import Derived.OpenShut
import Derived.Test.YtolipnnfdclkoaaLawRlogMatches
import Derived.Test.YtolipnnfdclkoaaWalkRlogMatches
import Derived.Test.YtolipnnfdclkoaaG13
set_option linter.unusedVariables false
set_option linter.unusedSimpArgs false
set_option maxRecDepth 100000
namespace Go.Proofs.Ytolipnnfdclkoaa
open Go.ChangeShapes Go.WideShapes Go.ChangeAt Go.RowKit Go.GL

theorem own : ownKnob Try.prog.godebug = none := by kernel_rfl
theorem laidOut : laidOutB Try.prog = true := by kernel_rfl

abbrev kA_46 : Kd (List Int) := Kd.arr .i64 3
theorem rd_46 : Rdr Try.prog 46 kA_46 (fun l => l.length = 3 ∧ ∀ x ∈ l, (fun n => (Lit.int .i64 n).wf = true) x) (fun l => l.length) :=
  ⟨by kernel_rfl, fun {H enc w fuel cs x} h hw => by
    obtain ⟨xs, n, _, rfl, hl, hlen, hf⟩ := DataW.trod_array Try.underlying46 h
    rw [show Try.prog.cellsOf 46 = 3 by kernel_rfl] at hl
    match xs, hlen with
    | [y0, y1, y2], _ =>
      have h0 := hf 0 (by omega)
      rw [show Try.prog.cellsOf 3 = 1 by kernel_rfl] at h0
      have h0 : DataW.trod enc Try.prog w 0 (fun _ => true) true n 3 ((cs.drop 0).take 1) = some y0 := h0
      have h1 := hf 1 (by omega)
      rw [show Try.prog.cellsOf 3 = 1 by kernel_rfl] at h1
      have h1 : DataW.trod enc Try.prog w 0 (fun _ => true) true n 3 ((cs.drop 1).take 1) = some y1 := h1
      have h2 := hf 2 (by omega)
      rw [show Try.prog.cellsOf 3 = 1 by kernel_rfl] at h2
      have h2 : DataW.trod enc Try.prog w 0 (fun _ => true) true n 3 ((cs.drop 2).take 1) = some y2 := h2
      have hw2 : (DataW.weightsAll Try.prog 3 [y0.1, y1.1, y2.1]).all (· ≤ reachBytes) = true := by
        have := hw
        simp only [DataW.weights, Try.underlying46] at this
        exact this
      simp only [DataW.weightsAll, List.all_append, Bool.and_eq_true] at hw2
      obtain ⟨w0, w1, w2, _⟩ := hw2
      obtain ⟨a0, r0, f0, m0⟩ := (Rdr.int Try.underlying3 (by kernel_rfl)).op h0 w0
      obtain ⟨a1, r1, f1, m1⟩ := (Rdr.int Try.underlying3 (by kernel_rfl)).op h1 w1
      obtain ⟨a2, r2, f2, m2⟩ := (Rdr.int Try.underlying3 (by kernel_rfl)).op h2 w2
      have z : cs = (cs.drop 0).take 1 ++ ((cs.drop 1).take 1 ++ ((cs.drop 2).take 1 ++ ([]))) := by
        have e0 := chunk cs 0 1 1 rfl
        have e1 := chunk cs 1 1 2 rfl
        have e2 := chunk cs 2 1 3 rfl
        have e : cs.drop 3 = [] := List.drop_of_length_le (by omega)
        rw [← e, ← e2, ← e1, ← e0]; rfl
      have r0 : (cs.drop 0).take 1 = [.int .i64 a0] := r0
      have r1 : (cs.drop 1).take 1 = [.int .i64 a1] := r1
      have r2 : (cs.drop 2).take 1 = [.int .i64 a2] := r2
      refine ⟨[a0, a1, a2], ?_, ⟨rfl, fun x hx => ?_⟩, fun b hb => ?_⟩
      · exact z.trans (by rw [r0, r1, r2]; rfl)
      · simp only [List.mem_cons, List.mem_nil_iff, or_false] at hx
        rcases hx with rfl | rfl | rfl
        · exact f0
        · exact f1
        · exact f2
      · have p := hb.agg [y0.1, y1.1, y2.1]
        simp only [List.map_cons, List.map_nil, List.sum_cons, List.sum_nil] at p ⊢
        have p0 := m0 b hb
        have p1 := m1 b hb
        have p2 := m2 b hb
        simp only [List.length_cons, List.length_nil]
        omega⟩

theorem rlogMatches_contract (H : Type) (enc : TypeId × Value → H) (W : World) (base : Nat) (args : Array Value) (ds gs : List (DataW H)) (before : List MemPlace)
    (hval : ∀ (j : Nat) t v, Try.f4.params[j]? = some t → args[j]? = some v → Value.okWide Try.prog W .any base t v)
    (hW : DataW.Whole enc Try.prog Try.f4.params.toList Rows.rlogMatchesSpec.vars false W args.toList ds gs before)
    (hsz0 : (DataW.weightsEach Try.prog (Try.f4.params.toList ++ Rows.rlogMatchesSpec.plain.varTypes Try.prog) (ds ++ gs)).all (· ≤ reachBytes) = true) :
    Calls Try.prog 4 args W fun e W' => ∃ v, e = .returned v ∧ Rows.rlogMatchesSpec.post enc Try.prog Try.f4 false true false false W args v W' := by
  have hW' := hW
  obtain ⟨p, q, hA0, hV, rfl, hfz, hnd⟩ := hW
  have hA : DataW.TrodAll enc Try.prog W 0 (fun _ => true) true Try.f4.params.toList args.toList ds p := hA0
  rw [Try.params4] at hA hval
  obtain ⟨v0, vs0, d0, ds0, p0, q0, hargs0, rfl, rfl, t0, r0⟩ := trodAll_cons hA
  obtain ⟨rfl, rfl, rfl⟩ := trodAll_nil r0
  obtain rfl : args = #[v0] := by cases args; simp_all
  obtain ⟨rfl, rfl⟩ := trodVars_none hV
  have hsz : (DataW.weightsEach Try.prog [44] [d0]).all (· ≤ reachBytes) = true := hsz0
  simp only [DataW.weightsEach, List.all_append, Bool.and_eq_true] at hsz
  obtain ⟨z0, _⟩ := hsz
  have k0 := t0
  obtain ⟨A0, len0, cap0, rfl⟩ := okWide_slice Try.underlying44 (hval 0 44 v0 rfl rfl)
  obtain ⟨a0, ⟨A', c', e0, i0⟩, f0, m0⟩ := (Rdr.slice Try.underlying44 (by kernel_rfl) (by kernel_rfl) rd_46).val t0 z0
  simp only [Value.cells, List.cons.injEq, Value.slice.injEq, and_true] at e0
  obtain ⟨rfl, rfl, rfl⟩ := e0
  obtain ⟨N, hN⟩ := tontinelaw07_RlogMatches_law a0 f0
  have hN := hN N (Nat.le_refl _)
  refine (tontinelaw07_RlogMatches_ok N a0 A0 cap0 true hN W (allRead W) (allRead_good W) (fun t ht b hb => absurd hb.1 (by omega)) (fun x hx => by cases hx) ?_).mono fun e W' ⟨_, S', he, hext, _, _⟩ => ?_
  · intro f hf
    simp only [List.mem_cons, List.mem_nil_iff, or_false] at hf
    rcases hf with rfl
    · exact i0.st (fun b hb _ => ⟨rfl, rfl, hb⟩) (fun b hb _ => ⟨rfl, rfl, hb⟩)
  subst he
  have hb := below_of_ext hext
  have hlt : ∀ y ∈ (p0 ++ []) ++ [], y.block < W.heap.size := fun y hy => hW'.lt y hy
  refine ⟨_, rfl, GL.post_of_below (pa := p0 ++ []) (pv := []) hW' (fun _ _ _ => trodAll_cons_mk (shut_bool Try.underlying4 true) trodAll_mk0) (fun sp hsp => ?_) (fun _ _ => rfl) rfl hb (ok_one (by kernel_rfl) rfl (okWide_bool_mk Try.underlying4 _))⟩
  exact trodAll_cons_mk (WideElems.Trod_stays laidOut (by kernel_rfl) (of_decide_eq_true (by kernel_rfl)) k0 (fun y hy => hb.same (hlt y (by simp [hy]))) (fun y hy => hsp y (by simp [hy]))) (trodAll_mk0)

set_option maxRecDepth 100000 in
theorem rlogMatches_lifted (os : Os) (started : os.Started) (H : Type) (enc : TypeId × Value → H) :
    ReturnsInHanded {} Try.checked os 4 .any (Rows.rlogMatchesSpec.pre6 enc Try.prog Try.f4 Rows.rlogMatchesRow.domain false) (Rows.rlogMatchesSpec.post enc Try.prog Try.f4 false true false false) := by
  refine returnsInHanded_of_change_sized (C := Try.checked) own started (by kernel_rfl) Try.func4
    (ChangeSpec.witness6 (enc := enc) (C := Try.checked) false ⟨#[], #[.slice none 0 0], []⟩ 8 (by kernel_rfl) (by kernel_rfl) (by kernel_rfl) (by kernel_rfl)) ?_
  intro W base args ds gs before hval hW _ hsz _
  exact rlogMatches_contract H enc W base args ds gs before hval hW hsz

theorem rlogMatches_holds : Rows.RlogMatchesSaid :=
  OpenClaim.holds_of_wide 4 Try.f4 rfl rfl rfl rfl rfl rfl rfl ⟨rfl, rfl, rfl, rfl, rfl⟩ rfl rfl rfl rfl rfl (by kernel_rfl) Try.func4 (by kernel_rfl)
    (of_decide_eq_true (by kernel_rfl)) (by unfold Func.isWrapper; first | (rw [if_pos (by decide +kernel)]; kernel_rfl) | (rw [if_neg (by decide +kernel)]; exact ⟨rfl, rfl⟩))
    (fun os started H enc _ => rlogMatches_lifted os started H enc)
end Go.Proofs.Ytolipnnfdclkoaa

