/- Proves the given statement Rows.SagaBytesUptoSaid: the law answers true and its arguments read as before. No condition beyond the given row's own. -/
import Derived.Test.YtfeddlhkiomdaaaRows
import Derived.ProofKit
import Derived.JoinedCond
import Derived.Deep.CondSized
import Derived.SizedLaws
import Derived.OpenShut
import Derived.Test.YtfeddlhkiomdaaaLawSagaBytes
import Derived.Test.YtfeddlhkiomdaaaWalkSagaBytes
import Derived.Test.YtfeddlhkiomdaaaG13
set_option linter.unusedVariables false
set_option linter.unusedSimpArgs false
set_option maxRecDepth 100000
namespace Go.Proofs.Ytfeddlhkiomdaaa
open Go.ChangeShapes Go.WideShapes Go.ChangeAt Go.RowKit Go.GL

theorem own : ownKnob Try.prog.godebug = none := by kernel_rfl
theorem laidOut : laidOutB Try.prog = true := by kernel_rfl

theorem bulk_one_le {H : Type} (d : DataW H) : 1 ≤ Rows.uptoBulk d := by
  cases d with
  | lit l => cases l <;> simp [Rows.uptoBulk]
  | _ => simp [Rows.uptoBulk]
theorem bulk_all {H : Type} : ∀ l : List (DataW H), (l.map Rows.uptoBulk).sum = Rows.uptoBulkAll l
  | [] => rfl
  | d :: r => by simp only [List.map_cons, List.sum_cons, Rows.uptoBulkAll, bulk_all r]
theorem bulkOk (H : Type) : BulkOk (H := H) Rows.uptoBulk :=
  ⟨bulk_one_le, fun l => by simp [Rows.uptoBulk], fun es sp => by rw [bulk_all]; simp only [Rows.uptoBulk]; omega, fun es => by rw [bulk_all]; simp only [Rows.uptoBulk]; omega⟩
theorem rd_50 : Rdr Try.prog 50 kT_api_Step wf_T_api_Step ms_T_api_Step :=
  ⟨by kernel_rfl, fun {H enc w fuel cs x} h hw => by
    obtain ⟨xs, n, _, rfl, hl, hlen, hf⟩ := DataW.trod_struct Try.underlying50 h
    rw [show Try.prog.cellsOf 50 = 3 by kernel_rfl] at hl
    match xs, hlen with
    | [y0, y1, y2], _ =>
      have h0 : DataW.trod enc Try.prog w 0 (fun _ => true) true n 3 ((cs.drop 0).take (Try.prog.cellsOf 3)) = some y0 := hf 0 _ rfl
      rw [show Try.prog.cellsOf 3 = 1 by kernel_rfl] at h0
      have h1 : DataW.trod enc Try.prog w 0 (fun _ => true) true n 9 ((cs.drop 1).take (Try.prog.cellsOf 9)) = some y1 := hf 1 _ rfl
      rw [show Try.prog.cellsOf 9 = 1 by kernel_rfl] at h1
      have h2 : DataW.trod enc Try.prog w 0 (fun _ => true) true n 3 ((cs.drop 2).take (Try.prog.cellsOf 3)) = some y2 := hf 2 _ rfl
      rw [show Try.prog.cellsOf 3 = 1 by kernel_rfl] at h2
      have hw2 : (DataW.weightsEach Try.prog [3, 9, 3] [y0.1, y1.1, y2.1]).all (· ≤ reachBytes) = true := by
        have := hw
        simp only [DataW.weights, Try.underlying50] at this
        exact this
      simp only [DataW.weightsEach, List.all_append, Bool.and_eq_true] at hw2
      obtain ⟨w0, w1, w2, _⟩ := hw2
      obtain ⟨a0, r0, f0, m0⟩ := (Rdr.int Try.underlying3 (by kernel_rfl)).op h0 w0
      obtain ⟨a1, r1, f1, m1⟩ := (Rdr.str Try.underlying9 (by kernel_rfl)).op h1 w1
      obtain ⟨a2, r2, f2, m2⟩ := (Rdr.int Try.underlying3 (by kernel_rfl)).op h2 w2
      have z : cs = (cs.drop 0).take 1 ++ ((cs.drop 1).take 1 ++ ((cs.drop 2).take 1 ++ ([]))) := by
        have e0 := chunk cs 0 1 1 rfl
        have e1 := chunk cs 1 1 2 rfl
        have e2 := chunk cs 2 1 3 rfl
        have e : cs.drop 3 = [] := List.drop_of_length_le (by omega)
        rw [← e, ← e2, ← e1, ← e0]; rfl
      have r0 : (cs.drop 0).take 1 = [.int .i64 a0] := r0
      have r1 : (cs.drop 1).take 1 = [.string (bs a1)] := r1
      have r2 : (cs.drop 2).take 1 = [.int .i64 a2] := r2
      refine ⟨⟨a0, a1, a2⟩, ?_, ⟨f0, f1, f2⟩, fun b hb => ?_⟩
      · exact z.trans (by rw [r0, r1, r2]; rfl)
      · have p := hb.agg [y0.1, y1.1, y2.1]
        simp only [List.map_cons, List.map_nil, List.sum_cons, List.sum_nil] at p ⊢
        have p0 := m0 b hb
        have p1 := m1 b hb
        have p2 := m2 b hb
        simp only [ms_T_api_Step]
        omega⟩
theorem rd_34 : Rdr Try.prog 34 kT_api_Saga wf_T_api_Saga ms_T_api_Saga :=
  ⟨by kernel_rfl, fun {H enc w fuel cs x} h hw => by
    obtain ⟨xs, n, _, rfl, hl, hlen, hf⟩ := DataW.trod_struct Try.underlying34 h
    rw [show Try.prog.cellsOf 34 = 4 by kernel_rfl] at hl
    match xs, hlen with
    | [y0, y1, y2, y3], _ =>
      have h0 : DataW.trod enc Try.prog w 0 (fun _ => true) true n 23 ((cs.drop 0).take (Try.prog.cellsOf 23)) = some y0 := hf 0 _ rfl
      rw [show Try.prog.cellsOf 23 = 1 by kernel_rfl] at h0
      have h1 : DataW.trod enc Try.prog w 0 (fun _ => true) true n 3 ((cs.drop 1).take (Try.prog.cellsOf 3)) = some y1 := hf 1 _ rfl
      rw [show Try.prog.cellsOf 3 = 1 by kernel_rfl] at h1
      have h2 : DataW.trod enc Try.prog w 0 (fun _ => true) true n 3 ((cs.drop 2).take (Try.prog.cellsOf 3)) = some y2 := hf 2 _ rfl
      rw [show Try.prog.cellsOf 3 = 1 by kernel_rfl] at h2
      have h3 : DataW.trod enc Try.prog w 0 (fun _ => true) true n 3 ((cs.drop 3).take (Try.prog.cellsOf 3)) = some y3 := hf 3 _ rfl
      rw [show Try.prog.cellsOf 3 = 1 by kernel_rfl] at h3
      have hw2 : (DataW.weightsEach Try.prog [23, 3, 3, 3] [y0.1, y1.1, y2.1, y3.1]).all (· ≤ reachBytes) = true := by
        have := hw
        simp only [DataW.weights, Try.underlying34] at this
        exact this
      simp only [DataW.weightsEach, List.all_append, Bool.and_eq_true] at hw2
      obtain ⟨w0, w1, w2, w3, _⟩ := hw2
      obtain ⟨a0, r0, f0, m0⟩ := (Rdr.slice Try.underlying23 (by kernel_rfl) (by kernel_rfl) rd_50).op h0 w0
      obtain ⟨a1, r1, f1, m1⟩ := (Rdr.int Try.underlying3 (by kernel_rfl)).op h1 w1
      obtain ⟨a2, r2, f2, m2⟩ := (Rdr.int Try.underlying3 (by kernel_rfl)).op h2 w2
      obtain ⟨a3, r3, f3, m3⟩ := (Rdr.int Try.underlying3 (by kernel_rfl)).op h3 w3
      have z : cs = (cs.drop 0).take 1 ++ ((cs.drop 1).take 1 ++ ((cs.drop 2).take 1 ++ ((cs.drop 3).take 1 ++ ([])))) := by
        have e0 := chunk cs 0 1 1 rfl
        have e1 := chunk cs 1 1 2 rfl
        have e2 := chunk cs 2 1 3 rfl
        have e3 := chunk cs 3 1 4 rfl
        have e : cs.drop 4 = [] := List.drop_of_length_le (by omega)
        rw [← e, ← e3, ← e2, ← e1, ← e0]; rfl
      obtain ⟨A0, c0, r0, q0⟩ := r0
      have r1 : (cs.drop 1).take 1 = [.int .i64 a1] := r1
      have r2 : (cs.drop 2).take 1 = [.int .i64 a2] := r2
      have r3 : (cs.drop 3).take 1 = [.int .i64 a3] := r3
      refine ⟨⟨a0, a1, a2, a3⟩, ?_, ⟨f0, f1, f2, f3⟩, fun b hb => ?_⟩
      · exact ⟨A0, c0, z.trans (by rw [r0, r1, r2, r3]; rfl), q0⟩
      · have p := hb.agg [y0.1, y1.1, y2.1, y3.1]
        simp only [List.map_cons, List.map_nil, List.sum_cons, List.sum_nil] at p ⊢
        have p0 := m0 b hb
        have p1 := m1 b hb
        have p2 := m2 b hb
        have p3 := m3 b hb
        simp only [ms_T_api_Saga]
        omega⟩

theorem sagaBytes_contract (H : Type) (enc : TypeId × Value → H) (W : World) (base : Nat) (args : Array Value) (ds gs : List (DataW H)) (before : List MemPlace)
    (hval : ∀ (j : Nat) t v, Try.f14.params[j]? = some t → args[j]? = some v → Value.okWide Try.prog W .any base t v)
    (hW : DataW.Whole enc Try.prog Try.f14.params.toList Rows.sagaBytesSpec.vars false W args.toList ds gs before)
    (hsz0 : (DataW.weightsEach Try.prog (Try.f14.params.toList ++ Rows.sagaBytesSpec.plain.varTypes Try.prog) (ds ++ gs)).all (· ≤ reachBytes) = true) (hk : Rows.uptoSmall H (ds ++ gs) = true) :
    Calls Try.prog 14 args W fun e W' => ∃ v, e = .returned v ∧ Rows.sagaBytesSpec.post enc Try.prog Try.f14 false true false false W args v W' := by
  have hW' := hW
  obtain ⟨p, q, hA0, hV, rfl, hfz, hnd⟩ := hW
  have hA : DataW.TrodAll enc Try.prog W 0 (fun _ => true) true Try.f14.params.toList args.toList ds p := hA0
  rw [Try.params14] at hA hval
  obtain ⟨v0, vs0, d0, ds0, p0, q0, hargs0, rfl, rfl, t0, r0⟩ := trodAll_cons hA
  obtain ⟨v1, vs1, d1, ds1, p1, q1, rfl, rfl, rfl, t1, r1⟩ := trodAll_cons r0
  obtain ⟨rfl, rfl, rfl⟩ := trodAll_nil r1
  obtain rfl : args = #[v0, v1] := by cases args; simp_all
  obtain ⟨rfl, rfl⟩ := trodVars_none hV
  have hsz : (DataW.weightsEach Try.prog [34, 9] [d0, d1]).all (· ≤ reachBytes) = true := hsz0
  simp only [DataW.weightsEach, List.all_append, Bool.and_eq_true] at hsz
  obtain ⟨z0, z1, _⟩ := hsz
  have k0 := t0
  obtain ⟨⟨cl0⟩, rfl, hn0⟩ := okWide_struct Try.underlying34 (hval 0 34 v0 rfl rfl)
  obtain ⟨a0, ⟨A0_0, cap0_0, e0, i0_0⟩, f0, m0⟩ := rd_34.val t0 z0
  have e0 : cl0 = [.slice A0_0 a0.Steps.length cap0_0, .int .i64 a0.State, .int .i64 a0.Cursor, .int .i64 a0.Failed] := e0
  subst e0
  have k1 := t1
  obtain ⟨n1, rfl⟩ := okWide_string Try.underlying9 (hval 1 9 v1 rfl rfl)
  obtain ⟨a1, e1, f1, m1⟩ := (Rdr.str Try.underlying9 (by kernel_rfl)).val t1 z1
  have e1 : (Value.string n1).cells.toList = [.string (bs a1)] := e1
  simp only [Value.cells, List.cons.injEq, Value.string.injEq, and_true] at e1
  subst e1
  have hB := of_decide_eq_true hk
  simp only [Rows.uptoBulkAll, List.append_nil, List.cons_append, List.nil_append] at hB
  have b0 := m0 _ (bulkOk H)
  have b1 := m1 _ (bulkOk H)
  have hsm : ms_T_api_Saga a0 + (fun l => l.length + 1) a1 ≤ 1048576 := by
    simp only [] at *
    omega
  obtain ⟨N, hN⟩ := tontinelaw14_SagaBytes_law a0 a1 f0 f1 hsm
  have hN := hN N (Nat.le_refl _)
  refine (tontinelaw14_SagaBytes_ok N a0 a1 A0_0 cap0_0 true hN W (allRead W) (allRead_good W) (fun t ht b hb => absurd hb.1 (by omega)) (fun x hx => by cases hx) ?_).mono fun e W' ⟨_, S', he, hext, _, _⟩ => ?_
  · intro f hf
    simp only [List.mem_cons, List.mem_nil_iff, or_false] at hf
    rcases hf with rfl
    · exact i0_0.st (fun b hb _ => ⟨rfl, rfl, hb⟩) (fun b hb _ => ⟨rfl, rfl, hb⟩)
  subst he
  have hb := below_of_ext hext
  have hlt : ∀ y ∈ (p0 ++ (p1 ++ [])) ++ [], y.block < W.heap.size := fun y hy => hW'.lt y hy
  refine ⟨_, rfl, GL.post_of_below (pa := p0 ++ (p1 ++ [])) (pv := []) hW' (fun _ _ _ => trodAll_cons_mk (shut_bool Try.underlying4 true) trodAll_mk0) (fun sp hsp => ?_) (fun _ _ => rfl) rfl hb (ok_one (by kernel_rfl) rfl (okWide_bool_mk Try.underlying4 _))⟩
  exact trodAll_cons_mk (WideElems.Trod_stays laidOut (by kernel_rfl) (of_decide_eq_true (by kernel_rfl)) k0 (fun y hy => hb.same (hlt y (by simp [hy]))) (fun y hy => hsp y (by simp [hy]))) (trodAll_cons_mk (WideElems.Trod_stays laidOut (by kernel_rfl) (of_decide_eq_true (by kernel_rfl)) k1 (fun y hy => hb.same (hlt y (by simp [hy]))) (fun y hy => hsp y (by simp [hy]))) (trodAll_mk0))

set_option maxRecDepth 100000 in
theorem sagaBytes_lifted (os : Os) (started : os.Started) (H : Type) (enc : TypeId × Value → H) (F : Stop.Interp) :
    ReturnsInHanded {} Try.checked os 14 .any ((Rows.OpenSpec.upto Rows.sagaBytesSpec).pre6 enc Try.prog Try.f14 Rows.sagaBytesUptoRow.domain false) (((Rows.OpenSpec.upto Rows.sagaBytesSpec).at F).post enc Try.prog Try.f14 false true false false) := by
  refine returnsInHanded_of_cond_sized (C := Try.checked) (s := Rows.OpenSpec.upto Rows.sagaBytesSpec) (k := Rows.uptoSmall) rfl own started (by kernel_rfl) Try.func14
    (OpenSpec.witness (enc := enc) (C := Try.checked) (s := Rows.OpenSpec.upto Rows.sagaBytesSpec) (k := Rows.uptoSmall) rfl false ⟨#[], #[.agg #[.slice none 0 0, .int .i64 0, .int .i64 0, .int .i64 0], .string ⟨#[]⟩], []⟩ 8 (by kernel_rfl) (by kernel_rfl) (by kernel_rfl)
      (x := ([.agg [.nil, .lit (.int .i64 0), .lit (.int .i64 0), .lit (.int .i64 0)], .lit (.string [])], [], [])) (by kernel_rfl) rfl (by kernel_rfl)) ?_
  intro W base args ds gs before hval hW _ hk hsz _
  exact sagaBytes_contract H enc W base args ds gs before hval hW hsz hk

theorem sagaBytes_holds : Rows.SagaBytesUptoSaid :=
  OpenClaim.holds_of_cond 14 Try.f14 rfl rfl rfl rfl rfl rfl rfl ⟨rfl, rfl, rfl, rfl, rfl⟩ rfl rfl rfl rfl rfl (by kernel_rfl) Try.func14 (by kernel_rfl)
    (of_decide_eq_true (by kernel_rfl)) (by unfold Func.isWrapper; first | (rw [if_pos (by decide +kernel)]; kernel_rfl) | (rw [if_neg (by decide +kernel)]; exact ⟨rfl, rfl⟩))
    (fun os started H enc _ F => sagaBytes_lifted os started H enc F)
end Go.Proofs.Ytfeddlhkiomdaaa

