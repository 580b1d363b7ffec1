/- Proves the given statement Rows.RlogStaysUptoSaid: the law answers true and its arguments read as before. No condition beyond the given row's own. -/
import Derived.Test.YtolipnnfdclkoaaRows
import Derived.ProofKit
import Derived.JoinedCond
import Derived.Deep.CondSized
import Derived.SizedLaws
import Derived.OpenShut
import Derived.Test.YtolipnnfdclkoaaXLawRlogStays
import Derived.Test.YtolipnnfdclkoaaXWalkRlogStays
import Derived.Test.YtolipnnfdclkoaaXG13
set_option linter.unusedVariables false
set_option linter.unusedSimpArgs false
set_option maxRecDepth 100000
namespace Go.Proofs.Ytolipnnfdclkoaa
open Go.ChangeShapes Go.WideShapes Go.ChangeAt Go.RowKit Go.GL
theorem own : ownKnob Try.prog.godebug = none := by kernel_rfl
theorem laidOut : laidOutB Try.prog = true := by kernel_rfl
theorem bulk_one_le {H : Type} (d : DataW H) : 1 ≤ Rows.uptoBulk d := by
  cases d with
  | lit l => cases l <;> simp [Rows.uptoBulk]
  | _ => simp [Rows.uptoBulk]
theorem bulk_all {H : Type} : ∀ l : List (DataW H), (l.map Rows.uptoBulk).sum = Rows.uptoBulkAll l
  | [] => rfl
  | d :: r => by simp only [List.map_cons, List.sum_cons, Rows.uptoBulkAll, bulk_all r]
theorem bulkOk (H : Type) : BulkOk (H := H) Rows.uptoBulk :=
  ⟨bulk_one_le, fun l => by simp [Rows.uptoBulk], fun es sp => by rw [bulk_all]; simp only [Rows.uptoBulk]; omega, fun es => by rw [bulk_all]; simp only [Rows.uptoBulk]; omega⟩
theorem rd_24 : Rdr Try.prog 24 kT_api_Snapshot wf_T_api_Snapshot ms_T_api_Snapshot :=
  ⟨by kernel_rfl, fun {H enc w fuel cs x} h hw => by
    obtain ⟨xs, n, _, rfl, hl, hlen, hf⟩ := DataW.trod_struct Try.underlying24 h
    rw [show Try.prog.cellsOf 24 = 4 by kernel_rfl] at hl
    match xs, hlen with
    | [y0, y1, y2, y3], _ =>
      have h0 : DataW.trod enc Try.prog w 0 (fun _ => true) true n 22 ((cs.drop 0).take (Try.prog.cellsOf 22)) = some y0 := hf 0 _ rfl
      rw [show Try.prog.cellsOf 22 = 1 by kernel_rfl] at h0
      have h1 : DataW.trod enc Try.prog w 0 (fun _ => true) true n 22 ((cs.drop 1).take (Try.prog.cellsOf 22)) = some y1 := hf 1 _ rfl
      rw [show Try.prog.cellsOf 22 = 1 by kernel_rfl] at h1
      have h2 : DataW.trod enc Try.prog w 0 (fun _ => true) true n 22 ((cs.drop 2).take (Try.prog.cellsOf 22)) = some y2 := hf 2 _ rfl
      rw [show Try.prog.cellsOf 22 = 1 by kernel_rfl] at h2
      have h3 : DataW.trod enc Try.prog w 0 (fun _ => true) true n 9 ((cs.drop 3).take (Try.prog.cellsOf 9)) = some y3 := hf 3 _ rfl
      rw [show Try.prog.cellsOf 9 = 1 by kernel_rfl] at h3
      have hw2 : (DataW.weightsEach Try.prog [22, 22, 22, 9] [y0.1, y1.1, y2.1, y3.1]).all (· ≤ reachBytes) = true := by
        have := hw
        simp only [DataW.weights, Try.underlying24] at this
        exact this
      simp only [DataW.weightsEach, List.all_append, Bool.and_eq_true] at hw2
      obtain ⟨w0, w1, w2, w3, _⟩ := hw2
      obtain ⟨a0, r0, f0, m0⟩ := (Rdr.int Try.underlying22 (by kernel_rfl)).op h0 w0
      obtain ⟨a1, r1, f1, m1⟩ := (Rdr.int Try.underlying22 (by kernel_rfl)).op h1 w1
      obtain ⟨a2, r2, f2, m2⟩ := (Rdr.int Try.underlying22 (by kernel_rfl)).op h2 w2
      obtain ⟨a3, r3, f3, m3⟩ := (Rdr.str Try.underlying9 (by kernel_rfl)).op h3 w3
      have z : cs = (cs.drop 0).take 1 ++ ((cs.drop 1).take 1 ++ ((cs.drop 2).take 1 ++ ((cs.drop 3).take 1 ++ ([])))) := by
        have e0 := chunk cs 0 1 1 rfl
        have e1 := chunk cs 1 1 2 rfl
        have e2 := chunk cs 2 1 3 rfl
        have e3 := chunk cs 3 1 4 rfl
        have e : cs.drop 4 = [] := List.drop_of_length_le (by omega)
        rw [← e, ← e3, ← e2, ← e1, ← e0]; rfl
      have r0 : (cs.drop 0).take 1 = [.int .u64 a0] := r0
      have r1 : (cs.drop 1).take 1 = [.int .u64 a1] := r1
      have r2 : (cs.drop 2).take 1 = [.int .u64 a2] := r2
      have r3 : (cs.drop 3).take 1 = [.string (bs a3)] := r3
      refine ⟨⟨a0, a1, a2, a3⟩, ?_, ⟨f0, f1, f2, f3⟩, fun b hb => ?_⟩
      · exact z.trans (by rw [r0, r1, r2, r3]; rfl)
      · have p := hb.agg [y0.1, y1.1, y2.1, y3.1]
        simp only [List.map_cons, List.map_nil, List.sum_cons, List.sum_nil] at p ⊢
        have p0 := m0 b hb
        have p1 := m1 b hb
        have p2 := m2 b hb
        have p3 := m3 b hb
        simp only [ms_T_api_Snapshot]
        omega⟩
theorem rd_40 : Rdr Try.prog 40 kT_api_Entry wf_T_api_Entry ms_T_api_Entry :=
  ⟨by kernel_rfl, fun {H enc w fuel cs x} h hw => by
    obtain ⟨xs, n, _, rfl, hl, hlen, hf⟩ := DataW.trod_struct Try.underlying40 h
    rw [show Try.prog.cellsOf 40 = 4 by kernel_rfl] at hl
    match xs, hlen with
    | [y0, y1, y2, y3], _ =>
      have h0 : DataW.trod enc Try.prog w 0 (fun _ => true) true n 22 ((cs.drop 0).take (Try.prog.cellsOf 22)) = some y0 := hf 0 _ rfl
      rw [show Try.prog.cellsOf 22 = 1 by kernel_rfl] at h0
      have h1 : DataW.trod enc Try.prog w 0 (fun _ => true) true n 22 ((cs.drop 1).take (Try.prog.cellsOf 22)) = some y1 := hf 1 _ rfl
      rw [show Try.prog.cellsOf 22 = 1 by kernel_rfl] at h1
      have h2 : DataW.trod enc Try.prog w 0 (fun _ => true) true n 3 ((cs.drop 2).take (Try.prog.cellsOf 3)) = some y2 := hf 2 _ rfl
      rw [show Try.prog.cellsOf 3 = 1 by kernel_rfl] at h2
      have h3 : DataW.trod enc Try.prog w 0 (fun _ => true) true n 9 ((cs.drop 3).take (Try.prog.cellsOf 9)) = some y3 := hf 3 _ rfl
      rw [show Try.prog.cellsOf 9 = 1 by kernel_rfl] at h3
      have hw2 : (DataW.weightsEach Try.prog [22, 22, 3, 9] [y0.1, y1.1, y2.1, y3.1]).all (· ≤ reachBytes) = true := by
        have := hw
        simp only [DataW.weights, Try.underlying40] at this
        exact this
      simp only [DataW.weightsEach, List.all_append, Bool.and_eq_true] at hw2
      obtain ⟨w0, w1, w2, w3, _⟩ := hw2
      obtain ⟨a0, r0, f0, m0⟩ := (Rdr.int Try.underlying22 (by kernel_rfl)).op h0 w0
      obtain ⟨a1, r1, f1, m1⟩ := (Rdr.int Try.underlying22 (by kernel_rfl)).op h1 w1
      obtain ⟨a2, r2, f2, m2⟩ := (Rdr.int Try.underlying3 (by kernel_rfl)).op h2 w2
      obtain ⟨a3, r3, f3, m3⟩ := (Rdr.str Try.underlying9 (by kernel_rfl)).op h3 w3
      have z : cs = (cs.drop 0).take 1 ++ ((cs.drop 1).take 1 ++ ((cs.drop 2).take 1 ++ ((cs.drop 3).take 1 ++ ([])))) := by
        have e0 := chunk cs 0 1 1 rfl
        have e1 := chunk cs 1 1 2 rfl
        have e2 := chunk cs 2 1 3 rfl
        have e3 := chunk cs 3 1 4 rfl
        have e : cs.drop 4 = [] := List.drop_of_length_le (by omega)
        rw [← e, ← e3, ← e2, ← e1, ← e0]; rfl
      have r0 : (cs.drop 0).take 1 = [.int .u64 a0] := r0
      have r1 : (cs.drop 1).take 1 = [.int .u64 a1] := r1
      have r2 : (cs.drop 2).take 1 = [.int .i64 a2] := r2
      have r3 : (cs.drop 3).take 1 = [.string (bs a3)] := r3
      refine ⟨⟨a0, a1, a2, a3⟩, ?_, ⟨f0, f1, f2, f3⟩, fun b hb => ?_⟩
      · exact z.trans (by rw [r0, r1, r2, r3]; rfl)
      · have p := hb.agg [y0.1, y1.1, y2.1, y3.1]
        simp only [List.map_cons, List.map_nil, List.sum_cons, List.sum_nil] at p ⊢
        have p0 := m0 b hb
        have p1 := m1 b hb
        have p2 := m2 b hb
        have p3 := m3 b hb
        simp only [ms_T_api_Entry]
        omega⟩
theorem rd_27 : Rdr Try.prog 27 kT_tontinelaw07_Call wf_T_tontinelaw07_Call ms_T_tontinelaw07_Call :=
  ⟨by kernel_rfl, fun {H enc w fuel cs x} h hw => by
    obtain ⟨xs, n, _, rfl, hl, hlen, hf⟩ := DataW.trod_struct Try.underlying27 h
    rw [show Try.prog.cellsOf 27 = 10 by kernel_rfl] at hl
    match xs, hlen with
    | [y0, y1, y2, y3, y4, y5, y6], _ =>
      have h0 : DataW.trod enc Try.prog w 0 (fun _ => true) true n 3 ((cs.drop 0).take (Try.prog.cellsOf 3)) = some y0 := hf 0 _ rfl
      rw [show Try.prog.cellsOf 3 = 1 by kernel_rfl] at h0
      have h1 : DataW.trod enc Try.prog w 0 (fun _ => true) true n 22 ((cs.drop 1).take (Try.prog.cellsOf 22)) = some y1 := hf 1 _ rfl
      rw [show Try.prog.cellsOf 22 = 1 by kernel_rfl] at h1
      have h2 : DataW.trod enc Try.prog w 0 (fun _ => true) true n 22 ((cs.drop 2).take (Try.prog.cellsOf 22)) = some y2 := hf 2 _ rfl
      rw [show Try.prog.cellsOf 22 = 1 by kernel_rfl] at h2
      have h3 : DataW.trod enc Try.prog w 0 (fun _ => true) true n 3 ((cs.drop 3).take (Try.prog.cellsOf 3)) = some y3 := hf 3 _ rfl
      rw [show Try.prog.cellsOf 3 = 1 by kernel_rfl] at h3
      have h4 : DataW.trod enc Try.prog w 0 (fun _ => true) true n 9 ((cs.drop 4).take (Try.prog.cellsOf 9)) = some y4 := hf 4 _ rfl
      rw [show Try.prog.cellsOf 9 = 1 by kernel_rfl] at h4
      have h5 : DataW.trod enc Try.prog w 0 (fun _ => true) true n 25 ((cs.drop 5).take (Try.prog.cellsOf 25)) = some y5 := hf 5 _ rfl
      rw [show Try.prog.cellsOf 25 = 1 by kernel_rfl] at h5
      have h6 : DataW.trod enc Try.prog w 0 (fun _ => true) true n 24 ((cs.drop 6).take (Try.prog.cellsOf 24)) = some y6 := hf 6 _ rfl
      rw [show Try.prog.cellsOf 24 = 4 by kernel_rfl] at h6
      have hw2 : (DataW.weightsEach Try.prog [3, 22, 22, 3, 9, 25, 24] [y0.1, y1.1, y2.1, y3.1, y4.1, y5.1, y6.1]).all (· ≤ reachBytes) = true := by
        have := hw
        simp only [DataW.weights, Try.underlying27] at this
        exact this
      simp only [DataW.weightsEach, List.all_append, Bool.and_eq_true] at hw2
      obtain ⟨w0, w1, w2, w3, w4, w5, w6, _⟩ := hw2
      obtain ⟨a0, r0, f0, m0⟩ := (Rdr.int Try.underlying3 (by kernel_rfl)).op h0 w0
      obtain ⟨a1, r1, f1, m1⟩ := (Rdr.int Try.underlying22 (by kernel_rfl)).op h1 w1
      obtain ⟨a2, r2, f2, m2⟩ := (Rdr.int Try.underlying22 (by kernel_rfl)).op h2 w2
      obtain ⟨a3, r3, f3, m3⟩ := (Rdr.int Try.underlying3 (by kernel_rfl)).op h3 w3
      obtain ⟨a4, r4, f4, m4⟩ := (Rdr.str Try.underlying9 (by kernel_rfl)).op h4 w4
      obtain ⟨a5, r5, f5, m5⟩ := (Rdr.slice Try.underlying25 (by kernel_rfl) (by kernel_rfl) rd_40).op h5 w5
      obtain ⟨a6, r6, f6, m6⟩ := rd_24.op h6 w6
      have z : cs = (cs.drop 0).take 1 ++ ((cs.drop 1).take 1 ++ ((cs.drop 2).take 1 ++ ((cs.drop 3).take 1 ++ ((cs.drop 4).take 1 ++ ((cs.drop 5).take 1 ++ ((cs.drop 6).take 4 ++ ([]))))))) := by
        have e0 := chunk cs 0 1 1 rfl
        have e1 := chunk cs 1 1 2 rfl
        have e2 := chunk cs 2 1 3 rfl
        have e3 := chunk cs 3 1 4 rfl
        have e4 := chunk cs 4 1 5 rfl
        have e5 := chunk cs 5 1 6 rfl
        have e6 := chunk cs 6 4 10 rfl
        have e : cs.drop 10 = [] := List.drop_of_length_le (by omega)
        rw [← e, ← e6, ← e5, ← e4, ← e3, ← e2, ← e1, ← e0]; rfl
      obtain ⟨A5_0, c5_0, r5, q5_0⟩ := r5
      have r0 : (cs.drop 0).take 1 = [.int .i64 a0] := r0
      have r1 : (cs.drop 1).take 1 = [.int .u64 a1] := r1
      have r2 : (cs.drop 2).take 1 = [.int .u64 a2] := r2
      have r3 : (cs.drop 3).take 1 = [.int .i64 a3] := r3
      have r4 : (cs.drop 4).take 1 = [.string (bs a4)] := r4
      have r6 : (cs.drop 6).take 4 = [.int .u64 a6.Index, .int .u64 a6.Term, .int .u64 a6.Config, .string (bs a6.Data)] := r6
      refine ⟨⟨a0, a1, a2, a3, a4, a5, a6⟩, ?_, ⟨f0, f1, f2, f3, f4, f5, f6⟩, fun b hb => ?_⟩
      · exact ⟨A5_0, c5_0, z.trans (by rw [r0, r1, r2, r3, r4, r5, r6]; rfl), q5_0⟩
      · have p := hb.agg [y0.1, y1.1, y2.1, y3.1, y4.1, y5.1, y6.1]
        simp only [List.map_cons, List.map_nil, List.sum_cons, List.sum_nil] at p ⊢
        have p0 := m0 b hb
        have p1 := m1 b hb
        have p2 := m2 b hb
        have p3 := m3 b hb
        have p4 := m4 b hb
        have p5 := m5 b hb
        have p6 := m6 b hb
        simp only [ms_T_tontinelaw07_Call]
        omega⟩
theorem rlogStays_contract (H : Type) (enc : TypeId × Value → H) (W : World) (base : Nat) (args : Array Value) (ds gs : List (DataW H)) (before : List MemPlace)
    (hval : ∀ (j : Nat) t v, Try.f7.params[j]? = some t → args[j]? = some v → Value.okWide Try.prog W .any base t v)
    (hW : DataW.Whole enc Try.prog Try.f7.params.toList Rows.rlogStaysSpec.vars false W args.toList ds gs before)
    (hsz0 : (DataW.weightsEach Try.prog (Try.f7.params.toList ++ Rows.rlogStaysSpec.plain.varTypes Try.prog) (ds ++ gs)).all (· ≤ reachBytes) = true) (hk : Rows.uptoSmall H (ds ++ gs) = true) :
    Calls Try.prog 7 args W fun e W' => ∃ v, e = .returned v ∧ Rows.rlogStaysSpec.post enc Try.prog Try.f7 false true false false W args v W' := by
  have hW' := hW
  obtain ⟨p, q, hA0, hV, rfl, hfz, hnd⟩ := hW
  have hA : DataW.TrodAll enc Try.prog W 0 (fun _ => true) true Try.f7.params.toList args.toList ds p := hA0
  rw [Try.params7] at hA hval
  obtain ⟨v0, vs0, d0, ds0, p0, q0, hargs0, rfl, rfl, t0, r0⟩ := trodAll_cons hA
  obtain ⟨v1, vs1, d1, ds1, p1, q1, rfl, rfl, rfl, t1, r1⟩ := trodAll_cons r0
  obtain ⟨v2, vs2, d2, ds2, p2, q2, rfl, rfl, rfl, t2, r2⟩ := trodAll_cons r1
  obtain ⟨rfl, rfl, rfl⟩ := trodAll_nil r2
  obtain rfl : args = #[v0, v1, v2] := by cases args; simp_all
  obtain ⟨rfl, rfl⟩ := trodVars_none hV
  have hsz : (DataW.weightsEach Try.prog [24, 25, 30] [d0, d1, d2]).all (· ≤ reachBytes) = true := hsz0
  simp only [DataW.weightsEach, List.all_append, Bool.and_eq_true] at hsz
  obtain ⟨z0, z1, z2, _⟩ := hsz
  have k0 := t0
  obtain ⟨⟨cl0⟩, rfl, hn0⟩ := okWide_struct Try.underlying24 (hval 0 24 v0 rfl rfl)
  obtain ⟨a0, e0, f0, m0⟩ := rd_24.val t0 z0
  have e0 : cl0 = [.int .u64 a0.Index, .int .u64 a0.Term, .int .u64 a0.Config, .string (bs a0.Data)] := e0
  subst e0
  have k1 := t1
  obtain ⟨A1, len1, cap1, rfl⟩ := okWide_slice Try.underlying25 (hval 1 25 v1 rfl rfl)
  obtain ⟨a1, ⟨A', c', e1, i1⟩, f1, m1⟩ := (Rdr.slice Try.underlying25 (by kernel_rfl) (by kernel_rfl) rd_40).val t1 z1
  simp only [Value.cells, List.cons.injEq, Value.slice.injEq, and_true] at e1
  obtain ⟨rfl, rfl, rfl⟩ := e1
  have k2 := t2
  obtain ⟨A2, len2, cap2, rfl⟩ := okWide_slice Try.underlying30 (hval 2 30 v2 rfl rfl)
  obtain ⟨a2, ⟨A', c', e2, i2⟩, f2, m2⟩ := (Rdr.slice Try.underlying30 (by kernel_rfl) (by kernel_rfl) rd_27).val t2 z2
  simp only [Value.cells, List.cons.injEq, Value.slice.injEq, and_true] at e2
  obtain ⟨rfl, rfl, rfl⟩ := e2
  have hB := of_decide_eq_true hk
  simp only [Rows.uptoBulkAll, List.append_nil, List.cons_append, List.nil_append] at hB
  have b0 := m0 _ (bulkOk H)
  have b1 := m1 _ (bulkOk H)
  have b2 := m2 _ (bulkOk H)
  have hsm : ms_T_api_Snapshot a0 + (fun xs => (xs.map ms_T_api_Entry).sum + 1) a1 + (fun xs => (xs.map ms_T_tontinelaw07_Call).sum + 1) a2 ≤ 1048576 := by
    simp only [] at *
    omega
  obtain ⟨N, hN⟩ := tontinelaw07_RlogStays_law a0 a1 a2 f0 f1 f2 hsm
  have hN := hN N (Nat.le_refl _)
  refine (tontinelaw07_RlogStays_ok N a0 a1 a2 A1 cap1 A2 cap2 true hN W (allRead W) (allRead_good W) (fun t ht b hb => absurd hb.1 (by omega)) (fun x hx => by cases hx) ?_).mono fun e W' ⟨_, S', he, hext, _, _⟩ => ?_
  · intro f hf
    simp only [List.mem_cons, List.mem_nil_iff, or_false] at hf
    rcases hf with rfl | rfl
    · exact i1.st (fun b hb _ => ⟨rfl, rfl, hb⟩) (fun b hb _ => ⟨rfl, rfl, hb⟩)
    · exact i2.st (fun b hb _ => ⟨rfl, rfl, hb⟩) (fun b hb _ => ⟨rfl, rfl, hb⟩)
  subst he
  have hb := below_of_ext hext
  have hlt : ∀ y ∈ (p0 ++ (p1 ++ (p2 ++ []))) ++ [], y.block < W.heap.size := fun y hy => hW'.lt y hy
  refine ⟨_, rfl, GL.post_of_below (pa := p0 ++ (p1 ++ (p2 ++ []))) (pv := []) hW' (fun _ _ _ => trodAll_cons_mk (shut_bool Try.underlying4 true) trodAll_mk0) (fun sp hsp => ?_) (fun _ _ => rfl) rfl hb (ok_one (by kernel_rfl) rfl (okWide_bool_mk Try.underlying4 _))⟩
  exact trodAll_cons_mk (WideElems.Trod_stays laidOut (by kernel_rfl) (of_decide_eq_true (by kernel_rfl)) k0 (fun y hy => hb.same (hlt y (by simp [hy]))) (fun y hy => hsp y (by simp [hy]))) (trodAll_cons_mk (WideElems.Trod_stays laidOut (by kernel_rfl) (of_decide_eq_true (by kernel_rfl)) k1 (fun y hy => hb.same (hlt y (by simp [hy]))) (fun y hy => hsp y (by simp [hy]))) (trodAll_cons_mk (WideElems.Trod_stays laidOut (by kernel_rfl) (of_decide_eq_true (by kernel_rfl)) k2 (fun y hy => hb.same (hlt y (by simp [hy]))) (fun y hy => hsp y (by simp [hy]))) (trodAll_mk0)))
set_option maxRecDepth 100000 in
theorem rlogStays_lifted (os : Os) (started : os.Started) (H : Type) (enc : TypeId × Value → H) (F : Stop.Interp) :
    ReturnsInHanded {} Try.checked os 7 .any ((Rows.OpenSpec.upto Rows.rlogStaysSpec).pre6 enc Try.prog Try.f7 Rows.rlogStaysUptoRow.domain false) (((Rows.OpenSpec.upto Rows.rlogStaysSpec).at F).post enc Try.prog Try.f7 false true false false) := by
  refine returnsInHanded_of_cond_sized (C := Try.checked) (s := Rows.OpenSpec.upto Rows.rlogStaysSpec) (k := Rows.uptoSmall) rfl own started (by kernel_rfl) Try.func7
    (OpenSpec.witness (enc := enc) (C := Try.checked) (s := Rows.OpenSpec.upto Rows.rlogStaysSpec) (k := Rows.uptoSmall) rfl false ⟨#[], #[.agg #[.int .u64 0, .int .u64 0, .int .u64 0, .string ⟨#[]⟩], .slice none 0 0, .slice none 0 0], []⟩ 8 (by kernel_rfl) (by kernel_rfl) (by kernel_rfl)
      (x := ([.agg [.lit (.int .u64 0), .lit (.int .u64 0), .lit (.int .u64 0), .lit (.string [])], .nil, .nil], [], [])) (by kernel_rfl) rfl (by kernel_rfl)) ?_
  intro W base args ds gs before hval hW _ hk hsz _
  exact rlogStays_contract H enc W base args ds gs before hval hW hsz hk
theorem rlogStays_holds : Rows.RlogStaysUptoSaid :=
  OpenClaim.holds_of_cond 7 Try.f7 rfl rfl rfl rfl rfl rfl rfl ⟨rfl, rfl, rfl, rfl, rfl⟩ rfl rfl rfl rfl rfl (by kernel_rfl) Try.func7 (by kernel_rfl)
    (of_decide_eq_true (by kernel_rfl)) (by unfold Func.isWrapper; first | (rw [if_pos (by decide +kernel)]; kernel_rfl) | (rw [if_neg (by decide +kernel)]; exact ⟨rfl, rfl⟩))
    (fun os started H enc _ F => rlogStays_lifted os started H enc F)
end Go.Proofs.Ytolipnnfdclkoaa
