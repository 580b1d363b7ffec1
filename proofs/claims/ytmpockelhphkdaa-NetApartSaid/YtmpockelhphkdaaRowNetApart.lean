/- Proves the given statement Rows.NetApartSaid: the law answers true and its arguments read as before. No condition beyond the given row's own. -/
import Derived.Test.YtmpockelhphkdaaRows
import Derived.ProofKit
import Derived.SizedLaws
import Derived.OpenShut
import Derived.Test.YtmpockelhphkdaaLawNetApart
import Derived.Test.YtmpockelhphkdaaWalkNetApart
import Derived.Test.YtmpockelhphkdaaG13
set_option linter.unusedVariables false
set_option linter.unusedSimpArgs false
set_option maxRecDepth 100000
namespace Go.Proofs.Ytmpockelhphkdaa
open Go.ChangeShapes Go.WideShapes Go.ChangeAt Go.RowKit Go.GL

theorem own : ownKnob Try.prog.godebug = none := by kernel_rfl
theorem laidOut : laidOutB Try.prog = true := by kernel_rfl

theorem rd_88 : Rdr Try.prog 88 kT_api_Entry wf_T_api_Entry ms_T_api_Entry :=
  ⟨by kernel_rfl, fun {H enc w fuel cs x} h hw => by
    obtain ⟨xs, n, _, rfl, hl, hlen, hf⟩ := DataW.trod_struct Try.underlying88 h
    rw [show Try.prog.cellsOf 88 = 4 by kernel_rfl] at hl
    match xs, hlen with
    | [y0, y1, y2, y3], _ =>
      have h0 : DataW.trod enc Try.prog w 0 (fun _ => true) true n 26 ((cs.drop 0).take (Try.prog.cellsOf 26)) = some y0 := hf 0 _ rfl
      rw [show Try.prog.cellsOf 26 = 1 by kernel_rfl] at h0
      have h1 : DataW.trod enc Try.prog w 0 (fun _ => true) true n 26 ((cs.drop 1).take (Try.prog.cellsOf 26)) = some y1 := hf 1 _ rfl
      rw [show Try.prog.cellsOf 26 = 1 by kernel_rfl] at h1
      have h2 : DataW.trod enc Try.prog w 0 (fun _ => true) true n 3 ((cs.drop 2).take (Try.prog.cellsOf 3)) = some y2 := hf 2 _ rfl
      rw [show Try.prog.cellsOf 3 = 1 by kernel_rfl] at h2
      have h3 : DataW.trod enc Try.prog w 0 (fun _ => true) true n 9 ((cs.drop 3).take (Try.prog.cellsOf 9)) = some y3 := hf 3 _ rfl
      rw [show Try.prog.cellsOf 9 = 1 by kernel_rfl] at h3
      have hw2 : (DataW.weightsEach Try.prog [26, 26, 3, 9] [y0.1, y1.1, y2.1, y3.1]).all (· ≤ reachBytes) = true := by
        have := hw
        simp only [DataW.weights, Try.underlying88] at this
        exact this
      simp only [DataW.weightsEach, List.all_append, Bool.and_eq_true] at hw2
      obtain ⟨w0, w1, w2, w3, _⟩ := hw2
      obtain ⟨a0, r0, f0, m0⟩ := (Rdr.int Try.underlying26 (by kernel_rfl)).op h0 w0
      obtain ⟨a1, r1, f1, m1⟩ := (Rdr.int Try.underlying26 (by kernel_rfl)).op h1 w1
      obtain ⟨a2, r2, f2, m2⟩ := (Rdr.int Try.underlying3 (by kernel_rfl)).op h2 w2
      obtain ⟨a3, r3, f3, m3⟩ := (Rdr.str Try.underlying9 (by kernel_rfl)).op h3 w3
      have z : cs = (cs.drop 0).take 1 ++ ((cs.drop 1).take 1 ++ ((cs.drop 2).take 1 ++ ((cs.drop 3).take 1 ++ ([])))) := by
        have e0 := chunk cs 0 1 1 rfl
        have e1 := chunk cs 1 1 2 rfl
        have e2 := chunk cs 2 1 3 rfl
        have e3 := chunk cs 3 1 4 rfl
        have e : cs.drop 4 = [] := List.drop_of_length_le (by omega)
        rw [← e, ← e3, ← e2, ← e1, ← e0]; rfl
      have r0 : (cs.drop 0).take 1 = [.int .u64 a0] := r0
      have r1 : (cs.drop 1).take 1 = [.int .u64 a1] := r1
      have r2 : (cs.drop 2).take 1 = [.int .i64 a2] := r2
      have r3 : (cs.drop 3).take 1 = [.string (bs a3)] := r3
      refine ⟨⟨a0, a1, a2, a3⟩, ?_, ⟨f0, f1, f2, f3⟩, fun b hb => ?_⟩
      · exact z.trans (by rw [r0, r1, r2, r3]; rfl)
      · have p := hb.agg [y0.1, y1.1, y2.1, y3.1]
        simp only [List.map_cons, List.map_nil, List.sum_cons, List.sum_nil] at p ⊢
        have p0 := m0 b hb
        have p1 := m1 b hb
        have p2 := m2 b hb
        have p3 := m3 b hb
        simp only [ms_T_api_Entry]
        omega⟩
theorem rd_29 : Rdr Try.prog 29 kT_api_Letter wf_T_api_Letter ms_T_api_Letter :=
  ⟨by kernel_rfl, fun {H enc w fuel cs x} h hw => by
    obtain ⟨xs, n, _, rfl, hl, hlen, hf⟩ := DataW.trod_struct Try.underlying29 h
    rw [show Try.prog.cellsOf 29 = 10 by kernel_rfl] at hl
    match xs, hlen with
    | [y0, y1, y2, y3, y4, y5, y6, y7, y8, y9], _ =>
      have h0 : DataW.trod enc Try.prog w 0 (fun _ => true) true n 3 ((cs.drop 0).take (Try.prog.cellsOf 3)) = some y0 := hf 0 _ rfl
      rw [show Try.prog.cellsOf 3 = 1 by kernel_rfl] at h0
      have h1 : DataW.trod enc Try.prog w 0 (fun _ => true) true n 3 ((cs.drop 1).take (Try.prog.cellsOf 3)) = some y1 := hf 1 _ rfl
      rw [show Try.prog.cellsOf 3 = 1 by kernel_rfl] at h1
      have h2 : DataW.trod enc Try.prog w 0 (fun _ => true) true n 3 ((cs.drop 2).take (Try.prog.cellsOf 3)) = some y2 := hf 2 _ rfl
      rw [show Try.prog.cellsOf 3 = 1 by kernel_rfl] at h2
      have h3 : DataW.trod enc Try.prog w 0 (fun _ => true) true n 26 ((cs.drop 3).take (Try.prog.cellsOf 26)) = some y3 := hf 3 _ rfl
      rw [show Try.prog.cellsOf 26 = 1 by kernel_rfl] at h3
      have h4 : DataW.trod enc Try.prog w 0 (fun _ => true) true n 26 ((cs.drop 4).take (Try.prog.cellsOf 26)) = some y4 := hf 4 _ rfl
      rw [show Try.prog.cellsOf 26 = 1 by kernel_rfl] at h4
      have h5 : DataW.trod enc Try.prog w 0 (fun _ => true) true n 26 ((cs.drop 5).take (Try.prog.cellsOf 26)) = some y5 := hf 5 _ rfl
      rw [show Try.prog.cellsOf 26 = 1 by kernel_rfl] at h5
      have h6 : DataW.trod enc Try.prog w 0 (fun _ => true) true n 26 ((cs.drop 6).take (Try.prog.cellsOf 26)) = some y6 := hf 6 _ rfl
      rw [show Try.prog.cellsOf 26 = 1 by kernel_rfl] at h6
      have h7 : DataW.trod enc Try.prog w 0 (fun _ => true) true n 4 ((cs.drop 7).take (Try.prog.cellsOf 4)) = some y7 := hf 7 _ rfl
      rw [show Try.prog.cellsOf 4 = 1 by kernel_rfl] at h7
      have h8 : DataW.trod enc Try.prog w 0 (fun _ => true) true n 27 ((cs.drop 8).take (Try.prog.cellsOf 27)) = some y8 := hf 8 _ rfl
      rw [show Try.prog.cellsOf 27 = 1 by kernel_rfl] at h8
      have h9 : DataW.trod enc Try.prog w 0 (fun _ => true) true n 9 ((cs.drop 9).take (Try.prog.cellsOf 9)) = some y9 := hf 9 _ rfl
      rw [show Try.prog.cellsOf 9 = 1 by kernel_rfl] at h9
      have hw2 : (DataW.weightsEach Try.prog [3, 3, 3, 26, 26, 26, 26, 4, 27, 9] [y0.1, y1.1, y2.1, y3.1, y4.1, y5.1, y6.1, y7.1, y8.1, y9.1]).all (· ≤ reachBytes) = true := by
        have := hw
        simp only [DataW.weights, Try.underlying29] at this
        exact this
      simp only [DataW.weightsEach, List.all_append, Bool.and_eq_true] at hw2
      obtain ⟨w0, w1, w2, w3, w4, w5, w6, w7, w8, w9, _⟩ := hw2
      obtain ⟨a0, r0, f0, m0⟩ := (Rdr.int Try.underlying3 (by kernel_rfl)).op h0 w0
      obtain ⟨a1, r1, f1, m1⟩ := (Rdr.int Try.underlying3 (by kernel_rfl)).op h1 w1
      obtain ⟨a2, r2, f2, m2⟩ := (Rdr.int Try.underlying3 (by kernel_rfl)).op h2 w2
      obtain ⟨a3, r3, f3, m3⟩ := (Rdr.int Try.underlying26 (by kernel_rfl)).op h3 w3
      obtain ⟨a4, r4, f4, m4⟩ := (Rdr.int Try.underlying26 (by kernel_rfl)).op h4 w4
      obtain ⟨a5, r5, f5, m5⟩ := (Rdr.int Try.underlying26 (by kernel_rfl)).op h5 w5
      obtain ⟨a6, r6, f6, m6⟩ := (Rdr.int Try.underlying26 (by kernel_rfl)).op h6 w6
      obtain ⟨a7, r7, f7, m7⟩ := (Rdr.bool Try.underlying4 (by kernel_rfl)).op h7 w7
      obtain ⟨a8, r8, f8, m8⟩ := (Rdr.slice Try.underlying27 (by kernel_rfl) (by kernel_rfl) rd_88).op h8 w8
      obtain ⟨a9, r9, f9, m9⟩ := (Rdr.str Try.underlying9 (by kernel_rfl)).op h9 w9
      have z : cs = (cs.drop 0).take 1 ++ ((cs.drop 1).take 1 ++ ((cs.drop 2).take 1 ++ ((cs.drop 3).take 1 ++ ((cs.drop 4).take 1 ++ ((cs.drop 5).take 1 ++ ((cs.drop 6).take 1 ++ ((cs.drop 7).take 1 ++ ((cs.drop 8).take 1 ++ ((cs.drop 9).take 1 ++ ([])))))))))) := by
        have e0 := chunk cs 0 1 1 rfl
        have e1 := chunk cs 1 1 2 rfl
        have e2 := chunk cs 2 1 3 rfl
        have e3 := chunk cs 3 1 4 rfl
        have e4 := chunk cs 4 1 5 rfl
        have e5 := chunk cs 5 1 6 rfl
        have e6 := chunk cs 6 1 7 rfl
        have e7 := chunk cs 7 1 8 rfl
        have e8 := chunk cs 8 1 9 rfl
        have e9 := chunk cs 9 1 10 rfl
        have e : cs.drop 10 = [] := List.drop_of_length_le (by omega)
        rw [← e, ← e9, ← e8, ← e7, ← e6, ← e5, ← e4, ← e3, ← e2, ← e1, ← e0]; rfl
      obtain ⟨A8_0, c8_0, r8, q8_0⟩ := r8
      have r0 : (cs.drop 0).take 1 = [.int .i64 a0] := r0
      have r1 : (cs.drop 1).take 1 = [.int .i64 a1] := r1
      have r2 : (cs.drop 2).take 1 = [.int .i64 a2] := r2
      have r3 : (cs.drop 3).take 1 = [.int .u64 a3] := r3
      have r4 : (cs.drop 4).take 1 = [.int .u64 a4] := r4
      have r5 : (cs.drop 5).take 1 = [.int .u64 a5] := r5
      have r6 : (cs.drop 6).take 1 = [.int .u64 a6] := r6
      have r7 : (cs.drop 7).take 1 = [.bool a7] := r7
      have r9 : (cs.drop 9).take 1 = [.string (bs a9)] := r9
      refine ⟨⟨a0, a1, a2, a3, a4, a5, a6, a7, a8, a9⟩, ?_, ⟨f0, f1, f2, f3, f4, f5, f6, f7, f8, f9⟩, fun b hb => ?_⟩
      · exact ⟨A8_0, c8_0, z.trans (by rw [r0, r1, r2, r3, r4, r5, r6, r7, r8, r9]; rfl), q8_0⟩
      · have p := hb.agg [y0.1, y1.1, y2.1, y3.1, y4.1, y5.1, y6.1, y7.1, y8.1, y9.1]
        simp only [List.map_cons, List.map_nil, List.sum_cons, List.sum_nil] at p ⊢
        have p0 := m0 b hb
        have p1 := m1 b hb
        have p2 := m2 b hb
        have p3 := m3 b hb
        have p4 := m4 b hb
        have p5 := m5 b hb
        have p6 := m6 b hb
        have p7 := m7 b hb
        have p8 := m8 b hb
        have p9 := m9 b hb
        simp only [ms_T_api_Letter]
        omega⟩

theorem netApart_contract (H : Type) (enc : TypeId × Value → H) (W : World) (base : Nat) (args : Array Value) (ds gs : List (DataW H)) (before : List MemPlace)
    (hval : ∀ (j : Nat) t v, Try.f13.params[j]? = some t → args[j]? = some v → Value.okWide Try.prog W .any base t v)
    (hW : DataW.Whole enc Try.prog Try.f13.params.toList Rows.netApartSpec.vars false W args.toList ds gs before)
    (hsz0 : (DataW.weightsEach Try.prog (Try.f13.params.toList ++ Rows.netApartSpec.plain.varTypes Try.prog) (ds ++ gs)).all (· ≤ reachBytes) = true) :
    Calls Try.prog 13 args W fun e W' => ∃ v, e = .returned v ∧ Rows.netApartSpec.post enc Try.prog Try.f13 false true false false W args v W' := by
  have hW' := hW
  obtain ⟨p, q, hA0, hV, rfl, hfz, hnd⟩ := hW
  have hA : DataW.TrodAll enc Try.prog W 0 (fun _ => true) true Try.f13.params.toList args.toList ds p := hA0
  rw [Try.params13] at hA hval
  obtain ⟨v0, vs0, d0, ds0, p0, q0, hargs0, rfl, rfl, t0, r0⟩ := trodAll_cons hA
  obtain ⟨v1, vs1, d1, ds1, p1, q1, rfl, rfl, rfl, t1, r1⟩ := trodAll_cons r0
  obtain ⟨rfl, rfl, rfl⟩ := trodAll_nil r1
  obtain rfl : args = #[v0, v1] := by cases args; simp_all
  obtain ⟨rfl, rfl⟩ := trodVars_none hV
  have hsz : (DataW.weightsEach Try.prog [29, 29] [d0, d1]).all (· ≤ reachBytes) = true := hsz0
  simp only [DataW.weightsEach, List.all_append, Bool.and_eq_true] at hsz
  obtain ⟨z0, z1, _⟩ := hsz
  have k0 := t0
  obtain ⟨⟨cl0⟩, rfl, hn0⟩ := okWide_struct Try.underlying29 (hval 0 29 v0 rfl rfl)
  obtain ⟨a0, ⟨A0_8, cap0_8, e0, i0_8⟩, f0, m0⟩ := rd_29.val t0 z0
  have e0 : cl0 = [.int .i64 a0.Kind, .int .i64 a0.From, .int .i64 a0.To, .int .u64 a0.Term, .int .u64 a0.Index, .int .u64 a0.Prev, .int .u64 a0.Commit, .bool a0.Ok, .slice A0_8 a0.Entries.length cap0_8, .string (bs a0.Data)] := e0
  subst e0
  have k1 := t1
  obtain ⟨⟨cl1⟩, rfl, hn1⟩ := okWide_struct Try.underlying29 (hval 1 29 v1 rfl rfl)
  obtain ⟨a1, ⟨A1_8, cap1_8, e1, i1_8⟩, f1, m1⟩ := rd_29.val t1 z1
  have e1 : cl1 = [.int .i64 a1.Kind, .int .i64 a1.From, .int .i64 a1.To, .int .u64 a1.Term, .int .u64 a1.Index, .int .u64 a1.Prev, .int .u64 a1.Commit, .bool a1.Ok, .slice A1_8 a1.Entries.length cap1_8, .string (bs a1.Data)] := e1
  subst e1
  obtain ⟨N, hN⟩ := tontinelaw10_NetApart_law a0 a1 f0 f1
  have hN := hN N (Nat.le_refl _)
  refine (tontinelaw10_NetApart_ok N a0 a1 A0_8 cap0_8 A1_8 cap1_8 true hN W (allRead W) (allRead_good W) (fun t ht b hb => absurd hb.1 (by omega)) (fun x hx => by cases hx) ?_).mono fun e W' ⟨_, S', he, hext, _, _⟩ => ?_
  · intro f hf
    simp only [List.mem_cons, List.mem_nil_iff, or_false] at hf
    rcases hf with rfl | rfl
    · exact i0_8.st (fun b hb _ => ⟨rfl, rfl, hb⟩) (fun b hb _ => ⟨rfl, rfl, hb⟩)
    · exact i1_8.st (fun b hb _ => ⟨rfl, rfl, hb⟩) (fun b hb _ => ⟨rfl, rfl, hb⟩)
  subst he
  have hb := below_of_ext hext
  have hlt : ∀ y ∈ (p0 ++ (p1 ++ [])) ++ [], y.block < W.heap.size := fun y hy => hW'.lt y hy
  refine ⟨_, rfl, GL.post_of_below (pa := p0 ++ (p1 ++ [])) (pv := []) hW' (fun _ _ _ => trodAll_cons_mk (shut_bool Try.underlying4 true) trodAll_mk0) (fun sp hsp => ?_) (fun _ _ => rfl) rfl hb (ok_one (by kernel_rfl) rfl (okWide_bool_mk Try.underlying4 _))⟩
  exact trodAll_cons_mk (WideElems.Trod_stays laidOut (by kernel_rfl) (of_decide_eq_true (by kernel_rfl)) k0 (fun y hy => hb.same (hlt y (by simp [hy]))) (fun y hy => hsp y (by simp [hy]))) (trodAll_cons_mk (WideElems.Trod_stays laidOut (by kernel_rfl) (of_decide_eq_true (by kernel_rfl)) k1 (fun y hy => hb.same (hlt y (by simp [hy]))) (fun y hy => hsp y (by simp [hy]))) (trodAll_mk0))

set_option maxRecDepth 100000 in
theorem netApart_lifted (os : Os) (started : os.Started) (H : Type) (enc : TypeId × Value → H) :
    ReturnsInHanded {} Try.checked os 13 .any (Rows.netApartSpec.pre6 enc Try.prog Try.f13 Rows.netApartRow.domain false) (Rows.netApartSpec.post enc Try.prog Try.f13 false true false false) := by
  refine returnsInHanded_of_change_sized (C := Try.checked) own started (by kernel_rfl) Try.func13
    (ChangeSpec.witness6 (enc := enc) (C := Try.checked) false ⟨#[], #[.agg #[.int .i64 0, .int .i64 0, .int .i64 0, .int .u64 0, .int .u64 0, .int .u64 0, .int .u64 0, .bool false, .slice none 0 0, .string ⟨#[]⟩], .agg #[.int .i64 0, .int .i64 0, .int .i64 0, .int .u64 0, .int .u64 0, .int .u64 0, .int .u64 0, .bool false, .slice none 0 0, .string ⟨#[]⟩]], []⟩ 8 (by kernel_rfl) (by kernel_rfl) (by kernel_rfl) (by kernel_rfl)) ?_
  intro W base args ds gs before hval hW _ hsz _
  exact netApart_contract H enc W base args ds gs before hval hW hsz

theorem netApart_holds : Rows.NetApartSaid :=
  OpenClaim.holds_of_wide 13 Try.f13 rfl rfl rfl rfl rfl rfl rfl ⟨rfl, rfl, rfl, rfl, rfl⟩ rfl rfl rfl rfl rfl (by kernel_rfl) Try.func13 (by kernel_rfl)
    (of_decide_eq_true (by kernel_rfl)) (by unfold Func.isWrapper; first | (rw [if_pos (by decide +kernel)]; kernel_rfl) | (rw [if_neg (by decide +kernel)]; exact ⟨rfl, rfl⟩))
    (fun os started H enc _ => netApart_lifted os started H enc)
end Go.Proofs.Ytmpockelhphkdaa

