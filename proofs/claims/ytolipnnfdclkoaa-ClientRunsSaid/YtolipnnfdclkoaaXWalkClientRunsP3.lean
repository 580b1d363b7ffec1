import Derived.Test.YtolipnnfdclkoaaXWalkClientRunsP2
import Derived.Test.YtolipnnfdclkoaaXKindsT2
import Derived.Test.YtolipnnfdclkoaaProg
set_option linter.unusedVariables false
set_option linter.unusedSimpArgs false
set_option maxRecDepth 100000
namespace Go.GL
open Go Go.Proofs
theorem tontineref13_Bytes_l0_ok (n : Nat) (l_1 : (List T_api_Step)) (A_2 : Option Addr) (c_3 : Nat) (w0 : World) (S0 : Fam) :
    ∀ (k : Nat) (s_5 : (List UInt8)) (i_6 : Int), GoO (tontineref13_Bytes.cx A_2 c_3 w0 S0) [(0, .slice A_2 l_1.length c_3), (3, .string (bs s_5)), (4, vI i_6)] [] [Rd 0 kT_api_Step A_2 c_3 l_1] [.code c93_9, .inLoop c93_9, .inBlock 0, .code c93_19] (tontineref13_Bytes.l0 n l_1 k s_5 i_6) := by
  intro k
  induction k with
  | zero => intros; rw [tontineref13_Bytes.l0.eq_1]; exact GoO.stop
  | succ k ih0 =>
    intro s_5 i_6
    rw [tontineref13_Bytes.l0.eq_2]
    refine GoO.seq' c93_9e ?_
    refine GoO.seq' c93_10e ?_
    refine GoO.region' (is := [0, 1, 2, 3]) c93_11e (by kernel_rfl) ?_
    refine GoO.exec (is := [0, 1, 2, 3]) (hs := [.p, .p, .p, .p]) (rest := []) (ks := [0, 3, 4, 12]) (env' := [(0, .slice A_2 l_1.length c_3), (3, .string (bs s_5)), (4, vI i_6), (12, .bool (decide (i_6 < (l_1.length : Int))))]) (H' := []) (ps := []) (by kernel_rfl) trivial ?_
    refine GoO.regionEnd ?_
    refine GoO.ite' c93_12e (by kernel_rfl) (fun h7 => ?_) (fun h7 => ?_)
    · refine GoO.skip' c93_13e ?_
      refine GoO.seq' c93_15e ?_
      refine GoO.block' c93_16e ?_
      refine GoO.draw c93_17e (by kernel_rfl) [24] [] [Rd 0 kT_api_Step A_2 c_3 l_1] (n := 25) (by kernel_rfl) ?_
      simp only [List.replicate]
      refine GoF.take [0, 1, 2, 8, 9, 15, 16] [.p, .p, .p, .p, .p, .p, .p] (ks := [0, 4, 15, 16, 17, 23, 24, 30, 31]) (fu := 18) (li := [true, true, true, false, false, false, false, false, true, true, false, false, false, false, false, true, true, false, false, false, false, false, false, false, false]) (env' := [(0, .slice A_2 l_1.length c_3), (4, vI i_6), (15, .string (bs s_5)), (16, .slice A_2 l_1.length c_3), (17, vI i_6), (23, .slice A_2 l_1.length c_3), (24, vI i_6), (30, .slice A_2 l_1.length c_3), (31, vI i_6)]) (ps := []) (hk := []) (bk := [0]) (by kernel_rfl) trivial rfl rfl ?_
      refine GoF.guard (fun h8 => ?_)
      refine GoF.idx (i := 3) (hk := []) (bk := [0]) (kk := .i64) (e := 160) (K := kT_api_Step) (A := A_2) (c := c_3) (xs := l_1) (iv := i_6) (j := 0) (by kernel_rfl) rfl rfl rfl (by kernel_rfl) (by kernel_rfl) (by kernel_rfl) (by kernel_rfl) rfl Reads.rd rfl h8.1 h8.2 (by decide) rfl ?_
      refine GoF.fldE (i := 4) (hk := []) (bk := [0]) (K := kT_api_Step) (A := A_2) (c := c_3) (xs := l_1) (iN := i_6.toNat) (off := 0) (n := 0) (j := 0) (by kernel_rfl) rfl rfl rfl (by kernel_rfl) (by kernel_rfl) rfl Reads.rd (by first | exact idx_lt h8.1 h8.2 | (simp only [List.length_set]; exact idx_lt h8.1 h8.2)) (by decide) rfl ?_
      refine GoF.ldE (i := 5) (hk := []) (bk := [0]) (K := kT_api_Step) (A := A_2) (c := c_3) (xs := l_1) (iN := i_6.toNat) (off := 0) (j := 0) (v := vI ((rdL l_1 i_6).Part)) (by kernel_rfl) rfl rfl rfl (hK := rfl) (by kernel_rfl) rfl Reads.rd (by first | exact idx_lt h8.1 h8.2 | (simp only [List.length_set]; exact idx_lt h8.1 h8.2)) (by decide) (by kernel_rfl) rfl ?_
      refine GoF.take [6] [.p] (ks := [0, 4, 15, 21, 23, 24, 30, 31]) (fu := 14) (li := [true, true, true, true, true, true, true, false, true, true, false, false, false, false, false, true, true, false, false, false, false, false, false, false, false]) (env' := [(0, .slice A_2 l_1.length c_3), (4, vI i_6), (15, .string (bs s_5)), (21, vU (wu64 ((rdL l_1 i_6).Part))), (23, .slice A_2 l_1.length c_3), (24, vI i_6), (30, .slice A_2 l_1.length c_3), (31, vI i_6)]) (ps := []) (hk := []) (bk := [0]) (by kernel_rfl) trivial rfl rfl ?_
      refine GoF.guard (fun h9 => ?_)
      refine GoF.idx (i := 10) (hk := []) (bk := [0]) (kk := .i64) (e := 160) (K := kT_api_Step) (A := A_2) (c := c_3) (xs := l_1) (iv := i_6) (j := 0) (by kernel_rfl) rfl rfl rfl (by kernel_rfl) (by kernel_rfl) (by kernel_rfl) (by kernel_rfl) rfl Reads.rd rfl h9.1 h9.2 (by decide) rfl ?_
      refine GoF.fldE (i := 11) (hk := []) (bk := [0]) (K := kT_api_Step) (A := A_2) (c := c_3) (xs := l_1) (iN := i_6.toNat) (off := 0) (n := 1) (j := 0) (by kernel_rfl) rfl rfl rfl (by kernel_rfl) (by kernel_rfl) rfl Reads.rd (by first | exact idx_lt h9.1 h9.2 | (simp only [List.length_set]; exact idx_lt h9.1 h9.2)) (by decide) rfl ?_
      refine GoF.ldE (i := 12) (hk := []) (bk := [0]) (K := kT_api_Step) (A := A_2) (c := c_3) (xs := l_1) (iN := i_6.toNat) (off := 1) (j := 0) (v := .string (bs ((rdL l_1 i_6).Name))) (by kernel_rfl) rfl rfl rfl (hK := rfl) (by kernel_rfl) rfl Reads.rd (by first | exact idx_lt h9.1 h9.2 | (simp only [List.length_set]; exact idx_lt h9.1 h9.2)) (by decide) (by kernel_rfl) rfl ?_
      refine GoF.guard (fun h10 => ?_)
      refine GoF.idx (i := 17) (hk := []) (bk := [0]) (kk := .i64) (e := 160) (K := kT_api_Step) (A := A_2) (c := c_3) (xs := l_1) (iv := i_6) (j := 0) (by kernel_rfl) rfl rfl rfl (by kernel_rfl) (by kernel_rfl) (by kernel_rfl) (by kernel_rfl) rfl Reads.rd rfl h10.1 h10.2 (by decide) rfl ?_
      refine GoF.fldE (i := 18) (hk := []) (bk := [0]) (K := kT_api_Step) (A := A_2) (c := c_3) (xs := l_1) (iN := i_6.toNat) (off := 0) (n := 2) (j := 0) (by kernel_rfl) rfl rfl rfl (by kernel_rfl) (by kernel_rfl) rfl Reads.rd (by first | exact idx_lt h10.1 h10.2 | (simp only [List.length_set]; exact idx_lt h10.1 h10.2)) (by decide) rfl ?_
      refine GoF.ldE (i := 19) (hk := []) (bk := [0]) (K := kT_api_Step) (A := A_2) (c := c_3) (xs := l_1) (iN := i_6.toNat) (off := 2) (j := 0) (v := vI ((rdL l_1 i_6).Budget)) (by kernel_rfl) rfl rfl rfl (hK := rfl) (by kernel_rfl) rfl Reads.rd (by first | exact idx_lt h10.1 h10.2 | (simp only [List.length_set]; exact idx_lt h10.1 h10.2)) (by decide) (by kernel_rfl) rfl ?_
      refine GoF.take [20] [.p] (ks := [0, 4, 15, 21, 27, 35]) (fu := 7) (li := [true, true, true, true, true, true, true, false, true, true, true, true, true, false, false, true, true, true, true, true, true, false, false, false, false]) (env' := [(0, .slice A_2 l_1.length c_3), (4, vI i_6), (15, .string (bs s_5)), (21, vU (wu64 ((rdL l_1 i_6).Part))), (27, .string (bs ((rdL l_1 i_6).Name))), (35, vU (wu64 ((rdL l_1 i_6).Budget)))]) (ps := []) (hk := []) (bk := [0]) (by kernel_rfl) trivial rfl rfl ?_
      refine OpTo.goF (i := 7) (by kernel_rfl) (hk := []) (bk := [0]) (GoO.call rfl (by kernel_rfl) (by kernel_rfl) (tontineref03_Num_ok n (wu64 ((rdL l_1 i_6).Part))) [[0]] [] [] [] (hks := []) (bks := [0]) (by kernel_rfl) (by kernel_rfl) (by kernel_rfl) (.inl rfl) rfl rfl (by kernel_rfl) (by kernel_rfl) _ (fun _ _ => rfl) _ _ (fun _ _ => rfl) (fun _ _ => rfl) (fun _ _ => by kernel_rfl) (fun _ _ => by kernel_rfl) (fun r_11 x_19 => ⟨rfl, rfl, ?_⟩))
      refine GoF.shape (env' := [(0, .slice A_2 l_1.length c_3), (4, vI i_6), (15, .string (bs s_5)), (21, vU (wu64 ((rdL l_1 i_6).Part))), (22, .string (bs r_11)), (27, .string (bs ((rdL l_1 i_6).Name))), (35, vU (wu64 ((rdL l_1 i_6).Budget)))]) (H' := []) (B' := [Rd 0 kT_api_Step A_2 c_3 l_1]) (ks := [0, 4, 15, 21, 22, 27, 35]) (by kernel_rfl) (by kernel_rfl) (by kernel_rfl) ?_
      refine OpTo.goF (i := 13) (by kernel_rfl) (hk := []) (bk := [0]) (GoO.call rfl (by kernel_rfl) (by kernel_rfl) (tontineref03_Text_ok n ((rdL l_1 i_6).Name)) [[0]] [] [] [] (hks := []) (bks := [0]) (by kernel_rfl) (by kernel_rfl) (by kernel_rfl) (.inl rfl) rfl rfl (by kernel_rfl) (by kernel_rfl) _ (fun _ _ => rfl) _ _ (fun _ _ => rfl) (fun _ _ => rfl) (fun _ _ => by kernel_rfl) (fun _ _ => by kernel_rfl) (fun r_12 x_18 => ⟨rfl, rfl, ?_⟩))
      refine GoF.shape (env' := [(0, .slice A_2 l_1.length c_3), (4, vI i_6), (15, .string (bs s_5)), (21, vU (wu64 ((rdL l_1 i_6).Part))), (22, .string (bs r_11)), (27, .string (bs ((rdL l_1 i_6).Name))), (28, .string (bs r_12)), (35, vU (wu64 ((rdL l_1 i_6).Budget)))]) (H' := []) (B' := [Rd 0 kT_api_Step A_2 c_3 l_1]) (ks := [0, 4, 15, 21, 22, 27, 28, 35]) (by kernel_rfl) (by kernel_rfl) (by kernel_rfl) ?_
      refine GoF.guard (fun h13 => ?_)
      refine GoF.take [14] [.p] (ks := [0, 4, 15, 29, 35]) (fu := 4) (li := [true, true, true, true, true, true, true, true, true, true, true, true, true, true, true, true, true, true, true, true, true, false, false, false, false]) (env' := [(0, .slice A_2 l_1.length c_3), (4, vI i_6), (15, .string (bs s_5)), (29, .string (bs (r_11 ++ r_12))), (35, vU (wu64 ((rdL l_1 i_6).Budget)))]) (ps := [r_11.length + r_12.length ≤ i64max]) (hk := []) (bk := [0]) (by kernel_rfl) (And.intro h13 trivial) rfl rfl ?_
      refine OpTo.goF (i := 21) (by kernel_rfl) (hk := []) (bk := [0]) (GoO.call rfl (by kernel_rfl) (by kernel_rfl) (tontineref03_Num_ok n (wu64 ((rdL l_1 i_6).Budget))) [[0]] [] [] [] (hks := []) (bks := [0]) (by kernel_rfl) (by kernel_rfl) (by kernel_rfl) (.inl rfl) rfl rfl (by kernel_rfl) (by kernel_rfl) _ (fun _ _ => rfl) _ _ (fun _ _ => rfl) (fun _ _ => rfl) (fun _ _ => by kernel_rfl) (fun _ _ => by kernel_rfl) (fun r_14 x_17 => ⟨rfl, rfl, ?_⟩))
      refine GoF.shape (env' := [(0, .slice A_2 l_1.length c_3), (4, vI i_6), (15, .string (bs s_5)), (29, .string (bs (r_11 ++ r_12))), (35, vU (wu64 ((rdL l_1 i_6).Budget))), (36, .string (bs r_14))]) (H' := []) (B' := [Rd 0 kT_api_Step A_2 c_3 l_1]) (ks := [0, 4, 15, 29, 35, 36]) (by kernel_rfl) (by kernel_rfl) (by kernel_rfl) ?_
      refine GoF.guard (fun h15 => ?_)
      refine GoF.guard (fun h16 => ?_)
      refine GoF.take [22, 23] [.p, .p] (ks := [0, 4, 38]) (fu := 1) (li := [true, true, true, true, true, true, true, true, true, true, true, true, true, true, true, true, true, true, true, true, true, true, true, true, false]) (env' := [(0, .slice A_2 l_1.length c_3), (4, vI i_6), (38, .string (bs (s_5 ++ ((r_11 ++ r_12) ++ r_14))))]) (ps := [(r_11 ++ r_12).length + r_14.length ≤ i64max, s_5.length + ((r_11 ++ r_12) ++ r_14).length ≤ i64max]) (hk := []) (bk := [0]) (by kernel_rfl) (And.intro h15 (And.intro h16 trivial)) rfl rfl ?_
      refine GoF.fin1 (i := 24) (hint := .p) (ps := []) (hk := []) (bk := []) (by kernel_rfl) rfl trivial (.inl rfl) ?_
      refine GoF.done (by kernel_rfl) ?_
      refine GoO.inBlock ?_
      refine GoO.region' (is := [0, 1, 2]) c93_18e (by kernel_rfl) ?_
      refine GoO.exec (is := [0, 1, 2]) (hs := [.p, .p, .p]) (rest := []) (ks := [0, 3, 4]) (env' := [(0, .slice A_2 l_1.length c_3), (3, .string (bs (s_5 ++ ((r_11 ++ r_12) ++ r_14)))), (4, vI (wi64 (i_6 + 1)))]) (H' := []) (ps := []) (by kernel_rfl) trivial ?_
      refine GoO.regionEnd ?_
      refine GoO.inLoop ?_
      exact GoO.sub (ks := [0, 3, 4]) (hk := []) (bk := [0]) (by kernel_rfl) (by kernel_rfl) (by kernel_rfl) (ih0 (s_5 ++ ((r_11 ++ r_12) ++ r_14)) (wi64 (i_6 + 1)))
    · refine GoO.exit' c93_14e rfl ?_
      refine GoO.seq' c93_19e ?_
      refine GoO.region' (is := [0, 1]) c93_20e (by kernel_rfl) ?_
      refine GoO.exec (is := [0, 1]) (hs := [.p, .p]) (rest := []) (ks := [2]) (env' := [(2, .string (bs s_5))]) (H' := []) (ps := []) (by kernel_rfl) trivial ?_
      refine GoO.regionEnd ?_
      exact GoO.ret' (h := c93_21e) (hs := []) (ps := []) (hk := []) (bk := []) Try.func93 () (by kernel_rfl) trivial (by kernel_rfl) (by kernel_rfl)
theorem tontineref13_Bytes_ok (n : Nat) (l_1 : (List T_api_Step)) (A_2 : Option Addr) (c_3 : Nat) :
    Meets Try.prog 93 [.slice A_2 l_1.length c_3] 0 [] [] [Rd 0 kT_api_Step A_2 c_3 l_1] (tontineref13_Bytes.f n l_1) (tontineref13_Bytes.R A_2 c_3) := by
  refine Meets.of (c := c93_0) (n := 40) Try.func93 (by kernel_rfl) (by kernel_rfl) (by kernel_rfl) fun w0 S0 => ?_
  unfold tontineref13_Bytes.f
  show GoO (tontineref13_Bytes.cx A_2 c_3 w0 S0) [(0, .slice A_2 l_1.length c_3)] [] [Rd 0 kT_api_Step A_2 c_3 l_1] [.code c93_0] _
  refine GoO.seq' c93_0e ?_
  refine GoO.region' (is := [0]) c93_1e (by kernel_rfl) ?_
  refine GoO.exec (is := [0]) (hs := [.p]) (rest := []) (ks := [0]) (env' := [(0, .slice A_2 l_1.length c_3)]) (H' := []) (ps := []) (by kernel_rfl) trivial ?_
  refine GoO.regionEnd ?_
  refine GoO.seq' c93_2e ?_
  refine GoO.region' (is := [0, 1, 2, 3, 4]) c93_3e (by kernel_rfl) ?_
  refine GoO.exec (is := [0, 1, 2]) (hs := [.p, .p, .p]) (rest := [3, 4]) (ks := [0, 7]) (env' := [(0, .slice A_2 l_1.length c_3), (7, vU (wu64 (l_1.length : Int)))]) (H' := []) (ps := []) (by kernel_rfl) trivial ?_
  refine OpTo.go (GoO.call rfl (by kernel_rfl) (by kernel_rfl) (tontineref03_Num_ok n (wu64 (l_1.length : Int))) [[0]] [] [] [] (hks := []) (bks := [0]) (by kernel_rfl) (by kernel_rfl) (by kernel_rfl) (.inl rfl) rfl rfl (by kernel_rfl) (by kernel_rfl) _ (fun _ _ => rfl) _ _ (fun _ _ => rfl) (fun _ _ => rfl) (fun _ _ => by kernel_rfl) (fun _ _ => by kernel_rfl) (fun r_4 x_20 => ?_))
  refine GoO.shape (env' := [(0, .slice A_2 l_1.length c_3), (7, vU (wu64 (l_1.length : Int))), (8, .string (bs r_4))]) (H' := []) (B' := [Rd 0 kT_api_Step A_2 c_3 l_1]) (ks := [0, 7, 8]) (by kernel_rfl) (by kernel_rfl) (by kernel_rfl) ?_
  refine GoO.exec (is := [4]) (hs := [.p]) (rest := []) (ks := [0, 3]) (env' := [(0, .slice A_2 l_1.length c_3), (3, .string (bs r_4))]) (H' := []) (ps := []) (by kernel_rfl) trivial ?_
  refine GoO.regionEnd ?_
  refine GoO.seq' c93_4e ?_
  refine GoO.seq' c93_5e ?_
  refine GoO.region' (is := [0]) c93_6e (by kernel_rfl) ?_
  refine GoO.exec (is := [0]) (hs := [.p]) (rest := []) (ks := [0, 3, 4]) (env' := [(0, .slice A_2 l_1.length c_3), (3, .string (bs r_4)), (4, vI 0)]) (H' := []) (ps := []) (by kernel_rfl) trivial ?_
  refine GoO.regionEnd ?_
  refine GoO.block' c93_7e ?_
  refine GoO.loop' c93_8e ?_
  exact GoO.sub (ks := [0, 3, 4]) (hk := []) (bk := [0]) (by kernel_rfl) (by kernel_rfl) (by kernel_rfl) (tontineref13_Bytes_l0_ok n l_1 A_2 c_3 w0 S0 n r_4 0)
/-! tontine/tontineref16.truth -/
noncomputable def c94_0 : Code := bodyOf Try.f94
noncomputable def c94_1 : Code := cdL c94_0
noncomputable def c94_2 : Code := cdR c94_0
noncomputable def c94_3 : Code := cdL c94_2
noncomputable def c94_4 : Code := cdL c94_3
noncomputable def c94_5 : Code := cdR c94_3
noncomputable def c94_6 : Code := cdL c94_5
noncomputable def c94_7 : Code := cdL c94_6
noncomputable def c94_8 : Code := cdR c94_6
noncomputable def c94_9 : Code := cdR c94_5
noncomputable def c94_10 : Code := cdR c94_2
noncomputable def c94_11 : Code := cdL c94_10
noncomputable def c94_12 : Code := cdR c94_10
noncomputable def r94_1 : Array Oper := cdO c94_1
noncomputable def r94_4 : Array Oper := cdO c94_4
noncomputable def r94_7 : Array Oper := cdO c94_7
noncomputable def r94_11 : Array Oper := cdO c94_11
theorem c94_0e : c94_0 = .seq c94_1 c94_2 := by kernel_rfl
theorem c94_1e : c94_1 = .region 0 r94_1 false := by kernel_rfl
theorem c94_2e : c94_2 = .seq c94_3 c94_10 := by kernel_rfl
theorem c94_3e : c94_3 = .seq c94_4 c94_5 := by kernel_rfl
theorem c94_4e : c94_4 = .region 1 r94_4 false := by kernel_rfl
theorem c94_5e : c94_5 = .cond (cdC c94_5) c94_6 c94_9 := by kernel_rfl
theorem c94_6e : c94_6 = .seq c94_7 c94_8 := by kernel_rfl
theorem c94_7e : c94_7 = .region 2 r94_7 false := by kernel_rfl
theorem c94_8e : c94_8 = .ret := by kernel_rfl
theorem c94_9e : c94_9 = .skip := by kernel_rfl
theorem c94_10e : c94_10 = .seq c94_11 c94_12 := by kernel_rfl
theorem c94_11e : c94_11 = .region 3 r94_11 false := by kernel_rfl
theorem c94_12e : c94_12 = .ret := by kernel_rfl
noncomputable def tontineref16_truth.R : Pst Int where
  ε := Unit
  v := fun r x => vU r
  H := fun r x => []
  B := fun r x => []
noncomputable def tontineref16_truth.cx (w0 : World) (S0 : Fam) : Cx Int := ⟨Try.prog, 94, Try.f94, 4, w0, S0, [], 0, tontineref16_truth.R⟩
theorem tontineref16_truth_ok (n : Nat) (x_1 : Bool) :
    Meets Try.prog 94 [.bool x_1] 0 [] [] [] (tontineref16_truth.f n x_1) (tontineref16_truth.R) := by
  refine Meets.of (c := c94_0) (n := 4) Try.func94 (by kernel_rfl) (by kernel_rfl) (by kernel_rfl) fun w0 S0 => ?_
  unfold tontineref16_truth.f
  show GoO (tontineref16_truth.cx w0 S0) [(0, .bool x_1)] [] [] [.code c94_0] _
  refine GoO.seq' c94_0e ?_
  refine GoO.region' (is := [0]) c94_1e (by kernel_rfl) ?_
  refine GoO.exec (is := [0]) (hs := [.p]) (rest := []) (ks := [0]) (env' := [(0, .bool x_1)]) (H' := []) (ps := []) (by kernel_rfl) trivial ?_
  refine GoO.regionEnd ?_
  refine GoO.seq' c94_2e ?_
  refine GoO.seq' c94_3e ?_
  refine GoO.region' (is := [0]) c94_4e (by kernel_rfl) ?_
  refine GoO.exec (is := [0]) (hs := [.p]) (rest := []) (ks := [3]) (env' := [(3, .bool x_1)]) (H' := []) (ps := []) (by kernel_rfl) trivial ?_
  refine GoO.regionEnd ?_
  refine GoO.ite' c94_5e (by kernel_rfl) (fun h2 => ?_) (fun h2 => ?_)
  · refine GoO.seq' c94_6e ?_
    refine GoO.region' (is := [0]) c94_7e (by kernel_rfl) ?_
    refine GoO.exec (is := [0]) (hs := [.p]) (rest := []) (ks := [2]) (env' := [(2, vU 1)]) (H' := []) (ps := []) (by kernel_rfl) trivial ?_
    refine GoO.regionEnd ?_
    exact GoO.ret' (h := c94_8e) (hs := []) (ps := []) (hk := []) (bk := []) Try.func94 () (by kernel_rfl) trivial (by kernel_rfl) (by kernel_rfl)
  · refine GoO.skip' c94_9e ?_
    refine GoO.seq' c94_10e ?_
    refine GoO.region' (is := [0]) c94_11e (by kernel_rfl) ?_
    refine GoO.exec (is := [0]) (hs := [.p]) (rest := []) (ks := [2]) (env' := [(2, vU 0)]) (H' := []) (ps := []) (by kernel_rfl) trivial ?_
    refine GoO.regionEnd ?_
    exact GoO.ret' (h := c94_12e) (hs := []) (ps := []) (hk := []) (bk := []) Try.func94 () (by kernel_rfl) trivial (by kernel_rfl) (by kernel_rfl)
/-! tontine/tontineref16.Encode -/
noncomputable def c74_0 : Code := bodyOf Try.f74
noncomputable def c74_1 : Code := cdL c74_0
noncomputable def c74_2 : Code := cdR c74_0
noncomputable def c74_3 : Code := cdL c74_2
noncomputable def c74_4 : Code := cdL c74_3
noncomputable def c74_5 : Code := cdR c74_3
noncomputable def c74_6 : Code := cdL c74_5
noncomputable def c74_7 : Code := cdL c74_6
noncomputable def c74_8 : Code := cdR c74_6
noncomputable def c74_9 : Code := cdR c74_5
noncomputable def c74_10 : Code := cdR c74_2
noncomputable def c74_11 : Code := cdL c74_10
noncomputable def c74_12 : Code := cdL c74_11
noncomputable def c74_13 : Code := cdR c74_11
noncomputable def c74_14 : Code := cdL c74_13
noncomputable def c74_15 : Code := cdL c74_14
noncomputable def c74_16 : Code := cdR c74_14
noncomputable def c74_17 : Code := cdR c74_13
noncomputable def c74_18 : Code := cdR c74_10
noncomputable def c74_19 : Code := cdL c74_18
noncomputable def c74_20 : Code := cdR c74_18
noncomputable def c74_21 : Code := cdL c74_20
noncomputable def c74_22 : Code := cdL c74_21
noncomputable def c74_23 : Code := cdR c74_21
noncomputable def c74_24 : Code := cdL c74_23
noncomputable def c74_25 : Code := cdR c74_23
noncomputable def c74_26 : Code := cdR c74_20
noncomputable def c74_27 : Code := cdL c74_26
noncomputable def c74_28 : Code := cdL c74_27
noncomputable def c74_29 : Code := cdR c74_27
noncomputable def c74_30 : Code := cdL c74_29
noncomputable def c74_31 : Code := cdR c74_29
noncomputable def c74_32 : Code := cdR c74_26
noncomputable def c74_33 : Code := cdL c74_32
noncomputable def c74_34 : Code := cdR c74_32
noncomputable def r74_1 : Array Oper := cdO c74_1
noncomputable def r74_4 : Array Oper := cdO c74_4
noncomputable def r74_7 : Array Oper := cdO c74_7
noncomputable def r74_12 : Array Oper := cdO c74_12
noncomputable def r74_15 : Array Oper := cdO c74_15
noncomputable def r74_19 : Array Oper := cdO c74_19
noncomputable def r74_22 : Array Oper := cdO c74_22
noncomputable def r74_24 : Array Oper := cdO c74_24
noncomputable def r74_28 : Array Oper := cdO c74_28
noncomputable def r74_30 : Array Oper := cdO c74_30
noncomputable def r74_33 : Array Oper := cdO c74_33
theorem c74_0e : c74_0 = .seq c74_1 c74_2 := by kernel_rfl
theorem c74_1e : c74_1 = .region 0 r74_1 false := by kernel_rfl
theorem c74_2e : c74_2 = .seq c74_3 c74_10 := by kernel_rfl
theorem c74_3e : c74_3 = .seq c74_4 c74_5 := by kernel_rfl
theorem c74_4e : c74_4 = .region 1 r74_4 false := by kernel_rfl
theorem c74_5e : c74_5 = .cond (cdC c74_5) c74_6 c74_9 := by kernel_rfl
theorem c74_6e : c74_6 = .seq c74_7 c74_8 := by kernel_rfl
theorem c74_7e : c74_7 = .region 2 r74_7 false := by kernel_rfl
theorem c74_8e : c74_8 = .ret := by kernel_rfl
theorem c74_9e : c74_9 = .skip := by kernel_rfl
theorem c74_10e : c74_10 = .seq c74_11 c74_18 := by kernel_rfl
theorem c74_11e : c74_11 = .seq c74_12 c74_13 := by kernel_rfl
theorem c74_12e : c74_12 = .region 3 r74_12 false := by kernel_rfl
theorem c74_13e : c74_13 = .cond (cdC c74_13) c74_14 c74_17 := by kernel_rfl
theorem c74_14e : c74_14 = .seq c74_15 c74_16 := by kernel_rfl
theorem c74_15e : c74_15 = .region 4 r74_15 false := by kernel_rfl
theorem c74_16e : c74_16 = .ret := by kernel_rfl
theorem c74_17e : c74_17 = .skip := by kernel_rfl
theorem c74_18e : c74_18 = .seq c74_19 c74_20 := by kernel_rfl
theorem c74_19e : c74_19 = .region 5 r74_19 false := by kernel_rfl
theorem c74_20e : c74_20 = .seq c74_21 c74_26 := by kernel_rfl
theorem c74_21e : c74_21 = .seq c74_22 c74_23 := by kernel_rfl
theorem c74_22e : c74_22 = .region 6 r74_22 false := by kernel_rfl
theorem c74_23e : c74_23 = .cond (cdC c74_23) c74_24 c74_25 := by kernel_rfl
theorem c74_24e : c74_24 = .region 7 r74_24 false := by kernel_rfl
theorem c74_25e : c74_25 = .skip := by kernel_rfl
theorem c74_26e : c74_26 = .seq c74_27 c74_32 := by kernel_rfl
theorem c74_27e : c74_27 = .seq c74_28 c74_29 := by kernel_rfl
theorem c74_28e : c74_28 = .region 8 r74_28 false := by kernel_rfl
theorem c74_29e : c74_29 = .cond (cdC c74_29) c74_30 c74_31 := by kernel_rfl
theorem c74_30e : c74_30 = .region 9 r74_30 true := by kernel_rfl
theorem c74_31e : c74_31 = .skip := by kernel_rfl
theorem c74_32e : c74_32 = .seq c74_33 c74_34 := by kernel_rfl
theorem c74_33e : c74_33 = .region 10 r74_33 false := by kernel_rfl
theorem c74_34e : c74_34 = .ret := by kernel_rfl
noncomputable def tontineref16_Encode.R (A_2 : Option Addr) (c_3 : Nat) : Pst ((List UInt8) × Int) where
  ε := Unit
  v := fun r x => .tuple ⟨[.string (bs r.1), vI r.2]⟩
  H := fun r x => []
  B := fun r x => []
noncomputable def tontineref16_Encode.cx (A_2 : Option Addr) (c_3 : Nat) (w0 : World) (S0 : Fam) : Cx ((List UInt8) × Int) := ⟨Try.prog, 74, Try.f74, 58, w0, S0, [], 0, tontineref16_Encode.R A_2 c_3⟩
theorem tontineref16_Encode_j1_ok (n : Nat) (c_1 : T_api_Command) (A_2 : Option Addr) (c_3 : Nat) (b_4 : Nat) (w0 : World) (S0 : Fam) (s_17 : (List UInt8)) :
    GoO (tontineref16_Encode.cx A_2 c_3 w0 S0) [(1, vP b_4), (4, .string (bs s_17))] [⟨40, b_4, [vI c_1.Kind, vU c_1.Session, vU c_1.Seq, vU c_1.Saga, .slice A_2 c_1.Steps.length c_3, vI c_1.Step, .bool c_1.Back, vI c_1.Try, .bool c_1.Ok, vU c_1.Now]⟩] [Rd 0 kT_api_Step A_2 c_3 c_1.Steps] [.code c74_26] (tontineref16_Encode.j1 n c_1 s_17) := by
  unfold tontineref16_Encode.j1
  refine GoO.seq' c74_26e ?_
  refine GoO.seq' c74_27e ?_
  refine GoO.region' (is := [0, 1, 2]) c74_28e (by kernel_rfl) ?_
  refine GoO.exec (is := [0, 1, 2]) (hs := [.p, .b 0, .p]) (rest := []) (ks := [1, 4, 40]) (env' := [(1, vP b_4), (4, .string (bs s_17)), (40, .bool (c_1.Kind == 4))]) (H' := [⟨40, b_4, [vI c_1.Kind, vU c_1.Session, vU c_1.Seq, vU c_1.Saga, .slice A_2 c_1.Steps.length c_3, vI c_1.Step, .bool c_1.Back, vI c_1.Try, .bool c_1.Ok, vU c_1.Now]⟩]) (ps := [b_4 = b_4]) (by kernel_rfl) (And.intro rfl trivial) ?_
  refine GoO.regionEnd ?_
  refine GoO.ite' c74_29e (by kernel_rfl) (fun h18 => ?_) (fun h18 => ?_)
  · refine GoO.draw c74_30e (by kernel_rfl) [16] [⟨40, b_4, [vI c_1.Kind, vU c_1.Session, vU c_1.Seq, vU c_1.Saga, .slice A_2 c_1.Steps.length c_3, vI c_1.Step, .bool c_1.Back, vI c_1.Try, .bool c_1.Ok, vU c_1.Now]⟩] [] (n := 17) (by kernel_rfl) ?_
    simp only [List.replicate]
    refine GoF.take [0, 1, 2, 3, 4, 5, 7, 8, 9, 10, 11] [.p, .p, .b 0, .p, .p, .b 0, .p, .b 0, .p, .p, .b 0] (ks := [41, 44, 46, 50, 52]) (fu := 6) (li := [true, true, true, true, true, true, false, true, true, true, true, true, false, false, false, false, false]) (env' := [(41, .string (bs s_17)), (44, vU (wu64 c_1.Step)), (46, .bool c_1.Back), (50, vU (wu64 c_1.Try)), (52, .bool c_1.Ok)]) (ps := [b_4 = b_4, b_4 = b_4, b_4 = b_4, b_4 = b_4]) (hk := [0]) (bk := []) (by kernel_rfl) (And.intro rfl (And.intro rfl (And.intro rfl (And.intro rfl trivial)))) rfl rfl ?_
    refine OpTo.goF (i := 6) (by kernel_rfl) (hk := [0]) (bk := []) (GoO.call rfl (by kernel_rfl) (by kernel_rfl) (tontineref16_truth_ok n c_1.Back) [[0]] [] [] [] (hks := [0]) (bks := [0]) (by kernel_rfl) (by kernel_rfl) (by kernel_rfl) (.inl rfl) rfl rfl (by kernel_rfl) (by kernel_rfl) _ (fun _ _ => rfl) _ _ (fun _ _ => rfl) (fun _ _ => rfl) (fun _ _ => by kernel_rfl) (fun _ _ => by kernel_rfl) (fun r_19 x_27 => ⟨rfl, rfl, ?_⟩))
    refine GoF.shape (env' := [(41, .string (bs s_17)), (44, vU (wu64 c_1.Step)), (46, .bool c_1.Back), (47, vU r_19), (50, vU (wu64 c_1.Try)), (52, .bool c_1.Ok)]) (H' := [⟨40, b_4, [vI c_1.Kind, vU c_1.Session, vU c_1.Seq, vU c_1.Saga, .slice A_2 c_1.Steps.length c_3, vI c_1.Step, .bool c_1.Back, vI c_1.Try, .bool c_1.Ok, vU c_1.Now]⟩]) (B' := [Rd 0 kT_api_Step A_2 c_3 c_1.Steps]) (ks := [41, 44, 46, 47, 50, 52]) (by kernel_rfl) (by kernel_rfl) (by kernel_rfl) ?_
    refine OpTo.goF (i := 12) (by kernel_rfl) (hk := [0]) (bk := []) (GoO.call rfl (by kernel_rfl) (by kernel_rfl) (tontineref16_truth_ok n c_1.Ok) [[0]] [] [] [] (hks := [0]) (bks := [0]) (by kernel_rfl) (by kernel_rfl) (by kernel_rfl) (.inl rfl) rfl rfl (by kernel_rfl) (by kernel_rfl) _ (fun _ _ => rfl) _ _ (fun _ _ => rfl) (fun _ _ => rfl) (fun _ _ => by kernel_rfl) (fun _ _ => by kernel_rfl) (fun r_20 x_26 => ⟨rfl, rfl, ?_⟩))
    refine GoF.shape (env' := [(41, .string (bs s_17)), (44, vU (wu64 c_1.Step)), (46, .bool c_1.Back), (47, vU r_19), (50, vU (wu64 c_1.Try)), (52, .bool c_1.Ok), (53, vU r_20)]) (H' := [⟨40, b_4, [vI c_1.Kind, vU c_1.Session, vU c_1.Seq, vU c_1.Saga, .slice A_2 c_1.Steps.length c_3, vI c_1.Step, .bool c_1.Back, vI c_1.Try, .bool c_1.Ok, vU c_1.Now]⟩]) (B' := [Rd 0 kT_api_Step A_2 c_3 c_1.Steps]) (ks := [41, 44, 46, 47, 50, 52, 53]) (by kernel_rfl) (by kernel_rfl) (by kernel_rfl) ?_
    refine OpTo.goF (i := 13) (by kernel_rfl) (hk := [0]) (bk := []) (GoO.lit (e := 22) (K := (Kd.int .u64)) rfl (by kernel_rfl) (by kernel_rfl) (cs := [vU (wu64 c_1.Step), vU r_19, vU (wu64 c_1.Try), vU r_20]) (by kernel_rfl) [wu64 c_1.Step, r_19, wu64 c_1.Try, r_20] (by kernel_rfl) (by kernel_rfl) (fun w S hB => ⟨[vU (wu64 c_1.Step)], _, rfl, rfl, ⟨[vU r_19], _, rfl, rfl, ⟨[vU (wu64 c_1.Try)], _, rfl, rfl, ⟨[vU r_20], _, rfl, rfl, rfl⟩⟩⟩⟩) 42 _ (fun _ _ => rfl) (fun A_21 c_22 => ⟨rfl, rfl, ?_⟩))
    refine GoF.view (j := 0) rfl ?_
    refine OpTo.goF (i := 14) (by kernel_rfl) (hk := [0]) (bk := []) (GoO.call rfl (by kernel_rfl) (by kernel_rfl) (tontineref16_nums_ok n [wu64 c_1.Step, r_19, wu64 c_1.Try, r_20] A_21 c_22) [[0, 42]] [] [] [(0, 2)] (hks := [0]) (bks := [0, 1]) (by kernel_rfl) (by kernel_rfl) (by kernel_rfl) (.inr (fun _ _ => by simp [tontineref16_nums.R])) rfl rfl (by kernel_rfl) (by kernel_rfl) _ (fun _ _ => rfl) _ _ (fun _ _ => rfl) (fun _ _ => rfl) (fun _ _ => by kernel_rfl) (fun _ _ => by kernel_rfl) (fun r_23 x_25 => ⟨rfl, rfl, ?_⟩))
    refine GoF.shape (env' := [(41, .string (bs s_17)), (44, vU (wu64 c_1.Step)), (46, .bool c_1.Back), (47, vU r_19), (50, vU (wu64 c_1.Try)), (52, .bool c_1.Ok), (53, vU r_20), (54, .slice A_21 [wu64 c_1.Step, r_19, wu64 c_1.Try, r_20].length c_22), (55, .string (bs r_23))]) (H' := [⟨40, b_4, [vI c_1.Kind, vU c_1.Session, vU c_1.Seq, vU c_1.Saga, .slice A_2 c_1.Steps.length c_3, vI c_1.Step, .bool c_1.Back, vI c_1.Try, .bool c_1.Ok, vU c_1.Now]⟩]) (B' := [Ow 42 (Kd.int .u64) A_21 c_22 [wu64 c_1.Step, r_19, wu64 c_1.Try, r_20], Rd 0 kT_api_Step A_2 c_3 c_1.Steps]) (ks := [41, 44, 46, 47, 50, 52, 53, 54, 55]) (by kernel_rfl) (by kernel_rfl) (by kernel_rfl) ?_
    refine GoF.guard (fun h24 => ?_)
    refine GoF.take [15] [.p] (ks := [56]) (fu := 1) (li := [true, true, true, true, true, true, true, true, true, true, true, true, true, true, true, true, false]) (env' := [(56, .string (bs (s_17 ++ r_23)))]) (ps := [s_17.length + r_23.length ≤ i64max]) (hk := [0]) (bk := []) (by kernel_rfl) (And.intro h24 trivial) rfl rfl ?_
    refine GoF.fin1 (i := 16) (hint := .p) (ps := []) (hk := []) (bk := []) (by kernel_rfl) rfl trivial (.inl rfl) ?_
    refine GoF.done (by kernel_rfl) ?_
    refine GoO.seq' c74_32e ?_
    refine GoO.region' (is := [0, 1, 2]) c74_33e (by kernel_rfl) ?_
    refine GoO.exec (is := [0, 1, 2]) (hs := [.p, .p, .p]) (rest := []) (ks := [2, 3]) (env' := [(2, .string (bs (s_17 ++ r_23))), (3, vI 0)]) (H' := [⟨40, b_4, [vI c_1.Kind, vU c_1.Session, vU c_1.Seq, vU c_1.Saga, .slice A_2 c_1.Steps.length c_3, vI c_1.Step, .bool c_1.Back, vI c_1.Try, .bool c_1.Ok, vU c_1.Now]⟩]) (ps := []) (by kernel_rfl) trivial ?_
    refine GoO.regionEnd ?_
    exact GoO.ret' (h := c74_34e) (hs := []) (ps := []) (hk := []) (bk := []) Try.func74 () (by kernel_rfl) trivial (by kernel_rfl) (by kernel_rfl)
  · refine GoO.skip' c74_31e ?_
    refine GoO.seq' c74_32e ?_
    refine GoO.region' (is := [0, 1, 2]) c74_33e (by kernel_rfl) ?_
    refine GoO.exec (is := [0, 1, 2]) (hs := [.p, .p, .p]) (rest := []) (ks := [2, 3]) (env' := [(2, .string (bs s_17)), (3, vI 0)]) (H' := [⟨40, b_4, [vI c_1.Kind, vU c_1.Session, vU c_1.Seq, vU c_1.Saga, .slice A_2 c_1.Steps.length c_3, vI c_1.Step, .bool c_1.Back, vI c_1.Try, .bool c_1.Ok, vU c_1.Now]⟩]) (ps := []) (by kernel_rfl) trivial ?_
    refine GoO.regionEnd ?_
    exact GoO.ret' (h := c74_34e) (hs := []) (ps := []) (hk := []) (bk := []) Try.func74 () (by kernel_rfl) trivial (by kernel_rfl) (by kernel_rfl)
theorem tontineref16_Encode_j0_ok (n : Nat) (c_1 : T_api_Command) (A_2 : Option Addr) (c_3 : Nat) (b_4 : Nat) (w0 : World) (S0 : Fam) (b_7 : Bool) :
    GoO (tontineref16_Encode.cx A_2 c_3 w0 S0) [(1, vP b_4), (13, .bool b_7)] [⟨40, b_4, [vI c_1.Kind, vU c_1.Session, vU c_1.Seq, vU c_1.Saga, .slice A_2 c_1.Steps.length c_3, vI c_1.Step, .bool c_1.Back, vI c_1.Try, .bool c_1.Ok, vU c_1.Now]⟩] [Rd 0 kT_api_Step A_2 c_3 c_1.Steps] [.code c74_5, .code c74_10] (tontineref16_Encode.j0 n c_1 b_7) := by
  unfold tontineref16_Encode.j0
  refine GoO.ite' c74_5e (by kernel_rfl) (fun h8 => ?_) (fun h8 => ?_)
  · refine GoO.seq' c74_6e ?_
    refine GoO.region' (is := [0, 1]) c74_7e (by kernel_rfl) ?_
    refine GoO.exec (is := [0, 1]) (hs := [.p, .p]) (rest := []) (ks := [2, 3]) (env' := [(2, .string (bs [])), (3, vI 44)]) (H' := [⟨40, b_4, [vI c_1.Kind, vU c_1.Session, vU c_1.Seq, vU c_1.Saga, .slice A_2 c_1.Steps.length c_3, vI c_1.Step, .bool c_1.Back, vI c_1.Try, .bool c_1.Ok, vU c_1.Now]⟩]) (ps := []) (by kernel_rfl) trivial ?_
    refine GoO.regionEnd ?_
    exact GoO.ret' (h := c74_8e) (hs := []) (ps := []) (hk := []) (bk := []) Try.func74 () (by kernel_rfl) trivial (by kernel_rfl) (by kernel_rfl)
  · refine GoO.skip' c74_9e ?_
    refine GoO.seq' c74_10e ?_
    refine GoO.seq' c74_11e ?_
    refine GoO.region' (is := [0, 1, 2]) c74_12e (by kernel_rfl) ?_
    refine GoO.exec (is := [0]) (hs := [.b 0]) (rest := [1, 2]) (ks := [1, 14]) (env' := [(1, vP b_4), (14, .agg ⟨[vI c_1.Kind, vU c_1.Session, vU c_1.Seq, vU c_1.Saga, .slice A_2 c_1.Steps.length c_3, vI c_1.Step, .bool c_1.Back, vI c_1.Try, .bool c_1.Ok, vU c_1.Now]⟩)]) (H' := [⟨40, b_4, [vI c_1.Kind, vU c_1.Session, vU c_1.Seq, vU c_1.Saga, .slice A_2 c_1.Steps.length c_3, vI c_1.Step, .bool c_1.Back, vI c_1.Try, .bool c_1.Ok, vU c_1.Now]⟩]) (ps := [b_4 = b_4]) (by kernel_rfl) (And.intro rfl trivial) ?_
    refine OpTo.go (GoO.call rfl (by kernel_rfl) (by kernel_rfl) (tontineref16_May_ok n c_1 A_2 c_3) [[0]] [] [] [(0, 0)] (hks := [0]) (bks := [0]) (by kernel_rfl) (by kernel_rfl) (by kernel_rfl) (.inl rfl) rfl rfl (by kernel_rfl) (by kernel_rfl) _ (fun _ _ => rfl) _ _ (fun _ _ => rfl) (fun _ _ => rfl) (fun _ _ => by kernel_rfl) (fun _ _ => by kernel_rfl) (fun r_9 x_29 => ?_))
    refine GoO.shape (env' := [(1, vP b_4), (14, .agg ⟨[vI c_1.Kind, vU c_1.Session, vU c_1.Seq, vU c_1.Saga, .slice A_2 c_1.Steps.length c_3, vI c_1.Step, .bool c_1.Back, vI c_1.Try, .bool c_1.Ok, vU c_1.Now]⟩), (15, .bool r_9)]) (H' := [⟨40, b_4, [vI c_1.Kind, vU c_1.Session, vU c_1.Seq, vU c_1.Saga, .slice A_2 c_1.Steps.length c_3, vI c_1.Step, .bool c_1.Back, vI c_1.Try, .bool c_1.Ok, vU c_1.Now]⟩]) (B' := [Rd 0 kT_api_Step A_2 c_3 c_1.Steps]) (ks := [1, 14, 15]) (by kernel_rfl) (by kernel_rfl) (by kernel_rfl) ?_
    refine GoO.exec (is := [2]) (hs := [.p]) (rest := []) (ks := [1, 16]) (env' := [(1, vP b_4), (16, .bool (!r_9))]) (H' := [⟨40, b_4, [vI c_1.Kind, vU c_1.Session, vU c_1.Seq, vU c_1.Saga, .slice A_2 c_1.Steps.length c_3, vI c_1.Step, .bool c_1.Back, vI c_1.Try, .bool c_1.Ok, vU c_1.Now]⟩]) (ps := []) (by kernel_rfl) trivial ?_
    refine GoO.regionEnd ?_
    refine GoO.ite' c74_13e (by kernel_rfl) (fun h10 => ?_) (fun h10 => ?_)
    · refine GoO.seq' c74_14e ?_
      refine GoO.region' (is := [0, 1]) c74_15e (by kernel_rfl) ?_
      refine GoO.exec (is := [0, 1]) (hs := [.p, .p]) (rest := []) (ks := [2, 3]) (env' := [(2, .string (bs [])), (3, vI 1)]) (H' := [⟨40, b_4, [vI c_1.Kind, vU c_1.Session, vU c_1.Seq, vU c_1.Saga, .slice A_2 c_1.Steps.length c_3, vI c_1.Step, .bool c_1.Back, vI c_1.Try, .bool c_1.Ok, vU c_1.Now]⟩]) (ps := []) (by kernel_rfl) trivial ?_
      refine GoO.regionEnd ?_
      exact GoO.ret' (h := c74_16e) (hs := []) (ps := []) (hk := []) (bk := []) Try.func74 () (by kernel_rfl) trivial (by kernel_rfl) (by kernel_rfl)
    · refine GoO.skip' c74_17e ?_
      refine GoO.seq' c74_18e ?_
      refine GoO.region' (is := [0, 1, 2, 3, 4, 5, 6, 7, 8, 9, 10, 11, 12, 13]) c74_19e (by kernel_rfl) ?_
      refine GoO.exec (is := [0, 1, 2, 3, 4, 5, 6, 7, 8, 9, 10]) (hs := [.p, .b 0, .p, .p, .b 0, .p, .b 0, .p, .b 0, .p, .b 0]) (rest := [11, 12, 13]) (ks := [1, 19, 21, 23, 25, 27]) (env' := [(1, vP b_4), (19, vU (wu64 c_1.Kind)), (21, vU c_1.Session), (23, vU c_1.Seq), (25, vU c_1.Saga), (27, vU c_1.Now)]) (H' := [⟨40, b_4, [vI c_1.Kind, vU c_1.Session, vU c_1.Seq, vU c_1.Saga, .slice A_2 c_1.Steps.length c_3, vI c_1.Step, .bool c_1.Back, vI c_1.Try, .bool c_1.Ok, vU c_1.Now]⟩]) (ps := [b_4 = b_4, b_4 = b_4, b_4 = b_4, b_4 = b_4, b_4 = b_4]) (by kernel_rfl) (And.intro rfl (And.intro rfl (And.intro rfl (And.intro rfl (And.intro rfl trivial))))) ?_
      refine OpTo.go (GoO.lit (e := 22) (K := (Kd.int .u64)) rfl (by kernel_rfl) (by kernel_rfl) (cs := [vU (wu64 c_1.Kind), vU c_1.Session, vU c_1.Seq, vU c_1.Saga, vU c_1.Now]) (by kernel_rfl) [wu64 c_1.Kind, c_1.Session, c_1.Seq, c_1.Saga, c_1.Now] (by kernel_rfl) (by kernel_rfl) (fun w S hB => ⟨[vU (wu64 c_1.Kind)], _, rfl, rfl, ⟨[vU c_1.Session], _, rfl, rfl, ⟨[vU c_1.Seq], _, rfl, rfl, ⟨[vU c_1.Saga], _, rfl, rfl, ⟨[vU c_1.Now], _, rfl, rfl, rfl⟩⟩⟩⟩⟩) 41 _ (fun _ _ => rfl) (fun A_11 c_12 => ?_))
      refine GoO.view (j := 0) rfl ?_
      refine OpTo.go (GoO.call rfl (by kernel_rfl) (by kernel_rfl) (tontineref16_nums_ok n [wu64 c_1.Kind, c_1.Session, c_1.Seq, c_1.Saga, c_1.Now] A_11 c_12) [[0, 41]] [] [] [(0, 2)] (hks := [0]) (bks := [0, 1]) (by kernel_rfl) (by kernel_rfl) (by kernel_rfl) (.inr (fun _ _ => by simp [tontineref16_nums.R])) rfl rfl (by kernel_rfl) (by kernel_rfl) _ (fun _ _ => rfl) _ _ (fun _ _ => rfl) (fun _ _ => rfl) (fun _ _ => by kernel_rfl) (fun _ _ => by kernel_rfl) (fun r_13 x_28 => ?_))
      refine GoO.shape (env' := [(1, vP b_4), (19, vU (wu64 c_1.Kind)), (21, vU c_1.Session), (23, vU c_1.Seq), (25, vU c_1.Saga), (27, vU c_1.Now), (28, .slice A_11 [wu64 c_1.Kind, c_1.Session, c_1.Seq, c_1.Saga, c_1.Now].length c_12), (29, .string (bs r_13))]) (H' := [⟨40, b_4, [vI c_1.Kind, vU c_1.Session, vU c_1.Seq, vU c_1.Saga, .slice A_2 c_1.Steps.length c_3, vI c_1.Step, .bool c_1.Back, vI c_1.Try, .bool c_1.Ok, vU c_1.Now]⟩]) (B' := [Ow 41 (Kd.int .u64) A_11 c_12 [wu64 c_1.Kind, c_1.Session, c_1.Seq, c_1.Saga, c_1.Now], Rd 0 kT_api_Step A_2 c_3 c_1.Steps]) (ks := [1, 19, 21, 23, 25, 27, 28, 29]) (by kernel_rfl) (by kernel_rfl) (by kernel_rfl) ?_
      refine GoO.exec (is := [13]) (hs := [.p]) (rest := []) (ks := [1, 4]) (env' := [(1, vP b_4), (4, .string (bs r_13))]) (H' := [⟨40, b_4, [vI c_1.Kind, vU c_1.Session, vU c_1.Seq, vU c_1.Saga, .slice A_2 c_1.Steps.length c_3, vI c_1.Step, .bool c_1.Back, vI c_1.Try, .bool c_1.Ok, vU c_1.Now]⟩]) (ps := []) (by kernel_rfl) trivial ?_
      refine GoO.regionEnd ?_
      refine GoO.seq' c74_20e ?_
      refine GoO.seq' c74_21e ?_
      refine GoO.region' (is := [0, 1, 2]) c74_22e (by kernel_rfl) ?_
      refine GoO.exec (is := [0, 1, 2]) (hs := [.p, .b 0, .p]) (rest := []) (ks := [1, 4, 32]) (env' := [(1, vP b_4), (4, .string (bs r_13)), (32, .bool (c_1.Kind == 2))]) (H' := [⟨40, b_4, [vI c_1.Kind, vU c_1.Session, vU c_1.Seq, vU c_1.Saga, .slice A_2 c_1.Steps.length c_3, vI c_1.Step, .bool c_1.Back, vI c_1.Try, .bool c_1.Ok, vU c_1.Now]⟩]) (ps := [b_4 = b_4]) (by kernel_rfl) (And.intro rfl trivial) ?_
      refine GoO.regionEnd ?_
      refine GoO.ite' c74_23e (by kernel_rfl) (fun h14 => ?_) (fun h14 => ?_)
      · refine GoO.region' (is := [0, 1, 2, 3, 4, 5]) c74_24e (by kernel_rfl) ?_
        refine GoO.exec (is := [0, 1, 2]) (hs := [.p, .p, .b 0]) (rest := [3, 4, 5]) (ks := [1, 33, 35]) (env' := [(1, vP b_4), (33, .string (bs r_13)), (35, .slice A_2 c_1.Steps.length c_3)]) (H' := [⟨40, b_4, [vI c_1.Kind, vU c_1.Session, vU c_1.Seq, vU c_1.Saga, .slice A_2 c_1.Steps.length c_3, vI c_1.Step, .bool c_1.Back, vI c_1.Try, .bool c_1.Ok, vU c_1.Now]⟩]) (ps := [b_4 = b_4]) (by kernel_rfl) (And.intro rfl trivial) ?_
        refine OpTo.go (GoO.call rfl (by kernel_rfl) (by kernel_rfl) (tontineref13_Bytes_ok n c_1.Steps A_2 c_3) [[0]] [] [] [(0, 1)] (hks := [0]) (bks := [0, 1]) (by kernel_rfl) (by kernel_rfl) (by kernel_rfl) (.inl rfl) rfl rfl (by kernel_rfl) (by kernel_rfl) _ (fun _ _ => rfl) _ _ (fun _ _ => rfl) (fun _ _ => rfl) (fun _ _ => by kernel_rfl) (fun _ _ => by kernel_rfl) (fun r_15 x_17 => ?_))
        refine GoO.shape (env' := [(1, vP b_4), (33, .string (bs r_13)), (35, .slice A_2 c_1.Steps.length c_3), (36, .string (bs r_15))]) (H' := [⟨40, b_4, [vI c_1.Kind, vU c_1.Session, vU c_1.Seq, vU c_1.Saga, .slice A_2 c_1.Steps.length c_3, vI c_1.Step, .bool c_1.Back, vI c_1.Try, .bool c_1.Ok, vU c_1.Now]⟩]) (B' := [Ow 41 (Kd.int .u64) A_11 c_12 [wu64 c_1.Kind, c_1.Session, c_1.Seq, c_1.Saga, c_1.Now], Rd 0 kT_api_Step A_2 c_3 c_1.Steps]) (ks := [1, 33, 35, 36]) (by kernel_rfl) (by kernel_rfl) (by kernel_rfl) ?_
        refine GoO.guard (fun h16 => ?_)
        refine GoO.exec (is := [4, 5]) (hs := [.p, .p]) (rest := []) (ks := [1, 4]) (env' := [(1, vP b_4), (4, .string (bs (r_13 ++ r_15)))]) (H' := [⟨40, b_4, [vI c_1.Kind, vU c_1.Session, vU c_1.Seq, vU c_1.Saga, .slice A_2 c_1.Steps.length c_3, vI c_1.Step, .bool c_1.Back, vI c_1.Try, .bool c_1.Ok, vU c_1.Now]⟩]) (ps := [r_13.length + r_15.length ≤ i64max]) (by kernel_rfl) (And.intro h16 trivial) ?_
        refine GoO.regionEnd ?_
        exact GoO.sub (ks := [1, 4]) (hk := [0]) (bk := [1]) (by kernel_rfl) (by kernel_rfl) (by kernel_rfl) (tontineref16_Encode_j1_ok n c_1 A_2 c_3 b_4 w0 S0 (r_13 ++ r_15))
      · refine GoO.skip' c74_25e ?_
        exact GoO.sub (ks := [1, 4]) (hk := [0]) (bk := [1]) (by kernel_rfl) (by kernel_rfl) (by kernel_rfl) (tontineref16_Encode_j1_ok n c_1 A_2 c_3 b_4 w0 S0 r_13)
theorem tontineref16_Encode_ok (n : Nat) (c_1 : T_api_Command) (A_2 : Option Addr) (c_3 : Nat) :
    Meets Try.prog 74 [.agg ⟨[vI c_1.Kind, vU c_1.Session, vU c_1.Seq, vU c_1.Saga, .slice A_2 c_1.Steps.length c_3, vI c_1.Step, .bool c_1.Back, vI c_1.Try, .bool c_1.Ok, vU c_1.Now]⟩] 0 [] [] [Rd 0 kT_api_Step A_2 c_3 c_1.Steps] (tontineref16_Encode.f n c_1) (tontineref16_Encode.R A_2 c_3) := by
  refine Meets.of (c := c74_0) (n := 58) Try.func74 (by kernel_rfl) (by kernel_rfl) (by kernel_rfl) fun w0 S0 => ?_
  unfold tontineref16_Encode.f
  show GoO (tontineref16_Encode.cx A_2 c_3 w0 S0) [(0, .agg ⟨[vI c_1.Kind, vU c_1.Session, vU c_1.Seq, vU c_1.Saga, .slice A_2 c_1.Steps.length c_3, vI c_1.Step, .bool c_1.Back, vI c_1.Try, .bool c_1.Ok, vU c_1.Now]⟩)] [] [Rd 0 kT_api_Step A_2 c_3 c_1.Steps] [.code c74_0] _
  refine GoO.seq' c74_0e ?_
  refine GoO.region' (is := [0, 1, 2]) c74_1e (by kernel_rfl) ?_
  refine OpTo.go (GoO.new rfl 40 (cs := [vI c_1.Kind, vU c_1.Session, vU c_1.Seq, vU c_1.Saga, .slice A_2 c_1.Steps.length c_3, vI c_1.Step, .bool c_1.Back, vI c_1.Try, .bool c_1.Ok, vU c_1.Now]) (by kernel_rfl) _ (fun _ => rfl) (fun b_4 => ?_))
  refine GoO.exec (is := [1, 2]) (hs := [.p, .p]) (rest := []) (ks := [1]) (env' := [(1, vP b_4)]) (H' := [⟨40, b_4, [vI c_1.Kind, vU c_1.Session, vU c_1.Seq, vU c_1.Saga, .slice A_2 c_1.Steps.length c_3, vI c_1.Step, .bool c_1.Back, vI c_1.Try, .bool c_1.Ok, vU c_1.Now]⟩]) (ps := []) (by kernel_rfl) trivial ?_
  refine GoO.regionEnd ?_
  refine GoO.seq' c74_2e ?_
  refine GoO.seq' c74_3e ?_
  refine GoO.region' (is := [0, 1, 2, 3, 4, 5, 6, 7, 8]) c74_4e (by kernel_rfl) ?_
  refine GoO.exec (is := [0, 1, 2, 3]) (hs := [.p, .b 0, .p, .p]) (rest := [4, 5, 6, 7, 8]) (ks := [1, 8]) (env' := [(1, vP b_4), (8, .bool (c_1.Kind == 2))]) (H' := [⟨40, b_4, [vI c_1.Kind, vU c_1.Session, vU c_1.Seq, vU c_1.Saga, .slice A_2 c_1.Steps.length c_3, vI c_1.Step, .bool c_1.Back, vI c_1.Try, .bool c_1.Ok, vU c_1.Now]⟩]) (ps := [b_4 = b_4]) (by kernel_rfl) (And.intro rfl trivial) ?_
  refine GoO.bsplit (t := 8) (by kernel_rfl) (fun h5 => ?_) (fun h5 => ?_)
  · refine GoO.exec (is := [4, 5]) (hs := [.p, .b 0]) (rest := [6, 7, 8]) (ks := [1, 8, 10]) (env' := [(1, vP b_4), (8, .bool true), (10, .slice A_2 c_1.Steps.length c_3)]) (H' := [⟨40, b_4, [vI c_1.Kind, vU c_1.Session, vU c_1.Seq, vU c_1.Saga, .slice A_2 c_1.Steps.length c_3, vI c_1.Step, .bool c_1.Back, vI c_1.Try, .bool c_1.Ok, vU c_1.Now]⟩]) (ps := [b_4 = b_4]) (by kernel_rfl) (And.intro rfl trivial) ?_
    refine OpTo.go (GoO.call rfl (by kernel_rfl) (by kernel_rfl) (tontineref13_Check_ok n c_1.Steps A_2 c_3) [[0]] [] [] [(0, 0)] (hks := [0]) (bks := [0]) (by kernel_rfl) (by kernel_rfl) (by kernel_rfl) (.inl rfl) rfl rfl (by kernel_rfl) (by kernel_rfl) _ (fun _ _ => rfl) _ _ (fun _ _ => rfl) (fun _ _ => rfl) (fun _ _ => by kernel_rfl) (fun _ _ => by kernel_rfl) (fun r_6 x_7 => ?_))
    refine GoO.shape (env' := [(1, vP b_4), (8, .bool true), (10, .slice A_2 c_1.Steps.length c_3), (11, vI r_6)]) (H' := [⟨40, b_4, [vI c_1.Kind, vU c_1.Session, vU c_1.Seq, vU c_1.Saga, .slice A_2 c_1.Steps.length c_3, vI c_1.Step, .bool c_1.Back, vI c_1.Try, .bool c_1.Ok, vU c_1.Now]⟩]) (B' := [Rd 0 kT_api_Step A_2 c_3 c_1.Steps]) (ks := [1, 8, 10, 11]) (by kernel_rfl) (by kernel_rfl) (by kernel_rfl) ?_
    refine GoO.exec (is := [7, 8]) (hs := [.p, .p]) (rest := []) (ks := [1, 13]) (env' := [(1, vP b_4), (13, .bool (r_6 != 0))]) (H' := [⟨40, b_4, [vI c_1.Kind, vU c_1.Session, vU c_1.Seq, vU c_1.Saga, .slice A_2 c_1.Steps.length c_3, vI c_1.Step, .bool c_1.Back, vI c_1.Try, .bool c_1.Ok, vU c_1.Now]⟩]) (ps := []) (by kernel_rfl) trivial ?_
    refine GoO.regionEnd ?_
    exact GoO.sub (ks := [1, 13]) (hk := [0]) (bk := [0]) (by kernel_rfl) (by kernel_rfl) (by kernel_rfl) (tontineref16_Encode_j0_ok n c_1 A_2 c_3 b_4 w0 S0 (r_6 != 0))
  · refine GoO.exec (is := [4, 5, 6, 7, 8]) (hs := [.p, .p, .p, .p, .p]) (rest := []) (ks := [1, 13]) (env' := [(1, vP b_4), (13, .bool false)]) (H' := [⟨40, b_4, [vI c_1.Kind, vU c_1.Session, vU c_1.Seq, vU c_1.Saga, .slice A_2 c_1.Steps.length c_3, vI c_1.Step, .bool c_1.Back, vI c_1.Try, .bool c_1.Ok, vU c_1.Now]⟩]) (ps := []) (by kernel_rfl) trivial ?_
    refine GoO.regionEnd ?_
    exact GoO.sub (ks := [1, 13]) (hk := [0]) (bk := [0]) (by kernel_rfl) (by kernel_rfl) (by kernel_rfl) (tontineref16_Encode_j0_ok n c_1 A_2 c_3 b_4 w0 S0 false)
/-! (*tontine/tontineref21.Client).letter -/
noncomputable def c78_0 : Code := bodyOf Try.f78
noncomputable def c78_1 : Code := cdL c78_0
noncomputable def c78_2 : Code := cdR c78_0
noncomputable def c78_3 : Code := cdL c78_2
noncomputable def c78_4 : Code := cdR c78_2
noncomputable def c78_5 : Code := cdL c78_4
noncomputable def c78_6 : Code := cdR c78_4
noncomputable def r78_1 : Array Oper := cdO c78_1
noncomputable def r78_3 : Array Oper := cdO c78_3
noncomputable def r78_5 : Array Oper := cdO c78_5
theorem c78_0e : c78_0 = .seq c78_1 c78_2 := by kernel_rfl
theorem c78_1e : c78_1 = .region 0 r78_1 false := by kernel_rfl
theorem c78_2e : c78_2 = .seq c78_3 c78_4 := by kernel_rfl
theorem c78_3e : c78_3 = .region 1 r78_3 false := by kernel_rfl
theorem c78_4e : c78_4 = .seq c78_5 c78_6 := by kernel_rfl
theorem c78_5e : c78_5 = .region 2 r78_5 true := by kernel_rfl
theorem c78_6e : c78_6 = .ret := by kernel_rfl
noncomputable def tontineref21_Client_letter.R (b_2 : Nat) (A_3 : Option Addr) (c_4 : Nat) : Pst T_api_Letter where
  ε := Option Addr × Nat
  v := fun r x => .agg ⟨[vI r.Kind, vI r.From, vI r.To, vU r.Term, vU r.Index, vU r.Prev, vU r.Commit, .bool r.Ok, .slice x.1 r.Entries.length x.2, .string (bs r.Data)]⟩
  H := fun r x => []
  B := fun r x => [Rd 0 kT_api_Entry x.1 x.2 r.Entries]
noncomputable def tontineref21_Client_letter.cx (b_2 : Nat) (A_3 : Option Addr) (c_4 : Nat) (w0 : World) (S0 : Fam) : Cx T_api_Letter := ⟨Try.prog, 78, Try.f78, 28, w0, S0, [], 1, tontineref21_Client_letter.R b_2 A_3 c_4⟩
theorem tontineref21_Client_letter_ok (n : Nat) (c_1 : T_tontineref21_Client) (b_2 : Nat) (A_3 : Option Addr) (c_4 : Nat) :
    Meets Try.prog 78 [vP b_2] 1 [] [⟨1, b_2, [vI c_1.Id, vU c_1.Session, vU c_1.Last, vU c_1.Calls, .bool c_1.Busy, vI c_1.Now.Kind, vU c_1.Now.Session, vU c_1.Now.Seq, vU c_1.Now.Saga, .slice A_3 c_1.Now.Steps.length c_4, vI c_1.Now.Step, .bool c_1.Now.Back, vI c_1.Now.Try, .bool c_1.Now.Ok, vU c_1.Now.Now, vI c_1.To]⟩] [Rd 0 kT_api_Step A_3 c_4 c_1.Now.Steps] (tontineref21_Client_letter.f n c_1) (tontineref21_Client_letter.R b_2 A_3 c_4) := by
  refine Meets.of (c := c78_0) (n := 28) Try.func78 (by kernel_rfl) (by kernel_rfl) (by kernel_rfl) fun w0 S0 => ?_
  unfold tontineref21_Client_letter.f
  show GoO (tontineref21_Client_letter.cx b_2 A_3 c_4 w0 S0) [(0, vP b_2)] [⟨1, b_2, [vI c_1.Id, vU c_1.Session, vU c_1.Last, vU c_1.Calls, .bool c_1.Busy, vI c_1.Now.Kind, vU c_1.Now.Session, vU c_1.Now.Seq, vU c_1.Now.Saga, .slice A_3 c_1.Now.Steps.length c_4, vI c_1.Now.Step, .bool c_1.Now.Back, vI c_1.Now.Try, .bool c_1.Now.Ok, vU c_1.Now.Now, vI c_1.To]⟩] [Rd 0 kT_api_Step A_3 c_4 c_1.Now.Steps] [.code c78_0] _
  refine GoO.seq' c78_0e ?_
  refine GoO.region' (is := [0]) c78_1e (by kernel_rfl) ?_
  refine OpTo.go (GoO.new rfl 40 (cs := [vI 0, vI 0, vI 0, vU 0, vU 0, vU 0, vU 0, .bool false, .slice none ([] : List T_api_Entry).length 0, .string (bs [])]) (by kernel_rfl) _ (fun _ => rfl) (fun b_5 => ?_))
  refine GoO.regionEnd ?_
  refine GoO.seq' c78_2e ?_
  refine GoO.region' (is := [0, 1, 2, 3, 4, 5, 6, 7, 8, 9]) c78_3e (by kernel_rfl) ?_
  refine GoO.exec (is := [0, 1, 2, 3]) (hs := [.p, .p, .p, .b 1]) (rest := [4, 5, 6, 7, 8, 9]) (ks := [0, 2, 9]) (env' := [(0, vP b_2), (2, vP b_5), (9, .agg ⟨[vI c_1.Now.Kind, vU c_1.Now.Session, vU c_1.Now.Seq, vU c_1.Now.Saga, .slice A_3 c_1.Now.Steps.length c_4, vI c_1.Now.Step, .bool c_1.Now.Back, vI c_1.Now.Try, .bool c_1.Now.Ok, vU c_1.Now.Now]⟩)]) (H' := [⟨40, b_5, [vI 0, vI 0, vI 0, vU 0, vU 0, vU 0, vU 0, .bool false, .slice none ([] : List T_api_Entry).length 0, .string (bs [])]⟩, ⟨1, b_2, [vI c_1.Id, vU c_1.Session, vU c_1.Last, vU c_1.Calls, .bool c_1.Busy, vI c_1.Now.Kind, vU c_1.Now.Session, vU c_1.Now.Seq, vU c_1.Now.Saga, .slice A_3 c_1.Now.Steps.length c_4, vI c_1.Now.Step, .bool c_1.Now.Back, vI c_1.Now.Try, .bool c_1.Now.Ok, vU c_1.Now.Now, vI c_1.To]⟩]) (ps := [b_2 = b_2]) (by kernel_rfl) (And.intro rfl trivial) ?_
  refine OpTo.go (GoO.call rfl (by kernel_rfl) (by kernel_rfl) (tontineref16_Encode_ok n (⟨c_1.Now.Kind, c_1.Now.Session, c_1.Now.Seq, c_1.Now.Saga, c_1.Now.Steps, c_1.Now.Step, c_1.Now.Back, c_1.Now.Try, c_1.Now.Ok, c_1.Now.Now⟩ : T_api_Command) A_3 c_4) [[0]] [] [] [(0, 0)] (hks := [0, 1]) (bks := [0]) (by kernel_rfl) (by kernel_rfl) (by kernel_rfl) (.inl rfl) rfl rfl (by kernel_rfl) (by kernel_rfl) _ (fun _ _ => rfl) _ _ (fun _ _ => rfl) (fun _ _ => rfl) (fun _ _ => by kernel_rfl) (fun _ _ => by kernel_rfl) (fun r_6 x_7 => ?_))
  refine GoO.shape (env' := [(0, vP b_2), (2, vP b_5), (9, .agg ⟨[vI c_1.Now.Kind, vU c_1.Now.Session, vU c_1.Now.Seq, vU c_1.Now.Saga, .slice A_3 c_1.Now.Steps.length c_4, vI c_1.Now.Step, .bool c_1.Now.Back, vI c_1.Now.Try, .bool c_1.Now.Ok, vU c_1.Now.Now]⟩), (10, .tuple ⟨[.string (bs r_6.1), vI r_6.2]⟩)]) (H' := [⟨40, b_5, [vI 0, vI 0, vI 0, vU 0, vU 0, vU 0, vU 0, .bool false, .slice none ([] : List T_api_Entry).length 0, .string (bs [])]⟩, ⟨1, b_2, [vI c_1.Id, vU c_1.Session, vU c_1.Last, vU c_1.Calls, .bool c_1.Busy, vI c_1.Now.Kind, vU c_1.Now.Session, vU c_1.Now.Seq, vU c_1.Now.Saga, .slice A_3 c_1.Now.Steps.length c_4, vI c_1.Now.Step, .bool c_1.Now.Back, vI c_1.Now.Try, .bool c_1.Now.Ok, vU c_1.Now.Now, vI c_1.To]⟩]) (B' := [Rd 0 kT_api_Step A_3 c_4 c_1.Now.Steps]) (ks := [0, 2, 9, 10]) (by kernel_rfl) (by kernel_rfl) (by kernel_rfl) ?_
  refine GoO.exec (is := [5, 6, 7, 8, 9]) (hs := [.p, .p, .p, .p, .p]) (rest := []) (ks := [0, 2, 3]) (env' := [(0, vP b_2), (2, vP b_5), (3, .string (bs r_6.1))]) (H' := [⟨40, b_5, [vI 0, vI 0, vI 0, vU 0, vU 0, vU 0, vU 0, .bool false, .slice none ([] : List T_api_Entry).length 0, .string (bs [])]⟩, ⟨1, b_2, [vI c_1.Id, vU c_1.Session, vU c_1.Last, vU c_1.Calls, .bool c_1.Busy, vI c_1.Now.Kind, vU c_1.Now.Session, vU c_1.Now.Seq, vU c_1.Now.Saga, .slice A_3 c_1.Now.Steps.length c_4, vI c_1.Now.Step, .bool c_1.Now.Back, vI c_1.Now.Try, .bool c_1.Now.Ok, vU c_1.Now.Now, vI c_1.To]⟩]) (ps := []) (by kernel_rfl) trivial ?_
  refine GoO.regionEnd ?_
  refine GoO.seq' c78_4e ?_
  refine GoO.draw c78_5e (by kernel_rfl) [15] [⟨1, b_2, [vI c_1.Id, vU c_1.Session, vU c_1.Last, vU c_1.Calls, .bool c_1.Busy, vI c_1.Now.Kind, vU c_1.Now.Session, vU c_1.Now.Seq, vU c_1.Now.Saga, .slice A_3 c_1.Now.Steps.length c_4, vI c_1.Now.Step, .bool c_1.Now.Back, vI c_1.Now.Try, .bool c_1.Now.Ok, vU c_1.Now.Now, vI c_1.To]⟩] [] (n := 16) (by kernel_rfl) ?_
  simp only [List.replicate]
  refine GoF.take [0, 1, 2, 3, 4, 5, 6, 7, 8, 9, 10, 11, 12, 13, 14] [.p, .p, .p, .b 0, .p, .p, .p, .p, .b 0, .p, .p, .p, .b 0, .p, .p] (ks := [2, 27]) (fu := 1) (li := [true, true, true, true, true, true, true, true, true, true, true, true, true, true, true, false]) (env' := [(2, vP b_5), (27, .agg ⟨[vI 8, vI (wi64 (200 + c_1.Id)), vI c_1.To, vU 0, vU c_1.Calls, vU 0, vU 0, .bool false, .slice none ([] : List T_api_Entry).length 0, .string (bs r_6.1)]⟩)]) (ps := [b_2 = b_2, b_2 = b_2, b_2 = b_2]) (hk := [1]) (bk := []) (by kernel_rfl) (And.intro rfl (And.intro rfl (And.intro rfl trivial))) rfl rfl ?_
  refine GoF.fin1 (i := 15) (hint := .b 0) (ps := [b_5 = b_5]) (hk := []) (bk := []) (by kernel_rfl) rfl (And.intro rfl trivial) (.inl rfl) ?_
  refine GoF.done (by kernel_rfl) ?_
  refine GoO.nilRd kT_api_Entry ?_
  exact GoO.ret' (h := c78_6e) (hs := [0]) (ps := [b_5 = b_5]) (hk := []) (bk := [0]) Try.func78 (⟨none, 0⟩ : Option Addr × Nat) (by kernel_rfl) (And.intro rfl trivial) (by kernel_rfl) (by kernel_rfl)
/-! (*tontine/tontineref21.Client).Call -/
noncomputable def c45_0 : Code := bodyOf Try.f45
noncomputable def c45_1 : Code := cdL c45_0
noncomputable def c45_2 : Code := cdR c45_0
noncomputable def c45_3 : Code := cdL c45_2
noncomputable def c45_4 : Code := cdL c45_3
noncomputable def c45_5 : Code := cdR c45_3
noncomputable def c45_6 : Code := cdL c45_5
noncomputable def c45_7 : Code := cdL c45_6
noncomputable def c45_8 : Code := cdR c45_6
noncomputable def c45_9 : Code := cdR c45_5
noncomputable def c45_10 : Code := cdR c45_2
noncomputable def c45_11 : Code := cdL c45_10
noncomputable def c45_12 : Code := cdL c45_11
noncomputable def c45_13 : Code := cdR c45_11
noncomputable def c45_14 : Code := cdL c45_13
noncomputable def c45_15 : Code := cdL c45_14
noncomputable def c45_16 : Code := cdR c45_14
noncomputable def c45_17 : Code := cdR c45_13
noncomputable def c45_18 : Code := cdR c45_10
noncomputable def c45_19 : Code := cdL c45_18
noncomputable def c45_20 : Code := cdL c45_19
noncomputable def c45_21 : Code := cdR c45_19
noncomputable def c45_22 : Code := cdL c45_21
noncomputable def c45_23 : Code := cdL c45_22
noncomputable def c45_24 : Code := cdR c45_22
noncomputable def c45_25 : Code := cdR c45_21
noncomputable def c45_26 : Code := cdR c45_18
noncomputable def c45_27 : Code := cdL c45_26
noncomputable def c45_28 : Code := cdR c45_26
noncomputable def c45_29 : Code := cdL c45_28
noncomputable def c45_30 : Code := cdR c45_28
noncomputable def c45_31 : Code := cdL c45_30
noncomputable def c45_32 : Code := cdR c45_30
noncomputable def c45_33 : Code := cdL c45_32
noncomputable def c45_34 : Code := cdL c45_33
noncomputable def c45_35 : Code := cdR c45_33
noncomputable def c45_36 : Code := cdL c45_35
noncomputable def c45_37 : Code := cdL c45_36
noncomputable def c45_38 : Code := cdR c45_36
noncomputable def c45_39 : Code := cdR c45_35
noncomputable def c45_40 : Code := cdR c45_32
noncomputable def c45_41 : Code := cdL c45_40
noncomputable def c45_42 : Code := cdR c45_40
noncomputable def c45_43 : Code := cdL c45_42
noncomputable def c45_44 : Code := cdL c45_43
noncomputable def c45_45 : Code := cdR c45_43
noncomputable def c45_46 : Code := cdL c45_45
noncomputable def c45_47 : Code := cdL c45_46
noncomputable def c45_48 : Code := cdR c45_46
noncomputable def c45_49 : Code := cdR c45_45
noncomputable def c45_50 : Code := cdR c45_42
noncomputable def c45_51 : Code := cdL c45_50
noncomputable def c45_52 : Code := cdR c45_50
noncomputable def c45_53 : Code := cdL c45_52
noncomputable def c45_54 : Code := cdR c45_52
noncomputable def c45_55 : Code := cdL c45_54
noncomputable def c45_56 : Code := cdR c45_54
noncomputable def c45_57 : Code := cdL c45_56
noncomputable def c45_58 : Code := cdR c45_56
noncomputable def r45_1 : Array Oper := cdO c45_1
noncomputable def r45_4 : Array Oper := cdO c45_4
noncomputable def r45_7 : Array Oper := cdO c45_7
noncomputable def r45_12 : Array Oper := cdO c45_12
noncomputable def r45_15 : Array Oper := cdO c45_15
noncomputable def r45_20 : Array Oper := cdO c45_20
noncomputable def r45_23 : Array Oper := cdO c45_23
noncomputable def r45_27 : Array Oper := cdO c45_27
noncomputable def r45_29 : Array Oper := cdO c45_29
noncomputable def r45_31 : Array Oper := cdO c45_31
noncomputable def r45_34 : Array Oper := cdO c45_34
noncomputable def r45_37 : Array Oper := cdO c45_37
noncomputable def r45_38 : Array Oper := cdO c45_38
noncomputable def r45_41 : Array Oper := cdO c45_41
noncomputable def r45_44 : Array Oper := cdO c45_44
noncomputable def r45_47 : Array Oper := cdO c45_47
noncomputable def r45_51 : Array Oper := cdO c45_51
noncomputable def r45_53 : Array Oper := cdO c45_53
noncomputable def r45_55 : Array Oper := cdO c45_55
noncomputable def r45_57 : Array Oper := cdO c45_57
theorem c45_0e : c45_0 = .seq c45_1 c45_2 := by kernel_rfl
theorem c45_1e : c45_1 = .region 0 r45_1 false := by kernel_rfl
theorem c45_2e : c45_2 = .seq c45_3 c45_10 := by kernel_rfl
theorem c45_3e : c45_3 = .seq c45_4 c45_5 := by kernel_rfl
theorem c45_4e : c45_4 = .region 1 r45_4 false := by kernel_rfl
theorem c45_5e : c45_5 = .cond (cdC c45_5) c45_6 c45_9 := by kernel_rfl
theorem c45_6e : c45_6 = .seq c45_7 c45_8 := by kernel_rfl
theorem c45_7e : c45_7 = .region 2 r45_7 false := by kernel_rfl
theorem c45_8e : c45_8 = .ret := by kernel_rfl
theorem c45_9e : c45_9 = .skip := by kernel_rfl
theorem c45_10e : c45_10 = .seq c45_11 c45_18 := by kernel_rfl
theorem c45_11e : c45_11 = .seq c45_12 c45_13 := by kernel_rfl
theorem c45_12e : c45_12 = .region 3 r45_12 false := by kernel_rfl
theorem c45_13e : c45_13 = .cond (cdC c45_13) c45_14 c45_17 := by kernel_rfl
theorem c45_14e : c45_14 = .seq c45_15 c45_16 := by kernel_rfl
theorem c45_15e : c45_15 = .region 4 r45_15 false := by kernel_rfl
theorem c45_16e : c45_16 = .ret := by kernel_rfl
theorem c45_17e : c45_17 = .skip := by kernel_rfl
theorem c45_18e : c45_18 = .seq c45_19 c45_26 := by kernel_rfl
theorem c45_19e : c45_19 = .seq c45_20 c45_21 := by kernel_rfl
theorem c45_20e : c45_20 = .region 5 r45_20 false := by kernel_rfl
theorem c45_21e : c45_21 = .cond (cdC c45_21) c45_22 c45_25 := by kernel_rfl
theorem c45_22e : c45_22 = .seq c45_23 c45_24 := by kernel_rfl
theorem c45_23e : c45_23 = .region 6 r45_23 false := by kernel_rfl
theorem c45_24e : c45_24 = .ret := by kernel_rfl
theorem c45_25e : c45_25 = .skip := by kernel_rfl
theorem c45_26e : c45_26 = .seq c45_27 c45_28 := by kernel_rfl
theorem c45_27e : c45_27 = .region 7 r45_27 false := by kernel_rfl
theorem c45_28e : c45_28 = .seq c45_29 c45_30 := by kernel_rfl
theorem c45_29e : c45_29 = .region 8 r45_29 false := by kernel_rfl
theorem c45_30e : c45_30 = .seq c45_31 c45_32 := by kernel_rfl
theorem c45_31e : c45_31 = .region 9 r45_31 false := by kernel_rfl
theorem c45_32e : c45_32 = .seq c45_33 c45_40 := by kernel_rfl
theorem c45_33e : c45_33 = .seq c45_34 c45_35 := by kernel_rfl
theorem c45_34e : c45_34 = .region 10 r45_34 false := by kernel_rfl
theorem c45_35e : c45_35 = .cond (cdC c45_35) c45_36 c45_39 := by kernel_rfl
theorem c45_36e : c45_36 = .seq c45_37 c45_38 := by kernel_rfl
theorem c45_37e : c45_37 = .region 11 r45_37 false := by kernel_rfl
theorem c45_38e : c45_38 = .region 12 r45_38 false := by kernel_rfl
theorem c45_39e : c45_39 = .skip := by kernel_rfl
theorem c45_40e : c45_40 = .seq c45_41 c45_42 := by kernel_rfl
theorem c45_41e : c45_41 = .region 13 r45_41 false := by kernel_rfl
theorem c45_42e : c45_42 = .seq c45_43 c45_50 := by kernel_rfl
theorem c45_43e : c45_43 = .seq c45_44 c45_45 := by kernel_rfl
theorem c45_44e : c45_44 = .region 14 r45_44 false := by kernel_rfl
theorem c45_45e : c45_45 = .cond (cdC c45_45) c45_46 c45_49 := by kernel_rfl
theorem c45_46e : c45_46 = .seq c45_47 c45_48 := by kernel_rfl
theorem c45_47e : c45_47 = .region 15 r45_47 false := by kernel_rfl
theorem c45_48e : c45_48 = .ret := by kernel_rfl
theorem c45_49e : c45_49 = .skip := by kernel_rfl
theorem c45_50e : c45_50 = .seq c45_51 c45_52 := by kernel_rfl
theorem c45_51e : c45_51 = .region 16 r45_51 false := by kernel_rfl
theorem c45_52e : c45_52 = .seq c45_53 c45_54 := by kernel_rfl
theorem c45_53e : c45_53 = .region 17 r45_53 false := by kernel_rfl
theorem c45_54e : c45_54 = .seq c45_55 c45_56 := by kernel_rfl
theorem c45_55e : c45_55 = .region 18 r45_55 false := by kernel_rfl
theorem c45_56e : c45_56 = .seq c45_57 c45_58 := by kernel_rfl
theorem c45_57e : c45_57 = .region 19 r45_57 false := by kernel_rfl
theorem c45_58e : c45_58 = .ret := by kernel_rfl
noncomputable def tontineref21_Client_Call.R (b_2 : Nat) (A_3 : Option Addr) (c_4 : Nat) (A_6 : Option Addr) (c_7 : Nat) : Pst (T_api_Letter × Int × T_tontineref21_Client) where
  ε := Option Addr × Nat × Option Addr × Nat
  v := fun r x => .tuple ⟨[.agg ⟨[vI r.1.Kind, vI r.1.From, vI r.1.To, vU r.1.Term, vU r.1.Index, vU r.1.Prev, vU r.1.Commit, .bool r.1.Ok, .slice x.1 r.1.Entries.length x.2.1, .string (bs r.1.Data)]⟩, vI r.2.1]⟩
  H := fun r x => [⟨1, b_2, [vI r.2.2.Id, vU r.2.2.Session, vU r.2.2.Last, vU r.2.2.Calls, .bool r.2.2.Busy, vI r.2.2.Now.Kind, vU r.2.2.Now.Session, vU r.2.2.Now.Seq, vU r.2.2.Now.Saga, .slice x.2.2.1 r.2.2.Now.Steps.length x.2.2.2, vI r.2.2.Now.Step, .bool r.2.2.Now.Back, vI r.2.2.Now.Try, .bool r.2.2.Now.Ok, vU r.2.2.Now.Now, vI r.2.2.To]⟩]
  B := fun r x => [Rd 0 kT_api_Entry x.1 x.2.1 r.1.Entries, Rd 0 kT_api_Step x.2.2.1 x.2.2.2 r.2.2.Now.Steps]
noncomputable def tontineref21_Client_Call.cx (b_2 : Nat) (A_3 : Option Addr) (c_4 : Nat) (A_6 : Option Addr) (c_7 : Nat) (w0 : World) (S0 : Fam) : Cx (T_api_Letter × Int × T_tontineref21_Client) := ⟨Try.prog, 45, Try.f45, 70, w0, S0, [1], 1, tontineref21_Client_Call.R b_2 A_3 c_4 A_6 c_7⟩
theorem tontineref21_Client_Call_j1_ok (n : Nat) (c_1 : T_tontineref21_Client) (x_5 : T_api_Command) (b_2 : Nat) (A_3 : Option Addr) (c_4 : Nat) (A_6 : Option Addr) (c_7 : Nat) (b_8 : Nat) (b_9 : Nat) (w0 : World) (S0 : Fam) (f_16 : Int) (f_17 : Int) :
    GoO (tontineref21_Client_Call.cx b_2 A_3 c_4 A_6 c_7 w0 S0) [(0, vP b_2), (3, vP b_8), (4, vP b_9)] [⟨1, b_2, [vI c_1.Id, vU c_1.Session, vU c_1.Last, vU c_1.Calls, .bool c_1.Busy, vI c_1.Now.Kind, vU c_1.Now.Session, vU c_1.Now.Seq, vU c_1.Now.Saga, .slice A_3 c_1.Now.Steps.length c_4, vI c_1.Now.Step, .bool c_1.Now.Back, vI c_1.Now.Try, .bool c_1.Now.Ok, vU c_1.Now.Now, vI c_1.To]⟩, ⟨40, b_8, [vI x_5.Kind, vU f_16, vU f_17, vU x_5.Saga, .slice A_6 x_5.Steps.length c_7, vI x_5.Step, .bool x_5.Back, vI x_5.Try, .bool x_5.Ok, vU 0]⟩, ⟨41, b_9, [vI 0, vI 0, vI 0, vU 0, vU 0, vU 0, vU 0, .bool false, .slice none ([] : List T_api_Entry).length 0, .string (bs [])]⟩] [Rd 0 kT_api_Step A_3 c_4 c_1.Now.Steps, Rd 0 kT_api_Step A_6 c_7 x_5.Steps] [.code c45_40] (tontineref21_Client_Call.j1 n c_1 x_5 f_16 f_17) := by
  unfold tontineref21_Client_Call.j1
  refine GoO.seq' c45_40e ?_
  refine GoO.region' (is := [0, 1, 2, 3, 4, 5, 6]) c45_41e (by kernel_rfl) ?_
  refine GoO.exec (is := [0]) (hs := [.b 1]) (rest := [1, 2, 3, 4, 5, 6]) (ks := [0, 3, 4, 46]) (env' := [(0, vP b_2), (3, vP b_8), (4, vP b_9), (46, .agg ⟨[vI x_5.Kind, vU f_16, vU f_17, vU x_5.Saga, .slice A_6 x_5.Steps.length c_7, vI x_5.Step, .bool x_5.Back, vI x_5.Try, .bool x_5.Ok, vU 0]⟩)]) (H' := [⟨1, b_2, [vI c_1.Id, vU c_1.Session, vU c_1.Last, vU c_1.Calls, .bool c_1.Busy, vI c_1.Now.Kind, vU c_1.Now.Session, vU c_1.Now.Seq, vU c_1.Now.Saga, .slice A_3 c_1.Now.Steps.length c_4, vI c_1.Now.Step, .bool c_1.Now.Back, vI c_1.Now.Try, .bool c_1.Now.Ok, vU c_1.Now.Now, vI c_1.To]⟩, ⟨40, b_8, [vI x_5.Kind, vU f_16, vU f_17, vU x_5.Saga, .slice A_6 x_5.Steps.length c_7, vI x_5.Step, .bool x_5.Back, vI x_5.Try, .bool x_5.Ok, vU 0]⟩, ⟨41, b_9, [vI 0, vI 0, vI 0, vU 0, vU 0, vU 0, vU 0, .bool false, .slice none ([] : List T_api_Entry).length 0, .string (bs [])]⟩]) (ps := [b_8 = b_8]) (by kernel_rfl) (And.intro rfl trivial) ?_
  refine OpTo.go (GoO.call rfl (by kernel_rfl) (by kernel_rfl) (tontineref16_Encode_ok n (⟨x_5.Kind, f_16, f_17, x_5.Saga, x_5.Steps, x_5.Step, x_5.Back, x_5.Try, x_5.Ok, 0⟩ : T_api_Command) A_6 c_7) [[0]] [] [] [(0, 1)] (hks := [0, 1, 2]) (bks := [0, 1]) (by kernel_rfl) (by kernel_rfl) (by kernel_rfl) (.inl rfl) rfl rfl (by kernel_rfl) (by kernel_rfl) _ (fun _ _ => rfl) _ _ (fun _ _ => rfl) (fun _ _ => rfl) (fun _ _ => by kernel_rfl) (fun _ _ => by kernel_rfl) (fun r_18 x_24 => ?_))
  refine GoO.shape (env' := [(0, vP b_2), (3, vP b_8), (4, vP b_9), (46, .agg ⟨[vI x_5.Kind, vU f_16, vU f_17, vU x_5.Saga, .slice A_6 x_5.Steps.length c_7, vI x_5.Step, .bool x_5.Back, vI x_5.Try, .bool x_5.Ok, vU 0]⟩), (47, .tuple ⟨[.string (bs r_18.1), vI r_18.2]⟩)]) (H' := [⟨1, b_2, [vI c_1.Id, vU c_1.Session, vU c_1.Last, vU c_1.Calls, .bool c_1.Busy, vI c_1.Now.Kind, vU c_1.Now.Session, vU c_1.Now.Seq, vU c_1.Now.Saga, .slice A_3 c_1.Now.Steps.length c_4, vI c_1.Now.Step, .bool c_1.Now.Back, vI c_1.Now.Try, .bool c_1.Now.Ok, vU c_1.Now.Now, vI c_1.To]⟩, ⟨40, b_8, [vI x_5.Kind, vU f_16, vU f_17, vU x_5.Saga, .slice A_6 x_5.Steps.length c_7, vI x_5.Step, .bool x_5.Back, vI x_5.Try, .bool x_5.Ok, vU 0]⟩, ⟨41, b_9, [vI 0, vI 0, vI 0, vU 0, vU 0, vU 0, vU 0, .bool false, .slice none ([] : List T_api_Entry).length 0, .string (bs [])]⟩]) (B' := [Rd 0 kT_api_Step A_3 c_4 c_1.Now.Steps, Rd 0 kT_api_Step A_6 c_7 x_5.Steps]) (ks := [0, 3, 4, 46, 47]) (by kernel_rfl) (by kernel_rfl) (by kernel_rfl) ?_
  refine GoO.exec (is := [2, 3, 4, 5, 6]) (hs := [.p, .p, .p, .p, .p]) (rest := []) (ks := [0, 3, 4, 7]) (env' := [(0, vP b_2), (3, vP b_8), (4, vP b_9), (7, vI r_18.2)]) (H' := [⟨1, b_2, [vI c_1.Id, vU c_1.Session, vU c_1.Last, vU c_1.Calls, .bool c_1.Busy, vI c_1.Now.Kind, vU c_1.Now.Session, vU c_1.Now.Seq, vU c_1.Now.Saga, .slice A_3 c_1.Now.Steps.length c_4, vI c_1.Now.Step, .bool c_1.Now.Back, vI c_1.Now.Try, .bool c_1.Now.Ok, vU c_1.Now.Now, vI c_1.To]⟩, ⟨40, b_8, [vI x_5.Kind, vU f_16, vU f_17, vU x_5.Saga, .slice A_6 x_5.Steps.length c_7, vI x_5.Step, .bool x_5.Back, vI x_5.Try, .bool x_5.Ok, vU 0]⟩, ⟨41, b_9, [vI 0, vI 0, vI 0, vU 0, vU 0, vU 0, vU 0, .bool false, .slice none ([] : List T_api_Entry).length 0, .string (bs [])]⟩]) (ps := []) (by kernel_rfl) trivial ?_
  refine GoO.regionEnd ?_
  refine GoO.seq' c45_42e ?_
  refine GoO.seq' c45_43e ?_
  refine GoO.region' (is := [0, 1]) c45_44e (by kernel_rfl) ?_
  refine GoO.exec (is := [0, 1]) (hs := [.p, .p]) (rest := []) (ks := [0, 3, 4, 7, 51]) (env' := [(0, vP b_2), (3, vP b_8), (4, vP b_9), (7, vI r_18.2), (51, .bool (r_18.2 != 0))]) (H' := [⟨1, b_2, [vI c_1.Id, vU c_1.Session, vU c_1.Last, vU c_1.Calls, .bool c_1.Busy, vI c_1.Now.Kind, vU c_1.Now.Session, vU c_1.Now.Seq, vU c_1.Now.Saga, .slice A_3 c_1.Now.Steps.length c_4, vI c_1.Now.Step, .bool c_1.Now.Back, vI c_1.Now.Try, .bool c_1.Now.Ok, vU c_1.Now.Now, vI c_1.To]⟩, ⟨40, b_8, [vI x_5.Kind, vU f_16, vU f_17, vU x_5.Saga, .slice A_6 x_5.Steps.length c_7, vI x_5.Step, .bool x_5.Back, vI x_5.Try, .bool x_5.Ok, vU 0]⟩, ⟨41, b_9, [vI 0, vI 0, vI 0, vU 0, vU 0, vU 0, vU 0, .bool false, .slice none ([] : List T_api_Entry).length 0, .string (bs [])]⟩]) (ps := []) (by kernel_rfl) trivial ?_
  refine GoO.regionEnd ?_
  refine GoO.ite' c45_45e (by kernel_rfl) (fun h19 => ?_) (fun h19 => ?_)
  · refine GoO.seq' c45_46e ?_
    refine GoO.region' (is := [0, 1, 2, 3]) c45_47e (by kernel_rfl) ?_
    refine GoO.exec (is := [0, 1, 2, 3]) (hs := [.p, .p, .b 2, .p]) (rest := []) (ks := [4, 5]) (env' := [(4, vP b_9), (5, vI r_18.2)]) (H' := [⟨1, b_2, [vI c_1.Id, vU c_1.Session, vU c_1.Last, vU c_1.Calls, .bool c_1.Busy, vI c_1.Now.Kind, vU c_1.Now.Session, vU c_1.Now.Seq, vU c_1.Now.Saga, .slice A_3 c_1.Now.Steps.length c_4, vI c_1.Now.Step, .bool c_1.Now.Back, vI c_1.Now.Try, .bool c_1.Now.Ok, vU c_1.Now.Now, vI c_1.To]⟩, ⟨40, b_8, [vI x_5.Kind, vU f_16, vU f_17, vU x_5.Saga, .slice A_6 x_5.Steps.length c_7, vI x_5.Step, .bool x_5.Back, vI x_5.Try, .bool x_5.Ok, vU 0]⟩, ⟨41, b_9, [vI 0, vI 0, vI 0, vU 0, vU 0, vU 0, vU 0, .bool false, .slice none ([] : List T_api_Entry).length 0, .string (bs [])]⟩]) (ps := [b_9 = b_9]) (by kernel_rfl) (And.intro rfl trivial) ?_
    refine GoO.regionEnd ?_
    refine GoO.nilRd kT_api_Entry ?_
    exact GoO.ret' (h := c45_48e) (hs := [2]) (ps := [b_9 = b_9]) (hk := [0]) (bk := [0, 1]) Try.func45 (⟨none, 0, A_3, c_4⟩ : Option Addr × Nat × Option Addr × Nat) (by kernel_rfl) (And.intro rfl trivial) (by kernel_rfl) (by kernel_rfl)
  · refine GoO.skip' c45_49e ?_
    refine GoO.seq' c45_50e ?_
    refine GoO.region' (is := [0, 1, 2, 3]) c45_51e (by kernel_rfl) ?_
    refine GoO.exec (is := [0, 1, 2, 3]) (hs := [.p, .p, .p, .b 0]) (rest := []) (ks := [0, 3, 4]) (env' := [(0, vP b_2), (3, vP b_8), (4, vP b_9)]) (H' := [⟨1, b_2, [vI c_1.Id, vU c_1.Session, vU c_1.Last, vU c_1.Calls, .bool true, vI c_1.Now.Kind, vU c_1.Now.Session, vU c_1.Now.Seq, vU c_1.Now.Saga, .slice A_3 c_1.Now.Steps.length c_4, vI c_1.Now.Step, .bool c_1.Now.Back, vI c_1.Now.Try, .bool c_1.Now.Ok, vU c_1.Now.Now, vI c_1.To]⟩, ⟨40, b_8, [vI x_5.Kind, vU f_16, vU f_17, vU x_5.Saga, .slice A_6 x_5.Steps.length c_7, vI x_5.Step, .bool x_5.Back, vI x_5.Try, .bool x_5.Ok, vU 0]⟩, ⟨41, b_9, [vI 0, vI 0, vI 0, vU 0, vU 0, vU 0, vU 0, .bool false, .slice none ([] : List T_api_Entry).length 0, .string (bs [])]⟩]) (ps := [b_2 = b_2]) (by kernel_rfl) (And.intro rfl trivial) ?_
    refine GoO.regionEnd ?_
    refine GoO.seq' c45_52e ?_
    refine GoO.region' (is := [0, 1, 2, 3, 4]) c45_53e (by kernel_rfl) ?_
    refine GoO.exec (is := [0, 1, 2, 3, 4]) (hs := [.p, .b 1, .p, .p, .b 0]) (rest := []) (ks := [0, 4]) (env' := [(0, vP b_2), (4, vP b_9)]) (H' := [⟨1, b_2, [vI c_1.Id, vU c_1.Session, vU c_1.Last, vU c_1.Calls, .bool true, vI x_5.Kind, vU f_16, vU f_17, vU x_5.Saga, .slice A_6 x_5.Steps.length c_7, vI x_5.Step, .bool x_5.Back, vI x_5.Try, .bool x_5.Ok, vU 0, vI c_1.To]⟩, ⟨40, b_8, [vI x_5.Kind, vU f_16, vU f_17, vU x_5.Saga, .slice A_6 x_5.Steps.length c_7, vI x_5.Step, .bool x_5.Back, vI x_5.Try, .bool x_5.Ok, vU 0]⟩, ⟨41, b_9, [vI 0, vI 0, vI 0, vU 0, vU 0, vU 0, vU 0, .bool false, .slice none ([] : List T_api_Entry).length 0, .string (bs [])]⟩]) (ps := [b_8 = b_8, b_2 = b_2]) (by kernel_rfl) (And.intro rfl (And.intro rfl trivial)) ?_
    refine GoO.regionEnd ?_
    refine GoO.seq' c45_54e ?_
    refine GoO.region' (is := [0, 1, 2, 3, 4, 5, 6, 7]) c45_55e (by kernel_rfl) ?_
    refine GoO.exec (is := [0, 1, 2, 3, 4, 5, 6, 7]) (hs := [.p, .p, .p, .b 0, .p, .p, .p, .b 0]) (rest := []) (ks := [0, 4]) (env' := [(0, vP b_2), (4, vP b_9)]) (H' := [⟨1, b_2, [vI c_1.Id, vU c_1.Session, vU c_1.Last, vU (wu64 (c_1.Calls + 1)), .bool true, vI x_5.Kind, vU f_16, vU f_17, vU x_5.Saga, .slice A_6 x_5.Steps.length c_7, vI x_5.Step, .bool x_5.Back, vI x_5.Try, .bool x_5.Ok, vU 0, vI c_1.To]⟩, ⟨40, b_8, [vI x_5.Kind, vU f_16, vU f_17, vU x_5.Saga, .slice A_6 x_5.Steps.length c_7, vI x_5.Step, .bool x_5.Back, vI x_5.Try, .bool x_5.Ok, vU 0]⟩, ⟨41, b_9, [vI 0, vI 0, vI 0, vU 0, vU 0, vU 0, vU 0, .bool false, .slice none ([] : List T_api_Entry).length 0, .string (bs [])]⟩]) (ps := [b_2 = b_2, b_2 = b_2]) (by kernel_rfl) (And.intro rfl (And.intro rfl trivial)) ?_
    refine GoO.regionEnd ?_
    refine GoO.seq' c45_56e ?_
    refine GoO.region' (is := [0, 1, 2, 3]) c45_57e (by kernel_rfl) ?_
    refine GoO.exec (is := [0]) (hs := [.p]) (rest := [1, 2, 3]) (ks := [4, 68]) (env' := [(4, vP b_9), (68, vP b_2)]) (H' := [⟨1, b_2, [vI c_1.Id, vU c_1.Session, vU c_1.Last, vU (wu64 (c_1.Calls + 1)), .bool true, vI x_5.Kind, vU f_16, vU f_17, vU x_5.Saga, .slice A_6 x_5.Steps.length c_7, vI x_5.Step, .bool x_5.Back, vI x_5.Try, .bool x_5.Ok, vU 0, vI c_1.To]⟩, ⟨40, b_8, [vI x_5.Kind, vU f_16, vU f_17, vU x_5.Saga, .slice A_6 x_5.Steps.length c_7, vI x_5.Step, .bool x_5.Back, vI x_5.Try, .bool x_5.Ok, vU 0]⟩, ⟨41, b_9, [vI 0, vI 0, vI 0, vU 0, vU 0, vU 0, vU 0, .bool false, .slice none ([] : List T_api_Entry).length 0, .string (bs [])]⟩]) (ps := []) (by kernel_rfl) trivial ?_
    refine OpTo.go (GoO.call rfl (by kernel_rfl) (by kernel_rfl) (tontineref21_Client_letter_ok n (⟨c_1.Id, c_1.Session, c_1.Last, wu64 (c_1.Calls + 1), true, (⟨x_5.Kind, f_16, f_17, x_5.Saga, x_5.Steps, x_5.Step, x_5.Back, x_5.Try, x_5.Ok, 0⟩ : T_api_Command), c_1.To⟩ : T_tontineref21_Client) b_2 A_6 c_7) [[0], [1]] [] [(1, 0)] [(0, 1)] (hks := [0, 1, 2]) (bks := [0, 1]) (by kernel_rfl) (by kernel_rfl) (by kernel_rfl) (.inl rfl) rfl rfl (by kernel_rfl) (by kernel_rfl) _ (fun _ _ => rfl) _ _ (fun _ _ => rfl) (fun _ _ => rfl) (fun _ _ => by kernel_rfl) (fun _ _ => by kernel_rfl) (fun r_20 x_23 => ?_))
    obtain ⟨A_21, c_22⟩ := x_23
    refine GoO.shape (env' := [(4, vP b_9), (68, vP b_2), (69, .agg ⟨[vI r_20.Kind, vI r_20.From, vI r_20.To, vU r_20.Term, vU r_20.Index, vU r_20.Prev, vU r_20.Commit, .bool r_20.Ok, .slice A_21 r_20.Entries.length c_22, .string (bs r_20.Data)]⟩)]) (H' := [⟨1, b_2, [vI c_1.Id, vU c_1.Session, vU c_1.Last, vU (wu64 (c_1.Calls + 1)), .bool true, vI x_5.Kind, vU f_16, vU f_17, vU x_5.Saga, .slice A_6 x_5.Steps.length c_7, vI x_5.Step, .bool x_5.Back, vI x_5.Try, .bool x_5.Ok, vU 0, vI c_1.To]⟩, ⟨40, b_8, [vI x_5.Kind, vU f_16, vU f_17, vU x_5.Saga, .slice A_6 x_5.Steps.length c_7, vI x_5.Step, .bool x_5.Back, vI x_5.Try, .bool x_5.Ok, vU 0]⟩, ⟨41, b_9, [vI 0, vI 0, vI 0, vU 0, vU 0, vU 0, vU 0, .bool false, .slice none ([] : List T_api_Entry).length 0, .string (bs [])]⟩]) (B' := [Rd 0 kT_api_Entry A_21 c_22 r_20.Entries, Rd 0 kT_api_Step A_3 c_4 c_1.Now.Steps, Rd 0 kT_api_Step A_6 c_7 x_5.Steps]) (ks := [4, 68, 69]) (by kernel_rfl) (by kernel_rfl) (by kernel_rfl) ?_
    refine GoO.exec (is := [2, 3]) (hs := [.b 2, .p]) (rest := []) (ks := [4, 5]) (env' := [(4, vP b_9), (5, vI 0)]) (H' := [⟨1, b_2, [vI c_1.Id, vU c_1.Session, vU c_1.Last, vU (wu64 (c_1.Calls + 1)), .bool true, vI x_5.Kind, vU f_16, vU f_17, vU x_5.Saga, .slice A_6 x_5.Steps.length c_7, vI x_5.Step, .bool x_5.Back, vI x_5.Try, .bool x_5.Ok, vU 0, vI c_1.To]⟩, ⟨40, b_8, [vI x_5.Kind, vU f_16, vU f_17, vU x_5.Saga, .slice A_6 x_5.Steps.length c_7, vI x_5.Step, .bool x_5.Back, vI x_5.Try, .bool x_5.Ok, vU 0]⟩, ⟨41, b_9, [vI r_20.Kind, vI r_20.From, vI r_20.To, vU r_20.Term, vU r_20.Index, vU r_20.Prev, vU r_20.Commit, .bool r_20.Ok, .slice A_21 r_20.Entries.length c_22, .string (bs r_20.Data)]⟩]) (ps := [b_9 = b_9]) (by kernel_rfl) (And.intro rfl trivial) ?_
    refine GoO.regionEnd ?_
    exact GoO.ret' (h := c45_58e) (hs := [2]) (ps := [b_9 = b_9]) (hk := [0]) (bk := [0, 2]) Try.func45 (⟨A_21, c_22, A_6, c_7⟩ : Option Addr × Nat × Option Addr × Nat) (by kernel_rfl) (And.intro rfl trivial) (by kernel_rfl) (by kernel_rfl)
theorem tontineref21_Client_Call_j0_ok (n : Nat) (c_1 : T_tontineref21_Client) (x_5 : T_api_Command) (b_2 : Nat) (A_3 : Option Addr) (c_4 : Nat) (A_6 : Option Addr) (c_7 : Nat) (b_8 : Nat) (b_9 : Nat) (w0 : World) (S0 : Fam) (b_12 : Bool) :
    GoO (tontineref21_Client_Call.cx b_2 A_3 c_4 A_6 c_7 w0 S0) [(0, vP b_2), (3, vP b_8), (4, vP b_9), (22, .bool b_12)] [⟨1, b_2, [vI c_1.Id, vU c_1.Session, vU c_1.Last, vU c_1.Calls, .bool c_1.Busy, vI c_1.Now.Kind, vU c_1.Now.Session, vU c_1.Now.Seq, vU c_1.Now.Saga, .slice A_3 c_1.Now.Steps.length c_4, vI c_1.Now.Step, .bool c_1.Now.Back, vI c_1.Now.Try, .bool c_1.Now.Ok, vU c_1.Now.Now, vI c_1.To]⟩, ⟨40, b_8, [vI x_5.Kind, vU x_5.Session, vU x_5.Seq, vU x_5.Saga, .slice A_6 x_5.Steps.length c_7, vI x_5.Step, .bool x_5.Back, vI x_5.Try, .bool x_5.Ok, vU x_5.Now]⟩, ⟨41, b_9, [vI 0, vI 0, vI 0, vU 0, vU 0, vU 0, vU 0, .bool false, .slice none ([] : List T_api_Entry).length 0, .string (bs [])]⟩] [Rd 0 kT_api_Step A_3 c_4 c_1.Now.Steps, Rd 0 kT_api_Step A_6 c_7 x_5.Steps] [.code c45_13, .code c45_18] (tontineref21_Client_Call.j0 n c_1 x_5 b_12) := by
  unfold tontineref21_Client_Call.j0
  refine GoO.ite' c45_13e (by kernel_rfl) (fun h13 => ?_) (fun h13 => ?_)
  · refine GoO.seq' c45_14e ?_
    refine GoO.region' (is := [0, 1, 2]) c45_15e (by kernel_rfl) ?_
    refine GoO.exec (is := [0, 1, 2]) (hs := [.p, .b 2, .p]) (rest := []) (ks := [4, 5]) (env' := [(4, vP b_9), (5, vI 40)]) (H' := [⟨1, b_2, [vI c_1.Id, vU c_1.Session, vU c_1.Last, vU c_1.Calls, .bool c_1.Busy, vI c_1.Now.Kind, vU c_1.Now.Session, vU c_1.Now.Seq, vU c_1.Now.Saga, .slice A_3 c_1.Now.Steps.length c_4, vI c_1.Now.Step, .bool c_1.Now.Back, vI c_1.Now.Try, .bool c_1.Now.Ok, vU c_1.Now.Now, vI c_1.To]⟩, ⟨40, b_8, [vI x_5.Kind, vU x_5.Session, vU x_5.Seq, vU x_5.Saga, .slice A_6 x_5.Steps.length c_7, vI x_5.Step, .bool x_5.Back, vI x_5.Try, .bool x_5.Ok, vU x_5.Now]⟩, ⟨41, b_9, [vI 0, vI 0, vI 0, vU 0, vU 0, vU 0, vU 0, .bool false, .slice none ([] : List T_api_Entry).length 0, .string (bs [])]⟩]) (ps := [b_9 = b_9]) (by kernel_rfl) (And.intro rfl trivial) ?_
    refine GoO.regionEnd ?_
    refine GoO.nilRd kT_api_Entry ?_
    exact GoO.ret' (h := c45_16e) (hs := [2]) (ps := [b_9 = b_9]) (hk := [0]) (bk := [0, 1]) Try.func45 (⟨none, 0, A_3, c_4⟩ : Option Addr × Nat × Option Addr × Nat) (by kernel_rfl) (And.intro rfl trivial) (by kernel_rfl) (by kernel_rfl)
  · refine GoO.skip' c45_17e ?_
    refine GoO.seq' c45_18e ?_
    refine GoO.seq' c45_19e ?_
    refine GoO.region' (is := [0, 1, 2]) c45_20e (by kernel_rfl) ?_
    refine GoO.exec (is := [0, 1, 2]) (hs := [.p, .b 1, .p]) (rest := []) (ks := [0, 3, 4, 26]) (env' := [(0, vP b_2), (3, vP b_8), (4, vP b_9), (26, .bool (x_5.Kind == 4))]) (H' := [⟨1, b_2, [vI c_1.Id, vU c_1.Session, vU c_1.Last, vU c_1.Calls, .bool c_1.Busy, vI c_1.Now.Kind, vU c_1.Now.Session, vU c_1.Now.Seq, vU c_1.Now.Saga, .slice A_3 c_1.Now.Steps.length c_4, vI c_1.Now.Step, .bool c_1.Now.Back, vI c_1.Now.Try, .bool c_1.Now.Ok, vU c_1.Now.Now, vI c_1.To]⟩, ⟨40, b_8, [vI x_5.Kind, vU x_5.Session, vU x_5.Seq, vU x_5.Saga, .slice A_6 x_5.Steps.length c_7, vI x_5.Step, .bool x_5.Back, vI x_5.Try, .bool x_5.Ok, vU x_5.Now]⟩, ⟨41, b_9, [vI 0, vI 0, vI 0, vU 0, vU 0, vU 0, vU 0, .bool false, .slice none ([] : List T_api_Entry).length 0, .string (bs [])]⟩]) (ps := [b_8 = b_8]) (by kernel_rfl) (And.intro rfl trivial) ?_
    refine GoO.regionEnd ?_
    refine GoO.ite' c45_21e (by kernel_rfl) (fun h14 => ?_) (fun h14 => ?_)
    · refine GoO.seq' c45_22e ?_
      refine GoO.region' (is := [0, 1, 2]) c45_23e (by kernel_rfl) ?_
      refine GoO.exec (is := [0, 1, 2]) (hs := [.p, .b 2, .p]) (rest := []) (ks := [4, 5]) (env' := [(4, vP b_9), (5, vI 1)]) (H' := [⟨1, b_2, [vI c_1.Id, vU c_1.Session, vU c_1.Last, vU c_1.Calls, .bool c_1.Busy, vI c_1.Now.Kind, vU c_1.Now.Session, vU c_1.Now.Seq, vU c_1.Now.Saga, .slice A_3 c_1.Now.Steps.length c_4, vI c_1.Now.Step, .bool c_1.Now.Back, vI c_1.Now.Try, .bool c_1.Now.Ok, vU c_1.Now.Now, vI c_1.To]⟩, ⟨40, b_8, [vI x_5.Kind, vU x_5.Session, vU x_5.Seq, vU x_5.Saga, .slice A_6 x_5.Steps.length c_7, vI x_5.Step, .bool x_5.Back, vI x_5.Try, .bool x_5.Ok, vU x_5.Now]⟩, ⟨41, b_9, [vI 0, vI 0, vI 0, vU 0, vU 0, vU 0, vU 0, .bool false, .slice none ([] : List T_api_Entry).length 0, .string (bs [])]⟩]) (ps := [b_9 = b_9]) (by kernel_rfl) (And.intro rfl trivial) ?_
      refine GoO.regionEnd ?_
      refine GoO.nilRd kT_api_Entry ?_
      exact GoO.ret' (h := c45_24e) (hs := [2]) (ps := [b_9 = b_9]) (hk := [0]) (bk := [0, 1]) Try.func45 (⟨none, 0, A_3, c_4⟩ : Option Addr × Nat × Option Addr × Nat) (by kernel_rfl) (And.intro rfl trivial) (by kernel_rfl) (by kernel_rfl)
    · refine GoO.skip' c45_25e ?_
      refine GoO.seq' c45_26e ?_
      refine GoO.region' (is := [0, 1]) c45_27e (by kernel_rfl) ?_
      refine GoO.exec (is := [0, 1]) (hs := [.p, .b 1]) (rest := []) (ks := [0, 3, 4]) (env' := [(0, vP b_2), (3, vP b_8), (4, vP b_9)]) (H' := [⟨1, b_2, [vI c_1.Id, vU c_1.Session, vU c_1.Last, vU c_1.Calls, .bool c_1.Busy, vI c_1.Now.Kind, vU c_1.Now.Session, vU c_1.Now.Seq, vU c_1.Now.Saga, .slice A_3 c_1.Now.Steps.length c_4, vI c_1.Now.Step, .bool c_1.Now.Back, vI c_1.Now.Try, .bool c_1.Now.Ok, vU c_1.Now.Now, vI c_1.To]⟩, ⟨40, b_8, [vI x_5.Kind, vU 0, vU x_5.Seq, vU x_5.Saga, .slice A_6 x_5.Steps.length c_7, vI x_5.Step, .bool x_5.Back, vI x_5.Try, .bool x_5.Ok, vU x_5.Now]⟩, ⟨41, b_9, [vI 0, vI 0, vI 0, vU 0, vU 0, vU 0, vU 0, .bool false, .slice none ([] : List T_api_Entry).length 0, .string (bs [])]⟩]) (ps := [b_8 = b_8]) (by kernel_rfl) (And.intro rfl trivial) ?_
      refine GoO.regionEnd ?_
      refine GoO.seq' c45_28e ?_
      refine GoO.region' (is := [0, 1]) c45_29e (by kernel_rfl) ?_
      refine GoO.exec (is := [0, 1]) (hs := [.p, .b 1]) (rest := []) (ks := [0, 3, 4]) (env' := [(0, vP b_2), (3, vP b_8), (4, vP b_9)]) (H' := [⟨1, b_2, [vI c_1.Id, vU c_1.Session, vU c_1.Last, vU c_1.Calls, .bool c_1.Busy, vI c_1.Now.Kind, vU c_1.Now.Session, vU c_1.Now.Seq, vU c_1.Now.Saga, .slice A_3 c_1.Now.Steps.length c_4, vI c_1.Now.Step, .bool c_1.Now.Back, vI c_1.Now.Try, .bool c_1.Now.Ok, vU c_1.Now.Now, vI c_1.To]⟩, ⟨40, b_8, [vI x_5.Kind, vU 0, vU 0, vU x_5.Saga, .slice A_6 x_5.Steps.length c_7, vI x_5.Step, .bool x_5.Back, vI x_5.Try, .bool x_5.Ok, vU x_5.Now]⟩, ⟨41, b_9, [vI 0, vI 0, vI 0, vU 0, vU 0, vU 0, vU 0, .bool false, .slice none ([] : List T_api_Entry).length 0, .string (bs [])]⟩]) (ps := [b_8 = b_8]) (by kernel_rfl) (And.intro rfl trivial) ?_
      refine GoO.regionEnd ?_
      refine GoO.seq' c45_30e ?_
      refine GoO.region' (is := [0, 1]) c45_31e (by kernel_rfl) ?_
      refine GoO.exec (is := [0, 1]) (hs := [.p, .b 1]) (rest := []) (ks := [0, 3, 4]) (env' := [(0, vP b_2), (3, vP b_8), (4, vP b_9)]) (H' := [⟨1, b_2, [vI c_1.Id, vU c_1.Session, vU c_1.Last, vU c_1.Calls, .bool c_1.Busy, vI c_1.Now.Kind, vU c_1.Now.Session, vU c_1.Now.Seq, vU c_1.Now.Saga, .slice A_3 c_1.Now.Steps.length c_4, vI c_1.Now.Step, .bool c_1.Now.Back, vI c_1.Now.Try, .bool c_1.Now.Ok, vU c_1.Now.Now, vI c_1.To]⟩, ⟨40, b_8, [vI x_5.Kind, vU 0, vU 0, vU x_5.Saga, .slice A_6 x_5.Steps.length c_7, vI x_5.Step, .bool x_5.Back, vI x_5.Try, .bool x_5.Ok, vU 0]⟩, ⟨41, b_9, [vI 0, vI 0, vI 0, vU 0, vU 0, vU 0, vU 0, .bool false, .slice none ([] : List T_api_Entry).length 0, .string (bs [])]⟩]) (ps := [b_8 = b_8]) (by kernel_rfl) (And.intro rfl trivial) ?_
      refine GoO.regionEnd ?_
      refine GoO.seq' c45_32e ?_
      refine GoO.seq' c45_33e ?_
      refine GoO.region' (is := [0, 1, 2]) c45_34e (by kernel_rfl) ?_
      refine GoO.exec (is := [0, 1, 2]) (hs := [.p, .b 1, .p]) (rest := []) (ks := [0, 3, 4, 33]) (env' := [(0, vP b_2), (3, vP b_8), (4, vP b_9), (33, .bool (x_5.Kind != 1))]) (H' := [⟨1, b_2, [vI c_1.Id, vU c_1.Session, vU c_1.Last, vU c_1.Calls, .bool c_1.Busy, vI c_1.Now.Kind, vU c_1.Now.Session, vU c_1.Now.Seq, vU c_1.Now.Saga, .slice A_3 c_1.Now.Steps.length c_4, vI c_1.Now.Step, .bool c_1.Now.Back, vI c_1.Now.Try, .bool c_1.Now.Ok, vU c_1.Now.Now, vI c_1.To]⟩, ⟨40, b_8, [vI x_5.Kind, vU 0, vU 0, vU x_5.Saga, .slice A_6 x_5.Steps.length c_7, vI x_5.Step, .bool x_5.Back, vI x_5.Try, .bool x_5.Ok, vU 0]⟩, ⟨41, b_9, [vI 0, vI 0, vI 0, vU 0, vU 0, vU 0, vU 0, .bool false, .slice none ([] : List T_api_Entry).length 0, .string (bs [])]⟩]) (ps := [b_8 = b_8]) (by kernel_rfl) (And.intro rfl trivial) ?_
      refine GoO.regionEnd ?_
      refine GoO.ite' c45_35e (by kernel_rfl) (fun h15 => ?_) (fun h15 => ?_)
      · refine GoO.seq' c45_36e ?_
        refine GoO.region' (is := [0, 1, 2, 3, 4, 5]) c45_37e (by kernel_rfl) ?_
        refine GoO.exec (is := [0, 1, 2, 3, 4, 5]) (hs := [.p, .p, .p, .b 0, .p, .b 1]) (rest := []) (ks := [0, 3, 4]) (env' := [(0, vP b_2), (3, vP b_8), (4, vP b_9)]) (H' := [⟨1, b_2, [vI c_1.Id, vU c_1.Session, vU c_1.Last, vU c_1.Calls, .bool c_1.Busy, vI c_1.Now.Kind, vU c_1.Now.Session, vU c_1.Now.Seq, vU c_1.Now.Saga, .slice A_3 c_1.Now.Steps.length c_4, vI c_1.Now.Step, .bool c_1.Now.Back, vI c_1.Now.Try, .bool c_1.Now.Ok, vU c_1.Now.Now, vI c_1.To]⟩, ⟨40, b_8, [vI x_5.Kind, vU c_1.Session, vU 0, vU x_5.Saga, .slice A_6 x_5.Steps.length c_7, vI x_5.Step, .bool x_5.Back, vI x_5.Try, .bool x_5.Ok, vU 0]⟩, ⟨41, b_9, [vI 0, vI 0, vI 0, vU 0, vU 0, vU 0, vU 0, .bool false, .slice none ([] : List T_api_Entry).length 0, .string (bs [])]⟩]) (ps := [b_2 = b_2, b_8 = b_8]) (by kernel_rfl) (And.intro rfl (And.intro rfl trivial)) ?_
        refine GoO.regionEnd ?_
        refine GoO.region' (is := [0, 1, 2, 3, 4, 5, 6]) c45_38e (by kernel_rfl) ?_
        refine GoO.exec (is := [0, 1, 2, 3, 4, 5, 6]) (hs := [.p, .p, .p, .b 0, .p, .p, .b 1]) (rest := []) (ks := [0, 3, 4]) (env' := [(0, vP b_2), (3, vP b_8), (4, vP b_9)]) (H' := [⟨1, b_2, [vI c_1.Id, vU c_1.Session, vU c_1.Last, vU c_1.Calls, .bool c_1.Busy, vI c_1.Now.Kind, vU c_1.Now.Session, vU c_1.Now.Seq, vU c_1.Now.Saga, .slice A_3 c_1.Now.Steps.length c_4, vI c_1.Now.Step, .bool c_1.Now.Back, vI c_1.Now.Try, .bool c_1.Now.Ok, vU c_1.Now.Now, vI c_1.To]⟩, ⟨40, b_8, [vI x_5.Kind, vU c_1.Session, vU (wu64 (c_1.Last + 1)), vU x_5.Saga, .slice A_6 x_5.Steps.length c_7, vI x_5.Step, .bool x_5.Back, vI x_5.Try, .bool x_5.Ok, vU 0]⟩, ⟨41, b_9, [vI 0, vI 0, vI 0, vU 0, vU 0, vU 0, vU 0, .bool false, .slice none ([] : List T_api_Entry).length 0, .string (bs [])]⟩]) (ps := [b_2 = b_2, b_8 = b_8]) (by kernel_rfl) (And.intro rfl (And.intro rfl trivial)) ?_
        refine GoO.regionEnd ?_
        exact GoO.sub (ks := [0, 3, 4]) (hk := [0, 1, 2]) (bk := [0, 1]) (by kernel_rfl) (by kernel_rfl) (by kernel_rfl) (tontineref21_Client_Call_j1_ok n c_1 x_5 b_2 A_3 c_4 A_6 c_7 b_8 b_9 w0 S0 c_1.Session (wu64 (c_1.Last + 1)))
      · refine GoO.skip' c45_39e ?_
        exact GoO.sub (ks := [0, 3, 4]) (hk := [0, 1, 2]) (bk := [0, 1]) (by kernel_rfl) (by kernel_rfl) (by kernel_rfl) (tontineref21_Client_Call_j1_ok n c_1 x_5 b_2 A_3 c_4 A_6 c_7 b_8 b_9 w0 S0 0 0)
theorem tontineref21_Client_Call_ok (n : Nat) (c_1 : T_tontineref21_Client) (x_5 : T_api_Command) (b_2 : Nat) (A_3 : Option Addr) (c_4 : Nat) (A_6 : Option Addr) (c_7 : Nat) :
    Meets Try.prog 45 [vP b_2, .agg ⟨[vI x_5.Kind, vU x_5.Session, vU x_5.Seq, vU x_5.Saga, .slice A_6 x_5.Steps.length c_7, vI x_5.Step, .bool x_5.Back, vI x_5.Try, .bool x_5.Ok, vU x_5.Now]⟩] 1 [1] [⟨1, b_2, [vI c_1.Id, vU c_1.Session, vU c_1.Last, vU c_1.Calls, .bool c_1.Busy, vI c_1.Now.Kind, vU c_1.Now.Session, vU c_1.Now.Seq, vU c_1.Now.Saga, .slice A_3 c_1.Now.Steps.length c_4, vI c_1.Now.Step, .bool c_1.Now.Back, vI c_1.Now.Try, .bool c_1.Now.Ok, vU c_1.Now.Now, vI c_1.To]⟩] [Rd 0 kT_api_Step A_3 c_4 c_1.Now.Steps, Rd 0 kT_api_Step A_6 c_7 x_5.Steps] (tontineref21_Client_Call.f n c_1 x_5) (tontineref21_Client_Call.R b_2 A_3 c_4 A_6 c_7) := by
  refine Meets.of (c := c45_0) (n := 70) Try.func45 (by kernel_rfl) (by kernel_rfl) (by kernel_rfl) fun w0 S0 => ?_
  unfold tontineref21_Client_Call.f
  show GoO (tontineref21_Client_Call.cx b_2 A_3 c_4 A_6 c_7 w0 S0) [(0, vP b_2), (1, .agg ⟨[vI x_5.Kind, vU x_5.Session, vU x_5.Seq, vU x_5.Saga, .slice A_6 x_5.Steps.length c_7, vI x_5.Step, .bool x_5.Back, vI x_5.Try, .bool x_5.Ok, vU x_5.Now]⟩)] [⟨1, b_2, [vI c_1.Id, vU c_1.Session, vU c_1.Last, vU c_1.Calls, .bool c_1.Busy, vI c_1.Now.Kind, vU c_1.Now.Session, vU c_1.Now.Seq, vU c_1.Now.Saga, .slice A_3 c_1.Now.Steps.length c_4, vI c_1.Now.Step, .bool c_1.Now.Back, vI c_1.Now.Try, .bool c_1.Now.Ok, vU c_1.Now.Now, vI c_1.To]⟩] [Rd 0 kT_api_Step A_3 c_4 c_1.Now.Steps, Rd 0 kT_api_Step A_6 c_7 x_5.Steps] [.code c45_0] _
  refine GoO.seq' c45_0e ?_
  refine GoO.region' (is := [0, 1, 2]) c45_1e (by kernel_rfl) ?_
  refine OpTo.go (GoO.new rfl 40 (cs := [vI x_5.Kind, vU x_5.Session, vU x_5.Seq, vU x_5.Saga, .slice A_6 x_5.Steps.length c_7, vI x_5.Step, .bool x_5.Back, vI x_5.Try, .bool x_5.Ok, vU x_5.Now]) (by kernel_rfl) _ (fun _ => rfl) (fun b_8 => ?_))
  refine OpTo.go (GoO.new rfl 41 (cs := [vI 0, vI 0, vI 0, vU 0, vU 0, vU 0, vU 0, .bool false, .slice none ([] : List T_api_Entry).length 0, .string (bs [])]) (by kernel_rfl) _ (fun _ => rfl) (fun b_9 => ?_))
  refine GoO.exec (is := [2]) (hs := [.p]) (rest := []) (ks := [0, 3, 4]) (env' := [(0, vP b_2), (3, vP b_8), (4, vP b_9)]) (H' := [⟨41, b_9, [vI 0, vI 0, vI 0, vU 0, vU 0, vU 0, vU 0, .bool false, .slice none ([] : List T_api_Entry).length 0, .string (bs [])]⟩, ⟨40, b_8, [vI x_5.Kind, vU x_5.Session, vU x_5.Seq, vU x_5.Saga, .slice A_6 x_5.Steps.length c_7, vI x_5.Step, .bool x_5.Back, vI x_5.Try, .bool x_5.Ok, vU x_5.Now]⟩, ⟨1, b_2, [vI c_1.Id, vU c_1.Session, vU c_1.Last, vU c_1.Calls, .bool c_1.Busy, vI c_1.Now.Kind, vU c_1.Now.Session, vU c_1.Now.Seq, vU c_1.Now.Saga, .slice A_3 c_1.Now.Steps.length c_4, vI c_1.Now.Step, .bool c_1.Now.Back, vI c_1.Now.Try, .bool c_1.Now.Ok, vU c_1.Now.Now, vI c_1.To]⟩]) (ps := []) (by kernel_rfl) trivial ?_
  refine GoO.regionEnd ?_
  refine GoO.seq' c45_2e ?_
  refine GoO.seq' c45_3e ?_
  refine GoO.region' (is := [0, 1, 2, 3]) c45_4e (by kernel_rfl) ?_
  refine GoO.exec (is := [0, 1, 2, 3]) (hs := [.p, .p, .p, .b 2]) (rest := []) (ks := [0, 3, 4, 11]) (env' := [(0, vP b_2), (3, vP b_8), (4, vP b_9), (11, .bool c_1.Busy)]) (H' := [⟨41, b_9, [vI 0, vI 0, vI 0, vU 0, vU 0, vU 0, vU 0, .bool false, .slice none ([] : List T_api_Entry).length 0, .string (bs [])]⟩, ⟨40, b_8, [vI x_5.Kind, vU x_5.Session, vU x_5.Seq, vU x_5.Saga, .slice A_6 x_5.Steps.length c_7, vI x_5.Step, .bool x_5.Back, vI x_5.Try, .bool x_5.Ok, vU x_5.Now]⟩, ⟨1, b_2, [vI c_1.Id, vU c_1.Session, vU c_1.Last, vU c_1.Calls, .bool c_1.Busy, vI c_1.Now.Kind, vU c_1.Now.Session, vU c_1.Now.Seq, vU c_1.Now.Saga, .slice A_3 c_1.Now.Steps.length c_4, vI c_1.Now.Step, .bool c_1.Now.Back, vI c_1.Now.Try, .bool c_1.Now.Ok, vU c_1.Now.Now, vI c_1.To]⟩]) (ps := [b_2 = b_2]) (by kernel_rfl) (And.intro rfl trivial) ?_
  refine GoO.regionEnd ?_
  refine GoO.ite' c45_5e (by kernel_rfl) (fun h10 => ?_) (fun h10 => ?_)
  · refine GoO.seq' c45_6e ?_
    refine GoO.region' (is := [0, 1, 2]) c45_7e (by kernel_rfl) ?_
    refine GoO.exec (is := [0, 1, 2]) (hs := [.p, .b 0, .p]) (rest := []) (ks := [4, 5]) (env' := [(4, vP b_9), (5, vI 31)]) (H' := [⟨41, b_9, [vI 0, vI 0, vI 0, vU 0, vU 0, vU 0, vU 0, .bool false, .slice none ([] : List T_api_Entry).length 0, .string (bs [])]⟩, ⟨40, b_8, [vI x_5.Kind, vU x_5.Session, vU x_5.Seq, vU x_5.Saga, .slice A_6 x_5.Steps.length c_7, vI x_5.Step, .bool x_5.Back, vI x_5.Try, .bool x_5.Ok, vU x_5.Now]⟩, ⟨1, b_2, [vI c_1.Id, vU c_1.Session, vU c_1.Last, vU c_1.Calls, .bool c_1.Busy, vI c_1.Now.Kind, vU c_1.Now.Session, vU c_1.Now.Seq, vU c_1.Now.Saga, .slice A_3 c_1.Now.Steps.length c_4, vI c_1.Now.Step, .bool c_1.Now.Back, vI c_1.Now.Try, .bool c_1.Now.Ok, vU c_1.Now.Now, vI c_1.To]⟩]) (ps := [b_9 = b_9]) (by kernel_rfl) (And.intro rfl trivial) ?_
    refine GoO.regionEnd ?_
    refine GoO.nilRd kT_api_Entry ?_
    exact GoO.ret' (h := c45_8e) (hs := [0]) (ps := [b_9 = b_9]) (hk := [2]) (bk := [0, 1]) Try.func45 (⟨none, 0, A_3, c_4⟩ : Option Addr × Nat × Option Addr × Nat) (by kernel_rfl) (And.intro rfl trivial) (by kernel_rfl) (by kernel_rfl)
  · refine GoO.skip' c45_9e ?_
    refine GoO.seq' c45_10e ?_
    refine GoO.seq' c45_11e ?_
    refine GoO.region' (is := [0, 1, 2, 3, 4, 5, 6, 7, 8, 9]) c45_12e (by kernel_rfl) ?_
    refine GoO.exec (is := [0, 1, 2, 3]) (hs := [.p, .b 1, .p, .p]) (rest := [4, 5, 6, 7, 8, 9]) (ks := [0, 3, 4, 16]) (env' := [(0, vP b_2), (3, vP b_8), (4, vP b_9), (16, .bool (x_5.Kind != 1))]) (H' := [⟨41, b_9, [vI 0, vI 0, vI 0, vU 0, vU 0, vU 0, vU 0, .bool false, .slice none ([] : List T_api_Entry).length 0, .string (bs [])]⟩, ⟨40, b_8, [vI x_5.Kind, vU x_5.Session, vU x_5.Seq, vU x_5.Saga, .slice A_6 x_5.Steps.length c_7, vI x_5.Step, .bool x_5.Back, vI x_5.Try, .bool x_5.Ok, vU x_5.Now]⟩, ⟨1, b_2, [vI c_1.Id, vU c_1.Session, vU c_1.Last, vU c_1.Calls, .bool c_1.Busy, vI c_1.Now.Kind, vU c_1.Now.Session, vU c_1.Now.Seq, vU c_1.Now.Saga, .slice A_3 c_1.Now.Steps.length c_4, vI c_1.Now.Step, .bool c_1.Now.Back, vI c_1.Now.Try, .bool c_1.Now.Ok, vU c_1.Now.Now, vI c_1.To]⟩]) (ps := [b_8 = b_8]) (by kernel_rfl) (And.intro rfl trivial) ?_
    refine GoO.bsplit (t := 16) (by kernel_rfl) (fun h11 => ?_) (fun h11 => ?_)
    · refine GoO.exec (is := [4, 5, 6, 7, 8, 9]) (hs := [.p, .p, .p, .b 2, .p, .p]) (rest := []) (ks := [0, 3, 4, 22]) (env' := [(0, vP b_2), (3, vP b_8), (4, vP b_9), (22, .bool (c_1.Session == 0))]) (H' := [⟨41, b_9, [vI 0, vI 0, vI 0, vU 0, vU 0, vU 0, vU 0, .bool false, .slice none ([] : List T_api_Entry).length 0, .string (bs [])]⟩, ⟨40, b_8, [vI x_5.Kind, vU x_5.Session, vU x_5.Seq, vU x_5.Saga, .slice A_6 x_5.Steps.length c_7, vI x_5.Step, .bool x_5.Back, vI x_5.Try, .bool x_5.Ok, vU x_5.Now]⟩, ⟨1, b_2, [vI c_1.Id, vU c_1.Session, vU c_1.Last, vU c_1.Calls, .bool c_1.Busy, vI c_1.Now.Kind, vU c_1.Now.Session, vU c_1.Now.Seq, vU c_1.Now.Saga, .slice A_3 c_1.Now.Steps.length c_4, vI c_1.Now.Step, .bool c_1.Now.Back, vI c_1.Now.Try, .bool c_1.Now.Ok, vU c_1.Now.Now, vI c_1.To]⟩]) (ps := [b_2 = b_2]) (by kernel_rfl) (And.intro rfl trivial) ?_
      refine GoO.regionEnd ?_
      exact GoO.sub (ks := [0, 3, 4, 22]) (hk := [2, 1, 0]) (bk := [0, 1]) (by kernel_rfl) (by kernel_rfl) (by kernel_rfl) (tontineref21_Client_Call_j0_ok n c_1 x_5 b_2 A_3 c_4 A_6 c_7 b_8 b_9 w0 S0 (c_1.Session == 0))
    · refine GoO.exec (is := [4, 5, 6, 7, 8, 9]) (hs := [.p, .p, .p, .p, .p, .p]) (rest := []) (ks := [0, 3, 4, 22]) (env' := [(0, vP b_2), (3, vP b_8), (4, vP b_9), (22, .bool false)]) (H' := [⟨41, b_9, [vI 0, vI 0, vI 0, vU 0, vU 0, vU 0, vU 0, .bool false, .slice none ([] : List T_api_Entry).length 0, .string (bs [])]⟩, ⟨40, b_8, [vI x_5.Kind, vU x_5.Session, vU x_5.Seq, vU x_5.Saga, .slice A_6 x_5.Steps.length c_7, vI x_5.Step, .bool x_5.Back, vI x_5.Try, .bool x_5.Ok, vU x_5.Now]⟩, ⟨1, b_2, [vI c_1.Id, vU c_1.Session, vU c_1.Last, vU c_1.Calls, .bool c_1.Busy, vI c_1.Now.Kind, vU c_1.Now.Session, vU c_1.Now.Seq, vU c_1.Now.Saga, .slice A_3 c_1.Now.Steps.length c_4, vI c_1.Now.Step, .bool c_1.Now.Back, vI c_1.Now.Try, .bool c_1.Now.Ok, vU c_1.Now.Now, vI c_1.To]⟩]) (ps := []) (by kernel_rfl) trivial ?_
      refine GoO.regionEnd ?_
      exact GoO.sub (ks := [0, 3, 4, 22]) (hk := [2, 1, 0]) (bk := [0, 1]) (by kernel_rfl) (by kernel_rfl) (by kernel_rfl) (tontineref21_Client_Call_j0_ok n c_1 x_5 b_2 A_3 c_4 A_6 c_7 b_8 b_9 w0 S0 false)
/-! tontine/tontineref07.Same -/
noncomputable def c19_0 : Code := bodyOf Try.f19
noncomputable def c19_1 : Code := cdL c19_0
noncomputable def c19_2 : Code := cdR c19_0
noncomputable def c19_3 : Code := cdL c19_2
noncomputable def c19_4 : Code := cdL c19_3
noncomputable def c19_5 : Code := cdR c19_3
noncomputable def c19_6 : Code := cdL c19_5
noncomputable def c19_7 : Code := cdL c19_6
noncomputable def c19_8 : Code := cdR c19_6
noncomputable def c19_9 : Code := cdR c19_5
noncomputable def c19_10 : Code := cdR c19_2
noncomputable def c19_11 : Code := cdL c19_10
noncomputable def c19_12 : Code := cdL c19_11
noncomputable def c19_13 : Code := cdR c19_11
noncomputable def c19_14 : Code := cdL c19_13
noncomputable def c19_15 : Code := cdL c19_14
noncomputable def c19_16 : Code := cdL c19_15
noncomputable def c19_17 : Code := cdL c19_16
noncomputable def c19_18 : Code := cdR c19_16
noncomputable def c19_19 : Code := cdL c19_18
noncomputable def c19_20 : Code := cdR c19_18
noncomputable def c19_21 : Code := cdR c19_15
noncomputable def c19_22 : Code := cdL c19_21
noncomputable def c19_23 : Code := cdL c19_22
noncomputable def c19_24 : Code := cdL c19_23
noncomputable def c19_25 : Code := cdR c19_23
noncomputable def c19_26 : Code := cdL c19_25
noncomputable def c19_27 : Code := cdL c19_26
noncomputable def c19_28 : Code := cdR c19_26
noncomputable def c19_29 : Code := cdR c19_25
noncomputable def c19_30 : Code := cdR c19_21
noncomputable def c19_31 : Code := cdR c19_10
noncomputable def c19_32 : Code := cdL c19_31
noncomputable def c19_33 : Code := cdR c19_31
noncomputable def r19_1 : Array Oper := cdO c19_1
noncomputable def r19_4 : Array Oper := cdO c19_4
noncomputable def r19_7 : Array Oper := cdO c19_7
noncomputable def r19_12 : Array Oper := cdO c19_12
noncomputable def r19_17 : Array Oper := cdO c19_17
noncomputable def r19_24 : Array Oper := cdO c19_24
noncomputable def r19_27 : Array Oper := cdO c19_27
noncomputable def r19_30 : Array Oper := cdO c19_30
noncomputable def r19_32 : Array Oper := cdO c19_32
theorem c19_0e : c19_0 = .seq c19_1 c19_2 := by kernel_rfl
theorem c19_1e : c19_1 = .region 0 r19_1 false := by kernel_rfl
theorem c19_2e : c19_2 = .seq c19_3 c19_10 := by kernel_rfl
theorem c19_3e : c19_3 = .seq c19_4 c19_5 := by kernel_rfl
theorem c19_4e : c19_4 = .region 1 r19_4 false := by kernel_rfl
theorem c19_5e : c19_5 = .cond (cdC c19_5) c19_6 c19_9 := by kernel_rfl
theorem c19_6e : c19_6 = .seq c19_7 c19_8 := by kernel_rfl
theorem c19_7e : c19_7 = .region 2 r19_7 false := by kernel_rfl
theorem c19_8e : c19_8 = .ret := by kernel_rfl
theorem c19_9e : c19_9 = .skip := by kernel_rfl
theorem c19_10e : c19_10 = .seq c19_11 c19_31 := by kernel_rfl
theorem c19_11e : c19_11 = .seq c19_12 c19_13 := by kernel_rfl
theorem c19_12e : c19_12 = .region 3 r19_12 false := by kernel_rfl
theorem c19_13e : c19_13 = .block 0 c19_14 := by kernel_rfl
theorem c19_14e : c19_14 = .loop c19_15 := by kernel_rfl
theorem c19_15e : c19_15 = .seq c19_16 c19_21 := by kernel_rfl
theorem c19_16e : c19_16 = .seq c19_17 c19_18 := by kernel_rfl
theorem c19_17e : c19_17 = .region 4 r19_17 false := by kernel_rfl
theorem c19_18e : c19_18 = .cond (cdC c19_18) c19_19 c19_20 := by kernel_rfl
theorem c19_19e : c19_19 = .skip := by kernel_rfl
theorem c19_20e : c19_20 = .exit 0 := by kernel_rfl
theorem c19_21e : c19_21 = .seq c19_22 c19_30 := by kernel_rfl
theorem c19_22e : c19_22 = .block 1 c19_23 := by kernel_rfl
theorem c19_23e : c19_23 = .seq c19_24 c19_25 := by kernel_rfl
theorem c19_24e : c19_24 = .region 6 r19_24 true := by kernel_rfl
theorem c19_25e : c19_25 = .cond (cdC c19_25) c19_26 c19_29 := by kernel_rfl
theorem c19_26e : c19_26 = .seq c19_27 c19_28 := by kernel_rfl
theorem c19_27e : c19_27 = .region 7 r19_27 false := by kernel_rfl
theorem c19_28e : c19_28 = .ret := by kernel_rfl
theorem c19_29e : c19_29 = .skip := by kernel_rfl
theorem c19_30e : c19_30 = .region 5 r19_30 false := by kernel_rfl
theorem c19_31e : c19_31 = .seq c19_32 c19_33 := by kernel_rfl
theorem c19_32e : c19_32 = .region 8 r19_32 false := by kernel_rfl
theorem c19_33e : c19_33 = .ret := by kernel_rfl
noncomputable def tontineref07_Same.R (A_2 : Option Addr) (c_3 : Nat) (A_5 : Option Addr) (c_6 : Nat) : Pst Bool where
  ε := Unit
  v := fun r x => .bool r
  H := fun r x => []
  B := fun r x => []
noncomputable def tontineref07_Same.cx (A_2 : Option Addr) (c_3 : Nat) (A_5 : Option Addr) (c_6 : Nat) (w0 : World) (S0 : Fam) : Cx Bool := ⟨Try.prog, 19, Try.f19, 26, w0, S0, [], 0, tontineref07_Same.R A_2 c_3 A_5 c_6⟩
theorem tontineref07_Same_l0_ok (n : Nat) (a_1 : (List T_api_Entry)) (b_4 : (List T_api_Entry)) (A_2 : Option Addr) (c_3 : Nat) (A_5 : Option Addr) (c_6 : Nat) (w0 : World) (S0 : Fam) :
    ∀ (k : Nat) (i_8 : Int), GoO (tontineref07_Same.cx A_2 c_3 A_5 c_6 w0 S0) [(0, .slice A_2 a_1.length c_3), (1, .slice A_5 b_4.length c_6), (5, vI i_8)] [] [Rd 0 kT_api_Entry A_2 c_3 a_1, Rd 0 kT_api_Entry A_5 c_6 b_4] [.code c19_15, .inLoop c19_15, .inBlock 0, .code c19_31] (tontineref07_Same.l0 n a_1 b_4 k i_8) := by
  intro k
  induction k with
  | zero => intros; rw [tontineref07_Same.l0.eq_1]; exact GoO.stop
  | succ k ih0 =>
    intro i_8
    rw [tontineref07_Same.l0.eq_2]
    refine GoO.seq' c19_15e ?_
    refine GoO.seq' c19_16e ?_
    refine GoO.region' (is := [0, 1, 2, 3]) c19_17e (by kernel_rfl) ?_
    refine GoO.exec (is := [0, 1, 2, 3]) (hs := [.p, .p, .p, .p]) (rest := []) (ks := [0, 1, 5, 14]) (env' := [(0, .slice A_2 a_1.length c_3), (1, .slice A_5 b_4.length c_6), (5, vI i_8), (14, .bool (decide (i_8 < (a_1.length : Int))))]) (H' := []) (ps := []) (by kernel_rfl) trivial ?_
    refine GoO.regionEnd ?_
    refine GoO.ite' c19_18e (by kernel_rfl) (fun h9 => ?_) (fun h9 => ?_)
    · refine GoO.skip' c19_19e ?_
      refine GoO.seq' c19_21e ?_
      refine GoO.block' c19_22e ?_
      refine GoO.seq' c19_23e ?_
      refine GoO.draw c19_24e (by kernel_rfl) [] [] [Rd 0 kT_api_Entry A_2 c_3 a_1, Rd 0 kT_api_Entry A_5 c_6 b_4] (n := 9) (by kernel_rfl) ?_
      simp only [List.replicate]
      refine GoF.take [0, 1, 4, 5] [.p, .p, .p, .p] (ks := [0, 1, 5, 17, 18, 21, 22]) (fu := 5) (li := [true, true, false, false, true, true, false, false, false]) (env' := [(0, .slice A_2 a_1.length c_3), (1, .slice A_5 b_4.length c_6), (5, vI i_8), (17, .slice A_2 a_1.length c_3), (18, vI i_8), (21, .slice A_5 b_4.length c_6), (22, vI i_8)]) (ps := []) (hk := []) (bk := [0, 1]) (by kernel_rfl) trivial rfl rfl ?_
      refine GoF.guard (fun h10 => ?_)
      refine GoF.idx (i := 2) (hk := []) (bk := [0, 1]) (kk := .i64) (e := 40) (K := kT_api_Entry) (A := A_2) (c := c_3) (xs := a_1) (iv := i_8) (j := 0) (by kernel_rfl) rfl rfl rfl (by kernel_rfl) (by kernel_rfl) (by kernel_rfl) (by kernel_rfl) rfl Reads.rd rfl h10.1 h10.2 (by decide) rfl ?_
      refine GoF.ldE (i := 3) (hk := []) (bk := [0, 1]) (K := kT_api_Entry) (A := A_2) (c := c_3) (xs := a_1) (iN := i_8.toNat) (off := 0) (j := 0) (v := .agg ⟨[vU ((rdL a_1 i_8).Term), vU ((rdL a_1 i_8).Index), vI ((rdL a_1 i_8).Kind), .string (bs ((rdL a_1 i_8).Data))]⟩) (by kernel_rfl) rfl rfl rfl (hK := rfl) (by kernel_rfl) rfl Reads.rd (by first | exact idx_lt h10.1 h10.2 | (simp only [List.length_set]; exact idx_lt h10.1 h10.2)) (by decide) (by kernel_rfl) rfl ?_
      refine GoF.guard (fun h11 => ?_)
      refine GoF.idx (i := 6) (hk := []) (bk := [0, 1]) (kk := .i64) (e := 40) (K := kT_api_Entry) (A := A_5) (c := c_6) (xs := b_4) (iv := i_8) (j := 1) (by kernel_rfl) rfl rfl rfl (by kernel_rfl) (by kernel_rfl) (by kernel_rfl) (by kernel_rfl) rfl Reads.rd rfl h11.1 h11.2 (by decide) rfl ?_
      refine GoF.ldE (i := 7) (hk := []) (bk := [0, 1]) (K := kT_api_Entry) (A := A_5) (c := c_6) (xs := b_4) (iN := i_8.toNat) (off := 0) (j := 1) (v := .agg ⟨[vU ((rdL b_4 i_8).Term), vU ((rdL b_4 i_8).Index), vI ((rdL b_4 i_8).Kind), .string (bs ((rdL b_4 i_8).Data))]⟩) (by kernel_rfl) rfl rfl rfl (hK := rfl) (by kernel_rfl) rfl Reads.rd (by first | exact idx_lt h11.1 h11.2 | (simp only [List.length_set]; exact idx_lt h11.1 h11.2)) (by decide) (by kernel_rfl) rfl ?_
      refine GoF.take [8] [.p] (ks := [0, 1, 5, 25]) (fu := 0) (li := [true, true, true, true, true, true, true, true, true]) (env' := [(0, .slice A_2 a_1.length c_3), (1, .slice A_5 b_4.length c_6), (5, vI i_8), (25, .bool (!((((rdL a_1 i_8).Term) == ((rdL b_4 i_8).Term)) && ((((rdL a_1 i_8).Index) == ((rdL b_4 i_8).Index)) && ((((rdL a_1 i_8).Kind) == ((rdL b_4 i_8).Kind)) && ((((rdL a_1 i_8).Data) == ((rdL b_4 i_8).Data)) && true))))))]) (ps := []) (hk := []) (bk := [0, 1]) (by kernel_rfl) trivial rfl rfl ?_
      refine GoF.done (by kernel_rfl) ?_
      refine GoO.ite' c19_25e (by kernel_rfl) (fun h12 => ?_) (fun h12 => ?_)
      · refine GoO.seq' c19_26e ?_
        refine GoO.region' (is := [0]) c19_27e (by kernel_rfl) ?_
        refine GoO.exec (is := [0]) (hs := [.p]) (rest := []) (ks := [4]) (env' := [(4, .bool false)]) (H' := []) (ps := []) (by kernel_rfl) trivial ?_
        refine GoO.regionEnd ?_
        exact GoO.ret' (h := c19_28e) (hs := []) (ps := []) (hk := []) (bk := []) Try.func19 () (by kernel_rfl) trivial (by kernel_rfl) (by kernel_rfl)
      · refine GoO.skip' c19_29e ?_
        refine GoO.inBlock ?_
        refine GoO.region' (is := [0, 1, 2]) c19_30e (by kernel_rfl) ?_
        refine GoO.exec (is := [0, 1, 2]) (hs := [.p, .p, .p]) (rest := []) (ks := [0, 1, 5]) (env' := [(0, .slice A_2 a_1.length c_3), (1, .slice A_5 b_4.length c_6), (5, vI (wi64 (i_8 + 1)))]) (H' := []) (ps := []) (by kernel_rfl) trivial ?_
        refine GoO.regionEnd ?_
        refine GoO.inLoop ?_
        exact GoO.sub (ks := [0, 1, 5]) (hk := []) (bk := [0, 1]) (by kernel_rfl) (by kernel_rfl) (by kernel_rfl) (ih0 (wi64 (i_8 + 1)))
    · refine GoO.exit' c19_20e rfl ?_
      refine GoO.seq' c19_31e ?_
      refine GoO.region' (is := [0]) c19_32e (by kernel_rfl) ?_
      refine GoO.exec (is := [0]) (hs := [.p]) (rest := []) (ks := [4]) (env' := [(4, .bool true)]) (H' := []) (ps := []) (by kernel_rfl) trivial ?_
      refine GoO.regionEnd ?_
      exact GoO.ret' (h := c19_33e) (hs := []) (ps := []) (hk := []) (bk := []) Try.func19 () (by kernel_rfl) trivial (by kernel_rfl) (by kernel_rfl)
theorem tontineref07_Same_ok (n : Nat) (a_1 : (List T_api_Entry)) (b_4 : (List T_api_Entry)) (A_2 : Option Addr) (c_3 : Nat) (A_5 : Option Addr) (c_6 : Nat) :
    Meets Try.prog 19 [.slice A_2 a_1.length c_3, .slice A_5 b_4.length c_6] 0 [] [] [Rd 0 kT_api_Entry A_2 c_3 a_1, Rd 0 kT_api_Entry A_5 c_6 b_4] (tontineref07_Same.f n a_1 b_4) (tontineref07_Same.R A_2 c_3 A_5 c_6) := by
  refine Meets.of (c := c19_0) (n := 26) Try.func19 (by kernel_rfl) (by kernel_rfl) (by kernel_rfl) fun w0 S0 => ?_
  unfold tontineref07_Same.f
  show GoO (tontineref07_Same.cx A_2 c_3 A_5 c_6 w0 S0) [(0, .slice A_2 a_1.length c_3), (1, .slice A_5 b_4.length c_6)] [] [Rd 0 kT_api_Entry A_2 c_3 a_1, Rd 0 kT_api_Entry A_5 c_6 b_4] [.code c19_0] _
  refine GoO.seq' c19_0e ?_
  refine GoO.region' (is := [0]) c19_1e (by kernel_rfl) ?_
  refine GoO.exec (is := [0]) (hs := [.p]) (rest := []) (ks := [0, 1]) (env' := [(0, .slice A_2 a_1.length c_3), (1, .slice A_5 b_4.length c_6)]) (H' := []) (ps := []) (by kernel_rfl) trivial ?_
  refine GoO.regionEnd ?_
  refine GoO.seq' c19_2e ?_
  refine GoO.seq' c19_3e ?_
  refine GoO.region' (is := [0, 1, 2, 3, 4]) c19_4e (by kernel_rfl) ?_
  refine GoO.exec (is := [0, 1, 2, 3, 4]) (hs := [.p, .p, .p, .p, .p]) (rest := []) (ks := [0, 1, 10]) (env' := [(0, .slice A_2 a_1.length c_3), (1, .slice A_5 b_4.length c_6), (10, .bool ((a_1.length : Int) != (b_4.length : Int)))]) (H' := []) (ps := []) (by kernel_rfl) trivial ?_
  refine GoO.regionEnd ?_
  refine GoO.ite' c19_5e (by kernel_rfl) (fun h7 => ?_) (fun h7 => ?_)
  · refine GoO.seq' c19_6e ?_
    refine GoO.region' (is := [0]) c19_7e (by kernel_rfl) ?_
    refine GoO.exec (is := [0]) (hs := [.p]) (rest := []) (ks := [4]) (env' := [(4, .bool false)]) (H' := []) (ps := []) (by kernel_rfl) trivial ?_
    refine GoO.regionEnd ?_
    exact GoO.ret' (h := c19_8e) (hs := []) (ps := []) (hk := []) (bk := []) Try.func19 () (by kernel_rfl) trivial (by kernel_rfl) (by kernel_rfl)
  · refine GoO.skip' c19_9e ?_
    refine GoO.seq' c19_10e ?_
    refine GoO.seq' c19_11e ?_
    refine GoO.region' (is := [0]) c19_12e (by kernel_rfl) ?_
    refine GoO.exec (is := [0]) (hs := [.p]) (rest := []) (ks := [0, 1, 5]) (env' := [(0, .slice A_2 a_1.length c_3), (1, .slice A_5 b_4.length c_6), (5, vI 0)]) (H' := []) (ps := []) (by kernel_rfl) trivial ?_
    refine GoO.regionEnd ?_
    refine GoO.block' c19_13e ?_
    refine GoO.loop' c19_14e ?_
    exact GoO.sub (ks := [0, 1, 5]) (hk := []) (bk := [0, 1]) (by kernel_rfl) (by kernel_rfl) (by kernel_rfl) (tontineref07_Same_l0_ok n a_1 b_4 A_2 c_3 A_5 c_6 w0 S0 n 0)
/-! tontine/tontineref10.Same -/
noncomputable def c46_0 : Code := bodyOf Try.f46
noncomputable def c46_1 : Code := cdL c46_0
noncomputable def c46_2 : Code := cdR c46_0
noncomputable def c46_3 : Code := cdL c46_2
noncomputable def c46_4 : Code := cdR c46_2
noncomputable def r46_1 : Array Oper := cdO c46_1
noncomputable def r46_3 : Array Oper := cdO c46_3
theorem c46_0e : c46_0 = .seq c46_1 c46_2 := by kernel_rfl
theorem c46_1e : c46_1 = .region 0 r46_1 false := by kernel_rfl
theorem c46_2e : c46_2 = .seq c46_3 c46_4 := by kernel_rfl
theorem c46_3e : c46_3 = .region 1 r46_3 false := by kernel_rfl
theorem c46_4e : c46_4 = .ret := by kernel_rfl
noncomputable def tontineref10_Same.R (A_2 : Option Addr) (c_3 : Nat) (A_5 : Option Addr) (c_6 : Nat) : Pst Bool where
  ε := Unit
  v := fun r x => .bool r
  H := fun r x => []
  B := fun r x => []
noncomputable def tontineref10_Same.cx (A_2 : Option Addr) (c_3 : Nat) (A_5 : Option Addr) (c_6 : Nat) (w0 : World) (S0 : Fam) : Cx Bool := ⟨Try.prog, 46, Try.f46, 73, w0, S0, [], 0, tontineref10_Same.R A_2 c_3 A_5 c_6⟩
theorem tontineref10_Same_ok (n : Nat) (a_1 : T_api_Letter) (b_4 : T_api_Letter) (A_2 : Option Addr) (c_3 : Nat) (A_5 : Option Addr) (c_6 : Nat) :
    Meets Try.prog 46 [.agg ⟨[vI a_1.Kind, vI a_1.From, vI a_1.To, vU a_1.Term, vU a_1.Index, vU a_1.Prev, vU a_1.Commit, .bool a_1.Ok, .slice A_2 a_1.Entries.length c_3, .string (bs a_1.Data)]⟩, .agg ⟨[vI b_4.Kind, vI b_4.From, vI b_4.To, vU b_4.Term, vU b_4.Index, vU b_4.Prev, vU b_4.Commit, .bool b_4.Ok, .slice A_5 b_4.Entries.length c_6, .string (bs b_4.Data)]⟩] 0 [] [] [Rd 0 kT_api_Entry A_2 c_3 a_1.Entries, Rd 0 kT_api_Entry A_5 c_6 b_4.Entries] (tontineref10_Same.f n a_1 b_4) (tontineref10_Same.R A_2 c_3 A_5 c_6) := by
  refine Meets.of (c := c46_0) (n := 73) Try.func46 (by kernel_rfl) (by kernel_rfl) (by kernel_rfl) fun w0 S0 => ?_
  unfold tontineref10_Same.f
  show GoO (tontineref10_Same.cx A_2 c_3 A_5 c_6 w0 S0) [(0, .agg ⟨[vI a_1.Kind, vI a_1.From, vI a_1.To, vU a_1.Term, vU a_1.Index, vU a_1.Prev, vU a_1.Commit, .bool a_1.Ok, .slice A_2 a_1.Entries.length c_3, .string (bs a_1.Data)]⟩), (1, .agg ⟨[vI b_4.Kind, vI b_4.From, vI b_4.To, vU b_4.Term, vU b_4.Index, vU b_4.Prev, vU b_4.Commit, .bool b_4.Ok, .slice A_5 b_4.Entries.length c_6, .string (bs b_4.Data)]⟩)] [] [Rd 0 kT_api_Entry A_2 c_3 a_1.Entries, Rd 0 kT_api_Entry A_5 c_6 b_4.Entries] [.code c46_0] _
  refine GoO.seq' c46_0e ?_
  refine GoO.region' (is := [0, 1, 2]) c46_1e (by kernel_rfl) ?_
  refine OpTo.go (GoO.new rfl 40 (cs := [vI a_1.Kind, vI a_1.From, vI a_1.To, vU a_1.Term, vU a_1.Index, vU a_1.Prev, vU a_1.Commit, .bool a_1.Ok, .slice A_2 a_1.Entries.length c_3, .string (bs a_1.Data)]) (by kernel_rfl) _ (fun _ => rfl) (fun b_7 => ?_))
  refine OpTo.go (GoO.new rfl 41 (cs := [vI b_4.Kind, vI b_4.From, vI b_4.To, vU b_4.Term, vU b_4.Index, vU b_4.Prev, vU b_4.Commit, .bool b_4.Ok, .slice A_5 b_4.Entries.length c_6, .string (bs b_4.Data)]) (by kernel_rfl) _ (fun _ => rfl) (fun b_8 => ?_))
  refine GoO.exec (is := [2]) (hs := [.p]) (rest := []) (ks := [2, 3]) (env' := [(2, vP b_7), (3, vP b_8)]) (H' := [⟨41, b_8, [vI b_4.Kind, vI b_4.From, vI b_4.To, vU b_4.Term, vU b_4.Index, vU b_4.Prev, vU b_4.Commit, .bool b_4.Ok, .slice A_5 b_4.Entries.length c_6, .string (bs b_4.Data)]⟩, ⟨40, b_7, [vI a_1.Kind, vI a_1.From, vI a_1.To, vU a_1.Term, vU a_1.Index, vU a_1.Prev, vU a_1.Commit, .bool a_1.Ok, .slice A_2 a_1.Entries.length c_3, .string (bs a_1.Data)]⟩]) (ps := []) (by kernel_rfl) trivial ?_
  refine GoO.regionEnd ?_
  refine GoO.seq' c46_2e ?_
  refine GoO.region' (is := [0, 1, 2, 3, 4, 5, 6, 7, 8, 9, 10, 11, 12, 13, 14, 15, 16, 17, 18, 19, 20, 21, 22, 23, 24, 25, 26, 27, 28, 29, 30, 31, 32, 33, 34, 35, 36, 37, 38, 39, 40, 41, 42, 43, 44, 45, 46, 47, 48, 49, 50, 51, 52, 53, 54, 55, 56, 57, 58, 59, 60, 61, 62, 63, 64, 65, 66, 67, 68]) c46_3e (by kernel_rfl) ?_
  refine GoO.exec (is := [0, 1, 2, 3, 4, 5]) (hs := [.p, .b 1, .p, .b 0, .p, .p]) (rest := [6, 7, 8, 9, 10, 11, 12, 13, 14, 15, 16, 17, 18, 19, 20, 21, 22, 23, 24, 25, 26, 27, 28, 29, 30, 31, 32, 33, 34, 35, 36, 37, 38, 39, 40, 41, 42, 43, 44, 45, 46, 47, 48, 49, 50, 51, 52, 53, 54, 55, 56, 57, 58, 59, 60, 61, 62, 63, 64, 65, 66, 67, 68]) (ks := [2, 3, 10]) (env' := [(2, vP b_7), (3, vP b_8), (10, .bool (a_1.Kind == b_4.Kind))]) (H' := [⟨41, b_8, [vI b_4.Kind, vI b_4.From, vI b_4.To, vU b_4.Term, vU b_4.Index, vU b_4.Prev, vU b_4.Commit, .bool b_4.Ok, .slice A_5 b_4.Entries.length c_6, .string (bs b_4.Data)]⟩, ⟨40, b_7, [vI a_1.Kind, vI a_1.From, vI a_1.To, vU a_1.Term, vU a_1.Index, vU a_1.Prev, vU a_1.Commit, .bool a_1.Ok, .slice A_2 a_1.Entries.length c_3, .string (bs a_1.Data)]⟩]) (ps := [b_7 = b_7, b_8 = b_8]) (by kernel_rfl) (And.intro rfl (And.intro rfl trivial)) ?_
  refine GoO.bsplit (t := 10) (by kernel_rfl) (fun h9 => ?_) (fun h9 => ?_)
  · refine GoO.exec (is := [6, 7, 8, 9, 10, 11, 12]) (hs := [.p, .b 1, .p, .b 0, .p, .p, .p]) (rest := [13, 14, 15, 16, 17, 18, 19, 20, 21, 22, 23, 24, 25, 26, 27, 28, 29, 30, 31, 32, 33, 34, 35, 36, 37, 38, 39, 40, 41, 42, 43, 44, 45, 46, 47, 48, 49, 50, 51, 52, 53, 54, 55, 56, 57, 58, 59, 60, 61, 62, 63, 64, 65, 66, 67, 68]) (ks := [2, 3, 17]) (env' := [(2, vP b_7), (3, vP b_8), (17, .bool (a_1.From == b_4.From))]) (H' := [⟨41, b_8, [vI b_4.Kind, vI b_4.From, vI b_4.To, vU b_4.Term, vU b_4.Index, vU b_4.Prev, vU b_4.Commit, .bool b_4.Ok, .slice A_5 b_4.Entries.length c_6, .string (bs b_4.Data)]⟩, ⟨40, b_7, [vI a_1.Kind, vI a_1.From, vI a_1.To, vU a_1.Term, vU a_1.Index, vU a_1.Prev, vU a_1.Commit, .bool a_1.Ok, .slice A_2 a_1.Entries.length c_3, .string (bs a_1.Data)]⟩]) (ps := [b_7 = b_7, b_8 = b_8]) (by kernel_rfl) (And.intro rfl (And.intro rfl trivial)) ?_
    refine GoO.bsplit (t := 17) (by kernel_rfl) (fun h10 => ?_) (fun h10 => ?_)
    · refine GoO.exec (is := [13, 14, 15, 16, 17, 18, 19]) (hs := [.p, .b 1, .p, .b 0, .p, .p, .p]) (rest := [20, 21, 22, 23, 24, 25, 26, 27, 28, 29, 30, 31, 32, 33, 34, 35, 36, 37, 38, 39, 40, 41, 42, 43, 44, 45, 46, 47, 48, 49, 50, 51, 52, 53, 54, 55, 56, 57, 58, 59, 60, 61, 62, 63, 64, 65, 66, 67, 68]) (ks := [2, 3, 24]) (env' := [(2, vP b_7), (3, vP b_8), (24, .bool (a_1.To == b_4.To))]) (H' := [⟨41, b_8, [vI b_4.Kind, vI b_4.From, vI b_4.To, vU b_4.Term, vU b_4.Index, vU b_4.Prev, vU b_4.Commit, .bool b_4.Ok, .slice A_5 b_4.Entries.length c_6, .string (bs b_4.Data)]⟩, ⟨40, b_7, [vI a_1.Kind, vI a_1.From, vI a_1.To, vU a_1.Term, vU a_1.Index, vU a_1.Prev, vU a_1.Commit, .bool a_1.Ok, .slice A_2 a_1.Entries.length c_3, .string (bs a_1.Data)]⟩]) (ps := [b_7 = b_7, b_8 = b_8]) (by kernel_rfl) (And.intro rfl (And.intro rfl trivial)) ?_
      refine GoO.bsplit (t := 24) (by kernel_rfl) (fun h11 => ?_) (fun h11 => ?_)
      · refine GoO.exec (is := [20, 21, 22, 23, 24, 25, 26]) (hs := [.p, .b 1, .p, .b 0, .p, .p, .p]) (rest := [27, 28, 29, 30, 31, 32, 33, 34, 35, 36, 37, 38, 39, 40, 41, 42, 43, 44, 45, 46, 47, 48, 49, 50, 51, 52, 53, 54, 55, 56, 57, 58, 59, 60, 61, 62, 63, 64, 65, 66, 67, 68]) (ks := [2, 3, 31]) (env' := [(2, vP b_7), (3, vP b_8), (31, .bool (a_1.Term == b_4.Term))]) (H' := [⟨41, b_8, [vI b_4.Kind, vI b_4.From, vI b_4.To, vU b_4.Term, vU b_4.Index, vU b_4.Prev, vU b_4.Commit, .bool b_4.Ok, .slice A_5 b_4.Entries.length c_6, .string (bs b_4.Data)]⟩, ⟨40, b_7, [vI a_1.Kind, vI a_1.From, vI a_1.To, vU a_1.Term, vU a_1.Index, vU a_1.Prev, vU a_1.Commit, .bool a_1.Ok, .slice A_2 a_1.Entries.length c_3, .string (bs a_1.Data)]⟩]) (ps := [b_7 = b_7, b_8 = b_8]) (by kernel_rfl) (And.intro rfl (And.intro rfl trivial)) ?_
        refine GoO.bsplit (t := 31) (by kernel_rfl) (fun h12 => ?_) (fun h12 => ?_)
        · refine GoO.exec (is := [27, 28, 29, 30, 31, 32, 33]) (hs := [.p, .b 1, .p, .b 0, .p, .p, .p]) (rest := [34, 35, 36, 37, 38, 39, 40, 41, 42, 43, 44, 45, 46, 47, 48, 49, 50, 51, 52, 53, 54, 55, 56, 57, 58, 59, 60, 61, 62, 63, 64, 65, 66, 67, 68]) (ks := [2, 3, 38]) (env' := [(2, vP b_7), (3, vP b_8), (38, .bool (a_1.Index == b_4.Index))]) (H' := [⟨41, b_8, [vI b_4.Kind, vI b_4.From, vI b_4.To, vU b_4.Term, vU b_4.Index, vU b_4.Prev, vU b_4.Commit, .bool b_4.Ok, .slice A_5 b_4.Entries.length c_6, .string (bs b_4.Data)]⟩, ⟨40, b_7, [vI a_1.Kind, vI a_1.From, vI a_1.To, vU a_1.Term, vU a_1.Index, vU a_1.Prev, vU a_1.Commit, .bool a_1.Ok, .slice A_2 a_1.Entries.length c_3, .string (bs a_1.Data)]⟩]) (ps := [b_7 = b_7, b_8 = b_8]) (by kernel_rfl) (And.intro rfl (And.intro rfl trivial)) ?_
          refine GoO.bsplit (t := 38) (by kernel_rfl) (fun h13 => ?_) (fun h13 => ?_)
          · refine GoO.exec (is := [34, 35, 36, 37, 38, 39, 40]) (hs := [.p, .b 1, .p, .b 0, .p, .p, .p]) (rest := [41, 42, 43, 44, 45, 46, 47, 48, 49, 50, 51, 52, 53, 54, 55, 56, 57, 58, 59, 60, 61, 62, 63, 64, 65, 66, 67, 68]) (ks := [2, 3, 45]) (env' := [(2, vP b_7), (3, vP b_8), (45, .bool (a_1.Prev == b_4.Prev))]) (H' := [⟨41, b_8, [vI b_4.Kind, vI b_4.From, vI b_4.To, vU b_4.Term, vU b_4.Index, vU b_4.Prev, vU b_4.Commit, .bool b_4.Ok, .slice A_5 b_4.Entries.length c_6, .string (bs b_4.Data)]⟩, ⟨40, b_7, [vI a_1.Kind, vI a_1.From, vI a_1.To, vU a_1.Term, vU a_1.Index, vU a_1.Prev, vU a_1.Commit, .bool a_1.Ok, .slice A_2 a_1.Entries.length c_3, .string (bs a_1.Data)]⟩]) (ps := [b_7 = b_7, b_8 = b_8]) (by kernel_rfl) (And.intro rfl (And.intro rfl trivial)) ?_
            refine GoO.bsplit (t := 45) (by kernel_rfl) (fun h14 => ?_) (fun h14 => ?_)
            · refine GoO.exec (is := [41, 42, 43, 44, 45, 46, 47]) (hs := [.p, .b 1, .p, .b 0, .p, .p, .p]) (rest := [48, 49, 50, 51, 52, 53, 54, 55, 56, 57, 58, 59, 60, 61, 62, 63, 64, 65, 66, 67, 68]) (ks := [2, 3, 52]) (env' := [(2, vP b_7), (3, vP b_8), (52, .bool (a_1.Commit == b_4.Commit))]) (H' := [⟨41, b_8, [vI b_4.Kind, vI b_4.From, vI b_4.To, vU b_4.Term, vU b_4.Index, vU b_4.Prev, vU b_4.Commit, .bool b_4.Ok, .slice A_5 b_4.Entries.length c_6, .string (bs b_4.Data)]⟩, ⟨40, b_7, [vI a_1.Kind, vI a_1.From, vI a_1.To, vU a_1.Term, vU a_1.Index, vU a_1.Prev, vU a_1.Commit, .bool a_1.Ok, .slice A_2 a_1.Entries.length c_3, .string (bs a_1.Data)]⟩]) (ps := [b_7 = b_7, b_8 = b_8]) (by kernel_rfl) (And.intro rfl (And.intro rfl trivial)) ?_
              refine GoO.bsplit (t := 52) (by kernel_rfl) (fun h15 => ?_) (fun h15 => ?_)
              · refine GoO.exec (is := [48, 49, 50, 51, 52, 53, 54]) (hs := [.p, .b 1, .p, .b 0, .p, .p, .p]) (rest := [55, 56, 57, 58, 59, 60, 61, 62, 63, 64, 65, 66, 67, 68]) (ks := [2, 3, 59]) (env' := [(2, vP b_7), (3, vP b_8), (59, .bool (a_1.Ok == b_4.Ok))]) (H' := [⟨41, b_8, [vI b_4.Kind, vI b_4.From, vI b_4.To, vU b_4.Term, vU b_4.Index, vU b_4.Prev, vU b_4.Commit, .bool b_4.Ok, .slice A_5 b_4.Entries.length c_6, .string (bs b_4.Data)]⟩, ⟨40, b_7, [vI a_1.Kind, vI a_1.From, vI a_1.To, vU a_1.Term, vU a_1.Index, vU a_1.Prev, vU a_1.Commit, .bool a_1.Ok, .slice A_2 a_1.Entries.length c_3, .string (bs a_1.Data)]⟩]) (ps := [b_7 = b_7, b_8 = b_8]) (by kernel_rfl) (And.intro rfl (And.intro rfl trivial)) ?_
                refine GoO.bsplit (t := 59) (by kernel_rfl) (fun h16 => ?_) (fun h16 => ?_)
                · refine GoO.exec (is := [55, 56, 57, 58, 59, 60, 61]) (hs := [.p, .b 1, .p, .b 0, .p, .p, .p]) (rest := [62, 63, 64, 65, 66, 67, 68]) (ks := [2, 3, 66]) (env' := [(2, vP b_7), (3, vP b_8), (66, .bool (a_1.Data == b_4.Data))]) (H' := [⟨41, b_8, [vI b_4.Kind, vI b_4.From, vI b_4.To, vU b_4.Term, vU b_4.Index, vU b_4.Prev, vU b_4.Commit, .bool b_4.Ok, .slice A_5 b_4.Entries.length c_6, .string (bs b_4.Data)]⟩, ⟨40, b_7, [vI a_1.Kind, vI a_1.From, vI a_1.To, vU a_1.Term, vU a_1.Index, vU a_1.Prev, vU a_1.Commit, .bool a_1.Ok, .slice A_2 a_1.Entries.length c_3, .string (bs a_1.Data)]⟩]) (ps := [b_7 = b_7, b_8 = b_8]) (by kernel_rfl) (And.intro rfl (And.intro rfl trivial)) ?_
                  refine GoO.bsplit (t := 66) (by kernel_rfl) (fun h17 => ?_) (fun h17 => ?_)
                  · refine GoO.exec (is := [62, 63, 64, 65]) (hs := [.p, .b 1, .p, .b 0]) (rest := [66, 67, 68]) (ks := [66, 68, 70]) (env' := [(66, .bool true), (68, .slice A_2 a_1.Entries.length c_3), (70, .slice A_5 b_4.Entries.length c_6)]) (H' := [⟨41, b_8, [vI b_4.Kind, vI b_4.From, vI b_4.To, vU b_4.Term, vU b_4.Index, vU b_4.Prev, vU b_4.Commit, .bool b_4.Ok, .slice A_5 b_4.Entries.length c_6, .string (bs b_4.Data)]⟩, ⟨40, b_7, [vI a_1.Kind, vI a_1.From, vI a_1.To, vU a_1.Term, vU a_1.Index, vU a_1.Prev, vU a_1.Commit, .bool a_1.Ok, .slice A_2 a_1.Entries.length c_3, .string (bs a_1.Data)]⟩]) (ps := [b_7 = b_7, b_8 = b_8]) (by kernel_rfl) (And.intro rfl (And.intro rfl trivial)) ?_
                    refine OpTo.go (GoO.call rfl (by kernel_rfl) (by kernel_rfl) (tontineref07_Same_ok n a_1.Entries b_4.Entries A_2 c_3 A_5 c_6) [[0]] [] [] [(0, 0), (0, 1)] (hks := [0, 1]) (bks := [0, 1]) (by kernel_rfl) (by kernel_rfl) (by kernel_rfl) (.inl rfl) rfl rfl (by kernel_rfl) (by kernel_rfl) _ (fun _ _ => rfl) _ _ (fun _ _ => rfl) (fun _ _ => rfl) (fun _ _ => by kernel_rfl) (fun _ _ => by kernel_rfl) (fun r_18 x_19 => ?_))
                    refine GoO.shape (env' := [(66, .bool true), (68, .slice A_2 a_1.Entries.length c_3), (70, .slice A_5 b_4.Entries.length c_6), (71, .bool r_18)]) (H' := [⟨41, b_8, [vI b_4.Kind, vI b_4.From, vI b_4.To, vU b_4.Term, vU b_4.Index, vU b_4.Prev, vU b_4.Commit, .bool b_4.Ok, .slice A_5 b_4.Entries.length c_6, .string (bs b_4.Data)]⟩, ⟨40, b_7, [vI a_1.Kind, vI a_1.From, vI a_1.To, vU a_1.Term, vU a_1.Index, vU a_1.Prev, vU a_1.Commit, .bool a_1.Ok, .slice A_2 a_1.Entries.length c_3, .string (bs a_1.Data)]⟩]) (B' := [Rd 0 kT_api_Entry A_2 c_3 a_1.Entries, Rd 0 kT_api_Entry A_5 c_6 b_4.Entries]) (ks := [66, 68, 70, 71]) (by kernel_rfl) (by kernel_rfl) (by kernel_rfl) ?_
                    refine GoO.exec (is := [67, 68]) (hs := [.p, .p]) (rest := []) (ks := [4]) (env' := [(4, .bool r_18)]) (H' := [⟨41, b_8, [vI b_4.Kind, vI b_4.From, vI b_4.To, vU b_4.Term, vU b_4.Index, vU b_4.Prev, vU b_4.Commit, .bool b_4.Ok, .slice A_5 b_4.Entries.length c_6, .string (bs b_4.Data)]⟩, ⟨40, b_7, [vI a_1.Kind, vI a_1.From, vI a_1.To, vU a_1.Term, vU a_1.Index, vU a_1.Prev, vU a_1.Commit, .bool a_1.Ok, .slice A_2 a_1.Entries.length c_3, .string (bs a_1.Data)]⟩]) (ps := []) (by kernel_rfl) trivial ?_
                    refine GoO.regionEnd ?_
                    exact GoO.ret' (h := c46_4e) (hs := []) (ps := []) (hk := []) (bk := []) Try.func46 () (by kernel_rfl) trivial (by kernel_rfl) (by kernel_rfl)
                  · refine GoO.exec (is := [62, 63, 64, 65, 66, 67, 68]) (hs := [.p, .p, .p, .p, .p, .p, .p]) (rest := []) (ks := [4]) (env' := [(4, .bool false)]) (H' := [⟨41, b_8, [vI b_4.Kind, vI b_4.From, vI b_4.To, vU b_4.Term, vU b_4.Index, vU b_4.Prev, vU b_4.Commit, .bool b_4.Ok, .slice A_5 b_4.Entries.length c_6, .string (bs b_4.Data)]⟩, ⟨40, b_7, [vI a_1.Kind, vI a_1.From, vI a_1.To, vU a_1.Term, vU a_1.Index, vU a_1.Prev, vU a_1.Commit, .bool a_1.Ok, .slice A_2 a_1.Entries.length c_3, .string (bs a_1.Data)]⟩]) (ps := []) (by kernel_rfl) trivial ?_
                    refine GoO.regionEnd ?_
                    exact GoO.ret' (h := c46_4e) (hs := []) (ps := []) (hk := []) (bk := []) Try.func46 () (by kernel_rfl) trivial (by kernel_rfl) (by kernel_rfl)
                · refine GoO.exec (is := [55, 56, 57, 58, 59, 60, 61, 62, 63, 64, 65, 66, 67, 68]) (hs := [.p, .p, .p, .p, .p, .p, .p, .p, .p, .p, .p, .p, .p, .p]) (rest := []) (ks := [4]) (env' := [(4, .bool false)]) (H' := [⟨41, b_8, [vI b_4.Kind, vI b_4.From, vI b_4.To, vU b_4.Term, vU b_4.Index, vU b_4.Prev, vU b_4.Commit, .bool b_4.Ok, .slice A_5 b_4.Entries.length c_6, .string (bs b_4.Data)]⟩, ⟨40, b_7, [vI a_1.Kind, vI a_1.From, vI a_1.To, vU a_1.Term, vU a_1.Index, vU a_1.Prev, vU a_1.Commit, .bool a_1.Ok, .slice A_2 a_1.Entries.length c_3, .string (bs a_1.Data)]⟩]) (ps := []) (by kernel_rfl) trivial ?_
                  refine GoO.regionEnd ?_
                  exact GoO.ret' (h := c46_4e) (hs := []) (ps := []) (hk := []) (bk := []) Try.func46 () (by kernel_rfl) trivial (by kernel_rfl) (by kernel_rfl)
              · refine GoO.exec (is := [48, 49, 50, 51, 52, 53, 54, 55, 56, 57, 58, 59, 60, 61, 62, 63, 64, 65, 66, 67, 68]) (hs := [.p, .p, .p, .p, .p, .p, .p, .p, .p, .p, .p, .p, .p, .p, .p, .p, .p, .p, .p, .p, .p]) (rest := []) (ks := [4]) (env' := [(4, .bool false)]) (H' := [⟨41, b_8, [vI b_4.Kind, vI b_4.From, vI b_4.To, vU b_4.Term, vU b_4.Index, vU b_4.Prev, vU b_4.Commit, .bool b_4.Ok, .slice A_5 b_4.Entries.length c_6, .string (bs b_4.Data)]⟩, ⟨40, b_7, [vI a_1.Kind, vI a_1.From, vI a_1.To, vU a_1.Term, vU a_1.Index, vU a_1.Prev, vU a_1.Commit, .bool a_1.Ok, .slice A_2 a_1.Entries.length c_3, .string (bs a_1.Data)]⟩]) (ps := []) (by kernel_rfl) trivial ?_
                refine GoO.regionEnd ?_
                exact GoO.ret' (h := c46_4e) (hs := []) (ps := []) (hk := []) (bk := []) Try.func46 () (by kernel_rfl) trivial (by kernel_rfl) (by kernel_rfl)
            · refine GoO.exec (is := [41, 42, 43, 44, 45, 46, 47, 48, 49, 50, 51, 52, 53, 54, 55, 56, 57, 58, 59, 60, 61, 62, 63, 64, 65, 66, 67, 68]) (hs := [.p, .p, .p, .p, .p, .p, .p, .p, .p, .p, .p, .p, .p, .p, .p, .p, .p, .p, .p, .p, .p, .p, .p, .p, .p, .p, .p, .p]) (rest := []) (ks := [4]) (env' := [(4, .bool false)]) (H' := [⟨41, b_8, [vI b_4.Kind, vI b_4.From, vI b_4.To, vU b_4.Term, vU b_4.Index, vU b_4.Prev, vU b_4.Commit, .bool b_4.Ok, .slice A_5 b_4.Entries.length c_6, .string (bs b_4.Data)]⟩, ⟨40, b_7, [vI a_1.Kind, vI a_1.From, vI a_1.To, vU a_1.Term, vU a_1.Index, vU a_1.Prev, vU a_1.Commit, .bool a_1.Ok, .slice A_2 a_1.Entries.length c_3, .string (bs a_1.Data)]⟩]) (ps := []) (by kernel_rfl) trivial ?_
              refine GoO.regionEnd ?_
              exact GoO.ret' (h := c46_4e) (hs := []) (ps := []) (hk := []) (bk := []) Try.func46 () (by kernel_rfl) trivial (by kernel_rfl) (by kernel_rfl)
          · refine GoO.exec (is := [34, 35, 36, 37, 38, 39, 40, 41, 42, 43, 44, 45, 46, 47, 48, 49, 50, 51, 52, 53, 54, 55, 56, 57, 58, 59, 60, 61, 62, 63, 64, 65, 66, 67, 68]) (hs := [.p, .p, .p, .p, .p, .p, .p, .p, .p, .p, .p, .p, .p, .p, .p, .p, .p, .p, .p, .p, .p, .p, .p, .p, .p, .p, .p, .p, .p, .p, .p, .p, .p, .p, .p]) (rest := []) (ks := [4]) (env' := [(4, .bool false)]) (H' := [⟨41, b_8, [vI b_4.Kind, vI b_4.From, vI b_4.To, vU b_4.Term, vU b_4.Index, vU b_4.Prev, vU b_4.Commit, .bool b_4.Ok, .slice A_5 b_4.Entries.length c_6, .string (bs b_4.Data)]⟩, ⟨40, b_7, [vI a_1.Kind, vI a_1.From, vI a_1.To, vU a_1.Term, vU a_1.Index, vU a_1.Prev, vU a_1.Commit, .bool a_1.Ok, .slice A_2 a_1.Entries.length c_3, .string (bs a_1.Data)]⟩]) (ps := []) (by kernel_rfl) trivial ?_
            refine GoO.regionEnd ?_
            exact GoO.ret' (h := c46_4e) (hs := []) (ps := []) (hk := []) (bk := []) Try.func46 () (by kernel_rfl) trivial (by kernel_rfl) (by kernel_rfl)
        · refine GoO.exec (is := [27, 28, 29, 30, 31, 32, 33, 34, 35, 36, 37, 38, 39, 40, 41, 42, 43, 44, 45, 46, 47, 48, 49, 50, 51, 52, 53, 54, 55, 56, 57, 58, 59, 60, 61, 62, 63, 64, 65, 66, 67, 68]) (hs := [.p, .p, .p, .p, .p, .p, .p, .p, .p, .p, .p, .p, .p, .p, .p, .p, .p, .p, .p, .p, .p, .p, .p, .p, .p, .p, .p, .p, .p, .p, .p, .p, .p, .p, .p, .p, .p, .p, .p, .p, .p, .p]) (rest := []) (ks := [4]) (env' := [(4, .bool false)]) (H' := [⟨41, b_8, [vI b_4.Kind, vI b_4.From, vI b_4.To, vU b_4.Term, vU b_4.Index, vU b_4.Prev, vU b_4.Commit, .bool b_4.Ok, .slice A_5 b_4.Entries.length c_6, .string (bs b_4.Data)]⟩, ⟨40, b_7, [vI a_1.Kind, vI a_1.From, vI a_1.To, vU a_1.Term, vU a_1.Index, vU a_1.Prev, vU a_1.Commit, .bool a_1.Ok, .slice A_2 a_1.Entries.length c_3, .string (bs a_1.Data)]⟩]) (ps := []) (by kernel_rfl) trivial ?_
          refine GoO.regionEnd ?_
          exact GoO.ret' (h := c46_4e) (hs := []) (ps := []) (hk := []) (bk := []) Try.func46 () (by kernel_rfl) trivial (by kernel_rfl) (by kernel_rfl)
      · refine GoO.exec (is := [20, 21, 22, 23, 24, 25, 26, 27, 28, 29, 30, 31, 32, 33, 34, 35, 36, 37, 38, 39, 40, 41, 42, 43, 44, 45, 46, 47, 48, 49, 50, 51, 52, 53, 54, 55, 56, 57, 58, 59, 60, 61, 62, 63, 64, 65, 66, 67, 68]) (hs := [.p, .p, .p, .p, .p, .p, .p, .p, .p, .p, .p, .p, .p, .p, .p, .p, .p, .p, .p, .p, .p, .p, .p, .p, .p, .p, .p, .p, .p, .p, .p, .p, .p, .p, .p, .p, .p, .p, .p, .p, .p, .p, .p, .p, .p, .p, .p, .p, .p]) (rest := []) (ks := [4]) (env' := [(4, .bool false)]) (H' := [⟨41, b_8, [vI b_4.Kind, vI b_4.From, vI b_4.To, vU b_4.Term, vU b_4.Index, vU b_4.Prev, vU b_4.Commit, .bool b_4.Ok, .slice A_5 b_4.Entries.length c_6, .string (bs b_4.Data)]⟩, ⟨40, b_7, [vI a_1.Kind, vI a_1.From, vI a_1.To, vU a_1.Term, vU a_1.Index, vU a_1.Prev, vU a_1.Commit, .bool a_1.Ok, .slice A_2 a_1.Entries.length c_3, .string (bs a_1.Data)]⟩]) (ps := []) (by kernel_rfl) trivial ?_
        refine GoO.regionEnd ?_
        exact GoO.ret' (h := c46_4e) (hs := []) (ps := []) (hk := []) (bk := []) Try.func46 () (by kernel_rfl) trivial (by kernel_rfl) (by kernel_rfl)
    · refine GoO.exec (is := [13, 14, 15, 16, 17, 18, 19, 20, 21, 22, 23, 24, 25, 26, 27, 28, 29, 30, 31, 32, 33, 34, 35, 36, 37, 38, 39, 40, 41, 42, 43, 44, 45, 46, 47, 48, 49, 50, 51, 52, 53, 54, 55, 56, 57, 58, 59, 60, 61, 62, 63, 64, 65, 66, 67, 68]) (hs := [.p, .p, .p, .p, .p, .p, .p, .p, .p, .p, .p, .p, .p, .p, .p, .p, .p, .p, .p, .p, .p, .p, .p, .p, .p, .p, .p, .p, .p, .p, .p, .p, .p, .p, .p, .p, .p, .p, .p, .p, .p, .p, .p, .p, .p, .p, .p, .p, .p, .p, .p, .p, .p, .p, .p, .p]) (rest := []) (ks := [4]) (env' := [(4, .bool false)]) (H' := [⟨41, b_8, [vI b_4.Kind, vI b_4.From, vI b_4.To, vU b_4.Term, vU b_4.Index, vU b_4.Prev, vU b_4.Commit, .bool b_4.Ok, .slice A_5 b_4.Entries.length c_6, .string (bs b_4.Data)]⟩, ⟨40, b_7, [vI a_1.Kind, vI a_1.From, vI a_1.To, vU a_1.Term, vU a_1.Index, vU a_1.Prev, vU a_1.Commit, .bool a_1.Ok, .slice A_2 a_1.Entries.length c_3, .string (bs a_1.Data)]⟩]) (ps := []) (by kernel_rfl) trivial ?_
      refine GoO.regionEnd ?_
      exact GoO.ret' (h := c46_4e) (hs := []) (ps := []) (hk := []) (bk := []) Try.func46 () (by kernel_rfl) trivial (by kernel_rfl) (by kernel_rfl)
  · refine GoO.exec (is := [6, 7, 8, 9, 10, 11, 12, 13, 14, 15, 16, 17, 18, 19, 20, 21, 22, 23, 24, 25, 26, 27, 28, 29, 30, 31, 32, 33, 34, 35, 36, 37, 38, 39, 40, 41, 42, 43, 44, 45, 46, 47, 48, 49, 50, 51, 52, 53, 54, 55, 56, 57, 58, 59, 60, 61, 62, 63, 64, 65, 66, 67, 68]) (hs := [.p, .p, .p, .p, .p, .p, .p, .p, .p, .p, .p, .p, .p, .p, .p, .p, .p, .p, .p, .p, .p, .p, .p, .p, .p, .p, .p, .p, .p, .p, .p, .p, .p, .p, .p, .p, .p, .p, .p, .p, .p, .p, .p, .p, .p, .p, .p, .p, .p, .p, .p, .p, .p, .p, .p, .p, .p, .p, .p, .p, .p, .p, .p]) (rest := []) (ks := [4]) (env' := [(4, .bool false)]) (H' := [⟨41, b_8, [vI b_4.Kind, vI b_4.From, vI b_4.To, vU b_4.Term, vU b_4.Index, vU b_4.Prev, vU b_4.Commit, .bool b_4.Ok, .slice A_5 b_4.Entries.length c_6, .string (bs b_4.Data)]⟩, ⟨40, b_7, [vI a_1.Kind, vI a_1.From, vI a_1.To, vU a_1.Term, vU a_1.Index, vU a_1.Prev, vU a_1.Commit, .bool a_1.Ok, .slice A_2 a_1.Entries.length c_3, .string (bs a_1.Data)]⟩]) (ps := []) (by kernel_rfl) trivial ?_
    refine GoO.regionEnd ?_
    exact GoO.ret' (h := c46_4e) (hs := []) (ps := []) (hk := []) (bk := []) Try.func46 () (by kernel_rfl) trivial (by kernel_rfl) (by kernel_rfl)
/-! (*tontine/client.Client).Again -/
noncomputable def c33_0 : Code := bodyOf Try.f33
noncomputable def c33_1 : Code := cdL c33_0
noncomputable def c33_2 : Code := cdR c33_0
noncomputable def c33_3 : Code := cdL c33_2
noncomputable def c33_4 : Code := cdL c33_3
noncomputable def c33_5 : Code := cdR c33_3
noncomputable def c33_6 : Code := cdL c33_5
noncomputable def c33_7 : Code := cdL c33_6
noncomputable def c33_8 : Code := cdR c33_6
noncomputable def c33_9 : Code := cdR c33_5
noncomputable def c33_10 : Code := cdR c33_2
noncomputable def c33_11 : Code := cdL c33_10
noncomputable def c33_12 : Code := cdR c33_10
noncomputable def c33_13 : Code := cdL c33_12
noncomputable def c33_14 : Code := cdR c33_12
noncomputable def r33_1 : Array Oper := cdO c33_1
noncomputable def r33_4 : Array Oper := cdO c33_4
noncomputable def r33_7 : Array Oper := cdO c33_7
noncomputable def r33_11 : Array Oper := cdO c33_11
noncomputable def r33_13 : Array Oper := cdO c33_13
theorem c33_0e : c33_0 = .seq c33_1 c33_2 := by kernel_rfl
theorem c33_1e : c33_1 = .region 0 r33_1 false := by kernel_rfl
theorem c33_2e : c33_2 = .seq c33_3 c33_10 := by kernel_rfl
theorem c33_3e : c33_3 = .seq c33_4 c33_5 := by kernel_rfl
theorem c33_4e : c33_4 = .region 1 r33_4 false := by kernel_rfl
theorem c33_5e : c33_5 = .cond (cdC c33_5) c33_6 c33_9 := by kernel_rfl
theorem c33_6e : c33_6 = .seq c33_7 c33_8 := by kernel_rfl
theorem c33_7e : c33_7 = .region 2 r33_7 false := by kernel_rfl
theorem c33_8e : c33_8 = .ret := by kernel_rfl
theorem c33_9e : c33_9 = .skip := by kernel_rfl
theorem c33_10e : c33_10 = .seq c33_11 c33_12 := by kernel_rfl
theorem c33_11e : c33_11 = .region 3 r33_11 false := by kernel_rfl
theorem c33_12e : c33_12 = .seq c33_13 c33_14 := by kernel_rfl
theorem c33_13e : c33_13 = .region 4 r33_13 false := by kernel_rfl
theorem c33_14e : c33_14 = .ret := by kernel_rfl
noncomputable def client_Client_Again.R (b_2 : Nat) (A_3 : Option Addr) (c_4 : Nat) : Pst (T_api_Letter × Int × T_client_Client) where
  ε := Option Addr × Nat × Option Addr × Nat
  v := fun r x => .tuple ⟨[.agg ⟨[vI r.1.Kind, vI r.1.From, vI r.1.To, vU r.1.Term, vU r.1.Index, vU r.1.Prev, vU r.1.Commit, .bool r.1.Ok, .slice x.1 r.1.Entries.length x.2.1, .string (bs r.1.Data)]⟩, vI r.2.1]⟩
  H := fun r x => [⟨1, b_2, [vI r.2.2.id, vU r.2.2.session, vU r.2.2.seq, vU r.2.2.call, .bool r.2.2.busy, vI r.2.2.now.Kind, vU r.2.2.now.Session, vU r.2.2.now.Seq, vU r.2.2.now.Saga, .slice x.2.2.1 r.2.2.now.Steps.length x.2.2.2, vI r.2.2.now.Step, .bool r.2.2.now.Back, vI r.2.2.now.Try, .bool r.2.2.now.Ok, vU r.2.2.now.Now, .string (bs r.2.2.data), vI r.2.2.to_]⟩]
  B := fun r x => [Rd 0 kT_api_Entry x.1 x.2.1 r.1.Entries, Rd 0 kT_api_Step x.2.2.1 x.2.2.2 r.2.2.now.Steps]
noncomputable def client_Client_Again.cx (b_2 : Nat) (A_3 : Option Addr) (c_4 : Nat) (w0 : World) (S0 : Fam) : Cx (T_api_Letter × Int × T_client_Client) := ⟨Try.prog, 33, Try.f33, 25, w0, S0, [1], 1, client_Client_Again.R b_2 A_3 c_4⟩
theorem client_Client_Again_ok (n : Nat) (c_1 : T_client_Client) (b_2 : Nat) (A_3 : Option Addr) (c_4 : Nat) :
    Meets Try.prog 33 [vP b_2] 1 [1] [⟨1, b_2, [vI c_1.id, vU c_1.session, vU c_1.seq, vU c_1.call, .bool c_1.busy, vI c_1.now.Kind, vU c_1.now.Session, vU c_1.now.Seq, vU c_1.now.Saga, .slice A_3 c_1.now.Steps.length c_4, vI c_1.now.Step, .bool c_1.now.Back, vI c_1.now.Try, .bool c_1.now.Ok, vU c_1.now.Now, .string (bs c_1.data), vI c_1.to_]⟩] [Rd 0 kT_api_Step A_3 c_4 c_1.now.Steps] (client_Client_Again.f n c_1) (client_Client_Again.R b_2 A_3 c_4) := by
  refine Meets.of (c := c33_0) (n := 25) Try.func33 (by kernel_rfl) (by kernel_rfl) (by kernel_rfl) fun w0 S0 => ?_
  unfold client_Client_Again.f
  show GoO (client_Client_Again.cx b_2 A_3 c_4 w0 S0) [(0, vP b_2)] [⟨1, b_2, [vI c_1.id, vU c_1.session, vU c_1.seq, vU c_1.call, .bool c_1.busy, vI c_1.now.Kind, vU c_1.now.Session, vU c_1.now.Seq, vU c_1.now.Saga, .slice A_3 c_1.now.Steps.length c_4, vI c_1.now.Step, .bool c_1.now.Back, vI c_1.now.Try, .bool c_1.now.Ok, vU c_1.now.Now, .string (bs c_1.data), vI c_1.to_]⟩] [Rd 0 kT_api_Step A_3 c_4 c_1.now.Steps] [.code c33_0] _
  refine GoO.seq' c33_0e ?_
  refine GoO.region' (is := [0, 1]) c33_1e (by kernel_rfl) ?_
  refine OpTo.go (GoO.new rfl 40 (cs := [vI 0, vI 0, vI 0, vU 0, vU 0, vU 0, vU 0, .bool false, .slice none ([] : List T_api_Entry).length 0, .string (bs [])]) (by kernel_rfl) _ (fun _ => rfl) (fun b_5 => ?_))
  refine GoO.exec (is := [1]) (hs := [.p]) (rest := []) (ks := [0, 2]) (env' := [(0, vP b_2), (2, vP b_5)]) (H' := [⟨40, b_5, [vI 0, vI 0, vI 0, vU 0, vU 0, vU 0, vU 0, .bool false, .slice none ([] : List T_api_Entry).length 0, .string (bs [])]⟩, ⟨1, b_2, [vI c_1.id, vU c_1.session, vU c_1.seq, vU c_1.call, .bool c_1.busy, vI c_1.now.Kind, vU c_1.now.Session, vU c_1.now.Seq, vU c_1.now.Saga, .slice A_3 c_1.now.Steps.length c_4, vI c_1.now.Step, .bool c_1.now.Back, vI c_1.now.Try, .bool c_1.now.Ok, vU c_1.now.Now, .string (bs c_1.data), vI c_1.to_]⟩]) (ps := []) (by kernel_rfl) trivial ?_
  refine GoO.regionEnd ?_
  refine GoO.seq' c33_2e ?_
  refine GoO.seq' c33_3e ?_
  refine GoO.region' (is := [0, 1, 2, 3, 4, 5, 6, 7, 8]) c33_4e (by kernel_rfl) ?_
  refine GoO.exec (is := [0, 1, 2, 3, 4, 5, 6, 7, 8]) (hs := [.p, .p, .p, .p, .p, .p, .b 1, .p, .p]) (rest := []) (ks := [0, 2, 12]) (env' := [(0, vP b_2), (2, vP b_5), (12, .bool (!c_1.busy))]) (H' := [⟨40, b_5, [vI 0, vI 0, vI 0, vU 0, vU 0, vU 0, vU 0, .bool false, .slice none ([] : List T_api_Entry).length 0, .string (bs [])]⟩, ⟨1, b_2, [vI c_1.id, vU c_1.session, vU c_1.seq, vU c_1.call, .bool c_1.busy, vI c_1.now.Kind, vU c_1.now.Session, vU c_1.now.Seq, vU c_1.now.Saga, .slice A_3 c_1.now.Steps.length c_4, vI c_1.now.Step, .bool c_1.now.Back, vI c_1.now.Try, .bool c_1.now.Ok, vU c_1.now.Now, .string (bs c_1.data), vI c_1.to_]⟩]) (ps := [b_2 = b_2]) (by kernel_rfl) (And.intro rfl trivial) ?_
  refine GoO.regionEnd ?_
  refine GoO.ite' c33_5e (by kernel_rfl) (fun h6 => ?_) (fun h6 => ?_)
  · refine GoO.seq' c33_6e ?_
    refine GoO.region' (is := [0, 1, 2]) c33_7e (by kernel_rfl) ?_
    refine GoO.exec (is := [0, 1, 2]) (hs := [.p, .b 0, .p]) (rest := []) (ks := [2, 3]) (env' := [(2, vP b_5), (3, vI 1)]) (H' := [⟨40, b_5, [vI 0, vI 0, vI 0, vU 0, vU 0, vU 0, vU 0, .bool false, .slice none ([] : List T_api_Entry).length 0, .string (bs [])]⟩, ⟨1, b_2, [vI c_1.id, vU c_1.session, vU c_1.seq, vU c_1.call, .bool c_1.busy, vI c_1.now.Kind, vU c_1.now.Session, vU c_1.now.Seq, vU c_1.now.Saga, .slice A_3 c_1.now.Steps.length c_4, vI c_1.now.Step, .bool c_1.now.Back, vI c_1.now.Try, .bool c_1.now.Ok, vU c_1.now.Now, .string (bs c_1.data), vI c_1.to_]⟩]) (ps := [b_5 = b_5]) (by kernel_rfl) (And.intro rfl trivial) ?_
    refine GoO.regionEnd ?_
    refine GoO.nilRd kT_api_Entry ?_
    exact GoO.ret' (h := c33_8e) (hs := [0]) (ps := [b_5 = b_5]) (hk := [1]) (bk := [0, 1]) Try.func33 (⟨none, 0, A_3, c_4⟩ : Option Addr × Nat × Option Addr × Nat) (by kernel_rfl) (And.intro rfl trivial) (by kernel_rfl) (by kernel_rfl)
  · refine GoO.skip' c33_9e ?_
    refine GoO.seq' c33_10e ?_
    refine GoO.region' (is := [0, 1, 2, 3, 4, 5, 6, 7, 8, 9]) c33_11e (by kernel_rfl) ?_
    refine GoO.exec (is := [0, 1, 2, 3, 4, 5, 6, 7, 8, 9]) (hs := [.p, .p, .p, .p, .b 1, .p, .p, .p, .p, .b 1]) (rest := []) (ks := [0, 2]) (env' := [(0, vP b_2), (2, vP b_5)]) (H' := [⟨40, b_5, [vI 0, vI 0, vI 0, vU 0, vU 0, vU 0, vU 0, .bool false, .slice none ([] : List T_api_Entry).length 0, .string (bs [])]⟩, ⟨1, b_2, [vI c_1.id, vU c_1.session, vU c_1.seq, vU c_1.call, .bool c_1.busy, vI c_1.now.Kind, vU c_1.now.Session, vU c_1.now.Seq, vU c_1.now.Saga, .slice A_3 c_1.now.Steps.length c_4, vI c_1.now.Step, .bool c_1.now.Back, vI c_1.now.Try, .bool c_1.now.Ok, vU c_1.now.Now, .string (bs c_1.data), vI ((wi64 (c_1.to_ + 1)).tmod 7)]⟩]) (ps := [b_2 = b_2, (7 : Int) ≠ 0, b_2 = b_2]) (by kernel_rfl) (And.intro rfl (And.intro (by decide) (And.intro rfl trivial))) ?_
    refine GoO.regionEnd ?_
    refine GoO.seq' c33_12e ?_
    refine GoO.region' (is := [0, 1, 2, 3]) c33_13e (by kernel_rfl) ?_
    refine GoO.exec (is := [0]) (hs := [.p]) (rest := [1, 2, 3]) (ks := [2, 23]) (env' := [(2, vP b_5), (23, vP b_2)]) (H' := [⟨40, b_5, [vI 0, vI 0, vI 0, vU 0, vU 0, vU 0, vU 0, .bool false, .slice none ([] : List T_api_Entry).length 0, .string (bs [])]⟩, ⟨1, b_2, [vI c_1.id, vU c_1.session, vU c_1.seq, vU c_1.call, .bool c_1.busy, vI c_1.now.Kind, vU c_1.now.Session, vU c_1.now.Seq, vU c_1.now.Saga, .slice A_3 c_1.now.Steps.length c_4, vI c_1.now.Step, .bool c_1.now.Back, vI c_1.now.Try, .bool c_1.now.Ok, vU c_1.now.Now, .string (bs c_1.data), vI ((wi64 (c_1.to_ + 1)).tmod 7)]⟩]) (ps := []) (by kernel_rfl) trivial ?_
    refine OpTo.go (GoO.call rfl (by kernel_rfl) (by kernel_rfl) (client_Client_letter_ok n (⟨c_1.id, c_1.session, c_1.seq, c_1.call, c_1.busy, (⟨c_1.now.Kind, c_1.now.Session, c_1.now.Seq, c_1.now.Saga, c_1.now.Steps, c_1.now.Step, c_1.now.Back, c_1.now.Try, c_1.now.Ok, c_1.now.Now⟩ : T_api_Command), c_1.data, (wi64 (c_1.to_ + 1)).tmod 7⟩ : T_client_Client) b_2 A_3 c_4) [[0], [1]] [] [(1, 1)] [(0, 0)] (hks := [0, 1]) (bks := [0]) (by kernel_rfl) (by kernel_rfl) (by kernel_rfl) (.inl rfl) rfl rfl (by kernel_rfl) (by kernel_rfl) _ (fun _ _ => rfl) _ _ (fun _ _ => rfl) (fun _ _ => rfl) (fun _ _ => by kernel_rfl) (fun _ _ => by kernel_rfl) (fun r_7 x_10 => ?_))
    obtain ⟨A_8, c_9⟩ := x_10
    refine GoO.shape (env' := [(2, vP b_5), (23, vP b_2), (24, .agg ⟨[vI r_7.Kind, vI r_7.From, vI r_7.To, vU r_7.Term, vU r_7.Index, vU r_7.Prev, vU r_7.Commit, .bool r_7.Ok, .slice A_8 r_7.Entries.length c_9, .string (bs r_7.Data)]⟩)]) (H' := [⟨40, b_5, [vI 0, vI 0, vI 0, vU 0, vU 0, vU 0, vU 0, .bool false, .slice none ([] : List T_api_Entry).length 0, .string (bs [])]⟩, ⟨1, b_2, [vI c_1.id, vU c_1.session, vU c_1.seq, vU c_1.call, .bool c_1.busy, vI c_1.now.Kind, vU c_1.now.Session, vU c_1.now.Seq, vU c_1.now.Saga, .slice A_3 c_1.now.Steps.length c_4, vI c_1.now.Step, .bool c_1.now.Back, vI c_1.now.Try, .bool c_1.now.Ok, vU c_1.now.Now, .string (bs c_1.data), vI ((wi64 (c_1.to_ + 1)).tmod 7)]⟩]) (B' := [Rd 0 kT_api_Entry A_8 c_9 r_7.Entries, Rd 0 kT_api_Step A_3 c_4 c_1.now.Steps]) (ks := [2, 23, 24]) (by kernel_rfl) (by kernel_rfl) (by kernel_rfl) ?_
    refine GoO.exec (is := [2, 3]) (hs := [.b 0, .p]) (rest := []) (ks := [2, 3]) (env' := [(2, vP b_5), (3, vI 0)]) (H' := [⟨40, b_5, [vI r_7.Kind, vI r_7.From, vI r_7.To, vU r_7.Term, vU r_7.Index, vU r_7.Prev, vU r_7.Commit, .bool r_7.Ok, .slice A_8 r_7.Entries.length c_9, .string (bs r_7.Data)]⟩, ⟨1, b_2, [vI c_1.id, vU c_1.session, vU c_1.seq, vU c_1.call, .bool c_1.busy, vI c_1.now.Kind, vU c_1.now.Session, vU c_1.now.Seq, vU c_1.now.Saga, .slice A_3 c_1.now.Steps.length c_4, vI c_1.now.Step, .bool c_1.now.Back, vI c_1.now.Try, .bool c_1.now.Ok, vU c_1.now.Now, .string (bs c_1.data), vI ((wi64 (c_1.to_ + 1)).tmod 7)]⟩]) (ps := [b_5 = b_5]) (by kernel_rfl) (And.intro rfl trivial) ?_
    refine GoO.regionEnd ?_
    exact GoO.ret' (h := c33_14e) (hs := [0]) (ps := [b_5 = b_5]) (hk := [1]) (bk := [0, 1]) Try.func33 (⟨A_8, c_9, A_3, c_4⟩ : Option Addr × Nat × Option Addr × Nat) (by kernel_rfl) (And.intro rfl trivial) (by kernel_rfl) (by kernel_rfl)
/-! (*tontine/tontineref21.Client).Again -/
noncomputable def c47_0 : Code := bodyOf Try.f47
noncomputable def c47_1 : Code := cdL c47_0
noncomputable def c47_2 : Code := cdR c47_0
noncomputable def c47_3 : Code := cdL c47_2
noncomputable def c47_4 : Code := cdL c47_3
noncomputable def c47_5 : Code := cdR c47_3
noncomputable def c47_6 : Code := cdL c47_5
noncomputable def c47_7 : Code := cdL c47_6
noncomputable def c47_8 : Code := cdR c47_6
noncomputable def c47_9 : Code := cdR c47_5
noncomputable def c47_10 : Code := cdR c47_2
noncomputable def c47_11 : Code := cdL c47_10
noncomputable def c47_12 : Code := cdR c47_10
noncomputable def c47_13 : Code := cdL c47_12
noncomputable def c47_14 : Code := cdL c47_13
noncomputable def c47_15 : Code := cdR c47_13
noncomputable def c47_16 : Code := cdL c47_15
noncomputable def c47_17 : Code := cdR c47_15
noncomputable def c47_18 : Code := cdR c47_12
noncomputable def c47_19 : Code := cdL c47_18
noncomputable def c47_20 : Code := cdR c47_18
noncomputable def r47_1 : Array Oper := cdO c47_1
noncomputable def r47_4 : Array Oper := cdO c47_4
noncomputable def r47_7 : Array Oper := cdO c47_7
noncomputable def r47_11 : Array Oper := cdO c47_11
noncomputable def r47_14 : Array Oper := cdO c47_14
noncomputable def r47_16 : Array Oper := cdO c47_16
noncomputable def r47_19 : Array Oper := cdO c47_19
theorem c47_0e : c47_0 = .seq c47_1 c47_2 := by kernel_rfl
theorem c47_1e : c47_1 = .region 0 r47_1 false := by kernel_rfl
theorem c47_2e : c47_2 = .seq c47_3 c47_10 := by kernel_rfl
theorem c47_3e : c47_3 = .seq c47_4 c47_5 := by kernel_rfl
theorem c47_4e : c47_4 = .region 1 r47_4 false := by kernel_rfl
theorem c47_5e : c47_5 = .cond (cdC c47_5) c47_6 c47_9 := by kernel_rfl
theorem c47_6e : c47_6 = .seq c47_7 c47_8 := by kernel_rfl
theorem c47_7e : c47_7 = .region 2 r47_7 false := by kernel_rfl
theorem c47_8e : c47_8 = .ret := by kernel_rfl
theorem c47_9e : c47_9 = .skip := by kernel_rfl
theorem c47_10e : c47_10 = .seq c47_11 c47_12 := by kernel_rfl
theorem c47_11e : c47_11 = .region 3 r47_11 false := by kernel_rfl
theorem c47_12e : c47_12 = .seq c47_13 c47_18 := by kernel_rfl
theorem c47_13e : c47_13 = .seq c47_14 c47_15 := by kernel_rfl
theorem c47_14e : c47_14 = .region 4 r47_14 false := by kernel_rfl
theorem c47_15e : c47_15 = .cond (cdC c47_15) c47_16 c47_17 := by kernel_rfl
theorem c47_16e : c47_16 = .region 5 r47_16 false := by kernel_rfl
theorem c47_17e : c47_17 = .skip := by kernel_rfl
theorem c47_18e : c47_18 = .seq c47_19 c47_20 := by kernel_rfl
theorem c47_19e : c47_19 = .region 6 r47_19 false := by kernel_rfl
theorem c47_20e : c47_20 = .ret := by kernel_rfl
noncomputable def tontineref21_Client_Again.R (b_2 : Nat) (A_3 : Option Addr) (c_4 : Nat) : Pst (T_api_Letter × Int × T_tontineref21_Client) where
  ε := Option Addr × Nat × Option Addr × Nat
  v := fun r x => .tuple ⟨[.agg ⟨[vI r.1.Kind, vI r.1.From, vI r.1.To, vU r.1.Term, vU r.1.Index, vU r.1.Prev, vU r.1.Commit, .bool r.1.Ok, .slice x.1 r.1.Entries.length x.2.1, .string (bs r.1.Data)]⟩, vI r.2.1]⟩
  H := fun r x => [⟨1, b_2, [vI r.2.2.Id, vU r.2.2.Session, vU r.2.2.Last, vU r.2.2.Calls, .bool r.2.2.Busy, vI r.2.2.Now.Kind, vU r.2.2.Now.Session, vU r.2.2.Now.Seq, vU r.2.2.Now.Saga, .slice x.2.2.1 r.2.2.Now.Steps.length x.2.2.2, vI r.2.2.Now.Step, .bool r.2.2.Now.Back, vI r.2.2.Now.Try, .bool r.2.2.Now.Ok, vU r.2.2.Now.Now, vI r.2.2.To]⟩]
  B := fun r x => [Rd 0 kT_api_Entry x.1 x.2.1 r.1.Entries, Rd 0 kT_api_Step x.2.2.1 x.2.2.2 r.2.2.Now.Steps]
noncomputable def tontineref21_Client_Again.cx (b_2 : Nat) (A_3 : Option Addr) (c_4 : Nat) (w0 : World) (S0 : Fam) : Cx (T_api_Letter × Int × T_tontineref21_Client) := ⟨Try.prog, 47, Try.f47, 27, w0, S0, [1], 1, tontineref21_Client_Again.R b_2 A_3 c_4⟩
theorem tontineref21_Client_Again_ok (n : Nat) (c_1 : T_tontineref21_Client) (b_2 : Nat) (A_3 : Option Addr) (c_4 : Nat) :
    Meets Try.prog 47 [vP b_2] 1 [1] [⟨1, b_2, [vI c_1.Id, vU c_1.Session, vU c_1.Last, vU c_1.Calls, .bool c_1.Busy, vI c_1.Now.Kind, vU c_1.Now.Session, vU c_1.Now.Seq, vU c_1.Now.Saga, .slice A_3 c_1.Now.Steps.length c_4, vI c_1.Now.Step, .bool c_1.Now.Back, vI c_1.Now.Try, .bool c_1.Now.Ok, vU c_1.Now.Now, vI c_1.To]⟩] [Rd 0 kT_api_Step A_3 c_4 c_1.Now.Steps] (tontineref21_Client_Again.f n c_1) (tontineref21_Client_Again.R b_2 A_3 c_4) := by
  refine Meets.of (c := c47_0) (n := 27) Try.func47 (by kernel_rfl) (by kernel_rfl) (by kernel_rfl) fun w0 S0 => ?_
  unfold tontineref21_Client_Again.f
  show GoO (tontineref21_Client_Again.cx b_2 A_3 c_4 w0 S0) [(0, vP b_2)] [⟨1, b_2, [vI c_1.Id, vU c_1.Session, vU c_1.Last, vU c_1.Calls, .bool c_1.Busy, vI c_1.Now.Kind, vU c_1.Now.Session, vU c_1.Now.Seq, vU c_1.Now.Saga, .slice A_3 c_1.Now.Steps.length c_4, vI c_1.Now.Step, .bool c_1.Now.Back, vI c_1.Now.Try, .bool c_1.Now.Ok, vU c_1.Now.Now, vI c_1.To]⟩] [Rd 0 kT_api_Step A_3 c_4 c_1.Now.Steps] [.code c47_0] _
  refine GoO.seq' c47_0e ?_
  refine GoO.region' (is := [0, 1]) c47_1e (by kernel_rfl) ?_
  refine OpTo.go (GoO.new rfl 40 (cs := [vI 0, vI 0, vI 0, vU 0, vU 0, vU 0, vU 0, .bool false, .slice none ([] : List T_api_Entry).length 0, .string (bs [])]) (by kernel_rfl) _ (fun _ => rfl) (fun b_5 => ?_))
  refine GoO.exec (is := [1]) (hs := [.p]) (rest := []) (ks := [0, 2]) (env' := [(0, vP b_2), (2, vP b_5)]) (H' := [⟨40, b_5, [vI 0, vI 0, vI 0, vU 0, vU 0, vU 0, vU 0, .bool false, .slice none ([] : List T_api_Entry).length 0, .string (bs [])]⟩, ⟨1, b_2, [vI c_1.Id, vU c_1.Session, vU c_1.Last, vU c_1.Calls, .bool c_1.Busy, vI c_1.Now.Kind, vU c_1.Now.Session, vU c_1.Now.Seq, vU c_1.Now.Saga, .slice A_3 c_1.Now.Steps.length c_4, vI c_1.Now.Step, .bool c_1.Now.Back, vI c_1.Now.Try, .bool c_1.Now.Ok, vU c_1.Now.Now, vI c_1.To]⟩]) (ps := []) (by kernel_rfl) trivial ?_
  refine GoO.regionEnd ?_
  refine GoO.seq' c47_2e ?_
  refine GoO.seq' c47_3e ?_
  refine GoO.region' (is := [0, 1, 2, 3, 4]) c47_4e (by kernel_rfl) ?_
  refine GoO.exec (is := [0, 1, 2, 3, 4]) (hs := [.p, .p, .p, .b 1, .p]) (rest := []) (ks := [0, 2, 8]) (env' := [(0, vP b_2), (2, vP b_5), (8, .bool (!c_1.Busy))]) (H' := [⟨40, b_5, [vI 0, vI 0, vI 0, vU 0, vU 0, vU 0, vU 0, .bool false, .slice none ([] : List T_api_Entry).length 0, .string (bs [])]⟩, ⟨1, b_2, [vI c_1.Id, vU c_1.Session, vU c_1.Last, vU c_1.Calls, .bool c_1.Busy, vI c_1.Now.Kind, vU c_1.Now.Session, vU c_1.Now.Seq, vU c_1.Now.Saga, .slice A_3 c_1.Now.Steps.length c_4, vI c_1.Now.Step, .bool c_1.Now.Back, vI c_1.Now.Try, .bool c_1.Now.Ok, vU c_1.Now.Now, vI c_1.To]⟩]) (ps := [b_2 = b_2]) (by kernel_rfl) (And.intro rfl trivial) ?_
  refine GoO.regionEnd ?_
  refine GoO.ite' c47_5e (by kernel_rfl) (fun h6 => ?_) (fun h6 => ?_)
  · refine GoO.seq' c47_6e ?_
    refine GoO.region' (is := [0, 1, 2]) c47_7e (by kernel_rfl) ?_
    refine GoO.exec (is := [0, 1, 2]) (hs := [.p, .b 0, .p]) (rest := []) (ks := [2, 3]) (env' := [(2, vP b_5), (3, vI 1)]) (H' := [⟨40, b_5, [vI 0, vI 0, vI 0, vU 0, vU 0, vU 0, vU 0, .bool false, .slice none ([] : List T_api_Entry).length 0, .string (bs [])]⟩, ⟨1, b_2, [vI c_1.Id, vU c_1.Session, vU c_1.Last, vU c_1.Calls, .bool c_1.Busy, vI c_1.Now.Kind, vU c_1.Now.Session, vU c_1.Now.Seq, vU c_1.Now.Saga, .slice A_3 c_1.Now.Steps.length c_4, vI c_1.Now.Step, .bool c_1.Now.Back, vI c_1.Now.Try, .bool c_1.Now.Ok, vU c_1.Now.Now, vI c_1.To]⟩]) (ps := [b_5 = b_5]) (by kernel_rfl) (And.intro rfl trivial) ?_
    refine GoO.regionEnd ?_
    refine GoO.nilRd kT_api_Entry ?_
    exact GoO.ret' (h := c47_8e) (hs := [0]) (ps := [b_5 = b_5]) (hk := [1]) (bk := [0, 1]) Try.func47 (⟨none, 0, A_3, c_4⟩ : Option Addr × Nat × Option Addr × Nat) (by kernel_rfl) (And.intro rfl trivial) (by kernel_rfl) (by kernel_rfl)
  · refine GoO.skip' c47_9e ?_
    refine GoO.seq' c47_10e ?_
    refine GoO.region' (is := [0, 1, 2, 3, 4, 5, 6, 7]) c47_11e (by kernel_rfl) ?_
    refine GoO.exec (is := [0, 1, 2, 3, 4, 5, 6, 7]) (hs := [.p, .p, .p, .b 1, .p, .p, .p, .b 1]) (rest := []) (ks := [0, 2]) (env' := [(0, vP b_2), (2, vP b_5)]) (H' := [⟨40, b_5, [vI 0, vI 0, vI 0, vU 0, vU 0, vU 0, vU 0, .bool false, .slice none ([] : List T_api_Entry).length 0, .string (bs [])]⟩, ⟨1, b_2, [vI c_1.Id, vU c_1.Session, vU c_1.Last, vU c_1.Calls, .bool c_1.Busy, vI c_1.Now.Kind, vU c_1.Now.Session, vU c_1.Now.Seq, vU c_1.Now.Saga, .slice A_3 c_1.Now.Steps.length c_4, vI c_1.Now.Step, .bool c_1.Now.Back, vI c_1.Now.Try, .bool c_1.Now.Ok, vU c_1.Now.Now, vI (wi64 (c_1.To + 1))]⟩]) (ps := [b_2 = b_2, b_2 = b_2]) (by kernel_rfl) (And.intro rfl (And.intro rfl trivial)) ?_
    refine GoO.regionEnd ?_
    refine GoO.seq' c47_12e ?_
    refine GoO.seq' c47_13e ?_
    refine GoO.region' (is := [0, 1, 2, 3, 4]) c47_14e (by kernel_rfl) ?_
    refine GoO.exec (is := [0, 1, 2, 3, 4]) (hs := [.p, .p, .p, .b 1, .p]) (rest := []) (ks := [0, 2, 21]) (env' := [(0, vP b_2), (2, vP b_5), (21, .bool ((wi64 (c_1.To + 1)) == 7))]) (H' := [⟨40, b_5, [vI 0, vI 0, vI 0, vU 0, vU 0, vU 0, vU 0, .bool false, .slice none ([] : List T_api_Entry).length 0, .string (bs [])]⟩, ⟨1, b_2, [vI c_1.Id, vU c_1.Session, vU c_1.Last, vU c_1.Calls, .bool c_1.Busy, vI c_1.Now.Kind, vU c_1.Now.Session, vU c_1.Now.Seq, vU c_1.Now.Saga, .slice A_3 c_1.Now.Steps.length c_4, vI c_1.Now.Step, .bool c_1.Now.Back, vI c_1.Now.Try, .bool c_1.Now.Ok, vU c_1.Now.Now, vI (wi64 (c_1.To + 1))]⟩]) (ps := [b_2 = b_2]) (by kernel_rfl) (And.intro rfl trivial) ?_
    refine GoO.regionEnd ?_
    refine GoO.ite' c47_15e (by kernel_rfl) (fun h7 => ?_) (fun h7 => ?_)
    · refine GoO.region' (is := [0, 1, 2, 3]) c47_16e (by kernel_rfl) ?_
      refine GoO.exec (is := [0, 1, 2, 3]) (hs := [.p, .p, .p, .b 1]) (rest := []) (ks := [0, 2]) (env' := [(0, vP b_2), (2, vP b_5)]) (H' := [⟨40, b_5, [vI 0, vI 0, vI 0, vU 0, vU 0, vU 0, vU 0, .bool false, .slice none ([] : List T_api_Entry).length 0, .string (bs [])]⟩, ⟨1, b_2, [vI c_1.Id, vU c_1.Session, vU c_1.Last, vU c_1.Calls, .bool c_1.Busy, vI c_1.Now.Kind, vU c_1.Now.Session, vU c_1.Now.Seq, vU c_1.Now.Saga, .slice A_3 c_1.Now.Steps.length c_4, vI c_1.Now.Step, .bool c_1.Now.Back, vI c_1.Now.Try, .bool c_1.Now.Ok, vU c_1.Now.Now, vI 0]⟩]) (ps := [b_2 = b_2]) (by kernel_rfl) (And.intro rfl trivial) ?_
      refine GoO.regionEnd ?_
      refine GoO.seq' c47_18e ?_
      refine GoO.region' (is := [0, 1, 2, 3]) c47_19e (by kernel_rfl) ?_
      refine GoO.exec (is := [0]) (hs := [.p]) (rest := [1, 2, 3]) (ks := [2, 25]) (env' := [(2, vP b_5), (25, vP b_2)]) (H' := [⟨40, b_5, [vI 0, vI 0, vI 0, vU 0, vU 0, vU 0, vU 0, .bool false, .slice none ([] : List T_api_Entry).length 0, .string (bs [])]⟩, ⟨1, b_2, [vI c_1.Id, vU c_1.Session, vU c_1.Last, vU c_1.Calls, .bool c_1.Busy, vI c_1.Now.Kind, vU c_1.Now.Session, vU c_1.Now.Seq, vU c_1.Now.Saga, .slice A_3 c_1.Now.Steps.length c_4, vI c_1.Now.Step, .bool c_1.Now.Back, vI c_1.Now.Try, .bool c_1.Now.Ok, vU c_1.Now.Now, vI 0]⟩]) (ps := []) (by kernel_rfl) trivial ?_
      refine OpTo.go (GoO.call rfl (by kernel_rfl) (by kernel_rfl) (tontineref21_Client_letter_ok n (⟨c_1.Id, c_1.Session, c_1.Last, c_1.Calls, c_1.Busy, (⟨c_1.Now.Kind, c_1.Now.Session, c_1.Now.Seq, c_1.Now.Saga, c_1.Now.Steps, c_1.Now.Step, c_1.Now.Back, c_1.Now.Try, c_1.Now.Ok, c_1.Now.Now⟩ : T_api_Command), 0⟩ : T_tontineref21_Client) b_2 A_3 c_4) [[0], [1]] [] [(1, 1)] [(0, 0)] (hks := [0, 1]) (bks := [0]) (by kernel_rfl) (by kernel_rfl) (by kernel_rfl) (.inl rfl) rfl rfl (by kernel_rfl) (by kernel_rfl) _ (fun _ _ => rfl) _ _ (fun _ _ => rfl) (fun _ _ => rfl) (fun _ _ => by kernel_rfl) (fun _ _ => by kernel_rfl) (fun r_8 x_11 => ?_))
      obtain ⟨A_9, c_10⟩ := x_11
      refine GoO.shape (env' := [(2, vP b_5), (25, vP b_2), (26, .agg ⟨[vI r_8.Kind, vI r_8.From, vI r_8.To, vU r_8.Term, vU r_8.Index, vU r_8.Prev, vU r_8.Commit, .bool r_8.Ok, .slice A_9 r_8.Entries.length c_10, .string (bs r_8.Data)]⟩)]) (H' := [⟨40, b_5, [vI 0, vI 0, vI 0, vU 0, vU 0, vU 0, vU 0, .bool false, .slice none ([] : List T_api_Entry).length 0, .string (bs [])]⟩, ⟨1, b_2, [vI c_1.Id, vU c_1.Session, vU c_1.Last, vU c_1.Calls, .bool c_1.Busy, vI c_1.Now.Kind, vU c_1.Now.Session, vU c_1.Now.Seq, vU c_1.Now.Saga, .slice A_3 c_1.Now.Steps.length c_4, vI c_1.Now.Step, .bool c_1.Now.Back, vI c_1.Now.Try, .bool c_1.Now.Ok, vU c_1.Now.Now, vI 0]⟩]) (B' := [Rd 0 kT_api_Entry A_9 c_10 r_8.Entries, Rd 0 kT_api_Step A_3 c_4 c_1.Now.Steps]) (ks := [2, 25, 26]) (by kernel_rfl) (by kernel_rfl) (by kernel_rfl) ?_
      refine GoO.exec (is := [2, 3]) (hs := [.b 0, .p]) (rest := []) (ks := [2, 3]) (env' := [(2, vP b_5), (3, vI 0)]) (H' := [⟨40, b_5, [vI r_8.Kind, vI r_8.From, vI r_8.To, vU r_8.Term, vU r_8.Index, vU r_8.Prev, vU r_8.Commit, .bool r_8.Ok, .slice A_9 r_8.Entries.length c_10, .string (bs r_8.Data)]⟩, ⟨1, b_2, [vI c_1.Id, vU c_1.Session, vU c_1.Last, vU c_1.Calls, .bool c_1.Busy, vI c_1.Now.Kind, vU c_1.Now.Session, vU c_1.Now.Seq, vU c_1.Now.Saga, .slice A_3 c_1.Now.Steps.length c_4, vI c_1.Now.Step, .bool c_1.Now.Back, vI c_1.Now.Try, .bool c_1.Now.Ok, vU c_1.Now.Now, vI 0]⟩]) (ps := [b_5 = b_5]) (by kernel_rfl) (And.intro rfl trivial) ?_
      refine GoO.regionEnd ?_
      exact GoO.ret' (h := c47_20e) (hs := [0]) (ps := [b_5 = b_5]) (hk := [1]) (bk := [0, 1]) Try.func47 (⟨A_9, c_10, A_3, c_4⟩ : Option Addr × Nat × Option Addr × Nat) (by kernel_rfl) (And.intro rfl trivial) (by kernel_rfl) (by kernel_rfl)
    · refine GoO.skip' c47_17e ?_
      refine GoO.seq' c47_18e ?_
      refine GoO.region' (is := [0, 1, 2, 3]) c47_19e (by kernel_rfl) ?_
      refine GoO.exec (is := [0]) (hs := [.p]) (rest := [1, 2, 3]) (ks := [2, 25]) (env' := [(2, vP b_5), (25, vP b_2)]) (H' := [⟨40, b_5, [vI 0, vI 0, vI 0, vU 0, vU 0, vU 0, vU 0, .bool false, .slice none ([] : List T_api_Entry).length 0, .string (bs [])]⟩, ⟨1, b_2, [vI c_1.Id, vU c_1.Session, vU c_1.Last, vU c_1.Calls, .bool c_1.Busy, vI c_1.Now.Kind, vU c_1.Now.Session, vU c_1.Now.Seq, vU c_1.Now.Saga, .slice A_3 c_1.Now.Steps.length c_4, vI c_1.Now.Step, .bool c_1.Now.Back, vI c_1.Now.Try, .bool c_1.Now.Ok, vU c_1.Now.Now, vI (wi64 (c_1.To + 1))]⟩]) (ps := []) (by kernel_rfl) trivial ?_
      refine OpTo.go (GoO.call rfl (by kernel_rfl) (by kernel_rfl) (tontineref21_Client_letter_ok n (⟨c_1.Id, c_1.Session, c_1.Last, c_1.Calls, c_1.Busy, (⟨c_1.Now.Kind, c_1.Now.Session, c_1.Now.Seq, c_1.Now.Saga, c_1.Now.Steps, c_1.Now.Step, c_1.Now.Back, c_1.Now.Try, c_1.Now.Ok, c_1.Now.Now⟩ : T_api_Command), wi64 (c_1.To + 1)⟩ : T_tontineref21_Client) b_2 A_3 c_4) [[0], [1]] [] [(1, 1)] [(0, 0)] (hks := [0, 1]) (bks := [0]) (by kernel_rfl) (by kernel_rfl) (by kernel_rfl) (.inl rfl) rfl rfl (by kernel_rfl) (by kernel_rfl) _ (fun _ _ => rfl) _ _ (fun _ _ => rfl) (fun _ _ => rfl) (fun _ _ => by kernel_rfl) (fun _ _ => by kernel_rfl) (fun r_12 x_15 => ?_))
      obtain ⟨A_13, c_14⟩ := x_15
      refine GoO.shape (env' := [(2, vP b_5), (25, vP b_2), (26, .agg ⟨[vI r_12.Kind, vI r_12.From, vI r_12.To, vU r_12.Term, vU r_12.Index, vU r_12.Prev, vU r_12.Commit, .bool r_12.Ok, .slice A_13 r_12.Entries.length c_14, .string (bs r_12.Data)]⟩)]) (H' := [⟨40, b_5, [vI 0, vI 0, vI 0, vU 0, vU 0, vU 0, vU 0, .bool false, .slice none ([] : List T_api_Entry).length 0, .string (bs [])]⟩, ⟨1, b_2, [vI c_1.Id, vU c_1.Session, vU c_1.Last, vU c_1.Calls, .bool c_1.Busy, vI c_1.Now.Kind, vU c_1.Now.Session, vU c_1.Now.Seq, vU c_1.Now.Saga, .slice A_3 c_1.Now.Steps.length c_4, vI c_1.Now.Step, .bool c_1.Now.Back, vI c_1.Now.Try, .bool c_1.Now.Ok, vU c_1.Now.Now, vI (wi64 (c_1.To + 1))]⟩]) (B' := [Rd 0 kT_api_Entry A_13 c_14 r_12.Entries, Rd 0 kT_api_Step A_3 c_4 c_1.Now.Steps]) (ks := [2, 25, 26]) (by kernel_rfl) (by kernel_rfl) (by kernel_rfl) ?_
      refine GoO.exec (is := [2, 3]) (hs := [.b 0, .p]) (rest := []) (ks := [2, 3]) (env' := [(2, vP b_5), (3, vI 0)]) (H' := [⟨40, b_5, [vI r_12.Kind, vI r_12.From, vI r_12.To, vU r_12.Term, vU r_12.Index, vU r_12.Prev, vU r_12.Commit, .bool r_12.Ok, .slice A_13 r_12.Entries.length c_14, .string (bs r_12.Data)]⟩, ⟨1, b_2, [vI c_1.Id, vU c_1.Session, vU c_1.Last, vU c_1.Calls, .bool c_1.Busy, vI c_1.Now.Kind, vU c_1.Now.Session, vU c_1.Now.Seq, vU c_1.Now.Saga, .slice A_3 c_1.Now.Steps.length c_4, vI c_1.Now.Step, .bool c_1.Now.Back, vI c_1.Now.Try, .bool c_1.Now.Ok, vU c_1.Now.Now, vI (wi64 (c_1.To + 1))]⟩]) (ps := [b_5 = b_5]) (by kernel_rfl) (And.intro rfl trivial) ?_
      refine GoO.regionEnd ?_
      exact GoO.ret' (h := c47_20e) (hs := [0]) (ps := [b_5 = b_5]) (hk := [1]) (bk := [0, 1]) Try.func47 (⟨A_13, c_14, A_3, c_4⟩ : Option Addr × Nat × Option Addr × Nat) (by kernel_rfl) (And.intro rfl trivial) (by kernel_rfl) (by kernel_rfl)
/-! (*tontine/tontineref03.Reader).Fail -/
noncomputable def c89_0 : Code := bodyOf Try.f89
noncomputable def c89_1 : Code := cdL c89_0
noncomputable def c89_2 : Code := cdR c89_0
noncomputable def r89_1 : Array Oper := cdO c89_1
noncomputable def r89_2 : Array Oper := cdO c89_2
theorem c89_0e : c89_0 = .seq c89_1 c89_2 := by kernel_rfl
theorem c89_1e : c89_1 = .region 0 r89_1 false := by kernel_rfl
theorem c89_2e : c89_2 = .region 1 r89_2 false := by kernel_rfl
noncomputable def tontineref03_Reader_Fail.R (b_2 : Nat) : Pst T_tontineref03_Reader where
  ε := Unit
  v := fun r x => .tuple ⟨[]⟩
  H := fun r x => [⟨1, b_2, [.string (bs r.S_), .bool r.Bad]⟩]
  B := fun r x => []
noncomputable def tontineref03_Reader_Fail.cx (b_2 : Nat) (w0 : World) (S0 : Fam) : Cx T_tontineref03_Reader := ⟨Try.prog, 89, Try.f89, 8, w0, S0, [1], 1, tontineref03_Reader_Fail.R b_2⟩
theorem tontineref03_Reader_Fail_ok (n : Nat) (r_1 : T_tontineref03_Reader) (b_2 : Nat) :
    Meets Try.prog 89 [vP b_2] 1 [1] [⟨1, b_2, [.string (bs r_1.S_), .bool r_1.Bad]⟩] [] (tontineref03_Reader_Fail.f n r_1) (tontineref03_Reader_Fail.R b_2) := by
  refine Meets.of (c := c89_0) (n := 8) Try.func89 (by kernel_rfl) (by kernel_rfl) (by kernel_rfl) fun w0 S0 => ?_
  unfold tontineref03_Reader_Fail.f
  show GoO (tontineref03_Reader_Fail.cx b_2 w0 S0) [(0, vP b_2)] [⟨1, b_2, [.string (bs r_1.S_), .bool r_1.Bad]⟩] [] [.code c89_0] _
  refine GoO.seq' c89_0e ?_
  refine GoO.region' (is := [0, 1, 2, 3]) c89_1e (by kernel_rfl) ?_
  refine GoO.exec (is := [0, 1, 2, 3]) (hs := [.p, .p, .p, .b 0]) (rest := []) (ks := [0]) (env' := [(0, vP b_2)]) (H' := [⟨1, b_2, [.string (bs []), .bool r_1.Bad]⟩]) (ps := [b_2 = b_2]) (by kernel_rfl) (And.intro rfl trivial) ?_
  refine GoO.regionEnd ?_
  refine GoO.region' (is := [0, 1, 2, 3]) c89_2e (by kernel_rfl) ?_
  refine GoO.exec (is := [0, 1, 2, 3]) (hs := [.p, .p, .p, .b 0]) (rest := []) (ks := []) (env' := []) (H' := [⟨1, b_2, [.string (bs []), .bool true]⟩]) (ps := [b_2 = b_2]) (by kernel_rfl) (And.intro rfl trivial) ?_
  refine GoO.regionEnd ?_
  exact GoO.fin (hs := []) (ps := []) (hk := [0]) (bk := []) Try.func89 () (by kernel_rfl) trivial (by kernel_rfl) (by kernel_rfl)
/-! (*tontine/tontineref03.Reader).Num -/
noncomputable def c72_0 : Code := bodyOf Try.f72
noncomputable def c72_1 : Code := cdL c72_0
noncomputable def c72_2 : Code := cdR c72_0
noncomputable def c72_3 : Code := cdL c72_2
noncomputable def c72_4 : Code := cdR c72_2
noncomputable def c72_5 : Code := cdL c72_4
noncomputable def c72_6 : Code := cdL c72_5
noncomputable def c72_7 : Code := cdR c72_5
noncomputable def c72_8 : Code := cdL c72_7
noncomputable def c72_9 : Code := cdR c72_7
noncomputable def c72_10 : Code := cdR c72_4
noncomputable def c72_11 : Code := cdL c72_10
noncomputable def c72_12 : Code := cdL c72_11
noncomputable def c72_13 : Code := cdR c72_11
noncomputable def c72_14 : Code := cdL c72_13
noncomputable def c72_15 : Code := cdL c72_14
noncomputable def c72_16 : Code := cdR c72_14
noncomputable def c72_17 : Code := cdL c72_16
noncomputable def c72_18 : Code := cdR c72_16
noncomputable def c72_19 : Code := cdR c72_13
noncomputable def c72_20 : Code := cdR c72_10
noncomputable def c72_21 : Code := cdL c72_20
noncomputable def c72_22 : Code := cdR c72_20
noncomputable def c72_23 : Code := cdL c72_22
noncomputable def c72_24 : Code := cdL c72_23
noncomputable def c72_25 : Code := cdR c72_23
noncomputable def c72_26 : Code := cdL c72_25
noncomputable def c72_27 : Code := cdL c72_26
noncomputable def c72_28 : Code := cdL c72_27
noncomputable def c72_29 : Code := cdL c72_28
noncomputable def c72_30 : Code := cdR c72_28
noncomputable def c72_31 : Code := cdL c72_30
noncomputable def c72_32 : Code := cdR c72_30
noncomputable def c72_33 : Code := cdR c72_27
noncomputable def c72_34 : Code := cdL c72_33
noncomputable def c72_35 : Code := cdL c72_34
noncomputable def c72_36 : Code := cdR c72_33
noncomputable def c72_37 : Code := cdR c72_22
noncomputable def c72_38 : Code := cdL c72_37
noncomputable def c72_39 : Code := cdR c72_37
noncomputable def c72_40 : Code := cdL c72_39
noncomputable def c72_41 : Code := cdR c72_39
noncomputable def r72_1 : Array Oper := cdO c72_1
noncomputable def r72_3 : Array Oper := cdO c72_3
noncomputable def r72_6 : Array Oper := cdO c72_6
noncomputable def r72_8 : Array Oper := cdO c72_8
noncomputable def r72_12 : Array Oper := cdO c72_12
noncomputable def r72_15 : Array Oper := cdO c72_15
noncomputable def r72_17 : Array Oper := cdO c72_17
noncomputable def r72_21 : Array Oper := cdO c72_21
noncomputable def r72_24 : Array Oper := cdO c72_24
noncomputable def r72_29 : Array Oper := cdO c72_29
noncomputable def r72_35 : Array Oper := cdO c72_35
noncomputable def r72_36 : Array Oper := cdO c72_36
noncomputable def r72_38 : Array Oper := cdO c72_38
noncomputable def r72_40 : Array Oper := cdO c72_40
theorem c72_0e : c72_0 = .seq c72_1 c72_2 := by kernel_rfl
theorem c72_1e : c72_1 = .region 0 r72_1 false := by kernel_rfl
theorem c72_2e : c72_2 = .seq c72_3 c72_4 := by kernel_rfl
theorem c72_3e : c72_3 = .region 1 r72_3 false := by kernel_rfl
theorem c72_4e : c72_4 = .seq c72_5 c72_10 := by kernel_rfl
theorem c72_5e : c72_5 = .seq c72_6 c72_7 := by kernel_rfl
theorem c72_6e : c72_6 = .region 2 r72_6 false := by kernel_rfl
theorem c72_7e : c72_7 = .cond (cdC c72_7) c72_8 c72_9 := by kernel_rfl
theorem c72_8e : c72_8 = .region 3 r72_8 false := by kernel_rfl
theorem c72_9e : c72_9 = .skip := by kernel_rfl
theorem c72_10e : c72_10 = .seq c72_11 c72_20 := by kernel_rfl
theorem c72_11e : c72_11 = .seq c72_12 c72_13 := by kernel_rfl
theorem c72_12e : c72_12 = .region 4 r72_12 false := by kernel_rfl
theorem c72_13e : c72_13 = .cond (cdC c72_13) c72_14 c72_19 := by kernel_rfl
theorem c72_14e : c72_14 = .seq c72_15 c72_16 := by kernel_rfl
theorem c72_15e : c72_15 = .region 5 r72_15 false := by kernel_rfl
theorem c72_16e : c72_16 = .seq c72_17 c72_18 := by kernel_rfl
theorem c72_17e : c72_17 = .region 6 r72_17 false := by kernel_rfl
theorem c72_18e : c72_18 = .ret := by kernel_rfl
theorem c72_19e : c72_19 = .skip := by kernel_rfl
theorem c72_20e : c72_20 = .seq c72_21 c72_22 := by kernel_rfl
theorem c72_21e : c72_21 = .region 7 r72_21 false := by kernel_rfl
theorem c72_22e : c72_22 = .seq c72_23 c72_37 := by kernel_rfl
theorem c72_23e : c72_23 = .seq c72_24 c72_25 := by kernel_rfl
theorem c72_24e : c72_24 = .region 8 r72_24 false := by kernel_rfl
theorem c72_25e : c72_25 = .block 0 c72_26 := by kernel_rfl
theorem c72_26e : c72_26 = .loop c72_27 := by kernel_rfl
theorem c72_27e : c72_27 = .seq c72_28 c72_33 := by kernel_rfl
theorem c72_28e : c72_28 = .seq c72_29 c72_30 := by kernel_rfl
theorem c72_29e : c72_29 = .region 9 r72_29 false := by kernel_rfl
theorem c72_30e : c72_30 = .cond (cdC c72_30) c72_31 c72_32 := by kernel_rfl
theorem c72_31e : c72_31 = .skip := by kernel_rfl
theorem c72_32e : c72_32 = .exit 0 := by kernel_rfl
theorem c72_33e : c72_33 = .seq c72_34 c72_36 := by kernel_rfl
theorem c72_34e : c72_34 = .block 1 c72_35 := by kernel_rfl
theorem c72_35e : c72_35 = .region 11 r72_35 false := by kernel_rfl
theorem c72_36e : c72_36 = .region 10 r72_36 false := by kernel_rfl
theorem c72_37e : c72_37 = .seq c72_38 c72_39 := by kernel_rfl
theorem c72_38e : c72_38 = .region 12 r72_38 false := by kernel_rfl
theorem c72_39e : c72_39 = .seq c72_40 c72_41 := by kernel_rfl
theorem c72_40e : c72_40 = .region 13 r72_40 false := by kernel_rfl
theorem c72_41e : c72_41 = .ret := by kernel_rfl
noncomputable def tontineref03_Reader_Num.R (b_2 : Nat) : Pst (Int × T_tontineref03_Reader) where
  ε := Unit
  v := fun r x => vU r.1
  H := fun r x => [⟨1, b_2, [.string (bs r.2.S_), .bool r.2.Bad]⟩]
  B := fun r x => []
noncomputable def tontineref03_Reader_Num.cx (b_2 : Nat) (w0 : World) (S0 : Fam) : Cx (Int × T_tontineref03_Reader) := ⟨Try.prog, 72, Try.f72, 74, w0, S0, [1], 1, tontineref03_Reader_Num.R b_2⟩
theorem tontineref03_Reader_Num_l0_ok (n : Nat) (r_1 : T_tontineref03_Reader) (n_5 : Int) (b_2 : Nat) (w0 : World) (S0 : Fam) :
    ∀ (k : Nat) (x_15 : Int) (i_16 : Int), GoO (tontineref03_Reader_Num.cx b_2 w0 S0) [(0, vP b_2), (3, vI n_5), (4, vU x_15), (5, vI i_16)] [⟨1, b_2, [.string (bs r_1.S_), .bool r_1.Bad]⟩] [] [.code c72_27, .inLoop c72_27, .inBlock 0, .code c72_37] (tontineref03_Reader_Num.l0 n r_1 n_5 k x_15 i_16) := by
  intro k
  induction k with
  | zero => intros; rw [tontineref03_Reader_Num.l0.eq_1]; exact GoO.stop
  | succ k ih0 =>
    intro x_15 i_16
    rw [tontineref03_Reader_Num.l0.eq_2]
    refine GoO.seq' c72_27e ?_
    refine GoO.seq' c72_28e ?_
    refine GoO.region' (is := [0, 1, 2]) c72_29e (by kernel_rfl) ?_
    refine GoO.exec (is := [0, 1, 2]) (hs := [.p, .p, .p]) (rest := []) (ks := [0, 3, 4, 5, 50]) (env' := [(0, vP b_2), (3, vI n_5), (4, vU x_15), (5, vI i_16), (50, .bool (decide (i_16 ≤ n_5)))]) (H' := [⟨1, b_2, [.string (bs r_1.S_), .bool r_1.Bad]⟩]) (ps := []) (by kernel_rfl) trivial ?_
    refine GoO.regionEnd ?_
    refine GoO.ite' c72_30e (by kernel_rfl) (fun h17 => ?_) (fun h17 => ?_)
    · refine GoO.skip' c72_31e ?_
      refine GoO.seq' c72_33e ?_
      refine GoO.block' c72_34e ?_
      refine GoO.region' (is := [0, 1, 2, 3, 4, 5, 6, 7, 8, 9, 10]) c72_35e (by kernel_rfl) ?_
      refine GoO.guard (fun h18 => ?_)
      refine GoO.exec (is := [0, 1, 2, 3, 4, 5, 6, 7, 8, 9, 10]) (hs := [.p, .p, .p, .p, .p, .b 0, .p, .p, .p, .p, .p]) (rest := []) (ks := [0, 3, 4, 5]) (env' := [(0, vP b_2), (3, vI n_5), (4, vU (wu64 ((wu64 (256 * x_15)) + (wu64 ((rdB r_1.S_ i_16).toNat : Int))))), (5, vI i_16)]) (H' := [⟨1, b_2, [.string (bs r_1.S_), .bool r_1.Bad]⟩]) (ps := [b_2 = b_2, (0 : Int) ≤ i_16, i_16 < (r_1.S_.length : Int)]) (by kernel_rfl) (And.intro rfl (And.intro h18.1 (And.intro h18.2 trivial))) ?_
      refine GoO.regionEnd ?_
      refine GoO.inBlock ?_
      refine GoO.region' (is := [0, 1, 2]) c72_36e (by kernel_rfl) ?_
      refine GoO.exec (is := [0, 1, 2]) (hs := [.p, .p, .p]) (rest := []) (ks := [0, 3, 4, 5]) (env' := [(0, vP b_2), (3, vI n_5), (4, vU (wu64 ((wu64 (256 * x_15)) + (wu64 ((rdB r_1.S_ i_16).toNat : Int))))), (5, vI (wi64 (i_16 + 1)))]) (H' := [⟨1, b_2, [.string (bs r_1.S_), .bool r_1.Bad]⟩]) (ps := []) (by kernel_rfl) trivial ?_
      refine GoO.regionEnd ?_
      refine GoO.inLoop ?_
      exact GoO.sub (ks := [0, 3, 4, 5]) (hk := [0]) (bk := []) (by kernel_rfl) (by kernel_rfl) (by kernel_rfl) (ih0 (wu64 ((wu64 (256 * x_15)) + (wu64 ((rdB r_1.S_ i_16).toNat : Int)))) (wi64 (i_16 + 1)))
    · refine GoO.exit' c72_32e rfl ?_
      refine GoO.seq' c72_37e ?_
      refine GoO.region' (is := [0, 1, 2, 3, 4, 5, 6, 7, 8, 9, 10]) c72_38e (by kernel_rfl) ?_
      refine GoO.guard (fun h19 => ?_)
      refine GoO.exec (is := [0, 1, 2, 3, 4, 5, 6, 7, 8, 9, 10]) (hs := [.p, .p, .p, .p, .b 0, .p, .p, .p, .p, .p, .b 0]) (rest := []) (ks := [4]) (env' := [(4, vU x_15)]) (H' := [⟨1, b_2, [.string (bs (r_1.S_.drop (wi64 (n_5 + 1)).toNat)), .bool r_1.Bad]⟩]) (ps := [b_2 = b_2, (0 : Int) ≤ (wi64 (n_5 + 1)), (wi64 (n_5 + 1)) ≤ (r_1.S_.length : Int), b_2 = b_2]) (by kernel_rfl) (And.intro rfl (And.intro h19.1 (And.intro h19.2 (And.intro rfl trivial)))) ?_
      refine GoO.regionEnd ?_
      refine GoO.seq' c72_39e ?_
      refine GoO.region' (is := [0, 1]) c72_40e (by kernel_rfl) ?_
      refine GoO.exec (is := [0, 1]) (hs := [.p, .p]) (rest := []) (ks := [2]) (env' := [(2, vU x_15)]) (H' := [⟨1, b_2, [.string (bs (r_1.S_.drop (wi64 (n_5 + 1)).toNat)), .bool r_1.Bad]⟩]) (ps := []) (by kernel_rfl) trivial ?_
      refine GoO.regionEnd ?_
      exact GoO.ret' (h := c72_41e) (hs := []) (ps := []) (hk := [0]) (bk := []) Try.func72 () (by kernel_rfl) trivial (by kernel_rfl) (by kernel_rfl)
theorem tontineref03_Reader_Num_j1_ok (n : Nat) (r_1 : T_tontineref03_Reader) (n_5 : Int) (b_2 : Nat) (w0 : World) (S0 : Fam) (b_11 : Bool) :
    GoO (tontineref03_Reader_Num.cx b_2 w0 S0) [(0, vP b_2), (3, vI n_5), (45, .bool b_11)] [⟨1, b_2, [.string (bs r_1.S_), .bool r_1.Bad]⟩] [] [.code c72_13, .code c72_20] (tontineref03_Reader_Num.j1 n r_1 n_5 b_11) := by
  unfold tontineref03_Reader_Num.j1
  refine GoO.ite' c72_13e (by kernel_rfl) (fun h12 => ?_) (fun h12 => ?_)
  · refine GoO.seq' c72_14e ?_
    refine GoO.region' (is := [0, 1]) c72_15e (by kernel_rfl) ?_
    refine GoO.exec (is := [0]) (hs := [.p]) (rest := [1]) (ks := [46]) (env' := [(46, vP b_2)]) (H' := [⟨1, b_2, [.string (bs r_1.S_), .bool r_1.Bad]⟩]) (ps := []) (by kernel_rfl) trivial ?_
    refine OpTo.go (GoO.call rfl (by kernel_rfl) (by kernel_rfl) (tontineref03_Reader_Fail_ok n r_1 b_2) [[0], [1]] [(1, 1)] [(1, 0)] [] (hks := []) (bks := []) (by kernel_rfl) (by kernel_rfl) (by kernel_rfl) (.inl rfl) rfl rfl (by kernel_rfl) (by kernel_rfl) _ (fun _ _ => rfl) _ _ (fun _ _ => rfl) (fun _ _ => rfl) (fun _ _ => by kernel_rfl) (fun _ _ => by kernel_rfl) (fun r_13 x_14 => ?_))
    refine GoO.shape (env' := [(46, vP b_2), (47, .tuple ⟨[]⟩)]) (H' := [⟨1, b_2, [.string (bs r_13.S_), .bool r_13.Bad]⟩]) (B' := []) (ks := [46, 47]) (by kernel_rfl) (by kernel_rfl) (by kernel_rfl) ?_
    refine GoO.regionEnd ?_
    refine GoO.seq' c72_16e ?_
    refine GoO.region' (is := [0]) c72_17e (by kernel_rfl) ?_
    refine GoO.exec (is := [0]) (hs := [.p]) (rest := []) (ks := [2]) (env' := [(2, vU 0)]) (H' := [⟨1, b_2, [.string (bs r_13.S_), .bool r_13.Bad]⟩]) (ps := []) (by kernel_rfl) trivial ?_
    refine GoO.regionEnd ?_
    exact GoO.ret' (h := c72_18e) (hs := []) (ps := []) (hk := [0]) (bk := []) Try.func72 () (by kernel_rfl) trivial (by kernel_rfl) (by kernel_rfl)
  · refine GoO.skip' c72_19e ?_
    refine GoO.seq' c72_20e ?_
    refine GoO.region' (is := [0]) c72_21e (by kernel_rfl) ?_
    refine GoO.exec (is := [0]) (hs := [.p]) (rest := []) (ks := [0, 3, 4]) (env' := [(0, vP b_2), (3, vI n_5), (4, vU 0)]) (H' := [⟨1, b_2, [.string (bs r_1.S_), .bool r_1.Bad]⟩]) (ps := []) (by kernel_rfl) trivial ?_
    refine GoO.regionEnd ?_
    refine GoO.seq' c72_22e ?_
    refine GoO.seq' c72_23e ?_
    refine GoO.region' (is := [0]) c72_24e (by kernel_rfl) ?_
    refine GoO.exec (is := [0]) (hs := [.p]) (rest := []) (ks := [0, 3, 4, 5]) (env' := [(0, vP b_2), (3, vI n_5), (4, vU 0), (5, vI 1)]) (H' := [⟨1, b_2, [.string (bs r_1.S_), .bool r_1.Bad]⟩]) (ps := []) (by kernel_rfl) trivial ?_
    refine GoO.regionEnd ?_
    refine GoO.block' c72_25e ?_
    refine GoO.loop' c72_26e ?_
    exact GoO.sub (ks := [0, 3, 4, 5]) (hk := [0]) (bk := []) (by kernel_rfl) (by kernel_rfl) (by kernel_rfl) (tontineref03_Reader_Num_l0_ok n r_1 n_5 b_2 w0 S0 n 0 1)
theorem tontineref03_Reader_Num_j0_ok (n : Nat) (r_1 : T_tontineref03_Reader) (b_2 : Nat) (w0 : World) (S0 : Fam) (n_5 : Int) :
    GoO (tontineref03_Reader_Num.cx b_2 w0 S0) [(0, vP b_2), (3, vI n_5)] [⟨1, b_2, [.string (bs r_1.S_), .bool r_1.Bad]⟩] [] [.code c72_10] (tontineref03_Reader_Num.j0 n r_1 n_5) := by
  unfold tontineref03_Reader_Num.j0
  refine GoO.seq' c72_10e ?_
  refine GoO.seq' c72_11e ?_
  refine GoO.region' (is := [0, 1, 2, 3, 4, 5, 6, 7, 8, 9, 10, 11, 12, 13, 14, 15, 16, 17, 18, 19, 20, 21, 22, 23, 24, 25, 26, 27]) c72_12e (by kernel_rfl) ?_
  refine GoO.exec (is := [0, 1, 2]) (hs := [.p, .p, .p]) (rest := [3, 4, 5, 6, 7, 8, 9, 10, 11, 12, 13, 14, 15, 16, 17, 18, 19, 20, 21, 22, 23, 24, 25, 26, 27]) (ks := [0, 3, 20]) (env' := [(0, vP b_2), (3, vI n_5), (20, .bool (decide (n_5 < 0)))]) (H' := [⟨1, b_2, [.string (bs r_1.S_), .bool r_1.Bad]⟩]) (ps := []) (by kernel_rfl) trivial ?_
  refine GoO.bsplit (t := 20) (by kernel_rfl) (fun h6 => ?_) (fun h6 => ?_)
  · refine GoO.exec (is := [3, 4, 5, 6, 7, 8, 9, 10, 11, 12, 13, 14, 15, 16, 17, 18, 19, 20, 21, 22, 23, 24, 25, 26, 27]) (hs := [.p, .p, .p, .p, .p, .p, .p, .p, .p, .p, .p, .p, .p, .p, .p, .p, .p, .p, .p, .p, .p, .p, .p, .p, .p]) (rest := []) (ks := [0, 3, 45]) (env' := [(0, vP b_2), (3, vI n_5), (45, .bool true)]) (H' := [⟨1, b_2, [.string (bs r_1.S_), .bool r_1.Bad]⟩]) (ps := []) (by kernel_rfl) trivial ?_
    refine GoO.regionEnd ?_
    exact GoO.sub (ks := [0, 3, 45]) (hk := [0]) (bk := []) (by kernel_rfl) (by kernel_rfl) (by kernel_rfl) (tontineref03_Reader_Num_j1_ok n r_1 n_5 b_2 w0 S0 true)
  · refine GoO.exec (is := [3, 4, 5, 6]) (hs := [.p, .p, .p, .p]) (rest := [7, 8, 9, 10, 11, 12, 13, 14, 15, 16, 17, 18, 19, 20, 21, 22, 23, 24, 25, 26, 27]) (ks := [0, 3, 24]) (env' := [(0, vP b_2), (3, vI n_5), (24, .bool (decide (n_5 > 8)))]) (H' := [⟨1, b_2, [.string (bs r_1.S_), .bool r_1.Bad]⟩]) (ps := []) (by kernel_rfl) trivial ?_
    refine GoO.bsplit (t := 24) (by kernel_rfl) (fun h7 => ?_) (fun h7 => ?_)
    · refine GoO.exec (is := [7, 8, 9, 10, 11, 12, 13, 14, 15, 16, 17, 18, 19, 20, 21, 22, 23, 24, 25, 26, 27]) (hs := [.p, .p, .p, .p, .p, .p, .p, .p, .p, .p, .p, .p, .p, .p, .p, .p, .p, .p, .p, .p, .p]) (rest := []) (ks := [0, 3, 45]) (env' := [(0, vP b_2), (3, vI n_5), (45, .bool true)]) (H' := [⟨1, b_2, [.string (bs r_1.S_), .bool r_1.Bad]⟩]) (ps := []) (by kernel_rfl) trivial ?_
      refine GoO.regionEnd ?_
      exact GoO.sub (ks := [0, 3, 45]) (hk := [0]) (bk := []) (by kernel_rfl) (by kernel_rfl) (by kernel_rfl) (tontineref03_Reader_Num_j1_ok n r_1 n_5 b_2 w0 S0 true)
    · refine GoO.exec (is := [7, 8, 9, 10, 11, 12, 13, 14, 15, 16]) (hs := [.p, .p, .p, .b 0, .p, .p, .p, .p, .p, .p]) (rest := [17, 18, 19, 20, 21, 22, 23, 24, 25, 26, 27]) (ks := [0, 3, 34]) (env' := [(0, vP b_2), (3, vI n_5), (34, .bool (decide ((r_1.S_.length : Int) < (wi64 (n_5 + 1)))))]) (H' := [⟨1, b_2, [.string (bs r_1.S_), .bool r_1.Bad]⟩]) (ps := [b_2 = b_2]) (by kernel_rfl) (And.intro rfl trivial) ?_
      refine GoO.bsplit (t := 34) (by kernel_rfl) (fun h8 => ?_) (fun h8 => ?_)
      · refine GoO.exec (is := [17, 18, 19, 20, 21, 22, 23, 24, 25, 26, 27]) (hs := [.p, .p, .p, .p, .p, .p, .p, .p, .p, .p, .p]) (rest := []) (ks := [0, 3, 45]) (env' := [(0, vP b_2), (3, vI n_5), (45, .bool true)]) (H' := [⟨1, b_2, [.string (bs r_1.S_), .bool r_1.Bad]⟩]) (ps := []) (by kernel_rfl) trivial ?_
        refine GoO.regionEnd ?_
        exact GoO.sub (ks := [0, 3, 45]) (hk := [0]) (bk := []) (by kernel_rfl) (by kernel_rfl) (by kernel_rfl) (tontineref03_Reader_Num_j1_ok n r_1 n_5 b_2 w0 S0 true)
      · refine GoO.exec (is := [17, 18, 19]) (hs := [.p, .p, .p]) (rest := [20, 21, 22, 23, 24, 25, 26, 27]) (ks := [0, 3, 34, 37]) (env' := [(0, vP b_2), (3, vI n_5), (34, .bool false), (37, .bool (decide (n_5 > 0)))]) (H' := [⟨1, b_2, [.string (bs r_1.S_), .bool r_1.Bad]⟩]) (ps := []) (by kernel_rfl) trivial ?_
        refine GoO.bsplit (t := 37) (by kernel_rfl) (fun h9 => ?_) (fun h9 => ?_)
        · refine GoO.guard (fun h10 => ?_)
          refine GoO.exec (is := [20, 21, 22, 23, 24, 25, 26, 27]) (hs := [.p, .p, .p, .b 0, .p, .p, .p, .p]) (rest := []) (ks := [0, 3, 45]) (env' := [(0, vP b_2), (3, vI n_5), (45, .bool (((rdB r_1.S_ 1).toNat : Int) == 0))]) (H' := [⟨1, b_2, [.string (bs r_1.S_), .bool r_1.Bad]⟩]) (ps := [b_2 = b_2, (0 : Int) ≤ 1, 1 < (r_1.S_.length : Int)]) (by kernel_rfl) (And.intro rfl (And.intro h10.1 (And.intro h10.2 trivial))) ?_
          refine GoO.regionEnd ?_
          exact GoO.sub (ks := [0, 3, 45]) (hk := [0]) (bk := []) (by kernel_rfl) (by kernel_rfl) (by kernel_rfl) (tontineref03_Reader_Num_j1_ok n r_1 n_5 b_2 w0 S0 (((rdB r_1.S_ 1).toNat : Int) == 0))
        · refine GoO.exec (is := [20, 21, 22, 23, 24, 25, 26, 27]) (hs := [.p, .p, .p, .p, .p, .p, .p, .p]) (rest := []) (ks := [0, 3, 45]) (env' := [(0, vP b_2), (3, vI n_5), (45, .bool false)]) (H' := [⟨1, b_2, [.string (bs r_1.S_), .bool r_1.Bad]⟩]) (ps := []) (by kernel_rfl) trivial ?_
          refine GoO.regionEnd ?_
          exact GoO.sub (ks := [0, 3, 45]) (hk := [0]) (bk := []) (by kernel_rfl) (by kernel_rfl) (by kernel_rfl) (tontineref03_Reader_Num_j1_ok n r_1 n_5 b_2 w0 S0 false)
theorem tontineref03_Reader_Num_ok (n : Nat) (r_1 : T_tontineref03_Reader) (b_2 : Nat) :
    Meets Try.prog 72 [vP b_2] 1 [1] [⟨1, b_2, [.string (bs r_1.S_), .bool r_1.Bad]⟩] [] (tontineref03_Reader_Num.f n r_1) (tontineref03_Reader_Num.R b_2) := by
  refine Meets.of (c := c72_0) (n := 74) Try.func72 (by kernel_rfl) (by kernel_rfl) (by kernel_rfl) fun w0 S0 => ?_
  unfold tontineref03_Reader_Num.f
  show GoO (tontineref03_Reader_Num.cx b_2 w0 S0) [(0, vP b_2)] [⟨1, b_2, [.string (bs r_1.S_), .bool r_1.Bad]⟩] [] [.code c72_0] _
  refine GoO.seq' c72_0e ?_
  refine GoO.region' (is := [0]) c72_1e (by kernel_rfl) ?_
  refine GoO.exec (is := [0]) (hs := [.p]) (rest := []) (ks := [0]) (env' := [(0, vP b_2)]) (H' := [⟨1, b_2, [.string (bs r_1.S_), .bool r_1.Bad]⟩]) (ps := []) (by kernel_rfl) trivial ?_
  refine GoO.regionEnd ?_
  refine GoO.seq' c72_2e ?_
  refine GoO.region' (is := [0]) c72_3e (by kernel_rfl) ?_
  refine GoO.exec (is := [0]) (hs := [.p]) (rest := []) (ks := [0, 3]) (env' := [(0, vP b_2), (3, vI (-1))]) (H' := [⟨1, b_2, [.string (bs r_1.S_), .bool r_1.Bad]⟩]) (ps := []) (by kernel_rfl) trivial ?_
  refine GoO.regionEnd ?_
  refine GoO.seq' c72_4e ?_
  refine GoO.seq' c72_5e ?_
  refine GoO.region' (is := [0, 1, 2, 3, 4, 5]) c72_6e (by kernel_rfl) ?_
  refine GoO.exec (is := [0, 1, 2, 3, 4, 5]) (hs := [.p, .p, .p, .b 0, .p, .p]) (rest := []) (ks := [0, 3, 11]) (env' := [(0, vP b_2), (3, vI (-1)), (11, .bool (decide ((r_1.S_.length : Int) > 0)))]) (H' := [⟨1, b_2, [.string (bs r_1.S_), .bool r_1.Bad]⟩]) (ps := [b_2 = b_2]) (by kernel_rfl) (And.intro rfl trivial) ?_
  refine GoO.regionEnd ?_
  refine GoO.ite' c72_7e (by kernel_rfl) (fun h3 => ?_) (fun h3 => ?_)
  · refine GoO.region' (is := [0, 1, 2, 3, 4, 5, 6]) c72_8e (by kernel_rfl) ?_
    refine GoO.guard (fun h4 => ?_)
    refine GoO.exec (is := [0, 1, 2, 3, 4, 5, 6]) (hs := [.p, .p, .p, .b 0, .p, .p, .p]) (rest := []) (ks := [0, 3]) (env' := [(0, vP b_2), (3, vI (wi64 ((rdB r_1.S_ 0).toNat : Int)))]) (H' := [⟨1, b_2, [.string (bs r_1.S_), .bool r_1.Bad]⟩]) (ps := [b_2 = b_2, (0 : Int) ≤ 0, 0 < (r_1.S_.length : Int)]) (by kernel_rfl) (And.intro rfl (And.intro h4.1 (And.intro h4.2 trivial))) ?_
    refine GoO.regionEnd ?_
    exact GoO.sub (ks := [0, 3]) (hk := [0]) (bk := []) (by kernel_rfl) (by kernel_rfl) (by kernel_rfl) (tontineref03_Reader_Num_j0_ok n r_1 b_2 w0 S0 (wi64 ((rdB r_1.S_ 0).toNat : Int)))
  · refine GoO.skip' c72_9e ?_
    exact GoO.sub (ks := [0, 3]) (hk := [0]) (bk := []) (by kernel_rfl) (by kernel_rfl) (by kernel_rfl) (tontineref03_Reader_Num_j0_ok n r_1 b_2 w0 S0 (-1))
/-! (*tontine/tontineref03.Reader).Up -/
noncomputable def c71_0 : Code := bodyOf Try.f71
noncomputable def c71_1 : Code := cdL c71_0
noncomputable def c71_2 : Code := cdR c71_0
noncomputable def c71_3 : Code := cdL c71_2
noncomputable def c71_4 : Code := cdR c71_2
noncomputable def c71_5 : Code := cdL c71_4
noncomputable def c71_6 : Code := cdL c71_5
noncomputable def c71_7 : Code := cdR c71_5
noncomputable def c71_8 : Code := cdL c71_7
noncomputable def c71_9 : Code := cdL c71_8
noncomputable def c71_10 : Code := cdR c71_8
noncomputable def c71_11 : Code := cdL c71_10
noncomputable def c71_12 : Code := cdR c71_10
noncomputable def c71_13 : Code := cdR c71_7
noncomputable def c71_14 : Code := cdR c71_4
noncomputable def c71_15 : Code := cdL c71_14
noncomputable def c71_16 : Code := cdR c71_14
noncomputable def r71_1 : Array Oper := cdO c71_1
noncomputable def r71_3 : Array Oper := cdO c71_3
noncomputable def r71_6 : Array Oper := cdO c71_6
noncomputable def r71_9 : Array Oper := cdO c71_9
noncomputable def r71_11 : Array Oper := cdO c71_11
noncomputable def r71_15 : Array Oper := cdO c71_15
theorem c71_0e : c71_0 = .seq c71_1 c71_2 := by kernel_rfl
theorem c71_1e : c71_1 = .region 0 r71_1 false := by kernel_rfl
theorem c71_2e : c71_2 = .seq c71_3 c71_4 := by kernel_rfl
theorem c71_3e : c71_3 = .region 1 r71_3 false := by kernel_rfl
theorem c71_4e : c71_4 = .seq c71_5 c71_14 := by kernel_rfl
theorem c71_5e : c71_5 = .seq c71_6 c71_7 := by kernel_rfl
theorem c71_6e : c71_6 = .region 2 r71_6 false := by kernel_rfl
theorem c71_7e : c71_7 = .cond (cdC c71_7) c71_8 c71_13 := by kernel_rfl
theorem c71_8e : c71_8 = .seq c71_9 c71_10 := by kernel_rfl
theorem c71_9e : c71_9 = .region 3 r71_9 false := by kernel_rfl
theorem c71_10e : c71_10 = .seq c71_11 c71_12 := by kernel_rfl
theorem c71_11e : c71_11 = .region 4 r71_11 false := by kernel_rfl
theorem c71_12e : c71_12 = .ret := by kernel_rfl
theorem c71_13e : c71_13 = .skip := by kernel_rfl
theorem c71_14e : c71_14 = .seq c71_15 c71_16 := by kernel_rfl
theorem c71_15e : c71_15 = .region 5 r71_15 false := by kernel_rfl
theorem c71_16e : c71_16 = .ret := by kernel_rfl
noncomputable def tontineref03_Reader_Up.R (b_2 : Nat) : Pst (Int × T_tontineref03_Reader) where
  ε := Unit
  v := fun r x => vI r.1
  H := fun r x => [⟨1, b_2, [.string (bs r.2.S_), .bool r.2.Bad]⟩]
  B := fun r x => []
noncomputable def tontineref03_Reader_Up.cx (b_2 : Nat) (w0 : World) (S0 : Fam) : Cx (Int × T_tontineref03_Reader) := ⟨Try.prog, 71, Try.f71, 20, w0, S0, [1], 1, tontineref03_Reader_Up.R b_2⟩
theorem tontineref03_Reader_Up_j0_ok (n : Nat) (r_4 : Int × T_tontineref03_Reader) (b_2 : Nat) (w0 : World) (S0 : Fam) (b_6 : Bool) :
    GoO (tontineref03_Reader_Up.cx b_2 w0 S0) [(0, vP b_2), (5, vU r_4.1), (15, .bool b_6)] [⟨1, b_2, [.string (bs r_4.2.S_), .bool r_4.2.Bad]⟩] [] [.code c71_7, .code c71_14] (tontineref03_Reader_Up.j0 n r_4 b_6) := by
  unfold tontineref03_Reader_Up.j0
  refine GoO.ite' c71_7e (by kernel_rfl) (fun h7 => ?_) (fun h7 => ?_)
  · refine GoO.seq' c71_8e ?_
    refine GoO.region' (is := [0, 1]) c71_9e (by kernel_rfl) ?_
    refine GoO.exec (is := [0]) (hs := [.p]) (rest := [1]) (ks := [16]) (env' := [(16, vP b_2)]) (H' := [⟨1, b_2, [.string (bs r_4.2.S_), .bool r_4.2.Bad]⟩]) (ps := []) (by kernel_rfl) trivial ?_
    refine OpTo.go (GoO.call rfl (by kernel_rfl) (by kernel_rfl) (tontineref03_Reader_Fail_ok n r_4.2 b_2) [[0], [1]] [(1, 1)] [(1, 0)] [] (hks := []) (bks := []) (by kernel_rfl) (by kernel_rfl) (by kernel_rfl) (.inl rfl) rfl rfl (by kernel_rfl) (by kernel_rfl) _ (fun _ _ => rfl) _ _ (fun _ _ => rfl) (fun _ _ => rfl) (fun _ _ => by kernel_rfl) (fun _ _ => by kernel_rfl) (fun r_8 x_9 => ?_))
    refine GoO.shape (env' := [(16, vP b_2), (17, .tuple ⟨[]⟩)]) (H' := [⟨1, b_2, [.string (bs r_8.S_), .bool r_8.Bad]⟩]) (B' := []) (ks := [16, 17]) (by kernel_rfl) (by kernel_rfl) (by kernel_rfl) ?_
    refine GoO.regionEnd ?_
    refine GoO.seq' c71_10e ?_
    refine GoO.region' (is := [0]) c71_11e (by kernel_rfl) ?_
    refine GoO.exec (is := [0]) (hs := [.p]) (rest := []) (ks := [4]) (env' := [(4, vI 0)]) (H' := [⟨1, b_2, [.string (bs r_8.S_), .bool r_8.Bad]⟩]) (ps := []) (by kernel_rfl) trivial ?_
    refine GoO.regionEnd ?_
    exact GoO.ret' (h := c71_12e) (hs := []) (ps := []) (hk := [0]) (bk := []) Try.func71 () (by kernel_rfl) trivial (by kernel_rfl) (by kernel_rfl)
  · refine GoO.skip' c71_13e ?_
    refine GoO.seq' c71_14e ?_
    refine GoO.region' (is := [0, 1, 2]) c71_15e (by kernel_rfl) ?_
    refine GoO.exec (is := [0, 1, 2]) (hs := [.p, .p, .p]) (rest := []) (ks := [4]) (env' := [(4, vI (wi64 r_4.1))]) (H' := [⟨1, b_2, [.string (bs r_4.2.S_), .bool r_4.2.Bad]⟩]) (ps := []) (by kernel_rfl) trivial ?_
    refine GoO.regionEnd ?_
    exact GoO.ret' (h := c71_16e) (hs := []) (ps := []) (hk := [0]) (bk := []) Try.func71 () (by kernel_rfl) trivial (by kernel_rfl) (by kernel_rfl)
theorem tontineref03_Reader_Up_ok (n : Nat) (r_1 : T_tontineref03_Reader) (limit_3 : Int) (b_2 : Nat) :
    Meets Try.prog 71 [vP b_2, vI limit_3] 1 [1] [⟨1, b_2, [.string (bs r_1.S_), .bool r_1.Bad]⟩] [] (tontineref03_Reader_Up.f n r_1 limit_3) (tontineref03_Reader_Up.R b_2) := by
  refine Meets.of (c := c71_0) (n := 20) Try.func71 (by kernel_rfl) (by kernel_rfl) (by kernel_rfl) fun w0 S0 => ?_
  unfold tontineref03_Reader_Up.f
  show GoO (tontineref03_Reader_Up.cx b_2 w0 S0) [(0, vP b_2), (1, vI limit_3)] [⟨1, b_2, [.string (bs r_1.S_), .bool r_1.Bad]⟩] [] [.code c71_0] _
  refine GoO.seq' c71_0e ?_
  refine GoO.region' (is := [0]) c71_1e (by kernel_rfl) ?_
  refine GoO.exec (is := [0]) (hs := [.p]) (rest := []) (ks := [0, 1]) (env' := [(0, vP b_2), (1, vI limit_3)]) (H' := [⟨1, b_2, [.string (bs r_1.S_), .bool r_1.Bad]⟩]) (ps := []) (by kernel_rfl) trivial ?_
  refine GoO.regionEnd ?_
  refine GoO.seq' c71_2e ?_
  refine GoO.region' (is := [0, 1, 2]) c71_3e (by kernel_rfl) ?_
  refine GoO.exec (is := [0]) (hs := [.p]) (rest := [1, 2]) (ks := [0, 1, 6]) (env' := [(0, vP b_2), (1, vI limit_3), (6, vP b_2)]) (H' := [⟨1, b_2, [.string (bs r_1.S_), .bool r_1.Bad]⟩]) (ps := []) (by kernel_rfl) trivial ?_
  refine OpTo.go (GoO.call rfl (by kernel_rfl) (by kernel_rfl) (tontineref03_Reader_Num_ok n r_1 b_2) [[0], [1]] [(1, 1)] [(1, 0)] [] (hks := []) (bks := []) (by kernel_rfl) (by kernel_rfl) (by kernel_rfl) (.inl rfl) rfl rfl (by kernel_rfl) (by kernel_rfl) _ (fun _ _ => rfl) _ _ (fun _ _ => rfl) (fun _ _ => rfl) (fun _ _ => by kernel_rfl) (fun _ _ => by kernel_rfl) (fun r_4 x_10 => ?_))
  refine GoO.shape (env' := [(0, vP b_2), (1, vI limit_3), (6, vP b_2), (7, vU r_4.1)]) (H' := [⟨1, b_2, [.string (bs r_4.2.S_), .bool r_4.2.Bad]⟩]) (B' := []) (ks := [0, 1, 6, 7]) (by kernel_rfl) (by kernel_rfl) (by kernel_rfl) ?_
  refine GoO.exec (is := [2]) (hs := [.p]) (rest := []) (ks := [0, 1, 5]) (env' := [(0, vP b_2), (1, vI limit_3), (5, vU r_4.1)]) (H' := [⟨1, b_2, [.string (bs r_4.2.S_), .bool r_4.2.Bad]⟩]) (ps := []) (by kernel_rfl) trivial ?_
  refine GoO.regionEnd ?_
  refine GoO.seq' c71_4e ?_
  refine GoO.seq' c71_5e ?_
  refine GoO.region' (is := [0, 1, 2, 3, 4, 5, 6, 7]) c71_6e (by kernel_rfl) ?_
  refine GoO.exec (is := [0, 1, 2]) (hs := [.p, .p, .p]) (rest := [3, 4, 5, 6, 7]) (ks := [0, 1, 5, 10]) (env' := [(0, vP b_2), (1, vI limit_3), (5, vU r_4.1), (10, .bool (decide (limit_3 < 0)))]) (H' := [⟨1, b_2, [.string (bs r_4.2.S_), .bool r_4.2.Bad]⟩]) (ps := []) (by kernel_rfl) trivial ?_
  refine GoO.bsplit (t := 10) (by kernel_rfl) (fun h5 => ?_) (fun h5 => ?_)
  · refine GoO.exec (is := [3, 4, 5, 6, 7]) (hs := [.p, .p, .p, .p, .p]) (rest := []) (ks := [0, 5, 15]) (env' := [(0, vP b_2), (5, vU r_4.1), (15, .bool true)]) (H' := [⟨1, b_2, [.string (bs r_4.2.S_), .bool r_4.2.Bad]⟩]) (ps := []) (by kernel_rfl) trivial ?_
    refine GoO.regionEnd ?_
    exact GoO.sub (ks := [0, 5, 15]) (hk := [0]) (bk := []) (by kernel_rfl) (by kernel_rfl) (by kernel_rfl) (tontineref03_Reader_Up_j0_ok n r_4 b_2 w0 S0 true)
  · refine GoO.exec (is := [3, 4, 5, 6, 7]) (hs := [.p, .p, .p, .p, .p]) (rest := []) (ks := [0, 5, 15]) (env' := [(0, vP b_2), (5, vU r_4.1), (15, .bool (decide (r_4.1 > (wu64 limit_3))))]) (H' := [⟨1, b_2, [.string (bs r_4.2.S_), .bool r_4.2.Bad]⟩]) (ps := []) (by kernel_rfl) trivial ?_
    refine GoO.regionEnd ?_
    exact GoO.sub (ks := [0, 5, 15]) (hk := [0]) (bk := []) (by kernel_rfl) (by kernel_rfl) (by kernel_rfl) (tontineref03_Reader_Up_j0_ok n r_4 b_2 w0 S0 (decide (r_4.1 > (wu64 limit_3))))
/-! tontine/tontineref16.Said -/
noncomputable def c51_0 : Code := bodyOf Try.f51
noncomputable def c51_1 : Code := cdL c51_0
noncomputable def c51_2 : Code := cdR c51_0
noncomputable def c51_3 : Code := cdL c51_2
noncomputable def c51_4 : Code := cdR c51_2
noncomputable def c51_5 : Code := cdL c51_4
noncomputable def c51_6 : Code := cdR c51_4
noncomputable def c51_7 : Code := cdL c51_6
noncomputable def c51_8 : Code := cdR c51_6
noncomputable def c51_9 : Code := cdL c51_8
noncomputable def c51_10 : Code := cdR c51_8
noncomputable def c51_11 : Code := cdL c51_10
noncomputable def c51_12 : Code := cdL c51_11
noncomputable def c51_13 : Code := cdR c51_11
noncomputable def c51_14 : Code := cdL c51_13
noncomputable def c51_15 : Code := cdL c51_14
noncomputable def c51_16 : Code := cdR c51_14
noncomputable def c51_17 : Code := cdR c51_13
noncomputable def c51_18 : Code := cdR c51_10
noncomputable def c51_19 : Code := cdL c51_18
noncomputable def c51_20 : Code := cdR c51_18
noncomputable def r51_1 : Array Oper := cdO c51_1
noncomputable def r51_3 : Array Oper := cdO c51_3
noncomputable def r51_5 : Array Oper := cdO c51_5
noncomputable def r51_7 : Array Oper := cdO c51_7
noncomputable def r51_9 : Array Oper := cdO c51_9
noncomputable def r51_12 : Array Oper := cdO c51_12
noncomputable def r51_15 : Array Oper := cdO c51_15
noncomputable def r51_19 : Array Oper := cdO c51_19
theorem c51_0e : c51_0 = .seq c51_1 c51_2 := by kernel_rfl
theorem c51_1e : c51_1 = .region 0 r51_1 false := by kernel_rfl
theorem c51_2e : c51_2 = .seq c51_3 c51_4 := by kernel_rfl
theorem c51_3e : c51_3 = .region 1 r51_3 false := by kernel_rfl
theorem c51_4e : c51_4 = .seq c51_5 c51_6 := by kernel_rfl
theorem c51_5e : c51_5 = .region 2 r51_5 false := by kernel_rfl
theorem c51_6e : c51_6 = .seq c51_7 c51_8 := by kernel_rfl
theorem c51_7e : c51_7 = .region 3 r51_7 false := by kernel_rfl
theorem c51_8e : c51_8 = .seq c51_9 c51_10 := by kernel_rfl
theorem c51_9e : c51_9 = .region 4 r51_9 false := by kernel_rfl
theorem c51_10e : c51_10 = .seq c51_11 c51_18 := by kernel_rfl
theorem c51_11e : c51_11 = .seq c51_12 c51_13 := by kernel_rfl
theorem c51_12e : c51_12 = .region 5 r51_12 false := by kernel_rfl
theorem c51_13e : c51_13 = .cond (cdC c51_13) c51_14 c51_17 := by kernel_rfl
theorem c51_14e : c51_14 = .seq c51_15 c51_16 := by kernel_rfl
theorem c51_15e : c51_15 = .region 6 r51_15 false := by kernel_rfl
theorem c51_16e : c51_16 = .ret := by kernel_rfl
theorem c51_17e : c51_17 = .skip := by kernel_rfl
theorem c51_18e : c51_18 = .seq c51_19 c51_20 := by kernel_rfl
theorem c51_19e : c51_19 = .region 7 r51_19 false := by kernel_rfl
theorem c51_20e : c51_20 = .ret := by kernel_rfl
noncomputable def tontineref16_Said.R : Pst (T_api_Reply × Int) where
  ε := Unit
  v := fun r x => .tuple ⟨[.agg ⟨[vI r.1.Err, vU r.1.Num, vU r.1.Extra]⟩, vI r.2]⟩
  H := fun r x => []
  B := fun r x => []
noncomputable def tontineref16_Said.cx (w0 : World) (S0 : Fam) : Cx (T_api_Reply × Int) := ⟨Try.prog, 51, Try.f51, 31, w0, S0, [], 0, tontineref16_Said.R⟩
theorem tontineref16_Said_ok (n : Nat) (s_1 : (List UInt8)) :
    Meets Try.prog 51 [.string (bs s_1)] 0 [] [] [] (tontineref16_Said.f n s_1) (tontineref16_Said.R) := by
  refine Meets.of (c := c51_0) (n := 31) Try.func51 (by kernel_rfl) (by kernel_rfl) (by kernel_rfl) fun w0 S0 => ?_
  unfold tontineref16_Said.f
  show GoO (tontineref16_Said.cx w0 S0) [(0, .string (bs s_1))] [] [] [.code c51_0] _
  refine GoO.seq' c51_0e ?_
  refine GoO.region' (is := [0, 1]) c51_1e (by kernel_rfl) ?_
  refine OpTo.go (GoO.new rfl 40 (cs := [vI 0, vU 0, vU 0]) (by kernel_rfl) _ (fun _ => rfl) (fun b_2 => ?_))
  refine GoO.exec (is := [1]) (hs := [.p]) (rest := []) (ks := [0, 2]) (env' := [(0, .string (bs s_1)), (2, vP b_2)]) (H' := [⟨40, b_2, [vI 0, vU 0, vU 0]⟩]) (ps := []) (by kernel_rfl) trivial ?_
  refine GoO.regionEnd ?_
  refine GoO.seq' c51_2e ?_
  refine GoO.region' (is := [0, 1, 2, 3]) c51_3e (by kernel_rfl) ?_
  refine GoO.exec (is := [0, 1]) (hs := [.p, .p]) (rest := [2, 3]) (ks := [2, 7]) (env' := [(2, vP b_2), (7, .agg ⟨[.string (bs s_1), .bool false]⟩)]) (H' := [⟨40, b_2, [vI 0, vU 0, vU 0]⟩]) (ps := []) (by kernel_rfl) trivial ?_
  refine OpTo.go (GoO.new rfl 41 (cs := [.string (bs s_1), .bool false]) (by kernel_rfl) _ (fun _ => rfl) (fun b_3 => ?_))
  refine GoO.exec (is := [3]) (hs := [.p]) (rest := []) (ks := [2, 4]) (env' := [(2, vP b_2), (4, vP b_3)]) (H' := [⟨41, b_3, [.string (bs s_1), .bool false]⟩, ⟨40, b_2, [vI 0, vU 0, vU 0]⟩]) (ps := []) (by kernel_rfl) trivial ?_
  refine GoO.regionEnd ?_
  refine GoO.seq' c51_4e ?_
  refine GoO.region' (is := [0, 1, 2, 3, 4]) c51_5e (by kernel_rfl) ?_
  refine GoO.exec (is := [0]) (hs := [.p]) (rest := [1, 2, 3, 4]) (ks := [2, 4, 9]) (env' := [(2, vP b_2), (4, vP b_3), (9, vP b_3)]) (H' := [⟨41, b_3, [.string (bs s_1), .bool false]⟩, ⟨40, b_2, [vI 0, vU 0, vU 0]⟩]) (ps := []) (by kernel_rfl) trivial ?_
  refine OpTo.go (GoO.call rfl (by kernel_rfl) (by kernel_rfl) (tontineref03_Reader_Up_ok n (⟨s_1, false⟩ : T_tontineref03_Reader) 52 b_3) [[0], [41]] [(41, 1)] [(1, 0)] [] (hks := [1]) (bks := []) (by kernel_rfl) (by kernel_rfl) (by kernel_rfl) (.inl rfl) rfl rfl (by kernel_rfl) (by kernel_rfl) _ (fun _ _ => rfl) _ _ (fun _ _ => rfl) (fun _ _ => rfl) (fun _ _ => by kernel_rfl) (fun _ _ => by kernel_rfl) (fun r_4 x_12 => ?_))
  refine GoO.shape (env' := [(2, vP b_2), (4, vP b_3), (9, vP b_3), (10, vI r_4.1)]) (H' := [⟨41, b_3, [.string (bs r_4.2.S_), .bool r_4.2.Bad]⟩, ⟨40, b_2, [vI 0, vU 0, vU 0]⟩]) (B' := []) (ks := [2, 4, 9, 10]) (by kernel_rfl) (by kernel_rfl) (by kernel_rfl) ?_
  refine GoO.exec (is := [2]) (hs := [.p]) (rest := [3, 4]) (ks := [2, 4, 11]) (env' := [(2, vP b_2), (4, vP b_3), (11, .agg ⟨[vI r_4.1, vU 0, vU 0]⟩)]) (H' := [⟨41, b_3, [.string (bs r_4.2.S_), .bool r_4.2.Bad]⟩, ⟨40, b_2, [vI 0, vU 0, vU 0]⟩]) (ps := []) (by kernel_rfl) trivial ?_
  refine OpTo.go (GoO.new rfl 42 (cs := [vI 0, vU 0, vU 0]) (by kernel_rfl) _ (fun _ => rfl) (fun b_5 => ?_))
  refine GoO.exec (is := [4]) (hs := [.b 0]) (rest := []) (ks := [2, 4, 5]) (env' := [(2, vP b_2), (4, vP b_3), (5, vP b_5)]) (H' := [⟨42, b_5, [vI r_4.1, vU 0, vU 0]⟩, ⟨41, b_3, [.string (bs r_4.2.S_), .bool r_4.2.Bad]⟩, ⟨40, b_2, [vI 0, vU 0, vU 0]⟩]) (ps := [b_5 = b_5]) (by kernel_rfl) (And.intro rfl trivial) ?_
  refine GoO.regionEnd ?_
  refine GoO.seq' c51_6e ?_
  refine GoO.region' (is := [0, 1, 2, 3]) c51_7e (by kernel_rfl) ?_
  refine GoO.exec (is := [0]) (hs := [.p]) (rest := [1, 2, 3]) (ks := [2, 4, 5, 12]) (env' := [(2, vP b_2), (4, vP b_3), (5, vP b_5), (12, vP b_3)]) (H' := [⟨42, b_5, [vI r_4.1, vU 0, vU 0]⟩, ⟨41, b_3, [.string (bs r_4.2.S_), .bool r_4.2.Bad]⟩, ⟨40, b_2, [vI 0, vU 0, vU 0]⟩]) (ps := []) (by kernel_rfl) trivial ?_
  refine OpTo.go (GoO.call rfl (by kernel_rfl) (by kernel_rfl) (tontineref03_Reader_Num_ok n r_4.2 b_3) [[0], [41]] [(41, 1)] [(1, 1)] [] (hks := [0, 2]) (bks := []) (by kernel_rfl) (by kernel_rfl) (by kernel_rfl) (.inl rfl) rfl rfl (by kernel_rfl) (by kernel_rfl) _ (fun _ _ => rfl) _ _ (fun _ _ => rfl) (fun _ _ => rfl) (fun _ _ => by kernel_rfl) (fun _ _ => by kernel_rfl) (fun r_6 x_11 => ?_))
  refine GoO.shape (env' := [(2, vP b_2), (4, vP b_3), (5, vP b_5), (12, vP b_3), (13, vU r_6.1)]) (H' := [⟨41, b_3, [.string (bs r_6.2.S_), .bool r_6.2.Bad]⟩, ⟨42, b_5, [vI r_4.1, vU 0, vU 0]⟩, ⟨40, b_2, [vI 0, vU 0, vU 0]⟩]) (B' := []) (ks := [2, 4, 5, 12, 13]) (by kernel_rfl) (by kernel_rfl) (by kernel_rfl) ?_
  refine GoO.exec (is := [2, 3]) (hs := [.p, .b 1]) (rest := []) (ks := [2, 4, 5]) (env' := [(2, vP b_2), (4, vP b_3), (5, vP b_5)]) (H' := [⟨41, b_3, [.string (bs r_6.2.S_), .bool r_6.2.Bad]⟩, ⟨42, b_5, [vI r_4.1, vU r_6.1, vU 0]⟩, ⟨40, b_2, [vI 0, vU 0, vU 0]⟩]) (ps := [b_5 = b_5]) (by kernel_rfl) (And.intro rfl trivial) ?_
  refine GoO.regionEnd ?_
  refine GoO.seq' c51_8e ?_
  refine GoO.region' (is := [0, 1, 2, 3]) c51_9e (by kernel_rfl) ?_
  refine GoO.exec (is := [0]) (hs := [.p]) (rest := [1, 2, 3]) (ks := [2, 4, 5, 15]) (env' := [(2, vP b_2), (4, vP b_3), (5, vP b_5), (15, vP b_3)]) (H' := [⟨41, b_3, [.string (bs r_6.2.S_), .bool r_6.2.Bad]⟩, ⟨42, b_5, [vI r_4.1, vU r_6.1, vU 0]⟩, ⟨40, b_2, [vI 0, vU 0, vU 0]⟩]) (ps := []) (by kernel_rfl) trivial ?_
  refine OpTo.go (GoO.call rfl (by kernel_rfl) (by kernel_rfl) (tontineref03_Reader_Num_ok n r_6.2 b_3) [[0], [41]] [(41, 1)] [(1, 0)] [] (hks := [1, 2]) (bks := []) (by kernel_rfl) (by kernel_rfl) (by kernel_rfl) (.inl rfl) rfl rfl (by kernel_rfl) (by kernel_rfl) _ (fun _ _ => rfl) _ _ (fun _ _ => rfl) (fun _ _ => rfl) (fun _ _ => by kernel_rfl) (fun _ _ => by kernel_rfl) (fun r_7 x_10 => ?_))
  refine GoO.shape (env' := [(2, vP b_2), (4, vP b_3), (5, vP b_5), (15, vP b_3), (16, vU r_7.1)]) (H' := [⟨41, b_3, [.string (bs r_7.2.S_), .bool r_7.2.Bad]⟩, ⟨42, b_5, [vI r_4.1, vU r_6.1, vU 0]⟩, ⟨40, b_2, [vI 0, vU 0, vU 0]⟩]) (B' := []) (ks := [2, 4, 5, 15, 16]) (by kernel_rfl) (by kernel_rfl) (by kernel_rfl) ?_
  refine GoO.exec (is := [2, 3]) (hs := [.p, .b 1]) (rest := []) (ks := [2, 4, 5]) (env' := [(2, vP b_2), (4, vP b_3), (5, vP b_5)]) (H' := [⟨41, b_3, [.string (bs r_7.2.S_), .bool r_7.2.Bad]⟩, ⟨42, b_5, [vI r_4.1, vU r_6.1, vU r_7.1]⟩, ⟨40, b_2, [vI 0, vU 0, vU 0]⟩]) (ps := [b_5 = b_5]) (by kernel_rfl) (And.intro rfl trivial) ?_
  refine GoO.regionEnd ?_
  refine GoO.seq' c51_10e ?_
  refine GoO.seq' c51_11e ?_
  refine GoO.region' (is := [0, 1, 2, 3, 4, 5, 6, 7, 8, 9, 10]) c51_12e (by kernel_rfl) ?_
  refine GoO.exec (is := [0, 1, 2, 3, 4]) (hs := [.p, .p, .p, .b 0, .p]) (rest := [5, 6, 7, 8, 9, 10]) (ks := [2, 4, 5, 22]) (env' := [(2, vP b_2), (4, vP b_3), (5, vP b_5), (22, .bool r_7.2.Bad)]) (H' := [⟨41, b_3, [.string (bs r_7.2.S_), .bool r_7.2.Bad]⟩, ⟨42, b_5, [vI r_4.1, vU r_6.1, vU r_7.1]⟩, ⟨40, b_2, [vI 0, vU 0, vU 0]⟩]) (ps := [b_3 = b_3]) (by kernel_rfl) (And.intro rfl trivial) ?_
  refine GoO.bsplit (t := 22) (by kernel_rfl) (fun h8 => ?_) (fun h8 => ?_)
  · refine GoO.exec (is := [5, 6, 7, 8, 9, 10]) (hs := [.p, .p, .p, .p, .p, .p]) (rest := []) (ks := [2, 5, 28]) (env' := [(2, vP b_2), (5, vP b_5), (28, .bool true)]) (H' := [⟨41, b_3, [.string (bs r_7.2.S_), .bool r_7.2.Bad]⟩, ⟨42, b_5, [vI r_4.1, vU r_6.1, vU r_7.1]⟩, ⟨40, b_2, [vI 0, vU 0, vU 0]⟩]) (ps := []) (by kernel_rfl) trivial ?_
    refine GoO.regionEnd ?_
    refine GoO.condT c51_13e (by kernel_rfl) ?_
    refine GoO.seq' c51_14e ?_
    refine GoO.region' (is := [0, 1, 2]) c51_15e (by kernel_rfl) ?_
    refine GoO.exec (is := [0, 1, 2]) (hs := [.p, .b 2, .p]) (rest := []) (ks := [2, 3]) (env' := [(2, vP b_2), (3, vI 2)]) (H' := [⟨41, b_3, [.string (bs r_7.2.S_), .bool r_7.2.Bad]⟩, ⟨42, b_5, [vI r_4.1, vU r_6.1, vU r_7.1]⟩, ⟨40, b_2, [vI 0, vU 0, vU 0]⟩]) (ps := [b_2 = b_2]) (by kernel_rfl) (And.intro rfl trivial) ?_
    refine GoO.regionEnd ?_
    exact GoO.ret' (h := c51_16e) (hs := [2]) (ps := [b_2 = b_2]) (hk := []) (bk := []) Try.func51 () (by kernel_rfl) (And.intro rfl trivial) (by kernel_rfl) (by kernel_rfl)
  · refine GoO.exec (is := [5, 6, 7, 8, 9, 10]) (hs := [.p, .p, .p, .b 0, .p, .p]) (rest := []) (ks := [2, 5, 28]) (env' := [(2, vP b_2), (5, vP b_5), (28, .bool (!(r_7.2.S_ == ([] : List UInt8))))]) (H' := [⟨41, b_3, [.string (bs r_7.2.S_), .bool r_7.2.Bad]⟩, ⟨42, b_5, [vI r_4.1, vU r_6.1, vU r_7.1]⟩, ⟨40, b_2, [vI 0, vU 0, vU 0]⟩]) (ps := [b_3 = b_3]) (by kernel_rfl) (And.intro rfl trivial) ?_
    refine GoO.regionEnd ?_
    refine GoO.ite' c51_13e (by kernel_rfl) (fun h9 => ?_) (fun h9 => ?_)
    · refine GoO.seq' c51_14e ?_
      refine GoO.region' (is := [0, 1, 2]) c51_15e (by kernel_rfl) ?_
      refine GoO.exec (is := [0, 1, 2]) (hs := [.p, .b 2, .p]) (rest := []) (ks := [2, 3]) (env' := [(2, vP b_2), (3, vI 2)]) (H' := [⟨41, b_3, [.string (bs r_7.2.S_), .bool r_7.2.Bad]⟩, ⟨42, b_5, [vI r_4.1, vU r_6.1, vU r_7.1]⟩, ⟨40, b_2, [vI 0, vU 0, vU 0]⟩]) (ps := [b_2 = b_2]) (by kernel_rfl) (And.intro rfl trivial) ?_
      refine GoO.regionEnd ?_
      exact GoO.ret' (h := c51_16e) (hs := [2]) (ps := [b_2 = b_2]) (hk := []) (bk := []) Try.func51 () (by kernel_rfl) (And.intro rfl trivial) (by kernel_rfl) (by kernel_rfl)
    · refine GoO.skip' c51_17e ?_
      refine GoO.seq' c51_18e ?_
      refine GoO.region' (is := [0, 1, 2]) c51_19e (by kernel_rfl) ?_
      refine GoO.exec (is := [0, 1, 2]) (hs := [.b 1, .b 2, .p]) (rest := []) (ks := [2, 3]) (env' := [(2, vP b_2), (3, vI 0)]) (H' := [⟨41, b_3, [.string (bs r_7.2.S_), .bool r_7.2.Bad]⟩, ⟨42, b_5, [vI r_4.1, vU r_6.1, vU r_7.1]⟩, ⟨40, b_2, [vI r_4.1, vU r_6.1, vU r_7.1]⟩]) (ps := [b_5 = b_5, b_2 = b_2]) (by kernel_rfl) (And.intro rfl (And.intro rfl trivial)) ?_
      refine GoO.regionEnd ?_
      exact GoO.ret' (h := c51_20e) (hs := [2]) (ps := [b_2 = b_2]) (hk := []) (bk := []) Try.func51 () (by kernel_rfl) (And.intro rfl trivial) (by kernel_rfl) (by kernel_rfl)
/-! (*tontine/tontineref21.Client).Hear -/
noncomputable def c48_0 : Code := bodyOf Try.f48
noncomputable def c48_1 : Code := cdL c48_0
noncomputable def c48_2 : Code := cdR c48_0
noncomputable def c48_3 : Code := cdL c48_2
noncomputable def c48_4 : Code := cdR c48_2
noncomputable def c48_5 : Code := cdL c48_4
noncomputable def c48_6 : Code := cdL c48_5
noncomputable def c48_7 : Code := cdR c48_5
noncomputable def c48_8 : Code := cdL c48_7
noncomputable def c48_9 : Code := cdL c48_8
noncomputable def c48_10 : Code := cdR c48_8
noncomputable def c48_11 : Code := cdR c48_7
noncomputable def c48_12 : Code := cdR c48_4
noncomputable def c48_13 : Code := cdL c48_12
noncomputable def c48_14 : Code := cdL c48_13
noncomputable def c48_15 : Code := cdR c48_13
noncomputable def c48_16 : Code := cdL c48_15
noncomputable def c48_17 : Code := cdL c48_16
noncomputable def c48_18 : Code := cdL c48_17
noncomputable def c48_19 : Code := cdR c48_17
noncomputable def c48_20 : Code := cdL c48_19
noncomputable def c48_21 : Code := cdL c48_20
noncomputable def c48_22 : Code := cdR c48_20
noncomputable def c48_23 : Code := cdR c48_19
noncomputable def c48_24 : Code := cdR c48_16
noncomputable def c48_25 : Code := cdL c48_24
noncomputable def c48_26 : Code := cdR c48_24
noncomputable def c48_27 : Code := cdL c48_26
noncomputable def c48_28 : Code := cdR c48_26
noncomputable def c48_29 : Code := cdR c48_15
noncomputable def c48_30 : Code := cdR c48_12
noncomputable def c48_31 : Code := cdL c48_30
noncomputable def c48_32 : Code := cdR c48_30
noncomputable def c48_33 : Code := cdL c48_32
noncomputable def c48_34 : Code := cdL c48_33
noncomputable def c48_35 : Code := cdR c48_33
noncomputable def c48_36 : Code := cdL c48_35
noncomputable def c48_37 : Code := cdL c48_36
noncomputable def c48_38 : Code := cdR c48_36
noncomputable def c48_39 : Code := cdL c48_38
noncomputable def c48_40 : Code := cdL c48_39
noncomputable def c48_41 : Code := cdR c48_39
noncomputable def c48_42 : Code := cdR c48_38
noncomputable def c48_43 : Code := cdR c48_35
noncomputable def c48_44 : Code := cdL c48_43
noncomputable def c48_45 : Code := cdR c48_43
noncomputable def c48_46 : Code := cdL c48_45
noncomputable def c48_47 : Code := cdL c48_46
noncomputable def c48_48 : Code := cdR c48_46
noncomputable def c48_49 : Code := cdR c48_45
noncomputable def c48_50 : Code := cdR c48_32
noncomputable def c48_51 : Code := cdL c48_50
noncomputable def c48_52 : Code := cdR c48_50
noncomputable def r48_1 : Array Oper := cdO c48_1
noncomputable def r48_3 : Array Oper := cdO c48_3
noncomputable def r48_6 : Array Oper := cdO c48_6
noncomputable def r48_9 : Array Oper := cdO c48_9
noncomputable def r48_14 : Array Oper := cdO c48_14
noncomputable def r48_18 : Array Oper := cdO c48_18
noncomputable def r48_21 : Array Oper := cdO c48_21
noncomputable def r48_25 : Array Oper := cdO c48_25
noncomputable def r48_27 : Array Oper := cdO c48_27
noncomputable def r48_31 : Array Oper := cdO c48_31
noncomputable def r48_34 : Array Oper := cdO c48_34
noncomputable def r48_37 : Array Oper := cdO c48_37
noncomputable def r48_40 : Array Oper := cdO c48_40
noncomputable def r48_41 : Array Oper := cdO c48_41
noncomputable def r48_44 : Array Oper := cdO c48_44
noncomputable def r48_47 : Array Oper := cdO c48_47
noncomputable def r48_48 : Array Oper := cdO c48_48
noncomputable def r48_49 : Array Oper := cdO c48_49
noncomputable def r48_51 : Array Oper := cdO c48_51
theorem c48_0e : c48_0 = .seq c48_1 c48_2 := by kernel_rfl
theorem c48_1e : c48_1 = .region 0 r48_1 false := by kernel_rfl
theorem c48_2e : c48_2 = .seq c48_3 c48_4 := by kernel_rfl
theorem c48_3e : c48_3 = .region 1 r48_3 false := by kernel_rfl
theorem c48_4e : c48_4 = .seq c48_5 c48_12 := by kernel_rfl
theorem c48_5e : c48_5 = .seq c48_6 c48_7 := by kernel_rfl
theorem c48_6e : c48_6 = .region 2 r48_6 true := by kernel_rfl
theorem c48_7e : c48_7 = .cond (cdC c48_7) c48_8 c48_11 := by kernel_rfl
theorem c48_8e : c48_8 = .seq c48_9 c48_10 := by kernel_rfl
theorem c48_9e : c48_9 = .region 3 r48_9 false := by kernel_rfl
theorem c48_10e : c48_10 = .ret := by kernel_rfl
theorem c48_11e : c48_11 = .skip := by kernel_rfl
theorem c48_12e : c48_12 = .seq c48_13 c48_30 := by kernel_rfl
theorem c48_13e : c48_13 = .seq c48_14 c48_15 := by kernel_rfl
theorem c48_14e : c48_14 = .region 4 r48_14 false := by kernel_rfl
theorem c48_15e : c48_15 = .cond (cdC c48_15) c48_16 c48_29 := by kernel_rfl
theorem c48_16e : c48_16 = .seq c48_17 c48_24 := by kernel_rfl
theorem c48_17e : c48_17 = .seq c48_18 c48_19 := by kernel_rfl
theorem c48_18e : c48_18 = .region 5 r48_18 true := by kernel_rfl
theorem c48_19e : c48_19 = .cond (cdC c48_19) c48_20 c48_23 := by kernel_rfl
theorem c48_20e : c48_20 = .seq c48_21 c48_22 := by kernel_rfl
theorem c48_21e : c48_21 = .region 6 r48_21 false := by kernel_rfl
theorem c48_22e : c48_22 = .ret := by kernel_rfl
theorem c48_23e : c48_23 = .skip := by kernel_rfl
theorem c48_24e : c48_24 = .seq c48_25 c48_26 := by kernel_rfl
theorem c48_25e : c48_25 = .region 7 r48_25 false := by kernel_rfl
theorem c48_26e : c48_26 = .seq c48_27 c48_28 := by kernel_rfl
theorem c48_27e : c48_27 = .region 8 r48_27 false := by kernel_rfl
theorem c48_28e : c48_28 = .ret := by kernel_rfl
theorem c48_29e : c48_29 = .skip := by kernel_rfl
theorem c48_30e : c48_30 = .seq c48_31 c48_32 := by kernel_rfl
theorem c48_31e : c48_31 = .region 9 r48_31 false := by kernel_rfl
theorem c48_32e : c48_32 = .seq c48_33 c48_50 := by kernel_rfl
theorem c48_33e : c48_33 = .seq c48_34 c48_35 := by kernel_rfl
theorem c48_34e : c48_34 = .region 10 r48_34 false := by kernel_rfl
theorem c48_35e : c48_35 = .cond (cdC c48_35) c48_36 c48_43 := by kernel_rfl
theorem c48_36e : c48_36 = .seq c48_37 c48_38 := by kernel_rfl
theorem c48_37e : c48_37 = .region 11 r48_37 false := by kernel_rfl
theorem c48_38e : c48_38 = .cond (cdC c48_38) c48_39 c48_42 := by kernel_rfl
theorem c48_39e : c48_39 = .seq c48_40 c48_41 := by kernel_rfl
theorem c48_40e : c48_40 = .region 12 r48_40 false := by kernel_rfl
theorem c48_41e : c48_41 = .region 13 r48_41 false := by kernel_rfl
theorem c48_42e : c48_42 = .skip := by kernel_rfl
theorem c48_43e : c48_43 = .seq c48_44 c48_45 := by kernel_rfl
theorem c48_44e : c48_44 = .region 14 r48_44 false := by kernel_rfl
theorem c48_45e : c48_45 = .cond (cdC c48_45) c48_46 c48_49 := by kernel_rfl
theorem c48_46e : c48_46 = .seq c48_47 c48_48 := by kernel_rfl
theorem c48_47e : c48_47 = .region 15 r48_47 false := by kernel_rfl
theorem c48_48e : c48_48 = .region 16 r48_48 false := by kernel_rfl
theorem c48_49e : c48_49 = .region 17 r48_49 false := by kernel_rfl
theorem c48_50e : c48_50 = .seq c48_51 c48_52 := by kernel_rfl
theorem c48_51e : c48_51 = .region 18 r48_51 true := by kernel_rfl
theorem c48_52e : c48_52 = .ret := by kernel_rfl
noncomputable def tontineref21_Client_Hear.R (b_2 : Nat) (A_3 : Option Addr) (c_4 : Nat) (A_6 : Option Addr) (c_7 : Nat) : Pst (T_api_Told × Bool × T_api_Letter × Bool × T_tontineref21_Client) where
  ε := Option Addr × Nat × Option Addr × Nat × Option Addr × Nat
  v := fun r x => .tuple ⟨[.agg ⟨[vI r.1.Client, vI r.1.Command.Kind, vU r.1.Command.Session, vU r.1.Command.Seq, vU r.1.Command.Saga, .slice x.1 r.1.Command.Steps.length x.2.1, vI r.1.Command.Step, .bool r.1.Command.Back, vI r.1.Command.Try, .bool r.1.Command.Ok, vU r.1.Command.Now, vI r.1.Reply.Err, vU r.1.Reply.Num, vU r.1.Reply.Extra]⟩, .bool r.2.1, .agg ⟨[vI r.2.2.1.Kind, vI r.2.2.1.From, vI r.2.2.1.To, vU r.2.2.1.Term, vU r.2.2.1.Index, vU r.2.2.1.Prev, vU r.2.2.1.Commit, .bool r.2.2.1.Ok, .slice x.2.2.1 r.2.2.1.Entries.length x.2.2.2.1, .string (bs r.2.2.1.Data)]⟩, .bool r.2.2.2.1]⟩
  H := fun r x => [⟨1, b_2, [vI r.2.2.2.2.Id, vU r.2.2.2.2.Session, vU r.2.2.2.2.Last, vU r.2.2.2.2.Calls, .bool r.2.2.2.2.Busy, vI r.2.2.2.2.Now.Kind, vU r.2.2.2.2.Now.Session, vU r.2.2.2.2.Now.Seq, vU r.2.2.2.2.Now.Saga, .slice x.2.2.2.2.1 r.2.2.2.2.Now.Steps.length x.2.2.2.2.2, vI r.2.2.2.2.Now.Step, .bool r.2.2.2.2.Now.Back, vI r.2.2.2.2.Now.Try, .bool r.2.2.2.2.Now.Ok, vU r.2.2.2.2.Now.Now, vI r.2.2.2.2.To]⟩]
  B := fun r x => [Rd 0 kT_api_Step x.1 x.2.1 r.1.Command.Steps, Rd 0 kT_api_Entry x.2.2.1 x.2.2.2.1 r.2.2.1.Entries, Rd 0 kT_api_Step x.2.2.2.2.1 x.2.2.2.2.2 r.2.2.2.2.Now.Steps]
noncomputable def tontineref21_Client_Hear.cx (b_2 : Nat) (A_3 : Option Addr) (c_4 : Nat) (A_6 : Option Addr) (c_7 : Nat) (w0 : World) (S0 : Fam) : Cx (T_api_Told × Bool × T_api_Letter × Bool × T_tontineref21_Client) := ⟨Try.prog, 48, Try.f48, 137, w0, S0, [1], 1, tontineref21_Client_Hear.R b_2 A_3 c_4 A_6 c_7⟩
theorem tontineref21_Client_Hear_j2_ok (n : Nat) (c_1 : T_tontineref21_Client) (x_5 : T_api_Letter) (b_2 : Nat) (A_3 : Option Addr) (c_4 : Nat) (A_6 : Option Addr) (c_7 : Nat) (b_8 : Nat) (b_9 : Nat) (b_10 : Nat) (w0 : World) (S0 : Fam) (b_24 : Bool) :
    GoO (tontineref21_Client_Hear.cx b_2 A_3 c_4 A_6 c_7 w0 S0) [(0, vP b_2), (3, vP b_8), (4, vP b_9), (6, vP b_10), (77, .bool b_24)] [⟨1, b_2, [vI c_1.Id, vU c_1.Session, vU c_1.Last, vU c_1.Calls, .bool c_1.Busy, vI c_1.Now.Kind, vU c_1.Now.Session, vU c_1.Now.Seq, vU c_1.Now.Saga, .slice A_3 c_1.Now.Steps.length c_4, vI c_1.Now.Step, .bool c_1.Now.Back, vI c_1.Now.Try, .bool c_1.Now.Ok, vU c_1.Now.Now, vI c_1.To]⟩, ⟨40, b_8, [vI x_5.Kind, vI x_5.From, vI x_5.To, vU x_5.Term, vU x_5.Index, vU x_5.Prev, vU x_5.Commit, .bool x_5.Ok, .slice A_6 x_5.Entries.length c_7, .string (bs x_5.Data)]⟩, ⟨41, b_9, [vI 0, vI 0, vU 0, vU 0, vU 0, .slice none ([] : List T_api_Step).length 0, vI 0, .bool false, vI 0, .bool false, vU 0, vI 0, vU 0, vU 0]⟩, ⟨42, b_10, [vI 0, vI 0, vI 0, vU 0, vU 0, vU 0, vU 0, .bool false, .slice none ([] : List T_api_Entry).length 0, .string (bs [])]⟩] [Rd 0 kT_api_Step A_3 c_4 c_1.Now.Steps, Rd 0 kT_api_Entry A_6 c_7 x_5.Entries] [.code c48_19, .code c48_24, .code c48_30] (tontineref21_Client_Hear.j2 n c_1 x_5 b_24) := by
  unfold tontineref21_Client_Hear.j2
  refine GoO.ite' c48_19e (by kernel_rfl) (fun h25 => ?_) (fun h25 => ?_)
  · refine GoO.seq' c48_20e ?_
    refine GoO.region' (is := [0, 1, 2, 3, 4, 5]) c48_21e (by kernel_rfl) ?_
    refine GoO.exec (is := [0, 1, 2, 3, 4, 5]) (hs := [.p, .p, .b 2, .p, .b 3, .p]) (rest := []) (ks := [4, 5, 6, 7]) (env' := [(4, vP b_9), (5, .bool false), (6, vP b_10), (7, .bool false)]) (H' := [⟨1, b_2, [vI c_1.Id, vU c_1.Session, vU c_1.Last, vU c_1.Calls, .bool c_1.Busy, vI c_1.Now.Kind, vU c_1.Now.Session, vU c_1.Now.Seq, vU c_1.Now.Saga, .slice A_3 c_1.Now.Steps.length c_4, vI c_1.Now.Step, .bool c_1.Now.Back, vI c_1.Now.Try, .bool c_1.Now.Ok, vU c_1.Now.Now, vI c_1.To]⟩, ⟨40, b_8, [vI x_5.Kind, vI x_5.From, vI x_5.To, vU x_5.Term, vU x_5.Index, vU x_5.Prev, vU x_5.Commit, .bool x_5.Ok, .slice A_6 x_5.Entries.length c_7, .string (bs x_5.Data)]⟩, ⟨41, b_9, [vI 0, vI 0, vU 0, vU 0, vU 0, .slice none ([] : List T_api_Step).length 0, vI 0, .bool false, vI 0, .bool false, vU 0, vI 0, vU 0, vU 0]⟩, ⟨42, b_10, [vI 0, vI 0, vI 0, vU 0, vU 0, vU 0, vU 0, .bool false, .slice none ([] : List T_api_Entry).length 0, .string (bs [])]⟩]) (ps := [b_9 = b_9, b_10 = b_10]) (by kernel_rfl) (And.intro rfl (And.intro rfl trivial)) ?_
    refine GoO.regionEnd ?_
    refine GoO.nilRd kT_api_Step ?_
    refine GoO.nilRd kT_api_Entry ?_
    exact GoO.ret' (h := c48_22e) (hs := [2, 3]) (ps := [b_9 = b_9, b_10 = b_10]) (hk := [0]) (bk := [1, 0, 2]) Try.func48 (⟨none, 0, none, 0, A_3, c_4⟩ : Option Addr × Nat × Option Addr × Nat × Option Addr × Nat) (by kernel_rfl) (And.intro rfl (And.intro rfl trivial)) (by kernel_rfl) (by kernel_rfl)
  · refine GoO.skip' c48_23e ?_
    refine GoO.seq' c48_24e ?_
    refine GoO.region' (is := [0, 1, 2, 3, 4, 5, 6, 7]) c48_25e (by kernel_rfl) ?_
    refine GoO.exec (is := [0, 1, 2, 3, 4, 5, 6, 7]) (hs := [.p, .p, .b 1, .p, .p, .p, .p, .b 0]) (rest := []) (ks := [0, 4, 6]) (env' := [(0, vP b_2), (4, vP b_9), (6, vP b_10)]) (H' := [⟨1, b_2, [vI c_1.Id, vU c_1.Session, vU c_1.Last, vU c_1.Calls, .bool c_1.Busy, vI c_1.Now.Kind, vU c_1.Now.Session, vU c_1.Now.Seq, vU c_1.Now.Saga, .slice A_3 c_1.Now.Steps.length c_4, vI c_1.Now.Step, .bool c_1.Now.Back, vI c_1.Now.Try, .bool c_1.Now.Ok, vU c_1.Now.Now, vI (wi64 ((wi64 x_5.Commit) - 1))]⟩, ⟨40, b_8, [vI x_5.Kind, vI x_5.From, vI x_5.To, vU x_5.Term, vU x_5.Index, vU x_5.Prev, vU x_5.Commit, .bool x_5.Ok, .slice A_6 x_5.Entries.length c_7, .string (bs x_5.Data)]⟩, ⟨41, b_9, [vI 0, vI 0, vU 0, vU 0, vU 0, .slice none ([] : List T_api_Step).length 0, vI 0, .bool false, vI 0, .bool false, vU 0, vI 0, vU 0, vU 0]⟩, ⟨42, b_10, [vI 0, vI 0, vI 0, vU 0, vU 0, vU 0, vU 0, .bool false, .slice none ([] : List T_api_Entry).length 0, .string (bs [])]⟩]) (ps := [b_8 = b_8, b_2 = b_2]) (by kernel_rfl) (And.intro rfl (And.intro rfl trivial)) ?_
    refine GoO.regionEnd ?_
    refine GoO.seq' c48_26e ?_
    refine GoO.region' (is := [0, 1, 2, 3, 4, 5, 6]) c48_27e (by kernel_rfl) ?_
    refine GoO.exec (is := [0, 1]) (hs := [.p, .p]) (rest := [2, 3, 4, 5, 6]) (ks := [4, 6, 87, 88]) (env' := [(4, vP b_9), (6, vP b_10), (87, .agg ⟨[vI 0, vI 0, vU 0, vU 0, vU 0, .slice none ([] : List T_api_Step).length 0, vI 0, .bool false, vI 0, .bool false, vU 0, vI 0, vU 0, vU 0]⟩), (88, vP b_2)]) (H' := [⟨1, b_2, [vI c_1.Id, vU c_1.Session, vU c_1.Last, vU c_1.Calls, .bool c_1.Busy, vI c_1.Now.Kind, vU c_1.Now.Session, vU c_1.Now.Seq, vU c_1.Now.Saga, .slice A_3 c_1.Now.Steps.length c_4, vI c_1.Now.Step, .bool c_1.Now.Back, vI c_1.Now.Try, .bool c_1.Now.Ok, vU c_1.Now.Now, vI (wi64 ((wi64 x_5.Commit) - 1))]⟩, ⟨40, b_8, [vI x_5.Kind, vI x_5.From, vI x_5.To, vU x_5.Term, vU x_5.Index, vU x_5.Prev, vU x_5.Commit, .bool x_5.Ok, .slice A_6 x_5.Entries.length c_7, .string (bs x_5.Data)]⟩, ⟨41, b_9, [vI 0, vI 0, vU 0, vU 0, vU 0, .slice none ([] : List T_api_Step).length 0, vI 0, .bool false, vI 0, .bool false, vU 0, vI 0, vU 0, vU 0]⟩, ⟨42, b_10, [vI 0, vI 0, vI 0, vU 0, vU 0, vU 0, vU 0, .bool false, .slice none ([] : List T_api_Entry).length 0, .string (bs [])]⟩]) (ps := []) (by kernel_rfl) trivial ?_
    refine OpTo.go (GoO.call rfl (by kernel_rfl) (by kernel_rfl) (tontineref21_Client_letter_ok n (⟨c_1.Id, c_1.Session, c_1.Last, c_1.Calls, c_1.Busy, (⟨c_1.Now.Kind, c_1.Now.Session, c_1.Now.Seq, c_1.Now.Saga, c_1.Now.Steps, c_1.Now.Step, c_1.Now.Back, c_1.Now.Try, c_1.Now.Ok, c_1.Now.Now⟩ : T_api_Command), wi64 ((wi64 x_5.Commit) - 1)⟩ : T_tontineref21_Client) b_2 A_3 c_4) [[0], [1]] [] [(1, 0)] [(0, 0)] (hks := [0, 1, 2, 3]) (bks := [0, 1]) (by kernel_rfl) (by kernel_rfl) (by kernel_rfl) (.inl rfl) rfl rfl (by kernel_rfl) (by kernel_rfl) _ (fun _ _ => rfl) _ _ (fun _ _ => rfl) (fun _ _ => rfl) (fun _ _ => by kernel_rfl) (fun _ _ => by kernel_rfl) (fun r_26 x_29 => ?_))
    obtain ⟨A_27, c_28⟩ := x_29
    refine GoO.shape (env' := [(4, vP b_9), (6, vP b_10), (87, .agg ⟨[vI 0, vI 0, vU 0, vU 0, vU 0, .slice none ([] : List T_api_Step).length 0, vI 0, .bool false, vI 0, .bool false, vU 0, vI 0, vU 0, vU 0]⟩), (88, vP b_2), (89, .agg ⟨[vI r_26.Kind, vI r_26.From, vI r_26.To, vU r_26.Term, vU r_26.Index, vU r_26.Prev, vU r_26.Commit, .bool r_26.Ok, .slice A_27 r_26.Entries.length c_28, .string (bs r_26.Data)]⟩)]) (H' := [⟨1, b_2, [vI c_1.Id, vU c_1.Session, vU c_1.Last, vU c_1.Calls, .bool c_1.Busy, vI c_1.Now.Kind, vU c_1.Now.Session, vU c_1.Now.Seq, vU c_1.Now.Saga, .slice A_3 c_1.Now.Steps.length c_4, vI c_1.Now.Step, .bool c_1.Now.Back, vI c_1.Now.Try, .bool c_1.Now.Ok, vU c_1.Now.Now, vI (wi64 ((wi64 x_5.Commit) - 1))]⟩, ⟨40, b_8, [vI x_5.Kind, vI x_5.From, vI x_5.To, vU x_5.Term, vU x_5.Index, vU x_5.Prev, vU x_5.Commit, .bool x_5.Ok, .slice A_6 x_5.Entries.length c_7, .string (bs x_5.Data)]⟩, ⟨41, b_9, [vI 0, vI 0, vU 0, vU 0, vU 0, .slice none ([] : List T_api_Step).length 0, vI 0, .bool false, vI 0, .bool false, vU 0, vI 0, vU 0, vU 0]⟩, ⟨42, b_10, [vI 0, vI 0, vI 0, vU 0, vU 0, vU 0, vU 0, .bool false, .slice none ([] : List T_api_Entry).length 0, .string (bs [])]⟩]) (B' := [Rd 0 kT_api_Entry A_27 c_28 r_26.Entries, Rd 0 kT_api_Step A_3 c_4 c_1.Now.Steps, Rd 0 kT_api_Entry A_6 c_7 x_5.Entries]) (ks := [4, 6, 87, 88, 89]) (by kernel_rfl) (by kernel_rfl) (by kernel_rfl) ?_
    refine GoO.exec (is := [3, 4, 5, 6]) (hs := [.b 2, .p, .b 3, .p]) (rest := []) (ks := [4, 5, 6, 7]) (env' := [(4, vP b_9), (5, .bool false), (6, vP b_10), (7, .bool true)]) (H' := [⟨1, b_2, [vI c_1.Id, vU c_1.Session, vU c_1.Last, vU c_1.Calls, .bool c_1.Busy, vI c_1.Now.Kind, vU c_1.Now.Session, vU c_1.Now.Seq, vU c_1.Now.Saga, .slice A_3 c_1.Now.Steps.length c_4, vI c_1.Now.Step, .bool c_1.Now.Back, vI c_1.Now.Try, .bool c_1.Now.Ok, vU c_1.Now.Now, vI (wi64 ((wi64 x_5.Commit) - 1))]⟩, ⟨40, b_8, [vI x_5.Kind, vI x_5.From, vI x_5.To, vU x_5.Term, vU x_5.Index, vU x_5.Prev, vU x_5.Commit, .bool x_5.Ok, .slice A_6 x_5.Entries.length c_7, .string (bs x_5.Data)]⟩, ⟨41, b_9, [vI 0, vI 0, vU 0, vU 0, vU 0, .slice none ([] : List T_api_Step).length 0, vI 0, .bool false, vI 0, .bool false, vU 0, vI 0, vU 0, vU 0]⟩, ⟨42, b_10, [vI r_26.Kind, vI r_26.From, vI r_26.To, vU r_26.Term, vU r_26.Index, vU r_26.Prev, vU r_26.Commit, .bool r_26.Ok, .slice A_27 r_26.Entries.length c_28, .string (bs r_26.Data)]⟩]) (ps := [b_9 = b_9, b_10 = b_10]) (by kernel_rfl) (And.intro rfl (And.intro rfl trivial)) ?_
    refine GoO.regionEnd ?_
    refine GoO.nilRd kT_api_Step ?_
    exact GoO.ret' (h := c48_28e) (hs := [2, 3]) (ps := [b_9 = b_9, b_10 = b_10]) (hk := [0]) (bk := [0, 1, 2]) Try.func48 (⟨none, 0, A_27, c_28, A_3, c_4⟩ : Option Addr × Nat × Option Addr × Nat × Option Addr × Nat) (by kernel_rfl) (And.intro rfl (And.intro rfl trivial)) (by kernel_rfl) (by kernel_rfl)
theorem tontineref21_Client_Hear_j3_ok (n : Nat) (c_1 : T_tontineref21_Client) (r_11 : T_api_Reply × Int) (b_2 : Nat) (A_3 : Option Addr) (c_4 : Nat) (b_9 : Nat) (b_10 : Nat) (b_12 : Nat) (A_6 : Option Addr) (c_7 : Nat) (w0 : World) (S0 : Fam) (f_33 : Int) (f_34 : Int) :
    GoO (tontineref21_Client_Hear.cx b_2 A_3 c_4 A_6 c_7 w0 S0) [(0, vP b_2), (4, vP b_9), (6, vP b_10), (8, vP b_12)] [⟨1, b_2, [vI c_1.Id, vU f_33, vU f_34, vU c_1.Calls, .bool false, vI c_1.Now.Kind, vU c_1.Now.Session, vU c_1.Now.Seq, vU c_1.Now.Saga, .slice A_3 c_1.Now.Steps.length c_4, vI c_1.Now.Step, .bool c_1.Now.Back, vI c_1.Now.Try, .bool c_1.Now.Ok, vU c_1.Now.Now, vI c_1.To]⟩, ⟨41, b_9, [vI 0, vI 0, vU 0, vU 0, vU 0, .slice none ([] : List T_api_Step).length 0, vI 0, .bool false, vI 0, .bool false, vU 0, vI 0, vU 0, vU 0]⟩, ⟨42, b_10, [vI 0, vI 0, vI 0, vU 0, vU 0, vU 0, vU 0, .bool false, .slice none ([] : List T_api_Entry).length 0, .string (bs [])]⟩, ⟨43, b_12, [vI r_11.1.Err, vU r_11.1.Num, vU r_11.1.Extra]⟩] [Rd 0 kT_api_Step A_3 c_4 c_1.Now.Steps] [.code c48_50] (tontineref21_Client_Hear.j3 n c_1 r_11 f_33 f_34) := by
  unfold tontineref21_Client_Hear.j3
  refine GoO.seq' c48_50e ?_
  refine GoO.draw c48_51e (by kernel_rfl) [13, 14] [⟨1, b_2, [vI c_1.Id, vU f_33, vU f_34, vU c_1.Calls, .bool false, vI c_1.Now.Kind, vU c_1.Now.Session, vU c_1.Now.Seq, vU c_1.Now.Saga, .slice A_3 c_1.Now.Steps.length c_4, vI c_1.Now.Step, .bool c_1.Now.Back, vI c_1.Now.Try, .bool c_1.Now.Ok, vU c_1.Now.Now, vI c_1.To]⟩, ⟨43, b_12, [vI r_11.1.Err, vU r_11.1.Num, vU r_11.1.Extra]⟩] [] (n := 15) (by kernel_rfl) ?_
  simp only [List.replicate]
  refine GoF.take [0, 1, 2, 3, 4, 5, 6, 7, 8, 9, 10] [.p, .p, .p, .b 0, .p, .p, .p, .b 0, .b 1, .p, .p] (ks := [4, 6, 135, 136]) (fu := 4) (li := [true, true, true, true, true, true, true, true, true, true, true, false, false, false, false]) (env' := [(4, vP b_9), (6, vP b_10), (135, .agg ⟨[vI c_1.Id, vI c_1.Now.Kind, vU c_1.Now.Session, vU c_1.Now.Seq, vU c_1.Now.Saga, .slice A_3 c_1.Now.Steps.length c_4, vI c_1.Now.Step, .bool c_1.Now.Back, vI c_1.Now.Try, .bool c_1.Now.Ok, vU c_1.Now.Now, vI r_11.1.Err, vU r_11.1.Num, vU r_11.1.Extra]⟩), (136, .agg ⟨[vI 0, vI 0, vI 0, vU 0, vU 0, vU 0, vU 0, .bool false, .slice none ([] : List T_api_Entry).length 0, .string (bs [])]⟩)]) (ps := [b_2 = b_2, b_2 = b_2, b_12 = b_12]) (hk := [0, 3]) (bk := []) (by kernel_rfl) (And.intro rfl (And.intro rfl (And.intro rfl trivial))) rfl rfl ?_
  refine GoF.fin1 (i := 11) (hint := .b 1) (ps := [b_9 = b_9]) (hk := [0, 3]) (bk := []) (by kernel_rfl) rfl (And.intro rfl trivial) (.inr ⟨rfl, rfl⟩) ?_
  refine GoF.take [12] [.p] (ks := [4, 5, 6, 136]) (fu := 2) (li := [true, true, true, true, true, true, true, true, true, true, true, true, true, false, false]) (env' := [(4, vP b_9), (5, .bool true), (6, vP b_10), (136, .agg ⟨[vI 0, vI 0, vI 0, vU 0, vU 0, vU 0, vU 0, .bool false, .slice none ([] : List T_api_Entry).length 0, .string (bs [])]⟩)]) (ps := []) (hk := [0, 3]) (bk := []) (by kernel_rfl) trivial rfl rfl ?_
  refine GoF.fin1 (i := 13) (hint := .b 2) (ps := [b_10 = b_10]) (hk := []) (bk := []) (by kernel_rfl) rfl (And.intro rfl trivial) (.inl rfl) ?_
  refine GoF.fin1 (i := 14) (hint := .p) (ps := []) (hk := []) (bk := []) (by kernel_rfl) rfl trivial (.inl rfl) ?_
  refine GoF.done (by kernel_rfl) ?_
  refine GoO.nilRd kT_api_Entry ?_
  exact GoO.ret' (h := c48_52e) (hs := [1, 2]) (ps := [b_9 = b_9, b_10 = b_10]) (hk := [0]) (bk := [1, 0, 1]) Try.func48 (⟨A_3, c_4, none, 0, A_3, c_4⟩ : Option Addr × Nat × Option Addr × Nat × Option Addr × Nat) (by kernel_rfl) (And.intro rfl (And.intro rfl trivial)) (by kernel_rfl) (by kernel_rfl)
end Go.GL
