import Derived.Test.YtolipnnfdclkoaaWalkRlogNoneP1
import Derived.Test.YtolipnnfdclkoaaKindsT1
import Derived.Test.YtolipnnfdclkoaaProg
set_option linter.unusedVariables false
set_option linter.unusedSimpArgs false
set_option maxRecDepth 100000
namespace Go.GL
open Go Go.Proofs
theorem rlog_Log_Get_n0_ok (n : Nat) (i_1 : Int) (n_2 : Int) :
    Meets Try.prog 17 [.pointer none, .int .u64 i_1, .int .i64 n_2] 0 [] [] [] (rlog_Log_Get_n0.f n i_1 n_2) (rlog_Log_Get_n0.R) := by
  refine Meets.of (c := c17n0_0) (n := 39) Try.func17 (by kernel_rfl) (by kernel_rfl) (by kernel_rfl) fun w0 S0 => ?_
  unfold rlog_Log_Get_n0.f
  show GoO (rlog_Log_Get_n0.cx w0 S0) [(0, .pointer none), (1, .int .u64 i_1), (2, .int .i64 n_2)] [] [] [.code c17n0_0] _
  refine GoO.seq' c17n0_0e ?_
  refine GoO.region' (is := [0]) c17n0_1e (by kernel_rfl) ?_
  refine GoO.exec (is := [0]) (hs := [.p]) (rest := []) (ks := [0, 1, 2]) (env' := [(0, .pointer none), (1, .int .u64 i_1), (2, .int .i64 n_2)]) (H' := []) (ps := []) (by kernel_rfl) trivial ?_
  refine GoO.regionEnd ?_
  refine GoO.seq' c17n0_2e ?_
  refine GoO.region' (is := [0, 1, 2, 3]) c17n0_3e (by kernel_rfl) ?_
  refine GoO.exec (is := [0, 1]) (hs := [.p, .p]) (rest := [2, 3]) (ks := [0, 2, 8, 9]) (env' := [(0, .pointer none), (2, .int .i64 n_2), (8, .pointer none), (9, .int .u64 i_1)]) (H' := []) (ps := []) (by kernel_rfl) trivial ?_
  refine OpTo.go (GoO.call rfl (by kernel_rfl) (by kernel_rfl) (rlog_Log_at_n0_ok n i_1) [[0]] [] [] [] (hks := []) (bks := []) (by kernel_rfl) (by kernel_rfl) (by kernel_rfl) (.inl rfl) rfl rfl (by kernel_rfl) (by kernel_rfl) _ (fun _ _ => rfl) _ _ (fun _ _ => rfl) (fun _ _ => rfl) (fun _ _ => by kernel_rfl) (fun _ _ => by kernel_rfl) (fun r_3 x_7 => ?_))
  refine GoO.shape (env' := [(0, .pointer none), (2, .int .i64 n_2), (8, .pointer none), (9, .int .u64 i_1), (10, .int .i64 r_3)]) (H' := []) (B' := []) (ks := [0, 2, 8, 9, 10]) (by kernel_rfl) (by kernel_rfl) (by kernel_rfl) ?_
  refine GoO.exec (is := [3]) (hs := [.p]) (rest := []) (ks := [0, 2, 7]) (env' := [(0, .pointer none), (2, .int .i64 n_2), (7, .int .i64 r_3)]) (H' := []) (ps := []) (by kernel_rfl) trivial ?_
  refine GoO.regionEnd ?_
  refine GoO.seq' c17n0_4e ?_
  refine GoO.seq' c17n0_5e ?_
  refine GoO.region' (is := [0, 1, 2, 3, 4, 5]) c17n0_6e (by kernel_rfl) ?_
  refine GoO.exec (is := [0, 1, 2]) (hs := [.p, .p, .p]) (rest := [3, 4, 5]) (ks := [0, 2, 7, 13]) (env' := [(0, .pointer none), (2, .int .i64 n_2), (7, .int .i64 r_3), (13, .bool (decide (r_3 < 0)))]) (H' := []) (ps := []) (by kernel_rfl) trivial ?_
  refine GoO.bsplit (t := 13) (by kernel_rfl) (fun h4 => ?_) (fun h4 => ?_)
  · refine GoO.exec (is := [3, 4, 5]) (hs := [.p, .p, .p]) (rest := []) (ks := [0, 2, 7, 16]) (env' := [(0, .pointer none), (2, .int .i64 n_2), (7, .int .i64 r_3), (16, .bool true)]) (H' := []) (ps := []) (by kernel_rfl) trivial ?_
    refine GoO.regionEnd ?_
    exact GoO.sub (ks := [0, 2, 7, 16]) (hk := []) (bk := []) (by kernel_rfl) (by kernel_rfl) (by kernel_rfl) (rlog_Log_Get_n0_j0_ok n n_2 r_3 w0 S0 true)
  · refine GoO.exec (is := [3, 4, 5]) (hs := [.p, .p, .p]) (rest := []) (ks := [0, 2, 7, 16]) (env' := [(0, .pointer none), (2, .int .i64 n_2), (7, .int .i64 r_3), (16, .bool (decide (n_2 ≤ 0)))]) (H' := []) (ps := []) (by kernel_rfl) trivial ?_
    refine GoO.regionEnd ?_
    exact GoO.sub (ks := [0, 2, 7, 16]) (hk := []) (bk := []) (by kernel_rfl) (by kernel_rfl) (by kernel_rfl) (rlog_Log_Get_n0_j0_ok n n_2 r_3 w0 S0 (decide (n_2 ≤ 0)))

/-! (*tontine/rlog.Log).First -/
noncomputable def c26n0_0 : Code := bodyOf Try.f26
noncomputable def c26n0_1 : Code := cdL c26n0_0
noncomputable def c26n0_2 : Code := cdR c26n0_0
noncomputable def c26n0_3 : Code := cdL c26n0_2
noncomputable def c26n0_4 : Code := cdL c26n0_3
noncomputable def c26n0_5 : Code := cdR c26n0_3
noncomputable def c26n0_6 : Code := cdL c26n0_5
noncomputable def c26n0_7 : Code := cdL c26n0_6
noncomputable def c26n0_8 : Code := cdR c26n0_6
noncomputable def c26n0_10 : Code := cdR c26n0_2
noncomputable def c26n0_9 : Code := cdR c26n0_5
noncomputable def r26n0_1 : Array Oper := cdO c26n0_1
noncomputable def r26n0_4 : Array Oper := cdO c26n0_4
noncomputable def r26n0_7 : Array Oper := cdO c26n0_7
theorem c26n0_0e : c26n0_0 = .seq c26n0_1 c26n0_2 := by kernel_rfl
theorem c26n0_1e : c26n0_1 = .region 0 r26n0_1 false := by kernel_rfl
theorem c26n0_2e : c26n0_2 = .seq c26n0_3 c26n0_10 := by kernel_rfl
theorem c26n0_3e : c26n0_3 = .seq c26n0_4 c26n0_5 := by kernel_rfl
theorem c26n0_4e : c26n0_4 = .region 1 r26n0_4 false := by kernel_rfl
theorem c26n0_5e : c26n0_5 = .cond (cdC c26n0_5) c26n0_6 c26n0_9 := by kernel_rfl
theorem c26n0_6e : c26n0_6 = .seq c26n0_7 c26n0_8 := by kernel_rfl
theorem c26n0_7e : c26n0_7 = .region 2 r26n0_7 false := by kernel_rfl
theorem c26n0_8e : c26n0_8 = .ret := by kernel_rfl
theorem c26n0_9e : c26n0_9 = .skip := by kernel_rfl
noncomputable def rlog_Log_First_n0.R : Pst T_api_Snapshot where
  ε := Unit
  v := fun r x => .agg ⟨[.int .u64 r.Index, .int .u64 r.Term, .int .u64 r.Config, .string (bs r.Data)]⟩
  H := fun r x => []
  B := fun r x => []
noncomputable def rlog_Log_First_n0.cx (w0 : World) (S0 : Fam) : Cx T_api_Snapshot := ⟨Try.prog, 26, Try.f26, 10, w0, S0, [], 0, rlog_Log_First_n0.R⟩
theorem rlog_Log_First_n0_ok (n : Nat) :
    Meets Try.prog 26 [.pointer none] 0 [] [] [] (rlog_Log_First_n0.f n) (rlog_Log_First_n0.R) := by
  refine Meets.of (c := c26n0_0) (n := 10) Try.func26 (by kernel_rfl) (by kernel_rfl) (by kernel_rfl) fun w0 S0 => ?_
  unfold rlog_Log_First_n0.f
  show GoO (rlog_Log_First_n0.cx w0 S0) [(0, .pointer none)] [] [] [.code c26n0_0] _
  refine GoO.seq' c26n0_0e ?_
  refine GoO.region' (is := [0]) c26n0_1e (by kernel_rfl) ?_
  refine OpTo.go (GoO.new rfl 40 (cs := [.int .u64 0, .int .u64 0, .int .u64 0, .string (bs [])]) (by kernel_rfl) _ (fun _ => rfl) (fun b_1 => ?_))
  refine GoO.regionEnd ?_
  refine GoO.seq' c26n0_2e ?_
  refine GoO.seq' c26n0_3e ?_
  refine GoO.region' (is := [0, 1]) c26n0_4e (by kernel_rfl) ?_
  refine GoO.exec (is := [0, 1]) (hs := [.p, .p]) (rest := []) (ks := [0, 2, 4]) (env' := [(0, .pointer none), (2, .pointer (some ⟨b_1, 0, none⟩)), (4, .bool true)]) (H' := [⟨40, b_1, [.int .u64 0, .int .u64 0, .int .u64 0, .string (bs [])]⟩]) (ps := []) (by kernel_rfl) trivial ?_
  refine GoO.regionEnd ?_
  refine GoO.condT c26n0_5e (by kernel_rfl) ?_
  refine GoO.seq' c26n0_6e ?_
  refine GoO.region' (is := [0, 1]) c26n0_7e (by kernel_rfl) ?_
  refine GoO.exec (is := [0, 1]) (hs := [.p, .b 0]) (rest := []) (ks := [2]) (env' := [(2, .pointer (some ⟨b_1, 0, none⟩))]) (H' := [⟨40, b_1, [.int .u64 0, .int .u64 0, .int .u64 0, .string (bs [])]⟩]) (ps := [b_1 = b_1]) (by kernel_rfl) (And.intro rfl trivial) ?_
  refine GoO.regionEnd ?_
  exact GoO.ret' (h := c26n0_8e) (hs := [0]) (ps := [b_1 = b_1]) (hk := []) (bk := []) Try.func26 () (by kernel_rfl) (And.intro rfl trivial) (by kernel_rfl) (by kernel_rfl)

/-! (*tontine/rlog.Log).Compact -/
noncomputable def c25n0_0 : Code := bodyOf Try.f25
noncomputable def c25n0_1 : Code := cdL c25n0_0
noncomputable def c25n0_2 : Code := cdR c25n0_0
noncomputable def c25n0_3 : Code := cdL c25n0_2
noncomputable def c25n0_4 : Code := cdR c25n0_2
noncomputable def c25n0_5 : Code := cdL c25n0_4
noncomputable def c25n0_6 : Code := cdL c25n0_5
noncomputable def c25n0_7 : Code := cdR c25n0_5
noncomputable def c25n0_8 : Code := cdL c25n0_7
noncomputable def c25n0_9 : Code := cdL c25n0_8
noncomputable def c25n0_10 : Code := cdR c25n0_8
noncomputable def c25n0_11 : Code := cdR c25n0_7
noncomputable def c25n0_12 : Code := cdR c25n0_4
noncomputable def c25n0_13 : Code := cdL c25n0_12
noncomputable def c25n0_14 : Code := cdR c25n0_12
noncomputable def c25n0_15 : Code := cdL c25n0_14
noncomputable def c25n0_16 : Code := cdR c25n0_14
noncomputable def r25n0_1 : Array Oper := cdO c25n0_1
noncomputable def r25n0_3 : Array Oper := cdO c25n0_3
noncomputable def r25n0_6 : Array Oper := cdO c25n0_6
noncomputable def r25n0_9 : Array Oper := cdO c25n0_9
noncomputable def r25n0_13 : Array Oper := cdO c25n0_13
noncomputable def r25n0_15 : Array Oper := cdO c25n0_15
theorem c25n0_0e : c25n0_0 = .seq c25n0_1 c25n0_2 := by kernel_rfl
theorem c25n0_1e : c25n0_1 = .region 0 r25n0_1 false := by kernel_rfl
theorem c25n0_2e : c25n0_2 = .seq c25n0_3 c25n0_4 := by kernel_rfl
theorem c25n0_3e : c25n0_3 = .region 1 r25n0_3 false := by kernel_rfl
theorem c25n0_4e : c25n0_4 = .seq c25n0_5 c25n0_12 := by kernel_rfl
theorem c25n0_5e : c25n0_5 = .seq c25n0_6 c25n0_7 := by kernel_rfl
theorem c25n0_6e : c25n0_6 = .region 2 r25n0_6 false := by kernel_rfl
theorem c25n0_7e : c25n0_7 = .cond (cdC c25n0_7) c25n0_8 c25n0_11 := by kernel_rfl
theorem c25n0_8e : c25n0_8 = .seq c25n0_9 c25n0_10 := by kernel_rfl
theorem c25n0_9e : c25n0_9 = .region 3 r25n0_9 false := by kernel_rfl
theorem c25n0_10e : c25n0_10 = .ret := by kernel_rfl
theorem c25n0_11e : c25n0_11 = .skip := by kernel_rfl
theorem c25n0_12e : c25n0_12 = .seq c25n0_13 c25n0_14 := by kernel_rfl
theorem c25n0_13e : c25n0_13 = .region 4 r25n0_13 false := by kernel_rfl
theorem c25n0_14e : c25n0_14 = .seq c25n0_15 c25n0_16 := by kernel_rfl
theorem c25n0_15e : c25n0_15 = .region 5 r25n0_15 false := by kernel_rfl
noncomputable def rlog_Log_Compact_n0.R : Pst Int where
  ε := Unit
  v := fun r x => .int .i64 r
  H := fun r x => []
  B := fun r x => []
noncomputable def rlog_Log_Compact_n0.cx (w0 : World) (S0 : Fam) : Cx Int := ⟨Try.prog, 25, Try.f25, 49, w0, S0, [], 0, rlog_Log_Compact_n0.R⟩
theorem rlog_Log_Compact_n0_ok (n : Nat) (i_1 : Int) (data_2 : (List UInt8)) :
    Meets Try.prog 25 [.pointer none, .int .u64 i_1, .string (bs data_2)] 0 [] [] [] (rlog_Log_Compact_n0.f n i_1 data_2) (rlog_Log_Compact_n0.R) := by
  refine Meets.of (c := c25n0_0) (n := 49) Try.func25 (by kernel_rfl) (by kernel_rfl) (by kernel_rfl) fun w0 S0 => ?_
  unfold rlog_Log_Compact_n0.f
  show GoO (rlog_Log_Compact_n0.cx w0 S0) [(0, .pointer none), (1, .int .u64 i_1), (2, .string (bs data_2))] [] [] [.code c25n0_0] _
  refine GoO.seq' c25n0_0e ?_
  refine GoO.region' (is := [0]) c25n0_1e (by kernel_rfl) ?_
  refine GoO.exec (is := [0]) (hs := [.p]) (rest := []) (ks := [0, 1, 2]) (env' := [(0, .pointer none), (1, .int .u64 i_1), (2, .string (bs data_2))]) (H' := []) (ps := []) (by kernel_rfl) trivial ?_
  refine GoO.regionEnd ?_
  refine GoO.seq' c25n0_2e ?_
  refine GoO.region' (is := [0, 1, 2, 3]) c25n0_3e (by kernel_rfl) ?_
  refine GoO.exec (is := [0, 1]) (hs := [.p, .p]) (rest := [2, 3]) (ks := [0, 1, 2, 11, 12]) (env' := [(0, .pointer none), (1, .int .u64 i_1), (2, .string (bs data_2)), (11, .pointer none), (12, .int .u64 i_1)]) (H' := []) (ps := []) (by kernel_rfl) trivial ?_
  refine OpTo.go (GoO.call rfl (by kernel_rfl) (by kernel_rfl) (rlog_Log_at_n0_ok n i_1) [[0]] [] [] [] (hks := []) (bks := []) (by kernel_rfl) (by kernel_rfl) (by kernel_rfl) (.inl rfl) rfl rfl (by kernel_rfl) (by kernel_rfl) _ (fun _ _ => rfl) _ _ (fun _ _ => rfl) (fun _ _ => rfl) (fun _ _ => by kernel_rfl) (fun _ _ => by kernel_rfl) (fun r_3 x_7 => ?_))
  refine GoO.shape (env' := [(0, .pointer none), (1, .int .u64 i_1), (2, .string (bs data_2)), (11, .pointer none), (12, .int .u64 i_1), (13, .int .i64 r_3)]) (H' := []) (B' := []) (ks := [0, 1, 2, 11, 12, 13]) (by kernel_rfl) (by kernel_rfl) (by kernel_rfl) ?_
  refine GoO.exec (is := [3]) (hs := [.p]) (rest := []) (ks := [0, 1, 2, 7]) (env' := [(0, .pointer none), (1, .int .u64 i_1), (2, .string (bs data_2)), (7, .int .i64 r_3)]) (H' := []) (ps := []) (by kernel_rfl) trivial ?_
  refine GoO.regionEnd ?_
  refine GoO.seq' c25n0_4e ?_
  refine GoO.seq' c25n0_5e ?_
  refine GoO.region' (is := [0, 1]) c25n0_6e (by kernel_rfl) ?_
  refine GoO.exec (is := [0, 1]) (hs := [.p, .p]) (rest := []) (ks := [0, 1, 2, 7, 15]) (env' := [(0, .pointer none), (1, .int .u64 i_1), (2, .string (bs data_2)), (7, .int .i64 r_3), (15, .bool (decide (r_3 < 0)))]) (H' := []) (ps := []) (by kernel_rfl) trivial ?_
  refine GoO.regionEnd ?_
  refine GoO.ite' c25n0_7e (by kernel_rfl) (fun h4 => ?_) (fun h4 => ?_)
  · refine GoO.seq' c25n0_8e ?_
    refine GoO.region' (is := [0]) c25n0_9e (by kernel_rfl) ?_
    refine GoO.exec (is := [0]) (hs := [.p]) (rest := []) (ks := [6]) (env' := [(6, .int .i64 20)]) (H' := []) (ps := []) (by kernel_rfl) trivial ?_
    refine GoO.regionEnd ?_
    exact GoO.ret' (h := c25n0_10e) (hs := []) (ps := []) (hk := []) (bk := []) Try.func25 () (by kernel_rfl) trivial (by kernel_rfl) (by kernel_rfl)
  · refine GoO.skip' c25n0_11e ?_
    refine GoO.seq' c25n0_12e ?_
    refine GoO.region' (is := [0, 1, 2, 3, 4, 5, 6, 7]) c25n0_13e (by kernel_rfl) ?_
    refine GoO.exec (is := [0, 1]) (hs := [.p, .p]) (rest := [2, 3, 4, 5, 6, 7]) (ks := [0, 1, 2, 7, 17, 18]) (env' := [(0, .pointer none), (1, .int .u64 i_1), (2, .string (bs data_2)), (7, .int .i64 r_3), (17, .pointer none), (18, .int .u64 i_1)]) (H' := []) (ps := []) (by kernel_rfl) trivial ?_
    refine OpTo.go (GoO.call rfl (by kernel_rfl) (by kernel_rfl) (rlog_Log_MembersAt_n0_ok n i_1) [[0]] [] [] [] (hks := []) (bks := []) (by kernel_rfl) (by kernel_rfl) (by kernel_rfl) (.inl rfl) rfl rfl (by kernel_rfl) (by kernel_rfl) _ (fun _ _ => rfl) _ _ (fun _ _ => rfl) (fun _ _ => rfl) (fun _ _ => by kernel_rfl) (fun _ _ => by kernel_rfl) (fun r_5 x_6 => ?_))
    refine GoO.shape (env' := [(0, .pointer none), (1, .int .u64 i_1), (2, .string (bs data_2)), (7, .int .i64 r_3), (17, .pointer none), (18, .int .u64 i_1), (19, .tuple ⟨[.int .u64 r_5.1, .int .u64 r_5.2]⟩)]) (H' := []) (B' := []) (ks := [0, 1, 2, 7, 17, 18, 19]) (by kernel_rfl) (by kernel_rfl) (by kernel_rfl) ?_
    refine GoO.exec (is := [3, 4, 5, 6, 7]) (hs := [.p, .p, .p, .p, .p]) (rest := []) (ks := [0, 1, 2, 7, 8]) (env' := [(0, .pointer none), (1, .int .u64 i_1), (2, .string (bs data_2)), (7, .int .i64 r_3), (8, .int .u64 r_5.1)]) (H' := []) (ps := []) (by kernel_rfl) trivial ?_
    refine GoO.regionEnd ?_
    refine GoO.seq' c25n0_14e ?_
    refine GoO.region' (is := [0, 1, 2, 3, 4, 5, 6, 7, 8, 9, 10, 11, 12, 13]) c25n0_15e (by kernel_rfl) ?_
    refine GoO.exec (is := [0, 1]) (hs := [.p, .p]) (rest := [2, 3, 4, 5, 6, 7, 8, 9, 10, 11, 12, 13]) (ks := [0, 2, 7, 8, 22, 23]) (env' := [(0, .pointer none), (2, .string (bs data_2)), (7, .int .i64 r_3), (8, .int .u64 r_5.1), (22, .int .u64 i_1), (23, .pointer none)]) (H' := []) (ps := []) (by kernel_rfl) trivial ?_
    exact GoO.stop

/-! (*tontine/rlog.Log).Install -/
noncomputable def c41n0_0 : Code := bodyOf Try.f41
noncomputable def c41n0_1 : Code := cdL c41n0_0
noncomputable def c41n0_2 : Code := cdR c41n0_0
noncomputable def c41n0_3 : Code := cdL c41n0_2
noncomputable def c41n0_4 : Code := cdL c41n0_3
noncomputable def c41n0_5 : Code := cdR c41n0_3
noncomputable def c41n0_6 : Code := cdL c41n0_5
noncomputable def c41n0_7 : Code := cdL c41n0_6
noncomputable def c41n0_8 : Code := cdR c41n0_6
noncomputable def c41n0_10 : Code := cdR c41n0_2
noncomputable def c41n0_9 : Code := cdR c41n0_5
noncomputable def r41n0_1 : Array Oper := cdO c41n0_1
noncomputable def r41n0_4 : Array Oper := cdO c41n0_4
noncomputable def r41n0_7 : Array Oper := cdO c41n0_7
theorem c41n0_0e : c41n0_0 = .seq c41n0_1 c41n0_2 := by kernel_rfl
theorem c41n0_1e : c41n0_1 = .region 0 r41n0_1 false := by kernel_rfl
theorem c41n0_2e : c41n0_2 = .seq c41n0_3 c41n0_10 := by kernel_rfl
theorem c41n0_3e : c41n0_3 = .seq c41n0_4 c41n0_5 := by kernel_rfl
theorem c41n0_4e : c41n0_4 = .region 1 r41n0_4 false := by kernel_rfl
theorem c41n0_5e : c41n0_5 = .cond (cdC c41n0_5) c41n0_6 c41n0_9 := by kernel_rfl
theorem c41n0_6e : c41n0_6 = .seq c41n0_7 c41n0_8 := by kernel_rfl
theorem c41n0_7e : c41n0_7 = .region 2 r41n0_7 false := by kernel_rfl
theorem c41n0_8e : c41n0_8 = .ret := by kernel_rfl
theorem c41n0_9e : c41n0_9 = .skip := by kernel_rfl
noncomputable def rlog_Log_Install_n0.R : Pst Int where
  ε := Unit
  v := fun r x => .int .i64 r
  H := fun r x => []
  B := fun r x => []
noncomputable def rlog_Log_Install_n0.cx (w0 : World) (S0 : Fam) : Cx Int := ⟨Try.prog, 41, Try.f41, 59, w0, S0, [], 0, rlog_Log_Install_n0.R⟩
theorem rlog_Log_Install_n0_ok (n : Nat) (s_1 : T_api_Snapshot) :
    Meets Try.prog 41 [.pointer none, .agg ⟨[.int .u64 s_1.Index, .int .u64 s_1.Term, .int .u64 s_1.Config, .string (bs s_1.Data)]⟩] 0 [] [] [] (rlog_Log_Install_n0.f n s_1) (rlog_Log_Install_n0.R) := by
  refine Meets.of (c := c41n0_0) (n := 59) Try.func41 (by kernel_rfl) (by kernel_rfl) (by kernel_rfl) fun w0 S0 => ?_
  unfold rlog_Log_Install_n0.f
  show GoO (rlog_Log_Install_n0.cx w0 S0) [(0, .pointer none), (1, .agg ⟨[.int .u64 s_1.Index, .int .u64 s_1.Term, .int .u64 s_1.Config, .string (bs s_1.Data)]⟩)] [] [] [.code c41n0_0] _
  refine GoO.seq' c41n0_0e ?_
  refine GoO.region' (is := [0, 1]) c41n0_1e (by kernel_rfl) ?_
  refine OpTo.go (GoO.new rfl 40 (cs := [.int .u64 s_1.Index, .int .u64 s_1.Term, .int .u64 s_1.Config, .string (bs s_1.Data)]) (by kernel_rfl) _ (fun _ => rfl) (fun b_2 => ?_))
  refine GoO.exec (is := [1]) (hs := [.p]) (rest := []) (ks := [0, 3]) (env' := [(0, .pointer none), (3, .pointer (some ⟨b_2, 0, none⟩))]) (H' := [⟨40, b_2, [.int .u64 s_1.Index, .int .u64 s_1.Term, .int .u64 s_1.Config, .string (bs s_1.Data)]⟩]) (ps := []) (by kernel_rfl) trivial ?_
  refine GoO.regionEnd ?_
  refine GoO.seq' c41n0_2e ?_
  refine GoO.seq' c41n0_3e ?_
  refine GoO.region' (is := [0, 1, 2, 3, 4, 5, 6, 7]) c41n0_4e (by kernel_rfl) ?_
  refine GoO.exec (is := [0, 1, 2, 3, 4, 5, 6, 7]) (hs := [.p, .p, .p, .p, .p, .p, .p, .p]) (rest := []) (ks := [0, 3, 15]) (env' := [(0, .pointer none), (3, .pointer (some ⟨b_2, 0, none⟩)), (15, .bool true)]) (H' := [⟨40, b_2, [.int .u64 s_1.Index, .int .u64 s_1.Term, .int .u64 s_1.Config, .string (bs s_1.Data)]⟩]) (ps := []) (by kernel_rfl) trivial ?_
  refine GoO.regionEnd ?_
  refine GoO.condT c41n0_5e (by kernel_rfl) ?_
  refine GoO.seq' c41n0_6e ?_
  refine GoO.region' (is := [0]) c41n0_7e (by kernel_rfl) ?_
  refine GoO.exec (is := [0]) (hs := [.p]) (rest := []) (ks := [4]) (env' := [(4, .int .i64 1)]) (H' := [⟨40, b_2, [.int .u64 s_1.Index, .int .u64 s_1.Term, .int .u64 s_1.Config, .string (bs s_1.Data)]⟩]) (ps := []) (by kernel_rfl) trivial ?_
  refine GoO.regionEnd ?_
  exact GoO.ret' (h := c41n0_8e) (hs := []) (ps := []) (hk := []) (bk := []) Try.func41 () (by kernel_rfl) trivial (by kernel_rfl) (by kernel_rfl)

/-! (*tontine/pack.Writer).Num -/
noncomputable def c75_0 : Code := bodyOf Try.f75
noncomputable def c75_1 : Code := cdL c75_0
noncomputable def c75_2 : Code := cdR c75_0
noncomputable def c75_3 : Code := cdL c75_2
noncomputable def c75_4 : Code := cdL c75_3
noncomputable def c75_5 : Code := cdR c75_3
noncomputable def c75_9 : Code := cdR c75_5
noncomputable def c75_10 : Code := cdR c75_2
noncomputable def c75_11 : Code := cdL c75_10
noncomputable def c75_12 : Code := cdR c75_10
noncomputable def c75_13 : Code := cdL c75_12
noncomputable def c75_14 : Code := cdL c75_13
noncomputable def c75_15 : Code := cdR c75_13
noncomputable def c75_16 : Code := cdL c75_15
noncomputable def c75_17 : Code := cdL c75_16
noncomputable def c75_18 : Code := cdL c75_17
noncomputable def c75_19 : Code := cdL c75_18
noncomputable def c75_20 : Code := cdR c75_18
noncomputable def c75_21 : Code := cdL c75_20
noncomputable def c75_22 : Code := cdR c75_20
noncomputable def c75_23 : Code := cdR c75_17
noncomputable def c75_24 : Code := cdL c75_23
noncomputable def c75_25 : Code := cdL c75_24
noncomputable def c75_26 : Code := cdR c75_23
noncomputable def c75_27 : Code := cdR c75_12
noncomputable def c75_28 : Code := cdL c75_27
noncomputable def c75_29 : Code := cdR c75_27
noncomputable def c75_30 : Code := cdL c75_29
noncomputable def c75_31 : Code := cdL c75_30
noncomputable def c75_32 : Code := cdR c75_30
noncomputable def c75_33 : Code := cdL c75_32
noncomputable def c75_34 : Code := cdL c75_33
noncomputable def c75_35 : Code := cdL c75_34
noncomputable def c75_36 : Code := cdL c75_35
noncomputable def c75_37 : Code := cdR c75_35
noncomputable def c75_38 : Code := cdL c75_37
noncomputable def c75_39 : Code := cdR c75_37
noncomputable def c75_40 : Code := cdR c75_34
noncomputable def c75_41 : Code := cdL c75_40
noncomputable def c75_42 : Code := cdL c75_41
noncomputable def c75_43 : Code := cdR c75_40
noncomputable def c75_44 : Code := cdR c75_29
noncomputable def c75_45 : Code := cdL c75_44
noncomputable def c75_46 : Code := cdR c75_44
noncomputable def c75_6 : Code := cdL c75_5
noncomputable def r75_1 : Array Oper := cdO c75_1
noncomputable def r75_4 : Array Oper := cdO c75_4
noncomputable def r75_11 : Array Oper := cdO c75_11
noncomputable def r75_14 : Array Oper := cdO c75_14
noncomputable def r75_19 : Array Oper := cdO c75_19
noncomputable def r75_25 : Array Oper := cdO c75_25
noncomputable def r75_26 : Array Oper := cdO c75_26
noncomputable def r75_28 : Array Oper := cdO c75_28
noncomputable def r75_31 : Array Oper := cdO c75_31
noncomputable def r75_36 : Array Oper := cdO c75_36
noncomputable def r75_42 : Array Oper := cdO c75_42
noncomputable def r75_43 : Array Oper := cdO c75_43
noncomputable def r75_45 : Array Oper := cdO c75_45
theorem c75_0e : c75_0 = .seq c75_1 c75_2 := by kernel_rfl
theorem c75_1e : c75_1 = .region 0 r75_1 false := by kernel_rfl
theorem c75_2e : c75_2 = .seq c75_3 c75_10 := by kernel_rfl
theorem c75_3e : c75_3 = .seq c75_4 c75_5 := by kernel_rfl
theorem c75_4e : c75_4 = .region 1 r75_4 false := by kernel_rfl
theorem c75_5e : c75_5 = .cond (cdC c75_5) c75_6 c75_9 := by kernel_rfl
theorem c75_9e : c75_9 = .skip := by kernel_rfl
theorem c75_10e : c75_10 = .seq c75_11 c75_12 := by kernel_rfl
theorem c75_11e : c75_11 = .region 3 r75_11 false := by kernel_rfl
theorem c75_12e : c75_12 = .seq c75_13 c75_27 := by kernel_rfl
theorem c75_13e : c75_13 = .seq c75_14 c75_15 := by kernel_rfl
theorem c75_14e : c75_14 = .region 4 r75_14 false := by kernel_rfl
theorem c75_15e : c75_15 = .block 0 c75_16 := by kernel_rfl
theorem c75_16e : c75_16 = .loop c75_17 := by kernel_rfl
theorem c75_17e : c75_17 = .seq c75_18 c75_23 := by kernel_rfl
theorem c75_18e : c75_18 = .seq c75_19 c75_20 := by kernel_rfl
theorem c75_19e : c75_19 = .region 5 r75_19 false := by kernel_rfl
theorem c75_20e : c75_20 = .cond (cdC c75_20) c75_21 c75_22 := by kernel_rfl
theorem c75_21e : c75_21 = .skip := by kernel_rfl
theorem c75_22e : c75_22 = .exit 0 := by kernel_rfl
theorem c75_23e : c75_23 = .seq c75_24 c75_26 := by kernel_rfl
theorem c75_24e : c75_24 = .block 1 c75_25 := by kernel_rfl
theorem c75_25e : c75_25 = .region 7 r75_25 false := by kernel_rfl
theorem c75_26e : c75_26 = .region 6 r75_26 false := by kernel_rfl
theorem c75_27e : c75_27 = .seq c75_28 c75_29 := by kernel_rfl
theorem c75_28e : c75_28 = .region 8 r75_28 false := by kernel_rfl
theorem c75_29e : c75_29 = .seq c75_30 c75_44 := by kernel_rfl
theorem c75_30e : c75_30 = .seq c75_31 c75_32 := by kernel_rfl
theorem c75_31e : c75_31 = .region 9 r75_31 false := by kernel_rfl
theorem c75_32e : c75_32 = .block 2 c75_33 := by kernel_rfl
theorem c75_33e : c75_33 = .loop c75_34 := by kernel_rfl
theorem c75_34e : c75_34 = .seq c75_35 c75_40 := by kernel_rfl
theorem c75_35e : c75_35 = .seq c75_36 c75_37 := by kernel_rfl
theorem c75_36e : c75_36 = .region 10 r75_36 false := by kernel_rfl
theorem c75_37e : c75_37 = .cond (cdC c75_37) c75_38 c75_39 := by kernel_rfl
theorem c75_38e : c75_38 = .skip := by kernel_rfl
theorem c75_39e : c75_39 = .exit 2 := by kernel_rfl
theorem c75_40e : c75_40 = .seq c75_41 c75_43 := by kernel_rfl
theorem c75_41e : c75_41 = .block 3 c75_42 := by kernel_rfl
theorem c75_42e : c75_42 = .region 12 r75_42 true := by kernel_rfl
theorem c75_43e : c75_43 = .region 11 r75_43 false := by kernel_rfl
theorem c75_44e : c75_44 = .seq c75_45 c75_46 := by kernel_rfl
theorem c75_45e : c75_45 = .region 13 r75_45 false := by kernel_rfl
theorem c75_46e : c75_46 = .ret := by kernel_rfl
noncomputable def pack_Writer_Num.R (b_2 : Nat) (A_3 : Option Addr) (c_4 : Nat) : Pst T_pack_Writer where
  ε := Option Addr × Nat
  v := fun r x => .pointer (some ⟨b_2, 0, none⟩)
  H := fun r x => [⟨1, b_2, [.slice x.1 r.b.length x.2]⟩]
  B := fun r x => [Ow 2 Kd.u8 x.1 x.2 r.b]
noncomputable def pack_Writer_Num.cx (b_2 : Nat) (A_3 : Option Addr) (c_4 : Nat) (w0 : World) (S0 : Fam) : Cx T_pack_Writer := ⟨Try.prog, 75, Try.f75, 49, w0, S0, [1, 2], 2, pack_Writer_Num.R b_2 A_3 c_4⟩
theorem pack_Writer_Num_l1_ok (n : Nat) (x_5 : Int) (b_2 : Nat) (A_3 : Option Addr) (c_4 : Nat) (w0 : World) (S0 : Fam) :
    ∀ (k : Nat) (f_14 : (List UInt8)) (i_17 : Int) (A_15 : Option Addr) (c_16 : Nat), GoO (pack_Writer_Num.cx b_2 A_3 c_4 w0 S0) [(0, .pointer (some ⟨b_2, 0, none⟩)), (1, .int .u64 x_5), (7, .int .i64 i_17)] [⟨1, b_2, [.slice A_15 f_14.length c_16]⟩] [Ow 2 Kd.u8 A_15 c_16 f_14] [.code c75_34, .inLoop c75_34, .inBlock 2, .code c75_44] (pack_Writer_Num.l1 n x_5 k f_14 i_17) := by
  intro k
  induction k with
  | zero => intros; rw [pack_Writer_Num.l1.eq_1]; exact GoO.stop
  | succ k ih1 =>
    intro f_14 i_17 A_15 c_16
    rw [pack_Writer_Num.l1.eq_2]
    refine GoO.seq' c75_34e ?_
    refine GoO.seq' c75_35e ?_
    refine GoO.region' (is := [0, 1]) c75_36e (by kernel_rfl) ?_
    refine GoO.exec (is := [0, 1]) (hs := [.p, .p]) (rest := []) (ks := [0, 1, 7, 31]) (env' := [(0, .pointer (some ⟨b_2, 0, none⟩)), (1, .int .u64 x_5), (7, .int .i64 i_17), (31, .bool (decide (i_17 ≥ 0)))]) (H' := [⟨1, b_2, [.slice A_15 f_14.length c_16]⟩]) (ps := []) (by kernel_rfl) trivial ?_
    refine GoO.regionEnd ?_
    refine GoO.ite' c75_37e (by kernel_rfl) (fun h18 => ?_) (fun h18 => ?_)
    · refine GoO.skip' c75_38e ?_
      refine GoO.seq' c75_40e ?_
      refine GoO.block' c75_41e ?_
      refine GoO.draw c75_42e (by kernel_rfl) [12, 13, 14] [⟨1, b_2, [.slice A_15 f_14.length c_16]⟩] [] (n := 15) (by kernel_rfl) ?_
      simp only [List.replicate]
      refine GoF.guard (fun h19 => ?_)
      refine GoF.take [0, 1, 2, 3, 4, 5, 6, 7, 8, 9] [.p, .p, .p, .p, .b 0, .p, .p, .p, .p, .p] (ks := [0, 1, 7, 34, 38, 43]) (fu := 5) (li := [true, true, true, true, true, true, true, true, true, true, false, false, false, false, false]) (env' := [(0, .pointer (some ⟨b_2, 0, none⟩)), (1, .int .u64 x_5), (7, .int .i64 i_17), (34, .pointer (some ⟨b_2, 0, none⟩)), (38, .slice A_15 f_14.length c_16), (43, .int .u8 (wu8 (shR .u64 x_5 (wi64 (8 * i_17)))))]) (ps := [b_2 = b_2, (0 : Int) ≤ (wi64 (8 * i_17))]) (hk := [0]) (bk := []) (by kernel_rfl) (And.intro rfl (And.intro h19 trivial)) rfl rfl ?_
      refine OpTo.goF (i := 10) (by kernel_rfl) (hk := [0]) (bk := []) (GoO.lit (e := 5) (K := Kd.u8) rfl (by kernel_rfl) (by kernel_rfl) (cs := [.int .u8 (wu8 (shR .u64 x_5 (wi64 (8 * i_17))))]) (by kernel_rfl) [u8of (shR .u64 x_5 (wi64 (8 * i_17)))] (by kernel_rfl) (by kernel_rfl) (fun w S hB => ⟨[.int .u8 (wu8 (shR .u64 x_5 (wi64 (8 * i_17))))], _, rfl, (congrArg (fun v => [v]) (u8cell _)), rfl⟩) 41 _ (fun _ _ => rfl) (fun A_20 c_21 => ⟨rfl, rfl, ?_⟩))
      refine GoF.guard (fun h22 => ?_)
      refine OpTo.goF (i := 11) (by kernel_rfl) (hk := [0]) (bk := []) (GoO.appW (e := 5) (K := Kd.u8) (A := A_15) (c := c_16) (tg := 2) (bytes := 1) (zs := [.int .u8 0]) (xs := f_14) (ys := [u8of (shR .u64 x_5 (wi64 (8 * i_17)))]) (xv := .slice A_20 [u8of (shR .u64 x_5 (wi64 (8 * i_17)))].length c_21) (j := 1) (bk := [0]) rfl (by kernel_rfl) (by kernel_rfl) (by kernel_rfl) (by kernel_rfl) rfl (by kernel_rfl) rfl (fun w S hB => SrcIs.row (Reads.own w S (hB _ (List.mem_of_getElem? (i := 0) rfl)))) h22 rfl rfl rfl rfl _ (fun _ _ => rfl) (fun A_23 c_24 => ⟨rfl, rfl, ?_⟩))
      refine GoF.fin1 (i := 12) (hint := .p) (ps := []) (hk := []) (bk := []) (by kernel_rfl) rfl trivial (.inl rfl) ?_
      refine GoF.fin1 (i := 13) (hint := .p) (ps := []) (hk := []) (bk := []) (by kernel_rfl) rfl trivial (.inl rfl) ?_
      refine GoF.fin1 (i := 14) (hint := .b 0) (ps := [b_2 = b_2]) (hk := []) (bk := []) (by kernel_rfl) rfl (And.intro rfl trivial) (.inl rfl) ?_
      refine GoF.done (by kernel_rfl) ?_
      refine GoO.inBlock ?_
      refine GoO.region' (is := [0, 1, 2]) c75_43e (by kernel_rfl) ?_
      refine GoO.exec (is := [0, 1, 2]) (hs := [.p, .p, .p]) (rest := []) (ks := [0, 1, 7]) (env' := [(0, .pointer (some ⟨b_2, 0, none⟩)), (1, .int .u64 x_5), (7, .int .i64 (wi64 (i_17 - 1)))]) (H' := [⟨1, b_2, [.slice A_23 (f_14 ++ [u8of (shR .u64 x_5 (wi64 (8 * i_17)))]).length c_24]⟩]) (ps := []) (by kernel_rfl) trivial ?_
      refine GoO.regionEnd ?_
      refine GoO.inLoop ?_
      exact GoO.sub (ks := [0, 1, 7]) (hk := [0]) (bk := [0]) (by kernel_rfl) (by kernel_rfl) (by kernel_rfl) (ih1 (f_14 ++ [u8of (shR .u64 x_5 (wi64 (8 * i_17)))]) (wi64 (i_17 - 1)) A_23 c_24)
    · refine GoO.exit' c75_39e rfl ?_
      refine GoO.seq' c75_44e ?_
      refine GoO.region' (is := [0, 1]) c75_45e (by kernel_rfl) ?_
      refine GoO.exec (is := [0, 1]) (hs := [.p, .p]) (rest := []) (ks := [4]) (env' := [(4, .pointer (some ⟨b_2, 0, none⟩))]) (H' := [⟨1, b_2, [.slice A_15 f_14.length c_16]⟩]) (ps := []) (by kernel_rfl) trivial ?_
      refine GoO.regionEnd ?_
      exact GoO.ret' (h := c75_46e) (hs := []) (ps := []) (hk := [0]) (bk := [0]) Try.func75 (⟨A_15, c_16⟩ : Option Addr × Nat) (by kernel_rfl) trivial (by kernel_rfl) (by kernel_rfl)
theorem pack_Writer_Num_l0_ok (n : Nat) (w_1 : T_pack_Writer) (x_5 : Int) (b_2 : Nat) (A_3 : Option Addr) (c_4 : Nat) (w0 : World) (S0 : Fam) :
    ∀ (k : Nat) (n_6 : Int) (y_7 : Int), GoO (pack_Writer_Num.cx b_2 A_3 c_4 w0 S0) [(0, .pointer (some ⟨b_2, 0, none⟩)), (1, .int .u64 x_5), (5, .int .i64 n_6), (6, .int .u64 y_7)] [⟨1, b_2, [.slice A_3 w_1.b.length c_4]⟩] [Ow 2 Kd.u8 A_3 c_4 w_1.b] [.code c75_17, .inLoop c75_17, .inBlock 0, .code c75_27] (pack_Writer_Num.l0 n w_1 x_5 k n_6 y_7) := by
  intro k
  induction k with
  | zero => intros; rw [pack_Writer_Num.l0.eq_1]; exact GoO.stop
  | succ k ih0 =>
    intro n_6 y_7
    rw [pack_Writer_Num.l0.eq_2]
    refine GoO.seq' c75_17e ?_
    refine GoO.seq' c75_18e ?_
    refine GoO.region' (is := [0, 1]) c75_19e (by kernel_rfl) ?_
    refine GoO.exec (is := [0, 1]) (hs := [.p, .p]) (rest := []) (ks := [0, 1, 5, 6, 12]) (env' := [(0, .pointer (some ⟨b_2, 0, none⟩)), (1, .int .u64 x_5), (5, .int .i64 n_6), (6, .int .u64 y_7), (12, .bool (decide (y_7 > 0)))]) (H' := [⟨1, b_2, [.slice A_3 w_1.b.length c_4]⟩]) (ps := []) (by kernel_rfl) trivial ?_
    refine GoO.regionEnd ?_
    refine GoO.ite' c75_20e (by kernel_rfl) (fun h8 => ?_) (fun h8 => ?_)
    · refine GoO.skip' c75_21e ?_
      refine GoO.seq' c75_23e ?_
      refine GoO.block' c75_24e ?_
      refine GoO.region' (is := [0, 1, 2]) c75_25e (by kernel_rfl) ?_
      refine GoO.exec (is := [0, 1, 2]) (hs := [.p, .p, .p]) (rest := []) (ks := [0, 1, 5, 6]) (env' := [(0, .pointer (some ⟨b_2, 0, none⟩)), (1, .int .u64 x_5), (5, .int .i64 (wi64 (n_6 + 1))), (6, .int .u64 y_7)]) (H' := [⟨1, b_2, [.slice A_3 w_1.b.length c_4]⟩]) (ps := []) (by kernel_rfl) trivial ?_
      refine GoO.regionEnd ?_
      refine GoO.inBlock ?_
      refine GoO.region' (is := [0, 1, 2]) c75_26e (by kernel_rfl) ?_
      refine GoO.exec (is := [0, 1, 2]) (hs := [.p, .p, .p]) (rest := []) (ks := [0, 1, 5, 6]) (env' := [(0, .pointer (some ⟨b_2, 0, none⟩)), (1, .int .u64 x_5), (5, .int .i64 (wi64 (n_6 + 1))), (6, .int .u64 (shR .u64 y_7 8))]) (H' := [⟨1, b_2, [.slice A_3 w_1.b.length c_4]⟩]) (ps := [(0 : Int) ≤ 8]) (by kernel_rfl) (And.intro (by decide) trivial) ?_
      refine GoO.regionEnd ?_
      refine GoO.inLoop ?_
      exact GoO.sub (ks := [0, 1, 5, 6]) (hk := [0]) (bk := [0]) (by kernel_rfl) (by kernel_rfl) (by kernel_rfl) (ih0 (wi64 (n_6 + 1)) (shR .u64 y_7 8))
    · refine GoO.exit' c75_22e rfl ?_
      refine GoO.seq' c75_27e ?_
      refine GoO.region' (is := [0, 1, 2, 3, 4, 5, 6, 7, 8, 9, 10, 11]) c75_28e (by kernel_rfl) ?_
      refine GoO.exec (is := [0, 1, 2, 3, 4, 5, 6]) (hs := [.p, .p, .p, .p, .b 0, .p, .p]) (rest := [7, 8, 9, 10, 11]) (ks := [0, 1, 5, 17, 21, 23]) (env' := [(0, .pointer (some ⟨b_2, 0, none⟩)), (1, .int .u64 x_5), (5, .int .i64 n_6), (17, .pointer (some ⟨b_2, 0, none⟩)), (21, .slice A_3 w_1.b.length c_4), (23, .int .u8 (wu8 n_6))]) (H' := [⟨1, b_2, [.slice A_3 w_1.b.length c_4]⟩]) (ps := [b_2 = b_2]) (by kernel_rfl) (And.intro rfl trivial) ?_
      refine OpTo.go (GoO.lit (e := 5) (K := Kd.u8) rfl (by kernel_rfl) (by kernel_rfl) (cs := [.int .u8 (wu8 n_6)]) (by kernel_rfl) [u8of n_6] (by kernel_rfl) (by kernel_rfl) (fun w S hB => ⟨[.int .u8 (wu8 n_6)], _, rfl, (congrArg (fun v => [v]) (u8cell _)), rfl⟩) 40 _ (fun _ _ => rfl) (fun A_9 c_10 => ?_))
      refine GoO.guard (fun h11 => ?_)
      refine OpTo.go (GoO.appW (e := 5) (K := Kd.u8) (A := A_3) (c := c_4) (tg := 2) (bytes := 1) (zs := [.int .u8 0]) (xs := w_1.b) (ys := [u8of n_6]) (xv := .slice A_9 [u8of n_6].length c_10) (j := 1) (bk := [0]) rfl (by kernel_rfl) (by kernel_rfl) (by kernel_rfl) (by kernel_rfl) rfl (by kernel_rfl) rfl (fun w S hB => SrcIs.row (Reads.own w S (hB _ (List.mem_of_getElem? (i := 0) rfl)))) h11 rfl rfl rfl rfl _ (fun _ _ => rfl) (fun A_12 c_13 => ?_))
      refine GoO.exec (is := [9, 10, 11]) (hs := [.p, .p, .b 0]) (rest := []) (ks := [0, 1, 5]) (env' := [(0, .pointer (some ⟨b_2, 0, none⟩)), (1, .int .u64 x_5), (5, .int .i64 n_6)]) (H' := [⟨1, b_2, [.slice A_12 (w_1.b ++ [u8of n_6]).length c_13]⟩]) (ps := [b_2 = b_2]) (by kernel_rfl) (And.intro rfl trivial) ?_
      refine GoO.regionEnd ?_
      refine GoO.seq' c75_29e ?_
      refine GoO.seq' c75_30e ?_
      refine GoO.region' (is := [0, 1, 2]) c75_31e (by kernel_rfl) ?_
      refine GoO.exec (is := [0, 1, 2]) (hs := [.p, .p, .p]) (rest := []) (ks := [0, 1, 7]) (env' := [(0, .pointer (some ⟨b_2, 0, none⟩)), (1, .int .u64 x_5), (7, .int .i64 (wi64 (n_6 - 1)))]) (H' := [⟨1, b_2, [.slice A_12 (w_1.b ++ [u8of n_6]).length c_13]⟩]) (ps := []) (by kernel_rfl) trivial ?_
      refine GoO.regionEnd ?_
      refine GoO.block' c75_32e ?_
      refine GoO.loop' c75_33e ?_
      exact GoO.sub (ks := [0, 1, 7]) (hk := [0]) (bk := [0]) (by kernel_rfl) (by kernel_rfl) (by kernel_rfl) (pack_Writer_Num_l1_ok n x_5 b_2 A_3 c_4 w0 S0 n (w_1.b ++ [u8of n_6]) (wi64 (n_6 - 1)) A_12 c_13)
theorem pack_Writer_Num_ok (n : Nat) (w_1 : T_pack_Writer) (x_5 : Int) (b_2 : Nat) (A_3 : Option Addr) (c_4 : Nat) :
    Meets Try.prog 75 [.pointer (some ⟨b_2, 0, none⟩), .int .u64 x_5] 2 [1, 2] [⟨1, b_2, [.slice A_3 w_1.b.length c_4]⟩] [Ow 2 Kd.u8 A_3 c_4 w_1.b] (pack_Writer_Num.f n w_1 x_5) (pack_Writer_Num.R b_2 A_3 c_4) := by
  refine Meets.of (c := c75_0) (n := 49) Try.func75 (by kernel_rfl) (by kernel_rfl) (by kernel_rfl) fun w0 S0 => ?_
  unfold pack_Writer_Num.f
  show GoO (pack_Writer_Num.cx b_2 A_3 c_4 w0 S0) [(0, .pointer (some ⟨b_2, 0, none⟩)), (1, .int .u64 x_5)] [⟨1, b_2, [.slice A_3 w_1.b.length c_4]⟩] [Ow 2 Kd.u8 A_3 c_4 w_1.b] [.code c75_0] _
  refine GoO.seq' c75_0e ?_
  refine GoO.region' (is := [0]) c75_1e (by kernel_rfl) ?_
  refine GoO.exec (is := [0]) (hs := [.p]) (rest := []) (ks := [0, 1]) (env' := [(0, .pointer (some ⟨b_2, 0, none⟩)), (1, .int .u64 x_5)]) (H' := [⟨1, b_2, [.slice A_3 w_1.b.length c_4]⟩]) (ps := []) (by kernel_rfl) trivial ?_
  refine GoO.regionEnd ?_
  refine GoO.seq' c75_2e ?_
  refine GoO.seq' c75_3e ?_
  refine GoO.region' (is := [0, 1]) c75_4e (by kernel_rfl) ?_
  refine GoO.exec (is := [0, 1]) (hs := [.p, .p]) (rest := []) (ks := [0, 1, 9]) (env' := [(0, .pointer (some ⟨b_2, 0, none⟩)), (1, .int .u64 x_5), (9, .bool false)]) (H' := [⟨1, b_2, [.slice A_3 w_1.b.length c_4]⟩]) (ps := []) (by kernel_rfl) trivial ?_
  refine GoO.regionEnd ?_
  refine GoO.condF c75_5e (by kernel_rfl) ?_
  refine GoO.skip' c75_9e ?_
  refine GoO.seq' c75_10e ?_
  refine GoO.region' (is := [0]) c75_11e (by kernel_rfl) ?_
  refine GoO.exec (is := [0]) (hs := [.p]) (rest := []) (ks := [0, 1, 5]) (env' := [(0, .pointer (some ⟨b_2, 0, none⟩)), (1, .int .u64 x_5), (5, .int .i64 0)]) (H' := [⟨1, b_2, [.slice A_3 w_1.b.length c_4]⟩]) (ps := []) (by kernel_rfl) trivial ?_
  refine GoO.regionEnd ?_
  refine GoO.seq' c75_12e ?_
  refine GoO.seq' c75_13e ?_
  refine GoO.region' (is := [0, 1]) c75_14e (by kernel_rfl) ?_
  refine GoO.exec (is := [0, 1]) (hs := [.p, .p]) (rest := []) (ks := [0, 1, 5, 6]) (env' := [(0, .pointer (some ⟨b_2, 0, none⟩)), (1, .int .u64 x_5), (5, .int .i64 0), (6, .int .u64 x_5)]) (H' := [⟨1, b_2, [.slice A_3 w_1.b.length c_4]⟩]) (ps := []) (by kernel_rfl) trivial ?_
  refine GoO.regionEnd ?_
  refine GoO.block' c75_15e ?_
  refine GoO.loop' c75_16e ?_
  exact GoO.sub (ks := [0, 1, 5, 6]) (hk := [0]) (bk := [0]) (by kernel_rfl) (by kernel_rfl) (by kernel_rfl) (pack_Writer_Num_l0_ok n w_1 x_5 b_2 A_3 c_4 w0 S0 n 0 x_5)

/-! (*tontine/pack.Writer).Bytes -/
noncomputable def c76_0 : Code := bodyOf Try.f76
noncomputable def c76_1 : Code := cdL c76_0
noncomputable def c76_2 : Code := cdR c76_0
noncomputable def c76_3 : Code := cdL c76_2
noncomputable def c76_4 : Code := cdL c76_3
noncomputable def c76_5 : Code := cdR c76_3
noncomputable def c76_9 : Code := cdR c76_5
noncomputable def c76_10 : Code := cdR c76_2
noncomputable def c76_11 : Code := cdL c76_10
noncomputable def c76_12 : Code := cdR c76_10
noncomputable def c76_6 : Code := cdL c76_5
noncomputable def r76_1 : Array Oper := cdO c76_1
noncomputable def r76_4 : Array Oper := cdO c76_4
noncomputable def r76_11 : Array Oper := cdO c76_11
theorem c76_0e : c76_0 = .seq c76_1 c76_2 := by kernel_rfl
theorem c76_1e : c76_1 = .region 0 r76_1 false := by kernel_rfl
theorem c76_2e : c76_2 = .seq c76_3 c76_10 := by kernel_rfl
theorem c76_3e : c76_3 = .seq c76_4 c76_5 := by kernel_rfl
theorem c76_4e : c76_4 = .region 1 r76_4 false := by kernel_rfl
theorem c76_5e : c76_5 = .cond (cdC c76_5) c76_6 c76_9 := by kernel_rfl
theorem c76_9e : c76_9 = .skip := by kernel_rfl
theorem c76_10e : c76_10 = .seq c76_11 c76_12 := by kernel_rfl
theorem c76_11e : c76_11 = .region 3 r76_11 false := by kernel_rfl
theorem c76_12e : c76_12 = .ret := by kernel_rfl
noncomputable def pack_Writer_Bytes.R (b_2 : Nat) (A_3 : Option Addr) (c_4 : Nat) : Pst (List UInt8) where
  ε := Unit
  v := fun r x => .string (bs r)
  H := fun r x => []
  B := fun r x => []
noncomputable def pack_Writer_Bytes.cx (b_2 : Nat) (A_3 : Option Addr) (c_4 : Nat) (w0 : World) (S0 : Fam) : Cx (List UInt8) := ⟨Try.prog, 76, Try.f76, 10, w0, S0, [], 2, pack_Writer_Bytes.R b_2 A_3 c_4⟩
theorem pack_Writer_Bytes_ok (n : Nat) (w_1 : T_pack_Writer) (b_2 : Nat) (A_3 : Option Addr) (c_4 : Nat) :
    Meets Try.prog 76 [.pointer (some ⟨b_2, 0, none⟩)] 2 [] [⟨1, b_2, [.slice A_3 w_1.b.length c_4]⟩] [Ow 2 Kd.u8 A_3 c_4 w_1.b] (pack_Writer_Bytes.f n w_1) (pack_Writer_Bytes.R b_2 A_3 c_4) := by
  refine Meets.of (c := c76_0) (n := 10) Try.func76 (by kernel_rfl) (by kernel_rfl) (by kernel_rfl) fun w0 S0 => ?_
  unfold pack_Writer_Bytes.f
  show GoO (pack_Writer_Bytes.cx b_2 A_3 c_4 w0 S0) [(0, .pointer (some ⟨b_2, 0, none⟩))] [⟨1, b_2, [.slice A_3 w_1.b.length c_4]⟩] [Ow 2 Kd.u8 A_3 c_4 w_1.b] [.code c76_0] _
  refine GoO.seq' c76_0e ?_
  refine GoO.region' (is := [0]) c76_1e (by kernel_rfl) ?_
  refine GoO.exec (is := [0]) (hs := [.p]) (rest := []) (ks := [0]) (env' := [(0, .pointer (some ⟨b_2, 0, none⟩))]) (H' := [⟨1, b_2, [.slice A_3 w_1.b.length c_4]⟩]) (ps := []) (by kernel_rfl) trivial ?_
  refine GoO.regionEnd ?_
  refine GoO.seq' c76_2e ?_
  refine GoO.seq' c76_3e ?_
  refine GoO.region' (is := [0, 1]) c76_4e (by kernel_rfl) ?_
  refine GoO.exec (is := [0, 1]) (hs := [.p, .p]) (rest := []) (ks := [0, 4]) (env' := [(0, .pointer (some ⟨b_2, 0, none⟩)), (4, .bool false)]) (H' := [⟨1, b_2, [.slice A_3 w_1.b.length c_4]⟩]) (ps := []) (by kernel_rfl) trivial ?_
  refine GoO.regionEnd ?_
  refine GoO.condF c76_5e (by kernel_rfl) ?_
  refine GoO.skip' c76_9e ?_
  refine GoO.seq' c76_10e ?_
  refine GoO.region' (is := [0, 1, 2, 3, 4, 5]) c76_11e (by kernel_rfl) ?_
  refine GoO.exec (is := [0, 1, 2, 3]) (hs := [.p, .p, .p, .b 0]) (rest := [4, 5]) (ks := [8]) (env' := [(8, .slice A_3 w_1.b.length c_4)]) (H' := [⟨1, b_2, [.slice A_3 w_1.b.length c_4]⟩]) (ps := [b_2 = b_2]) (by kernel_rfl) (And.intro rfl trivial) ?_
  refine OpTo.go (GoO.toStr (e := 5) (A := A_3) (c := c_4) (xs := w_1.b) (j := 0) rfl (by kernel_rfl) (by kernel_rfl) (by kernel_rfl) (by kernel_rfl) rfl Reads.own rfl rfl ?_)
  refine GoO.exec (is := [5]) (hs := [.p]) (rest := []) (ks := [2]) (env' := [(2, .string (bs w_1.b))]) (H' := [⟨1, b_2, [.slice A_3 w_1.b.length c_4]⟩]) (ps := []) (by kernel_rfl) trivial ?_
  refine GoO.regionEnd ?_
  exact GoO.ret' (h := c76_12e) (hs := []) (ps := []) (hk := []) (bk := []) Try.func76 () (by kernel_rfl) trivial (by kernel_rfl) (by kernel_rfl)

/-! tontine/rlog.Config -/
noncomputable def c42_0 : Code := bodyOf Try.f42
noncomputable def c42_1 : Code := cdL c42_0
noncomputable def c42_2 : Code := cdR c42_0
noncomputable def c42_3 : Code := cdL c42_2
noncomputable def c42_4 : Code := cdR c42_2
noncomputable def r42_1 : Array Oper := cdO c42_1
noncomputable def r42_3 : Array Oper := cdO c42_3
theorem c42_0e : c42_0 = .seq c42_1 c42_2 := by kernel_rfl
theorem c42_1e : c42_1 = .region 0 r42_1 false := by kernel_rfl
theorem c42_2e : c42_2 = .seq c42_3 c42_4 := by kernel_rfl
theorem c42_3e : c42_3 = .region 1 r42_3 false := by kernel_rfl
theorem c42_4e : c42_4 = .ret := by kernel_rfl
noncomputable def rlog_Config.R : Pst (List UInt8) where
  ε := Unit
  v := fun r x => .string (bs r)
  H := fun r x => []
  B := fun r x => []
noncomputable def rlog_Config.cx (w0 : World) (S0 : Fam) : Cx (List UInt8) := ⟨Try.prog, 42, Try.f42, 7, w0, S0, [], 0, rlog_Config.R⟩
theorem rlog_Config_ok (n : Nat) (c_1 : Int) :
    Meets Try.prog 42 [.int .u64 c_1] 0 [] [] [] (rlog_Config.f n c_1) (rlog_Config.R) := by
  refine Meets.of (c := c42_0) (n := 7) Try.func42 (by kernel_rfl) (by kernel_rfl) (by kernel_rfl) fun w0 S0 => ?_
  unfold rlog_Config.f
  show GoO (rlog_Config.cx w0 S0) [(0, .int .u64 c_1)] [] [] [.code c42_0] _
  refine GoO.seq' c42_0e ?_
  refine GoO.region' (is := [0]) c42_1e (by kernel_rfl) ?_
  refine GoO.exec (is := [0]) (hs := [.p]) (rest := []) (ks := [0]) (env' := [(0, .int .u64 c_1)]) (H' := []) (ps := []) (by kernel_rfl) trivial ?_
  refine GoO.regionEnd ?_
  refine GoO.seq' c42_2e ?_
  refine GoO.region' (is := [0, 1, 2, 3, 4]) c42_3e (by kernel_rfl) ?_
  refine OpTo.go (GoO.new rfl 40 (cs := [.slice none ([] : List UInt8).length 0]) (by kernel_rfl) _ (fun _ => rfl) (fun b_2 => ?_))
  refine GoO.exec (is := [1]) (hs := [.p]) (rest := [2, 3, 4]) (ks := [3, 4]) (env' := [(3, .pointer (some ⟨b_2, 0, none⟩)), (4, .int .u64 c_1)]) (H' := [⟨40, b_2, [.slice none ([] : List UInt8).length 0]⟩]) (ps := []) (by kernel_rfl) trivial ?_
  refine GoO.nilOwn Kd.u8 41 ?_
  refine OpTo.go (GoO.call rfl (by kernel_rfl) (by kernel_rfl) (pack_Writer_Num_ok n (⟨[]⟩ : T_pack_Writer) c_1 b_2 none 0) [[0], [40], [41]] [(40, 1), (41, 2)] [(1, 0)] [(2, 0)] (hks := []) (bks := []) (by kernel_rfl) (by kernel_rfl) (by kernel_rfl) (.inl rfl) rfl rfl (by kernel_rfl) (by kernel_rfl) _ (fun _ _ => rfl) _ _ (fun _ _ => rfl) (fun _ _ => rfl) (fun _ _ => by kernel_rfl) (fun _ _ => by kernel_rfl) (fun r_3 x_8 => ?_))
  obtain ⟨A_4, c_5⟩ := x_8
  refine GoO.shape (env' := [(3, .pointer (some ⟨b_2, 0, none⟩)), (4, .int .u64 c_1), (5, .pointer (some ⟨b_2, 0, none⟩))]) (H' := [⟨40, b_2, [.slice A_4 r_3.b.length c_5]⟩]) (B' := [Ow 41 Kd.u8 A_4 c_5 r_3.b]) (ks := [3, 4, 5]) (by kernel_rfl) (by kernel_rfl) (by kernel_rfl) ?_
  refine OpTo.go (GoO.call rfl (by kernel_rfl) (by kernel_rfl) (pack_Writer_Bytes_ok n r_3 b_2 A_4 c_5) [[0], [40], [41]] [] [(1, 0)] [(2, 0)] (hks := [0]) (bks := [0]) (by kernel_rfl) (by kernel_rfl) (by kernel_rfl) (.inl rfl) rfl rfl (by kernel_rfl) (by kernel_rfl) _ (fun _ _ => rfl) _ _ (fun _ _ => rfl) (fun _ _ => rfl) (fun _ _ => by kernel_rfl) (fun _ _ => by kernel_rfl) (fun r_6 x_7 => ?_))
  refine GoO.shape (env' := [(3, .pointer (some ⟨b_2, 0, none⟩)), (4, .int .u64 c_1), (5, .pointer (some ⟨b_2, 0, none⟩)), (6, .string (bs r_6))]) (H' := [⟨40, b_2, [.slice A_4 r_3.b.length c_5]⟩]) (B' := [Ow 41 Kd.u8 A_4 c_5 r_3.b]) (ks := [3, 4, 5, 6]) (by kernel_rfl) (by kernel_rfl) (by kernel_rfl) ?_
  refine GoO.exec (is := [4]) (hs := [.p]) (rest := []) (ks := [2]) (env' := [(2, .string (bs r_6))]) (H' := [⟨40, b_2, [.slice A_4 r_3.b.length c_5]⟩]) (ps := []) (by kernel_rfl) trivial ?_
  refine GoO.regionEnd ?_
  exact GoO.ret' (h := c42_4e) (hs := []) (ps := []) (hk := []) (bk := []) Try.func42 () (by kernel_rfl) trivial (by kernel_rfl) (by kernel_rfl)

/-! tontine/tontineref03.Num -/
noncomputable def c77_0 : Code := bodyOf Try.f77
noncomputable def c77_1 : Code := cdL c77_0
noncomputable def c77_2 : Code := cdR c77_0
noncomputable def c77_3 : Code := cdL c77_2
noncomputable def c77_4 : Code := cdR c77_2
noncomputable def c77_5 : Code := cdL c77_4
noncomputable def c77_6 : Code := cdR c77_4
noncomputable def c77_7 : Code := cdL c77_6
noncomputable def c77_8 : Code := cdL c77_7
noncomputable def c77_9 : Code := cdL c77_8
noncomputable def c77_10 : Code := cdL c77_9
noncomputable def c77_11 : Code := cdL c77_10
noncomputable def c77_12 : Code := cdR c77_10
noncomputable def c77_13 : Code := cdL c77_12
noncomputable def c77_14 : Code := cdR c77_12
noncomputable def c77_15 : Code := cdR c77_9
noncomputable def c77_16 : Code := cdL c77_15
noncomputable def c77_17 : Code := cdL c77_16
noncomputable def c77_18 : Code := cdR c77_16
noncomputable def c77_19 : Code := cdL c77_18
noncomputable def c77_20 : Code := cdR c77_18
noncomputable def c77_21 : Code := cdR c77_6
noncomputable def c77_22 : Code := cdL c77_21
noncomputable def c77_23 : Code := cdR c77_21
noncomputable def r77_1 : Array Oper := cdO c77_1
noncomputable def r77_3 : Array Oper := cdO c77_3
noncomputable def r77_5 : Array Oper := cdO c77_5
noncomputable def r77_11 : Array Oper := cdO c77_11
noncomputable def r77_17 : Array Oper := cdO c77_17
noncomputable def r77_19 : Array Oper := cdO c77_19
noncomputable def r77_20 : Array Oper := cdO c77_20
noncomputable def r77_22 : Array Oper := cdO c77_22
theorem c77_0e : c77_0 = .seq c77_1 c77_2 := by kernel_rfl
theorem c77_1e : c77_1 = .region 0 r77_1 false := by kernel_rfl
theorem c77_2e : c77_2 = .seq c77_3 c77_4 := by kernel_rfl
theorem c77_3e : c77_3 = .region 1 r77_3 false := by kernel_rfl
theorem c77_4e : c77_4 = .seq c77_5 c77_6 := by kernel_rfl
theorem c77_5e : c77_5 = .region 2 r77_5 false := by kernel_rfl
theorem c77_6e : c77_6 = .seq c77_7 c77_21 := by kernel_rfl
theorem c77_7e : c77_7 = .block 0 c77_8 := by kernel_rfl
theorem c77_8e : c77_8 = .loop c77_9 := by kernel_rfl
theorem c77_9e : c77_9 = .seq c77_10 c77_15 := by kernel_rfl
theorem c77_10e : c77_10 = .seq c77_11 c77_12 := by kernel_rfl
theorem c77_11e : c77_11 = .region 3 r77_11 false := by kernel_rfl
theorem c77_12e : c77_12 = .cond (cdC c77_12) c77_13 c77_14 := by kernel_rfl
theorem c77_13e : c77_13 = .skip := by kernel_rfl
theorem c77_14e : c77_14 = .exit 0 := by kernel_rfl
theorem c77_15e : c77_15 = .block 1 c77_16 := by kernel_rfl
theorem c77_16e : c77_16 = .seq c77_17 c77_18 := by kernel_rfl
theorem c77_17e : c77_17 = .region 4 r77_17 false := by kernel_rfl
theorem c77_18e : c77_18 = .seq c77_19 c77_20 := by kernel_rfl
theorem c77_19e : c77_19 = .region 5 r77_19 false := by kernel_rfl
theorem c77_20e : c77_20 = .region 6 r77_20 false := by kernel_rfl
theorem c77_21e : c77_21 = .seq c77_22 c77_23 := by kernel_rfl
theorem c77_22e : c77_22 = .region 7 r77_22 false := by kernel_rfl
theorem c77_23e : c77_23 = .ret := by kernel_rfl
noncomputable def tontineref03_Num.R : Pst (List UInt8) where
  ε := Unit
  v := fun r x => .string (bs r)
  H := fun r x => []
  B := fun r x => []
noncomputable def tontineref03_Num.cx (w0 : World) (S0 : Fam) : Cx (List UInt8) := ⟨Try.prog, 77, Try.f77, 24, w0, S0, [], 0, tontineref03_Num.R⟩
theorem tontineref03_Num_l0_ok (n : Nat) (w0 : World) (S0 : Fam) :
    ∀ (k : Nat) (x_2 : Int) (s_3 : (List UInt8)) (n_4 : Int), GoO (tontineref03_Num.cx w0 S0) [(0, .int .u64 x_2), (3, .string (bs s_3)), (4, .int .i64 n_4)] [] [] [.code c77_9, .inLoop c77_9, .inBlock 0, .code c77_21] (tontineref03_Num.l0 n k x_2 s_3 n_4) := by
  intro k
  induction k with
  | zero => intros; rw [tontineref03_Num.l0.eq_1]; exact GoO.stop
  | succ k ih0 =>
    intro x_2 s_3 n_4
    rw [tontineref03_Num.l0.eq_2]
    refine GoO.seq' c77_9e ?_
    refine GoO.seq' c77_10e ?_
    refine GoO.region' (is := [0, 1]) c77_11e (by kernel_rfl) ?_
    refine GoO.exec (is := [0, 1]) (hs := [.p, .p]) (rest := []) (ks := [0, 3, 4, 6]) (env' := [(0, .int .u64 x_2), (3, .string (bs s_3)), (4, .int .i64 n_4), (6, .bool (decide (x_2 > 0)))]) (H' := []) (ps := []) (by kernel_rfl) trivial ?_
    refine GoO.regionEnd ?_
    refine GoO.ite' c77_12e (by kernel_rfl) (fun h5 => ?_) (fun h5 => ?_)
    · refine GoO.skip' c77_13e ?_
      refine GoO.block' c77_15e ?_
      refine GoO.seq' c77_16e ?_
      refine GoO.region' (is := [0, 1, 2, 3, 4, 5, 6, 7]) c77_17e (by kernel_rfl) ?_
      refine GoO.exec (is := [0, 1, 2]) (hs := [.p, .p, .p]) (rest := [3, 4, 5, 6, 7]) (ks := [0, 3, 4, 9]) (env' := [(0, .int .u64 x_2), (3, .string (bs s_3)), (4, .int .i64 n_4), (9, .int .u8 (wu8 (x_2.tmod 256)))]) (H' := []) (ps := [(256 : Int) ≠ 0]) (by kernel_rfl) (And.intro (by decide) trivial) ?_
      refine OpTo.go (GoO.lit (e := 5) (K := Kd.u8) rfl (by kernel_rfl) (by kernel_rfl) (cs := [.int .u8 (wu8 (x_2.tmod 256))]) (by kernel_rfl) [u8of (x_2.tmod 256)] (by kernel_rfl) (by kernel_rfl) (fun w S hB => ⟨[.int .u8 (wu8 (x_2.tmod 256))], _, rfl, (congrArg (fun v => [v]) (u8cell _)), rfl⟩) 40 _ (fun _ _ => rfl) (fun A_6 c_7 => ?_))
      refine OpTo.go (GoO.toStr (e := 5) (A := A_6) (c := c_7) (xs := [u8of (x_2.tmod 256)]) (j := 0) rfl (by kernel_rfl) (by kernel_rfl) (by kernel_rfl) (by kernel_rfl) rfl Reads.own rfl rfl ?_)
      refine GoO.guard (fun h8 => ?_)
      refine GoO.exec (is := [5, 6, 7]) (hs := [.p, .p, .p]) (rest := []) (ks := [0, 3, 4]) (env' := [(0, .int .u64 x_2), (3, .string (bs ([u8of (x_2.tmod 256)] ++ s_3))), (4, .int .i64 n_4)]) (H' := []) (ps := [([u8of (x_2.tmod 256)] : List UInt8).length + s_3.length ≤ i64max]) (by kernel_rfl) (And.intro h8 trivial) ?_
      refine GoO.regionEnd ?_
      refine GoO.seq' c77_18e ?_
      refine GoO.region' (is := [0, 1, 2]) c77_19e (by kernel_rfl) ?_
      refine GoO.exec (is := [0, 1, 2]) (hs := [.p, .p, .p]) (rest := []) (ks := [0, 3, 4]) (env' := [(0, .int .u64 (wu64 (x_2.tdiv 256))), (3, .string (bs ([u8of (x_2.tmod 256)] ++ s_3))), (4, .int .i64 n_4)]) (H' := []) (ps := [(256 : Int) ≠ 0]) (by kernel_rfl) (And.intro (by decide) trivial) ?_
      refine GoO.regionEnd ?_
      refine GoO.region' (is := [0, 1, 2]) c77_20e (by kernel_rfl) ?_
      refine GoO.exec (is := [0, 1, 2]) (hs := [.p, .p, .p]) (rest := []) (ks := [0, 3, 4]) (env' := [(0, .int .u64 (wu64 (x_2.tdiv 256))), (3, .string (bs ([u8of (x_2.tmod 256)] ++ s_3))), (4, .int .i64 (wi64 (n_4 + 1)))]) (H' := []) (ps := []) (by kernel_rfl) trivial ?_
      refine GoO.regionEnd ?_
      refine GoO.inBlock ?_
      refine GoO.inLoop ?_
      exact GoO.sub (ks := [0, 3, 4]) (hk := []) (bk := []) (by kernel_rfl) (by kernel_rfl) (by kernel_rfl) (ih0 (wu64 (x_2.tdiv 256)) ([u8of (x_2.tmod 256)] ++ s_3) (wi64 (n_4 + 1)))
    · refine GoO.exit' c77_14e rfl ?_
      refine GoO.seq' c77_21e ?_
      refine GoO.region' (is := [0, 1, 2, 3, 4, 5, 6]) c77_22e (by kernel_rfl) ?_
      refine GoO.exec (is := [0, 1]) (hs := [.p, .p]) (rest := [2, 3, 4, 5, 6]) (ks := [3, 19]) (env' := [(3, .string (bs s_3)), (19, .int .u8 (wu8 n_4))]) (H' := []) (ps := []) (by kernel_rfl) trivial ?_
      refine OpTo.go (GoO.lit (e := 5) (K := Kd.u8) rfl (by kernel_rfl) (by kernel_rfl) (cs := [.int .u8 (wu8 n_4)]) (by kernel_rfl) [u8of n_4] (by kernel_rfl) (by kernel_rfl) (fun w S hB => ⟨[.int .u8 (wu8 n_4)], _, rfl, (congrArg (fun v => [v]) (u8cell _)), rfl⟩) 41 _ (fun _ _ => rfl) (fun A_9 c_10 => ?_))
      refine OpTo.go (GoO.toStr (e := 5) (A := A_9) (c := c_10) (xs := [u8of n_4]) (j := 0) rfl (by kernel_rfl) (by kernel_rfl) (by kernel_rfl) (by kernel_rfl) rfl Reads.own rfl rfl ?_)
      refine GoO.guard (fun h11 => ?_)
      refine GoO.exec (is := [4, 5, 6]) (hs := [.p, .p, .p]) (rest := []) (ks := [2]) (env' := [(2, .string (bs ([u8of n_4] ++ s_3)))]) (H' := []) (ps := [([u8of n_4] : List UInt8).length + s_3.length ≤ i64max]) (by kernel_rfl) (And.intro h11 trivial) ?_
      refine GoO.regionEnd ?_
      exact GoO.ret' (h := c77_23e) (hs := []) (ps := []) (hk := []) (bk := []) Try.func77 () (by kernel_rfl) trivial (by kernel_rfl) (by kernel_rfl)
theorem tontineref03_Num_ok (n : Nat) (x_1 : Int) :
    Meets Try.prog 77 [.int .u64 x_1] 0 [] [] [] (tontineref03_Num.f n x_1) (tontineref03_Num.R) := by
  refine Meets.of (c := c77_0) (n := 24) Try.func77 (by kernel_rfl) (by kernel_rfl) (by kernel_rfl) fun w0 S0 => ?_
  unfold tontineref03_Num.f
  show GoO (tontineref03_Num.cx w0 S0) [(0, .int .u64 x_1)] [] [] [.code c77_0] _
  refine GoO.seq' c77_0e ?_
  refine GoO.region' (is := [0]) c77_1e (by kernel_rfl) ?_
  refine GoO.exec (is := [0]) (hs := [.p]) (rest := []) (ks := [0]) (env' := [(0, .int .u64 x_1)]) (H' := []) (ps := []) (by kernel_rfl) trivial ?_
  refine GoO.regionEnd ?_
  refine GoO.seq' c77_2e ?_
  refine GoO.region' (is := [0]) c77_3e (by kernel_rfl) ?_
  refine GoO.exec (is := [0]) (hs := [.p]) (rest := []) (ks := [0, 3]) (env' := [(0, .int .u64 x_1), (3, .string (bs []))]) (H' := []) (ps := []) (by kernel_rfl) trivial ?_
  refine GoO.regionEnd ?_
  refine GoO.seq' c77_4e ?_
  refine GoO.region' (is := [0]) c77_5e (by kernel_rfl) ?_
  refine GoO.exec (is := [0]) (hs := [.p]) (rest := []) (ks := [0, 3, 4]) (env' := [(0, .int .u64 x_1), (3, .string (bs [])), (4, .int .i64 0)]) (H' := []) (ps := []) (by kernel_rfl) trivial ?_
  refine GoO.regionEnd ?_
  refine GoO.seq' c77_6e ?_
  refine GoO.block' c77_7e ?_
  refine GoO.loop' c77_8e ?_
  exact GoO.sub (ks := [0, 3, 4]) (hk := []) (bk := []) (by kernel_rfl) (by kernel_rfl) (by kernel_rfl) (tontineref03_Num_l0_ok n w0 S0 n x_1 [] 0)

/-! tontine/tontineref07.Config -/
noncomputable def c43_0 : Code := bodyOf Try.f43
noncomputable def c43_1 : Code := cdL c43_0
noncomputable def c43_2 : Code := cdR c43_0
noncomputable def c43_3 : Code := cdL c43_2
noncomputable def c43_4 : Code := cdR c43_2
noncomputable def r43_1 : Array Oper := cdO c43_1
noncomputable def r43_3 : Array Oper := cdO c43_3
theorem c43_0e : c43_0 = .seq c43_1 c43_2 := by kernel_rfl
theorem c43_1e : c43_1 = .region 0 r43_1 false := by kernel_rfl
theorem c43_2e : c43_2 = .seq c43_3 c43_4 := by kernel_rfl
theorem c43_3e : c43_3 = .region 1 r43_3 false := by kernel_rfl
theorem c43_4e : c43_4 = .ret := by kernel_rfl
noncomputable def tontineref07_Config.R : Pst (List UInt8) where
  ε := Unit
  v := fun r x => .string (bs r)
  H := fun r x => []
  B := fun r x => []
noncomputable def tontineref07_Config.cx (w0 : World) (S0 : Fam) : Cx (List UInt8) := ⟨Try.prog, 43, Try.f43, 5, w0, S0, [], 0, tontineref07_Config.R⟩
theorem tontineref07_Config_ok (n : Nat) (c_1 : Int) :
    Meets Try.prog 43 [.int .u64 c_1] 0 [] [] [] (tontineref07_Config.f n c_1) (tontineref07_Config.R) := by
  refine Meets.of (c := c43_0) (n := 5) Try.func43 (by kernel_rfl) (by kernel_rfl) (by kernel_rfl) fun w0 S0 => ?_
  unfold tontineref07_Config.f
  show GoO (tontineref07_Config.cx w0 S0) [(0, .int .u64 c_1)] [] [] [.code c43_0] _
  refine GoO.seq' c43_0e ?_
  refine GoO.region' (is := [0]) c43_1e (by kernel_rfl) ?_
  refine GoO.exec (is := [0]) (hs := [.p]) (rest := []) (ks := [0]) (env' := [(0, .int .u64 c_1)]) (H' := []) (ps := []) (by kernel_rfl) trivial ?_
  refine GoO.regionEnd ?_
  refine GoO.seq' c43_2e ?_
  refine GoO.region' (is := [0, 1, 2]) c43_3e (by kernel_rfl) ?_
  refine GoO.exec (is := [0]) (hs := [.p]) (rest := [1, 2]) (ks := [3]) (env' := [(3, .int .u64 c_1)]) (H' := []) (ps := []) (by kernel_rfl) trivial ?_
  refine OpTo.go (GoO.call rfl (by kernel_rfl) (by kernel_rfl) (tontineref03_Num_ok n c_1) [[0]] [] [] [] (hks := []) (bks := []) (by kernel_rfl) (by kernel_rfl) (by kernel_rfl) (.inl rfl) rfl rfl (by kernel_rfl) (by kernel_rfl) _ (fun _ _ => rfl) _ _ (fun _ _ => rfl) (fun _ _ => rfl) (fun _ _ => by kernel_rfl) (fun _ _ => by kernel_rfl) (fun r_2 x_3 => ?_))
  refine GoO.shape (env' := [(3, .int .u64 c_1), (4, .string (bs r_2))]) (H' := []) (B' := []) (ks := [3, 4]) (by kernel_rfl) (by kernel_rfl) (by kernel_rfl) ?_
  refine GoO.exec (is := [2]) (hs := [.p]) (rest := []) (ks := [2]) (env' := [(2, .string (bs r_2))]) (H' := []) (ps := []) (by kernel_rfl) trivial ?_
  refine GoO.regionEnd ?_
  exact GoO.ret' (h := c43_4e) (hs := []) (ps := []) (hk := []) (bk := []) Try.func43 () (by kernel_rfl) trivial (by kernel_rfl) (by kernel_rfl)

/-! tontine/tontinelaw07.RlogNone -/
noncomputable def c10_0 : Code := bodyOf Try.f10
noncomputable def c10_1 : Code := cdL c10_0
noncomputable def c10_2 : Code := cdR c10_0
noncomputable def c10_3 : Code := cdL c10_2
noncomputable def c10_4 : Code := cdL c10_3
noncomputable def c10_5 : Code := cdR c10_3
noncomputable def c10_6 : Code := cdL c10_5
noncomputable def c10_7 : Code := cdL c10_6
noncomputable def c10_8 : Code := cdR c10_6
noncomputable def c10_9 : Code := cdR c10_5
noncomputable def c10_10 : Code := cdR c10_2
noncomputable def c10_11 : Code := cdL c10_10
noncomputable def c10_12 : Code := cdR c10_10
noncomputable def c10_13 : Code := cdL c10_12
noncomputable def c10_14 : Code := cdR c10_12
noncomputable def c10_15 : Code := cdL c10_14
noncomputable def c10_16 : Code := cdR c10_14
noncomputable def c10_17 : Code := cdL c10_16
noncomputable def c10_18 : Code := cdR c10_16
noncomputable def c10_19 : Code := cdL c10_18
noncomputable def c10_20 : Code := cdR c10_18
noncomputable def c10_21 : Code := cdL c10_20
noncomputable def c10_22 : Code := cdR c10_20
noncomputable def c10_23 : Code := cdL c10_22
noncomputable def c10_24 : Code := cdR c10_22
noncomputable def c10_25 : Code := cdL c10_24
noncomputable def c10_26 : Code := cdR c10_24
noncomputable def c10_27 : Code := cdL c10_26
noncomputable def c10_28 : Code := cdR c10_26
noncomputable def r10_1 : Array Oper := cdO c10_1
noncomputable def r10_4 : Array Oper := cdO c10_4
noncomputable def r10_7 : Array Oper := cdO c10_7
noncomputable def r10_11 : Array Oper := cdO c10_11
noncomputable def r10_13 : Array Oper := cdO c10_13
noncomputable def r10_15 : Array Oper := cdO c10_15
noncomputable def r10_17 : Array Oper := cdO c10_17
noncomputable def r10_19 : Array Oper := cdO c10_19
noncomputable def r10_21 : Array Oper := cdO c10_21
noncomputable def r10_23 : Array Oper := cdO c10_23
noncomputable def r10_25 : Array Oper := cdO c10_25
noncomputable def r10_27 : Array Oper := cdO c10_27
theorem c10_0e : c10_0 = .seq c10_1 c10_2 := by kernel_rfl
theorem c10_1e : c10_1 = .region 0 r10_1 false := by kernel_rfl
theorem c10_2e : c10_2 = .seq c10_3 c10_10 := by kernel_rfl
theorem c10_3e : c10_3 = .seq c10_4 c10_5 := by kernel_rfl
theorem c10_4e : c10_4 = .region 1 r10_4 false := by kernel_rfl
theorem c10_5e : c10_5 = .cond (cdC c10_5) c10_6 c10_9 := by kernel_rfl
theorem c10_6e : c10_6 = .seq c10_7 c10_8 := by kernel_rfl
theorem c10_7e : c10_7 = .region 2 r10_7 false := by kernel_rfl
theorem c10_8e : c10_8 = .ret := by kernel_rfl
theorem c10_9e : c10_9 = .skip := by kernel_rfl
theorem c10_10e : c10_10 = .seq c10_11 c10_12 := by kernel_rfl
theorem c10_11e : c10_11 = .region 3 r10_11 false := by kernel_rfl
theorem c10_12e : c10_12 = .seq c10_13 c10_14 := by kernel_rfl
theorem c10_13e : c10_13 = .region 4 r10_13 false := by kernel_rfl
theorem c10_14e : c10_14 = .seq c10_15 c10_16 := by kernel_rfl
theorem c10_15e : c10_15 = .region 5 r10_15 false := by kernel_rfl
theorem c10_16e : c10_16 = .seq c10_17 c10_18 := by kernel_rfl
theorem c10_17e : c10_17 = .region 6 r10_17 false := by kernel_rfl
theorem c10_18e : c10_18 = .seq c10_19 c10_20 := by kernel_rfl
theorem c10_19e : c10_19 = .region 7 r10_19 false := by kernel_rfl
theorem c10_20e : c10_20 = .seq c10_21 c10_22 := by kernel_rfl
theorem c10_21e : c10_21 = .region 8 r10_21 false := by kernel_rfl
theorem c10_22e : c10_22 = .seq c10_23 c10_24 := by kernel_rfl
theorem c10_23e : c10_23 = .region 9 r10_23 false := by kernel_rfl
theorem c10_24e : c10_24 = .seq c10_25 c10_26 := by kernel_rfl
theorem c10_25e : c10_25 = .region 10 r10_25 false := by kernel_rfl
theorem c10_26e : c10_26 = .seq c10_27 c10_28 := by kernel_rfl
theorem c10_27e : c10_27 = .region 11 r10_27 false := by kernel_rfl
theorem c10_28e : c10_28 = .ret := by kernel_rfl
noncomputable def tontinelaw07_RlogNone.R : Pst Bool where
  ε := Unit
  v := fun r x => .bool r
  H := fun r x => []
  B := fun r x => []
noncomputable def tontinelaw07_RlogNone.cx (w0 : World) (S0 : Fam) : Cx Bool := ⟨Try.prog, 10, Try.f10, 132, w0, S0, [], 0, tontinelaw07_RlogNone.R⟩
theorem tontinelaw07_RlogNone_ok (n : Nat) (i_1 : Int) (n_2 : Int) (s_3 : T_api_Snapshot) :
    Meets Try.prog 10 [.int .u64 i_1, .int .i64 n_2, .agg ⟨[.int .u64 s_3.Index, .int .u64 s_3.Term, .int .u64 s_3.Config, .string (bs s_3.Data)]⟩] 0 [] [] [] (tontinelaw07_RlogNone.f n i_1 n_2 s_3) (tontinelaw07_RlogNone.R) := by
  refine Meets.of (c := c10_0) (n := 132) Try.func10 (by kernel_rfl) (by kernel_rfl) (by kernel_rfl) fun w0 S0 => ?_
  unfold tontinelaw07_RlogNone.f
  show GoO (tontinelaw07_RlogNone.cx w0 S0) [(0, .int .u64 i_1), (1, .int .i64 n_2), (2, .agg ⟨[.int .u64 s_3.Index, .int .u64 s_3.Term, .int .u64 s_3.Config, .string (bs s_3.Data)]⟩)] [] [] [.code c10_0] _
  refine GoO.seq' c10_0e ?_
  refine GoO.region' (is := [0, 1]) c10_1e (by kernel_rfl) ?_
  refine OpTo.go (GoO.new rfl 40 (cs := [.int .u64 s_3.Index, .int .u64 s_3.Term, .int .u64 s_3.Config, .string (bs s_3.Data)]) (by kernel_rfl) _ (fun _ => rfl) (fun b_4 => ?_))
  refine GoO.exec (is := [1]) (hs := [.p]) (rest := []) (ks := [0, 1, 5]) (env' := [(0, .int .u64 i_1), (1, .int .i64 n_2), (5, .pointer (some ⟨b_4, 0, none⟩))]) (H' := [⟨40, b_4, [.int .u64 s_3.Index, .int .u64 s_3.Term, .int .u64 s_3.Config, .string (bs s_3.Data)]⟩]) (ps := []) (by kernel_rfl) trivial ?_
  refine GoO.regionEnd ?_
  refine GoO.seq' c10_2e ?_
  refine GoO.seq' c10_3e ?_
  refine GoO.region' (is := [0, 1]) c10_4e (by kernel_rfl) ?_
  refine OpTo.go (GoO.call rfl (by kernel_rfl) (by kernel_rfl) (tontinelaw07_begun_ok n) [[0]] [] [] [] (hks := [0]) (bks := []) (by kernel_rfl) (by kernel_rfl) (by kernel_rfl) (.inl rfl) rfl rfl (by kernel_rfl) (by kernel_rfl) _ (fun _ _ => rfl) _ _ (fun _ _ => rfl) (fun _ _ => rfl) (fun _ _ => by kernel_rfl) (fun _ _ => by kernel_rfl) (fun r_5 x_52 => ?_))
  refine GoO.shape (env' := [(0, .int .u64 i_1), (1, .int .i64 n_2), (5, .pointer (some ⟨b_4, 0, none⟩)), (20, .bool r_5)]) (H' := [⟨40, b_4, [.int .u64 s_3.Index, .int .u64 s_3.Term, .int .u64 s_3.Config, .string (bs s_3.Data)]⟩]) (B' := []) (ks := [0, 1, 5, 20]) (by kernel_rfl) (by kernel_rfl) (by kernel_rfl) ?_
  refine GoO.exec (is := [1]) (hs := [.p]) (rest := []) (ks := [0, 1, 5, 21]) (env' := [(0, .int .u64 i_1), (1, .int .i64 n_2), (5, .pointer (some ⟨b_4, 0, none⟩)), (21, .bool (!r_5))]) (H' := [⟨40, b_4, [.int .u64 s_3.Index, .int .u64 s_3.Term, .int .u64 s_3.Config, .string (bs s_3.Data)]⟩]) (ps := []) (by kernel_rfl) trivial ?_
  refine GoO.regionEnd ?_
  refine GoO.ite' c10_5e (by kernel_rfl) (fun h6 => ?_) (fun h6 => ?_)
  · refine GoO.seq' c10_6e ?_
    refine GoO.region' (is := [0]) c10_7e (by kernel_rfl) ?_
    refine GoO.exec (is := [0]) (hs := [.p]) (rest := []) (ks := [6]) (env' := [(6, .bool false)]) (H' := [⟨40, b_4, [.int .u64 s_3.Index, .int .u64 s_3.Term, .int .u64 s_3.Config, .string (bs s_3.Data)]⟩]) (ps := []) (by kernel_rfl) trivial ?_
    refine GoO.regionEnd ?_
    exact GoO.ret' (h := c10_8e) (hs := []) (ps := []) (hk := []) (bk := []) Try.func10 () (by kernel_rfl) trivial (by kernel_rfl) (by kernel_rfl)
  · refine GoO.skip' c10_9e ?_
    refine GoO.seq' c10_10e ?_
    refine GoO.region' (is := [0]) c10_11e (by kernel_rfl) ?_
    refine GoO.exec (is := [0]) (hs := [.p]) (rest := []) (ks := [0, 1, 5, 7]) (env' := [(0, .int .u64 i_1), (1, .int .i64 n_2), (5, .pointer (some ⟨b_4, 0, none⟩)), (7, .pointer none)]) (H' := [⟨40, b_4, [.int .u64 s_3.Index, .int .u64 s_3.Term, .int .u64 s_3.Config, .string (bs s_3.Data)]⟩]) (ps := []) (by kernel_rfl) trivial ?_
    refine GoO.regionEnd ?_
    refine GoO.seq' c10_12e ?_
    refine GoO.region' (is := [0, 1, 2]) c10_13e (by kernel_rfl) ?_
    refine GoO.exec (is := [0, 1]) (hs := [.p, .p]) (rest := [2]) (ks := [0, 1, 5, 7, 22, 23]) (env' := [(0, .int .u64 i_1), (1, .int .i64 n_2), (5, .pointer (some ⟨b_4, 0, none⟩)), (7, .pointer none), (22, .pointer none), (23, .int .u64 i_1)]) (H' := [⟨40, b_4, [.int .u64 s_3.Index, .int .u64 s_3.Term, .int .u64 s_3.Config, .string (bs s_3.Data)]⟩]) (ps := []) (by kernel_rfl) trivial ?_
    refine OpTo.go (GoO.call rfl (by kernel_rfl) (by kernel_rfl) (rlog_Log_Cut_n0_ok n i_1) [[0]] [] [] [] (hks := [0]) (bks := []) (by kernel_rfl) (by kernel_rfl) (by kernel_rfl) (.inl rfl) rfl rfl (by kernel_rfl) (by kernel_rfl) _ (fun _ _ => rfl) _ _ (fun _ _ => rfl) (fun _ _ => rfl) (fun _ _ => by kernel_rfl) (fun _ _ => by kernel_rfl) (fun r_7 x_51 => ?_))
    refine GoO.shape (env' := [(0, .int .u64 i_1), (1, .int .i64 n_2), (5, .pointer (some ⟨b_4, 0, none⟩)), (7, .pointer none), (22, .pointer none), (23, .int .u64 i_1), (24, .tuple ⟨[]⟩)]) (H' := [⟨40, b_4, [.int .u64 s_3.Index, .int .u64 s_3.Term, .int .u64 s_3.Config, .string (bs s_3.Data)]⟩]) (B' := []) (ks := [0, 1, 5, 7, 22, 23, 24]) (by kernel_rfl) (by kernel_rfl) (by kernel_rfl) ?_
    refine GoO.regionEnd ?_
    refine GoO.seq' c10_14e ?_
    refine GoO.region' (is := [0, 1, 2, 3, 4, 5, 6]) c10_15e (by kernel_rfl) ?_
    refine GoO.exec (is := [0]) (hs := [.p]) (rest := [1, 2, 3, 4, 5, 6]) (ks := [0, 1, 5, 7, 26]) (env' := [(0, .int .u64 i_1), (1, .int .i64 n_2), (5, .pointer (some ⟨b_4, 0, none⟩)), (7, .pointer none), (26, .pointer none)]) (H' := [⟨40, b_4, [.int .u64 s_3.Index, .int .u64 s_3.Term, .int .u64 s_3.Config, .string (bs s_3.Data)]⟩]) (ps := []) (by kernel_rfl) trivial ?_
    refine OpTo.go (GoO.call rfl (by kernel_rfl) (by kernel_rfl) (rlog_Log_Last_n0_ok n) [[0]] [] [] [] (hks := [0]) (bks := []) (by kernel_rfl) (by kernel_rfl) (by kernel_rfl) (.inl rfl) rfl rfl (by kernel_rfl) (by kernel_rfl) _ (fun _ _ => rfl) _ _ (fun _ _ => rfl) (fun _ _ => rfl) (fun _ _ => by kernel_rfl) (fun _ _ => by kernel_rfl) (fun r_8 x_50 => ?_))
    refine GoO.shape (env' := [(0, .int .u64 i_1), (1, .int .i64 n_2), (5, .pointer (some ⟨b_4, 0, none⟩)), (7, .pointer none), (26, .pointer none), (27, .tuple ⟨[.int .u64 r_8.1, .int .u64 r_8.2]⟩)]) (H' := [⟨40, b_4, [.int .u64 s_3.Index, .int .u64 s_3.Term, .int .u64 s_3.Config, .string (bs s_3.Data)]⟩]) (B' := []) (ks := [0, 1, 5, 7, 26, 27]) (by kernel_rfl) (by kernel_rfl) (by kernel_rfl) ?_
    refine GoO.exec (is := [2, 3, 4, 5, 6]) (hs := [.p, .p, .p, .p, .p]) (rest := []) (ks := [0, 1, 5, 7, 8, 9]) (env' := [(0, .int .u64 i_1), (1, .int .i64 n_2), (5, .pointer (some ⟨b_4, 0, none⟩)), (7, .pointer none), (8, .int .u64 r_8.1), (9, .int .u64 r_8.2)]) (H' := [⟨40, b_4, [.int .u64 s_3.Index, .int .u64 s_3.Term, .int .u64 s_3.Config, .string (bs s_3.Data)]⟩]) (ps := []) (by kernel_rfl) trivial ?_
    refine GoO.regionEnd ?_
    refine GoO.seq' c10_16e ?_
    refine GoO.region' (is := [0, 1, 2, 3, 4, 5, 6]) c10_17e (by kernel_rfl) ?_
    refine GoO.exec (is := [0]) (hs := [.p]) (rest := [1, 2, 3, 4, 5, 6]) (ks := [0, 1, 5, 7, 8, 9, 31]) (env' := [(0, .int .u64 i_1), (1, .int .i64 n_2), (5, .pointer (some ⟨b_4, 0, none⟩)), (7, .pointer none), (8, .int .u64 r_8.1), (9, .int .u64 r_8.2), (31, .pointer none)]) (H' := [⟨40, b_4, [.int .u64 s_3.Index, .int .u64 s_3.Term, .int .u64 s_3.Config, .string (bs s_3.Data)]⟩]) (ps := []) (by kernel_rfl) trivial ?_
    refine OpTo.go (GoO.call rfl (by kernel_rfl) (by kernel_rfl) (rlog_Log_Members_n0_ok n) [[0]] [] [] [] (hks := [0]) (bks := []) (by kernel_rfl) (by kernel_rfl) (by kernel_rfl) (.inl rfl) rfl rfl (by kernel_rfl) (by kernel_rfl) _ (fun _ _ => rfl) _ _ (fun _ _ => rfl) (fun _ _ => rfl) (fun _ _ => by kernel_rfl) (fun _ _ => by kernel_rfl) (fun r_9 x_49 => ?_))
    refine GoO.shape (env' := [(0, .int .u64 i_1), (1, .int .i64 n_2), (5, .pointer (some ⟨b_4, 0, none⟩)), (7, .pointer none), (8, .int .u64 r_8.1), (9, .int .u64 r_8.2), (31, .pointer none), (32, .tuple ⟨[.int .u64 r_9.1, .int .u64 r_9.2]⟩)]) (H' := [⟨40, b_4, [.int .u64 s_3.Index, .int .u64 s_3.Term, .int .u64 s_3.Config, .string (bs s_3.Data)]⟩]) (B' := []) (ks := [0, 1, 5, 7, 8, 9, 31, 32]) (by kernel_rfl) (by kernel_rfl) (by kernel_rfl) ?_
    refine GoO.exec (is := [2, 3, 4, 5, 6]) (hs := [.p, .p, .p, .p, .p]) (rest := []) (ks := [0, 1, 5, 7, 8, 9, 10, 11]) (env' := [(0, .int .u64 i_1), (1, .int .i64 n_2), (5, .pointer (some ⟨b_4, 0, none⟩)), (7, .pointer none), (8, .int .u64 r_8.1), (9, .int .u64 r_8.2), (10, .int .u64 r_9.1), (11, .int .u64 r_9.2)]) (H' := [⟨40, b_4, [.int .u64 s_3.Index, .int .u64 s_3.Term, .int .u64 s_3.Config, .string (bs s_3.Data)]⟩]) (ps := []) (by kernel_rfl) trivial ?_
    refine GoO.regionEnd ?_
    refine GoO.seq' c10_18e ?_
    refine GoO.region' (is := [0, 1, 2, 3, 4, 5, 6, 7]) c10_19e (by kernel_rfl) ?_
    refine GoO.exec (is := [0, 1]) (hs := [.p, .p]) (rest := [2, 3, 4, 5, 6, 7]) (ks := [0, 1, 5, 7, 8, 9, 10, 11, 36, 37]) (env' := [(0, .int .u64 i_1), (1, .int .i64 n_2), (5, .pointer (some ⟨b_4, 0, none⟩)), (7, .pointer none), (8, .int .u64 r_8.1), (9, .int .u64 r_8.2), (10, .int .u64 r_9.1), (11, .int .u64 r_9.2), (36, .pointer none), (37, .int .u64 i_1)]) (H' := [⟨40, b_4, [.int .u64 s_3.Index, .int .u64 s_3.Term, .int .u64 s_3.Config, .string (bs s_3.Data)]⟩]) (ps := []) (by kernel_rfl) trivial ?_
    refine OpTo.go (GoO.call rfl (by kernel_rfl) (by kernel_rfl) (rlog_Log_MembersAt_n0_ok n i_1) [[0]] [] [] [] (hks := [0]) (bks := []) (by kernel_rfl) (by kernel_rfl) (by kernel_rfl) (.inl rfl) rfl rfl (by kernel_rfl) (by kernel_rfl) _ (fun _ _ => rfl) _ _ (fun _ _ => rfl) (fun _ _ => rfl) (fun _ _ => by kernel_rfl) (fun _ _ => by kernel_rfl) (fun r_10 x_48 => ?_))
    refine GoO.shape (env' := [(0, .int .u64 i_1), (1, .int .i64 n_2), (5, .pointer (some ⟨b_4, 0, none⟩)), (7, .pointer none), (8, .int .u64 r_8.1), (9, .int .u64 r_8.2), (10, .int .u64 r_9.1), (11, .int .u64 r_9.2), (36, .pointer none), (37, .int .u64 i_1), (38, .tuple ⟨[.int .u64 r_10.1, .int .u64 r_10.2]⟩)]) (H' := [⟨40, b_4, [.int .u64 s_3.Index, .int .u64 s_3.Term, .int .u64 s_3.Config, .string (bs s_3.Data)]⟩]) (B' := []) (ks := [0, 1, 5, 7, 8, 9, 10, 11, 36, 37, 38]) (by kernel_rfl) (by kernel_rfl) (by kernel_rfl) ?_
    refine GoO.exec (is := [3, 4, 5, 6, 7]) (hs := [.p, .p, .p, .p, .p]) (rest := []) (ks := [0, 1, 5, 7, 8, 9, 10, 11, 12, 13]) (env' := [(0, .int .u64 i_1), (1, .int .i64 n_2), (5, .pointer (some ⟨b_4, 0, none⟩)), (7, .pointer none), (8, .int .u64 r_8.1), (9, .int .u64 r_8.2), (10, .int .u64 r_9.1), (11, .int .u64 r_9.2), (12, .int .u64 r_10.1), (13, .int .u64 r_10.2)]) (H' := [⟨40, b_4, [.int .u64 s_3.Index, .int .u64 s_3.Term, .int .u64 s_3.Config, .string (bs s_3.Data)]⟩]) (ps := []) (by kernel_rfl) trivial ?_
    refine GoO.regionEnd ?_
    refine GoO.seq' c10_20e ?_
    refine GoO.region' (is := [0, 1, 2, 3, 4, 5, 6, 7]) c10_21e (by kernel_rfl) ?_
    refine GoO.exec (is := [0, 1]) (hs := [.p, .p]) (rest := [2, 3, 4, 5, 6, 7]) (ks := [0, 1, 5, 7, 8, 9, 10, 11, 12, 13, 42, 43]) (env' := [(0, .int .u64 i_1), (1, .int .i64 n_2), (5, .pointer (some ⟨b_4, 0, none⟩)), (7, .pointer none), (8, .int .u64 r_8.1), (9, .int .u64 r_8.2), (10, .int .u64 r_9.1), (11, .int .u64 r_9.2), (12, .int .u64 r_10.1), (13, .int .u64 r_10.2), (42, .pointer none), (43, .int .u64 i_1)]) (H' := [⟨40, b_4, [.int .u64 s_3.Index, .int .u64 s_3.Term, .int .u64 s_3.Config, .string (bs s_3.Data)]⟩]) (ps := []) (by kernel_rfl) trivial ?_
    refine OpTo.go (GoO.call rfl (by kernel_rfl) (by kernel_rfl) (rlog_Log_Term_n0_ok n i_1) [[0]] [] [] [] (hks := [0]) (bks := []) (by kernel_rfl) (by kernel_rfl) (by kernel_rfl) (.inl rfl) rfl rfl (by kernel_rfl) (by kernel_rfl) _ (fun _ _ => rfl) _ _ (fun _ _ => rfl) (fun _ _ => rfl) (fun _ _ => by kernel_rfl) (fun _ _ => by kernel_rfl) (fun r_11 x_47 => ?_))
    refine GoO.shape (env' := [(0, .int .u64 i_1), (1, .int .i64 n_2), (5, .pointer (some ⟨b_4, 0, none⟩)), (7, .pointer none), (8, .int .u64 r_8.1), (9, .int .u64 r_8.2), (10, .int .u64 r_9.1), (11, .int .u64 r_9.2), (12, .int .u64 r_10.1), (13, .int .u64 r_10.2), (42, .pointer none), (43, .int .u64 i_1), (44, .tuple ⟨[.int .u64 r_11.1, .int .i64 r_11.2]⟩)]) (H' := [⟨40, b_4, [.int .u64 s_3.Index, .int .u64 s_3.Term, .int .u64 s_3.Config, .string (bs s_3.Data)]⟩]) (B' := []) (ks := [0, 1, 5, 7, 8, 9, 10, 11, 12, 13, 42, 43, 44]) (by kernel_rfl) (by kernel_rfl) (by kernel_rfl) ?_
    refine GoO.exec (is := [3, 4, 5, 6, 7]) (hs := [.p, .p, .p, .p, .p]) (rest := []) (ks := [0, 1, 5, 7, 8, 9, 10, 11, 12, 13, 15]) (env' := [(0, .int .u64 i_1), (1, .int .i64 n_2), (5, .pointer (some ⟨b_4, 0, none⟩)), (7, .pointer none), (8, .int .u64 r_8.1), (9, .int .u64 r_8.2), (10, .int .u64 r_9.1), (11, .int .u64 r_9.2), (12, .int .u64 r_10.1), (13, .int .u64 r_10.2), (15, .int .i64 r_11.2)]) (H' := [⟨40, b_4, [.int .u64 s_3.Index, .int .u64 s_3.Term, .int .u64 s_3.Config, .string (bs s_3.Data)]⟩]) (ps := []) (by kernel_rfl) trivial ?_
    refine GoO.regionEnd ?_
    refine GoO.seq' c10_22e ?_
    refine GoO.region' (is := [0, 1, 2, 3, 4, 5, 6, 7, 8]) c10_23e (by kernel_rfl) ?_
    refine GoO.exec (is := [0, 1]) (hs := [.p, .p]) (rest := [2, 3, 4, 5, 6, 7, 8]) (ks := [0, 1, 5, 7, 8, 9, 10, 11, 12, 13, 15, 48, 49]) (env' := [(0, .int .u64 i_1), (1, .int .i64 n_2), (5, .pointer (some ⟨b_4, 0, none⟩)), (7, .pointer none), (8, .int .u64 r_8.1), (9, .int .u64 r_8.2), (10, .int .u64 r_9.1), (11, .int .u64 r_9.2), (12, .int .u64 r_10.1), (13, .int .u64 r_10.2), (15, .int .i64 r_11.2), (48, .pointer none), (49, .int .u64 i_1)]) (H' := [⟨40, b_4, [.int .u64 s_3.Index, .int .u64 s_3.Term, .int .u64 s_3.Config, .string (bs s_3.Data)]⟩]) (ps := []) (by kernel_rfl) trivial ?_
    refine OpTo.go (GoO.call rfl (by kernel_rfl) (by kernel_rfl) (rlog_Log_Add_n0_ok n i_1 1 []) [[0]] [] [] [] (hks := [0]) (bks := []) (by kernel_rfl) (by kernel_rfl) (by kernel_rfl) (.inl rfl) rfl rfl (by kernel_rfl) (by kernel_rfl) _ (fun _ _ => rfl) _ _ (fun _ _ => rfl) (fun _ _ => rfl) (fun _ _ => by kernel_rfl) (fun _ _ => by kernel_rfl) (fun r_12 x_46 => ?_))
    refine GoO.shape (env' := [(0, .int .u64 i_1), (1, .int .i64 n_2), (5, .pointer (some ⟨b_4, 0, none⟩)), (7, .pointer none), (8, .int .u64 r_8.1), (9, .int .u64 r_8.2), (10, .int .u64 r_9.1), (11, .int .u64 r_9.2), (12, .int .u64 r_10.1), (13, .int .u64 r_10.2), (15, .int .i64 r_11.2), (48, .pointer none), (49, .int .u64 i_1), (50, .tuple ⟨[.agg ⟨[.int .u64 r_12.1.Term, .int .u64 r_12.1.Index, .int .i64 r_12.1.Kind, .string (bs r_12.1.Data)]⟩, .int .i64 r_12.2]⟩)]) (H' := [⟨40, b_4, [.int .u64 s_3.Index, .int .u64 s_3.Term, .int .u64 s_3.Config, .string (bs s_3.Data)]⟩]) (B' := []) (ks := [0, 1, 5, 7, 8, 9, 10, 11, 12, 13, 15, 48, 49, 50]) (by kernel_rfl) (by kernel_rfl) (by kernel_rfl) ?_
    refine GoO.exec (is := [3, 4, 5]) (hs := [.p, .p, .p]) (rest := [6, 7, 8]) (ks := [0, 1, 5, 7, 8, 9, 10, 11, 12, 13, 15, 51, 52]) (env' := [(0, .int .u64 i_1), (1, .int .i64 n_2), (5, .pointer (some ⟨b_4, 0, none⟩)), (7, .pointer none), (8, .int .u64 r_8.1), (9, .int .u64 r_8.2), (10, .int .u64 r_9.1), (11, .int .u64 r_9.2), (12, .int .u64 r_10.1), (13, .int .u64 r_10.2), (15, .int .i64 r_11.2), (51, .agg ⟨[.int .u64 r_12.1.Term, .int .u64 r_12.1.Index, .int .i64 r_12.1.Kind, .string (bs r_12.1.Data)]⟩), (52, .int .i64 r_12.2)]) (H' := [⟨40, b_4, [.int .u64 s_3.Index, .int .u64 s_3.Term, .int .u64 s_3.Config, .string (bs s_3.Data)]⟩]) (ps := []) (by kernel_rfl) trivial ?_
    refine OpTo.go (GoO.new rfl 41 (cs := [.int .u64 0, .int .u64 0, .int .i64 0, .string (bs [])]) (by kernel_rfl) _ (fun _ => rfl) (fun b_13 => ?_))
    refine GoO.exec (is := [7, 8]) (hs := [.b 0, .p]) (rest := []) (ks := [0, 1, 5, 7, 8, 9, 10, 11, 12, 13, 15, 17]) (env' := [(0, .int .u64 i_1), (1, .int .i64 n_2), (5, .pointer (some ⟨b_4, 0, none⟩)), (7, .pointer none), (8, .int .u64 r_8.1), (9, .int .u64 r_8.2), (10, .int .u64 r_9.1), (11, .int .u64 r_9.2), (12, .int .u64 r_10.1), (13, .int .u64 r_10.2), (15, .int .i64 r_11.2), (17, .int .i64 r_12.2)]) (H' := [⟨41, b_13, [.int .u64 r_12.1.Term, .int .u64 r_12.1.Index, .int .i64 r_12.1.Kind, .string (bs r_12.1.Data)]⟩, ⟨40, b_4, [.int .u64 s_3.Index, .int .u64 s_3.Term, .int .u64 s_3.Config, .string (bs s_3.Data)]⟩]) (ps := [b_13 = b_13]) (by kernel_rfl) (And.intro rfl trivial) ?_
    refine GoO.regionEnd ?_
    refine GoO.seq' c10_24e ?_
    refine GoO.region' (is := [0, 1, 2, 3, 4, 5, 6, 7, 8]) c10_25e (by kernel_rfl) ?_
    refine GoO.exec (is := [0, 1, 2]) (hs := [.p, .p, .p]) (rest := [3, 4, 5, 6, 7, 8]) (ks := [0, 1, 5, 7, 8, 9, 10, 11, 12, 13, 15, 17, 54, 55, 56]) (env' := [(0, .int .u64 i_1), (1, .int .i64 n_2), (5, .pointer (some ⟨b_4, 0, none⟩)), (7, .pointer none), (8, .int .u64 r_8.1), (9, .int .u64 r_8.2), (10, .int .u64 r_9.1), (11, .int .u64 r_9.2), (12, .int .u64 r_10.1), (13, .int .u64 r_10.2), (15, .int .i64 r_11.2), (17, .int .i64 r_12.2), (54, .pointer none), (55, .int .u64 i_1), (56, .int .u64 i_1)]) (H' := [⟨41, b_13, [.int .u64 r_12.1.Term, .int .u64 r_12.1.Index, .int .i64 r_12.1.Kind, .string (bs r_12.1.Data)]⟩, ⟨40, b_4, [.int .u64 s_3.Index, .int .u64 s_3.Term, .int .u64 s_3.Config, .string (bs s_3.Data)]⟩]) (ps := []) (by kernel_rfl) trivial ?_
    refine GoO.nilRd kT_api_Entry ?_
    refine OpTo.go (GoO.call rfl (by kernel_rfl) (by kernel_rfl) (rlog_Log_Merge_n0_ok n i_1 i_1 ([] : List T_api_Entry) none 0) [[0]] [(42, 1)] [] [(0, 0)] (hks := [0, 1]) (bks := [0]) (by kernel_rfl) (by kernel_rfl) (by kernel_rfl) (.inl rfl) rfl rfl (by kernel_rfl) (by kernel_rfl) _ (fun _ _ => rfl) _ _ (fun _ _ => rfl) (fun _ _ => rfl) (fun _ _ => by kernel_rfl) (fun _ _ => by kernel_rfl) (fun r_14 x_45 => ?_))
    obtain ⟨A_15, c_16⟩ := x_45
    refine GoO.shape (env' := [(0, .int .u64 i_1), (1, .int .i64 n_2), (5, .pointer (some ⟨b_4, 0, none⟩)), (7, .pointer none), (8, .int .u64 r_8.1), (9, .int .u64 r_8.2), (10, .int .u64 r_9.1), (11, .int .u64 r_9.2), (12, .int .u64 r_10.1), (13, .int .u64 r_10.2), (15, .int .i64 r_11.2), (17, .int .i64 r_12.2), (54, .pointer none), (55, .int .u64 i_1), (56, .int .u64 i_1), (57, .tuple ⟨[.slice A_15 r_14.1.length c_16, .bool r_14.2]⟩)]) (H' := [⟨41, b_13, [.int .u64 r_12.1.Term, .int .u64 r_12.1.Index, .int .i64 r_12.1.Kind, .string (bs r_12.1.Data)]⟩, ⟨40, b_4, [.int .u64 s_3.Index, .int .u64 s_3.Term, .int .u64 s_3.Config, .string (bs s_3.Data)]⟩]) (B' := [Ow 42 kT_api_Entry A_15 c_16 r_14.1, Rd 0 kT_api_Entry none 0 ([] : List T_api_Entry)]) (ks := [0, 1, 5, 7, 8, 9, 10, 11, 12, 13, 15, 17, 54, 55, 56, 57]) (by kernel_rfl) (by kernel_rfl) (by kernel_rfl) ?_
    refine GoO.exec (is := [4, 5, 6, 7, 8]) (hs := [.p, .p, .p, .p, .p]) (rest := []) (ks := [0, 1, 5, 7, 8, 9, 10, 11, 12, 13, 15, 17, 18, 19]) (env' := [(0, .int .u64 i_1), (1, .int .i64 n_2), (5, .pointer (some ⟨b_4, 0, none⟩)), (7, .pointer none), (8, .int .u64 r_8.1), (9, .int .u64 r_8.2), (10, .int .u64 r_9.1), (11, .int .u64 r_9.2), (12, .int .u64 r_10.1), (13, .int .u64 r_10.2), (15, .int .i64 r_11.2), (17, .int .i64 r_12.2), (18, .slice A_15 r_14.1.length c_16), (19, .bool r_14.2)]) (H' := [⟨41, b_13, [.int .u64 r_12.1.Term, .int .u64 r_12.1.Index, .int .i64 r_12.1.Kind, .string (bs r_12.1.Data)]⟩, ⟨40, b_4, [.int .u64 s_3.Index, .int .u64 s_3.Term, .int .u64 s_3.Config, .string (bs s_3.Data)]⟩]) (ps := []) (by kernel_rfl) trivial ?_
    refine GoO.regionEnd ?_
    refine GoO.seq' c10_26e ?_
    refine GoO.region' (is := [0, 1, 2, 3, 4, 5, 6, 7, 8, 9, 10, 11, 12, 13, 14, 15, 16, 17, 18, 19, 20, 21, 22, 23, 24, 25, 26, 27, 28, 29, 30, 31, 32, 33, 34, 35, 36, 37, 38, 39, 40, 41, 42, 43, 44, 45, 46, 47, 48, 49, 50, 51, 52, 53, 54, 55, 56, 57, 58, 59, 60, 61, 62, 63, 64, 65, 66, 67, 68, 69, 70, 71, 72]) c10_27e (by kernel_rfl) ?_
    refine GoO.exec (is := [0, 1, 2]) (hs := [.p, .p, .p]) (rest := [3, 4, 5, 6, 7, 8, 9, 10, 11, 12, 13, 14, 15, 16, 17, 18, 19, 20, 21, 22, 23, 24, 25, 26, 27, 28, 29, 30, 31, 32, 33, 34, 35, 36, 37, 38, 39, 40, 41, 42, 43, 44, 45, 46, 47, 48, 49, 50, 51, 52, 53, 54, 55, 56, 57, 58, 59, 60, 61, 62, 63, 64, 65, 66, 67, 68, 69, 70, 71, 72]) (ks := [0, 1, 5, 7, 9, 10, 11, 12, 13, 15, 17, 18, 19, 62]) (env' := [(0, .int .u64 i_1), (1, .int .i64 n_2), (5, .pointer (some ⟨b_4, 0, none⟩)), (7, .pointer none), (9, .int .u64 r_8.2), (10, .int .u64 r_9.1), (11, .int .u64 r_9.2), (12, .int .u64 r_10.1), (13, .int .u64 r_10.2), (15, .int .i64 r_11.2), (17, .int .i64 r_12.2), (18, .slice A_15 r_14.1.length c_16), (19, .bool r_14.2), (62, .bool (r_8.1 == 0))]) (H' := [⟨41, b_13, [.int .u64 r_12.1.Term, .int .u64 r_12.1.Index, .int .i64 r_12.1.Kind, .string (bs r_12.1.Data)]⟩, ⟨40, b_4, [.int .u64 s_3.Index, .int .u64 s_3.Term, .int .u64 s_3.Config, .string (bs s_3.Data)]⟩]) (ps := []) (by kernel_rfl) trivial ?_
    refine GoO.bsplit (t := 62) (by kernel_rfl) (fun h17 => ?_) (fun h17 => ?_)
    · refine GoO.exec (is := [3, 4, 5, 6]) (hs := [.p, .p, .p, .p]) (rest := [7, 8, 9, 10, 11, 12, 13, 14, 15, 16, 17, 18, 19, 20, 21, 22, 23, 24, 25, 26, 27, 28, 29, 30, 31, 32, 33, 34, 35, 36, 37, 38, 39, 40, 41, 42, 43, 44, 45, 46, 47, 48, 49, 50, 51, 52, 53, 54, 55, 56, 57, 58, 59, 60, 61, 62, 63, 64, 65, 66, 67, 68, 69, 70, 71, 72]) (ks := [0, 1, 5, 7, 10, 11, 12, 13, 15, 17, 18, 19, 66]) (env' := [(0, .int .u64 i_1), (1, .int .i64 n_2), (5, .pointer (some ⟨b_4, 0, none⟩)), (7, .pointer none), (10, .int .u64 r_9.1), (11, .int .u64 r_9.2), (12, .int .u64 r_10.1), (13, .int .u64 r_10.2), (15, .int .i64 r_11.2), (17, .int .i64 r_12.2), (18, .slice A_15 r_14.1.length c_16), (19, .bool r_14.2), (66, .bool (r_8.2 == 0))]) (H' := [⟨41, b_13, [.int .u64 r_12.1.Term, .int .u64 r_12.1.Index, .int .i64 r_12.1.Kind, .string (bs r_12.1.Data)]⟩, ⟨40, b_4, [.int .u64 s_3.Index, .int .u64 s_3.Term, .int .u64 s_3.Config, .string (bs s_3.Data)]⟩]) (ps := []) (by kernel_rfl) trivial ?_
      refine GoO.bsplit (t := 66) (by kernel_rfl) (fun h18 => ?_) (fun h18 => ?_)
      · refine GoO.exec (is := [7, 8, 9, 10]) (hs := [.p, .p, .p, .p]) (rest := [11, 12, 13, 14, 15, 16, 17, 18, 19, 20, 21, 22, 23, 24, 25, 26, 27, 28, 29, 30, 31, 32, 33, 34, 35, 36, 37, 38, 39, 40, 41, 42, 43, 44, 45, 46, 47, 48, 49, 50, 51, 52, 53, 54, 55, 56, 57, 58, 59, 60, 61, 62, 63, 64, 65, 66, 67, 68, 69, 70, 71, 72]) (ks := [0, 1, 5, 7, 11, 12, 13, 15, 17, 18, 19, 70]) (env' := [(0, .int .u64 i_1), (1, .int .i64 n_2), (5, .pointer (some ⟨b_4, 0, none⟩)), (7, .pointer none), (11, .int .u64 r_9.2), (12, .int .u64 r_10.1), (13, .int .u64 r_10.2), (15, .int .i64 r_11.2), (17, .int .i64 r_12.2), (18, .slice A_15 r_14.1.length c_16), (19, .bool r_14.2), (70, .bool (r_9.1 == 0))]) (H' := [⟨41, b_13, [.int .u64 r_12.1.Term, .int .u64 r_12.1.Index, .int .i64 r_12.1.Kind, .string (bs r_12.1.Data)]⟩, ⟨40, b_4, [.int .u64 s_3.Index, .int .u64 s_3.Term, .int .u64 s_3.Config, .string (bs s_3.Data)]⟩]) (ps := []) (by kernel_rfl) trivial ?_
        refine GoO.bsplit (t := 70) (by kernel_rfl) (fun h19 => ?_) (fun h19 => ?_)
        · refine GoO.exec (is := [11, 12, 13, 14]) (hs := [.p, .p, .p, .p]) (rest := [15, 16, 17, 18, 19, 20, 21, 22, 23, 24, 25, 26, 27, 28, 29, 30, 31, 32, 33, 34, 35, 36, 37, 38, 39, 40, 41, 42, 43, 44, 45, 46, 47, 48, 49, 50, 51, 52, 53, 54, 55, 56, 57, 58, 59, 60, 61, 62, 63, 64, 65, 66, 67, 68, 69, 70, 71, 72]) (ks := [0, 1, 5, 7, 12, 13, 15, 17, 18, 19, 74]) (env' := [(0, .int .u64 i_1), (1, .int .i64 n_2), (5, .pointer (some ⟨b_4, 0, none⟩)), (7, .pointer none), (12, .int .u64 r_10.1), (13, .int .u64 r_10.2), (15, .int .i64 r_11.2), (17, .int .i64 r_12.2), (18, .slice A_15 r_14.1.length c_16), (19, .bool r_14.2), (74, .bool (r_9.2 == 0))]) (H' := [⟨41, b_13, [.int .u64 r_12.1.Term, .int .u64 r_12.1.Index, .int .i64 r_12.1.Kind, .string (bs r_12.1.Data)]⟩, ⟨40, b_4, [.int .u64 s_3.Index, .int .u64 s_3.Term, .int .u64 s_3.Config, .string (bs s_3.Data)]⟩]) (ps := []) (by kernel_rfl) trivial ?_
          refine GoO.bsplit (t := 74) (by kernel_rfl) (fun h20 => ?_) (fun h20 => ?_)
          · refine GoO.exec (is := [15, 16, 17, 18]) (hs := [.p, .p, .p, .p]) (rest := [19, 20, 21, 22, 23, 24, 25, 26, 27, 28, 29, 30, 31, 32, 33, 34, 35, 36, 37, 38, 39, 40, 41, 42, 43, 44, 45, 46, 47, 48, 49, 50, 51, 52, 53, 54, 55, 56, 57, 58, 59, 60, 61, 62, 63, 64, 65, 66, 67, 68, 69, 70, 71, 72]) (ks := [0, 1, 5, 7, 13, 15, 17, 18, 19, 78]) (env' := [(0, .int .u64 i_1), (1, .int .i64 n_2), (5, .pointer (some ⟨b_4, 0, none⟩)), (7, .pointer none), (13, .int .u64 r_10.2), (15, .int .i64 r_11.2), (17, .int .i64 r_12.2), (18, .slice A_15 r_14.1.length c_16), (19, .bool r_14.2), (78, .bool (r_10.1 == 0))]) (H' := [⟨41, b_13, [.int .u64 r_12.1.Term, .int .u64 r_12.1.Index, .int .i64 r_12.1.Kind, .string (bs r_12.1.Data)]⟩, ⟨40, b_4, [.int .u64 s_3.Index, .int .u64 s_3.Term, .int .u64 s_3.Config, .string (bs s_3.Data)]⟩]) (ps := []) (by kernel_rfl) trivial ?_
            refine GoO.bsplit (t := 78) (by kernel_rfl) (fun h21 => ?_) (fun h21 => ?_)
            · refine GoO.exec (is := [19, 20, 21, 22]) (hs := [.p, .p, .p, .p]) (rest := [23, 24, 25, 26, 27, 28, 29, 30, 31, 32, 33, 34, 35, 36, 37, 38, 39, 40, 41, 42, 43, 44, 45, 46, 47, 48, 49, 50, 51, 52, 53, 54, 55, 56, 57, 58, 59, 60, 61, 62, 63, 64, 65, 66, 67, 68, 69, 70, 71, 72]) (ks := [0, 1, 5, 7, 15, 17, 18, 19, 82]) (env' := [(0, .int .u64 i_1), (1, .int .i64 n_2), (5, .pointer (some ⟨b_4, 0, none⟩)), (7, .pointer none), (15, .int .i64 r_11.2), (17, .int .i64 r_12.2), (18, .slice A_15 r_14.1.length c_16), (19, .bool r_14.2), (82, .bool (r_10.2 == 0))]) (H' := [⟨41, b_13, [.int .u64 r_12.1.Term, .int .u64 r_12.1.Index, .int .i64 r_12.1.Kind, .string (bs r_12.1.Data)]⟩, ⟨40, b_4, [.int .u64 s_3.Index, .int .u64 s_3.Term, .int .u64 s_3.Config, .string (bs s_3.Data)]⟩]) (ps := []) (by kernel_rfl) trivial ?_
              refine GoO.bsplit (t := 82) (by kernel_rfl) (fun h22 => ?_) (fun h22 => ?_)
              · refine GoO.exec (is := [23, 24, 25, 26]) (hs := [.p, .p, .p, .p]) (rest := [27, 28, 29, 30, 31, 32, 33, 34, 35, 36, 37, 38, 39, 40, 41, 42, 43, 44, 45, 46, 47, 48, 49, 50, 51, 52, 53, 54, 55, 56, 57, 58, 59, 60, 61, 62, 63, 64, 65, 66, 67, 68, 69, 70, 71, 72]) (ks := [0, 1, 5, 7, 17, 18, 19, 86]) (env' := [(0, .int .u64 i_1), (1, .int .i64 n_2), (5, .pointer (some ⟨b_4, 0, none⟩)), (7, .pointer none), (17, .int .i64 r_12.2), (18, .slice A_15 r_14.1.length c_16), (19, .bool r_14.2), (86, .bool (r_11.2 == 20))]) (H' := [⟨41, b_13, [.int .u64 r_12.1.Term, .int .u64 r_12.1.Index, .int .i64 r_12.1.Kind, .string (bs r_12.1.Data)]⟩, ⟨40, b_4, [.int .u64 s_3.Index, .int .u64 s_3.Term, .int .u64 s_3.Config, .string (bs s_3.Data)]⟩]) (ps := []) (by kernel_rfl) trivial ?_
                refine GoO.bsplit (t := 86) (by kernel_rfl) (fun h23 => ?_) (fun h23 => ?_)
                · refine GoO.exec (is := [27, 28, 29, 30]) (hs := [.p, .p, .p, .p]) (rest := [31, 32, 33, 34, 35, 36, 37, 38, 39, 40, 41, 42, 43, 44, 45, 46, 47, 48, 49, 50, 51, 52, 53, 54, 55, 56, 57, 58, 59, 60, 61, 62, 63, 64, 65, 66, 67, 68, 69, 70, 71, 72]) (ks := [0, 1, 5, 7, 18, 19, 90]) (env' := [(0, .int .u64 i_1), (1, .int .i64 n_2), (5, .pointer (some ⟨b_4, 0, none⟩)), (7, .pointer none), (18, .slice A_15 r_14.1.length c_16), (19, .bool r_14.2), (90, .bool (r_12.2 == 1))]) (H' := [⟨41, b_13, [.int .u64 r_12.1.Term, .int .u64 r_12.1.Index, .int .i64 r_12.1.Kind, .string (bs r_12.1.Data)]⟩, ⟨40, b_4, [.int .u64 s_3.Index, .int .u64 s_3.Term, .int .u64 s_3.Config, .string (bs s_3.Data)]⟩]) (ps := []) (by kernel_rfl) trivial ?_
                  refine GoO.bsplit (t := 90) (by kernel_rfl) (fun h24 => ?_) (fun h24 => ?_)
                  · refine GoO.exec (is := [31, 32, 33, 34, 35]) (hs := [.p, .p, .p, .p, .p]) (rest := [36, 37, 38, 39, 40, 41, 42, 43, 44, 45, 46, 47, 48, 49, 50, 51, 52, 53, 54, 55, 56, 57, 58, 59, 60, 61, 62, 63, 64, 65, 66, 67, 68, 69, 70, 71, 72]) (ks := [0, 1, 5, 7, 19, 95]) (env' := [(0, .int .u64 i_1), (1, .int .i64 n_2), (5, .pointer (some ⟨b_4, 0, none⟩)), (7, .pointer none), (19, .bool r_14.2), (95, .bool ((r_14.1.length : Int) == 0))]) (H' := [⟨41, b_13, [.int .u64 r_12.1.Term, .int .u64 r_12.1.Index, .int .i64 r_12.1.Kind, .string (bs r_12.1.Data)]⟩, ⟨40, b_4, [.int .u64 s_3.Index, .int .u64 s_3.Term, .int .u64 s_3.Config, .string (bs s_3.Data)]⟩]) (ps := []) (by kernel_rfl) trivial ?_
                    refine GoO.bsplit (t := 95) (by kernel_rfl) (fun h25 => ?_) (fun h25 => ?_)
                    · refine GoO.exec (is := [36, 37, 38, 39]) (hs := [.p, .p, .p, .p]) (rest := [40, 41, 42, 43, 44, 45, 46, 47, 48, 49, 50, 51, 52, 53, 54, 55, 56, 57, 58, 59, 60, 61, 62, 63, 64, 65, 66, 67, 68, 69, 70, 71, 72]) (ks := [0, 1, 5, 7, 99]) (env' := [(0, .int .u64 i_1), (1, .int .i64 n_2), (5, .pointer (some ⟨b_4, 0, none⟩)), (7, .pointer none), (99, .bool (!r_14.2))]) (H' := [⟨41, b_13, [.int .u64 r_12.1.Term, .int .u64 r_12.1.Index, .int .i64 r_12.1.Kind, .string (bs r_12.1.Data)]⟩, ⟨40, b_4, [.int .u64 s_3.Index, .int .u64 s_3.Term, .int .u64 s_3.Config, .string (bs s_3.Data)]⟩]) (ps := []) (by kernel_rfl) trivial ?_
                      refine GoO.bsplit (t := 99) (by kernel_rfl) (fun h26 => ?_) (fun h26 => ?_)
                      · refine GoO.exec (is := [40, 41, 42]) (hs := [.p, .p, .p]) (rest := [43, 44, 45, 46, 47, 48, 49, 50, 51, 52, 53, 54, 55, 56, 57, 58, 59, 60, 61, 62, 63, 64, 65, 66, 67, 68, 69, 70, 71, 72]) (ks := [0, 5, 7, 99, 100, 101, 102]) (env' := [(0, .int .u64 i_1), (5, .pointer (some ⟨b_4, 0, none⟩)), (7, .pointer none), (99, .bool true), (100, .pointer none), (101, .int .u64 i_1), (102, .int .i64 n_2)]) (H' := [⟨41, b_13, [.int .u64 r_12.1.Term, .int .u64 r_12.1.Index, .int .i64 r_12.1.Kind, .string (bs r_12.1.Data)]⟩, ⟨40, b_4, [.int .u64 s_3.Index, .int .u64 s_3.Term, .int .u64 s_3.Config, .string (bs s_3.Data)]⟩]) (ps := []) (by kernel_rfl) trivial ?_
                        refine OpTo.go (GoO.call rfl (by kernel_rfl) (by kernel_rfl) (rlog_Log_Get_n0_ok n i_1 n_2) [[0]] [(43, 1)] [] [] (hks := [0, 1]) (bks := [0, 1]) (by kernel_rfl) (by kernel_rfl) (by kernel_rfl) (.inl rfl) rfl rfl (by kernel_rfl) (by kernel_rfl) _ (fun _ _ => rfl) _ _ (fun _ _ => rfl) (fun _ _ => rfl) (fun _ _ => by kernel_rfl) (fun _ _ => by kernel_rfl) (fun r_27 x_44 => ?_))
                        obtain ⟨A_28, c_29⟩ := x_44
                        refine GoO.shape (env' := [(0, .int .u64 i_1), (5, .pointer (some ⟨b_4, 0, none⟩)), (7, .pointer none), (99, .bool true), (100, .pointer none), (101, .int .u64 i_1), (102, .int .i64 n_2), (103, .slice A_28 r_27.length c_29)]) (H' := [⟨41, b_13, [.int .u64 r_12.1.Term, .int .u64 r_12.1.Index, .int .i64 r_12.1.Kind, .string (bs r_12.1.Data)]⟩, ⟨40, b_4, [.int .u64 s_3.Index, .int .u64 s_3.Term, .int .u64 s_3.Config, .string (bs s_3.Data)]⟩]) (B' := [Ow 43 kT_api_Entry A_28 c_29 r_27, Ow 42 kT_api_Entry A_15 c_16 r_14.1, Rd 0 kT_api_Entry none 0 ([] : List T_api_Entry)]) (ks := [0, 5, 7, 99, 100, 101, 102, 103]) (by kernel_rfl) (by kernel_rfl) (by kernel_rfl) ?_
                        refine GoO.exec (is := [44, 45, 46, 47]) (hs := [.p, .p, .p, .p]) (rest := [48, 49, 50, 51, 52, 53, 54, 55, 56, 57, 58, 59, 60, 61, 62, 63, 64, 65, 66, 67, 68, 69, 70, 71, 72]) (ks := [0, 5, 7, 107]) (env' := [(0, .int .u64 i_1), (5, .pointer (some ⟨b_4, 0, none⟩)), (7, .pointer none), (107, .bool ((r_27.length : Int) == 0))]) (H' := [⟨41, b_13, [.int .u64 r_12.1.Term, .int .u64 r_12.1.Index, .int .i64 r_12.1.Kind, .string (bs r_12.1.Data)]⟩, ⟨40, b_4, [.int .u64 s_3.Index, .int .u64 s_3.Term, .int .u64 s_3.Config, .string (bs s_3.Data)]⟩]) (ps := []) (by kernel_rfl) trivial ?_
                        refine GoO.bsplit (t := 107) (by kernel_rfl) (fun h30 => ?_) (fun h30 => ?_)
                        · refine GoO.exec (is := [48]) (hs := [.p]) (rest := [49, 50, 51, 52, 53, 54, 55, 56, 57, 58, 59, 60, 61, 62, 63, 64, 65, 66, 67, 68, 69, 70, 71, 72]) (ks := [0, 5, 7, 107, 108]) (env' := [(0, .int .u64 i_1), (5, .pointer (some ⟨b_4, 0, none⟩)), (7, .pointer none), (107, .bool true), (108, .pointer none)]) (H' := [⟨41, b_13, [.int .u64 r_12.1.Term, .int .u64 r_12.1.Index, .int .i64 r_12.1.Kind, .string (bs r_12.1.Data)]⟩, ⟨40, b_4, [.int .u64 s_3.Index, .int .u64 s_3.Term, .int .u64 s_3.Config, .string (bs s_3.Data)]⟩]) (ps := []) (by kernel_rfl) trivial ?_
                          refine OpTo.go (GoO.call rfl (by kernel_rfl) (by kernel_rfl) (rlog_Log_First_n0_ok n) [[0]] [] [] [] (hks := [0, 1]) (bks := [0, 1, 2]) (by kernel_rfl) (by kernel_rfl) (by kernel_rfl) (.inl rfl) rfl rfl (by kernel_rfl) (by kernel_rfl) _ (fun _ _ => rfl) _ _ (fun _ _ => rfl) (fun _ _ => rfl) (fun _ _ => by kernel_rfl) (fun _ _ => by kernel_rfl) (fun r_31 x_43 => ?_))
                          refine GoO.shape (env' := [(0, .int .u64 i_1), (5, .pointer (some ⟨b_4, 0, none⟩)), (7, .pointer none), (107, .bool true), (108, .pointer none), (109, .agg ⟨[.int .u64 r_31.Index, .int .u64 r_31.Term, .int .u64 r_31.Config, .string (bs r_31.Data)]⟩)]) (H' := [⟨41, b_13, [.int .u64 r_12.1.Term, .int .u64 r_12.1.Index, .int .i64 r_12.1.Kind, .string (bs r_12.1.Data)]⟩, ⟨40, b_4, [.int .u64 s_3.Index, .int .u64 s_3.Term, .int .u64 s_3.Config, .string (bs s_3.Data)]⟩]) (B' := [Ow 43 kT_api_Entry A_28 c_29 r_27, Ow 42 kT_api_Entry A_15 c_16 r_14.1, Rd 0 kT_api_Entry none 0 ([] : List T_api_Entry)]) (ks := [0, 5, 7, 107, 108, 109]) (by kernel_rfl) (by kernel_rfl) (by kernel_rfl) ?_
                          refine GoO.exec (is := [50, 51, 52, 53]) (hs := [.p, .p, .p, .p]) (rest := [54, 55, 56, 57, 58, 59, 60, 61, 62, 63, 64, 65, 66, 67, 68, 69, 70, 71, 72]) (ks := [0, 5, 7, 113]) (env' := [(0, .int .u64 i_1), (5, .pointer (some ⟨b_4, 0, none⟩)), (7, .pointer none), (113, .bool ((r_31.Index == 0) && ((r_31.Term == 0) && ((r_31.Config == 0) && ((r_31.Data == ([] : List UInt8)) && true)))))]) (H' := [⟨41, b_13, [.int .u64 r_12.1.Term, .int .u64 r_12.1.Index, .int .i64 r_12.1.Kind, .string (bs r_12.1.Data)]⟩, ⟨40, b_4, [.int .u64 s_3.Index, .int .u64 s_3.Term, .int .u64 s_3.Config, .string (bs s_3.Data)]⟩]) (ps := []) (by kernel_rfl) trivial ?_
                          refine GoO.bsplit (t := 113) (by kernel_rfl) (fun h32 => ?_) (fun h32 => ?_)
                          · refine GoO.exec (is := [54, 55]) (hs := [.p, .p]) (rest := [56, 57, 58, 59, 60, 61, 62, 63, 64, 65, 66, 67, 68, 69, 70, 71, 72]) (ks := [0, 5, 7, 113, 114, 115]) (env' := [(0, .int .u64 i_1), (5, .pointer (some ⟨b_4, 0, none⟩)), (7, .pointer none), (113, .bool true), (114, .pointer none), (115, .int .u64 i_1)]) (H' := [⟨41, b_13, [.int .u64 r_12.1.Term, .int .u64 r_12.1.Index, .int .i64 r_12.1.Kind, .string (bs r_12.1.Data)]⟩, ⟨40, b_4, [.int .u64 s_3.Index, .int .u64 s_3.Term, .int .u64 s_3.Config, .string (bs s_3.Data)]⟩]) (ps := []) (by kernel_rfl) trivial ?_
                            refine OpTo.go (GoO.call rfl (by kernel_rfl) (by kernel_rfl) (rlog_Log_Compact_n0_ok n i_1 []) [[0]] [] [] [] (hks := [0, 1]) (bks := [0, 1, 2]) (by kernel_rfl) (by kernel_rfl) (by kernel_rfl) (.inl rfl) rfl rfl (by kernel_rfl) (by kernel_rfl) _ (fun _ _ => rfl) _ _ (fun _ _ => rfl) (fun _ _ => rfl) (fun _ _ => by kernel_rfl) (fun _ _ => by kernel_rfl) (fun r_33 x_42 => ?_))
                            refine GoO.shape (env' := [(0, .int .u64 i_1), (5, .pointer (some ⟨b_4, 0, none⟩)), (7, .pointer none), (113, .bool true), (114, .pointer none), (115, .int .u64 i_1), (116, .int .i64 r_33)]) (H' := [⟨41, b_13, [.int .u64 r_12.1.Term, .int .u64 r_12.1.Index, .int .i64 r_12.1.Kind, .string (bs r_12.1.Data)]⟩, ⟨40, b_4, [.int .u64 s_3.Index, .int .u64 s_3.Term, .int .u64 s_3.Config, .string (bs s_3.Data)]⟩]) (B' := [Ow 43 kT_api_Entry A_28 c_29 r_27, Ow 42 kT_api_Entry A_15 c_16 r_14.1, Rd 0 kT_api_Entry none 0 ([] : List T_api_Entry)]) (ks := [0, 5, 7, 113, 114, 115, 116]) (by kernel_rfl) (by kernel_rfl) (by kernel_rfl) ?_
                            refine GoO.exec (is := [57, 58, 59]) (hs := [.p, .p, .p]) (rest := [60, 61, 62, 63, 64, 65, 66, 67, 68, 69, 70, 71, 72]) (ks := [0, 5, 7, 119]) (env' := [(0, .int .u64 i_1), (5, .pointer (some ⟨b_4, 0, none⟩)), (7, .pointer none), (119, .bool (r_33 == 20))]) (H' := [⟨41, b_13, [.int .u64 r_12.1.Term, .int .u64 r_12.1.Index, .int .i64 r_12.1.Kind, .string (bs r_12.1.Data)]⟩, ⟨40, b_4, [.int .u64 s_3.Index, .int .u64 s_3.Term, .int .u64 s_3.Config, .string (bs s_3.Data)]⟩]) (ps := []) (by kernel_rfl) trivial ?_
                            refine GoO.bsplit (t := 119) (by kernel_rfl) (fun h34 => ?_) (fun h34 => ?_)
                            · refine GoO.exec (is := [60, 61]) (hs := [.p, .b 1]) (rest := [62, 63, 64, 65, 66, 67, 68, 69, 70, 71, 72]) (ks := [0, 119, 120, 121]) (env' := [(0, .int .u64 i_1), (119, .bool true), (120, .pointer none), (121, .agg ⟨[.int .u64 s_3.Index, .int .u64 s_3.Term, .int .u64 s_3.Config, .string (bs s_3.Data)]⟩)]) (H' := [⟨41, b_13, [.int .u64 r_12.1.Term, .int .u64 r_12.1.Index, .int .i64 r_12.1.Kind, .string (bs r_12.1.Data)]⟩, ⟨40, b_4, [.int .u64 s_3.Index, .int .u64 s_3.Term, .int .u64 s_3.Config, .string (bs s_3.Data)]⟩]) (ps := [b_4 = b_4]) (by kernel_rfl) (And.intro rfl trivial) ?_
                              refine OpTo.go (GoO.call rfl (by kernel_rfl) (by kernel_rfl) (rlog_Log_Install_n0_ok n s_3) [[0]] [] [] [] (hks := [0, 1]) (bks := [0, 1, 2]) (by kernel_rfl) (by kernel_rfl) (by kernel_rfl) (.inl rfl) rfl rfl (by kernel_rfl) (by kernel_rfl) _ (fun _ _ => rfl) _ _ (fun _ _ => rfl) (fun _ _ => rfl) (fun _ _ => by kernel_rfl) (fun _ _ => by kernel_rfl) (fun r_35 x_41 => ?_))
                              refine GoO.shape (env' := [(0, .int .u64 i_1), (119, .bool true), (120, .pointer none), (121, .agg ⟨[.int .u64 s_3.Index, .int .u64 s_3.Term, .int .u64 s_3.Config, .string (bs s_3.Data)]⟩), (122, .int .i64 r_35)]) (H' := [⟨41, b_13, [.int .u64 r_12.1.Term, .int .u64 r_12.1.Index, .int .i64 r_12.1.Kind, .string (bs r_12.1.Data)]⟩, ⟨40, b_4, [.int .u64 s_3.Index, .int .u64 s_3.Term, .int .u64 s_3.Config, .string (bs s_3.Data)]⟩]) (B' := [Ow 43 kT_api_Entry A_28 c_29 r_27, Ow 42 kT_api_Entry A_15 c_16 r_14.1, Rd 0 kT_api_Entry none 0 ([] : List T_api_Entry)]) (ks := [0, 119, 120, 121, 122]) (by kernel_rfl) (by kernel_rfl) (by kernel_rfl) ?_
                              refine GoO.exec (is := [63, 64, 65]) (hs := [.p, .p, .p]) (rest := [66, 67, 68, 69, 70, 71, 72]) (ks := [0, 125]) (env' := [(0, .int .u64 i_1), (125, .bool (r_35 == 1))]) (H' := [⟨41, b_13, [.int .u64 r_12.1.Term, .int .u64 r_12.1.Index, .int .i64 r_12.1.Kind, .string (bs r_12.1.Data)]⟩, ⟨40, b_4, [.int .u64 s_3.Index, .int .u64 s_3.Term, .int .u64 s_3.Config, .string (bs s_3.Data)]⟩]) (ps := []) (by kernel_rfl) trivial ?_
                              refine GoO.bsplit (t := 125) (by kernel_rfl) (fun h36 => ?_) (fun h36 => ?_)
                              · refine GoO.exec (is := [66]) (hs := [.p]) (rest := [67, 68, 69, 70, 71, 72]) (ks := [0, 125, 126]) (env' := [(0, .int .u64 i_1), (125, .bool true), (126, .int .u64 i_1)]) (H' := [⟨41, b_13, [.int .u64 r_12.1.Term, .int .u64 r_12.1.Index, .int .i64 r_12.1.Kind, .string (bs r_12.1.Data)]⟩, ⟨40, b_4, [.int .u64 s_3.Index, .int .u64 s_3.Term, .int .u64 s_3.Config, .string (bs s_3.Data)]⟩]) (ps := []) (by kernel_rfl) trivial ?_
                                refine OpTo.go (GoO.call rfl (by kernel_rfl) (by kernel_rfl) (rlog_Config_ok n i_1) [[0]] [] [] [] (hks := [0, 1]) (bks := [0, 1, 2]) (by kernel_rfl) (by kernel_rfl) (by kernel_rfl) (.inl rfl) rfl rfl (by kernel_rfl) (by kernel_rfl) _ (fun _ _ => rfl) _ _ (fun _ _ => rfl) (fun _ _ => rfl) (fun _ _ => by kernel_rfl) (fun _ _ => by kernel_rfl) (fun r_37 x_40 => ?_))
                                refine GoO.shape (env' := [(0, .int .u64 i_1), (125, .bool true), (126, .int .u64 i_1), (127, .string (bs r_37))]) (H' := [⟨41, b_13, [.int .u64 r_12.1.Term, .int .u64 r_12.1.Index, .int .i64 r_12.1.Kind, .string (bs r_12.1.Data)]⟩, ⟨40, b_4, [.int .u64 s_3.Index, .int .u64 s_3.Term, .int .u64 s_3.Config, .string (bs s_3.Data)]⟩]) (B' := [Ow 43 kT_api_Entry A_28 c_29 r_27, Ow 42 kT_api_Entry A_15 c_16 r_14.1, Rd 0 kT_api_Entry none 0 ([] : List T_api_Entry)]) (ks := [0, 125, 126, 127]) (by kernel_rfl) (by kernel_rfl) (by kernel_rfl) ?_
                                refine GoO.exec (is := [68]) (hs := [.p]) (rest := [69, 70, 71, 72]) (ks := [125, 127, 128]) (env' := [(125, .bool true), (127, .string (bs r_37)), (128, .int .u64 i_1)]) (H' := [⟨41, b_13, [.int .u64 r_12.1.Term, .int .u64 r_12.1.Index, .int .i64 r_12.1.Kind, .string (bs r_12.1.Data)]⟩, ⟨40, b_4, [.int .u64 s_3.Index, .int .u64 s_3.Term, .int .u64 s_3.Config, .string (bs s_3.Data)]⟩]) (ps := []) (by kernel_rfl) trivial ?_
                                refine OpTo.go (GoO.call rfl (by kernel_rfl) (by kernel_rfl) (tontineref07_Config_ok n i_1) [[0]] [] [] [] (hks := [0, 1]) (bks := [0, 1, 2]) (by kernel_rfl) (by kernel_rfl) (by kernel_rfl) (.inl rfl) rfl rfl (by kernel_rfl) (by kernel_rfl) _ (fun _ _ => rfl) _ _ (fun _ _ => rfl) (fun _ _ => rfl) (fun _ _ => by kernel_rfl) (fun _ _ => by kernel_rfl) (fun r_38 x_39 => ?_))
                                refine GoO.shape (env' := [(125, .bool true), (127, .string (bs r_37)), (128, .int .u64 i_1), (129, .string (bs r_38))]) (H' := [⟨41, b_13, [.int .u64 r_12.1.Term, .int .u64 r_12.1.Index, .int .i64 r_12.1.Kind, .string (bs r_12.1.Data)]⟩, ⟨40, b_4, [.int .u64 s_3.Index, .int .u64 s_3.Term, .int .u64 s_3.Config, .string (bs s_3.Data)]⟩]) (B' := [Ow 43 kT_api_Entry A_28 c_29 r_27, Ow 42 kT_api_Entry A_15 c_16 r_14.1, Rd 0 kT_api_Entry none 0 ([] : List T_api_Entry)]) (ks := [125, 127, 128, 129]) (by kernel_rfl) (by kernel_rfl) (by kernel_rfl) ?_
                                refine GoO.exec (is := [70, 71, 72]) (hs := [.p, .p, .p]) (rest := []) (ks := [6]) (env' := [(6, .bool (r_37 == r_38))]) (H' := [⟨41, b_13, [.int .u64 r_12.1.Term, .int .u64 r_12.1.Index, .int .i64 r_12.1.Kind, .string (bs r_12.1.Data)]⟩, ⟨40, b_4, [.int .u64 s_3.Index, .int .u64 s_3.Term, .int .u64 s_3.Config, .string (bs s_3.Data)]⟩]) (ps := []) (by kernel_rfl) trivial ?_
                                refine GoO.regionEnd ?_
                                exact GoO.ret' (h := c10_28e) (hs := []) (ps := []) (hk := []) (bk := []) Try.func10 () (by kernel_rfl) trivial (by kernel_rfl) (by kernel_rfl)
                              · refine GoO.exec (is := [66, 67, 68, 69, 70, 71, 72]) (hs := [.p, .p, .p, .p, .p, .p, .p]) (rest := []) (ks := [6]) (env' := [(6, .bool false)]) (H' := [⟨41, b_13, [.int .u64 r_12.1.Term, .int .u64 r_12.1.Index, .int .i64 r_12.1.Kind, .string (bs r_12.1.Data)]⟩, ⟨40, b_4, [.int .u64 s_3.Index, .int .u64 s_3.Term, .int .u64 s_3.Config, .string (bs s_3.Data)]⟩]) (ps := []) (by kernel_rfl) trivial ?_
                                refine GoO.regionEnd ?_
                                exact GoO.ret' (h := c10_28e) (hs := []) (ps := []) (hk := []) (bk := []) Try.func10 () (by kernel_rfl) trivial (by kernel_rfl) (by kernel_rfl)
                            · refine GoO.exec (is := [60, 61, 62, 63, 64, 65, 66, 67, 68, 69, 70, 71, 72]) (hs := [.p, .p, .p, .p, .p, .p, .p, .p, .p, .p, .p, .p, .p]) (rest := []) (ks := [6]) (env' := [(6, .bool false)]) (H' := [⟨41, b_13, [.int .u64 r_12.1.Term, .int .u64 r_12.1.Index, .int .i64 r_12.1.Kind, .string (bs r_12.1.Data)]⟩, ⟨40, b_4, [.int .u64 s_3.Index, .int .u64 s_3.Term, .int .u64 s_3.Config, .string (bs s_3.Data)]⟩]) (ps := []) (by kernel_rfl) trivial ?_
                              refine GoO.regionEnd ?_
                              exact GoO.ret' (h := c10_28e) (hs := []) (ps := []) (hk := []) (bk := []) Try.func10 () (by kernel_rfl) trivial (by kernel_rfl) (by kernel_rfl)
                          · refine GoO.exec (is := [54, 55, 56, 57, 58, 59, 60, 61, 62, 63, 64, 65, 66, 67, 68, 69, 70, 71, 72]) (hs := [.p, .p, .p, .p, .p, .p, .p, .p, .p, .p, .p, .p, .p, .p, .p, .p, .p, .p, .p]) (rest := []) (ks := [6]) (env' := [(6, .bool false)]) (H' := [⟨41, b_13, [.int .u64 r_12.1.Term, .int .u64 r_12.1.Index, .int .i64 r_12.1.Kind, .string (bs r_12.1.Data)]⟩, ⟨40, b_4, [.int .u64 s_3.Index, .int .u64 s_3.Term, .int .u64 s_3.Config, .string (bs s_3.Data)]⟩]) (ps := []) (by kernel_rfl) trivial ?_
                            refine GoO.regionEnd ?_
                            exact GoO.ret' (h := c10_28e) (hs := []) (ps := []) (hk := []) (bk := []) Try.func10 () (by kernel_rfl) trivial (by kernel_rfl) (by kernel_rfl)
                        · refine GoO.exec (is := [48, 49, 50, 51, 52, 53, 54, 55, 56, 57, 58, 59, 60, 61, 62, 63, 64, 65, 66, 67, 68, 69, 70, 71, 72]) (hs := [.p, .p, .p, .p, .p, .p, .p, .p, .p, .p, .p, .p, .p, .p, .p, .p, .p, .p, .p, .p, .p, .p, .p, .p, .p]) (rest := []) (ks := [6]) (env' := [(6, .bool false)]) (H' := [⟨41, b_13, [.int .u64 r_12.1.Term, .int .u64 r_12.1.Index, .int .i64 r_12.1.Kind, .string (bs r_12.1.Data)]⟩, ⟨40, b_4, [.int .u64 s_3.Index, .int .u64 s_3.Term, .int .u64 s_3.Config, .string (bs s_3.Data)]⟩]) (ps := []) (by kernel_rfl) trivial ?_
                          refine GoO.regionEnd ?_
                          exact GoO.ret' (h := c10_28e) (hs := []) (ps := []) (hk := []) (bk := []) Try.func10 () (by kernel_rfl) trivial (by kernel_rfl) (by kernel_rfl)
                      · refine GoO.exec (is := [40, 41, 42, 43, 44, 45, 46, 47, 48, 49, 50, 51, 52, 53, 54, 55, 56, 57, 58, 59, 60, 61, 62, 63, 64, 65, 66, 67, 68, 69, 70, 71, 72]) (hs := [.p, .p, .p, .p, .p, .p, .p, .p, .p, .p, .p, .p, .p, .p, .p, .p, .p, .p, .p, .p, .p, .p, .p, .p, .p, .p, .p, .p, .p, .p, .p, .p, .p]) (rest := []) (ks := [6]) (env' := [(6, .bool false)]) (H' := [⟨41, b_13, [.int .u64 r_12.1.Term, .int .u64 r_12.1.Index, .int .i64 r_12.1.Kind, .string (bs r_12.1.Data)]⟩, ⟨40, b_4, [.int .u64 s_3.Index, .int .u64 s_3.Term, .int .u64 s_3.Config, .string (bs s_3.Data)]⟩]) (ps := []) (by kernel_rfl) trivial ?_
                        refine GoO.regionEnd ?_
                        exact GoO.ret' (h := c10_28e) (hs := []) (ps := []) (hk := []) (bk := []) Try.func10 () (by kernel_rfl) trivial (by kernel_rfl) (by kernel_rfl)
                    · refine GoO.exec (is := [36, 37, 38, 39, 40, 41, 42, 43, 44, 45, 46, 47, 48, 49, 50, 51, 52, 53, 54, 55, 56, 57, 58, 59, 60, 61, 62, 63, 64, 65, 66, 67, 68, 69, 70, 71, 72]) (hs := [.p, .p, .p, .p, .p, .p, .p, .p, .p, .p, .p, .p, .p, .p, .p, .p, .p, .p, .p, .p, .p, .p, .p, .p, .p, .p, .p, .p, .p, .p, .p, .p, .p, .p, .p, .p, .p]) (rest := []) (ks := [6]) (env' := [(6, .bool false)]) (H' := [⟨41, b_13, [.int .u64 r_12.1.Term, .int .u64 r_12.1.Index, .int .i64 r_12.1.Kind, .string (bs r_12.1.Data)]⟩, ⟨40, b_4, [.int .u64 s_3.Index, .int .u64 s_3.Term, .int .u64 s_3.Config, .string (bs s_3.Data)]⟩]) (ps := []) (by kernel_rfl) trivial ?_
                      refine GoO.regionEnd ?_
                      exact GoO.ret' (h := c10_28e) (hs := []) (ps := []) (hk := []) (bk := []) Try.func10 () (by kernel_rfl) trivial (by kernel_rfl) (by kernel_rfl)
                  · refine GoO.exec (is := [31, 32, 33, 34, 35, 36, 37, 38, 39, 40, 41, 42, 43, 44, 45, 46, 47, 48, 49, 50, 51, 52, 53, 54, 55, 56, 57, 58, 59, 60, 61, 62, 63, 64, 65, 66, 67, 68, 69, 70, 71, 72]) (hs := [.p, .p, .p, .p, .p, .p, .p, .p, .p, .p, .p, .p, .p, .p, .p, .p, .p, .p, .p, .p, .p, .p, .p, .p, .p, .p, .p, .p, .p, .p, .p, .p, .p, .p, .p, .p, .p, .p, .p, .p, .p, .p]) (rest := []) (ks := [6]) (env' := [(6, .bool false)]) (H' := [⟨41, b_13, [.int .u64 r_12.1.Term, .int .u64 r_12.1.Index, .int .i64 r_12.1.Kind, .string (bs r_12.1.Data)]⟩, ⟨40, b_4, [.int .u64 s_3.Index, .int .u64 s_3.Term, .int .u64 s_3.Config, .string (bs s_3.Data)]⟩]) (ps := []) (by kernel_rfl) trivial ?_
                    refine GoO.regionEnd ?_
                    exact GoO.ret' (h := c10_28e) (hs := []) (ps := []) (hk := []) (bk := []) Try.func10 () (by kernel_rfl) trivial (by kernel_rfl) (by kernel_rfl)
                · refine GoO.exec (is := [27, 28, 29, 30, 31, 32, 33, 34, 35, 36, 37, 38, 39, 40, 41, 42, 43, 44, 45, 46, 47, 48, 49, 50, 51, 52, 53, 54, 55, 56, 57, 58, 59, 60, 61, 62, 63, 64, 65, 66, 67, 68, 69, 70, 71, 72]) (hs := [.p, .p, .p, .p, .p, .p, .p, .p, .p, .p, .p, .p, .p, .p, .p, .p, .p, .p, .p, .p, .p, .p, .p, .p, .p, .p, .p, .p, .p, .p, .p, .p, .p, .p, .p, .p, .p, .p, .p, .p, .p, .p, .p, .p, .p, .p]) (rest := []) (ks := [6]) (env' := [(6, .bool false)]) (H' := [⟨41, b_13, [.int .u64 r_12.1.Term, .int .u64 r_12.1.Index, .int .i64 r_12.1.Kind, .string (bs r_12.1.Data)]⟩, ⟨40, b_4, [.int .u64 s_3.Index, .int .u64 s_3.Term, .int .u64 s_3.Config, .string (bs s_3.Data)]⟩]) (ps := []) (by kernel_rfl) trivial ?_
                  refine GoO.regionEnd ?_
                  exact GoO.ret' (h := c10_28e) (hs := []) (ps := []) (hk := []) (bk := []) Try.func10 () (by kernel_rfl) trivial (by kernel_rfl) (by kernel_rfl)
              · refine GoO.exec (is := [23, 24, 25, 26, 27, 28, 29, 30, 31, 32, 33, 34, 35, 36, 37, 38, 39, 40, 41, 42, 43, 44, 45, 46, 47, 48, 49, 50, 51, 52, 53, 54, 55, 56, 57, 58, 59, 60, 61, 62, 63, 64, 65, 66, 67, 68, 69, 70, 71, 72]) (hs := [.p, .p, .p, .p, .p, .p, .p, .p, .p, .p, .p, .p, .p, .p, .p, .p, .p, .p, .p, .p, .p, .p, .p, .p, .p, .p, .p, .p, .p, .p, .p, .p, .p, .p, .p, .p, .p, .p, .p, .p, .p, .p, .p, .p, .p, .p, .p, .p, .p, .p]) (rest := []) (ks := [6]) (env' := [(6, .bool false)]) (H' := [⟨41, b_13, [.int .u64 r_12.1.Term, .int .u64 r_12.1.Index, .int .i64 r_12.1.Kind, .string (bs r_12.1.Data)]⟩, ⟨40, b_4, [.int .u64 s_3.Index, .int .u64 s_3.Term, .int .u64 s_3.Config, .string (bs s_3.Data)]⟩]) (ps := []) (by kernel_rfl) trivial ?_
                refine GoO.regionEnd ?_
                exact GoO.ret' (h := c10_28e) (hs := []) (ps := []) (hk := []) (bk := []) Try.func10 () (by kernel_rfl) trivial (by kernel_rfl) (by kernel_rfl)
            · refine GoO.exec (is := [19, 20, 21, 22, 23, 24, 25, 26, 27, 28, 29, 30, 31, 32, 33, 34, 35, 36, 37, 38, 39, 40, 41, 42, 43, 44, 45, 46, 47, 48, 49, 50, 51, 52, 53, 54, 55, 56, 57, 58, 59, 60, 61, 62, 63, 64, 65, 66, 67, 68, 69, 70, 71, 72]) (hs := [.p, .p, .p, .p, .p, .p, .p, .p, .p, .p, .p, .p, .p, .p, .p, .p, .p, .p, .p, .p, .p, .p, .p, .p, .p, .p, .p, .p, .p, .p, .p, .p, .p, .p, .p, .p, .p, .p, .p, .p, .p, .p, .p, .p, .p, .p, .p, .p, .p, .p, .p, .p, .p, .p]) (rest := []) (ks := [6]) (env' := [(6, .bool false)]) (H' := [⟨41, b_13, [.int .u64 r_12.1.Term, .int .u64 r_12.1.Index, .int .i64 r_12.1.Kind, .string (bs r_12.1.Data)]⟩, ⟨40, b_4, [.int .u64 s_3.Index, .int .u64 s_3.Term, .int .u64 s_3.Config, .string (bs s_3.Data)]⟩]) (ps := []) (by kernel_rfl) trivial ?_
              refine GoO.regionEnd ?_
              exact GoO.ret' (h := c10_28e) (hs := []) (ps := []) (hk := []) (bk := []) Try.func10 () (by kernel_rfl) trivial (by kernel_rfl) (by kernel_rfl)
          · refine GoO.exec (is := [15, 16, 17, 18, 19, 20, 21, 22, 23, 24, 25, 26, 27, 28, 29, 30, 31, 32, 33, 34, 35, 36, 37, 38, 39, 40, 41, 42, 43, 44, 45, 46, 47, 48, 49, 50, 51, 52, 53, 54, 55, 56, 57, 58, 59, 60, 61, 62, 63, 64, 65, 66, 67, 68, 69, 70, 71, 72]) (hs := [.p, .p, .p, .p, .p, .p, .p, .p, .p, .p, .p, .p, .p, .p, .p, .p, .p, .p, .p, .p, .p, .p, .p, .p, .p, .p, .p, .p, .p, .p, .p, .p, .p, .p, .p, .p, .p, .p, .p, .p, .p, .p, .p, .p, .p, .p, .p, .p, .p, .p, .p, .p, .p, .p, .p, .p, .p, .p]) (rest := []) (ks := [6]) (env' := [(6, .bool false)]) (H' := [⟨41, b_13, [.int .u64 r_12.1.Term, .int .u64 r_12.1.Index, .int .i64 r_12.1.Kind, .string (bs r_12.1.Data)]⟩, ⟨40, b_4, [.int .u64 s_3.Index, .int .u64 s_3.Term, .int .u64 s_3.Config, .string (bs s_3.Data)]⟩]) (ps := []) (by kernel_rfl) trivial ?_
            refine GoO.regionEnd ?_
            exact GoO.ret' (h := c10_28e) (hs := []) (ps := []) (hk := []) (bk := []) Try.func10 () (by kernel_rfl) trivial (by kernel_rfl) (by kernel_rfl)
        · refine GoO.exec (is := [11, 12, 13, 14, 15, 16, 17, 18, 19, 20, 21, 22, 23, 24, 25, 26, 27, 28, 29, 30, 31, 32, 33, 34, 35, 36, 37, 38, 39, 40, 41, 42, 43, 44, 45, 46, 47, 48, 49, 50, 51, 52, 53, 54, 55, 56, 57, 58, 59, 60, 61, 62, 63, 64, 65, 66, 67, 68, 69, 70, 71, 72]) (hs := [.p, .p, .p, .p, .p, .p, .p, .p, .p, .p, .p, .p, .p, .p, .p, .p, .p, .p, .p, .p, .p, .p, .p, .p, .p, .p, .p, .p, .p, .p, .p, .p, .p, .p, .p, .p, .p, .p, .p, .p, .p, .p, .p, .p, .p, .p, .p, .p, .p, .p, .p, .p, .p, .p, .p, .p, .p, .p, .p, .p, .p, .p]) (rest := []) (ks := [6]) (env' := [(6, .bool false)]) (H' := [⟨41, b_13, [.int .u64 r_12.1.Term, .int .u64 r_12.1.Index, .int .i64 r_12.1.Kind, .string (bs r_12.1.Data)]⟩, ⟨40, b_4, [.int .u64 s_3.Index, .int .u64 s_3.Term, .int .u64 s_3.Config, .string (bs s_3.Data)]⟩]) (ps := []) (by kernel_rfl) trivial ?_
          refine GoO.regionEnd ?_
          exact GoO.ret' (h := c10_28e) (hs := []) (ps := []) (hk := []) (bk := []) Try.func10 () (by kernel_rfl) trivial (by kernel_rfl) (by kernel_rfl)
      · refine GoO.exec (is := [7, 8, 9, 10, 11, 12, 13, 14, 15, 16, 17, 18, 19, 20, 21, 22, 23, 24, 25, 26, 27, 28, 29, 30, 31, 32, 33, 34, 35, 36, 37, 38, 39, 40, 41, 42, 43, 44, 45, 46, 47, 48, 49, 50, 51, 52, 53, 54, 55, 56, 57, 58, 59, 60, 61, 62, 63, 64, 65, 66, 67, 68, 69, 70, 71, 72]) (hs := [.p, .p, .p, .p, .p, .p, .p, .p, .p, .p, .p, .p, .p, .p, .p, .p, .p, .p, .p, .p, .p, .p, .p, .p, .p, .p, .p, .p, .p, .p, .p, .p, .p, .p, .p, .p, .p, .p, .p, .p, .p, .p, .p, .p, .p, .p, .p, .p, .p, .p, .p, .p, .p, .p, .p, .p, .p, .p, .p, .p, .p, .p, .p, .p, .p, .p]) (rest := []) (ks := [6]) (env' := [(6, .bool false)]) (H' := [⟨41, b_13, [.int .u64 r_12.1.Term, .int .u64 r_12.1.Index, .int .i64 r_12.1.Kind, .string (bs r_12.1.Data)]⟩, ⟨40, b_4, [.int .u64 s_3.Index, .int .u64 s_3.Term, .int .u64 s_3.Config, .string (bs s_3.Data)]⟩]) (ps := []) (by kernel_rfl) trivial ?_
        refine GoO.regionEnd ?_
        exact GoO.ret' (h := c10_28e) (hs := []) (ps := []) (hk := []) (bk := []) Try.func10 () (by kernel_rfl) trivial (by kernel_rfl) (by kernel_rfl)
    · refine GoO.exec (is := [3, 4, 5, 6, 7, 8, 9, 10, 11, 12, 13, 14, 15, 16, 17, 18, 19, 20, 21, 22, 23, 24, 25, 26, 27, 28, 29, 30, 31, 32, 33, 34, 35, 36, 37, 38, 39, 40, 41, 42, 43, 44, 45, 46, 47, 48, 49, 50, 51, 52, 53, 54, 55, 56, 57, 58, 59, 60, 61, 62, 63, 64, 65, 66, 67, 68, 69, 70, 71, 72]) (hs := [.p, .p, .p, .p, .p, .p, .p, .p, .p, .p, .p, .p, .p, .p, .p, .p, .p, .p, .p, .p, .p, .p, .p, .p, .p, .p, .p, .p, .p, .p, .p, .p, .p, .p, .p, .p, .p, .p, .p, .p, .p, .p, .p, .p, .p, .p, .p, .p, .p, .p, .p, .p, .p, .p, .p, .p, .p, .p, .p, .p, .p, .p, .p, .p, .p, .p, .p, .p, .p, .p]) (rest := []) (ks := [6]) (env' := [(6, .bool false)]) (H' := [⟨41, b_13, [.int .u64 r_12.1.Term, .int .u64 r_12.1.Index, .int .i64 r_12.1.Kind, .string (bs r_12.1.Data)]⟩, ⟨40, b_4, [.int .u64 s_3.Index, .int .u64 s_3.Term, .int .u64 s_3.Config, .string (bs s_3.Data)]⟩]) (ps := []) (by kernel_rfl) trivial ?_
      refine GoO.regionEnd ?_
      exact GoO.ret' (h := c10_28e) (hs := []) (ps := []) (hk := []) (bk := []) Try.func10 () (by kernel_rfl) trivial (by kernel_rfl) (by kernel_rfl)
end Go.GL
