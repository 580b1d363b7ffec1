import Derived.Test.YtolipnnfdclkoaaWalkRlogMergesP1
import Derived.Test.YtolipnnfdclkoaaKindsT1
import Derived.Test.YtolipnnfdclkoaaProg
set_option linter.unusedVariables false
set_option linter.unusedSimpArgs false
set_option maxRecDepth 100000
namespace Go.GL
open Go Go.Proofs
theorem rlog_Log_Get_ok (n : Nat) (g_1 : T_rlog_Log) (i_5 : Int) (n_6 : Int) (b_2 : Nat) (A_3 : Option Addr) (c_4 : Nat) :
    Meets Try.prog 17 [.pointer (some ⟨b_2, 0, none⟩), .int .u64 i_5, .int .i64 n_6] 2 [] [⟨1, b_2, [.int .u64 g_1.snap.Index, .int .u64 g_1.snap.Term, .int .u64 g_1.snap.Config, .string (bs g_1.snap.Data), .slice A_3 g_1.entries.length c_4]⟩] [Ow 2 kT_api_Entry A_3 c_4 g_1.entries] (rlog_Log_Get.f n g_1 i_5 n_6) (rlog_Log_Get.R b_2 A_3 c_4) := by
  refine Meets.of (c := c17_0) (n := 39) Try.func17 (by kernel_rfl) (by kernel_rfl) (by kernel_rfl) fun w0 S0 => ?_
  unfold rlog_Log_Get.f
  show GoO (rlog_Log_Get.cx b_2 A_3 c_4 w0 S0) [(0, .pointer (some ⟨b_2, 0, none⟩)), (1, .int .u64 i_5), (2, .int .i64 n_6)] [⟨1, b_2, [.int .u64 g_1.snap.Index, .int .u64 g_1.snap.Term, .int .u64 g_1.snap.Config, .string (bs g_1.snap.Data), .slice A_3 g_1.entries.length c_4]⟩] [Ow 2 kT_api_Entry A_3 c_4 g_1.entries] [.code c17_0] _
  refine GoO.seq' c17_0e ?_
  refine GoO.region' (is := [0]) c17_1e (by kernel_rfl) ?_
  refine GoO.exec (is := [0]) (hs := [.p]) (rest := []) (ks := [0, 1, 2]) (env' := [(0, .pointer (some ⟨b_2, 0, none⟩)), (1, .int .u64 i_5), (2, .int .i64 n_6)]) (H' := [⟨1, b_2, [.int .u64 g_1.snap.Index, .int .u64 g_1.snap.Term, .int .u64 g_1.snap.Config, .string (bs g_1.snap.Data), .slice A_3 g_1.entries.length c_4]⟩]) (ps := []) (by kernel_rfl) trivial ?_
  refine GoO.regionEnd ?_
  refine GoO.seq' c17_2e ?_
  refine GoO.region' (is := [0, 1, 2, 3]) c17_3e (by kernel_rfl) ?_
  refine GoO.exec (is := [0, 1]) (hs := [.p, .p]) (rest := [2, 3]) (ks := [0, 2, 8, 9]) (env' := [(0, .pointer (some ⟨b_2, 0, none⟩)), (2, .int .i64 n_6), (8, .pointer (some ⟨b_2, 0, none⟩)), (9, .int .u64 i_5)]) (H' := [⟨1, b_2, [.int .u64 g_1.snap.Index, .int .u64 g_1.snap.Term, .int .u64 g_1.snap.Config, .string (bs g_1.snap.Data), .slice A_3 g_1.entries.length c_4]⟩]) (ps := []) (by kernel_rfl) trivial ?_
  refine OpTo.go (GoO.call rfl (by kernel_rfl) (by kernel_rfl) (rlog_Log_at_ok n (⟨(⟨g_1.snap.Index, g_1.snap.Term, g_1.snap.Config, g_1.snap.Data⟩ : T_api_Snapshot), g_1.entries⟩ : T_rlog_Log) i_5 b_2 A_3 c_4) [[0], [1], [2]] [] [(1, 0)] [(2, 0)] (hks := [0]) (bks := [0]) (by kernel_rfl) (by kernel_rfl) (by kernel_rfl) (.inl rfl) rfl rfl (by kernel_rfl) (by kernel_rfl) _ (fun _ _ => rfl) _ _ (fun _ _ => rfl) (fun _ _ => rfl) (fun _ _ => by kernel_rfl) (fun _ _ => by kernel_rfl) (fun r_7 x_17 => ?_))
  refine GoO.shape (env' := [(0, .pointer (some ⟨b_2, 0, none⟩)), (2, .int .i64 n_6), (8, .pointer (some ⟨b_2, 0, none⟩)), (9, .int .u64 i_5), (10, .int .i64 r_7)]) (H' := [⟨1, b_2, [.int .u64 g_1.snap.Index, .int .u64 g_1.snap.Term, .int .u64 g_1.snap.Config, .string (bs g_1.snap.Data), .slice A_3 g_1.entries.length c_4]⟩]) (B' := [Ow 2 kT_api_Entry A_3 c_4 g_1.entries]) (ks := [0, 2, 8, 9, 10]) (by kernel_rfl) (by kernel_rfl) (by kernel_rfl) ?_
  refine GoO.exec (is := [3]) (hs := [.p]) (rest := []) (ks := [0, 2, 7]) (env' := [(0, .pointer (some ⟨b_2, 0, none⟩)), (2, .int .i64 n_6), (7, .int .i64 r_7)]) (H' := [⟨1, b_2, [.int .u64 g_1.snap.Index, .int .u64 g_1.snap.Term, .int .u64 g_1.snap.Config, .string (bs g_1.snap.Data), .slice A_3 g_1.entries.length c_4]⟩]) (ps := []) (by kernel_rfl) trivial ?_
  refine GoO.regionEnd ?_
  refine GoO.seq' c17_4e ?_
  refine GoO.seq' c17_5e ?_
  refine GoO.region' (is := [0, 1, 2, 3, 4, 5]) c17_6e (by kernel_rfl) ?_
  refine GoO.exec (is := [0, 1, 2]) (hs := [.p, .p, .p]) (rest := [3, 4, 5]) (ks := [0, 2, 7, 13]) (env' := [(0, .pointer (some ⟨b_2, 0, none⟩)), (2, .int .i64 n_6), (7, .int .i64 r_7), (13, .bool (decide (r_7 < 0)))]) (H' := [⟨1, b_2, [.int .u64 g_1.snap.Index, .int .u64 g_1.snap.Term, .int .u64 g_1.snap.Config, .string (bs g_1.snap.Data), .slice A_3 g_1.entries.length c_4]⟩]) (ps := []) (by kernel_rfl) trivial ?_
  refine GoO.bsplit (t := 13) (by kernel_rfl) (fun h8 => ?_) (fun h8 => ?_)
  · refine GoO.exec (is := [3, 4, 5]) (hs := [.p, .p, .p]) (rest := []) (ks := [0, 2, 7, 16]) (env' := [(0, .pointer (some ⟨b_2, 0, none⟩)), (2, .int .i64 n_6), (7, .int .i64 r_7), (16, .bool true)]) (H' := [⟨1, b_2, [.int .u64 g_1.snap.Index, .int .u64 g_1.snap.Term, .int .u64 g_1.snap.Config, .string (bs g_1.snap.Data), .slice A_3 g_1.entries.length c_4]⟩]) (ps := []) (by kernel_rfl) trivial ?_
    refine GoO.regionEnd ?_
    exact GoO.sub (ks := [0, 2, 7, 16]) (hk := [0]) (bk := [0]) (by kernel_rfl) (by kernel_rfl) (by kernel_rfl) (rlog_Log_Get_j0_ok n g_1 n_6 r_7 b_2 A_3 c_4 w0 S0 true)
  · refine GoO.exec (is := [3, 4, 5]) (hs := [.p, .p, .p]) (rest := []) (ks := [0, 2, 7, 16]) (env' := [(0, .pointer (some ⟨b_2, 0, none⟩)), (2, .int .i64 n_6), (7, .int .i64 r_7), (16, .bool (decide (n_6 ≤ 0)))]) (H' := [⟨1, b_2, [.int .u64 g_1.snap.Index, .int .u64 g_1.snap.Term, .int .u64 g_1.snap.Config, .string (bs g_1.snap.Data), .slice A_3 g_1.entries.length c_4]⟩]) (ps := []) (by kernel_rfl) trivial ?_
    refine GoO.regionEnd ?_
    exact GoO.sub (ks := [0, 2, 7, 16]) (hk := [0]) (bk := [0]) (by kernel_rfl) (by kernel_rfl) (by kernel_rfl) (rlog_Log_Get_j0_ok n g_1 n_6 r_7 b_2 A_3 c_4 w0 S0 (decide (n_6 ≤ 0)))

/-! tontine/tontineref07.Same -/
noncomputable def c19_0 : Code := bodyOf Try.f19
noncomputable def c19_1 : Code := cdL c19_0
noncomputable def c19_2 : Code := cdR c19_0
noncomputable def c19_3 : Code := cdL c19_2
noncomputable def c19_4 : Code := cdL c19_3
noncomputable def c19_5 : Code := cdR c19_3
noncomputable def c19_6 : Code := cdL c19_5
noncomputable def c19_7 : Code := cdL c19_6
noncomputable def c19_8 : Code := cdR c19_6
noncomputable def c19_9 : Code := cdR c19_5
noncomputable def c19_10 : Code := cdR c19_2
noncomputable def c19_11 : Code := cdL c19_10
noncomputable def c19_12 : Code := cdL c19_11
noncomputable def c19_13 : Code := cdR c19_11
noncomputable def c19_14 : Code := cdL c19_13
noncomputable def c19_15 : Code := cdL c19_14
noncomputable def c19_16 : Code := cdL c19_15
noncomputable def c19_17 : Code := cdL c19_16
noncomputable def c19_18 : Code := cdR c19_16
noncomputable def c19_19 : Code := cdL c19_18
noncomputable def c19_20 : Code := cdR c19_18
noncomputable def c19_21 : Code := cdR c19_15
noncomputable def c19_22 : Code := cdL c19_21
noncomputable def c19_23 : Code := cdL c19_22
noncomputable def c19_24 : Code := cdL c19_23
noncomputable def c19_25 : Code := cdR c19_23
noncomputable def c19_26 : Code := cdL c19_25
noncomputable def c19_27 : Code := cdL c19_26
noncomputable def c19_28 : Code := cdR c19_26
noncomputable def c19_29 : Code := cdR c19_25
noncomputable def c19_30 : Code := cdR c19_21
noncomputable def c19_31 : Code := cdR c19_10
noncomputable def c19_32 : Code := cdL c19_31
noncomputable def c19_33 : Code := cdR c19_31
noncomputable def r19_1 : Array Oper := cdO c19_1
noncomputable def r19_4 : Array Oper := cdO c19_4
noncomputable def r19_7 : Array Oper := cdO c19_7
noncomputable def r19_12 : Array Oper := cdO c19_12
noncomputable def r19_17 : Array Oper := cdO c19_17
noncomputable def r19_24 : Array Oper := cdO c19_24
noncomputable def r19_27 : Array Oper := cdO c19_27
noncomputable def r19_30 : Array Oper := cdO c19_30
noncomputable def r19_32 : Array Oper := cdO c19_32
theorem c19_0e : c19_0 = .seq c19_1 c19_2 := by kernel_rfl
theorem c19_1e : c19_1 = .region 0 r19_1 false := by kernel_rfl
theorem c19_2e : c19_2 = .seq c19_3 c19_10 := by kernel_rfl
theorem c19_3e : c19_3 = .seq c19_4 c19_5 := by kernel_rfl
theorem c19_4e : c19_4 = .region 1 r19_4 false := by kernel_rfl
theorem c19_5e : c19_5 = .cond (cdC c19_5) c19_6 c19_9 := by kernel_rfl
theorem c19_6e : c19_6 = .seq c19_7 c19_8 := by kernel_rfl
theorem c19_7e : c19_7 = .region 2 r19_7 false := by kernel_rfl
theorem c19_8e : c19_8 = .ret := by kernel_rfl
theorem c19_9e : c19_9 = .skip := by kernel_rfl
theorem c19_10e : c19_10 = .seq c19_11 c19_31 := by kernel_rfl
theorem c19_11e : c19_11 = .seq c19_12 c19_13 := by kernel_rfl
theorem c19_12e : c19_12 = .region 3 r19_12 false := by kernel_rfl
theorem c19_13e : c19_13 = .block 0 c19_14 := by kernel_rfl
theorem c19_14e : c19_14 = .loop c19_15 := by kernel_rfl
theorem c19_15e : c19_15 = .seq c19_16 c19_21 := by kernel_rfl
theorem c19_16e : c19_16 = .seq c19_17 c19_18 := by kernel_rfl
theorem c19_17e : c19_17 = .region 4 r19_17 false := by kernel_rfl
theorem c19_18e : c19_18 = .cond (cdC c19_18) c19_19 c19_20 := by kernel_rfl
theorem c19_19e : c19_19 = .skip := by kernel_rfl
theorem c19_20e : c19_20 = .exit 0 := by kernel_rfl
theorem c19_21e : c19_21 = .seq c19_22 c19_30 := by kernel_rfl
theorem c19_22e : c19_22 = .block 1 c19_23 := by kernel_rfl
theorem c19_23e : c19_23 = .seq c19_24 c19_25 := by kernel_rfl
theorem c19_24e : c19_24 = .region 6 r19_24 true := by kernel_rfl
theorem c19_25e : c19_25 = .cond (cdC c19_25) c19_26 c19_29 := by kernel_rfl
theorem c19_26e : c19_26 = .seq c19_27 c19_28 := by kernel_rfl
theorem c19_27e : c19_27 = .region 7 r19_27 false := by kernel_rfl
theorem c19_28e : c19_28 = .ret := by kernel_rfl
theorem c19_29e : c19_29 = .skip := by kernel_rfl
theorem c19_30e : c19_30 = .region 5 r19_30 false := by kernel_rfl
theorem c19_31e : c19_31 = .seq c19_32 c19_33 := by kernel_rfl
theorem c19_32e : c19_32 = .region 8 r19_32 false := by kernel_rfl
theorem c19_33e : c19_33 = .ret := by kernel_rfl
noncomputable def tontineref07_Same.R (A_2 : Option Addr) (c_3 : Nat) (A_5 : Option Addr) (c_6 : Nat) : Pst Bool where
  ε := Unit
  v := fun r x => .bool r
  H := fun r x => []
  B := fun r x => []
noncomputable def tontineref07_Same.cx (A_2 : Option Addr) (c_3 : Nat) (A_5 : Option Addr) (c_6 : Nat) (w0 : World) (S0 : Fam) : Cx Bool := ⟨Try.prog, 19, Try.f19, 26, w0, S0, [], 0, tontineref07_Same.R A_2 c_3 A_5 c_6⟩
theorem tontineref07_Same_l0_ok (n : Nat) (a_1 : (List T_api_Entry)) (b_4 : (List T_api_Entry)) (A_2 : Option Addr) (c_3 : Nat) (A_5 : Option Addr) (c_6 : Nat) (w0 : World) (S0 : Fam) :
    ∀ (k : Nat) (i_8 : Int), GoO (tontineref07_Same.cx A_2 c_3 A_5 c_6 w0 S0) [(0, .slice A_2 a_1.length c_3), (1, .slice A_5 b_4.length c_6), (5, .int .i64 i_8)] [] [Rd 0 kT_api_Entry A_2 c_3 a_1, Rd 0 kT_api_Entry A_5 c_6 b_4] [.code c19_15, .inLoop c19_15, .inBlock 0, .code c19_31] (tontineref07_Same.l0 n a_1 b_4 k i_8) := by
  intro k
  induction k with
  | zero => intros; rw [tontineref07_Same.l0.eq_1]; exact GoO.stop
  | succ k ih0 =>
    intro i_8
    rw [tontineref07_Same.l0.eq_2]
    refine GoO.seq' c19_15e ?_
    refine GoO.seq' c19_16e ?_
    refine GoO.region' (is := [0, 1, 2, 3]) c19_17e (by kernel_rfl) ?_
    refine GoO.exec (is := [0, 1, 2, 3]) (hs := [.p, .p, .p, .p]) (rest := []) (ks := [0, 1, 5, 14]) (env' := [(0, .slice A_2 a_1.length c_3), (1, .slice A_5 b_4.length c_6), (5, .int .i64 i_8), (14, .bool (decide (i_8 < (a_1.length : Int))))]) (H' := []) (ps := []) (by kernel_rfl) trivial ?_
    refine GoO.regionEnd ?_
    refine GoO.ite' c19_18e (by kernel_rfl) (fun h9 => ?_) (fun h9 => ?_)
    · refine GoO.skip' c19_19e ?_
      refine GoO.seq' c19_21e ?_
      refine GoO.block' c19_22e ?_
      refine GoO.seq' c19_23e ?_
      refine GoO.draw c19_24e (by kernel_rfl) [] [] [Rd 0 kT_api_Entry A_2 c_3 a_1, Rd 0 kT_api_Entry A_5 c_6 b_4] (n := 9) (by kernel_rfl) ?_
      simp only [List.replicate]
      refine GoF.take [0, 1, 4, 5] [.p, .p, .p, .p] (ks := [0, 1, 5, 17, 18, 21, 22]) (fu := 5) (li := [true, true, false, false, true, true, false, false, false]) (env' := [(0, .slice A_2 a_1.length c_3), (1, .slice A_5 b_4.length c_6), (5, .int .i64 i_8), (17, .slice A_2 a_1.length c_3), (18, .int .i64 i_8), (21, .slice A_5 b_4.length c_6), (22, .int .i64 i_8)]) (ps := []) (hk := []) (bk := [0, 1]) (by kernel_rfl) trivial rfl rfl ?_
      refine GoF.guard (fun h10 => ?_)
      refine GoF.idx (i := 2) (hk := []) (bk := [0, 1]) (kk := .i64) (e := 40) (K := kT_api_Entry) (A := A_2) (c := c_3) (xs := a_1) (iv := i_8) (j := 0) (by kernel_rfl) rfl rfl rfl (by kernel_rfl) (by kernel_rfl) (by kernel_rfl) (by kernel_rfl) rfl Reads.rd rfl h10.1 h10.2 (by decide) rfl ?_
      refine GoF.ldE (i := 3) (hk := []) (bk := [0, 1]) (K := kT_api_Entry) (A := A_2) (c := c_3) (xs := a_1) (iN := i_8.toNat) (off := 0) (j := 0) (v := .agg ⟨[.int .u64 ((rdL a_1 i_8).Term), .int .u64 ((rdL a_1 i_8).Index), .int .i64 ((rdL a_1 i_8).Kind), .string (bs ((rdL a_1 i_8).Data))]⟩) (by kernel_rfl) rfl rfl rfl (hK := rfl) (by kernel_rfl) rfl Reads.rd (by first | exact idx_lt h10.1 h10.2 | (simp only [List.length_set]; exact idx_lt h10.1 h10.2)) (by decide) (by kernel_rfl) rfl ?_
      refine GoF.guard (fun h11 => ?_)
      refine GoF.idx (i := 6) (hk := []) (bk := [0, 1]) (kk := .i64) (e := 40) (K := kT_api_Entry) (A := A_5) (c := c_6) (xs := b_4) (iv := i_8) (j := 1) (by kernel_rfl) rfl rfl rfl (by kernel_rfl) (by kernel_rfl) (by kernel_rfl) (by kernel_rfl) rfl Reads.rd rfl h11.1 h11.2 (by decide) rfl ?_
      refine GoF.ldE (i := 7) (hk := []) (bk := [0, 1]) (K := kT_api_Entry) (A := A_5) (c := c_6) (xs := b_4) (iN := i_8.toNat) (off := 0) (j := 1) (v := .agg ⟨[.int .u64 ((rdL b_4 i_8).Term), .int .u64 ((rdL b_4 i_8).Index), .int .i64 ((rdL b_4 i_8).Kind), .string (bs ((rdL b_4 i_8).Data))]⟩) (by kernel_rfl) rfl rfl rfl (hK := rfl) (by kernel_rfl) rfl Reads.rd (by first | exact idx_lt h11.1 h11.2 | (simp only [List.length_set]; exact idx_lt h11.1 h11.2)) (by decide) (by kernel_rfl) rfl ?_
      refine GoF.take [8] [.p] (ks := [0, 1, 5, 25]) (fu := 0) (li := [true, true, true, true, true, true, true, true, true]) (env' := [(0, .slice A_2 a_1.length c_3), (1, .slice A_5 b_4.length c_6), (5, .int .i64 i_8), (25, .bool (!((((rdL a_1 i_8).Term) == ((rdL b_4 i_8).Term)) && ((((rdL a_1 i_8).Index) == ((rdL b_4 i_8).Index)) && ((((rdL a_1 i_8).Kind) == ((rdL b_4 i_8).Kind)) && ((((rdL a_1 i_8).Data) == ((rdL b_4 i_8).Data)) && true))))))]) (ps := []) (hk := []) (bk := [0, 1]) (by kernel_rfl) trivial rfl rfl ?_
      refine GoF.done (by kernel_rfl) ?_
      refine GoO.ite' c19_25e (by kernel_rfl) (fun h12 => ?_) (fun h12 => ?_)
      · refine GoO.seq' c19_26e ?_
        refine GoO.region' (is := [0]) c19_27e (by kernel_rfl) ?_
        refine GoO.exec (is := [0]) (hs := [.p]) (rest := []) (ks := [4]) (env' := [(4, .bool false)]) (H' := []) (ps := []) (by kernel_rfl) trivial ?_
        refine GoO.regionEnd ?_
        exact GoO.ret' (h := c19_28e) (hs := []) (ps := []) (hk := []) (bk := []) Try.func19 () (by kernel_rfl) trivial (by kernel_rfl) (by kernel_rfl)
      · refine GoO.skip' c19_29e ?_
        refine GoO.inBlock ?_
        refine GoO.region' (is := [0, 1, 2]) c19_30e (by kernel_rfl) ?_
        refine GoO.exec (is := [0, 1, 2]) (hs := [.p, .p, .p]) (rest := []) (ks := [0, 1, 5]) (env' := [(0, .slice A_2 a_1.length c_3), (1, .slice A_5 b_4.length c_6), (5, .int .i64 (wi64 (i_8 + 1)))]) (H' := []) (ps := []) (by kernel_rfl) trivial ?_
        refine GoO.regionEnd ?_
        refine GoO.inLoop ?_
        exact GoO.sub (ks := [0, 1, 5]) (hk := []) (bk := [0, 1]) (by kernel_rfl) (by kernel_rfl) (by kernel_rfl) (ih0 (wi64 (i_8 + 1)))
    · refine GoO.exit' c19_20e rfl ?_
      refine GoO.seq' c19_31e ?_
      refine GoO.region' (is := [0]) c19_32e (by kernel_rfl) ?_
      refine GoO.exec (is := [0]) (hs := [.p]) (rest := []) (ks := [4]) (env' := [(4, .bool true)]) (H' := []) (ps := []) (by kernel_rfl) trivial ?_
      refine GoO.regionEnd ?_
      exact GoO.ret' (h := c19_33e) (hs := []) (ps := []) (hk := []) (bk := []) Try.func19 () (by kernel_rfl) trivial (by kernel_rfl) (by kernel_rfl)
theorem tontineref07_Same_ok (n : Nat) (a_1 : (List T_api_Entry)) (b_4 : (List T_api_Entry)) (A_2 : Option Addr) (c_3 : Nat) (A_5 : Option Addr) (c_6 : Nat) :
    Meets Try.prog 19 [.slice A_2 a_1.length c_3, .slice A_5 b_4.length c_6] 0 [] [] [Rd 0 kT_api_Entry A_2 c_3 a_1, Rd 0 kT_api_Entry A_5 c_6 b_4] (tontineref07_Same.f n a_1 b_4) (tontineref07_Same.R A_2 c_3 A_5 c_6) := by
  refine Meets.of (c := c19_0) (n := 26) Try.func19 (by kernel_rfl) (by kernel_rfl) (by kernel_rfl) fun w0 S0 => ?_
  unfold tontineref07_Same.f
  show GoO (tontineref07_Same.cx A_2 c_3 A_5 c_6 w0 S0) [(0, .slice A_2 a_1.length c_3), (1, .slice A_5 b_4.length c_6)] [] [Rd 0 kT_api_Entry A_2 c_3 a_1, Rd 0 kT_api_Entry A_5 c_6 b_4] [.code c19_0] _
  refine GoO.seq' c19_0e ?_
  refine GoO.region' (is := [0]) c19_1e (by kernel_rfl) ?_
  refine GoO.exec (is := [0]) (hs := [.p]) (rest := []) (ks := [0, 1]) (env' := [(0, .slice A_2 a_1.length c_3), (1, .slice A_5 b_4.length c_6)]) (H' := []) (ps := []) (by kernel_rfl) trivial ?_
  refine GoO.regionEnd ?_
  refine GoO.seq' c19_2e ?_
  refine GoO.seq' c19_3e ?_
  refine GoO.region' (is := [0, 1, 2, 3, 4]) c19_4e (by kernel_rfl) ?_
  refine GoO.exec (is := [0, 1, 2, 3, 4]) (hs := [.p, .p, .p, .p, .p]) (rest := []) (ks := [0, 1, 10]) (env' := [(0, .slice A_2 a_1.length c_3), (1, .slice A_5 b_4.length c_6), (10, .bool ((a_1.length : Int) != (b_4.length : Int)))]) (H' := []) (ps := []) (by kernel_rfl) trivial ?_
  refine GoO.regionEnd ?_
  refine GoO.ite' c19_5e (by kernel_rfl) (fun h7 => ?_) (fun h7 => ?_)
  · refine GoO.seq' c19_6e ?_
    refine GoO.region' (is := [0]) c19_7e (by kernel_rfl) ?_
    refine GoO.exec (is := [0]) (hs := [.p]) (rest := []) (ks := [4]) (env' := [(4, .bool false)]) (H' := []) (ps := []) (by kernel_rfl) trivial ?_
    refine GoO.regionEnd ?_
    exact GoO.ret' (h := c19_8e) (hs := []) (ps := []) (hk := []) (bk := []) Try.func19 () (by kernel_rfl) trivial (by kernel_rfl) (by kernel_rfl)
  · refine GoO.skip' c19_9e ?_
    refine GoO.seq' c19_10e ?_
    refine GoO.seq' c19_11e ?_
    refine GoO.region' (is := [0]) c19_12e (by kernel_rfl) ?_
    refine GoO.exec (is := [0]) (hs := [.p]) (rest := []) (ks := [0, 1, 5]) (env' := [(0, .slice A_2 a_1.length c_3), (1, .slice A_5 b_4.length c_6), (5, .int .i64 0)]) (H' := []) (ps := []) (by kernel_rfl) trivial ?_
    refine GoO.regionEnd ?_
    refine GoO.block' c19_13e ?_
    refine GoO.loop' c19_14e ?_
    exact GoO.sub (ks := [0, 1, 5]) (hk := []) (bk := [0, 1]) (by kernel_rfl) (by kernel_rfl) (by kernel_rfl) (tontineref07_Same_l0_ok n a_1 b_4 A_2 c_3 A_5 c_6 w0 S0 n 0)

/-! tontine/tontinelaw07.RlogMerges -/
noncomputable def c3_0 : Code := bodyOf Try.f3
noncomputable def c3_1 : Code := cdL c3_0
noncomputable def c3_2 : Code := cdR c3_0
noncomputable def c3_3 : Code := cdL c3_2
noncomputable def c3_4 : Code := cdL c3_3
noncomputable def c3_5 : Code := cdR c3_3
noncomputable def c3_6 : Code := cdL c3_5
noncomputable def c3_7 : Code := cdL c3_6
noncomputable def c3_8 : Code := cdR c3_6
noncomputable def c3_9 : Code := cdR c3_5
noncomputable def c3_10 : Code := cdR c3_2
noncomputable def c3_11 : Code := cdL c3_10
noncomputable def c3_12 : Code := cdL c3_11
noncomputable def c3_13 : Code := cdR c3_11
noncomputable def c3_14 : Code := cdL c3_13
noncomputable def c3_15 : Code := cdL c3_14
noncomputable def c3_16 : Code := cdR c3_14
noncomputable def c3_17 : Code := cdR c3_13
noncomputable def c3_18 : Code := cdR c3_10
noncomputable def c3_19 : Code := cdL c3_18
noncomputable def c3_20 : Code := cdR c3_18
noncomputable def c3_21 : Code := cdL c3_20
noncomputable def c3_22 : Code := cdL c3_21
noncomputable def c3_23 : Code := cdR c3_21
noncomputable def c3_24 : Code := cdL c3_23
noncomputable def c3_25 : Code := cdL c3_24
noncomputable def c3_26 : Code := cdR c3_24
noncomputable def c3_27 : Code := cdR c3_23
noncomputable def c3_28 : Code := cdR c3_20
noncomputable def c3_29 : Code := cdL c3_28
noncomputable def c3_30 : Code := cdR c3_28
noncomputable def c3_31 : Code := cdL c3_30
noncomputable def c3_32 : Code := cdR c3_30
noncomputable def c3_33 : Code := cdL c3_32
noncomputable def c3_34 : Code := cdL c3_33
noncomputable def c3_35 : Code := cdR c3_33
noncomputable def c3_36 : Code := cdL c3_35
noncomputable def c3_37 : Code := cdL c3_36
noncomputable def c3_38 : Code := cdR c3_36
noncomputable def c3_39 : Code := cdR c3_35
noncomputable def c3_40 : Code := cdR c3_32
noncomputable def c3_41 : Code := cdL c3_40
noncomputable def c3_42 : Code := cdL c3_41
noncomputable def c3_43 : Code := cdR c3_41
noncomputable def c3_44 : Code := cdL c3_43
noncomputable def c3_45 : Code := cdL c3_44
noncomputable def c3_46 : Code := cdL c3_45
noncomputable def c3_47 : Code := cdR c3_45
noncomputable def c3_48 : Code := cdL c3_47
noncomputable def c3_49 : Code := cdL c3_48
noncomputable def c3_50 : Code := cdR c3_48
noncomputable def c3_51 : Code := cdR c3_47
noncomputable def c3_52 : Code := cdL c3_51
noncomputable def c3_53 : Code := cdL c3_52
noncomputable def c3_54 : Code := cdL c3_53
noncomputable def c3_55 : Code := cdR c3_53
noncomputable def c3_56 : Code := cdL c3_55
noncomputable def c3_57 : Code := cdR c3_55
noncomputable def c3_58 : Code := cdL c3_57
noncomputable def c3_59 : Code := cdR c3_57
noncomputable def c3_60 : Code := cdL c3_59
noncomputable def c3_61 : Code := cdL c3_60
noncomputable def c3_62 : Code := cdR c3_60
noncomputable def c3_63 : Code := cdR c3_59
noncomputable def c3_64 : Code := cdR c3_51
noncomputable def c3_65 : Code := cdR c3_40
noncomputable def c3_66 : Code := cdL c3_65
noncomputable def c3_67 : Code := cdL c3_66
noncomputable def c3_68 : Code := cdR c3_66
noncomputable def c3_69 : Code := cdL c3_68
noncomputable def c3_70 : Code := cdL c3_69
noncomputable def c3_71 : Code := cdL c3_70
noncomputable def c3_72 : Code := cdR c3_70
noncomputable def c3_73 : Code := cdL c3_72
noncomputable def c3_74 : Code := cdL c3_73
noncomputable def c3_75 : Code := cdR c3_73
noncomputable def c3_76 : Code := cdR c3_72
noncomputable def c3_77 : Code := cdL c3_76
noncomputable def c3_78 : Code := cdL c3_77
noncomputable def c3_79 : Code := cdL c3_78
noncomputable def c3_80 : Code := cdR c3_78
noncomputable def c3_81 : Code := cdL c3_80
noncomputable def c3_82 : Code := cdR c3_80
noncomputable def c3_83 : Code := cdL c3_82
noncomputable def c3_84 : Code := cdR c3_82
noncomputable def c3_85 : Code := cdL c3_84
noncomputable def c3_86 : Code := cdL c3_85
noncomputable def c3_87 : Code := cdR c3_85
noncomputable def c3_88 : Code := cdR c3_84
noncomputable def c3_89 : Code := cdR c3_76
noncomputable def c3_90 : Code := cdR c3_65
noncomputable def c3_91 : Code := cdL c3_90
noncomputable def c3_92 : Code := cdR c3_90
noncomputable def c3_93 : Code := cdL c3_92
noncomputable def c3_94 : Code := cdR c3_92
noncomputable def c3_95 : Code := cdL c3_94
noncomputable def c3_96 : Code := cdR c3_94
noncomputable def r3_1 : Array Oper := cdO c3_1
noncomputable def r3_4 : Array Oper := cdO c3_4
noncomputable def r3_7 : Array Oper := cdO c3_7
noncomputable def r3_12 : Array Oper := cdO c3_12
noncomputable def r3_15 : Array Oper := cdO c3_15
noncomputable def r3_19 : Array Oper := cdO c3_19
noncomputable def r3_22 : Array Oper := cdO c3_22
noncomputable def r3_25 : Array Oper := cdO c3_25
noncomputable def r3_29 : Array Oper := cdO c3_29
noncomputable def r3_31 : Array Oper := cdO c3_31
noncomputable def r3_34 : Array Oper := cdO c3_34
noncomputable def r3_37 : Array Oper := cdO c3_37
noncomputable def r3_42 : Array Oper := cdO c3_42
noncomputable def r3_46 : Array Oper := cdO c3_46
noncomputable def r3_54 : Array Oper := cdO c3_54
noncomputable def r3_56 : Array Oper := cdO c3_56
noncomputable def r3_58 : Array Oper := cdO c3_58
noncomputable def r3_61 : Array Oper := cdO c3_61
noncomputable def r3_64 : Array Oper := cdO c3_64
noncomputable def r3_67 : Array Oper := cdO c3_67
noncomputable def r3_71 : Array Oper := cdO c3_71
noncomputable def r3_79 : Array Oper := cdO c3_79
noncomputable def r3_81 : Array Oper := cdO c3_81
noncomputable def r3_83 : Array Oper := cdO c3_83
noncomputable def r3_86 : Array Oper := cdO c3_86
noncomputable def r3_89 : Array Oper := cdO c3_89
noncomputable def r3_91 : Array Oper := cdO c3_91
noncomputable def r3_93 : Array Oper := cdO c3_93
noncomputable def r3_95 : Array Oper := cdO c3_95
theorem c3_0e : c3_0 = .seq c3_1 c3_2 := by kernel_rfl
theorem c3_1e : c3_1 = .region 0 r3_1 false := by kernel_rfl
theorem c3_2e : c3_2 = .seq c3_3 c3_10 := by kernel_rfl
theorem c3_3e : c3_3 = .seq c3_4 c3_5 := by kernel_rfl
theorem c3_4e : c3_4 = .region 1 r3_4 false := by kernel_rfl
theorem c3_5e : c3_5 = .cond (cdC c3_5) c3_6 c3_9 := by kernel_rfl
theorem c3_6e : c3_6 = .seq c3_7 c3_8 := by kernel_rfl
theorem c3_7e : c3_7 = .region 2 r3_7 false := by kernel_rfl
theorem c3_8e : c3_8 = .ret := by kernel_rfl
theorem c3_9e : c3_9 = .skip := by kernel_rfl
theorem c3_10e : c3_10 = .seq c3_11 c3_18 := by kernel_rfl
theorem c3_11e : c3_11 = .seq c3_12 c3_13 := by kernel_rfl
theorem c3_12e : c3_12 = .region 3 r3_12 false := by kernel_rfl
theorem c3_13e : c3_13 = .cond (cdC c3_13) c3_14 c3_17 := by kernel_rfl
theorem c3_14e : c3_14 = .seq c3_15 c3_16 := by kernel_rfl
theorem c3_15e : c3_15 = .region 4 r3_15 false := by kernel_rfl
theorem c3_16e : c3_16 = .ret := by kernel_rfl
theorem c3_17e : c3_17 = .skip := by kernel_rfl
theorem c3_18e : c3_18 = .seq c3_19 c3_20 := by kernel_rfl
theorem c3_19e : c3_19 = .region 5 r3_19 false := by kernel_rfl
theorem c3_20e : c3_20 = .seq c3_21 c3_28 := by kernel_rfl
theorem c3_21e : c3_21 = .seq c3_22 c3_23 := by kernel_rfl
theorem c3_22e : c3_22 = .region 6 r3_22 false := by kernel_rfl
theorem c3_23e : c3_23 = .cond (cdC c3_23) c3_24 c3_27 := by kernel_rfl
theorem c3_24e : c3_24 = .seq c3_25 c3_26 := by kernel_rfl
theorem c3_25e : c3_25 = .region 7 r3_25 false := by kernel_rfl
theorem c3_26e : c3_26 = .ret := by kernel_rfl
theorem c3_27e : c3_27 = .skip := by kernel_rfl
theorem c3_28e : c3_28 = .seq c3_29 c3_30 := by kernel_rfl
theorem c3_29e : c3_29 = .region 8 r3_29 false := by kernel_rfl
theorem c3_30e : c3_30 = .seq c3_31 c3_32 := by kernel_rfl
theorem c3_31e : c3_31 = .region 9 r3_31 false := by kernel_rfl
theorem c3_32e : c3_32 = .seq c3_33 c3_40 := by kernel_rfl
theorem c3_33e : c3_33 = .seq c3_34 c3_35 := by kernel_rfl
theorem c3_34e : c3_34 = .region 10 r3_34 false := by kernel_rfl
theorem c3_35e : c3_35 = .cond (cdC c3_35) c3_36 c3_39 := by kernel_rfl
theorem c3_36e : c3_36 = .seq c3_37 c3_38 := by kernel_rfl
theorem c3_37e : c3_37 = .region 11 r3_37 false := by kernel_rfl
theorem c3_38e : c3_38 = .ret := by kernel_rfl
theorem c3_39e : c3_39 = .skip := by kernel_rfl
theorem c3_40e : c3_40 = .seq c3_41 c3_65 := by kernel_rfl
theorem c3_41e : c3_41 = .seq c3_42 c3_43 := by kernel_rfl
theorem c3_42e : c3_42 = .region 12 r3_42 false := by kernel_rfl
theorem c3_43e : c3_43 = .block 0 c3_44 := by kernel_rfl
theorem c3_44e : c3_44 = .loop c3_45 := by kernel_rfl
theorem c3_45e : c3_45 = .seq c3_46 c3_47 := by kernel_rfl
theorem c3_46e : c3_46 = .region 13 r3_46 false := by kernel_rfl
theorem c3_47e : c3_47 = .seq c3_48 c3_51 := by kernel_rfl
theorem c3_48e : c3_48 = .cond (cdC c3_48) c3_49 c3_50 := by kernel_rfl
theorem c3_49e : c3_49 = .skip := by kernel_rfl
theorem c3_50e : c3_50 = .exit 0 := by kernel_rfl
theorem c3_51e : c3_51 = .seq c3_52 c3_64 := by kernel_rfl
theorem c3_52e : c3_52 = .block 1 c3_53 := by kernel_rfl
theorem c3_53e : c3_53 = .seq c3_54 c3_55 := by kernel_rfl
theorem c3_54e : c3_54 = .region 14 r3_54 false := by kernel_rfl
theorem c3_55e : c3_55 = .seq c3_56 c3_57 := by kernel_rfl
theorem c3_56e : c3_56 = .region 15 r3_56 false := by kernel_rfl
theorem c3_57e : c3_57 = .seq c3_58 c3_59 := by kernel_rfl
theorem c3_58e : c3_58 = .region 16 r3_58 false := by kernel_rfl
theorem c3_59e : c3_59 = .cond (cdC c3_59) c3_60 c3_63 := by kernel_rfl
theorem c3_60e : c3_60 = .seq c3_61 c3_62 := by kernel_rfl
theorem c3_61e : c3_61 = .region 17 r3_61 false := by kernel_rfl
theorem c3_62e : c3_62 = .ret := by kernel_rfl
theorem c3_63e : c3_63 = .skip := by kernel_rfl
theorem c3_64e : c3_64 = .region 18 r3_64 false := by kernel_rfl
theorem c3_65e : c3_65 = .seq c3_66 c3_90 := by kernel_rfl
theorem c3_66e : c3_66 = .seq c3_67 c3_68 := by kernel_rfl
theorem c3_67e : c3_67 = .region 19 r3_67 false := by kernel_rfl
theorem c3_68e : c3_68 = .block 2 c3_69 := by kernel_rfl
theorem c3_69e : c3_69 = .loop c3_70 := by kernel_rfl
theorem c3_70e : c3_70 = .seq c3_71 c3_72 := by kernel_rfl
theorem c3_71e : c3_71 = .region 20 r3_71 false := by kernel_rfl
theorem c3_72e : c3_72 = .seq c3_73 c3_76 := by kernel_rfl
theorem c3_73e : c3_73 = .cond (cdC c3_73) c3_74 c3_75 := by kernel_rfl
theorem c3_74e : c3_74 = .skip := by kernel_rfl
theorem c3_75e : c3_75 = .exit 2 := by kernel_rfl
theorem c3_76e : c3_76 = .seq c3_77 c3_89 := by kernel_rfl
theorem c3_77e : c3_77 = .block 3 c3_78 := by kernel_rfl
theorem c3_78e : c3_78 = .seq c3_79 c3_80 := by kernel_rfl
theorem c3_79e : c3_79 = .region 21 r3_79 false := by kernel_rfl
theorem c3_80e : c3_80 = .seq c3_81 c3_82 := by kernel_rfl
theorem c3_81e : c3_81 = .region 22 r3_81 false := by kernel_rfl
theorem c3_82e : c3_82 = .seq c3_83 c3_84 := by kernel_rfl
theorem c3_83e : c3_83 = .region 23 r3_83 false := by kernel_rfl
theorem c3_84e : c3_84 = .cond (cdC c3_84) c3_85 c3_88 := by kernel_rfl
theorem c3_85e : c3_85 = .seq c3_86 c3_87 := by kernel_rfl
theorem c3_86e : c3_86 = .region 24 r3_86 false := by kernel_rfl
theorem c3_87e : c3_87 = .ret := by kernel_rfl
theorem c3_88e : c3_88 = .skip := by kernel_rfl
theorem c3_89e : c3_89 = .region 25 r3_89 false := by kernel_rfl
theorem c3_90e : c3_90 = .seq c3_91 c3_92 := by kernel_rfl
theorem c3_91e : c3_91 = .region 26 r3_91 false := by kernel_rfl
theorem c3_92e : c3_92 = .seq c3_93 c3_94 := by kernel_rfl
theorem c3_93e : c3_93 = .region 27 r3_93 false := by kernel_rfl
theorem c3_94e : c3_94 = .seq c3_95 c3_96 := by kernel_rfl
theorem c3_95e : c3_95 = .region 28 r3_95 false := by kernel_rfl
theorem c3_96e : c3_96 = .ret := by kernel_rfl
noncomputable def tontinelaw07_RlogMerges.R (A_3 : Option Addr) (c_4 : Nat) (A_6 : Option Addr) (c_7 : Nat) : Pst Bool where
  ε := Unit
  v := fun r x => .bool r
  H := fun r x => []
  B := fun r x => []
noncomputable def tontinelaw07_RlogMerges.cx (A_3 : Option Addr) (c_4 : Nat) (A_6 : Option Addr) (c_7 : Nat) (w0 : World) (S0 : Fam) : Cx Bool := ⟨Try.prog, 3, Try.f3, 158, w0, S0, [], 0, tontinelaw07_RlogMerges.R A_3 c_4 A_6 c_7⟩
theorem tontinelaw07_RlogMerges_j0_ok (n : Nat) (A_3 : Option Addr) (c_4 : Nat) (A_6 : Option Addr) (c_7 : Nat) (w0 : World) (S0 : Fam) (b_37 : Bool) :
    GoO (tontinelaw07_RlogMerges.cx A_3 c_4 A_6 c_7 w0 S0) [(6, .bool b_37)] [] [] [.code c3_38, .code c3_40] (tontinelaw07_RlogMerges.j0 n b_37) := by
  unfold tontinelaw07_RlogMerges.j0
  exact GoO.ret' (h := c3_38e) (hs := []) (ps := []) (hk := []) (bk := []) Try.func3 () (by kernel_rfl) trivial (by kernel_rfl) (by kernel_rfl)
theorem tontinelaw07_RlogMerges_j1_ok (n : Nat) (L0 : Int → Option Bool) (s_1 : T_api_Snapshot) (c_5 : T_tontinelaw07_Call) (r_23 : (List T_api_Entry)) (r_26 : (List T_api_Entry) × Bool × T_rlog_Log) (x_39 : Int) (A_3 : Option Addr) (c_4 : Nat) (A_6 : Option Addr) (c_7 : Nat) (b_8 : Nat) (b_9 : Nat) (c_17 : Nat) (A_24 : Option Addr) (c_25 : Nat) (A_29 : Option Addr) (c_30 : Nat) (w0 : World) (S0 : Fam) (ih0 : ∀ (x_39 : Int), GoO (tontinelaw07_RlogMerges.cx A_3 c_4 A_6 c_7 w0 S0) [(3, .pointer (some ⟨b_8, 0, none⟩)), (5, .pointer (some ⟨b_9, 0, none⟩)), (7, .pointer (some ⟨c_17, 0, none⟩)), (9, .slice A_24 r_23.length c_25), (69, .slice A_6 c_5.L.length c_7), (70, .int .i64 (c_5.L.length : Int)), (71, .int .i64 x_39)] [⟨40, b_8, [.int .u64 s_1.Index, .int .u64 s_1.Term, .int .u64 s_1.Config, .string (bs s_1.Data)]⟩, ⟨41, b_9, [.int .i64 c_5.Kind, .int .u64 c_5.Index, .int .u64 c_5.Term, .int .i64 c_5.What, .string (bs c_5.Data), .slice A_6 c_5.L.length c_7, .int .u64 c_5.Snap.Index, .int .u64 c_5.Snap.Term, .int .u64 c_5.Snap.Config, .string (bs c_5.Snap.Data)]⟩, ⟨43, c_17, [.int .u64 r_26.2.2.snap.Index, .int .u64 r_26.2.2.snap.Term, .int .u64 r_26.2.2.snap.Config, .string (bs r_26.2.2.snap.Data), .slice A_29 r_26.2.2.entries.length c_30]⟩] [Rd 0 kT_api_Entry A_6 c_7 c_5.L, Ow 44 kT_api_Entry A_29 c_30 r_26.2.2.entries, Ow 45 kT_api_Entry A_24 c_25 r_23] [.code c3_45, .inLoop c3_45, .inBlock 0, .code c3_65] (L0 x_39)) (b_46 : Bool) :
    GoO (tontinelaw07_RlogMerges.cx A_3 c_4 A_6 c_7 w0 S0) [(3, .pointer (some ⟨b_8, 0, none⟩)), (5, .pointer (some ⟨b_9, 0, none⟩)), (7, .pointer (some ⟨c_17, 0, none⟩)), (9, .slice A_24 r_23.length c_25), (69, .slice A_6 c_5.L.length c_7), (70, .int .i64 (c_5.L.length : Int)), (71, .int .i64 x_39), (96, .bool b_46)] [⟨40, b_8, [.int .u64 s_1.Index, .int .u64 s_1.Term, .int .u64 s_1.Config, .string (bs s_1.Data)]⟩, ⟨41, b_9, [.int .i64 c_5.Kind, .int .u64 c_5.Index, .int .u64 c_5.Term, .int .i64 c_5.What, .string (bs c_5.Data), .slice A_6 c_5.L.length c_7, .int .u64 c_5.Snap.Index, .int .u64 c_5.Snap.Term, .int .u64 c_5.Snap.Config, .string (bs c_5.Snap.Data)]⟩, ⟨43, c_17, [.int .u64 r_26.2.2.snap.Index, .int .u64 r_26.2.2.snap.Term, .int .u64 r_26.2.2.snap.Config, .string (bs r_26.2.2.snap.Data), .slice A_29 r_26.2.2.entries.length c_30]⟩] [Rd 0 kT_api_Entry A_6 c_7 c_5.L, Ow 44 kT_api_Entry A_29 c_30 r_26.2.2.entries, Ow 45 kT_api_Entry A_24 c_25 r_23] [.code c3_59, .inBlock 1, .code c3_64, .inLoop c3_45, .inBlock 0, .code c3_65] (tontinelaw07_RlogMerges.j1 n L0 x_39 b_46) := by
  unfold tontinelaw07_RlogMerges.j1
  refine GoO.ite' c3_59e (by kernel_rfl) (fun h47 => ?_) (fun h47 => ?_)
  · refine GoO.seq' c3_60e ?_
    refine GoO.region' (is := [0]) c3_61e (by kernel_rfl) ?_
    refine GoO.exec (is := [0]) (hs := [.p]) (rest := []) (ks := [6]) (env' := [(6, .bool false)]) (H' := [⟨40, b_8, [.int .u64 s_1.Index, .int .u64 s_1.Term, .int .u64 s_1.Config, .string (bs s_1.Data)]⟩, ⟨41, b_9, [.int .i64 c_5.Kind, .int .u64 c_5.Index, .int .u64 c_5.Term, .int .i64 c_5.What, .string (bs c_5.Data), .slice A_6 c_5.L.length c_7, .int .u64 c_5.Snap.Index, .int .u64 c_5.Snap.Term, .int .u64 c_5.Snap.Config, .string (bs c_5.Snap.Data)]⟩, ⟨43, c_17, [.int .u64 r_26.2.2.snap.Index, .int .u64 r_26.2.2.snap.Term, .int .u64 r_26.2.2.snap.Config, .string (bs r_26.2.2.snap.Data), .slice A_29 r_26.2.2.entries.length c_30]⟩]) (ps := []) (by kernel_rfl) trivial ?_
    refine GoO.regionEnd ?_
    exact GoO.ret' (h := c3_62e) (hs := []) (ps := []) (hk := []) (bk := []) Try.func3 () (by kernel_rfl) trivial (by kernel_rfl) (by kernel_rfl)
  · refine GoO.skip' c3_63e ?_
    refine GoO.inBlock ?_
    refine GoO.region' (is := [0, 1]) c3_64e (by kernel_rfl) ?_
    refine GoO.exec (is := [0, 1]) (hs := [.p, .p]) (rest := []) (ks := [3, 5, 7, 9, 69, 70, 71]) (env' := [(3, .pointer (some ⟨b_8, 0, none⟩)), (5, .pointer (some ⟨b_9, 0, none⟩)), (7, .pointer (some ⟨c_17, 0, none⟩)), (9, .slice A_24 r_23.length c_25), (69, .slice A_6 c_5.L.length c_7), (70, .int .i64 (c_5.L.length : Int)), (71, .int .i64 (wi64 (x_39 + 1)))]) (H' := [⟨40, b_8, [.int .u64 s_1.Index, .int .u64 s_1.Term, .int .u64 s_1.Config, .string (bs s_1.Data)]⟩, ⟨41, b_9, [.int .i64 c_5.Kind, .int .u64 c_5.Index, .int .u64 c_5.Term, .int .i64 c_5.What, .string (bs c_5.Data), .slice A_6 c_5.L.length c_7, .int .u64 c_5.Snap.Index, .int .u64 c_5.Snap.Term, .int .u64 c_5.Snap.Config, .string (bs c_5.Snap.Data)]⟩, ⟨43, c_17, [.int .u64 r_26.2.2.snap.Index, .int .u64 r_26.2.2.snap.Term, .int .u64 r_26.2.2.snap.Config, .string (bs r_26.2.2.snap.Data), .slice A_29 r_26.2.2.entries.length c_30]⟩]) (ps := []) (by kernel_rfl) trivial ?_
    refine GoO.regionEnd ?_
    refine GoO.inLoop ?_
    exact GoO.sub (ks := [3, 5, 7, 9, 69, 70, 71]) (hk := [0, 1, 2]) (bk := [0, 1, 2]) (by kernel_rfl) (by kernel_rfl) (by kernel_rfl) (ih0 (wi64 (x_39 + 1)))
theorem tontinelaw07_RlogMerges_j2_ok (n : Nat) (L1 : Int → Option Bool) (s_1 : T_api_Snapshot) (c_5 : T_tontinelaw07_Call) (r_23 : (List T_api_Entry)) (r_26 : (List T_api_Entry) × Bool × T_rlog_Log) (x_49 : Int) (A_3 : Option Addr) (c_4 : Nat) (A_6 : Option Addr) (c_7 : Nat) (b_8 : Nat) (b_9 : Nat) (c_17 : Nat) (A_24 : Option Addr) (c_25 : Nat) (A_29 : Option Addr) (c_30 : Nat) (w0 : World) (S0 : Fam) (ih1 : ∀ (x_49 : Int), GoO (tontinelaw07_RlogMerges.cx A_3 c_4 A_6 c_7 w0 S0) [(3, .pointer (some ⟨b_8, 0, none⟩)), (5, .pointer (some ⟨b_9, 0, none⟩)), (7, .pointer (some ⟨c_17, 0, none⟩)), (98, .slice A_24 r_23.length c_25), (99, .int .i64 (r_23.length : Int)), (100, .int .i64 x_49)] [⟨40, b_8, [.int .u64 s_1.Index, .int .u64 s_1.Term, .int .u64 s_1.Config, .string (bs s_1.Data)]⟩, ⟨41, b_9, [.int .i64 c_5.Kind, .int .u64 c_5.Index, .int .u64 c_5.Term, .int .i64 c_5.What, .string (bs c_5.Data), .slice A_6 c_5.L.length c_7, .int .u64 c_5.Snap.Index, .int .u64 c_5.Snap.Term, .int .u64 c_5.Snap.Config, .string (bs c_5.Snap.Data)]⟩, ⟨43, c_17, [.int .u64 r_26.2.2.snap.Index, .int .u64 r_26.2.2.snap.Term, .int .u64 r_26.2.2.snap.Config, .string (bs r_26.2.2.snap.Data), .slice A_29 r_26.2.2.entries.length c_30]⟩] [Rd 0 kT_api_Entry A_6 c_7 c_5.L, Ow 44 kT_api_Entry A_29 c_30 r_26.2.2.entries, Ow 45 kT_api_Entry A_24 c_25 r_23] [.code c3_70, .inLoop c3_70, .inBlock 2, .code c3_90] (L1 x_49)) (b_56 : Bool) :
    GoO (tontinelaw07_RlogMerges.cx A_3 c_4 A_6 c_7 w0 S0) [(3, .pointer (some ⟨b_8, 0, none⟩)), (5, .pointer (some ⟨b_9, 0, none⟩)), (7, .pointer (some ⟨c_17, 0, none⟩)), (98, .slice A_24 r_23.length c_25), (99, .int .i64 (r_23.length : Int)), (100, .int .i64 x_49), (125, .bool b_56)] [⟨40, b_8, [.int .u64 s_1.Index, .int .u64 s_1.Term, .int .u64 s_1.Config, .string (bs s_1.Data)]⟩, ⟨41, b_9, [.int .i64 c_5.Kind, .int .u64 c_5.Index, .int .u64 c_5.Term, .int .i64 c_5.What, .string (bs c_5.Data), .slice A_6 c_5.L.length c_7, .int .u64 c_5.Snap.Index, .int .u64 c_5.Snap.Term, .int .u64 c_5.Snap.Config, .string (bs c_5.Snap.Data)]⟩, ⟨43, c_17, [.int .u64 r_26.2.2.snap.Index, .int .u64 r_26.2.2.snap.Term, .int .u64 r_26.2.2.snap.Config, .string (bs r_26.2.2.snap.Data), .slice A_29 r_26.2.2.entries.length c_30]⟩] [Rd 0 kT_api_Entry A_6 c_7 c_5.L, Ow 44 kT_api_Entry A_29 c_30 r_26.2.2.entries, Ow 45 kT_api_Entry A_24 c_25 r_23] [.code c3_84, .inBlock 3, .code c3_89, .inLoop c3_70, .inBlock 2, .code c3_90] (tontinelaw07_RlogMerges.j2 n L1 x_49 b_56) := by
  unfold tontinelaw07_RlogMerges.j2
  refine GoO.ite' c3_84e (by kernel_rfl) (fun h57 => ?_) (fun h57 => ?_)
  · refine GoO.seq' c3_85e ?_
    refine GoO.region' (is := [0]) c3_86e (by kernel_rfl) ?_
    refine GoO.exec (is := [0]) (hs := [.p]) (rest := []) (ks := [6]) (env' := [(6, .bool false)]) (H' := [⟨40, b_8, [.int .u64 s_1.Index, .int .u64 s_1.Term, .int .u64 s_1.Config, .string (bs s_1.Data)]⟩, ⟨41, b_9, [.int .i64 c_5.Kind, .int .u64 c_5.Index, .int .u64 c_5.Term, .int .i64 c_5.What, .string (bs c_5.Data), .slice A_6 c_5.L.length c_7, .int .u64 c_5.Snap.Index, .int .u64 c_5.Snap.Term, .int .u64 c_5.Snap.Config, .string (bs c_5.Snap.Data)]⟩, ⟨43, c_17, [.int .u64 r_26.2.2.snap.Index, .int .u64 r_26.2.2.snap.Term, .int .u64 r_26.2.2.snap.Config, .string (bs r_26.2.2.snap.Data), .slice A_29 r_26.2.2.entries.length c_30]⟩]) (ps := []) (by kernel_rfl) trivial ?_
    refine GoO.regionEnd ?_
    exact GoO.ret' (h := c3_87e) (hs := []) (ps := []) (hk := []) (bk := []) Try.func3 () (by kernel_rfl) trivial (by kernel_rfl) (by kernel_rfl)
  · refine GoO.skip' c3_88e ?_
    refine GoO.inBlock ?_
    refine GoO.region' (is := [0, 1]) c3_89e (by kernel_rfl) ?_
    refine GoO.exec (is := [0, 1]) (hs := [.p, .p]) (rest := []) (ks := [3, 5, 7, 98, 99, 100]) (env' := [(3, .pointer (some ⟨b_8, 0, none⟩)), (5, .pointer (some ⟨b_9, 0, none⟩)), (7, .pointer (some ⟨c_17, 0, none⟩)), (98, .slice A_24 r_23.length c_25), (99, .int .i64 (r_23.length : Int)), (100, .int .i64 (wi64 (x_49 + 1)))]) (H' := [⟨40, b_8, [.int .u64 s_1.Index, .int .u64 s_1.Term, .int .u64 s_1.Config, .string (bs s_1.Data)]⟩, ⟨41, b_9, [.int .i64 c_5.Kind, .int .u64 c_5.Index, .int .u64 c_5.Term, .int .i64 c_5.What, .string (bs c_5.Data), .slice A_6 c_5.L.length c_7, .int .u64 c_5.Snap.Index, .int .u64 c_5.Snap.Term, .int .u64 c_5.Snap.Config, .string (bs c_5.Snap.Data)]⟩, ⟨43, c_17, [.int .u64 r_26.2.2.snap.Index, .int .u64 r_26.2.2.snap.Term, .int .u64 r_26.2.2.snap.Config, .string (bs r_26.2.2.snap.Data), .slice A_29 r_26.2.2.entries.length c_30]⟩]) (ps := []) (by kernel_rfl) trivial ?_
    refine GoO.regionEnd ?_
    refine GoO.inLoop ?_
    exact GoO.sub (ks := [3, 5, 7, 98, 99, 100]) (hk := [0, 1, 2]) (bk := [0, 1, 2]) (by kernel_rfl) (by kernel_rfl) (by kernel_rfl) (ih1 (wi64 (x_49 + 1)))
theorem tontinelaw07_RlogMerges_l1_ok (n : Nat) (s_1 : T_api_Snapshot) (c_5 : T_tontinelaw07_Call) (r_23 : (List T_api_Entry)) (r_26 : (List T_api_Entry) × Bool × T_rlog_Log) (A_6 : Option Addr) (c_7 : Nat) (b_8 : Nat) (b_9 : Nat) (c_17 : Nat) (A_24 : Option Addr) (c_25 : Nat) (A_29 : Option Addr) (c_30 : Nat) (A_3 : Option Addr) (c_4 : Nat) (w0 : World) (S0 : Fam) :
    ∀ (k : Nat) (x_49 : Int), GoO (tontinelaw07_RlogMerges.cx A_3 c_4 A_6 c_7 w0 S0) [(3, .pointer (some ⟨b_8, 0, none⟩)), (5, .pointer (some ⟨b_9, 0, none⟩)), (7, .pointer (some ⟨c_17, 0, none⟩)), (98, .slice A_24 r_23.length c_25), (99, .int .i64 (r_23.length : Int)), (100, .int .i64 x_49)] [⟨40, b_8, [.int .u64 s_1.Index, .int .u64 s_1.Term, .int .u64 s_1.Config, .string (bs s_1.Data)]⟩, ⟨41, b_9, [.int .i64 c_5.Kind, .int .u64 c_5.Index, .int .u64 c_5.Term, .int .i64 c_5.What, .string (bs c_5.Data), .slice A_6 c_5.L.length c_7, .int .u64 c_5.Snap.Index, .int .u64 c_5.Snap.Term, .int .u64 c_5.Snap.Config, .string (bs c_5.Snap.Data)]⟩, ⟨43, c_17, [.int .u64 r_26.2.2.snap.Index, .int .u64 r_26.2.2.snap.Term, .int .u64 r_26.2.2.snap.Config, .string (bs r_26.2.2.snap.Data), .slice A_29 r_26.2.2.entries.length c_30]⟩] [Rd 0 kT_api_Entry A_6 c_7 c_5.L, Ow 44 kT_api_Entry A_29 c_30 r_26.2.2.entries, Ow 45 kT_api_Entry A_24 c_25 r_23] [.code c3_70, .inLoop c3_70, .inBlock 2, .code c3_90] (tontinelaw07_RlogMerges.l1 n s_1 c_5 r_23 r_26 k x_49) := by
  intro k
  induction k with
  | zero => intros; rw [tontinelaw07_RlogMerges.l1.eq_1]; exact GoO.stop
  | succ k ih1 =>
    intro x_49
    rw [tontinelaw07_RlogMerges.l1.eq_2]
    refine GoO.seq' c3_70e ?_
    refine GoO.region' (is := [0]) c3_71e (by kernel_rfl) ?_
    refine GoO.exec (is := [0]) (hs := [.p]) (rest := []) (ks := [3, 5, 7, 98, 99, 100, 101]) (env' := [(3, .pointer (some ⟨b_8, 0, none⟩)), (5, .pointer (some ⟨b_9, 0, none⟩)), (7, .pointer (some ⟨c_17, 0, none⟩)), (98, .slice A_24 r_23.length c_25), (99, .int .i64 (r_23.length : Int)), (100, .int .i64 x_49), (101, .bool (decide (x_49 < (r_23.length : Int))))]) (H' := [⟨40, b_8, [.int .u64 s_1.Index, .int .u64 s_1.Term, .int .u64 s_1.Config, .string (bs s_1.Data)]⟩, ⟨41, b_9, [.int .i64 c_5.Kind, .int .u64 c_5.Index, .int .u64 c_5.Term, .int .i64 c_5.What, .string (bs c_5.Data), .slice A_6 c_5.L.length c_7, .int .u64 c_5.Snap.Index, .int .u64 c_5.Snap.Term, .int .u64 c_5.Snap.Config, .string (bs c_5.Snap.Data)]⟩, ⟨43, c_17, [.int .u64 r_26.2.2.snap.Index, .int .u64 r_26.2.2.snap.Term, .int .u64 r_26.2.2.snap.Config, .string (bs r_26.2.2.snap.Data), .slice A_29 r_26.2.2.entries.length c_30]⟩]) (ps := []) (by kernel_rfl) trivial ?_
    refine GoO.regionEnd ?_
    refine GoO.seq' c3_72e ?_
    refine GoO.ite' c3_73e (by kernel_rfl) (fun h50 => ?_) (fun h50 => ?_)
    · refine GoO.skip' c3_74e ?_
      refine GoO.seq' c3_76e ?_
      refine GoO.block' c3_77e ?_
      refine GoO.seq' c3_78e ?_
      refine GoO.region' (is := [0, 1, 2, 3]) c3_79e (by kernel_rfl) ?_
      refine GoO.guard (fun h51 => ?_)
      refine OpTo.go (GoO.idx (kk := .i64) (e := 40) (K := kT_api_Entry) (A := A_24) (c := c_25) (xs := r_23) (iv := x_49) (j := 2) rfl (by kernel_rfl) (by kernel_rfl) (by kernel_rfl) (by kernel_rfl) rfl Reads.own rfl h51.1 h51.2 (by decide) rfl ?_)
      refine OpTo.go (GoO.ldE' (K := kT_api_Entry) (A := A_24) (c := c_25) (xs := r_23) (iN := x_49.toNat) (off := 0) (j := 2) rfl (by kernel_rfl) rfl Reads.own (by first | exact idx_lt h51.1 h51.2 | (simp only [List.length_set]; exact idx_lt h51.1 h51.2)) (by decide) (Opn.flat _ _ _ _ _) (v := fun _ => .agg ⟨[.int .u64 ((rdL r_23 x_49).Term), .int .u64 ((rdL r_23 x_49).Index), .int .i64 ((rdL r_23 x_49).Kind), .string (bs ((rdL r_23 x_49).Data))]⟩) (fun _ => by kernel_rfl) _ (fun _ => rfl) (fun _ => ?_))
      refine OpTo.go (GoO.new rfl 49 (cs := [.int .u64 0, .int .u64 0, .int .i64 0, .string (bs [])]) (by kernel_rfl) _ (fun _ => rfl) (fun b_52 => ?_))
      refine GoO.exec (is := [3]) (hs := [.b 0]) (rest := []) (ks := [3, 5, 7, 17, 98, 99, 100]) (env' := [(3, .pointer (some ⟨b_8, 0, none⟩)), (5, .pointer (some ⟨b_9, 0, none⟩)), (7, .pointer (some ⟨c_17, 0, none⟩)), (17, .pointer (some ⟨b_52, 0, none⟩)), (98, .slice A_24 r_23.length c_25), (99, .int .i64 (r_23.length : Int)), (100, .int .i64 x_49)]) (H' := [⟨49, b_52, [.int .u64 ((rdL r_23 x_49).Term), .int .u64 ((rdL r_23 x_49).Index), .int .i64 ((rdL r_23 x_49).Kind), .string (bs ((rdL r_23 x_49).Data))]⟩, ⟨40, b_8, [.int .u64 s_1.Index, .int .u64 s_1.Term, .int .u64 s_1.Config, .string (bs s_1.Data)]⟩, ⟨41, b_9, [.int .i64 c_5.Kind, .int .u64 c_5.Index, .int .u64 c_5.Term, .int .i64 c_5.What, .string (bs c_5.Data), .slice A_6 c_5.L.length c_7, .int .u64 c_5.Snap.Index, .int .u64 c_5.Snap.Term, .int .u64 c_5.Snap.Config, .string (bs c_5.Snap.Data)]⟩, ⟨43, c_17, [.int .u64 r_26.2.2.snap.Index, .int .u64 r_26.2.2.snap.Term, .int .u64 r_26.2.2.snap.Config, .string (bs r_26.2.2.snap.Data), .slice A_29 r_26.2.2.entries.length c_30]⟩]) (ps := [b_52 = b_52]) (by kernel_rfl) (And.intro rfl trivial) ?_
      refine GoO.regionEnd ?_
      refine GoO.seq' c3_80e ?_
      refine GoO.region' (is := [0, 1, 2, 3, 4, 5, 6, 7, 8]) c3_81e (by kernel_rfl) ?_
      refine GoO.exec (is := [0, 1, 2]) (hs := [.p, .p, .b 0]) (rest := [3, 4, 5, 6, 7, 8]) (ks := [3, 5, 7, 17, 98, 99, 100, 105, 107]) (env' := [(3, .pointer (some ⟨b_8, 0, none⟩)), (5, .pointer (some ⟨b_9, 0, none⟩)), (7, .pointer (some ⟨c_17, 0, none⟩)), (17, .pointer (some ⟨b_52, 0, none⟩)), (98, .slice A_24 r_23.length c_25), (99, .int .i64 (r_23.length : Int)), (100, .int .i64 x_49), (105, .pointer (some ⟨c_17, 0, none⟩)), (107, .int .u64 ((rdL r_23 x_49).Index))]) (H' := [⟨49, b_52, [.int .u64 ((rdL r_23 x_49).Term), .int .u64 ((rdL r_23 x_49).Index), .int .i64 ((rdL r_23 x_49).Kind), .string (bs ((rdL r_23 x_49).Data))]⟩, ⟨40, b_8, [.int .u64 s_1.Index, .int .u64 s_1.Term, .int .u64 s_1.Config, .string (bs s_1.Data)]⟩, ⟨41, b_9, [.int .i64 c_5.Kind, .int .u64 c_5.Index, .int .u64 c_5.Term, .int .i64 c_5.What, .string (bs c_5.Data), .slice A_6 c_5.L.length c_7, .int .u64 c_5.Snap.Index, .int .u64 c_5.Snap.Term, .int .u64 c_5.Snap.Config, .string (bs c_5.Snap.Data)]⟩, ⟨43, c_17, [.int .u64 r_26.2.2.snap.Index, .int .u64 r_26.2.2.snap.Term, .int .u64 r_26.2.2.snap.Config, .string (bs r_26.2.2.snap.Data), .slice A_29 r_26.2.2.entries.length c_30]⟩]) (ps := [b_52 = b_52]) (by kernel_rfl) (And.intro rfl trivial) ?_
      refine OpTo.go (GoO.call rfl (by kernel_rfl) (by kernel_rfl) (rlog_Log_Term_ok n (⟨(⟨r_26.2.2.snap.Index, r_26.2.2.snap.Term, r_26.2.2.snap.Config, r_26.2.2.snap.Data⟩ : T_api_Snapshot), r_26.2.2.entries⟩ : T_rlog_Log) ((rdL r_23 x_49).Index) c_17 A_29 c_30) [[0], [43], [44]] [] [(1, 3)] [(2, 1)] (hks := [0, 1, 2, 3]) (bks := [0, 1, 2]) (by kernel_rfl) (by kernel_rfl) (by kernel_rfl) (.inl rfl) rfl rfl (by kernel_rfl) (by kernel_rfl) _ (fun _ _ => rfl) _ _ (fun _ _ => rfl) (fun _ _ => rfl) (fun _ _ => by kernel_rfl) (fun _ _ => by kernel_rfl) (fun r_53 x_58 => ?_))
      refine GoO.shape (env' := [(3, .pointer (some ⟨b_8, 0, none⟩)), (5, .pointer (some ⟨b_9, 0, none⟩)), (7, .pointer (some ⟨c_17, 0, none⟩)), (17, .pointer (some ⟨b_52, 0, none⟩)), (98, .slice A_24 r_23.length c_25), (99, .int .i64 (r_23.length : Int)), (100, .int .i64 x_49), (105, .pointer (some ⟨c_17, 0, none⟩)), (107, .int .u64 ((rdL r_23 x_49).Index)), (108, .tuple ⟨[.int .u64 r_53.1, .int .i64 r_53.2]⟩)]) (H' := [⟨49, b_52, [.int .u64 ((rdL r_23 x_49).Term), .int .u64 ((rdL r_23 x_49).Index), .int .i64 ((rdL r_23 x_49).Kind), .string (bs ((rdL r_23 x_49).Data))]⟩, ⟨40, b_8, [.int .u64 s_1.Index, .int .u64 s_1.Term, .int .u64 s_1.Config, .string (bs s_1.Data)]⟩, ⟨41, b_9, [.int .i64 c_5.Kind, .int .u64 c_5.Index, .int .u64 c_5.Term, .int .i64 c_5.What, .string (bs c_5.Data), .slice A_6 c_5.L.length c_7, .int .u64 c_5.Snap.Index, .int .u64 c_5.Snap.Term, .int .u64 c_5.Snap.Config, .string (bs c_5.Snap.Data)]⟩, ⟨43, c_17, [.int .u64 r_26.2.2.snap.Index, .int .u64 r_26.2.2.snap.Term, .int .u64 r_26.2.2.snap.Config, .string (bs r_26.2.2.snap.Data), .slice A_29 r_26.2.2.entries.length c_30]⟩]) (B' := [Rd 0 kT_api_Entry A_6 c_7 c_5.L, Ow 44 kT_api_Entry A_29 c_30 r_26.2.2.entries, Ow 45 kT_api_Entry A_24 c_25 r_23]) (ks := [3, 5, 7, 17, 98, 99, 100, 105, 107, 108]) (by kernel_rfl) (by kernel_rfl) (by kernel_rfl) ?_
      refine GoO.exec (is := [4, 5, 6, 7, 8]) (hs := [.p, .p, .p, .p, .p]) (rest := []) (ks := [3, 5, 7, 17, 18, 19, 98, 99, 100]) (env' := [(3, .pointer (some ⟨b_8, 0, none⟩)), (5, .pointer (some ⟨b_9, 0, none⟩)), (7, .pointer (some ⟨c_17, 0, none⟩)), (17, .pointer (some ⟨b_52, 0, none⟩)), (18, .int .u64 r_53.1), (19, .int .i64 r_53.2), (98, .slice A_24 r_23.length c_25), (99, .int .i64 (r_23.length : Int)), (100, .int .i64 x_49)]) (H' := [⟨49, b_52, [.int .u64 ((rdL r_23 x_49).Term), .int .u64 ((rdL r_23 x_49).Index), .int .i64 ((rdL r_23 x_49).Kind), .string (bs ((rdL r_23 x_49).Data))]⟩, ⟨40, b_8, [.int .u64 s_1.Index, .int .u64 s_1.Term, .int .u64 s_1.Config, .string (bs s_1.Data)]⟩, ⟨41, b_9, [.int .i64 c_5.Kind, .int .u64 c_5.Index, .int .u64 c_5.Term, .int .i64 c_5.What, .string (bs c_5.Data), .slice A_6 c_5.L.length c_7, .int .u64 c_5.Snap.Index, .int .u64 c_5.Snap.Term, .int .u64 c_5.Snap.Config, .string (bs c_5.Snap.Data)]⟩, ⟨43, c_17, [.int .u64 r_26.2.2.snap.Index, .int .u64 r_26.2.2.snap.Term, .int .u64 r_26.2.2.snap.Config, .string (bs r_26.2.2.snap.Data), .slice A_29 r_26.2.2.entries.length c_30]⟩]) (ps := []) (by kernel_rfl) trivial ?_
      refine GoO.regionEnd ?_
      refine GoO.seq' c3_82e ?_
      refine GoO.region' (is := [0, 1, 2, 3, 4, 5, 6, 7, 8, 9, 10, 11, 12, 13, 14]) c3_83e (by kernel_rfl) ?_
      refine GoO.exec (is := [0, 1, 2, 3, 4, 5]) (hs := [.p, .b 0, .p, .b 2, .p, .p]) (rest := [6, 7, 8, 9, 10, 11, 12, 13, 14]) (ks := [3, 5, 7, 17, 18, 19, 98, 99, 100, 116]) (env' := [(3, .pointer (some ⟨b_8, 0, none⟩)), (5, .pointer (some ⟨b_9, 0, none⟩)), (7, .pointer (some ⟨c_17, 0, none⟩)), (17, .pointer (some ⟨b_52, 0, none⟩)), (18, .int .u64 r_53.1), (19, .int .i64 r_53.2), (98, .slice A_24 r_23.length c_25), (99, .int .i64 (r_23.length : Int)), (100, .int .i64 x_49), (116, .bool (decide (((rdL r_23 x_49).Index) ≤ c_5.Index)))]) (H' := [⟨49, b_52, [.int .u64 ((rdL r_23 x_49).Term), .int .u64 ((rdL r_23 x_49).Index), .int .i64 ((rdL r_23 x_49).Kind), .string (bs ((rdL r_23 x_49).Data))]⟩, ⟨40, b_8, [.int .u64 s_1.Index, .int .u64 s_1.Term, .int .u64 s_1.Config, .string (bs s_1.Data)]⟩, ⟨41, b_9, [.int .i64 c_5.Kind, .int .u64 c_5.Index, .int .u64 c_5.Term, .int .i64 c_5.What, .string (bs c_5.Data), .slice A_6 c_5.L.length c_7, .int .u64 c_5.Snap.Index, .int .u64 c_5.Snap.Term, .int .u64 c_5.Snap.Config, .string (bs c_5.Snap.Data)]⟩, ⟨43, c_17, [.int .u64 r_26.2.2.snap.Index, .int .u64 r_26.2.2.snap.Term, .int .u64 r_26.2.2.snap.Config, .string (bs r_26.2.2.snap.Data), .slice A_29 r_26.2.2.entries.length c_30]⟩]) (ps := [b_52 = b_52, b_9 = b_9]) (by kernel_rfl) (And.intro rfl (And.intro rfl trivial)) ?_
      refine GoO.bsplit (t := 116) (by kernel_rfl) (fun h54 => ?_) (fun h54 => ?_)
      · refine GoO.exec (is := [6, 7, 8]) (hs := [.p, .p, .p]) (rest := [9, 10, 11, 12, 13, 14]) (ks := [3, 5, 7, 17, 18, 98, 99, 100, 116, 119]) (env' := [(3, .pointer (some ⟨b_8, 0, none⟩)), (5, .pointer (some ⟨b_9, 0, none⟩)), (7, .pointer (some ⟨c_17, 0, none⟩)), (17, .pointer (some ⟨b_52, 0, none⟩)), (18, .int .u64 r_53.1), (98, .slice A_24 r_23.length c_25), (99, .int .i64 (r_23.length : Int)), (100, .int .i64 x_49), (116, .bool true), (119, .bool (r_53.2 != 0))]) (H' := [⟨49, b_52, [.int .u64 ((rdL r_23 x_49).Term), .int .u64 ((rdL r_23 x_49).Index), .int .i64 ((rdL r_23 x_49).Kind), .string (bs ((rdL r_23 x_49).Data))]⟩, ⟨40, b_8, [.int .u64 s_1.Index, .int .u64 s_1.Term, .int .u64 s_1.Config, .string (bs s_1.Data)]⟩, ⟨41, b_9, [.int .i64 c_5.Kind, .int .u64 c_5.Index, .int .u64 c_5.Term, .int .i64 c_5.What, .string (bs c_5.Data), .slice A_6 c_5.L.length c_7, .int .u64 c_5.Snap.Index, .int .u64 c_5.Snap.Term, .int .u64 c_5.Snap.Config, .string (bs c_5.Snap.Data)]⟩, ⟨43, c_17, [.int .u64 r_26.2.2.snap.Index, .int .u64 r_26.2.2.snap.Term, .int .u64 r_26.2.2.snap.Config, .string (bs r_26.2.2.snap.Data), .slice A_29 r_26.2.2.entries.length c_30]⟩]) (ps := []) (by kernel_rfl) trivial ?_
        refine GoO.bsplit (t := 119) (by kernel_rfl) (fun h55 => ?_) (fun h55 => ?_)
        · refine GoO.exec (is := [9, 10, 11, 12, 13, 14]) (hs := [.p, .p, .p, .p, .p, .p]) (rest := []) (ks := [3, 5, 7, 98, 99, 100, 125]) (env' := [(3, .pointer (some ⟨b_8, 0, none⟩)), (5, .pointer (some ⟨b_9, 0, none⟩)), (7, .pointer (some ⟨c_17, 0, none⟩)), (98, .slice A_24 r_23.length c_25), (99, .int .i64 (r_23.length : Int)), (100, .int .i64 x_49), (125, .bool true)]) (H' := [⟨49, b_52, [.int .u64 ((rdL r_23 x_49).Term), .int .u64 ((rdL r_23 x_49).Index), .int .i64 ((rdL r_23 x_49).Kind), .string (bs ((rdL r_23 x_49).Data))]⟩, ⟨40, b_8, [.int .u64 s_1.Index, .int .u64 s_1.Term, .int .u64 s_1.Config, .string (bs s_1.Data)]⟩, ⟨41, b_9, [.int .i64 c_5.Kind, .int .u64 c_5.Index, .int .u64 c_5.Term, .int .i64 c_5.What, .string (bs c_5.Data), .slice A_6 c_5.L.length c_7, .int .u64 c_5.Snap.Index, .int .u64 c_5.Snap.Term, .int .u64 c_5.Snap.Config, .string (bs c_5.Snap.Data)]⟩, ⟨43, c_17, [.int .u64 r_26.2.2.snap.Index, .int .u64 r_26.2.2.snap.Term, .int .u64 r_26.2.2.snap.Config, .string (bs r_26.2.2.snap.Data), .slice A_29 r_26.2.2.entries.length c_30]⟩]) (ps := []) (by kernel_rfl) trivial ?_
          refine GoO.regionEnd ?_
          exact GoO.sub (ks := [3, 5, 7, 98, 99, 100, 125]) (hk := [1, 2, 3]) (bk := [0, 1, 2]) (by kernel_rfl) (by kernel_rfl) (by kernel_rfl) (tontinelaw07_RlogMerges_j2_ok n (tontinelaw07_RlogMerges.l1 n s_1 c_5 r_23 r_26 k) s_1 c_5 r_23 r_26 x_49 A_3 c_4 A_6 c_7 b_8 b_9 c_17 A_24 c_25 A_29 c_30 w0 S0 ih1 true)
        · refine GoO.exec (is := [9, 10, 11, 12, 13, 14]) (hs := [.p, .p, .b 0, .p, .p, .p]) (rest := []) (ks := [3, 5, 7, 98, 99, 100, 125]) (env' := [(3, .pointer (some ⟨b_8, 0, none⟩)), (5, .pointer (some ⟨b_9, 0, none⟩)), (7, .pointer (some ⟨c_17, 0, none⟩)), (98, .slice A_24 r_23.length c_25), (99, .int .i64 (r_23.length : Int)), (100, .int .i64 x_49), (125, .bool (r_53.1 != ((rdL r_23 x_49).Term)))]) (H' := [⟨49, b_52, [.int .u64 ((rdL r_23 x_49).Term), .int .u64 ((rdL r_23 x_49).Index), .int .i64 ((rdL r_23 x_49).Kind), .string (bs ((rdL r_23 x_49).Data))]⟩, ⟨40, b_8, [.int .u64 s_1.Index, .int .u64 s_1.Term, .int .u64 s_1.Config, .string (bs s_1.Data)]⟩, ⟨41, b_9, [.int .i64 c_5.Kind, .int .u64 c_5.Index, .int .u64 c_5.Term, .int .i64 c_5.What, .string (bs c_5.Data), .slice A_6 c_5.L.length c_7, .int .u64 c_5.Snap.Index, .int .u64 c_5.Snap.Term, .int .u64 c_5.Snap.Config, .string (bs c_5.Snap.Data)]⟩, ⟨43, c_17, [.int .u64 r_26.2.2.snap.Index, .int .u64 r_26.2.2.snap.Term, .int .u64 r_26.2.2.snap.Config, .string (bs r_26.2.2.snap.Data), .slice A_29 r_26.2.2.entries.length c_30]⟩]) (ps := [b_52 = b_52]) (by kernel_rfl) (And.intro rfl trivial) ?_
          refine GoO.regionEnd ?_
          exact GoO.sub (ks := [3, 5, 7, 98, 99, 100, 125]) (hk := [1, 2, 3]) (bk := [0, 1, 2]) (by kernel_rfl) (by kernel_rfl) (by kernel_rfl) (tontinelaw07_RlogMerges_j2_ok n (tontinelaw07_RlogMerges.l1 n s_1 c_5 r_23 r_26 k) s_1 c_5 r_23 r_26 x_49 A_3 c_4 A_6 c_7 b_8 b_9 c_17 A_24 c_25 A_29 c_30 w0 S0 ih1 (r_53.1 != ((rdL r_23 x_49).Term)))
      · refine GoO.exec (is := [6, 7, 8, 9, 10, 11, 12, 13, 14]) (hs := [.p, .p, .p, .p, .p, .p, .p, .p, .p]) (rest := []) (ks := [3, 5, 7, 98, 99, 100, 125]) (env' := [(3, .pointer (some ⟨b_8, 0, none⟩)), (5, .pointer (some ⟨b_9, 0, none⟩)), (7, .pointer (some ⟨c_17, 0, none⟩)), (98, .slice A_24 r_23.length c_25), (99, .int .i64 (r_23.length : Int)), (100, .int .i64 x_49), (125, .bool false)]) (H' := [⟨49, b_52, [.int .u64 ((rdL r_23 x_49).Term), .int .u64 ((rdL r_23 x_49).Index), .int .i64 ((rdL r_23 x_49).Kind), .string (bs ((rdL r_23 x_49).Data))]⟩, ⟨40, b_8, [.int .u64 s_1.Index, .int .u64 s_1.Term, .int .u64 s_1.Config, .string (bs s_1.Data)]⟩, ⟨41, b_9, [.int .i64 c_5.Kind, .int .u64 c_5.Index, .int .u64 c_5.Term, .int .i64 c_5.What, .string (bs c_5.Data), .slice A_6 c_5.L.length c_7, .int .u64 c_5.Snap.Index, .int .u64 c_5.Snap.Term, .int .u64 c_5.Snap.Config, .string (bs c_5.Snap.Data)]⟩, ⟨43, c_17, [.int .u64 r_26.2.2.snap.Index, .int .u64 r_26.2.2.snap.Term, .int .u64 r_26.2.2.snap.Config, .string (bs r_26.2.2.snap.Data), .slice A_29 r_26.2.2.entries.length c_30]⟩]) (ps := []) (by kernel_rfl) trivial ?_
        refine GoO.regionEnd ?_
        exact GoO.sub (ks := [3, 5, 7, 98, 99, 100, 125]) (hk := [1, 2, 3]) (bk := [0, 1, 2]) (by kernel_rfl) (by kernel_rfl) (by kernel_rfl) (tontinelaw07_RlogMerges_j2_ok n (tontinelaw07_RlogMerges.l1 n s_1 c_5 r_23 r_26 k) s_1 c_5 r_23 r_26 x_49 A_3 c_4 A_6 c_7 b_8 b_9 c_17 A_24 c_25 A_29 c_30 w0 S0 ih1 false)
    · refine GoO.exit' c3_75e rfl ?_
      refine GoO.seq' c3_90e ?_
      refine GoO.region' (is := [0, 1, 2, 3, 4, 5]) c3_91e (by kernel_rfl) ?_
      refine GoO.exec (is := [0, 1, 2, 3]) (hs := [.p, .p, .b 0, .p]) (rest := [4, 5]) (ks := [3, 5, 7, 127, 130]) (env' := [(3, .pointer (some ⟨b_8, 0, none⟩)), (5, .pointer (some ⟨b_9, 0, none⟩)), (7, .pointer (some ⟨c_17, 0, none⟩)), (127, .pointer (some ⟨c_17, 0, none⟩)), (130, .int .u64 (wu64 (s_1.Index + 1)))]) (H' := [⟨40, b_8, [.int .u64 s_1.Index, .int .u64 s_1.Term, .int .u64 s_1.Config, .string (bs s_1.Data)]⟩, ⟨41, b_9, [.int .i64 c_5.Kind, .int .u64 c_5.Index, .int .u64 c_5.Term, .int .i64 c_5.What, .string (bs c_5.Data), .slice A_6 c_5.L.length c_7, .int .u64 c_5.Snap.Index, .int .u64 c_5.Snap.Term, .int .u64 c_5.Snap.Config, .string (bs c_5.Snap.Data)]⟩, ⟨43, c_17, [.int .u64 r_26.2.2.snap.Index, .int .u64 r_26.2.2.snap.Term, .int .u64 r_26.2.2.snap.Config, .string (bs r_26.2.2.snap.Data), .slice A_29 r_26.2.2.entries.length c_30]⟩]) (ps := [b_8 = b_8]) (by kernel_rfl) (And.intro rfl trivial) ?_
      refine OpTo.go (GoO.call rfl (by kernel_rfl) (by kernel_rfl) (rlog_Log_Get_ok n (⟨(⟨r_26.2.2.snap.Index, r_26.2.2.snap.Term, r_26.2.2.snap.Config, r_26.2.2.snap.Data⟩ : T_api_Snapshot), r_26.2.2.entries⟩ : T_rlog_Log) (wu64 (s_1.Index + 1)) 2000 c_17 A_29 c_30) [[0], [43], [44]] [(50, 3)] [(1, 2)] [(2, 1)] (hks := [0, 1, 2]) (bks := [0, 1, 2]) (by kernel_rfl) (by kernel_rfl) (by kernel_rfl) (.inl rfl) rfl rfl (by kernel_rfl) (by kernel_rfl) _ (fun _ _ => rfl) _ _ (fun _ _ => rfl) (fun _ _ => rfl) (fun _ _ => by kernel_rfl) (fun _ _ => by kernel_rfl) (fun r_59 x_76 => ?_))
      obtain ⟨A_60, c_61⟩ := x_76
      refine GoO.shape (env' := [(3, .pointer (some ⟨b_8, 0, none⟩)), (5, .pointer (some ⟨b_9, 0, none⟩)), (7, .pointer (some ⟨c_17, 0, none⟩)), (127, .pointer (some ⟨c_17, 0, none⟩)), (130, .int .u64 (wu64 (s_1.Index + 1))), (131, .slice A_60 r_59.length c_61)]) (H' := [⟨40, b_8, [.int .u64 s_1.Index, .int .u64 s_1.Term, .int .u64 s_1.Config, .string (bs s_1.Data)]⟩, ⟨41, b_9, [.int .i64 c_5.Kind, .int .u64 c_5.Index, .int .u64 c_5.Term, .int .i64 c_5.What, .string (bs c_5.Data), .slice A_6 c_5.L.length c_7, .int .u64 c_5.Snap.Index, .int .u64 c_5.Snap.Term, .int .u64 c_5.Snap.Config, .string (bs c_5.Snap.Data)]⟩, ⟨43, c_17, [.int .u64 r_26.2.2.snap.Index, .int .u64 r_26.2.2.snap.Term, .int .u64 r_26.2.2.snap.Config, .string (bs r_26.2.2.snap.Data), .slice A_29 r_26.2.2.entries.length c_30]⟩]) (B' := [Ow 50 kT_api_Entry A_60 c_61 r_59, Rd 0 kT_api_Entry A_6 c_7 c_5.L, Ow 44 kT_api_Entry A_29 c_30 r_26.2.2.entries, Ow 45 kT_api_Entry A_24 c_25 r_23]) (ks := [3, 5, 7, 127, 130, 131]) (by kernel_rfl) (by kernel_rfl) (by kernel_rfl) ?_
      refine GoO.exec (is := [5]) (hs := [.p]) (rest := []) (ks := [3, 5, 7, 20]) (env' := [(3, .pointer (some ⟨b_8, 0, none⟩)), (5, .pointer (some ⟨b_9, 0, none⟩)), (7, .pointer (some ⟨c_17, 0, none⟩)), (20, .slice A_60 r_59.length c_61)]) (H' := [⟨40, b_8, [.int .u64 s_1.Index, .int .u64 s_1.Term, .int .u64 s_1.Config, .string (bs s_1.Data)]⟩, ⟨41, b_9, [.int .i64 c_5.Kind, .int .u64 c_5.Index, .int .u64 c_5.Term, .int .i64 c_5.What, .string (bs c_5.Data), .slice A_6 c_5.L.length c_7, .int .u64 c_5.Snap.Index, .int .u64 c_5.Snap.Term, .int .u64 c_5.Snap.Config, .string (bs c_5.Snap.Data)]⟩, ⟨43, c_17, [.int .u64 r_26.2.2.snap.Index, .int .u64 r_26.2.2.snap.Term, .int .u64 r_26.2.2.snap.Config, .string (bs r_26.2.2.snap.Data), .slice A_29 r_26.2.2.entries.length c_30]⟩]) (ps := []) (by kernel_rfl) trivial ?_
      refine GoO.regionEnd ?_
      refine GoO.seq' c3_92e ?_
      refine GoO.region' (is := [0, 1, 2, 3, 4, 5, 6, 7, 8, 9, 10, 11, 12]) c3_93e (by kernel_rfl) ?_
      refine GoO.exec (is := [0, 1, 2, 3, 4, 5, 6]) (hs := [.p, .p, .b 1, .p, .b 1, .p, .b 1]) (rest := [7, 8, 9, 10, 11, 12]) (ks := [3, 7, 20, 133, 135, 137, 139]) (env' := [(3, .pointer (some ⟨b_8, 0, none⟩)), (7, .pointer (some ⟨c_17, 0, none⟩)), (20, .slice A_60 r_59.length c_61), (133, .pointer (some ⟨c_17, 0, none⟩)), (135, .int .u64 c_5.Index), (137, .int .u64 c_5.Term), (139, .slice A_6 c_5.L.length c_7)]) (H' := [⟨40, b_8, [.int .u64 s_1.Index, .int .u64 s_1.Term, .int .u64 s_1.Config, .string (bs s_1.Data)]⟩, ⟨41, b_9, [.int .i64 c_5.Kind, .int .u64 c_5.Index, .int .u64 c_5.Term, .int .i64 c_5.What, .string (bs c_5.Data), .slice A_6 c_5.L.length c_7, .int .u64 c_5.Snap.Index, .int .u64 c_5.Snap.Term, .int .u64 c_5.Snap.Config, .string (bs c_5.Snap.Data)]⟩, ⟨43, c_17, [.int .u64 r_26.2.2.snap.Index, .int .u64 r_26.2.2.snap.Term, .int .u64 r_26.2.2.snap.Config, .string (bs r_26.2.2.snap.Data), .slice A_29 r_26.2.2.entries.length c_30]⟩]) (ps := [b_9 = b_9, b_9 = b_9, b_9 = b_9]) (by kernel_rfl) (And.intro rfl (And.intro rfl (And.intro rfl trivial))) ?_
      refine OpTo.go (GoO.call rfl (by kernel_rfl) (by kernel_rfl) (rlog_Log_Merge_ok n (⟨(⟨r_26.2.2.snap.Index, r_26.2.2.snap.Term, r_26.2.2.snap.Config, r_26.2.2.snap.Data⟩ : T_api_Snapshot), r_26.2.2.entries⟩ : T_rlog_Log) c_5.Index c_5.Term c_5.L c_17 A_29 c_30 A_6 c_7) [[0], [43], [44]] [(43, 1), (44, 2), (51, 3)] [(1, 2)] [(2, 2), (0, 1)] (hks := [0, 1]) (bks := [0, 1, 3]) (by kernel_rfl) (by kernel_rfl) (by kernel_rfl) (.inl rfl) rfl rfl (by kernel_rfl) (by kernel_rfl) _ (fun _ _ => rfl) _ _ (fun _ _ => rfl) (fun _ _ => rfl) (fun _ _ => by kernel_rfl) (fun _ _ => by kernel_rfl) (fun r_62 x_75 => ?_))
      obtain ⟨A_63, c_64, A_65, c_66⟩ := x_75
      refine GoO.shape (env' := [(3, .pointer (some ⟨b_8, 0, none⟩)), (7, .pointer (some ⟨c_17, 0, none⟩)), (20, .slice A_60 r_59.length c_61), (133, .pointer (some ⟨c_17, 0, none⟩)), (135, .int .u64 c_5.Index), (137, .int .u64 c_5.Term), (139, .slice A_6 c_5.L.length c_7), (140, .tuple ⟨[.slice A_63 r_62.1.length c_64, .bool r_62.2.1]⟩)]) (H' := [⟨43, c_17, [.int .u64 r_62.2.2.snap.Index, .int .u64 r_62.2.2.snap.Term, .int .u64 r_62.2.2.snap.Config, .string (bs r_62.2.2.snap.Data), .slice A_65 r_62.2.2.entries.length c_66]⟩, ⟨40, b_8, [.int .u64 s_1.Index, .int .u64 s_1.Term, .int .u64 s_1.Config, .string (bs s_1.Data)]⟩, ⟨41, b_9, [.int .i64 c_5.Kind, .int .u64 c_5.Index, .int .u64 c_5.Term, .int .i64 c_5.What, .string (bs c_5.Data), .slice A_6 c_5.L.length c_7, .int .u64 c_5.Snap.Index, .int .u64 c_5.Snap.Term, .int .u64 c_5.Snap.Config, .string (bs c_5.Snap.Data)]⟩]) (B' := [Ow 51 kT_api_Entry A_63 c_64 r_62.1, Ow 44 kT_api_Entry A_65 c_66 r_62.2.2.entries, Ow 50 kT_api_Entry A_60 c_61 r_59, Rd 0 kT_api_Entry A_6 c_7 c_5.L, Ow 45 kT_api_Entry A_24 c_25 r_23]) (ks := [3, 7, 20, 133, 135, 137, 139, 140]) (by kernel_rfl) (by kernel_rfl) (by kernel_rfl) ?_
      refine GoO.exec (is := [8, 9, 10, 11, 12]) (hs := [.p, .p, .p, .p, .p]) (rest := []) (ks := [3, 7, 20, 21, 22]) (env' := [(3, .pointer (some ⟨b_8, 0, none⟩)), (7, .pointer (some ⟨c_17, 0, none⟩)), (20, .slice A_60 r_59.length c_61), (21, .slice A_63 r_62.1.length c_64), (22, .bool r_62.2.1)]) (H' := [⟨43, c_17, [.int .u64 r_62.2.2.snap.Index, .int .u64 r_62.2.2.snap.Term, .int .u64 r_62.2.2.snap.Config, .string (bs r_62.2.2.snap.Data), .slice A_65 r_62.2.2.entries.length c_66]⟩, ⟨40, b_8, [.int .u64 s_1.Index, .int .u64 s_1.Term, .int .u64 s_1.Config, .string (bs s_1.Data)]⟩, ⟨41, b_9, [.int .i64 c_5.Kind, .int .u64 c_5.Index, .int .u64 c_5.Term, .int .i64 c_5.What, .string (bs c_5.Data), .slice A_6 c_5.L.length c_7, .int .u64 c_5.Snap.Index, .int .u64 c_5.Snap.Term, .int .u64 c_5.Snap.Config, .string (bs c_5.Snap.Data)]⟩]) (ps := []) (by kernel_rfl) trivial ?_
      refine GoO.regionEnd ?_
      refine GoO.seq' c3_94e ?_
      refine GoO.region' (is := [0, 1, 2, 3, 4, 5, 6, 7, 8, 9, 10, 11, 12, 13, 14, 15]) c3_95e (by kernel_rfl) ?_
      refine GoO.exec (is := [0, 1]) (hs := [.p, .p]) (rest := [2, 3, 4, 5, 6, 7, 8, 9, 10, 11, 12, 13, 14, 15]) (ks := [3, 7, 20, 21, 144]) (env' := [(3, .pointer (some ⟨b_8, 0, none⟩)), (7, .pointer (some ⟨c_17, 0, none⟩)), (20, .slice A_60 r_59.length c_61), (21, .slice A_63 r_62.1.length c_64), (144, .bool r_62.2.1)]) (H' := [⟨43, c_17, [.int .u64 r_62.2.2.snap.Index, .int .u64 r_62.2.2.snap.Term, .int .u64 r_62.2.2.snap.Config, .string (bs r_62.2.2.snap.Data), .slice A_65 r_62.2.2.entries.length c_66]⟩, ⟨40, b_8, [.int .u64 s_1.Index, .int .u64 s_1.Term, .int .u64 s_1.Config, .string (bs s_1.Data)]⟩, ⟨41, b_9, [.int .i64 c_5.Kind, .int .u64 c_5.Index, .int .u64 c_5.Term, .int .i64 c_5.What, .string (bs c_5.Data), .slice A_6 c_5.L.length c_7, .int .u64 c_5.Snap.Index, .int .u64 c_5.Snap.Term, .int .u64 c_5.Snap.Config, .string (bs c_5.Snap.Data)]⟩]) (ps := []) (by kernel_rfl) trivial ?_
      refine GoO.bsplit (t := 144) (by kernel_rfl) (fun h67 => ?_) (fun h67 => ?_)
      · refine GoO.exec (is := [2, 3, 4, 5, 6]) (hs := [.p, .p, .p, .p, .p]) (rest := [7, 8, 9, 10, 11, 12, 13, 14, 15]) (ks := [3, 7, 20, 149]) (env' := [(3, .pointer (some ⟨b_8, 0, none⟩)), (7, .pointer (some ⟨c_17, 0, none⟩)), (20, .slice A_60 r_59.length c_61), (149, .bool ((r_62.1.length : Int) == 0))]) (H' := [⟨43, c_17, [.int .u64 r_62.2.2.snap.Index, .int .u64 r_62.2.2.snap.Term, .int .u64 r_62.2.2.snap.Config, .string (bs r_62.2.2.snap.Data), .slice A_65 r_62.2.2.entries.length c_66]⟩, ⟨40, b_8, [.int .u64 s_1.Index, .int .u64 s_1.Term, .int .u64 s_1.Config, .string (bs s_1.Data)]⟩, ⟨41, b_9, [.int .i64 c_5.Kind, .int .u64 c_5.Index, .int .u64 c_5.Term, .int .i64 c_5.What, .string (bs c_5.Data), .slice A_6 c_5.L.length c_7, .int .u64 c_5.Snap.Index, .int .u64 c_5.Snap.Term, .int .u64 c_5.Snap.Config, .string (bs c_5.Snap.Data)]⟩]) (ps := []) (by kernel_rfl) trivial ?_
        refine GoO.bsplit (t := 149) (by kernel_rfl) (fun h68 => ?_) (fun h68 => ?_)
        · refine GoO.exec (is := [7, 8, 9, 10, 11]) (hs := [.p, .p, .p, .b 1, .p]) (rest := [12, 13, 14, 15]) (ks := [149, 150, 151, 154]) (env' := [(149, .bool true), (150, .slice A_60 r_59.length c_61), (151, .pointer (some ⟨c_17, 0, none⟩)), (154, .int .u64 (wu64 (s_1.Index + 1)))]) (H' := [⟨43, c_17, [.int .u64 r_62.2.2.snap.Index, .int .u64 r_62.2.2.snap.Term, .int .u64 r_62.2.2.snap.Config, .string (bs r_62.2.2.snap.Data), .slice A_65 r_62.2.2.entries.length c_66]⟩, ⟨40, b_8, [.int .u64 s_1.Index, .int .u64 s_1.Term, .int .u64 s_1.Config, .string (bs s_1.Data)]⟩, ⟨41, b_9, [.int .i64 c_5.Kind, .int .u64 c_5.Index, .int .u64 c_5.Term, .int .i64 c_5.What, .string (bs c_5.Data), .slice A_6 c_5.L.length c_7, .int .u64 c_5.Snap.Index, .int .u64 c_5.Snap.Term, .int .u64 c_5.Snap.Config, .string (bs c_5.Snap.Data)]⟩]) (ps := [b_8 = b_8]) (by kernel_rfl) (And.intro rfl trivial) ?_
          refine OpTo.go (GoO.call rfl (by kernel_rfl) (by kernel_rfl) (rlog_Log_Get_ok n (⟨(⟨r_62.2.2.snap.Index, r_62.2.2.snap.Term, r_62.2.2.snap.Config, r_62.2.2.snap.Data⟩ : T_api_Snapshot), r_62.2.2.entries⟩ : T_rlog_Log) (wu64 (s_1.Index + 1)) 2000 c_17 A_65 c_66) [[0], [43], [44]] [(52, 3)] [(1, 0)] [(2, 1)] (hks := [0, 1, 2]) (bks := [0, 1, 2, 3, 4]) (by kernel_rfl) (by kernel_rfl) (by kernel_rfl) (.inl rfl) rfl rfl (by kernel_rfl) (by kernel_rfl) _ (fun _ _ => rfl) _ _ (fun _ _ => rfl) (fun _ _ => rfl) (fun _ _ => by kernel_rfl) (fun _ _ => by kernel_rfl) (fun r_69 x_74 => ?_))
          obtain ⟨A_70, c_71⟩ := x_74
          refine GoO.shape (env' := [(149, .bool true), (150, .slice A_60 r_59.length c_61), (151, .pointer (some ⟨c_17, 0, none⟩)), (154, .int .u64 (wu64 (s_1.Index + 1))), (155, .slice A_70 r_69.length c_71)]) (H' := [⟨43, c_17, [.int .u64 r_62.2.2.snap.Index, .int .u64 r_62.2.2.snap.Term, .int .u64 r_62.2.2.snap.Config, .string (bs r_62.2.2.snap.Data), .slice A_65 r_62.2.2.entries.length c_66]⟩, ⟨40, b_8, [.int .u64 s_1.Index, .int .u64 s_1.Term, .int .u64 s_1.Config, .string (bs s_1.Data)]⟩, ⟨41, b_9, [.int .i64 c_5.Kind, .int .u64 c_5.Index, .int .u64 c_5.Term, .int .i64 c_5.What, .string (bs c_5.Data), .slice A_6 c_5.L.length c_7, .int .u64 c_5.Snap.Index, .int .u64 c_5.Snap.Term, .int .u64 c_5.Snap.Config, .string (bs c_5.Snap.Data)]⟩]) (B' := [Ow 52 kT_api_Entry A_70 c_71 r_69, Ow 51 kT_api_Entry A_63 c_64 r_62.1, Ow 44 kT_api_Entry A_65 c_66 r_62.2.2.entries, Ow 50 kT_api_Entry A_60 c_61 r_59, Rd 0 kT_api_Entry A_6 c_7 c_5.L, Ow 45 kT_api_Entry A_24 c_25 r_23]) (ks := [149, 150, 151, 154, 155]) (by kernel_rfl) (by kernel_rfl) (by kernel_rfl) ?_
          refine GoO.view (j := 3) rfl ?_
          refine GoO.view (j := 0) rfl ?_
          refine OpTo.go (GoO.call rfl (by kernel_rfl) (by kernel_rfl) (tontineref07_Same_ok n r_59 r_69 A_60 c_61 A_70 c_71) [[0, 50, 52]] [] [] [(0, 6), (0, 7)] (hks := [0, 1, 2]) (bks := [0, 1, 2, 3, 4, 5]) (by kernel_rfl) (by kernel_rfl) (by kernel_rfl) (.inr (fun _ _ => by simp [tontineref07_Same.R])) rfl rfl (by kernel_rfl) (by kernel_rfl) _ (fun _ _ => rfl) _ _ (fun _ _ => rfl) (fun _ _ => rfl) (fun _ _ => by kernel_rfl) (fun _ _ => by kernel_rfl) (fun r_72 x_73 => ?_))
          refine GoO.shape (env' := [(149, .bool true), (150, .slice A_60 r_59.length c_61), (151, .pointer (some ⟨c_17, 0, none⟩)), (154, .int .u64 (wu64 (s_1.Index + 1))), (155, .slice A_70 r_69.length c_71), (156, .bool r_72)]) (H' := [⟨43, c_17, [.int .u64 r_62.2.2.snap.Index, .int .u64 r_62.2.2.snap.Term, .int .u64 r_62.2.2.snap.Config, .string (bs r_62.2.2.snap.Data), .slice A_65 r_62.2.2.entries.length c_66]⟩, ⟨40, b_8, [.int .u64 s_1.Index, .int .u64 s_1.Term, .int .u64 s_1.Config, .string (bs s_1.Data)]⟩, ⟨41, b_9, [.int .i64 c_5.Kind, .int .u64 c_5.Index, .int .u64 c_5.Term, .int .i64 c_5.What, .string (bs c_5.Data), .slice A_6 c_5.L.length c_7, .int .u64 c_5.Snap.Index, .int .u64 c_5.Snap.Term, .int .u64 c_5.Snap.Config, .string (bs c_5.Snap.Data)]⟩]) (B' := [Ow 52 kT_api_Entry A_70 c_71 r_69, Ow 51 kT_api_Entry A_63 c_64 r_62.1, Ow 44 kT_api_Entry A_65 c_66 r_62.2.2.entries, Ow 50 kT_api_Entry A_60 c_61 r_59, Rd 0 kT_api_Entry A_6 c_7 c_5.L, Ow 45 kT_api_Entry A_24 c_25 r_23]) (ks := [149, 150, 151, 154, 155, 156]) (by kernel_rfl) (by kernel_rfl) (by kernel_rfl) ?_
          refine GoO.exec (is := [14, 15]) (hs := [.p, .p]) (rest := []) (ks := [6]) (env' := [(6, .bool r_72)]) (H' := [⟨43, c_17, [.int .u64 r_62.2.2.snap.Index, .int .u64 r_62.2.2.snap.Term, .int .u64 r_62.2.2.snap.Config, .string (bs r_62.2.2.snap.Data), .slice A_65 r_62.2.2.entries.length c_66]⟩, ⟨40, b_8, [.int .u64 s_1.Index, .int .u64 s_1.Term, .int .u64 s_1.Config, .string (bs s_1.Data)]⟩, ⟨41, b_9, [.int .i64 c_5.Kind, .int .u64 c_5.Index, .int .u64 c_5.Term, .int .i64 c_5.What, .string (bs c_5.Data), .slice A_6 c_5.L.length c_7, .int .u64 c_5.Snap.Index, .int .u64 c_5.Snap.Term, .int .u64 c_5.Snap.Config, .string (bs c_5.Snap.Data)]⟩]) (ps := []) (by kernel_rfl) trivial ?_
          refine GoO.regionEnd ?_
          exact GoO.ret' (h := c3_96e) (hs := []) (ps := []) (hk := []) (bk := []) Try.func3 () (by kernel_rfl) trivial (by kernel_rfl) (by kernel_rfl)
        · refine GoO.exec (is := [7, 8, 9, 10, 11, 12, 13, 14, 15]) (hs := [.p, .p, .p, .p, .p, .p, .p, .p, .p]) (rest := []) (ks := [6]) (env' := [(6, .bool false)]) (H' := [⟨43, c_17, [.int .u64 r_62.2.2.snap.Index, .int .u64 r_62.2.2.snap.Term, .int .u64 r_62.2.2.snap.Config, .string (bs r_62.2.2.snap.Data), .slice A_65 r_62.2.2.entries.length c_66]⟩, ⟨40, b_8, [.int .u64 s_1.Index, .int .u64 s_1.Term, .int .u64 s_1.Config, .string (bs s_1.Data)]⟩, ⟨41, b_9, [.int .i64 c_5.Kind, .int .u64 c_5.Index, .int .u64 c_5.Term, .int .i64 c_5.What, .string (bs c_5.Data), .slice A_6 c_5.L.length c_7, .int .u64 c_5.Snap.Index, .int .u64 c_5.Snap.Term, .int .u64 c_5.Snap.Config, .string (bs c_5.Snap.Data)]⟩]) (ps := []) (by kernel_rfl) trivial ?_
          refine GoO.regionEnd ?_
          exact GoO.ret' (h := c3_96e) (hs := []) (ps := []) (hk := []) (bk := []) Try.func3 () (by kernel_rfl) trivial (by kernel_rfl) (by kernel_rfl)
      · refine GoO.exec (is := [2, 3, 4, 5, 6, 7, 8, 9, 10, 11, 12, 13, 14, 15]) (hs := [.p, .p, .p, .p, .p, .p, .p, .p, .p, .p, .p, .p, .p, .p]) (rest := []) (ks := [6]) (env' := [(6, .bool false)]) (H' := [⟨43, c_17, [.int .u64 r_62.2.2.snap.Index, .int .u64 r_62.2.2.snap.Term, .int .u64 r_62.2.2.snap.Config, .string (bs r_62.2.2.snap.Data), .slice A_65 r_62.2.2.entries.length c_66]⟩, ⟨40, b_8, [.int .u64 s_1.Index, .int .u64 s_1.Term, .int .u64 s_1.Config, .string (bs s_1.Data)]⟩, ⟨41, b_9, [.int .i64 c_5.Kind, .int .u64 c_5.Index, .int .u64 c_5.Term, .int .i64 c_5.What, .string (bs c_5.Data), .slice A_6 c_5.L.length c_7, .int .u64 c_5.Snap.Index, .int .u64 c_5.Snap.Term, .int .u64 c_5.Snap.Config, .string (bs c_5.Snap.Data)]⟩]) (ps := []) (by kernel_rfl) trivial ?_
        refine GoO.regionEnd ?_
        exact GoO.ret' (h := c3_96e) (hs := []) (ps := []) (hk := []) (bk := []) Try.func3 () (by kernel_rfl) trivial (by kernel_rfl) (by kernel_rfl)
theorem tontinelaw07_RlogMerges_l0_ok (n : Nat) (s_1 : T_api_Snapshot) (c_5 : T_tontinelaw07_Call) (r_23 : (List T_api_Entry)) (r_26 : (List T_api_Entry) × Bool × T_rlog_Log) (A_6 : Option Addr) (c_7 : Nat) (b_8 : Nat) (b_9 : Nat) (c_17 : Nat) (A_24 : Option Addr) (c_25 : Nat) (A_29 : Option Addr) (c_30 : Nat) (A_3 : Option Addr) (c_4 : Nat) (w0 : World) (S0 : Fam) :
    ∀ (k : Nat) (x_39 : Int), GoO (tontinelaw07_RlogMerges.cx A_3 c_4 A_6 c_7 w0 S0) [(3, .pointer (some ⟨b_8, 0, none⟩)), (5, .pointer (some ⟨b_9, 0, none⟩)), (7, .pointer (some ⟨c_17, 0, none⟩)), (9, .slice A_24 r_23.length c_25), (69, .slice A_6 c_5.L.length c_7), (70, .int .i64 (c_5.L.length : Int)), (71, .int .i64 x_39)] [⟨40, b_8, [.int .u64 s_1.Index, .int .u64 s_1.Term, .int .u64 s_1.Config, .string (bs s_1.Data)]⟩, ⟨41, b_9, [.int .i64 c_5.Kind, .int .u64 c_5.Index, .int .u64 c_5.Term, .int .i64 c_5.What, .string (bs c_5.Data), .slice A_6 c_5.L.length c_7, .int .u64 c_5.Snap.Index, .int .u64 c_5.Snap.Term, .int .u64 c_5.Snap.Config, .string (bs c_5.Snap.Data)]⟩, ⟨43, c_17, [.int .u64 r_26.2.2.snap.Index, .int .u64 r_26.2.2.snap.Term, .int .u64 r_26.2.2.snap.Config, .string (bs r_26.2.2.snap.Data), .slice A_29 r_26.2.2.entries.length c_30]⟩] [Rd 0 kT_api_Entry A_6 c_7 c_5.L, Ow 44 kT_api_Entry A_29 c_30 r_26.2.2.entries, Ow 45 kT_api_Entry A_24 c_25 r_23] [.code c3_45, .inLoop c3_45, .inBlock 0, .code c3_65] (tontinelaw07_RlogMerges.l0 n s_1 c_5 r_23 r_26 k x_39) := by
  intro k
  induction k with
  | zero => intros; rw [tontinelaw07_RlogMerges.l0.eq_1]; exact GoO.stop
  | succ k ih0 =>
    intro x_39
    rw [tontinelaw07_RlogMerges.l0.eq_2]
    refine GoO.seq' c3_45e ?_
    refine GoO.region' (is := [0]) c3_46e (by kernel_rfl) ?_
    refine GoO.exec (is := [0]) (hs := [.p]) (rest := []) (ks := [3, 5, 7, 9, 69, 70, 71, 72]) (env' := [(3, .pointer (some ⟨b_8, 0, none⟩)), (5, .pointer (some ⟨b_9, 0, none⟩)), (7, .pointer (some ⟨c_17, 0, none⟩)), (9, .slice A_24 r_23.length c_25), (69, .slice A_6 c_5.L.length c_7), (70, .int .i64 (c_5.L.length : Int)), (71, .int .i64 x_39), (72, .bool (decide (x_39 < (c_5.L.length : Int))))]) (H' := [⟨40, b_8, [.int .u64 s_1.Index, .int .u64 s_1.Term, .int .u64 s_1.Config, .string (bs s_1.Data)]⟩, ⟨41, b_9, [.int .i64 c_5.Kind, .int .u64 c_5.Index, .int .u64 c_5.Term, .int .i64 c_5.What, .string (bs c_5.Data), .slice A_6 c_5.L.length c_7, .int .u64 c_5.Snap.Index, .int .u64 c_5.Snap.Term, .int .u64 c_5.Snap.Config, .string (bs c_5.Snap.Data)]⟩, ⟨43, c_17, [.int .u64 r_26.2.2.snap.Index, .int .u64 r_26.2.2.snap.Term, .int .u64 r_26.2.2.snap.Config, .string (bs r_26.2.2.snap.Data), .slice A_29 r_26.2.2.entries.length c_30]⟩]) (ps := []) (by kernel_rfl) trivial ?_
    refine GoO.regionEnd ?_
    refine GoO.seq' c3_47e ?_
    refine GoO.ite' c3_48e (by kernel_rfl) (fun h40 => ?_) (fun h40 => ?_)
    · refine GoO.skip' c3_49e ?_
      refine GoO.seq' c3_51e ?_
      refine GoO.block' c3_52e ?_
      refine GoO.seq' c3_53e ?_
      refine GoO.region' (is := [0, 1, 2, 3]) c3_54e (by kernel_rfl) ?_
      refine GoO.guard (fun h41 => ?_)
      refine OpTo.go (GoO.idx (kk := .i64) (e := 40) (K := kT_api_Entry) (A := A_6) (c := c_7) (xs := c_5.L) (iv := x_39) (j := 0) rfl (by kernel_rfl) (by kernel_rfl) (by kernel_rfl) (by kernel_rfl) rfl Reads.rd rfl h41.1 h41.2 (by decide) rfl ?_)
      refine OpTo.go (GoO.ldE' (K := kT_api_Entry) (A := A_6) (c := c_7) (xs := c_5.L) (iN := x_39.toNat) (off := 0) (j := 0) rfl (by kernel_rfl) rfl Reads.rd (by first | exact idx_lt h41.1 h41.2 | (simp only [List.length_set]; exact idx_lt h41.1 h41.2)) (by decide) (Opn.flat _ _ _ _ _) (v := fun _ => .agg ⟨[.int .u64 ((rdL c_5.L x_39).Term), .int .u64 ((rdL c_5.L x_39).Index), .int .i64 ((rdL c_5.L x_39).Kind), .string (bs ((rdL c_5.L x_39).Data))]⟩) (fun _ => by kernel_rfl) _ (fun _ => rfl) (fun _ => ?_))
      refine OpTo.go (GoO.new rfl 48 (cs := [.int .u64 0, .int .u64 0, .int .i64 0, .string (bs [])]) (by kernel_rfl) _ (fun _ => rfl) (fun b_42 => ?_))
      refine GoO.exec (is := [3]) (hs := [.b 0]) (rest := []) (ks := [3, 5, 7, 9, 13, 69, 70, 71]) (env' := [(3, .pointer (some ⟨b_8, 0, none⟩)), (5, .pointer (some ⟨b_9, 0, none⟩)), (7, .pointer (some ⟨c_17, 0, none⟩)), (9, .slice A_24 r_23.length c_25), (13, .pointer (some ⟨b_42, 0, none⟩)), (69, .slice A_6 c_5.L.length c_7), (70, .int .i64 (c_5.L.length : Int)), (71, .int .i64 x_39)]) (H' := [⟨48, b_42, [.int .u64 ((rdL c_5.L x_39).Term), .int .u64 ((rdL c_5.L x_39).Index), .int .i64 ((rdL c_5.L x_39).Kind), .string (bs ((rdL c_5.L x_39).Data))]⟩, ⟨40, b_8, [.int .u64 s_1.Index, .int .u64 s_1.Term, .int .u64 s_1.Config, .string (bs s_1.Data)]⟩, ⟨41, b_9, [.int .i64 c_5.Kind, .int .u64 c_5.Index, .int .u64 c_5.Term, .int .i64 c_5.What, .string (bs c_5.Data), .slice A_6 c_5.L.length c_7, .int .u64 c_5.Snap.Index, .int .u64 c_5.Snap.Term, .int .u64 c_5.Snap.Config, .string (bs c_5.Snap.Data)]⟩, ⟨43, c_17, [.int .u64 r_26.2.2.snap.Index, .int .u64 r_26.2.2.snap.Term, .int .u64 r_26.2.2.snap.Config, .string (bs r_26.2.2.snap.Data), .slice A_29 r_26.2.2.entries.length c_30]⟩]) (ps := [b_42 = b_42]) (by kernel_rfl) (And.intro rfl trivial) ?_
      refine GoO.regionEnd ?_
      refine GoO.seq' c3_55e ?_
      refine GoO.region' (is := [0, 1, 2, 3, 4, 5, 6, 7, 8]) c3_56e (by kernel_rfl) ?_
      refine GoO.exec (is := [0, 1, 2]) (hs := [.p, .p, .b 0]) (rest := [3, 4, 5, 6, 7, 8]) (ks := [3, 5, 7, 9, 13, 69, 70, 71, 76, 78]) (env' := [(3, .pointer (some ⟨b_8, 0, none⟩)), (5, .pointer (some ⟨b_9, 0, none⟩)), (7, .pointer (some ⟨c_17, 0, none⟩)), (9, .slice A_24 r_23.length c_25), (13, .pointer (some ⟨b_42, 0, none⟩)), (69, .slice A_6 c_5.L.length c_7), (70, .int .i64 (c_5.L.length : Int)), (71, .int .i64 x_39), (76, .pointer (some ⟨c_17, 0, none⟩)), (78, .int .u64 ((rdL c_5.L x_39).Index))]) (H' := [⟨48, b_42, [.int .u64 ((rdL c_5.L x_39).Term), .int .u64 ((rdL c_5.L x_39).Index), .int .i64 ((rdL c_5.L x_39).Kind), .string (bs ((rdL c_5.L x_39).Data))]⟩, ⟨40, b_8, [.int .u64 s_1.Index, .int .u64 s_1.Term, .int .u64 s_1.Config, .string (bs s_1.Data)]⟩, ⟨41, b_9, [.int .i64 c_5.Kind, .int .u64 c_5.Index, .int .u64 c_5.Term, .int .i64 c_5.What, .string (bs c_5.Data), .slice A_6 c_5.L.length c_7, .int .u64 c_5.Snap.Index, .int .u64 c_5.Snap.Term, .int .u64 c_5.Snap.Config, .string (bs c_5.Snap.Data)]⟩, ⟨43, c_17, [.int .u64 r_26.2.2.snap.Index, .int .u64 r_26.2.2.snap.Term, .int .u64 r_26.2.2.snap.Config, .string (bs r_26.2.2.snap.Data), .slice A_29 r_26.2.2.entries.length c_30]⟩]) (ps := [b_42 = b_42]) (by kernel_rfl) (And.intro rfl trivial) ?_
      refine OpTo.go (GoO.call rfl (by kernel_rfl) (by kernel_rfl) (rlog_Log_Term_ok n (⟨(⟨r_26.2.2.snap.Index, r_26.2.2.snap.Term, r_26.2.2.snap.Config, r_26.2.2.snap.Data⟩ : T_api_Snapshot), r_26.2.2.entries⟩ : T_rlog_Log) ((rdL c_5.L x_39).Index) c_17 A_29 c_30) [[0], [43], [44]] [] [(1, 3)] [(2, 1)] (hks := [0, 1, 2, 3]) (bks := [0, 1, 2]) (by kernel_rfl) (by kernel_rfl) (by kernel_rfl) (.inl rfl) rfl rfl (by kernel_rfl) (by kernel_rfl) _ (fun _ _ => rfl) _ _ (fun _ _ => rfl) (fun _ _ => rfl) (fun _ _ => by kernel_rfl) (fun _ _ => by kernel_rfl) (fun r_43 x_48 => ?_))
      refine GoO.shape (env' := [(3, .pointer (some ⟨b_8, 0, none⟩)), (5, .pointer (some ⟨b_9, 0, none⟩)), (7, .pointer (some ⟨c_17, 0, none⟩)), (9, .slice A_24 r_23.length c_25), (13, .pointer (some ⟨b_42, 0, none⟩)), (69, .slice A_6 c_5.L.length c_7), (70, .int .i64 (c_5.L.length : Int)), (71, .int .i64 x_39), (76, .pointer (some ⟨c_17, 0, none⟩)), (78, .int .u64 ((rdL c_5.L x_39).Index)), (79, .tuple ⟨[.int .u64 r_43.1, .int .i64 r_43.2]⟩)]) (H' := [⟨48, b_42, [.int .u64 ((rdL c_5.L x_39).Term), .int .u64 ((rdL c_5.L x_39).Index), .int .i64 ((rdL c_5.L x_39).Kind), .string (bs ((rdL c_5.L x_39).Data))]⟩, ⟨40, b_8, [.int .u64 s_1.Index, .int .u64 s_1.Term, .int .u64 s_1.Config, .string (bs s_1.Data)]⟩, ⟨41, b_9, [.int .i64 c_5.Kind, .int .u64 c_5.Index, .int .u64 c_5.Term, .int .i64 c_5.What, .string (bs c_5.Data), .slice A_6 c_5.L.length c_7, .int .u64 c_5.Snap.Index, .int .u64 c_5.Snap.Term, .int .u64 c_5.Snap.Config, .string (bs c_5.Snap.Data)]⟩, ⟨43, c_17, [.int .u64 r_26.2.2.snap.Index, .int .u64 r_26.2.2.snap.Term, .int .u64 r_26.2.2.snap.Config, .string (bs r_26.2.2.snap.Data), .slice A_29 r_26.2.2.entries.length c_30]⟩]) (B' := [Rd 0 kT_api_Entry A_6 c_7 c_5.L, Ow 44 kT_api_Entry A_29 c_30 r_26.2.2.entries, Ow 45 kT_api_Entry A_24 c_25 r_23]) (ks := [3, 5, 7, 9, 13, 69, 70, 71, 76, 78, 79]) (by kernel_rfl) (by kernel_rfl) (by kernel_rfl) ?_
      refine GoO.exec (is := [4, 5, 6, 7, 8]) (hs := [.p, .p, .p, .p, .p]) (rest := []) (ks := [3, 5, 7, 9, 13, 14, 15, 69, 70, 71]) (env' := [(3, .pointer (some ⟨b_8, 0, none⟩)), (5, .pointer (some ⟨b_9, 0, none⟩)), (7, .pointer (some ⟨c_17, 0, none⟩)), (9, .slice A_24 r_23.length c_25), (13, .pointer (some ⟨b_42, 0, none⟩)), (14, .int .u64 r_43.1), (15, .int .i64 r_43.2), (69, .slice A_6 c_5.L.length c_7), (70, .int .i64 (c_5.L.length : Int)), (71, .int .i64 x_39)]) (H' := [⟨48, b_42, [.int .u64 ((rdL c_5.L x_39).Term), .int .u64 ((rdL c_5.L x_39).Index), .int .i64 ((rdL c_5.L x_39).Kind), .string (bs ((rdL c_5.L x_39).Data))]⟩, ⟨40, b_8, [.int .u64 s_1.Index, .int .u64 s_1.Term, .int .u64 s_1.Config, .string (bs s_1.Data)]⟩, ⟨41, b_9, [.int .i64 c_5.Kind, .int .u64 c_5.Index, .int .u64 c_5.Term, .int .i64 c_5.What, .string (bs c_5.Data), .slice A_6 c_5.L.length c_7, .int .u64 c_5.Snap.Index, .int .u64 c_5.Snap.Term, .int .u64 c_5.Snap.Config, .string (bs c_5.Snap.Data)]⟩, ⟨43, c_17, [.int .u64 r_26.2.2.snap.Index, .int .u64 r_26.2.2.snap.Term, .int .u64 r_26.2.2.snap.Config, .string (bs r_26.2.2.snap.Data), .slice A_29 r_26.2.2.entries.length c_30]⟩]) (ps := []) (by kernel_rfl) trivial ?_
      refine GoO.regionEnd ?_
      refine GoO.seq' c3_57e ?_
      refine GoO.region' (is := [0, 1, 2, 3, 4, 5, 6, 7, 8, 9, 10, 11, 12, 13, 14]) c3_58e (by kernel_rfl) ?_
      refine GoO.exec (is := [0, 1, 2, 3, 4, 5]) (hs := [.p, .b 0, .p, .b 1, .p, .p]) (rest := [6, 7, 8, 9, 10, 11, 12, 13, 14]) (ks := [3, 5, 7, 9, 13, 14, 15, 69, 70, 71, 87]) (env' := [(3, .pointer (some ⟨b_8, 0, none⟩)), (5, .pointer (some ⟨b_9, 0, none⟩)), (7, .pointer (some ⟨c_17, 0, none⟩)), (9, .slice A_24 r_23.length c_25), (13, .pointer (some ⟨b_42, 0, none⟩)), (14, .int .u64 r_43.1), (15, .int .i64 r_43.2), (69, .slice A_6 c_5.L.length c_7), (70, .int .i64 (c_5.L.length : Int)), (71, .int .i64 x_39), (87, .bool (decide (((rdL c_5.L x_39).Index) > s_1.Index)))]) (H' := [⟨48, b_42, [.int .u64 ((rdL c_5.L x_39).Term), .int .u64 ((rdL c_5.L x_39).Index), .int .i64 ((rdL c_5.L x_39).Kind), .string (bs ((rdL c_5.L x_39).Data))]⟩, ⟨40, b_8, [.int .u64 s_1.Index, .int .u64 s_1.Term, .int .u64 s_1.Config, .string (bs s_1.Data)]⟩, ⟨41, b_9, [.int .i64 c_5.Kind, .int .u64 c_5.Index, .int .u64 c_5.Term, .int .i64 c_5.What, .string (bs c_5.Data), .slice A_6 c_5.L.length c_7, .int .u64 c_5.Snap.Index, .int .u64 c_5.Snap.Term, .int .u64 c_5.Snap.Config, .string (bs c_5.Snap.Data)]⟩, ⟨43, c_17, [.int .u64 r_26.2.2.snap.Index, .int .u64 r_26.2.2.snap.Term, .int .u64 r_26.2.2.snap.Config, .string (bs r_26.2.2.snap.Data), .slice A_29 r_26.2.2.entries.length c_30]⟩]) (ps := [b_42 = b_42, b_8 = b_8]) (by kernel_rfl) (And.intro rfl (And.intro rfl trivial)) ?_
      refine GoO.bsplit (t := 87) (by kernel_rfl) (fun h44 => ?_) (fun h44 => ?_)
      · refine GoO.exec (is := [6, 7, 8]) (hs := [.p, .p, .p]) (rest := [9, 10, 11, 12, 13, 14]) (ks := [3, 5, 7, 9, 13, 14, 69, 70, 71, 87, 90]) (env' := [(3, .pointer (some ⟨b_8, 0, none⟩)), (5, .pointer (some ⟨b_9, 0, none⟩)), (7, .pointer (some ⟨c_17, 0, none⟩)), (9, .slice A_24 r_23.length c_25), (13, .pointer (some ⟨b_42, 0, none⟩)), (14, .int .u64 r_43.1), (69, .slice A_6 c_5.L.length c_7), (70, .int .i64 (c_5.L.length : Int)), (71, .int .i64 x_39), (87, .bool true), (90, .bool (r_43.2 != 0))]) (H' := [⟨48, b_42, [.int .u64 ((rdL c_5.L x_39).Term), .int .u64 ((rdL c_5.L x_39).Index), .int .i64 ((rdL c_5.L x_39).Kind), .string (bs ((rdL c_5.L x_39).Data))]⟩, ⟨40, b_8, [.int .u64 s_1.Index, .int .u64 s_1.Term, .int .u64 s_1.Config, .string (bs s_1.Data)]⟩, ⟨41, b_9, [.int .i64 c_5.Kind, .int .u64 c_5.Index, .int .u64 c_5.Term, .int .i64 c_5.What, .string (bs c_5.Data), .slice A_6 c_5.L.length c_7, .int .u64 c_5.Snap.Index, .int .u64 c_5.Snap.Term, .int .u64 c_5.Snap.Config, .string (bs c_5.Snap.Data)]⟩, ⟨43, c_17, [.int .u64 r_26.2.2.snap.Index, .int .u64 r_26.2.2.snap.Term, .int .u64 r_26.2.2.snap.Config, .string (bs r_26.2.2.snap.Data), .slice A_29 r_26.2.2.entries.length c_30]⟩]) (ps := []) (by kernel_rfl) trivial ?_
        refine GoO.bsplit (t := 90) (by kernel_rfl) (fun h45 => ?_) (fun h45 => ?_)
        · refine GoO.exec (is := [9, 10, 11, 12, 13, 14]) (hs := [.p, .p, .p, .p, .p, .p]) (rest := []) (ks := [3, 5, 7, 9, 69, 70, 71, 96]) (env' := [(3, .pointer (some ⟨b_8, 0, none⟩)), (5, .pointer (some ⟨b_9, 0, none⟩)), (7, .pointer (some ⟨c_17, 0, none⟩)), (9, .slice A_24 r_23.length c_25), (69, .slice A_6 c_5.L.length c_7), (70, .int .i64 (c_5.L.length : Int)), (71, .int .i64 x_39), (96, .bool true)]) (H' := [⟨48, b_42, [.int .u64 ((rdL c_5.L x_39).Term), .int .u64 ((rdL c_5.L x_39).Index), .int .i64 ((rdL c_5.L x_39).Kind), .string (bs ((rdL c_5.L x_39).Data))]⟩, ⟨40, b_8, [.int .u64 s_1.Index, .int .u64 s_1.Term, .int .u64 s_1.Config, .string (bs s_1.Data)]⟩, ⟨41, b_9, [.int .i64 c_5.Kind, .int .u64 c_5.Index, .int .u64 c_5.Term, .int .i64 c_5.What, .string (bs c_5.Data), .slice A_6 c_5.L.length c_7, .int .u64 c_5.Snap.Index, .int .u64 c_5.Snap.Term, .int .u64 c_5.Snap.Config, .string (bs c_5.Snap.Data)]⟩, ⟨43, c_17, [.int .u64 r_26.2.2.snap.Index, .int .u64 r_26.2.2.snap.Term, .int .u64 r_26.2.2.snap.Config, .string (bs r_26.2.2.snap.Data), .slice A_29 r_26.2.2.entries.length c_30]⟩]) (ps := []) (by kernel_rfl) trivial ?_
          refine GoO.regionEnd ?_
          exact GoO.sub (ks := [3, 5, 7, 9, 69, 70, 71, 96]) (hk := [1, 2, 3]) (bk := [0, 1, 2]) (by kernel_rfl) (by kernel_rfl) (by kernel_rfl) (tontinelaw07_RlogMerges_j1_ok n (tontinelaw07_RlogMerges.l0 n s_1 c_5 r_23 r_26 k) s_1 c_5 r_23 r_26 x_39 A_3 c_4 A_6 c_7 b_8 b_9 c_17 A_24 c_25 A_29 c_30 w0 S0 ih0 true)
        · refine GoO.exec (is := [9, 10, 11, 12, 13, 14]) (hs := [.p, .p, .b 0, .p, .p, .p]) (rest := []) (ks := [3, 5, 7, 9, 69, 70, 71, 96]) (env' := [(3, .pointer (some ⟨b_8, 0, none⟩)), (5, .pointer (some ⟨b_9, 0, none⟩)), (7, .pointer (some ⟨c_17, 0, none⟩)), (9, .slice A_24 r_23.length c_25), (69, .slice A_6 c_5.L.length c_7), (70, .int .i64 (c_5.L.length : Int)), (71, .int .i64 x_39), (96, .bool (r_43.1 != ((rdL c_5.L x_39).Term)))]) (H' := [⟨48, b_42, [.int .u64 ((rdL c_5.L x_39).Term), .int .u64 ((rdL c_5.L x_39).Index), .int .i64 ((rdL c_5.L x_39).Kind), .string (bs ((rdL c_5.L x_39).Data))]⟩, ⟨40, b_8, [.int .u64 s_1.Index, .int .u64 s_1.Term, .int .u64 s_1.Config, .string (bs s_1.Data)]⟩, ⟨41, b_9, [.int .i64 c_5.Kind, .int .u64 c_5.Index, .int .u64 c_5.Term, .int .i64 c_5.What, .string (bs c_5.Data), .slice A_6 c_5.L.length c_7, .int .u64 c_5.Snap.Index, .int .u64 c_5.Snap.Term, .int .u64 c_5.Snap.Config, .string (bs c_5.Snap.Data)]⟩, ⟨43, c_17, [.int .u64 r_26.2.2.snap.Index, .int .u64 r_26.2.2.snap.Term, .int .u64 r_26.2.2.snap.Config, .string (bs r_26.2.2.snap.Data), .slice A_29 r_26.2.2.entries.length c_30]⟩]) (ps := [b_42 = b_42]) (by kernel_rfl) (And.intro rfl trivial) ?_
          refine GoO.regionEnd ?_
          exact GoO.sub (ks := [3, 5, 7, 9, 69, 70, 71, 96]) (hk := [1, 2, 3]) (bk := [0, 1, 2]) (by kernel_rfl) (by kernel_rfl) (by kernel_rfl) (tontinelaw07_RlogMerges_j1_ok n (tontinelaw07_RlogMerges.l0 n s_1 c_5 r_23 r_26 k) s_1 c_5 r_23 r_26 x_39 A_3 c_4 A_6 c_7 b_8 b_9 c_17 A_24 c_25 A_29 c_30 w0 S0 ih0 (r_43.1 != ((rdL c_5.L x_39).Term)))
      · refine GoO.exec (is := [6, 7, 8, 9, 10, 11, 12, 13, 14]) (hs := [.p, .p, .p, .p, .p, .p, .p, .p, .p]) (rest := []) (ks := [3, 5, 7, 9, 69, 70, 71, 96]) (env' := [(3, .pointer (some ⟨b_8, 0, none⟩)), (5, .pointer (some ⟨b_9, 0, none⟩)), (7, .pointer (some ⟨c_17, 0, none⟩)), (9, .slice A_24 r_23.length c_25), (69, .slice A_6 c_5.L.length c_7), (70, .int .i64 (c_5.L.length : Int)), (71, .int .i64 x_39), (96, .bool false)]) (H' := [⟨48, b_42, [.int .u64 ((rdL c_5.L x_39).Term), .int .u64 ((rdL c_5.L x_39).Index), .int .i64 ((rdL c_5.L x_39).Kind), .string (bs ((rdL c_5.L x_39).Data))]⟩, ⟨40, b_8, [.int .u64 s_1.Index, .int .u64 s_1.Term, .int .u64 s_1.Config, .string (bs s_1.Data)]⟩, ⟨41, b_9, [.int .i64 c_5.Kind, .int .u64 c_5.Index, .int .u64 c_5.Term, .int .i64 c_5.What, .string (bs c_5.Data), .slice A_6 c_5.L.length c_7, .int .u64 c_5.Snap.Index, .int .u64 c_5.Snap.Term, .int .u64 c_5.Snap.Config, .string (bs c_5.Snap.Data)]⟩, ⟨43, c_17, [.int .u64 r_26.2.2.snap.Index, .int .u64 r_26.2.2.snap.Term, .int .u64 r_26.2.2.snap.Config, .string (bs r_26.2.2.snap.Data), .slice A_29 r_26.2.2.entries.length c_30]⟩]) (ps := []) (by kernel_rfl) trivial ?_
        refine GoO.regionEnd ?_
        exact GoO.sub (ks := [3, 5, 7, 9, 69, 70, 71, 96]) (hk := [1, 2, 3]) (bk := [0, 1, 2]) (by kernel_rfl) (by kernel_rfl) (by kernel_rfl) (tontinelaw07_RlogMerges_j1_ok n (tontinelaw07_RlogMerges.l0 n s_1 c_5 r_23 r_26 k) s_1 c_5 r_23 r_26 x_39 A_3 c_4 A_6 c_7 b_8 b_9 c_17 A_24 c_25 A_29 c_30 w0 S0 ih0 false)
    · refine GoO.exit' c3_50e rfl ?_
      refine GoO.seq' c3_65e ?_
      refine GoO.seq' c3_66e ?_
      refine GoO.region' (is := [0, 1, 2]) c3_67e (by kernel_rfl) ?_
      refine GoO.exec (is := [0, 1, 2]) (hs := [.p, .p, .p]) (rest := []) (ks := [3, 5, 7, 98, 99, 100]) (env' := [(3, .pointer (some ⟨b_8, 0, none⟩)), (5, .pointer (some ⟨b_9, 0, none⟩)), (7, .pointer (some ⟨c_17, 0, none⟩)), (98, .slice A_24 r_23.length c_25), (99, .int .i64 (r_23.length : Int)), (100, .int .i64 0)]) (H' := [⟨40, b_8, [.int .u64 s_1.Index, .int .u64 s_1.Term, .int .u64 s_1.Config, .string (bs s_1.Data)]⟩, ⟨41, b_9, [.int .i64 c_5.Kind, .int .u64 c_5.Index, .int .u64 c_5.Term, .int .i64 c_5.What, .string (bs c_5.Data), .slice A_6 c_5.L.length c_7, .int .u64 c_5.Snap.Index, .int .u64 c_5.Snap.Term, .int .u64 c_5.Snap.Config, .string (bs c_5.Snap.Data)]⟩, ⟨43, c_17, [.int .u64 r_26.2.2.snap.Index, .int .u64 r_26.2.2.snap.Term, .int .u64 r_26.2.2.snap.Config, .string (bs r_26.2.2.snap.Data), .slice A_29 r_26.2.2.entries.length c_30]⟩]) (ps := []) (by kernel_rfl) trivial ?_
      refine GoO.regionEnd ?_
      refine GoO.block' c3_68e ?_
      refine GoO.loop' c3_69e ?_
      exact GoO.sub (ks := [3, 5, 7, 98, 99, 100]) (hk := [0, 1, 2]) (bk := [0, 1, 2]) (by kernel_rfl) (by kernel_rfl) (by kernel_rfl) (tontinelaw07_RlogMerges_l1_ok n s_1 c_5 r_23 r_26 A_6 c_7 b_8 b_9 c_17 A_24 c_25 A_29 c_30 A_3 c_4 w0 S0 n 0)
theorem tontinelaw07_RlogMerges_ok (n : Nat) (s_1 : T_api_Snapshot) (l_2 : (List T_api_Entry)) (c_5 : T_tontinelaw07_Call) (A_3 : Option Addr) (c_4 : Nat) (A_6 : Option Addr) (c_7 : Nat) :
    Meets Try.prog 3 [.agg ⟨[.int .u64 s_1.Index, .int .u64 s_1.Term, .int .u64 s_1.Config, .string (bs s_1.Data)]⟩, .slice A_3 l_2.length c_4, .agg ⟨[.int .i64 c_5.Kind, .int .u64 c_5.Index, .int .u64 c_5.Term, .int .i64 c_5.What, .string (bs c_5.Data), .slice A_6 c_5.L.length c_7, .int .u64 c_5.Snap.Index, .int .u64 c_5.Snap.Term, .int .u64 c_5.Snap.Config, .string (bs c_5.Snap.Data)]⟩] 0 [] [] [Rd 0 kT_api_Entry A_3 c_4 l_2, Rd 0 kT_api_Entry A_6 c_7 c_5.L] (tontinelaw07_RlogMerges.f n s_1 l_2 c_5) (tontinelaw07_RlogMerges.R A_3 c_4 A_6 c_7) := by
  refine Meets.of (c := c3_0) (n := 158) Try.func3 (by kernel_rfl) (by kernel_rfl) (by kernel_rfl) fun w0 S0 => ?_
  unfold tontinelaw07_RlogMerges.f
  show GoO (tontinelaw07_RlogMerges.cx A_3 c_4 A_6 c_7 w0 S0) [(0, .agg ⟨[.int .u64 s_1.Index, .int .u64 s_1.Term, .int .u64 s_1.Config, .string (bs s_1.Data)]⟩), (1, .slice A_3 l_2.length c_4), (2, .agg ⟨[.int .i64 c_5.Kind, .int .u64 c_5.Index, .int .u64 c_5.Term, .int .i64 c_5.What, .string (bs c_5.Data), .slice A_6 c_5.L.length c_7, .int .u64 c_5.Snap.Index, .int .u64 c_5.Snap.Term, .int .u64 c_5.Snap.Config, .string (bs c_5.Snap.Data)]⟩)] [] [Rd 0 kT_api_Entry A_3 c_4 l_2, Rd 0 kT_api_Entry A_6 c_7 c_5.L] [.code c3_0] _
  refine GoO.seq' c3_0e ?_
  refine GoO.region' (is := [0, 1, 2]) c3_1e (by kernel_rfl) ?_
  refine OpTo.go (GoO.new rfl 40 (cs := [.int .u64 s_1.Index, .int .u64 s_1.Term, .int .u64 s_1.Config, .string (bs s_1.Data)]) (by kernel_rfl) _ (fun _ => rfl) (fun b_8 => ?_))
  refine OpTo.go (GoO.new rfl 41 (cs := [.int .i64 c_5.Kind, .int .u64 c_5.Index, .int .u64 c_5.Term, .int .i64 c_5.What, .string (bs c_5.Data), .slice A_6 c_5.L.length c_7, .int .u64 c_5.Snap.Index, .int .u64 c_5.Snap.Term, .int .u64 c_5.Snap.Config, .string (bs c_5.Snap.Data)]) (by kernel_rfl) _ (fun _ => rfl) (fun b_9 => ?_))
  refine GoO.exec (is := [2]) (hs := [.p]) (rest := []) (ks := [1, 3, 5]) (env' := [(1, .slice A_3 l_2.length c_4), (3, .pointer (some ⟨b_8, 0, none⟩)), (5, .pointer (some ⟨b_9, 0, none⟩))]) (H' := [⟨41, b_9, [.int .i64 c_5.Kind, .int .u64 c_5.Index, .int .u64 c_5.Term, .int .i64 c_5.What, .string (bs c_5.Data), .slice A_6 c_5.L.length c_7, .int .u64 c_5.Snap.Index, .int .u64 c_5.Snap.Term, .int .u64 c_5.Snap.Config, .string (bs c_5.Snap.Data)]⟩, ⟨40, b_8, [.int .u64 s_1.Index, .int .u64 s_1.Term, .int .u64 s_1.Config, .string (bs s_1.Data)]⟩]) (ps := []) (by kernel_rfl) trivial ?_
  refine GoO.regionEnd ?_
  refine GoO.seq' c3_2e ?_
  refine GoO.seq' c3_3e ?_
  refine GoO.region' (is := [0, 1]) c3_4e (by kernel_rfl) ?_
  refine OpTo.go (GoO.call rfl (by kernel_rfl) (by kernel_rfl) (tontinelaw07_begun_ok n) [[0]] [] [] [] (hks := [0, 1]) (bks := [0, 1]) (by kernel_rfl) (by kernel_rfl) (by kernel_rfl) (.inl rfl) rfl rfl (by kernel_rfl) (by kernel_rfl) _ (fun _ _ => rfl) _ _ (fun _ _ => rfl) (fun _ _ => rfl) (fun _ _ => by kernel_rfl) (fun _ _ => by kernel_rfl) (fun r_10 x_81 => ?_))
  refine GoO.shape (env' := [(1, .slice A_3 l_2.length c_4), (3, .pointer (some ⟨b_8, 0, none⟩)), (5, .pointer (some ⟨b_9, 0, none⟩)), (23, .bool r_10)]) (H' := [⟨41, b_9, [.int .i64 c_5.Kind, .int .u64 c_5.Index, .int .u64 c_5.Term, .int .i64 c_5.What, .string (bs c_5.Data), .slice A_6 c_5.L.length c_7, .int .u64 c_5.Snap.Index, .int .u64 c_5.Snap.Term, .int .u64 c_5.Snap.Config, .string (bs c_5.Snap.Data)]⟩, ⟨40, b_8, [.int .u64 s_1.Index, .int .u64 s_1.Term, .int .u64 s_1.Config, .string (bs s_1.Data)]⟩]) (B' := [Rd 0 kT_api_Entry A_3 c_4 l_2, Rd 0 kT_api_Entry A_6 c_7 c_5.L]) (ks := [1, 3, 5, 23]) (by kernel_rfl) (by kernel_rfl) (by kernel_rfl) ?_
  refine GoO.exec (is := [1]) (hs := [.p]) (rest := []) (ks := [1, 3, 5, 24]) (env' := [(1, .slice A_3 l_2.length c_4), (3, .pointer (some ⟨b_8, 0, none⟩)), (5, .pointer (some ⟨b_9, 0, none⟩)), (24, .bool (!r_10))]) (H' := [⟨41, b_9, [.int .i64 c_5.Kind, .int .u64 c_5.Index, .int .u64 c_5.Term, .int .i64 c_5.What, .string (bs c_5.Data), .slice A_6 c_5.L.length c_7, .int .u64 c_5.Snap.Index, .int .u64 c_5.Snap.Term, .int .u64 c_5.Snap.Config, .string (bs c_5.Snap.Data)]⟩, ⟨40, b_8, [.int .u64 s_1.Index, .int .u64 s_1.Term, .int .u64 s_1.Config, .string (bs s_1.Data)]⟩]) (ps := []) (by kernel_rfl) trivial ?_
  refine GoO.regionEnd ?_
  refine GoO.ite' c3_5e (by kernel_rfl) (fun h11 => ?_) (fun h11 => ?_)
  · refine GoO.seq' c3_6e ?_
    refine GoO.region' (is := [0]) c3_7e (by kernel_rfl) ?_
    refine GoO.exec (is := [0]) (hs := [.p]) (rest := []) (ks := [6]) (env' := [(6, .bool false)]) (H' := [⟨41, b_9, [.int .i64 c_5.Kind, .int .u64 c_5.Index, .int .u64 c_5.Term, .int .i64 c_5.What, .string (bs c_5.Data), .slice A_6 c_5.L.length c_7, .int .u64 c_5.Snap.Index, .int .u64 c_5.Snap.Term, .int .u64 c_5.Snap.Config, .string (bs c_5.Snap.Data)]⟩, ⟨40, b_8, [.int .u64 s_1.Index, .int .u64 s_1.Term, .int .u64 s_1.Config, .string (bs s_1.Data)]⟩]) (ps := []) (by kernel_rfl) trivial ?_
    refine GoO.regionEnd ?_
    exact GoO.ret' (h := c3_8e) (hs := []) (ps := []) (hk := []) (bk := []) Try.func3 () (by kernel_rfl) trivial (by kernel_rfl) (by kernel_rfl)
  · refine GoO.skip' c3_9e ?_
    refine GoO.seq' c3_10e ?_
    refine GoO.seq' c3_11e ?_
    refine GoO.region' (is := [0, 1, 2, 3, 4]) c3_12e (by kernel_rfl) ?_
    refine GoO.exec (is := [0, 1]) (hs := [.p, .b 0]) (rest := [2, 3, 4]) (ks := [1, 3, 5, 25, 26]) (env' := [(1, .slice A_3 l_2.length c_4), (3, .pointer (some ⟨b_8, 0, none⟩)), (5, .pointer (some ⟨b_9, 0, none⟩)), (25, .slice A_3 l_2.length c_4), (26, .agg ⟨[.int .i64 c_5.Kind, .int .u64 c_5.Index, .int .u64 c_5.Term, .int .i64 c_5.What, .string (bs c_5.Data), .slice A_6 c_5.L.length c_7, .int .u64 c_5.Snap.Index, .int .u64 c_5.Snap.Term, .int .u64 c_5.Snap.Config, .string (bs c_5.Snap.Data)]⟩)]) (H' := [⟨41, b_9, [.int .i64 c_5.Kind, .int .u64 c_5.Index, .int .u64 c_5.Term, .int .i64 c_5.What, .string (bs c_5.Data), .slice A_6 c_5.L.length c_7, .int .u64 c_5.Snap.Index, .int .u64 c_5.Snap.Term, .int .u64 c_5.Snap.Config, .string (bs c_5.Snap.Data)]⟩, ⟨40, b_8, [.int .u64 s_1.Index, .int .u64 s_1.Term, .int .u64 s_1.Config, .string (bs s_1.Data)]⟩]) (ps := [b_9 = b_9]) (by kernel_rfl) (And.intro rfl trivial) ?_
    refine OpTo.go (GoO.lit (e := 27) (K := kT_tontinelaw07_Call) rfl (by kernel_rfl) (by kernel_rfl) (cs := [.int .i64 c_5.Kind, .int .u64 c_5.Index, .int .u64 c_5.Term, .int .i64 c_5.What, .string (bs c_5.Data), .slice A_6 c_5.L.length c_7, .int .u64 c_5.Snap.Index, .int .u64 c_5.Snap.Term, .int .u64 c_5.Snap.Config, .string (bs c_5.Snap.Data)]) (by kernel_rfl) [(⟨c_5.Kind, c_5.Index, c_5.Term, c_5.What, c_5.Data, c_5.L, (⟨c_5.Snap.Index, c_5.Snap.Term, c_5.Snap.Config, c_5.Snap.Data⟩ : T_api_Snapshot)⟩ : T_tontinelaw07_Call)] (by kernel_rfl) (by kernel_rfl) (fun w S hB => ⟨[.int .i64 c_5.Kind, .int .u64 c_5.Index, .int .u64 c_5.Term, .int .i64 c_5.What, .string (bs c_5.Data), .slice A_6 c_5.L.length c_7, .int .u64 c_5.Snap.Index, .int .u64 c_5.Snap.Term, .int .u64 c_5.Snap.Config, .string (bs c_5.Snap.Data)], _, rfl, ⟨A_6, c_7, rfl, hB _ (List.mem_of_getElem? (i := 1) rfl)⟩, rfl⟩) 42 _ (fun _ _ => rfl) (fun A_12 c_13 => ?_))
    refine GoO.view (j := 0) rfl ?_
    refine OpTo.go (GoO.call rfl (by kernel_rfl) (by kernel_rfl) (tontinelaw07_light_ok n l_2 [(⟨c_5.Kind, c_5.Index, c_5.Term, c_5.What, c_5.Data, c_5.L, (⟨c_5.Snap.Index, c_5.Snap.Term, c_5.Snap.Config, c_5.Snap.Data⟩ : T_api_Snapshot)⟩ : T_tontinelaw07_Call)] A_3 c_4 A_12 c_13) [[0, 42]] [] [] [(0, 1), (0, 3)] (hks := [0, 1]) (bks := [0, 1, 2]) (by kernel_rfl) (by kernel_rfl) (by kernel_rfl) (.inr (fun _ _ => by simp [tontinelaw07_light.R])) rfl rfl (by kernel_rfl) (by kernel_rfl) _ (fun _ _ => rfl) _ _ (fun _ _ => rfl) (fun _ _ => rfl) (fun _ _ => by kernel_rfl) (fun _ _ => by kernel_rfl) (fun r_14 x_80 => ?_))
    refine GoO.shape (env' := [(1, .slice A_3 l_2.length c_4), (3, .pointer (some ⟨b_8, 0, none⟩)), (5, .pointer (some ⟨b_9, 0, none⟩)), (25, .slice A_3 l_2.length c_4), (26, .agg ⟨[.int .i64 c_5.Kind, .int .u64 c_5.Index, .int .u64 c_5.Term, .int .i64 c_5.What, .string (bs c_5.Data), .slice A_6 c_5.L.length c_7, .int .u64 c_5.Snap.Index, .int .u64 c_5.Snap.Term, .int .u64 c_5.Snap.Config, .string (bs c_5.Snap.Data)]⟩), (27, .slice A_12 [(⟨c_5.Kind, c_5.Index, c_5.Term, c_5.What, c_5.Data, c_5.L, (⟨c_5.Snap.Index, c_5.Snap.Term, c_5.Snap.Config, c_5.Snap.Data⟩ : T_api_Snapshot)⟩ : T_tontinelaw07_Call)].length c_13), (28, .bool r_14)]) (H' := [⟨41, b_9, [.int .i64 c_5.Kind, .int .u64 c_5.Index, .int .u64 c_5.Term, .int .i64 c_5.What, .string (bs c_5.Data), .slice A_6 c_5.L.length c_7, .int .u64 c_5.Snap.Index, .int .u64 c_5.Snap.Term, .int .u64 c_5.Snap.Config, .string (bs c_5.Snap.Data)]⟩, ⟨40, b_8, [.int .u64 s_1.Index, .int .u64 s_1.Term, .int .u64 s_1.Config, .string (bs s_1.Data)]⟩]) (B' := [Ow 42 kT_tontinelaw07_Call A_12 c_13 [(⟨c_5.Kind, c_5.Index, c_5.Term, c_5.What, c_5.Data, c_5.L, (⟨c_5.Snap.Index, c_5.Snap.Term, c_5.Snap.Config, c_5.Snap.Data⟩ : T_api_Snapshot)⟩ : T_tontinelaw07_Call)], Rd 0 kT_api_Entry A_3 c_4 l_2, Rd 0 kT_api_Entry A_6 c_7 c_5.L]) (ks := [1, 3, 5, 25, 26, 27, 28]) (by kernel_rfl) (by kernel_rfl) (by kernel_rfl) ?_
    refine GoO.exec (is := [4]) (hs := [.p]) (rest := []) (ks := [1, 3, 5, 29]) (env' := [(1, .slice A_3 l_2.length c_4), (3, .pointer (some ⟨b_8, 0, none⟩)), (5, .pointer (some ⟨b_9, 0, none⟩)), (29, .bool (!r_14))]) (H' := [⟨41, b_9, [.int .i64 c_5.Kind, .int .u64 c_5.Index, .int .u64 c_5.Term, .int .i64 c_5.What, .string (bs c_5.Data), .slice A_6 c_5.L.length c_7, .int .u64 c_5.Snap.Index, .int .u64 c_5.Snap.Term, .int .u64 c_5.Snap.Config, .string (bs c_5.Snap.Data)]⟩, ⟨40, b_8, [.int .u64 s_1.Index, .int .u64 s_1.Term, .int .u64 s_1.Config, .string (bs s_1.Data)]⟩]) (ps := []) (by kernel_rfl) trivial ?_
    refine GoO.regionEnd ?_
    refine GoO.ite' c3_13e (by kernel_rfl) (fun h15 => ?_) (fun h15 => ?_)
    · refine GoO.seq' c3_14e ?_
      refine GoO.region' (is := [0]) c3_15e (by kernel_rfl) ?_
      refine GoO.exec (is := [0]) (hs := [.p]) (rest := []) (ks := [6]) (env' := [(6, .bool true)]) (H' := [⟨41, b_9, [.int .i64 c_5.Kind, .int .u64 c_5.Index, .int .u64 c_5.Term, .int .i64 c_5.What, .string (bs c_5.Data), .slice A_6 c_5.L.length c_7, .int .u64 c_5.Snap.Index, .int .u64 c_5.Snap.Term, .int .u64 c_5.Snap.Config, .string (bs c_5.Snap.Data)]⟩, ⟨40, b_8, [.int .u64 s_1.Index, .int .u64 s_1.Term, .int .u64 s_1.Config, .string (bs s_1.Data)]⟩]) (ps := []) (by kernel_rfl) trivial ?_
      refine GoO.regionEnd ?_
      exact GoO.ret' (h := c3_16e) (hs := []) (ps := []) (hk := []) (bk := []) Try.func3 () (by kernel_rfl) trivial (by kernel_rfl) (by kernel_rfl)
    · refine GoO.skip' c3_17e ?_
      refine GoO.seq' c3_18e ?_
      refine GoO.region' (is := [0, 1, 2, 3, 4, 5, 6, 7]) c3_19e (by kernel_rfl) ?_
      refine GoO.exec (is := [0, 1]) (hs := [.b 1, .p]) (rest := [2, 3, 4, 5, 6, 7]) (ks := [3, 5, 31, 32]) (env' := [(3, .pointer (some ⟨b_8, 0, none⟩)), (5, .pointer (some ⟨b_9, 0, none⟩)), (31, .agg ⟨[.int .u64 s_1.Index, .int .u64 s_1.Term, .int .u64 s_1.Config, .string (bs s_1.Data)]⟩), (32, .slice A_3 l_2.length c_4)]) (H' := [⟨41, b_9, [.int .i64 c_5.Kind, .int .u64 c_5.Index, .int .u64 c_5.Term, .int .i64 c_5.What, .string (bs c_5.Data), .slice A_6 c_5.L.length c_7, .int .u64 c_5.Snap.Index, .int .u64 c_5.Snap.Term, .int .u64 c_5.Snap.Config, .string (bs c_5.Snap.Data)]⟩, ⟨40, b_8, [.int .u64 s_1.Index, .int .u64 s_1.Term, .int .u64 s_1.Config, .string (bs s_1.Data)]⟩]) (ps := [b_8 = b_8]) (by kernel_rfl) (And.intro rfl trivial) ?_
      refine OpTo.go (GoO.call rfl (by kernel_rfl) (by kernel_rfl) (rlog_New_ok n s_1 l_2 A_3 c_4) [[0]] [(43, 1), (44, 2)] [] [(0, 1)] (hks := [0, 1]) (bks := [0, 1, 2]) (by kernel_rfl) (by kernel_rfl) (by kernel_rfl) (.inl rfl) rfl rfl (by kernel_rfl) (by kernel_rfl) _ (fun _ _ => rfl) _ _ (fun _ _ => rfl) (fun _ _ => rfl) (fun rr _ => by dsimp only [rlog_New.R]; cases rr.1 <;> kernel_rfl) (fun rr _ => by dsimp only [rlog_New.R]; cases rr.1 <;> kernel_rfl) (fun r_16 x_79 => ?_))
      obtain ⟨c_17, A_18, c_19⟩ := x_79
      rcases r_16 with ⟨(_ | o_20), r_16_q1⟩
      · refine GoO.shape (env' := [(3, .pointer (some ⟨b_8, 0, none⟩)), (5, .pointer (some ⟨b_9, 0, none⟩)), (31, .agg ⟨[.int .u64 s_1.Index, .int .u64 s_1.Term, .int .u64 s_1.Config, .string (bs s_1.Data)]⟩), (32, .slice A_3 l_2.length c_4), (33, .tuple ⟨[.pointer none, .int .i64 ((none, r_16_q1) : Option T_rlog_Log × Int).2]⟩)]) (H' := [⟨41, b_9, [.int .i64 c_5.Kind, .int .u64 c_5.Index, .int .u64 c_5.Term, .int .i64 c_5.What, .string (bs c_5.Data), .slice A_6 c_5.L.length c_7, .int .u64 c_5.Snap.Index, .int .u64 c_5.Snap.Term, .int .u64 c_5.Snap.Config, .string (bs c_5.Snap.Data)]⟩, ⟨40, b_8, [.int .u64 s_1.Index, .int .u64 s_1.Term, .int .u64 s_1.Config, .string (bs s_1.Data)]⟩]) (B' := [Ow 42 kT_tontinelaw07_Call A_12 c_13 [(⟨c_5.Kind, c_5.Index, c_5.Term, c_5.What, c_5.Data, c_5.L, (⟨c_5.Snap.Index, c_5.Snap.Term, c_5.Snap.Config, c_5.Snap.Data⟩ : T_api_Snapshot)⟩ : T_tontinelaw07_Call)], Rd 0 kT_api_Entry A_3 c_4 l_2, Rd 0 kT_api_Entry A_6 c_7 c_5.L]) (ks := [3, 5, 31, 32, 33]) (by kernel_rfl) (by kernel_rfl) (by kernel_rfl) ?_
        refine GoO.exec (is := [3, 4, 5, 6, 7]) (hs := [.p, .p, .p, .p, .p]) (rest := []) (ks := [3, 5, 7, 8]) (env' := [(3, .pointer (some ⟨b_8, 0, none⟩)), (5, .pointer (some ⟨b_9, 0, none⟩)), (7, .pointer none), (8, .int .i64 ((none, r_16_q1) : Option T_rlog_Log × Int).2)]) (H' := [⟨41, b_9, [.int .i64 c_5.Kind, .int .u64 c_5.Index, .int .u64 c_5.Term, .int .i64 c_5.What, .string (bs c_5.Data), .slice A_6 c_5.L.length c_7, .int .u64 c_5.Snap.Index, .int .u64 c_5.Snap.Term, .int .u64 c_5.Snap.Config, .string (bs c_5.Snap.Data)]⟩, ⟨40, b_8, [.int .u64 s_1.Index, .int .u64 s_1.Term, .int .u64 s_1.Config, .string (bs s_1.Data)]⟩]) (ps := []) (by kernel_rfl) trivial ?_
        refine GoO.regionEnd ?_
        refine GoO.seq' c3_20e ?_
        refine GoO.seq' c3_21e ?_
        refine GoO.region' (is := [0, 1]) c3_22e (by kernel_rfl) ?_
        refine GoO.exec (is := [0, 1]) (hs := [.p, .p]) (rest := []) (ks := [3, 5, 7, 37]) (env' := [(3, .pointer (some ⟨b_8, 0, none⟩)), (5, .pointer (some ⟨b_9, 0, none⟩)), (7, .pointer none), (37, .bool (((none, r_16_q1) : Option T_rlog_Log × Int).2 != 0))]) (H' := [⟨41, b_9, [.int .i64 c_5.Kind, .int .u64 c_5.Index, .int .u64 c_5.Term, .int .i64 c_5.What, .string (bs c_5.Data), .slice A_6 c_5.L.length c_7, .int .u64 c_5.Snap.Index, .int .u64 c_5.Snap.Term, .int .u64 c_5.Snap.Config, .string (bs c_5.Snap.Data)]⟩, ⟨40, b_8, [.int .u64 s_1.Index, .int .u64 s_1.Term, .int .u64 s_1.Config, .string (bs s_1.Data)]⟩]) (ps := []) (by kernel_rfl) trivial ?_
        refine GoO.regionEnd ?_
        refine GoO.ite' c3_23e (by kernel_rfl) (fun h21 => ?_) (fun h21 => ?_)
        · refine GoO.seq' c3_24e ?_
          refine GoO.region' (is := [0]) c3_25e (by kernel_rfl) ?_
          refine GoO.exec (is := [0]) (hs := [.p]) (rest := []) (ks := [6]) (env' := [(6, .bool true)]) (H' := [⟨41, b_9, [.int .i64 c_5.Kind, .int .u64 c_5.Index, .int .u64 c_5.Term, .int .i64 c_5.What, .string (bs c_5.Data), .slice A_6 c_5.L.length c_7, .int .u64 c_5.Snap.Index, .int .u64 c_5.Snap.Term, .int .u64 c_5.Snap.Config, .string (bs c_5.Snap.Data)]⟩, ⟨40, b_8, [.int .u64 s_1.Index, .int .u64 s_1.Term, .int .u64 s_1.Config, .string (bs s_1.Data)]⟩]) (ps := []) (by kernel_rfl) trivial ?_
          refine GoO.regionEnd ?_
          exact GoO.ret' (h := c3_26e) (hs := []) (ps := []) (hk := []) (bk := []) Try.func3 () (by kernel_rfl) trivial (by kernel_rfl) (by kernel_rfl)
        · refine GoO.skip' c3_27e ?_
          refine GoO.seq' c3_28e ?_
          refine GoO.region' (is := [0, 1, 2, 3, 4, 5]) c3_29e (by kernel_rfl) ?_
          refine GoO.exec (is := [0, 1, 2, 3]) (hs := [.p, .p, .b 1, .p]) (rest := [4, 5]) (ks := [3, 5, 7, 38, 41]) (env' := [(3, .pointer (some ⟨b_8, 0, none⟩)), (5, .pointer (some ⟨b_9, 0, none⟩)), (7, .pointer none), (38, .pointer none), (41, .int .u64 (wu64 (s_1.Index + 1)))]) (H' := [⟨41, b_9, [.int .i64 c_5.Kind, .int .u64 c_5.Index, .int .u64 c_5.Term, .int .i64 c_5.What, .string (bs c_5.Data), .slice A_6 c_5.L.length c_7, .int .u64 c_5.Snap.Index, .int .u64 c_5.Snap.Term, .int .u64 c_5.Snap.Config, .string (bs c_5.Snap.Data)]⟩, ⟨40, b_8, [.int .u64 s_1.Index, .int .u64 s_1.Term, .int .u64 s_1.Config, .string (bs s_1.Data)]⟩]) (ps := [b_8 = b_8]) (by kernel_rfl) (And.intro rfl trivial) ?_
          exact GoO.stop
      · refine GoO.shape (env' := [(3, .pointer (some ⟨b_8, 0, none⟩)), (5, .pointer (some ⟨b_9, 0, none⟩)), (31, .agg ⟨[.int .u64 s_1.Index, .int .u64 s_1.Term, .int .u64 s_1.Config, .string (bs s_1.Data)]⟩), (32, .slice A_3 l_2.length c_4), (33, .tuple ⟨[.pointer (some ⟨c_17, 0, none⟩), .int .i64 ((some o_20, r_16_q1) : Option T_rlog_Log × Int).2]⟩)]) (H' := [⟨43, c_17, [.int .u64 o_20.snap.Index, .int .u64 o_20.snap.Term, .int .u64 o_20.snap.Config, .string (bs o_20.snap.Data), .slice A_18 o_20.entries.length c_19]⟩, ⟨41, b_9, [.int .i64 c_5.Kind, .int .u64 c_5.Index, .int .u64 c_5.Term, .int .i64 c_5.What, .string (bs c_5.Data), .slice A_6 c_5.L.length c_7, .int .u64 c_5.Snap.Index, .int .u64 c_5.Snap.Term, .int .u64 c_5.Snap.Config, .string (bs c_5.Snap.Data)]⟩, ⟨40, b_8, [.int .u64 s_1.Index, .int .u64 s_1.Term, .int .u64 s_1.Config, .string (bs s_1.Data)]⟩]) (B' := [Ow 44 kT_api_Entry A_18 c_19 o_20.entries, Ow 42 kT_tontinelaw07_Call A_12 c_13 [(⟨c_5.Kind, c_5.Index, c_5.Term, c_5.What, c_5.Data, c_5.L, (⟨c_5.Snap.Index, c_5.Snap.Term, c_5.Snap.Config, c_5.Snap.Data⟩ : T_api_Snapshot)⟩ : T_tontinelaw07_Call)], Rd 0 kT_api_Entry A_3 c_4 l_2, Rd 0 kT_api_Entry A_6 c_7 c_5.L]) (ks := [3, 5, 31, 32, 33]) (by kernel_rfl) (by kernel_rfl) (by kernel_rfl) ?_
        refine GoO.exec (is := [3, 4, 5, 6, 7]) (hs := [.p, .p, .p, .p, .p]) (rest := []) (ks := [3, 5, 7, 8]) (env' := [(3, .pointer (some ⟨b_8, 0, none⟩)), (5, .pointer (some ⟨b_9, 0, none⟩)), (7, .pointer (some ⟨c_17, 0, none⟩)), (8, .int .i64 ((some o_20, r_16_q1) : Option T_rlog_Log × Int).2)]) (H' := [⟨43, c_17, [.int .u64 o_20.snap.Index, .int .u64 o_20.snap.Term, .int .u64 o_20.snap.Config, .string (bs o_20.snap.Data), .slice A_18 o_20.entries.length c_19]⟩, ⟨41, b_9, [.int .i64 c_5.Kind, .int .u64 c_5.Index, .int .u64 c_5.Term, .int .i64 c_5.What, .string (bs c_5.Data), .slice A_6 c_5.L.length c_7, .int .u64 c_5.Snap.Index, .int .u64 c_5.Snap.Term, .int .u64 c_5.Snap.Config, .string (bs c_5.Snap.Data)]⟩, ⟨40, b_8, [.int .u64 s_1.Index, .int .u64 s_1.Term, .int .u64 s_1.Config, .string (bs s_1.Data)]⟩]) (ps := []) (by kernel_rfl) trivial ?_
        refine GoO.regionEnd ?_
        refine GoO.seq' c3_20e ?_
        refine GoO.seq' c3_21e ?_
        refine GoO.region' (is := [0, 1]) c3_22e (by kernel_rfl) ?_
        refine GoO.exec (is := [0, 1]) (hs := [.p, .p]) (rest := []) (ks := [3, 5, 7, 37]) (env' := [(3, .pointer (some ⟨b_8, 0, none⟩)), (5, .pointer (some ⟨b_9, 0, none⟩)), (7, .pointer (some ⟨c_17, 0, none⟩)), (37, .bool (((some o_20, r_16_q1) : Option T_rlog_Log × Int).2 != 0))]) (H' := [⟨43, c_17, [.int .u64 o_20.snap.Index, .int .u64 o_20.snap.Term, .int .u64 o_20.snap.Config, .string (bs o_20.snap.Data), .slice A_18 o_20.entries.length c_19]⟩, ⟨41, b_9, [.int .i64 c_5.Kind, .int .u64 c_5.Index, .int .u64 c_5.Term, .int .i64 c_5.What, .string (bs c_5.Data), .slice A_6 c_5.L.length c_7, .int .u64 c_5.Snap.Index, .int .u64 c_5.Snap.Term, .int .u64 c_5.Snap.Config, .string (bs c_5.Snap.Data)]⟩, ⟨40, b_8, [.int .u64 s_1.Index, .int .u64 s_1.Term, .int .u64 s_1.Config, .string (bs s_1.Data)]⟩]) (ps := []) (by kernel_rfl) trivial ?_
        refine GoO.regionEnd ?_
        refine GoO.ite' c3_23e (by kernel_rfl) (fun h22 => ?_) (fun h22 => ?_)
        · refine GoO.seq' c3_24e ?_
          refine GoO.region' (is := [0]) c3_25e (by kernel_rfl) ?_
          refine GoO.exec (is := [0]) (hs := [.p]) (rest := []) (ks := [6]) (env' := [(6, .bool true)]) (H' := [⟨43, c_17, [.int .u64 o_20.snap.Index, .int .u64 o_20.snap.Term, .int .u64 o_20.snap.Config, .string (bs o_20.snap.Data), .slice A_18 o_20.entries.length c_19]⟩, ⟨41, b_9, [.int .i64 c_5.Kind, .int .u64 c_5.Index, .int .u64 c_5.Term, .int .i64 c_5.What, .string (bs c_5.Data), .slice A_6 c_5.L.length c_7, .int .u64 c_5.Snap.Index, .int .u64 c_5.Snap.Term, .int .u64 c_5.Snap.Config, .string (bs c_5.Snap.Data)]⟩, ⟨40, b_8, [.int .u64 s_1.Index, .int .u64 s_1.Term, .int .u64 s_1.Config, .string (bs s_1.Data)]⟩]) (ps := []) (by kernel_rfl) trivial ?_
          refine GoO.regionEnd ?_
          exact GoO.ret' (h := c3_26e) (hs := []) (ps := []) (hk := []) (bk := []) Try.func3 () (by kernel_rfl) trivial (by kernel_rfl) (by kernel_rfl)
        · refine GoO.skip' c3_27e ?_
          refine GoO.seq' c3_28e ?_
          refine GoO.region' (is := [0, 1, 2, 3, 4, 5]) c3_29e (by kernel_rfl) ?_
          refine GoO.exec (is := [0, 1, 2, 3]) (hs := [.p, .p, .b 2, .p]) (rest := [4, 5]) (ks := [3, 5, 7, 38, 41]) (env' := [(3, .pointer (some ⟨b_8, 0, none⟩)), (5, .pointer (some ⟨b_9, 0, none⟩)), (7, .pointer (some ⟨c_17, 0, none⟩)), (38, .pointer (some ⟨c_17, 0, none⟩)), (41, .int .u64 (wu64 (s_1.Index + 1)))]) (H' := [⟨43, c_17, [.int .u64 o_20.snap.Index, .int .u64 o_20.snap.Term, .int .u64 o_20.snap.Config, .string (bs o_20.snap.Data), .slice A_18 o_20.entries.length c_19]⟩, ⟨41, b_9, [.int .i64 c_5.Kind, .int .u64 c_5.Index, .int .u64 c_5.Term, .int .i64 c_5.What, .string (bs c_5.Data), .slice A_6 c_5.L.length c_7, .int .u64 c_5.Snap.Index, .int .u64 c_5.Snap.Term, .int .u64 c_5.Snap.Config, .string (bs c_5.Snap.Data)]⟩, ⟨40, b_8, [.int .u64 s_1.Index, .int .u64 s_1.Term, .int .u64 s_1.Config, .string (bs s_1.Data)]⟩]) (ps := [b_8 = b_8]) (by kernel_rfl) (And.intro rfl trivial) ?_
          refine OpTo.go (GoO.call rfl (by kernel_rfl) (by kernel_rfl) (rlog_Log_Get_ok n (⟨(⟨o_20.snap.Index, o_20.snap.Term, o_20.snap.Config, o_20.snap.Data⟩ : T_api_Snapshot), o_20.entries⟩ : T_rlog_Log) (wu64 (s_1.Index + 1)) 2000 c_17 A_18 c_19) [[0], [43], [44]] [(45, 3)] [(1, 0)] [(2, 0)] (hks := [0, 1, 2]) (bks := [0, 1, 2, 3]) (by kernel_rfl) (by kernel_rfl) (by kernel_rfl) (.inl rfl) rfl rfl (by kernel_rfl) (by kernel_rfl) _ (fun _ _ => rfl) _ _ (fun _ _ => rfl) (fun _ _ => rfl) (fun _ _ => by kernel_rfl) (fun _ _ => by kernel_rfl) (fun r_23 x_78 => ?_))
          obtain ⟨A_24, c_25⟩ := x_78
          refine GoO.shape (env' := [(3, .pointer (some ⟨b_8, 0, none⟩)), (5, .pointer (some ⟨b_9, 0, none⟩)), (7, .pointer (some ⟨c_17, 0, none⟩)), (38, .pointer (some ⟨c_17, 0, none⟩)), (41, .int .u64 (wu64 (s_1.Index + 1))), (42, .slice A_24 r_23.length c_25)]) (H' := [⟨43, c_17, [.int .u64 o_20.snap.Index, .int .u64 o_20.snap.Term, .int .u64 o_20.snap.Config, .string (bs o_20.snap.Data), .slice A_18 o_20.entries.length c_19]⟩, ⟨41, b_9, [.int .i64 c_5.Kind, .int .u64 c_5.Index, .int .u64 c_5.Term, .int .i64 c_5.What, .string (bs c_5.Data), .slice A_6 c_5.L.length c_7, .int .u64 c_5.Snap.Index, .int .u64 c_5.Snap.Term, .int .u64 c_5.Snap.Config, .string (bs c_5.Snap.Data)]⟩, ⟨40, b_8, [.int .u64 s_1.Index, .int .u64 s_1.Term, .int .u64 s_1.Config, .string (bs s_1.Data)]⟩]) (B' := [Ow 45 kT_api_Entry A_24 c_25 r_23, Ow 44 kT_api_Entry A_18 c_19 o_20.entries, Ow 42 kT_tontinelaw07_Call A_12 c_13 [(⟨c_5.Kind, c_5.Index, c_5.Term, c_5.What, c_5.Data, c_5.L, (⟨c_5.Snap.Index, c_5.Snap.Term, c_5.Snap.Config, c_5.Snap.Data⟩ : T_api_Snapshot)⟩ : T_tontinelaw07_Call)], Rd 0 kT_api_Entry A_3 c_4 l_2, Rd 0 kT_api_Entry A_6 c_7 c_5.L]) (ks := [3, 5, 7, 38, 41, 42]) (by kernel_rfl) (by kernel_rfl) (by kernel_rfl) ?_
          refine GoO.exec (is := [5]) (hs := [.p]) (rest := []) (ks := [3, 5, 7, 9]) (env' := [(3, .pointer (some ⟨b_8, 0, none⟩)), (5, .pointer (some ⟨b_9, 0, none⟩)), (7, .pointer (some ⟨c_17, 0, none⟩)), (9, .slice A_24 r_23.length c_25)]) (H' := [⟨43, c_17, [.int .u64 o_20.snap.Index, .int .u64 o_20.snap.Term, .int .u64 o_20.snap.Config, .string (bs o_20.snap.Data), .slice A_18 o_20.entries.length c_19]⟩, ⟨41, b_9, [.int .i64 c_5.Kind, .int .u64 c_5.Index, .int .u64 c_5.Term, .int .i64 c_5.What, .string (bs c_5.Data), .slice A_6 c_5.L.length c_7, .int .u64 c_5.Snap.Index, .int .u64 c_5.Snap.Term, .int .u64 c_5.Snap.Config, .string (bs c_5.Snap.Data)]⟩, ⟨40, b_8, [.int .u64 s_1.Index, .int .u64 s_1.Term, .int .u64 s_1.Config, .string (bs s_1.Data)]⟩]) (ps := []) (by kernel_rfl) trivial ?_
          refine GoO.regionEnd ?_
          refine GoO.seq' c3_30e ?_
          refine GoO.region' (is := [0, 1, 2, 3, 4, 5, 6, 7, 8, 9, 10, 11, 12]) c3_31e (by kernel_rfl) ?_
          refine GoO.exec (is := [0, 1, 2, 3, 4, 5, 6]) (hs := [.p, .p, .b 1, .p, .b 1, .p, .b 1]) (rest := [7, 8, 9, 10, 11, 12]) (ks := [3, 5, 7, 9, 44, 46, 48, 50]) (env' := [(3, .pointer (some ⟨b_8, 0, none⟩)), (5, .pointer (some ⟨b_9, 0, none⟩)), (7, .pointer (some ⟨c_17, 0, none⟩)), (9, .slice A_24 r_23.length c_25), (44, .pointer (some ⟨c_17, 0, none⟩)), (46, .int .u64 c_5.Index), (48, .int .u64 c_5.Term), (50, .slice A_6 c_5.L.length c_7)]) (H' := [⟨43, c_17, [.int .u64 o_20.snap.Index, .int .u64 o_20.snap.Term, .int .u64 o_20.snap.Config, .string (bs o_20.snap.Data), .slice A_18 o_20.entries.length c_19]⟩, ⟨41, b_9, [.int .i64 c_5.Kind, .int .u64 c_5.Index, .int .u64 c_5.Term, .int .i64 c_5.What, .string (bs c_5.Data), .slice A_6 c_5.L.length c_7, .int .u64 c_5.Snap.Index, .int .u64 c_5.Snap.Term, .int .u64 c_5.Snap.Config, .string (bs c_5.Snap.Data)]⟩, ⟨40, b_8, [.int .u64 s_1.Index, .int .u64 s_1.Term, .int .u64 s_1.Config, .string (bs s_1.Data)]⟩]) (ps := [b_9 = b_9, b_9 = b_9, b_9 = b_9]) (by kernel_rfl) (And.intro rfl (And.intro rfl (And.intro rfl trivial))) ?_
          refine OpTo.go (GoO.call rfl (by kernel_rfl) (by kernel_rfl) (rlog_Log_Merge_ok n (⟨(⟨o_20.snap.Index, o_20.snap.Term, o_20.snap.Config, o_20.snap.Data⟩ : T_api_Snapshot), o_20.entries⟩ : T_rlog_Log) c_5.Index c_5.Term c_5.L c_17 A_18 c_19 A_6 c_7) [[0], [43], [44]] [(43, 1), (44, 2), (46, 3)] [(1, 0)] [(2, 1), (0, 4)] (hks := [1, 2]) (bks := [0, 2, 3, 4]) (by kernel_rfl) (by kernel_rfl) (by kernel_rfl) (.inl rfl) rfl rfl (by kernel_rfl) (by kernel_rfl) _ (fun _ _ => rfl) _ _ (fun _ _ => rfl) (fun _ _ => rfl) (fun _ _ => by kernel_rfl) (fun _ _ => by kernel_rfl) (fun r_26 x_77 => ?_))
          obtain ⟨A_27, c_28, A_29, c_30⟩ := x_77
          refine GoO.shape (env' := [(3, .pointer (some ⟨b_8, 0, none⟩)), (5, .pointer (some ⟨b_9, 0, none⟩)), (7, .pointer (some ⟨c_17, 0, none⟩)), (9, .slice A_24 r_23.length c_25), (44, .pointer (some ⟨c_17, 0, none⟩)), (46, .int .u64 c_5.Index), (48, .int .u64 c_5.Term), (50, .slice A_6 c_5.L.length c_7), (51, .tuple ⟨[.slice A_27 r_26.1.length c_28, .bool r_26.2.1]⟩)]) (H' := [⟨43, c_17, [.int .u64 r_26.2.2.snap.Index, .int .u64 r_26.2.2.snap.Term, .int .u64 r_26.2.2.snap.Config, .string (bs r_26.2.2.snap.Data), .slice A_29 r_26.2.2.entries.length c_30]⟩, ⟨41, b_9, [.int .i64 c_5.Kind, .int .u64 c_5.Index, .int .u64 c_5.Term, .int .i64 c_5.What, .string (bs c_5.Data), .slice A_6 c_5.L.length c_7, .int .u64 c_5.Snap.Index, .int .u64 c_5.Snap.Term, .int .u64 c_5.Snap.Config, .string (bs c_5.Snap.Data)]⟩, ⟨40, b_8, [.int .u64 s_1.Index, .int .u64 s_1.Term, .int .u64 s_1.Config, .string (bs s_1.Data)]⟩]) (B' := [Ow 46 kT_api_Entry A_27 c_28 r_26.1, Ow 44 kT_api_Entry A_29 c_30 r_26.2.2.entries, Ow 45 kT_api_Entry A_24 c_25 r_23, Ow 42 kT_tontinelaw07_Call A_12 c_13 [(⟨c_5.Kind, c_5.Index, c_5.Term, c_5.What, c_5.Data, c_5.L, (⟨c_5.Snap.Index, c_5.Snap.Term, c_5.Snap.Config, c_5.Snap.Data⟩ : T_api_Snapshot)⟩ : T_tontinelaw07_Call)], Rd 0 kT_api_Entry A_3 c_4 l_2, Rd 0 kT_api_Entry A_6 c_7 c_5.L]) (ks := [3, 5, 7, 9, 44, 46, 48, 50, 51]) (by kernel_rfl) (by kernel_rfl) (by kernel_rfl) ?_
          refine GoO.exec (is := [8, 9, 10, 11, 12]) (hs := [.p, .p, .p, .p, .p]) (rest := []) (ks := [3, 5, 7, 9, 10, 11]) (env' := [(3, .pointer (some ⟨b_8, 0, none⟩)), (5, .pointer (some ⟨b_9, 0, none⟩)), (7, .pointer (some ⟨c_17, 0, none⟩)), (9, .slice A_24 r_23.length c_25), (10, .slice A_27 r_26.1.length c_28), (11, .bool r_26.2.1)]) (H' := [⟨43, c_17, [.int .u64 r_26.2.2.snap.Index, .int .u64 r_26.2.2.snap.Term, .int .u64 r_26.2.2.snap.Config, .string (bs r_26.2.2.snap.Data), .slice A_29 r_26.2.2.entries.length c_30]⟩, ⟨41, b_9, [.int .i64 c_5.Kind, .int .u64 c_5.Index, .int .u64 c_5.Term, .int .i64 c_5.What, .string (bs c_5.Data), .slice A_6 c_5.L.length c_7, .int .u64 c_5.Snap.Index, .int .u64 c_5.Snap.Term, .int .u64 c_5.Snap.Config, .string (bs c_5.Snap.Data)]⟩, ⟨40, b_8, [.int .u64 s_1.Index, .int .u64 s_1.Term, .int .u64 s_1.Config, .string (bs s_1.Data)]⟩]) (ps := []) (by kernel_rfl) trivial ?_
          refine GoO.regionEnd ?_
          refine GoO.seq' c3_32e ?_
          refine GoO.seq' c3_33e ?_
          refine GoO.region' (is := [0, 1]) c3_34e (by kernel_rfl) ?_
          refine GoO.exec (is := [0, 1]) (hs := [.p, .p]) (rest := []) (ks := [3, 5, 7, 9, 10, 55]) (env' := [(3, .pointer (some ⟨b_8, 0, none⟩)), (5, .pointer (some ⟨b_9, 0, none⟩)), (7, .pointer (some ⟨c_17, 0, none⟩)), (9, .slice A_24 r_23.length c_25), (10, .slice A_27 r_26.1.length c_28), (55, .bool (!r_26.2.1))]) (H' := [⟨43, c_17, [.int .u64 r_26.2.2.snap.Index, .int .u64 r_26.2.2.snap.Term, .int .u64 r_26.2.2.snap.Config, .string (bs r_26.2.2.snap.Data), .slice A_29 r_26.2.2.entries.length c_30]⟩, ⟨41, b_9, [.int .i64 c_5.Kind, .int .u64 c_5.Index, .int .u64 c_5.Term, .int .i64 c_5.What, .string (bs c_5.Data), .slice A_6 c_5.L.length c_7, .int .u64 c_5.Snap.Index, .int .u64 c_5.Snap.Term, .int .u64 c_5.Snap.Config, .string (bs c_5.Snap.Data)]⟩, ⟨40, b_8, [.int .u64 s_1.Index, .int .u64 s_1.Term, .int .u64 s_1.Config, .string (bs s_1.Data)]⟩]) (ps := []) (by kernel_rfl) trivial ?_
          refine GoO.regionEnd ?_
          refine GoO.ite' c3_35e (by kernel_rfl) (fun h31 => ?_) (fun h31 => ?_)
          · refine GoO.seq' c3_36e ?_
            refine GoO.region' (is := [0, 1, 2, 3, 4, 5, 6, 7, 8, 9, 10, 11, 12]) c3_37e (by kernel_rfl) ?_
            refine GoO.exec (is := [0, 1, 2, 3]) (hs := [.p, .p, .p, .p]) (rest := [4, 5, 6, 7, 8, 9, 10, 11, 12]) (ks := [3, 7, 9, 59]) (env' := [(3, .pointer (some ⟨b_8, 0, none⟩)), (7, .pointer (some ⟨c_17, 0, none⟩)), (9, .slice A_24 r_23.length c_25), (59, .bool ((r_26.1.length : Int) == 0))]) (H' := [⟨43, c_17, [.int .u64 r_26.2.2.snap.Index, .int .u64 r_26.2.2.snap.Term, .int .u64 r_26.2.2.snap.Config, .string (bs r_26.2.2.snap.Data), .slice A_29 r_26.2.2.entries.length c_30]⟩, ⟨41, b_9, [.int .i64 c_5.Kind, .int .u64 c_5.Index, .int .u64 c_5.Term, .int .i64 c_5.What, .string (bs c_5.Data), .slice A_6 c_5.L.length c_7, .int .u64 c_5.Snap.Index, .int .u64 c_5.Snap.Term, .int .u64 c_5.Snap.Config, .string (bs c_5.Snap.Data)]⟩, ⟨40, b_8, [.int .u64 s_1.Index, .int .u64 s_1.Term, .int .u64 s_1.Config, .string (bs s_1.Data)]⟩]) (ps := []) (by kernel_rfl) trivial ?_
            refine GoO.bsplit (t := 59) (by kernel_rfl) (fun h32 => ?_) (fun h32 => ?_)
            · refine GoO.exec (is := [4, 5, 6, 7, 8]) (hs := [.p, .p, .p, .b 2, .p]) (rest := [9, 10, 11, 12]) (ks := [59, 60, 61, 64]) (env' := [(59, .bool true), (60, .slice A_24 r_23.length c_25), (61, .pointer (some ⟨c_17, 0, none⟩)), (64, .int .u64 (wu64 (s_1.Index + 1)))]) (H' := [⟨43, c_17, [.int .u64 r_26.2.2.snap.Index, .int .u64 r_26.2.2.snap.Term, .int .u64 r_26.2.2.snap.Config, .string (bs r_26.2.2.snap.Data), .slice A_29 r_26.2.2.entries.length c_30]⟩, ⟨41, b_9, [.int .i64 c_5.Kind, .int .u64 c_5.Index, .int .u64 c_5.Term, .int .i64 c_5.What, .string (bs c_5.Data), .slice A_6 c_5.L.length c_7, .int .u64 c_5.Snap.Index, .int .u64 c_5.Snap.Term, .int .u64 c_5.Snap.Config, .string (bs c_5.Snap.Data)]⟩, ⟨40, b_8, [.int .u64 s_1.Index, .int .u64 s_1.Term, .int .u64 s_1.Config, .string (bs s_1.Data)]⟩]) (ps := [b_8 = b_8]) (by kernel_rfl) (And.intro rfl trivial) ?_
              refine OpTo.go (GoO.call rfl (by kernel_rfl) (by kernel_rfl) (rlog_Log_Get_ok n (⟨(⟨r_26.2.2.snap.Index, r_26.2.2.snap.Term, r_26.2.2.snap.Config, r_26.2.2.snap.Data⟩ : T_api_Snapshot), r_26.2.2.entries⟩ : T_rlog_Log) (wu64 (s_1.Index + 1)) 2000 c_17 A_29 c_30) [[0], [43], [44]] [(47, 3)] [(1, 0)] [(2, 1)] (hks := [0, 1, 2]) (bks := [0, 1, 2, 3, 4, 5]) (by kernel_rfl) (by kernel_rfl) (by kernel_rfl) (.inl rfl) rfl rfl (by kernel_rfl) (by kernel_rfl) _ (fun _ _ => rfl) _ _ (fun _ _ => rfl) (fun _ _ => rfl) (fun _ _ => by kernel_rfl) (fun _ _ => by kernel_rfl) (fun r_33 x_38 => ?_))
              obtain ⟨A_34, c_35⟩ := x_38
              refine GoO.shape (env' := [(59, .bool true), (60, .slice A_24 r_23.length c_25), (61, .pointer (some ⟨c_17, 0, none⟩)), (64, .int .u64 (wu64 (s_1.Index + 1))), (65, .slice A_34 r_33.length c_35)]) (H' := [⟨43, c_17, [.int .u64 r_26.2.2.snap.Index, .int .u64 r_26.2.2.snap.Term, .int .u64 r_26.2.2.snap.Config, .string (bs r_26.2.2.snap.Data), .slice A_29 r_26.2.2.entries.length c_30]⟩, ⟨41, b_9, [.int .i64 c_5.Kind, .int .u64 c_5.Index, .int .u64 c_5.Term, .int .i64 c_5.What, .string (bs c_5.Data), .slice A_6 c_5.L.length c_7, .int .u64 c_5.Snap.Index, .int .u64 c_5.Snap.Term, .int .u64 c_5.Snap.Config, .string (bs c_5.Snap.Data)]⟩, ⟨40, b_8, [.int .u64 s_1.Index, .int .u64 s_1.Term, .int .u64 s_1.Config, .string (bs s_1.Data)]⟩]) (B' := [Ow 47 kT_api_Entry A_34 c_35 r_33, Ow 46 kT_api_Entry A_27 c_28 r_26.1, Ow 44 kT_api_Entry A_29 c_30 r_26.2.2.entries, Ow 45 kT_api_Entry A_24 c_25 r_23, Ow 42 kT_tontinelaw07_Call A_12 c_13 [(⟨c_5.Kind, c_5.Index, c_5.Term, c_5.What, c_5.Data, c_5.L, (⟨c_5.Snap.Index, c_5.Snap.Term, c_5.Snap.Config, c_5.Snap.Data⟩ : T_api_Snapshot)⟩ : T_tontinelaw07_Call)], Rd 0 kT_api_Entry A_3 c_4 l_2, Rd 0 kT_api_Entry A_6 c_7 c_5.L]) (ks := [59, 60, 61, 64, 65]) (by kernel_rfl) (by kernel_rfl) (by kernel_rfl) ?_
              refine GoO.view (j := 3) rfl ?_
              refine GoO.view (j := 0) rfl ?_
              refine OpTo.go (GoO.call rfl (by kernel_rfl) (by kernel_rfl) (tontineref07_Same_ok n r_23 r_33 A_24 c_25 A_34 c_35) [[0, 45, 47]] [] [] [(0, 7), (0, 8)] (hks := [0, 1, 2]) (bks := [0, 1, 2, 3, 4, 5, 6]) (by kernel_rfl) (by kernel_rfl) (by kernel_rfl) (.inr (fun _ _ => by simp [tontineref07_Same.R])) rfl rfl (by kernel_rfl) (by kernel_rfl) _ (fun _ _ => rfl) _ _ (fun _ _ => rfl) (fun _ _ => rfl) (fun _ _ => by kernel_rfl) (fun _ _ => by kernel_rfl) (fun r_36 x_37 => ?_))
              refine GoO.shape (env' := [(59, .bool true), (60, .slice A_24 r_23.length c_25), (61, .pointer (some ⟨c_17, 0, none⟩)), (64, .int .u64 (wu64 (s_1.Index + 1))), (65, .slice A_34 r_33.length c_35), (66, .bool r_36)]) (H' := [⟨43, c_17, [.int .u64 r_26.2.2.snap.Index, .int .u64 r_26.2.2.snap.Term, .int .u64 r_26.2.2.snap.Config, .string (bs r_26.2.2.snap.Data), .slice A_29 r_26.2.2.entries.length c_30]⟩, ⟨41, b_9, [.int .i64 c_5.Kind, .int .u64 c_5.Index, .int .u64 c_5.Term, .int .i64 c_5.What, .string (bs c_5.Data), .slice A_6 c_5.L.length c_7, .int .u64 c_5.Snap.Index, .int .u64 c_5.Snap.Term, .int .u64 c_5.Snap.Config, .string (bs c_5.Snap.Data)]⟩, ⟨40, b_8, [.int .u64 s_1.Index, .int .u64 s_1.Term, .int .u64 s_1.Config, .string (bs s_1.Data)]⟩]) (B' := [Ow 47 kT_api_Entry A_34 c_35 r_33, Ow 46 kT_api_Entry A_27 c_28 r_26.1, Ow 44 kT_api_Entry A_29 c_30 r_26.2.2.entries, Ow 45 kT_api_Entry A_24 c_25 r_23, Ow 42 kT_tontinelaw07_Call A_12 c_13 [(⟨c_5.Kind, c_5.Index, c_5.Term, c_5.What, c_5.Data, c_5.L, (⟨c_5.Snap.Index, c_5.Snap.Term, c_5.Snap.Config, c_5.Snap.Data⟩ : T_api_Snapshot)⟩ : T_tontinelaw07_Call)], Rd 0 kT_api_Entry A_3 c_4 l_2, Rd 0 kT_api_Entry A_6 c_7 c_5.L]) (ks := [59, 60, 61, 64, 65, 66]) (by kernel_rfl) (by kernel_rfl) (by kernel_rfl) ?_
              refine GoO.exec (is := [11, 12]) (hs := [.p, .p]) (rest := []) (ks := [6]) (env' := [(6, .bool r_36)]) (H' := [⟨43, c_17, [.int .u64 r_26.2.2.snap.Index, .int .u64 r_26.2.2.snap.Term, .int .u64 r_26.2.2.snap.Config, .string (bs r_26.2.2.snap.Data), .slice A_29 r_26.2.2.entries.length c_30]⟩, ⟨41, b_9, [.int .i64 c_5.Kind, .int .u64 c_5.Index, .int .u64 c_5.Term, .int .i64 c_5.What, .string (bs c_5.Data), .slice A_6 c_5.L.length c_7, .int .u64 c_5.Snap.Index, .int .u64 c_5.Snap.Term, .int .u64 c_5.Snap.Config, .string (bs c_5.Snap.Data)]⟩, ⟨40, b_8, [.int .u64 s_1.Index, .int .u64 s_1.Term, .int .u64 s_1.Config, .string (bs s_1.Data)]⟩]) (ps := []) (by kernel_rfl) trivial ?_
              refine GoO.regionEnd ?_
              exact GoO.sub (ks := [6]) (hk := []) (bk := []) (by kernel_rfl) (by kernel_rfl) (by kernel_rfl) (tontinelaw07_RlogMerges_j0_ok n A_3 c_4 A_6 c_7 w0 S0 r_36)
            · refine GoO.exec (is := [4, 5, 6, 7, 8, 9, 10, 11, 12]) (hs := [.p, .p, .p, .p, .p, .p, .p, .p, .p]) (rest := []) (ks := [6]) (env' := [(6, .bool false)]) (H' := [⟨43, c_17, [.int .u64 r_26.2.2.snap.Index, .int .u64 r_26.2.2.snap.Term, .int .u64 r_26.2.2.snap.Config, .string (bs r_26.2.2.snap.Data), .slice A_29 r_26.2.2.entries.length c_30]⟩, ⟨41, b_9, [.int .i64 c_5.Kind, .int .u64 c_5.Index, .int .u64 c_5.Term, .int .i64 c_5.What, .string (bs c_5.Data), .slice A_6 c_5.L.length c_7, .int .u64 c_5.Snap.Index, .int .u64 c_5.Snap.Term, .int .u64 c_5.Snap.Config, .string (bs c_5.Snap.Data)]⟩, ⟨40, b_8, [.int .u64 s_1.Index, .int .u64 s_1.Term, .int .u64 s_1.Config, .string (bs s_1.Data)]⟩]) (ps := []) (by kernel_rfl) trivial ?_
              refine GoO.regionEnd ?_
              exact GoO.sub (ks := [6]) (hk := []) (bk := []) (by kernel_rfl) (by kernel_rfl) (by kernel_rfl) (tontinelaw07_RlogMerges_j0_ok n A_3 c_4 A_6 c_7 w0 S0 false)
          · refine GoO.skip' c3_39e ?_
            refine GoO.seq' c3_40e ?_
            refine GoO.seq' c3_41e ?_
            refine GoO.region' (is := [0, 1, 2, 3]) c3_42e (by kernel_rfl) ?_
            refine GoO.exec (is := [0, 1, 2, 3]) (hs := [.p, .b 1, .p, .p]) (rest := []) (ks := [3, 5, 7, 9, 69, 70, 71]) (env' := [(3, .pointer (some ⟨b_8, 0, none⟩)), (5, .pointer (some ⟨b_9, 0, none⟩)), (7, .pointer (some ⟨c_17, 0, none⟩)), (9, .slice A_24 r_23.length c_25), (69, .slice A_6 c_5.L.length c_7), (70, .int .i64 (c_5.L.length : Int)), (71, .int .i64 0)]) (H' := [⟨43, c_17, [.int .u64 r_26.2.2.snap.Index, .int .u64 r_26.2.2.snap.Term, .int .u64 r_26.2.2.snap.Config, .string (bs r_26.2.2.snap.Data), .slice A_29 r_26.2.2.entries.length c_30]⟩, ⟨41, b_9, [.int .i64 c_5.Kind, .int .u64 c_5.Index, .int .u64 c_5.Term, .int .i64 c_5.What, .string (bs c_5.Data), .slice A_6 c_5.L.length c_7, .int .u64 c_5.Snap.Index, .int .u64 c_5.Snap.Term, .int .u64 c_5.Snap.Config, .string (bs c_5.Snap.Data)]⟩, ⟨40, b_8, [.int .u64 s_1.Index, .int .u64 s_1.Term, .int .u64 s_1.Config, .string (bs s_1.Data)]⟩]) (ps := [b_9 = b_9]) (by kernel_rfl) (And.intro rfl trivial) ?_
            refine GoO.regionEnd ?_
            refine GoO.block' c3_43e ?_
            refine GoO.loop' c3_44e ?_
            exact GoO.sub (ks := [3, 5, 7, 9, 69, 70, 71]) (hk := [2, 1, 0]) (bk := [5, 1, 2]) (by kernel_rfl) (by kernel_rfl) (by kernel_rfl) (tontinelaw07_RlogMerges_l0_ok n s_1 c_5 r_23 r_26 A_6 c_7 b_8 b_9 c_17 A_24 c_25 A_29 c_30 A_3 c_4 w0 S0 n 0)
end Go.GL
