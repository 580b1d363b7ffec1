import Derived.Test.YtciohdgjlcaokaaKindsT3
import Derived.Test.YtciohdgjlcaokaaProg
set_option linter.unusedVariables false
set_option linter.unusedSimpArgs false
set_option maxRecDepth 100000
namespace Go.GL
open Go Go.Proofs

/-! tontine/session.New -/
noncomputable def c15_0 : Code := bodyOf Try.f15
noncomputable def c15_1 : Code := cdL c15_0
noncomputable def c15_2 : Code := cdR c15_0
noncomputable def c15_3 : Code := cdL c15_2
noncomputable def c15_4 : Code := cdR c15_2
noncomputable def r15_1 : Array Oper := cdO c15_1
noncomputable def r15_3 : Array Oper := cdO c15_3
theorem c15_0e : c15_0 = .seq c15_1 c15_2 := by kernel_rfl
theorem c15_1e : c15_1 = .region 0 r15_1 false := by kernel_rfl
theorem c15_2e : c15_2 = .seq c15_3 c15_4 := by kernel_rfl
theorem c15_3e : c15_3 = .region 1 r15_3 false := by kernel_rfl
theorem c15_4e : c15_4 = .ret := by kernel_rfl
noncomputable def session_New.R : Pst T_session_Table where
  ε := Nat × Option Addr × Nat
  v := fun r x => .pointer (some ⟨x.1, 0, none⟩)
  H := fun r x => [⟨1, x.1, [.int .u64 r.now, .int .u64 r.next, .slice x.2.1 r.rows.length x.2.2]⟩]
  B := fun r x => [Ow 2 kT_session_Row x.2.1 x.2.2 r.rows]
noncomputable def session_New.cx (w0 : World) (S0 : Fam) : Cx T_session_Table := ⟨Try.prog, 15, Try.f15, 3, w0, S0, [], 0, session_New.R⟩
theorem session_New_ok (n : Nat) :
    Meets Try.prog 15 [] 0 [] [] [] (session_New.f n) (session_New.R) := by
  refine Meets.of (c := c15_0) (n := 3) Try.func15 (by kernel_rfl) (by kernel_rfl) (by kernel_rfl) fun w0 S0 => ?_
  unfold session_New.f
  show GoO (session_New.cx w0 S0) [] [] [] [.code c15_0] _
  refine GoO.seq' c15_0e ?_
  refine GoO.region' (is := [0]) c15_1e (by kernel_rfl) ?_
  refine GoO.exec (is := [0]) (hs := [.p]) (rest := []) (ks := []) (env' := []) (H' := []) (ps := []) (by kernel_rfl) trivial ?_
  refine GoO.regionEnd ?_
  refine GoO.seq' c15_2e ?_
  refine GoO.region' (is := [0, 1, 2]) c15_3e (by kernel_rfl) ?_
  refine GoO.exec (is := [0]) (hs := [.p]) (rest := [1, 2]) (ks := [1]) (env' := [(1, .agg ⟨[.int .u64 0, .int .u64 1, .slice none ([] : List T_session_Row).length 0]⟩)]) (H' := []) (ps := []) (by kernel_rfl) trivial ?_
  refine OpTo.go (GoO.new rfl 40 (cs := [.int .u64 0, .int .u64 1, .slice none ([] : List T_session_Row).length 0]) (by kernel_rfl) _ (fun _ => rfl) (fun b_1 => ?_))
  refine GoO.exec (is := [2]) (hs := [.p]) (rest := []) (ks := [0]) (env' := [(0, .pointer (some ⟨b_1, 0, none⟩))]) (H' := [⟨40, b_1, [.int .u64 0, .int .u64 1, .slice none ([] : List T_session_Row).length 0]⟩]) (ps := []) (by kernel_rfl) trivial ?_
  refine GoO.regionEnd ?_
  refine GoO.nilOwn kT_session_Row 2 ?_
  refine GoO.retagB (t := 40) (u := 1) (j := 0) (hk := []) (bk := [0]) rfl rfl rfl rfl rfl rfl (by kernel_rfl) (by kernel_rfl) ?_
  exact GoO.ret' (h := c15_4e) (hs := []) (ps := []) (hk := [0]) (bk := [0]) Try.func15 (⟨b_1, none, 0⟩ : Nat × Option Addr × Nat) (by kernel_rfl) trivial (by kernel_rfl) (by kernel_rfl)

/-! (*tontine/session.Table).Register -/
noncomputable def c17_0 : Code := bodyOf Try.f17
noncomputable def c17_1 : Code := cdL c17_0
noncomputable def c17_2 : Code := cdR c17_0
noncomputable def c17_3 : Code := cdL c17_2
noncomputable def c17_4 : Code := cdL c17_3
noncomputable def c17_5 : Code := cdR c17_3
noncomputable def c17_6 : Code := cdL c17_5
noncomputable def c17_7 : Code := cdL c17_6
noncomputable def c17_8 : Code := cdR c17_6
noncomputable def c17_9 : Code := cdR c17_5
noncomputable def c17_10 : Code := cdR c17_2
noncomputable def c17_11 : Code := cdL c17_10
noncomputable def c17_12 : Code := cdR c17_10
noncomputable def c17_13 : Code := cdL c17_12
noncomputable def c17_14 : Code := cdR c17_12
noncomputable def c17_15 : Code := cdL c17_14
noncomputable def c17_16 : Code := cdR c17_14
noncomputable def r17_1 : Array Oper := cdO c17_1
noncomputable def r17_4 : Array Oper := cdO c17_4
noncomputable def r17_7 : Array Oper := cdO c17_7
noncomputable def r17_11 : Array Oper := cdO c17_11
noncomputable def r17_13 : Array Oper := cdO c17_13
noncomputable def r17_15 : Array Oper := cdO c17_15
theorem c17_0e : c17_0 = .seq c17_1 c17_2 := by kernel_rfl
theorem c17_1e : c17_1 = .region 0 r17_1 false := by kernel_rfl
theorem c17_2e : c17_2 = .seq c17_3 c17_10 := by kernel_rfl
theorem c17_3e : c17_3 = .seq c17_4 c17_5 := by kernel_rfl
theorem c17_4e : c17_4 = .region 1 r17_4 false := by kernel_rfl
theorem c17_5e : c17_5 = .cond (cdC c17_5) c17_6 c17_9 := by kernel_rfl
theorem c17_6e : c17_6 = .seq c17_7 c17_8 := by kernel_rfl
theorem c17_7e : c17_7 = .region 2 r17_7 false := by kernel_rfl
theorem c17_8e : c17_8 = .ret := by kernel_rfl
theorem c17_9e : c17_9 = .skip := by kernel_rfl
theorem c17_10e : c17_10 = .seq c17_11 c17_12 := by kernel_rfl
theorem c17_11e : c17_11 = .region 3 r17_11 true := by kernel_rfl
theorem c17_12e : c17_12 = .seq c17_13 c17_14 := by kernel_rfl
theorem c17_13e : c17_13 = .region 4 r17_13 false := by kernel_rfl
theorem c17_14e : c17_14 = .seq c17_15 c17_16 := by kernel_rfl
theorem c17_15e : c17_15 = .region 5 r17_15 false := by kernel_rfl
theorem c17_16e : c17_16 = .ret := by kernel_rfl
noncomputable def session_Table_Register.R (b_2 : Nat) (A_3 : Option Addr) (c_4 : Nat) : Pst (Int × Int × T_session_Table) where
  ε := Option Addr × Nat
  v := fun r x => .tuple ⟨[.int .u64 r.1, .int .i64 r.2.1]⟩
  H := fun r x => [⟨1, b_2, [.int .u64 r.2.2.now, .int .u64 r.2.2.next, .slice x.1 r.2.2.rows.length x.2]⟩]
  B := fun r x => [Ow 2 kT_session_Row x.1 x.2 r.2.2.rows]
noncomputable def session_Table_Register.cx (b_2 : Nat) (A_3 : Option Addr) (c_4 : Nat) (w0 : World) (S0 : Fam) : Cx (Int × Int × T_session_Table) := ⟨Try.prog, 17, Try.f17, 51, w0, S0, [1, 2], 2, session_Table_Register.R b_2 A_3 c_4⟩
theorem session_Table_Register_j0_ok (n : Nat) (t_1 : T_session_Table) (b_2 : Nat) (A_3 : Option Addr) (c_4 : Nat) (w0 : World) (S0 : Fam) (b_6 : Bool) :
    GoO (session_Table_Register.cx b_2 A_3 c_4 w0 S0) [(0, .pointer (some ⟨b_2, 0, none⟩)), (20, .bool b_6)] [⟨1, b_2, [.int .u64 t_1.now, .int .u64 t_1.next, .slice A_3 t_1.rows.length c_4]⟩] [Ow 2 kT_session_Row A_3 c_4 t_1.rows] [.code c17_5, .code c17_10] (session_Table_Register.j0 n t_1 b_6) := by
  unfold session_Table_Register.j0
  refine GoO.ite' c17_5e (by kernel_rfl) (fun h7 => ?_) (fun h7 => ?_)
  · refine GoO.seq' c17_6e ?_
    refine GoO.region' (is := [0, 1]) c17_7e (by kernel_rfl) ?_
    refine GoO.exec (is := [0, 1]) (hs := [.p, .p]) (rest := []) (ks := [2, 3]) (env' := [(2, .int .u64 0), (3, .int .i64 11)]) (H' := [⟨1, b_2, [.int .u64 t_1.now, .int .u64 t_1.next, .slice A_3 t_1.rows.length c_4]⟩]) (ps := []) (by kernel_rfl) trivial ?_
    refine GoO.regionEnd ?_
    exact GoO.ret' (h := c17_8e) (hs := []) (ps := []) (hk := [0]) (bk := [0]) Try.func17 (⟨A_3, c_4⟩ : Option Addr × Nat) (by kernel_rfl) trivial (by kernel_rfl) (by kernel_rfl)
  · refine GoO.skip' c17_9e ?_
    refine GoO.seq' c17_10e ?_
    refine GoO.draw c17_11e (by kernel_rfl) [16, 17, 18] [⟨1, b_2, [.int .u64 t_1.now, .int .u64 t_1.next, .slice A_3 t_1.rows.length c_4]⟩] [] (n := 19) (by kernel_rfl) ?_
    simp only [List.replicate]
    refine GoF.take [0, 1, 2, 3, 4, 5, 6, 7, 8, 9, 10, 11, 12, 13] [.p, .p, .p, .p, .b 0, .p, .p, .p, .b 0, .p, .p, .p, .b 0, .p] (ks := [0, 21, 25, 34]) (fu := 5) (li := [true, true, true, true, true, true, true, true, true, true, true, true, true, true, false, false, false, false, false]) (env' := [(0, .pointer (some ⟨b_2, 0, none⟩)), (21, .pointer (some ⟨b_2, 0, none⟩)), (25, .slice A_3 t_1.rows.length c_4), (34, .agg ⟨[.int .u64 t_1.next, .int .u64 t_1.now, .int .u64 0, .int .i64 0, .int .u64 0, .int .u64 0]⟩)]) (ps := [b_2 = b_2, b_2 = b_2, b_2 = b_2]) (hk := [0]) (bk := []) (by kernel_rfl) (And.intro rfl (And.intro rfl (And.intro rfl trivial))) rfl rfl ?_
    refine OpTo.goF (i := 14) (by kernel_rfl) (hk := [0]) (bk := []) (GoO.lit (e := 87) (K := kT_session_Row) rfl (by kernel_rfl) (by kernel_rfl) (cs := [.int .u64 t_1.next, .int .u64 t_1.now, .int .u64 0, .int .i64 0, .int .u64 0, .int .u64 0]) (by kernel_rfl) [(⟨t_1.next, t_1.now, 0, (⟨0, 0, 0⟩ : T_api_Reply)⟩ : T_session_Row)] (by kernel_rfl) (by kernel_rfl) (fun w S hB => ⟨[.int .u64 t_1.next, .int .u64 t_1.now, .int .u64 0, .int .i64 0, .int .u64 0, .int .u64 0], _, rfl, rfl, rfl⟩) 40 _ (fun _ _ => rfl) (fun A_8 c_9 => ⟨rfl, rfl, ?_⟩))
    refine GoF.guard (fun h10 => ?_)
    refine OpTo.goF (i := 15) (by kernel_rfl) (hk := [0]) (bk := []) (GoO.appW (e := 87) (K := kT_session_Row) (A := A_3) (c := c_4) (tg := 2) (bytes := 48) (zs := [.int .u64 0, .int .u64 0, .int .u64 0, .int .i64 0, .int .u64 0, .int .u64 0]) (xs := t_1.rows) (ys := [(⟨t_1.next, t_1.now, 0, (⟨0, 0, 0⟩ : T_api_Reply)⟩ : T_session_Row)]) (xv := .slice A_8 [(⟨t_1.next, t_1.now, 0, (⟨0, 0, 0⟩ : T_api_Reply)⟩ : T_session_Row)].length c_9) (j := 1) (bk := [0]) rfl (by kernel_rfl) (by kernel_rfl) (by kernel_rfl) (by kernel_rfl) rfl (by kernel_rfl) rfl (fun w S hB => SrcIs.row (Reads.own w S (hB _ (List.mem_of_getElem? (i := 0) rfl)))) h10 rfl rfl rfl rfl _ (fun _ _ => rfl) (fun A_11 c_12 => ⟨rfl, rfl, ?_⟩))
    refine GoF.fin1 (i := 16) (hint := .p) (ps := []) (hk := []) (bk := []) (by kernel_rfl) rfl trivial (.inl rfl) ?_
    refine GoF.fin1 (i := 17) (hint := .p) (ps := []) (hk := []) (bk := []) (by kernel_rfl) rfl trivial (.inl rfl) ?_
    refine GoF.fin1 (i := 18) (hint := .b 0) (ps := [b_2 = b_2]) (hk := []) (bk := []) (by kernel_rfl) rfl (And.intro rfl trivial) (.inl rfl) ?_
    refine GoF.done (by kernel_rfl) ?_
    refine GoO.seq' c17_12e ?_
    refine GoO.region' (is := [0, 1, 2, 3, 4, 5, 6, 7]) c17_13e (by kernel_rfl) ?_
    refine GoO.exec (is := [0, 1, 2, 3, 4, 5, 6, 7]) (hs := [.p, .p, .p, .b 0, .p, .p, .p, .b 0]) (rest := []) (ks := [0]) (env' := [(0, .pointer (some ⟨b_2, 0, none⟩))]) (H' := [⟨1, b_2, [.int .u64 t_1.now, .int .u64 (wu64 (t_1.next + 1)), .slice A_11 (t_1.rows ++ [(⟨t_1.next, t_1.now, 0, (⟨0, 0, 0⟩ : T_api_Reply)⟩ : T_session_Row)]).length c_12]⟩]) (ps := [b_2 = b_2, b_2 = b_2]) (by kernel_rfl) (And.intro rfl (And.intro rfl trivial)) ?_
    refine GoO.regionEnd ?_
    refine GoO.seq' c17_14e ?_
    refine GoO.region' (is := [0, 1, 2, 3, 4, 5, 6]) c17_15e (by kernel_rfl) ?_
    refine GoO.exec (is := [0, 1, 2, 3, 4, 5, 6]) (hs := [.p, .p, .p, .b 0, .p, .p, .p]) (rest := []) (ks := [2, 3]) (env' := [(2, .int .u64 (wu64 ((wu64 (t_1.next + 1)) - 1))), (3, .int .i64 0)]) (H' := [⟨1, b_2, [.int .u64 t_1.now, .int .u64 (wu64 (t_1.next + 1)), .slice A_11 (t_1.rows ++ [(⟨t_1.next, t_1.now, 0, (⟨0, 0, 0⟩ : T_api_Reply)⟩ : T_session_Row)]).length c_12]⟩]) (ps := [b_2 = b_2]) (by kernel_rfl) (And.intro rfl trivial) ?_
    refine GoO.regionEnd ?_
    exact GoO.ret' (h := c17_16e) (hs := []) (ps := []) (hk := [0]) (bk := [0]) Try.func17 (⟨A_11, c_12⟩ : Option Addr × Nat) (by kernel_rfl) trivial (by kernel_rfl) (by kernel_rfl)
theorem session_Table_Register_ok (n : Nat) (t_1 : T_session_Table) (b_2 : Nat) (A_3 : Option Addr) (c_4 : Nat) :
    Meets Try.prog 17 [.pointer (some ⟨b_2, 0, none⟩)] 2 [1, 2] [⟨1, b_2, [.int .u64 t_1.now, .int .u64 t_1.next, .slice A_3 t_1.rows.length c_4]⟩] [Ow 2 kT_session_Row A_3 c_4 t_1.rows] (session_Table_Register.f n t_1) (session_Table_Register.R b_2 A_3 c_4) := by
  refine Meets.of (c := c17_0) (n := 51) Try.func17 (by kernel_rfl) (by kernel_rfl) (by kernel_rfl) fun w0 S0 => ?_
  unfold session_Table_Register.f
  show GoO (session_Table_Register.cx b_2 A_3 c_4 w0 S0) [(0, .pointer (some ⟨b_2, 0, none⟩))] [⟨1, b_2, [.int .u64 t_1.now, .int .u64 t_1.next, .slice A_3 t_1.rows.length c_4]⟩] [Ow 2 kT_session_Row A_3 c_4 t_1.rows] [.code c17_0] _
  refine GoO.seq' c17_0e ?_
  refine GoO.region' (is := [0, 1]) c17_1e (by kernel_rfl) ?_
  refine GoO.exec (is := [0, 1]) (hs := [.p, .p]) (rest := []) (ks := [0]) (env' := [(0, .pointer (some ⟨b_2, 0, none⟩))]) (H' := [⟨1, b_2, [.int .u64 t_1.now, .int .u64 t_1.next, .slice A_3 t_1.rows.length c_4]⟩]) (ps := []) (by kernel_rfl) trivial ?_
  refine GoO.regionEnd ?_
  refine GoO.seq' c17_2e ?_
  refine GoO.seq' c17_3e ?_
  refine GoO.region' (is := [0, 1, 2, 3, 4, 5, 6, 7, 8, 9, 10, 11, 12, 13, 14, 15, 16]) c17_4e (by kernel_rfl) ?_
  refine GoO.exec (is := [0, 1, 2, 3, 4, 5, 6, 7, 8, 9, 10]) (hs := [.p, .p, .p, .p, .p, .p, .b 0, .p, .p, .p, .p]) (rest := [11, 12, 13, 14, 15, 16]) (ks := [0, 14]) (env' := [(0, .pointer (some ⟨b_2, 0, none⟩)), (14, .bool (decide ((t_1.rows.length : Int) ≥ 16)))]) (H' := [⟨1, b_2, [.int .u64 t_1.now, .int .u64 t_1.next, .slice A_3 t_1.rows.length c_4]⟩]) (ps := [b_2 = b_2]) (by kernel_rfl) (And.intro rfl trivial) ?_
  refine GoO.bsplit (t := 14) (by kernel_rfl) (fun h5 => ?_) (fun h5 => ?_)
  · refine GoO.exec (is := [11, 12, 13, 14, 15, 16]) (hs := [.p, .p, .p, .p, .p, .p]) (rest := []) (ks := [0, 20]) (env' := [(0, .pointer (some ⟨b_2, 0, none⟩)), (20, .bool true)]) (H' := [⟨1, b_2, [.int .u64 t_1.now, .int .u64 t_1.next, .slice A_3 t_1.rows.length c_4]⟩]) (ps := []) (by kernel_rfl) trivial ?_
    refine GoO.regionEnd ?_
    exact GoO.sub (ks := [0, 20]) (hk := [0]) (bk := [0]) (by kernel_rfl) (by kernel_rfl) (by kernel_rfl) (session_Table_Register_j0_ok n t_1 b_2 A_3 c_4 w0 S0 true)
  · refine GoO.exec (is := [11, 12, 13, 14, 15, 16]) (hs := [.p, .p, .p, .b 0, .p, .p]) (rest := []) (ks := [0, 20]) (env' := [(0, .pointer (some ⟨b_2, 0, none⟩)), (20, .bool (t_1.next == 18446744073709551615))]) (H' := [⟨1, b_2, [.int .u64 t_1.now, .int .u64 t_1.next, .slice A_3 t_1.rows.length c_4]⟩]) (ps := [b_2 = b_2]) (by kernel_rfl) (And.intro rfl trivial) ?_
    refine GoO.regionEnd ?_
    exact GoO.sub (ks := [0, 20]) (hk := [0]) (bk := [0]) (by kernel_rfl) (by kernel_rfl) (by kernel_rfl) (session_Table_Register_j0_ok n t_1 b_2 A_3 c_4 w0 S0 (t_1.next == 18446744073709551615))

/-! (*tontine/session.Table).find -/
noncomputable def c37_0 : Code := bodyOf Try.f37
noncomputable def c37_1 : Code := cdL c37_0
noncomputable def c37_2 : Code := cdR c37_0
noncomputable def c37_3 : Code := cdL c37_2
noncomputable def c37_4 : Code := cdL c37_3
noncomputable def c37_5 : Code := cdR c37_3
noncomputable def c37_6 : Code := cdL c37_5
noncomputable def c37_7 : Code := cdL c37_6
noncomputable def c37_8 : Code := cdR c37_6
noncomputable def c37_9 : Code := cdL c37_8
noncomputable def c37_10 : Code := cdL c37_9
noncomputable def c37_11 : Code := cdL c37_10
noncomputable def c37_12 : Code := cdR c37_10
noncomputable def c37_13 : Code := cdL c37_12
noncomputable def c37_14 : Code := cdL c37_13
noncomputable def c37_15 : Code := cdR c37_13
noncomputable def c37_16 : Code := cdR c37_12
noncomputable def c37_17 : Code := cdL c37_16
noncomputable def c37_18 : Code := cdL c37_17
noncomputable def c37_19 : Code := cdL c37_18
noncomputable def c37_20 : Code := cdR c37_18
noncomputable def c37_21 : Code := cdL c37_20
noncomputable def c37_22 : Code := cdR c37_20
noncomputable def c37_23 : Code := cdL c37_22
noncomputable def c37_24 : Code := cdL c37_23
noncomputable def c37_25 : Code := cdR c37_23
noncomputable def c37_26 : Code := cdR c37_22
noncomputable def c37_27 : Code := cdR c37_16
noncomputable def c37_29 : Code := cdR c37_2
noncomputable def c37_30 : Code := cdL c37_29
noncomputable def c37_31 : Code := cdR c37_29
noncomputable def c37_28 : Code := cdR c37_5
noncomputable def r37_1 : Array Oper := cdO c37_1
noncomputable def r37_4 : Array Oper := cdO c37_4
noncomputable def r37_7 : Array Oper := cdO c37_7
noncomputable def r37_11 : Array Oper := cdO c37_11
noncomputable def r37_19 : Array Oper := cdO c37_19
noncomputable def r37_21 : Array Oper := cdO c37_21
noncomputable def r37_24 : Array Oper := cdO c37_24
noncomputable def r37_27 : Array Oper := cdO c37_27
noncomputable def r37_30 : Array Oper := cdO c37_30
theorem c37_0e : c37_0 = .seq c37_1 c37_2 := by kernel_rfl
theorem c37_1e : c37_1 = .region 0 r37_1 false := by kernel_rfl
theorem c37_2e : c37_2 = .seq c37_3 c37_29 := by kernel_rfl
theorem c37_3e : c37_3 = .seq c37_4 c37_5 := by kernel_rfl
theorem c37_4e : c37_4 = .region 1 r37_4 false := by kernel_rfl
theorem c37_5e : c37_5 = .cond (cdC c37_5) c37_6 c37_28 := by kernel_rfl
theorem c37_6e : c37_6 = .seq c37_7 c37_8 := by kernel_rfl
theorem c37_7e : c37_7 = .region 2 r37_7 false := by kernel_rfl
theorem c37_8e : c37_8 = .block 0 c37_9 := by kernel_rfl
theorem c37_9e : c37_9 = .loop c37_10 := by kernel_rfl
theorem c37_10e : c37_10 = .seq c37_11 c37_12 := by kernel_rfl
theorem c37_11e : c37_11 = .region 3 r37_11 false := by kernel_rfl
theorem c37_12e : c37_12 = .seq c37_13 c37_16 := by kernel_rfl
theorem c37_13e : c37_13 = .cond (cdC c37_13) c37_14 c37_15 := by kernel_rfl
theorem c37_14e : c37_14 = .skip := by kernel_rfl
theorem c37_15e : c37_15 = .exit 0 := by kernel_rfl
theorem c37_16e : c37_16 = .seq c37_17 c37_27 := by kernel_rfl
theorem c37_17e : c37_17 = .block 1 c37_18 := by kernel_rfl
theorem c37_18e : c37_18 = .seq c37_19 c37_20 := by kernel_rfl
theorem c37_19e : c37_19 = .region 4 r37_19 false := by kernel_rfl
theorem c37_20e : c37_20 = .seq c37_21 c37_22 := by kernel_rfl
theorem c37_21e : c37_21 = .region 5 r37_21 false := by kernel_rfl
theorem c37_22e : c37_22 = .cond (cdC c37_22) c37_23 c37_26 := by kernel_rfl
theorem c37_23e : c37_23 = .seq c37_24 c37_25 := by kernel_rfl
theorem c37_24e : c37_24 = .region 6 r37_24 false := by kernel_rfl
theorem c37_25e : c37_25 = .ret := by kernel_rfl
theorem c37_26e : c37_26 = .skip := by kernel_rfl
theorem c37_27e : c37_27 = .region 7 r37_27 false := by kernel_rfl
theorem c37_29e : c37_29 = .seq c37_30 c37_31 := by kernel_rfl
theorem c37_30e : c37_30 = .region 8 r37_30 false := by kernel_rfl
theorem c37_31e : c37_31 = .ret := by kernel_rfl
theorem c37_28e : c37_28 = .skip := by kernel_rfl
noncomputable def session_Table_find.R (b_2 : Nat) (A_3 : Option Addr) (c_4 : Nat) : Pst Int where
  ε := Unit
  v := fun r x => .int .i64 r
  H := fun r x => []
  B := fun r x => []
noncomputable def session_Table_find.cx (b_2 : Nat) (A_3 : Option Addr) (c_4 : Nat) (w0 : World) (S0 : Fam) : Cx Int := ⟨Try.prog, 37, Try.f37, 25, w0, S0, [], 2, session_Table_find.R b_2 A_3 c_4⟩
theorem session_Table_find_l0_ok (n : Nat) (t_1 : T_session_Table) (id_5 : Int) (b_2 : Nat) (A_3 : Option Addr) (c_4 : Nat) (w0 : World) (S0 : Fam) :
    ∀ (k : Nat) (x_6 : Int), GoO (session_Table_find.cx b_2 A_3 c_4 w0 S0) [(1, .int .u64 id_5), (12, .slice A_3 t_1.rows.length c_4), (13, .int .i64 (t_1.rows.length : Int)), (14, .int .i64 x_6)] [⟨1, b_2, [.int .u64 t_1.now, .int .u64 t_1.next, .slice A_3 t_1.rows.length c_4]⟩] [Ow 2 kT_session_Row A_3 c_4 t_1.rows] [.code c37_10, .inLoop c37_10, .inBlock 0, .code c37_29] (session_Table_find.l0 n t_1 id_5 k x_6) := by
  intro k
  induction k with
  | zero => intros; rw [session_Table_find.l0.eq_1]; exact GoO.stop
  | succ k ih0 =>
    intro x_6
    rw [session_Table_find.l0.eq_2]
    refine GoO.seq' c37_10e ?_
    refine GoO.region' (is := [0]) c37_11e (by kernel_rfl) ?_
    refine GoO.exec (is := [0]) (hs := [.p]) (rest := []) (ks := [1, 12, 13, 14, 15]) (env' := [(1, .int .u64 id_5), (12, .slice A_3 t_1.rows.length c_4), (13, .int .i64 (t_1.rows.length : Int)), (14, .int .i64 x_6), (15, .bool (decide (x_6 < (t_1.rows.length : Int))))]) (H' := [⟨1, b_2, [.int .u64 t_1.now, .int .u64 t_1.next, .slice A_3 t_1.rows.length c_4]⟩]) (ps := []) (by kernel_rfl) trivial ?_
    refine GoO.regionEnd ?_
    refine GoO.seq' c37_12e ?_
    refine GoO.ite' c37_13e (by kernel_rfl) (fun h7 => ?_) (fun h7 => ?_)
    · refine GoO.skip' c37_14e ?_
      refine GoO.seq' c37_16e ?_
      refine GoO.block' c37_17e ?_
      refine GoO.seq' c37_18e ?_
      refine GoO.region' (is := [0, 1, 2, 3, 4, 5]) c37_19e (by kernel_rfl) ?_
      refine GoO.exec (is := [0]) (hs := [.p]) (rest := [1, 2, 3, 4, 5]) (ks := [1, 12, 13, 14, 16]) (env' := [(1, .int .u64 id_5), (12, .slice A_3 t_1.rows.length c_4), (13, .int .i64 (t_1.rows.length : Int)), (14, .int .i64 x_6), (16, .int .i64 x_6)]) (H' := [⟨1, b_2, [.int .u64 t_1.now, .int .u64 t_1.next, .slice A_3 t_1.rows.length c_4]⟩]) (ps := []) (by kernel_rfl) trivial ?_
      refine GoO.guard (fun h8 => ?_)
      refine OpTo.go (GoO.idx (kk := .i64) (e := 87) (K := kT_session_Row) (A := A_3) (c := c_4) (xs := t_1.rows) (iv := x_6) (j := 0) rfl (by kernel_rfl) (by kernel_rfl) (by kernel_rfl) (by kernel_rfl) rfl Reads.own rfl h8.1 h8.2 (by decide) rfl ?_)
      refine OpTo.go (GoO.ldE' (K := kT_session_Row) (A := A_3) (c := c_4) (xs := t_1.rows) (iN := x_6.toNat) (off := 0) (j := 0) rfl (by kernel_rfl) rfl Reads.own (by first | exact idx_lt h8.1 h8.2 | (simp only [List.length_set]; exact idx_lt h8.1 h8.2)) (by decide) (Opn.flat _ _ _ _ _) (v := fun _ => .agg ⟨[.int .u64 ((rdL t_1.rows x_6).Id), .int .u64 ((rdL t_1.rows x_6).Used), .int .u64 ((rdL t_1.rows x_6).Seq), .int .i64 ((rdL t_1.rows x_6).Reply.Err), .int .u64 ((rdL t_1.rows x_6).Reply.Num), .int .u64 ((rdL t_1.rows x_6).Reply.Extra)]⟩) (fun _ => by kernel_rfl) _ (fun _ => rfl) (fun _ => ?_))
      refine OpTo.go (GoO.new rfl 40 (cs := [.int .u64 0, .int .u64 0, .int .u64 0, .int .i64 0, .int .u64 0, .int .u64 0]) (by kernel_rfl) _ (fun _ => rfl) (fun b_9 => ?_))
      refine GoO.exec (is := [4, 5]) (hs := [.p, .b 0]) (rest := []) (ks := [1, 5, 6, 12, 13, 14]) (env' := [(1, .int .u64 id_5), (5, .int .i64 x_6), (6, .pointer (some ⟨b_9, 0, none⟩)), (12, .slice A_3 t_1.rows.length c_4), (13, .int .i64 (t_1.rows.length : Int)), (14, .int .i64 x_6)]) (H' := [⟨40, b_9, [.int .u64 ((rdL t_1.rows x_6).Id), .int .u64 ((rdL t_1.rows x_6).Used), .int .u64 ((rdL t_1.rows x_6).Seq), .int .i64 ((rdL t_1.rows x_6).Reply.Err), .int .u64 ((rdL t_1.rows x_6).Reply.Num), .int .u64 ((rdL t_1.rows x_6).Reply.Extra)]⟩, ⟨1, b_2, [.int .u64 t_1.now, .int .u64 t_1.next, .slice A_3 t_1.rows.length c_4]⟩]) (ps := [b_9 = b_9]) (by kernel_rfl) (And.intro rfl trivial) ?_
      refine GoO.regionEnd ?_
      refine GoO.seq' c37_20e ?_
      refine GoO.region' (is := [0, 1, 2, 3]) c37_21e (by kernel_rfl) ?_
      refine GoO.exec (is := [0, 1, 2, 3]) (hs := [.p, .b 0, .p, .p]) (rest := []) (ks := [1, 5, 12, 13, 14, 22]) (env' := [(1, .int .u64 id_5), (5, .int .i64 x_6), (12, .slice A_3 t_1.rows.length c_4), (13, .int .i64 (t_1.rows.length : Int)), (14, .int .i64 x_6), (22, .bool (((rdL t_1.rows x_6).Id) == id_5))]) (H' := [⟨40, b_9, [.int .u64 ((rdL t_1.rows x_6).Id), .int .u64 ((rdL t_1.rows x_6).Used), .int .u64 ((rdL t_1.rows x_6).Seq), .int .i64 ((rdL t_1.rows x_6).Reply.Err), .int .u64 ((rdL t_1.rows x_6).Reply.Num), .int .u64 ((rdL t_1.rows x_6).Reply.Extra)]⟩, ⟨1, b_2, [.int .u64 t_1.now, .int .u64 t_1.next, .slice A_3 t_1.rows.length c_4]⟩]) (ps := [b_9 = b_9]) (by kernel_rfl) (And.intro rfl trivial) ?_
      refine GoO.regionEnd ?_
      refine GoO.ite' c37_22e (by kernel_rfl) (fun h10 => ?_) (fun h10 => ?_)
      · refine GoO.seq' c37_23e ?_
        refine GoO.region' (is := [0, 1]) c37_24e (by kernel_rfl) ?_
        refine GoO.exec (is := [0, 1]) (hs := [.p, .p]) (rest := []) (ks := [4]) (env' := [(4, .int .i64 x_6)]) (H' := [⟨40, b_9, [.int .u64 ((rdL t_1.rows x_6).Id), .int .u64 ((rdL t_1.rows x_6).Used), .int .u64 ((rdL t_1.rows x_6).Seq), .int .i64 ((rdL t_1.rows x_6).Reply.Err), .int .u64 ((rdL t_1.rows x_6).Reply.Num), .int .u64 ((rdL t_1.rows x_6).Reply.Extra)]⟩, ⟨1, b_2, [.int .u64 t_1.now, .int .u64 t_1.next, .slice A_3 t_1.rows.length c_4]⟩]) (ps := []) (by kernel_rfl) trivial ?_
        refine GoO.regionEnd ?_
        exact GoO.ret' (h := c37_25e) (hs := []) (ps := []) (hk := []) (bk := []) Try.func37 () (by kernel_rfl) trivial (by kernel_rfl) (by kernel_rfl)
      · refine GoO.skip' c37_26e ?_
        refine GoO.inBlock ?_
        refine GoO.region' (is := [0, 1]) c37_27e (by kernel_rfl) ?_
        refine GoO.exec (is := [0, 1]) (hs := [.p, .p]) (rest := []) (ks := [1, 12, 13, 14]) (env' := [(1, .int .u64 id_5), (12, .slice A_3 t_1.rows.length c_4), (13, .int .i64 (t_1.rows.length : Int)), (14, .int .i64 (wi64 (x_6 + 1)))]) (H' := [⟨40, b_9, [.int .u64 ((rdL t_1.rows x_6).Id), .int .u64 ((rdL t_1.rows x_6).Used), .int .u64 ((rdL t_1.rows x_6).Seq), .int .i64 ((rdL t_1.rows x_6).Reply.Err), .int .u64 ((rdL t_1.rows x_6).Reply.Num), .int .u64 ((rdL t_1.rows x_6).Reply.Extra)]⟩, ⟨1, b_2, [.int .u64 t_1.now, .int .u64 t_1.next, .slice A_3 t_1.rows.length c_4]⟩]) (ps := []) (by kernel_rfl) trivial ?_
        refine GoO.regionEnd ?_
        refine GoO.inLoop ?_
        exact GoO.sub (ks := [1, 12, 13, 14]) (hk := [1]) (bk := [0]) (by kernel_rfl) (by kernel_rfl) (by kernel_rfl) (ih0 (wi64 (x_6 + 1)))
    · refine GoO.exit' c37_15e rfl ?_
      refine GoO.seq' c37_29e ?_
      refine GoO.region' (is := [0]) c37_30e (by kernel_rfl) ?_
      refine GoO.exec (is := [0]) (hs := [.p]) (rest := []) (ks := [4]) (env' := [(4, .int .i64 (-1))]) (H' := [⟨1, b_2, [.int .u64 t_1.now, .int .u64 t_1.next, .slice A_3 t_1.rows.length c_4]⟩]) (ps := []) (by kernel_rfl) trivial ?_
      refine GoO.regionEnd ?_
      exact GoO.ret' (h := c37_31e) (hs := []) (ps := []) (hk := []) (bk := []) Try.func37 () (by kernel_rfl) trivial (by kernel_rfl) (by kernel_rfl)
theorem session_Table_find_ok (n : Nat) (t_1 : T_session_Table) (id_5 : Int) (b_2 : Nat) (A_3 : Option Addr) (c_4 : Nat) :
    Meets Try.prog 37 [.pointer (some ⟨b_2, 0, none⟩), .int .u64 id_5] 2 [] [⟨1, b_2, [.int .u64 t_1.now, .int .u64 t_1.next, .slice A_3 t_1.rows.length c_4]⟩] [Ow 2 kT_session_Row A_3 c_4 t_1.rows] (session_Table_find.f n t_1 id_5) (session_Table_find.R b_2 A_3 c_4) := by
  refine Meets.of (c := c37_0) (n := 25) Try.func37 (by kernel_rfl) (by kernel_rfl) (by kernel_rfl) fun w0 S0 => ?_
  unfold session_Table_find.f
  show GoO (session_Table_find.cx b_2 A_3 c_4 w0 S0) [(0, .pointer (some ⟨b_2, 0, none⟩)), (1, .int .u64 id_5)] [⟨1, b_2, [.int .u64 t_1.now, .int .u64 t_1.next, .slice A_3 t_1.rows.length c_4]⟩] [Ow 2 kT_session_Row A_3 c_4 t_1.rows] [.code c37_0] _
  refine GoO.seq' c37_0e ?_
  refine GoO.region' (is := [0]) c37_1e (by kernel_rfl) ?_
  refine GoO.exec (is := [0]) (hs := [.p]) (rest := []) (ks := [0, 1]) (env' := [(0, .pointer (some ⟨b_2, 0, none⟩)), (1, .int .u64 id_5)]) (H' := [⟨1, b_2, [.int .u64 t_1.now, .int .u64 t_1.next, .slice A_3 t_1.rows.length c_4]⟩]) (ps := []) (by kernel_rfl) trivial ?_
  refine GoO.regionEnd ?_
  refine GoO.seq' c37_2e ?_
  refine GoO.seq' c37_3e ?_
  refine GoO.region' (is := [0, 1]) c37_4e (by kernel_rfl) ?_
  refine GoO.exec (is := [0, 1]) (hs := [.p, .p]) (rest := []) (ks := [0, 1, 8]) (env' := [(0, .pointer (some ⟨b_2, 0, none⟩)), (1, .int .u64 id_5), (8, .bool true)]) (H' := [⟨1, b_2, [.int .u64 t_1.now, .int .u64 t_1.next, .slice A_3 t_1.rows.length c_4]⟩]) (ps := []) (by kernel_rfl) trivial ?_
  refine GoO.regionEnd ?_
  refine GoO.condT c37_5e (by kernel_rfl) ?_
  refine GoO.seq' c37_6e ?_
  refine GoO.region' (is := [0, 1, 2, 3, 4, 5]) c37_7e (by kernel_rfl) ?_
  refine GoO.exec (is := [0, 1, 2, 3, 4, 5]) (hs := [.p, .p, .p, .b 0, .p, .p]) (rest := []) (ks := [1, 12, 13, 14]) (env' := [(1, .int .u64 id_5), (12, .slice A_3 t_1.rows.length c_4), (13, .int .i64 (t_1.rows.length : Int)), (14, .int .i64 0)]) (H' := [⟨1, b_2, [.int .u64 t_1.now, .int .u64 t_1.next, .slice A_3 t_1.rows.length c_4]⟩]) (ps := [b_2 = b_2]) (by kernel_rfl) (And.intro rfl trivial) ?_
  refine GoO.regionEnd ?_
  refine GoO.block' c37_8e ?_
  refine GoO.loop' c37_9e ?_
  exact GoO.sub (ks := [1, 12, 13, 14]) (hk := [0]) (bk := [0]) (by kernel_rfl) (by kernel_rfl) (by kernel_rfl) (session_Table_find_l0_ok n t_1 id_5 b_2 A_3 c_4 w0 S0 n 0)

/-! (*tontine/session.Table).Begin -/
noncomputable def c18_0 : Code := bodyOf Try.f18
noncomputable def c18_1 : Code := cdL c18_0
noncomputable def c18_2 : Code := cdR c18_0
noncomputable def c18_3 : Code := cdL c18_2
noncomputable def c18_4 : Code := cdR c18_2
noncomputable def c18_5 : Code := cdL c18_4
noncomputable def c18_6 : Code := cdL c18_5
noncomputable def c18_7 : Code := cdR c18_5
noncomputable def c18_8 : Code := cdL c18_7
noncomputable def c18_9 : Code := cdL c18_8
noncomputable def c18_10 : Code := cdR c18_8
noncomputable def c18_11 : Code := cdR c18_7
noncomputable def c18_12 : Code := cdR c18_4
noncomputable def c18_13 : Code := cdL c18_12
noncomputable def c18_14 : Code := cdR c18_12
noncomputable def c18_15 : Code := cdL c18_14
noncomputable def c18_16 : Code := cdR c18_14
noncomputable def c18_17 : Code := cdL c18_16
noncomputable def c18_18 : Code := cdL c18_17
noncomputable def c18_19 : Code := cdL c18_18
noncomputable def c18_20 : Code := cdR c18_18
noncomputable def c18_21 : Code := cdL c18_20
noncomputable def c18_22 : Code := cdL c18_21
noncomputable def c18_23 : Code := cdR c18_21
noncomputable def c18_24 : Code := cdR c18_20
noncomputable def c18_25 : Code := cdL c18_24
noncomputable def c18_26 : Code := cdR c18_24
noncomputable def c18_27 : Code := cdL c18_26
noncomputable def c18_28 : Code := cdL c18_27
noncomputable def c18_29 : Code := cdR c18_27
noncomputable def c18_30 : Code := cdR c18_26
noncomputable def c18_31 : Code := cdR c18_16
noncomputable def c18_32 : Code := cdL c18_31
noncomputable def c18_33 : Code := cdR c18_31
noncomputable def r18_1 : Array Oper := cdO c18_1
noncomputable def r18_3 : Array Oper := cdO c18_3
noncomputable def r18_6 : Array Oper := cdO c18_6
noncomputable def r18_9 : Array Oper := cdO c18_9
noncomputable def r18_13 : Array Oper := cdO c18_13
noncomputable def r18_15 : Array Oper := cdO c18_15
noncomputable def r18_19 : Array Oper := cdO c18_19
noncomputable def r18_22 : Array Oper := cdO c18_22
noncomputable def r18_25 : Array Oper := cdO c18_25
noncomputable def r18_28 : Array Oper := cdO c18_28
noncomputable def r18_32 : Array Oper := cdO c18_32
theorem c18_0e : c18_0 = .seq c18_1 c18_2 := by kernel_rfl
theorem c18_1e : c18_1 = .region 0 r18_1 false := by kernel_rfl
theorem c18_2e : c18_2 = .seq c18_3 c18_4 := by kernel_rfl
theorem c18_3e : c18_3 = .region 1 r18_3 false := by kernel_rfl
theorem c18_4e : c18_4 = .seq c18_5 c18_12 := by kernel_rfl
theorem c18_5e : c18_5 = .seq c18_6 c18_7 := by kernel_rfl
theorem c18_6e : c18_6 = .region 2 r18_6 false := by kernel_rfl
theorem c18_7e : c18_7 = .cond (cdC c18_7) c18_8 c18_11 := by kernel_rfl
theorem c18_8e : c18_8 = .seq c18_9 c18_10 := by kernel_rfl
theorem c18_9e : c18_9 = .region 3 r18_9 false := by kernel_rfl
theorem c18_10e : c18_10 = .ret := by kernel_rfl
theorem c18_11e : c18_11 = .skip := by kernel_rfl
theorem c18_12e : c18_12 = .seq c18_13 c18_14 := by kernel_rfl
theorem c18_13e : c18_13 = .region 4 r18_13 false := by kernel_rfl
theorem c18_14e : c18_14 = .seq c18_15 c18_16 := by kernel_rfl
theorem c18_15e : c18_15 = .region 5 r18_15 false := by kernel_rfl
theorem c18_16e : c18_16 = .seq c18_17 c18_31 := by kernel_rfl
theorem c18_17e : c18_17 = .block 0 c18_18 := by kernel_rfl
theorem c18_18e : c18_18 = .seq c18_19 c18_20 := by kernel_rfl
theorem c18_19e : c18_19 = .region 6 r18_19 false := by kernel_rfl
theorem c18_20e : c18_20 = .cond (cdC c18_20) c18_21 c18_24 := by kernel_rfl
theorem c18_21e : c18_21 = .seq c18_22 c18_23 := by kernel_rfl
theorem c18_22e : c18_22 = .region 7 r18_22 false := by kernel_rfl
theorem c18_23e : c18_23 = .ret := by kernel_rfl
theorem c18_24e : c18_24 = .seq c18_25 c18_26 := by kernel_rfl
theorem c18_25e : c18_25 = .region 8 r18_25 false := by kernel_rfl
theorem c18_26e : c18_26 = .cond (cdC c18_26) c18_27 c18_30 := by kernel_rfl
theorem c18_27e : c18_27 = .seq c18_28 c18_29 := by kernel_rfl
theorem c18_28e : c18_28 = .region 9 r18_28 false := by kernel_rfl
theorem c18_29e : c18_29 = .ret := by kernel_rfl
theorem c18_30e : c18_30 = .skip := by kernel_rfl
theorem c18_31e : c18_31 = .seq c18_32 c18_33 := by kernel_rfl
theorem c18_32e : c18_32 = .region 10 r18_32 false := by kernel_rfl
theorem c18_33e : c18_33 = .ret := by kernel_rfl
noncomputable def session_Table_Begin.R (b_2 : Nat) (A_3 : Option Addr) (c_4 : Nat) : Pst (T_api_Reply × Bool × T_session_Table) where
  ε := Option Addr × Nat
  v := fun r x => .tuple ⟨[.agg ⟨[.int .i64 r.1.Err, .int .u64 r.1.Num, .int .u64 r.1.Extra]⟩, .bool r.2.1]⟩
  H := fun r x => [⟨1, b_2, [.int .u64 r.2.2.now, .int .u64 r.2.2.next, .slice x.1 r.2.2.rows.length x.2]⟩]
  B := fun r x => [Ow 2 kT_session_Row x.1 x.2 r.2.2.rows]
noncomputable def session_Table_Begin.cx (b_2 : Nat) (A_3 : Option Addr) (c_4 : Nat) (w0 : World) (S0 : Fam) : Cx (T_api_Reply × Bool × T_session_Table) := ⟨Try.prog, 18, Try.f18, 58, w0, S0, [1, 2], 2, session_Table_Begin.R b_2 A_3 c_4⟩
theorem session_Table_Begin_j0_ok (n : Nat) (t_1 : T_session_Table) (seq_6 : Int) (r_8 : Int) (b_2 : Nat) (A_3 : Option Addr) (c_4 : Nat) (b_7 : Nat) (w0 : World) (S0 : Fam) (b_12 : Bool) :
    GoO (session_Table_Begin.cx b_2 A_3 c_4 w0 S0) [(2, .int .u64 seq_6), (6, .pointer (some ⟨b_7, 0, none⟩)), (9, elemP A_3 r_8.toNat 6 0), (29, .bool b_12)] [⟨40, b_7, [.int .i64 0, .int .u64 0, .int .u64 0]⟩, ⟨1, b_2, [.int .u64 t_1.now, .int .u64 t_1.next, .slice A_3 (t_1.rows.set r_8.toNat (⟨(rdL t_1.rows r_8).Id, t_1.now, (rdL t_1.rows r_8).Seq, (⟨(rdL t_1.rows r_8).Reply.Err, (rdL t_1.rows r_8).Reply.Num, (rdL t_1.rows r_8).Reply.Extra⟩ : T_api_Reply)⟩ : T_session_Row)).length c_4]⟩] [Ow 2 kT_session_Row A_3 c_4 (t_1.rows.set r_8.toNat (⟨(rdL t_1.rows r_8).Id, t_1.now, (rdL t_1.rows r_8).Seq, (⟨(rdL t_1.rows r_8).Reply.Err, (rdL t_1.rows r_8).Reply.Num, (rdL t_1.rows r_8).Reply.Extra⟩ : T_api_Reply)⟩ : T_session_Row))] [.code c18_20, .inBlock 0, .code c18_31] (session_Table_Begin.j0 n t_1 seq_6 r_8 b_12) := by
  unfold session_Table_Begin.j0
  refine GoO.ite' c18_20e (by kernel_rfl) (fun h13 => ?_) (fun h13 => ?_)
  · refine GoO.seq' c18_21e ?_
    refine GoO.region' (is := [0, 1, 2, 3, 4, 5]) c18_22e (by kernel_rfl) ?_
    refine GoO.exec (is := [0]) (hs := [.p]) (rest := [1, 2, 3, 4, 5]) (ks := [6, 40]) (env' := [(6, .pointer (some ⟨b_7, 0, none⟩)), (40, elemP A_3 r_8.toNat 6 0)]) (H' := [⟨40, b_7, [.int .i64 0, .int .u64 0, .int .u64 0]⟩, ⟨1, b_2, [.int .u64 t_1.now, .int .u64 t_1.next, .slice A_3 (t_1.rows.set r_8.toNat (⟨(rdL t_1.rows r_8).Id, t_1.now, (rdL t_1.rows r_8).Seq, (⟨(rdL t_1.rows r_8).Reply.Err, (rdL t_1.rows r_8).Reply.Num, (rdL t_1.rows r_8).Reply.Extra⟩ : T_api_Reply)⟩ : T_session_Row)).length c_4]⟩]) (ps := []) (by kernel_rfl) trivial ?_
    refine GoO.guard (fun h14 => ?_)
    refine OpTo.go (GoO.nilE (K := kT_session_Row) (A := A_3) (c := c_4) (xs := t_1.rows.set r_8.toNat (⟨(rdL t_1.rows r_8).Id, t_1.now, (rdL t_1.rows r_8).Seq, (⟨(rdL t_1.rows r_8).Reply.Err, (rdL t_1.rows r_8).Reply.Num, (rdL t_1.rows r_8).Reply.Extra⟩ : T_api_Reply)⟩ : T_session_Row)) (iN := r_8.toNat) (off := 0) (j := 0) rfl (by kernel_rfl) rfl Reads.own h14 (by decide) rfl ?_)
    refine GoO.guard (fun h15 => ?_)
    refine OpTo.go (GoO.fldE (K := kT_session_Row) (A := A_3) (c := c_4) (xs := t_1.rows.set r_8.toNat (⟨(rdL t_1.rows r_8).Id, t_1.now, (rdL t_1.rows r_8).Seq, (⟨(rdL t_1.rows r_8).Reply.Err, (rdL t_1.rows r_8).Reply.Num, (rdL t_1.rows r_8).Reply.Extra⟩ : T_api_Reply)⟩ : T_session_Row)) (iN := r_8.toNat) (off := 0) (n := 3) (j := 0) rfl (by kernel_rfl) (by kernel_rfl) rfl Reads.own h15 (by decide) rfl ?_)
    refine GoO.guard (fun h16 => ?_)
    refine OpTo.go (GoO.ldE' (K := kT_session_Row) (A := A_3) (c := c_4) (xs := t_1.rows.set r_8.toNat (⟨(rdL t_1.rows r_8).Id, t_1.now, (rdL t_1.rows r_8).Seq, (⟨(rdL t_1.rows r_8).Reply.Err, (rdL t_1.rows r_8).Reply.Num, (rdL t_1.rows r_8).Reply.Extra⟩ : T_api_Reply)⟩ : T_session_Row)) (iN := r_8.toNat) (off := 3) (j := 0) rfl (by kernel_rfl) rfl Reads.own h16 (by decide) (Opn.flat _ _ _ _ _) (v := fun _ => .agg ⟨[.int .i64 ((rdL (t_1.rows.set r_8.toNat (⟨(rdL t_1.rows r_8).Id, t_1.now, (rdL t_1.rows r_8).Seq, (⟨(rdL t_1.rows r_8).Reply.Err, (rdL t_1.rows r_8).Reply.Num, (rdL t_1.rows r_8).Reply.Extra⟩ : T_api_Reply)⟩ : T_session_Row)) r_8).Reply.Err), .int .u64 ((rdL (t_1.rows.set r_8.toNat (⟨(rdL t_1.rows r_8).Id, t_1.now, (rdL t_1.rows r_8).Seq, (⟨(rdL t_1.rows r_8).Reply.Err, (rdL t_1.rows r_8).Reply.Num, (rdL t_1.rows r_8).Reply.Extra⟩ : T_api_Reply)⟩ : T_session_Row)) r_8).Reply.Num), .int .u64 ((rdL (t_1.rows.set r_8.toNat (⟨(rdL t_1.rows r_8).Id, t_1.now, (rdL t_1.rows r_8).Seq, (⟨(rdL t_1.rows r_8).Reply.Err, (rdL t_1.rows r_8).Reply.Num, (rdL t_1.rows r_8).Reply.Extra⟩ : T_api_Reply)⟩ : T_session_Row)) r_8).Reply.Extra)]⟩) (fun _ => by kernel_rfl) _ (fun _ => rfl) (fun _ => ?_))
    refine GoO.exec (is := [4, 5]) (hs := [.b 0, .p]) (rest := []) (ks := [6, 7]) (env' := [(6, .pointer (some ⟨b_7, 0, none⟩)), (7, .bool false)]) (H' := [⟨40, b_7, [.int .i64 ((rdL (t_1.rows.set r_8.toNat (⟨(rdL t_1.rows r_8).Id, t_1.now, (rdL t_1.rows r_8).Seq, (⟨(rdL t_1.rows r_8).Reply.Err, (rdL t_1.rows r_8).Reply.Num, (rdL t_1.rows r_8).Reply.Extra⟩ : T_api_Reply)⟩ : T_session_Row)) r_8).Reply.Err), .int .u64 ((rdL (t_1.rows.set r_8.toNat (⟨(rdL t_1.rows r_8).Id, t_1.now, (rdL t_1.rows r_8).Seq, (⟨(rdL t_1.rows r_8).Reply.Err, (rdL t_1.rows r_8).Reply.Num, (rdL t_1.rows r_8).Reply.Extra⟩ : T_api_Reply)⟩ : T_session_Row)) r_8).Reply.Num), .int .u64 ((rdL (t_1.rows.set r_8.toNat (⟨(rdL t_1.rows r_8).Id, t_1.now, (rdL t_1.rows r_8).Seq, (⟨(rdL t_1.rows r_8).Reply.Err, (rdL t_1.rows r_8).Reply.Num, (rdL t_1.rows r_8).Reply.Extra⟩ : T_api_Reply)⟩ : T_session_Row)) r_8).Reply.Extra)]⟩, ⟨1, b_2, [.int .u64 t_1.now, .int .u64 t_1.next, .slice A_3 (t_1.rows.set r_8.toNat (⟨(rdL t_1.rows r_8).Id, t_1.now, (rdL t_1.rows r_8).Seq, (⟨(rdL t_1.rows r_8).Reply.Err, (rdL t_1.rows r_8).Reply.Num, (rdL t_1.rows r_8).Reply.Extra⟩ : T_api_Reply)⟩ : T_session_Row)).length c_4]⟩]) (ps := [b_7 = b_7]) (by kernel_rfl) (And.intro rfl trivial) ?_
    refine GoO.regionEnd ?_
    exact GoO.ret' (h := c18_23e) (hs := [0]) (ps := [b_7 = b_7]) (hk := [1]) (bk := [0]) Try.func18 (⟨A_3, c_4⟩ : Option Addr × Nat) (by kernel_rfl) (And.intro rfl trivial) (by kernel_rfl) (by kernel_rfl)
  · refine GoO.seq' c18_24e ?_
    refine GoO.region' (is := [0, 1, 2, 3, 4, 5, 6, 7, 8, 9, 10, 11]) c18_25e (by kernel_rfl) ?_
    refine GoO.exec (is := [0, 1]) (hs := [.p, .p]) (rest := [2, 3, 4, 5, 6, 7, 8, 9, 10, 11]) (ks := [2, 6, 45, 46]) (env' := [(2, .int .u64 seq_6), (6, .pointer (some ⟨b_7, 0, none⟩)), (45, .int .u64 seq_6), (46, elemP A_3 r_8.toNat 6 0)]) (H' := [⟨40, b_7, [.int .i64 0, .int .u64 0, .int .u64 0]⟩, ⟨1, b_2, [.int .u64 t_1.now, .int .u64 t_1.next, .slice A_3 (t_1.rows.set r_8.toNat (⟨(rdL t_1.rows r_8).Id, t_1.now, (rdL t_1.rows r_8).Seq, (⟨(rdL t_1.rows r_8).Reply.Err, (rdL t_1.rows r_8).Reply.Num, (rdL t_1.rows r_8).Reply.Extra⟩ : T_api_Reply)⟩ : T_session_Row)).length c_4]⟩]) (ps := []) (by kernel_rfl) trivial ?_
    refine GoO.guard (fun h17 => ?_)
    refine OpTo.go (GoO.nilE (K := kT_session_Row) (A := A_3) (c := c_4) (xs := t_1.rows.set r_8.toNat (⟨(rdL t_1.rows r_8).Id, t_1.now, (rdL t_1.rows r_8).Seq, (⟨(rdL t_1.rows r_8).Reply.Err, (rdL t_1.rows r_8).Reply.Num, (rdL t_1.rows r_8).Reply.Extra⟩ : T_api_Reply)⟩ : T_session_Row)) (iN := r_8.toNat) (off := 0) (j := 0) rfl (by kernel_rfl) rfl Reads.own h17 (by decide) rfl ?_)
    refine GoO.guard (fun h18 => ?_)
    refine OpTo.go (GoO.fldE (K := kT_session_Row) (A := A_3) (c := c_4) (xs := t_1.rows.set r_8.toNat (⟨(rdL t_1.rows r_8).Id, t_1.now, (rdL t_1.rows r_8).Seq, (⟨(rdL t_1.rows r_8).Reply.Err, (rdL t_1.rows r_8).Reply.Num, (rdL t_1.rows r_8).Reply.Extra⟩ : T_api_Reply)⟩ : T_session_Row)) (iN := r_8.toNat) (off := 0) (n := 2) (j := 0) rfl (by kernel_rfl) (by kernel_rfl) rfl Reads.own h18 (by decide) rfl ?_)
    refine GoO.guard (fun h19 => ?_)
    refine OpTo.go (GoO.ldE' (K := kT_session_Row) (A := A_3) (c := c_4) (xs := t_1.rows.set r_8.toNat (⟨(rdL t_1.rows r_8).Id, t_1.now, (rdL t_1.rows r_8).Seq, (⟨(rdL t_1.rows r_8).Reply.Err, (rdL t_1.rows r_8).Reply.Num, (rdL t_1.rows r_8).Reply.Extra⟩ : T_api_Reply)⟩ : T_session_Row)) (iN := r_8.toNat) (off := 2) (j := 0) rfl (by kernel_rfl) rfl Reads.own h19 (by decide) (Opn.flat _ _ _ _ _) (v := fun _ => .int .u64 ((rdL (t_1.rows.set r_8.toNat (⟨(rdL t_1.rows r_8).Id, t_1.now, (rdL t_1.rows r_8).Seq, (⟨(rdL t_1.rows r_8).Reply.Err, (rdL t_1.rows r_8).Reply.Num, (rdL t_1.rows r_8).Reply.Extra⟩ : T_api_Reply)⟩ : T_session_Row)) r_8).Seq)) (fun _ => by kernel_rfl) _ (fun _ => rfl) (fun _ => ?_))
    refine GoO.exec (is := [5, 6, 7]) (hs := [.p, .p, .p]) (rest := [8, 9, 10, 11]) (ks := [2, 6, 52]) (env' := [(2, .int .u64 seq_6), (6, .pointer (some ⟨b_7, 0, none⟩)), (52, .bool (seq_6 != (wu64 (((rdL (t_1.rows.set r_8.toNat (⟨(rdL t_1.rows r_8).Id, t_1.now, (rdL t_1.rows r_8).Seq, (⟨(rdL t_1.rows r_8).Reply.Err, (rdL t_1.rows r_8).Reply.Num, (rdL t_1.rows r_8).Reply.Extra⟩ : T_api_Reply)⟩ : T_session_Row)) r_8).Seq) + 1))))]) (H' := [⟨40, b_7, [.int .i64 0, .int .u64 0, .int .u64 0]⟩, ⟨1, b_2, [.int .u64 t_1.now, .int .u64 t_1.next, .slice A_3 (t_1.rows.set r_8.toNat (⟨(rdL t_1.rows r_8).Id, t_1.now, (rdL t_1.rows r_8).Seq, (⟨(rdL t_1.rows r_8).Reply.Err, (rdL t_1.rows r_8).Reply.Num, (rdL t_1.rows r_8).Reply.Extra⟩ : T_api_Reply)⟩ : T_session_Row)).length c_4]⟩]) (ps := []) (by kernel_rfl) trivial ?_
    refine GoO.bsplit (t := 52) (by kernel_rfl) (fun h20 => ?_) (fun h20 => ?_)
    · refine GoO.exec (is := [8, 9, 10, 11]) (hs := [.p, .p, .p, .p]) (rest := []) (ks := [6, 44]) (env' := [(6, .pointer (some ⟨b_7, 0, none⟩)), (44, .bool true)]) (H' := [⟨40, b_7, [.int .i64 0, .int .u64 0, .int .u64 0]⟩, ⟨1, b_2, [.int .u64 t_1.now, .int .u64 t_1.next, .slice A_3 (t_1.rows.set r_8.toNat (⟨(rdL t_1.rows r_8).Id, t_1.now, (rdL t_1.rows r_8).Seq, (⟨(rdL t_1.rows r_8).Reply.Err, (rdL t_1.rows r_8).Reply.Num, (rdL t_1.rows r_8).Reply.Extra⟩ : T_api_Reply)⟩ : T_session_Row)).length c_4]⟩]) (ps := []) (by kernel_rfl) trivial ?_
      refine GoO.regionEnd ?_
      refine GoO.condT c18_26e (by kernel_rfl) ?_
      refine GoO.seq' c18_27e ?_
      refine GoO.region' (is := [0, 1, 2]) c18_28e (by kernel_rfl) ?_
      refine GoO.exec (is := [0, 1, 2]) (hs := [.p, .b 0, .p]) (rest := []) (ks := [6, 7]) (env' := [(6, .pointer (some ⟨b_7, 0, none⟩)), (7, .bool false)]) (H' := [⟨40, b_7, [.int .i64 41, .int .u64 0, .int .u64 0]⟩, ⟨1, b_2, [.int .u64 t_1.now, .int .u64 t_1.next, .slice A_3 (t_1.rows.set r_8.toNat (⟨(rdL t_1.rows r_8).Id, t_1.now, (rdL t_1.rows r_8).Seq, (⟨(rdL t_1.rows r_8).Reply.Err, (rdL t_1.rows r_8).Reply.Num, (rdL t_1.rows r_8).Reply.Extra⟩ : T_api_Reply)⟩ : T_session_Row)).length c_4]⟩]) (ps := [b_7 = b_7]) (by kernel_rfl) (And.intro rfl trivial) ?_
      refine GoO.regionEnd ?_
      exact GoO.ret' (h := c18_29e) (hs := [0]) (ps := [b_7 = b_7]) (hk := [1]) (bk := [0]) Try.func18 (⟨A_3, c_4⟩ : Option Addr × Nat) (by kernel_rfl) (And.intro rfl trivial) (by kernel_rfl) (by kernel_rfl)
    · refine GoO.exec (is := [8, 9, 10, 11]) (hs := [.p, .p, .p, .p]) (rest := []) (ks := [6, 44]) (env' := [(6, .pointer (some ⟨b_7, 0, none⟩)), (44, .bool (seq_6 == 0))]) (H' := [⟨40, b_7, [.int .i64 0, .int .u64 0, .int .u64 0]⟩, ⟨1, b_2, [.int .u64 t_1.now, .int .u64 t_1.next, .slice A_3 (t_1.rows.set r_8.toNat (⟨(rdL t_1.rows r_8).Id, t_1.now, (rdL t_1.rows r_8).Seq, (⟨(rdL t_1.rows r_8).Reply.Err, (rdL t_1.rows r_8).Reply.Num, (rdL t_1.rows r_8).Reply.Extra⟩ : T_api_Reply)⟩ : T_session_Row)).length c_4]⟩]) (ps := []) (by kernel_rfl) trivial ?_
      refine GoO.regionEnd ?_
      refine GoO.ite' c18_26e (by kernel_rfl) (fun h21 => ?_) (fun h21 => ?_)
      · refine GoO.seq' c18_27e ?_
        refine GoO.region' (is := [0, 1, 2]) c18_28e (by kernel_rfl) ?_
        refine GoO.exec (is := [0, 1, 2]) (hs := [.p, .b 0, .p]) (rest := []) (ks := [6, 7]) (env' := [(6, .pointer (some ⟨b_7, 0, none⟩)), (7, .bool false)]) (H' := [⟨40, b_7, [.int .i64 41, .int .u64 0, .int .u64 0]⟩, ⟨1, b_2, [.int .u64 t_1.now, .int .u64 t_1.next, .slice A_3 (t_1.rows.set r_8.toNat (⟨(rdL t_1.rows r_8).Id, t_1.now, (rdL t_1.rows r_8).Seq, (⟨(rdL t_1.rows r_8).Reply.Err, (rdL t_1.rows r_8).Reply.Num, (rdL t_1.rows r_8).Reply.Extra⟩ : T_api_Reply)⟩ : T_session_Row)).length c_4]⟩]) (ps := [b_7 = b_7]) (by kernel_rfl) (And.intro rfl trivial) ?_
        refine GoO.regionEnd ?_
        exact GoO.ret' (h := c18_29e) (hs := [0]) (ps := [b_7 = b_7]) (hk := [1]) (bk := [0]) Try.func18 (⟨A_3, c_4⟩ : Option Addr × Nat) (by kernel_rfl) (And.intro rfl trivial) (by kernel_rfl) (by kernel_rfl)
      · refine GoO.skip' c18_30e ?_
        refine GoO.inBlock ?_
        refine GoO.seq' c18_31e ?_
        refine GoO.region' (is := [0, 1, 2]) c18_32e (by kernel_rfl) ?_
        refine GoO.exec (is := [0, 1, 2]) (hs := [.p, .b 0, .p]) (rest := []) (ks := [6, 7]) (env' := [(6, .pointer (some ⟨b_7, 0, none⟩)), (7, .bool true)]) (H' := [⟨40, b_7, [.int .i64 0, .int .u64 0, .int .u64 0]⟩, ⟨1, b_2, [.int .u64 t_1.now, .int .u64 t_1.next, .slice A_3 (t_1.rows.set r_8.toNat (⟨(rdL t_1.rows r_8).Id, t_1.now, (rdL t_1.rows r_8).Seq, (⟨(rdL t_1.rows r_8).Reply.Err, (rdL t_1.rows r_8).Reply.Num, (rdL t_1.rows r_8).Reply.Extra⟩ : T_api_Reply)⟩ : T_session_Row)).length c_4]⟩]) (ps := [b_7 = b_7]) (by kernel_rfl) (And.intro rfl trivial) ?_
        refine GoO.regionEnd ?_
        exact GoO.ret' (h := c18_33e) (hs := [0]) (ps := [b_7 = b_7]) (hk := [1]) (bk := [0]) Try.func18 (⟨A_3, c_4⟩ : Option Addr × Nat) (by kernel_rfl) (And.intro rfl trivial) (by kernel_rfl) (by kernel_rfl)
theorem session_Table_Begin_ok (n : Nat) (t_1 : T_session_Table) (id_5 : Int) (seq_6 : Int) (b_2 : Nat) (A_3 : Option Addr) (c_4 : Nat) :
    Meets Try.prog 18 [.pointer (some ⟨b_2, 0, none⟩), .int .u64 id_5, .int .u64 seq_6] 2 [1, 2] [⟨1, b_2, [.int .u64 t_1.now, .int .u64 t_1.next, .slice A_3 t_1.rows.length c_4]⟩] [Ow 2 kT_session_Row A_3 c_4 t_1.rows] (session_Table_Begin.f n t_1 id_5 seq_6) (session_Table_Begin.R b_2 A_3 c_4) := by
  refine Meets.of (c := c18_0) (n := 58) Try.func18 (by kernel_rfl) (by kernel_rfl) (by kernel_rfl) fun w0 S0 => ?_
  unfold session_Table_Begin.f
  show GoO (session_Table_Begin.cx b_2 A_3 c_4 w0 S0) [(0, .pointer (some ⟨b_2, 0, none⟩)), (1, .int .u64 id_5), (2, .int .u64 seq_6)] [⟨1, b_2, [.int .u64 t_1.now, .int .u64 t_1.next, .slice A_3 t_1.rows.length c_4]⟩] [Ow 2 kT_session_Row A_3 c_4 t_1.rows] [.code c18_0] _
  refine GoO.seq' c18_0e ?_
  refine GoO.region' (is := [0, 1]) c18_1e (by kernel_rfl) ?_
  refine OpTo.go (GoO.new rfl 40 (cs := [.int .i64 0, .int .u64 0, .int .u64 0]) (by kernel_rfl) _ (fun _ => rfl) (fun b_7 => ?_))
  refine GoO.exec (is := [1]) (hs := [.p]) (rest := []) (ks := [0, 1, 2, 6]) (env' := [(0, .pointer (some ⟨b_2, 0, none⟩)), (1, .int .u64 id_5), (2, .int .u64 seq_6), (6, .pointer (some ⟨b_7, 0, none⟩))]) (H' := [⟨40, b_7, [.int .i64 0, .int .u64 0, .int .u64 0]⟩, ⟨1, b_2, [.int .u64 t_1.now, .int .u64 t_1.next, .slice A_3 t_1.rows.length c_4]⟩]) (ps := []) (by kernel_rfl) trivial ?_
  refine GoO.regionEnd ?_
  refine GoO.seq' c18_2e ?_
  refine GoO.region' (is := [0, 1, 2, 3]) c18_3e (by kernel_rfl) ?_
  refine GoO.exec (is := [0, 1]) (hs := [.p, .p]) (rest := [2, 3]) (ks := [0, 2, 6, 10, 11]) (env' := [(0, .pointer (some ⟨b_2, 0, none⟩)), (2, .int .u64 seq_6), (6, .pointer (some ⟨b_7, 0, none⟩)), (10, .pointer (some ⟨b_2, 0, none⟩)), (11, .int .u64 id_5)]) (H' := [⟨40, b_7, [.int .i64 0, .int .u64 0, .int .u64 0]⟩, ⟨1, b_2, [.int .u64 t_1.now, .int .u64 t_1.next, .slice A_3 t_1.rows.length c_4]⟩]) (ps := []) (by kernel_rfl) trivial ?_
  refine OpTo.go (GoO.call rfl (by kernel_rfl) (by kernel_rfl) (session_Table_find_ok n t_1 id_5 b_2 A_3 c_4) [[0], [1], [2]] [] [(1, 1)] [(2, 0)] (hks := [0, 1]) (bks := [0]) (by kernel_rfl) (by kernel_rfl) (by kernel_rfl) (.inl rfl) rfl rfl (by kernel_rfl) (by kernel_rfl) _ (fun _ _ => rfl) _ _ (fun _ _ => rfl) (fun _ _ => rfl) (fun _ _ => by kernel_rfl) (fun _ _ => by kernel_rfl) (fun r_8 x_22 => ?_))
  refine GoO.shape (env' := [(0, .pointer (some ⟨b_2, 0, none⟩)), (2, .int .u64 seq_6), (6, .pointer (some ⟨b_7, 0, none⟩)), (10, .pointer (some ⟨b_2, 0, none⟩)), (11, .int .u64 id_5), (12, .int .i64 r_8)]) (H' := [⟨40, b_7, [.int .i64 0, .int .u64 0, .int .u64 0]⟩, ⟨1, b_2, [.int .u64 t_1.now, .int .u64 t_1.next, .slice A_3 t_1.rows.length c_4]⟩]) (B' := [Ow 2 kT_session_Row A_3 c_4 t_1.rows]) (ks := [0, 2, 6, 10, 11, 12]) (by kernel_rfl) (by kernel_rfl) (by kernel_rfl) ?_
  refine GoO.exec (is := [3]) (hs := [.p]) (rest := []) (ks := [0, 2, 6, 8]) (env' := [(0, .pointer (some ⟨b_2, 0, none⟩)), (2, .int .u64 seq_6), (6, .pointer (some ⟨b_7, 0, none⟩)), (8, .int .i64 r_8)]) (H' := [⟨40, b_7, [.int .i64 0, .int .u64 0, .int .u64 0]⟩, ⟨1, b_2, [.int .u64 t_1.now, .int .u64 t_1.next, .slice A_3 t_1.rows.length c_4]⟩]) (ps := []) (by kernel_rfl) trivial ?_
  refine GoO.regionEnd ?_
  refine GoO.seq' c18_4e ?_
  refine GoO.seq' c18_5e ?_
  refine GoO.region' (is := [0, 1]) c18_6e (by kernel_rfl) ?_
  refine GoO.exec (is := [0, 1]) (hs := [.p, .p]) (rest := []) (ks := [0, 2, 6, 8, 14]) (env' := [(0, .pointer (some ⟨b_2, 0, none⟩)), (2, .int .u64 seq_6), (6, .pointer (some ⟨b_7, 0, none⟩)), (8, .int .i64 r_8), (14, .bool (decide (r_8 < 0)))]) (H' := [⟨40, b_7, [.int .i64 0, .int .u64 0, .int .u64 0]⟩, ⟨1, b_2, [.int .u64 t_1.now, .int .u64 t_1.next, .slice A_3 t_1.rows.length c_4]⟩]) (ps := []) (by kernel_rfl) trivial ?_
  refine GoO.regionEnd ?_
  refine GoO.ite' c18_7e (by kernel_rfl) (fun h9 => ?_) (fun h9 => ?_)
  · refine GoO.seq' c18_8e ?_
    refine GoO.region' (is := [0, 1, 2]) c18_9e (by kernel_rfl) ?_
    refine GoO.exec (is := [0, 1, 2]) (hs := [.p, .b 0, .p]) (rest := []) (ks := [6, 7]) (env' := [(6, .pointer (some ⟨b_7, 0, none⟩)), (7, .bool false)]) (H' := [⟨40, b_7, [.int .i64 40, .int .u64 0, .int .u64 0]⟩, ⟨1, b_2, [.int .u64 t_1.now, .int .u64 t_1.next, .slice A_3 t_1.rows.length c_4]⟩]) (ps := [b_7 = b_7]) (by kernel_rfl) (And.intro rfl trivial) ?_
    refine GoO.regionEnd ?_
    exact GoO.ret' (h := c18_10e) (hs := [0]) (ps := [b_7 = b_7]) (hk := [1]) (bk := [0]) Try.func18 (⟨A_3, c_4⟩ : Option Addr × Nat) (by kernel_rfl) (And.intro rfl trivial) (by kernel_rfl) (by kernel_rfl)
  · refine GoO.skip' c18_11e ?_
    refine GoO.seq' c18_12e ?_
    refine GoO.region' (is := [0, 1, 2, 3, 4, 5, 6]) c18_13e (by kernel_rfl) ?_
    refine GoO.exec (is := [0, 1, 2, 3, 4]) (hs := [.p, .p, .p, .b 1, .p]) (rest := [5, 6]) (ks := [0, 2, 6, 19, 20]) (env' := [(0, .pointer (some ⟨b_2, 0, none⟩)), (2, .int .u64 seq_6), (6, .pointer (some ⟨b_7, 0, none⟩)), (19, .slice A_3 t_1.rows.length c_4), (20, .int .i64 r_8)]) (H' := [⟨40, b_7, [.int .i64 0, .int .u64 0, .int .u64 0]⟩, ⟨1, b_2, [.int .u64 t_1.now, .int .u64 t_1.next, .slice A_3 t_1.rows.length c_4]⟩]) (ps := [b_2 = b_2]) (by kernel_rfl) (And.intro rfl trivial) ?_
    refine GoO.guard (fun h10 => ?_)
    refine OpTo.go (GoO.idx (kk := .i64) (e := 87) (K := kT_session_Row) (A := A_3) (c := c_4) (xs := t_1.rows) (iv := r_8) (j := 0) rfl (by kernel_rfl) (by kernel_rfl) (by kernel_rfl) (by kernel_rfl) rfl Reads.own rfl h10.1 h10.2 (by decide) rfl ?_)
    refine GoO.exec (is := [6]) (hs := [.p]) (rest := []) (ks := [0, 2, 6, 9]) (env' := [(0, .pointer (some ⟨b_2, 0, none⟩)), (2, .int .u64 seq_6), (6, .pointer (some ⟨b_7, 0, none⟩)), (9, elemP A_3 r_8.toNat 6 0)]) (H' := [⟨40, b_7, [.int .i64 0, .int .u64 0, .int .u64 0]⟩, ⟨1, b_2, [.int .u64 t_1.now, .int .u64 t_1.next, .slice A_3 t_1.rows.length c_4]⟩]) (ps := []) (by kernel_rfl) trivial ?_
    refine GoO.regionEnd ?_
    refine GoO.seq' c18_14e ?_
    refine GoO.region' (is := [0, 1, 2, 3, 4, 5, 6, 7]) c18_15e (by kernel_rfl) ?_
    refine GoO.exec (is := [0, 1, 2, 3, 4]) (hs := [.p, .p, .p, .p, .b 1]) (rest := [5, 6, 7]) (ks := [2, 6, 9, 22, 26]) (env' := [(2, .int .u64 seq_6), (6, .pointer (some ⟨b_7, 0, none⟩)), (9, elemP A_3 r_8.toNat 6 0), (22, elemP A_3 r_8.toNat 6 0), (26, .int .u64 t_1.now)]) (H' := [⟨40, b_7, [.int .i64 0, .int .u64 0, .int .u64 0]⟩, ⟨1, b_2, [.int .u64 t_1.now, .int .u64 t_1.next, .slice A_3 t_1.rows.length c_4]⟩]) (ps := [b_2 = b_2]) (by kernel_rfl) (And.intro rfl trivial) ?_
    refine OpTo.go (GoO.nilE (K := kT_session_Row) (A := A_3) (c := c_4) (xs := t_1.rows) (iN := r_8.toNat) (off := 0) (j := 0) rfl (by kernel_rfl) rfl Reads.own (by first | exact idx_lt h10.1 h10.2 | (simp only [List.length_set]; exact idx_lt h10.1 h10.2)) (by decide) rfl ?_)
    refine OpTo.go (GoO.fldE (K := kT_session_Row) (A := A_3) (c := c_4) (xs := t_1.rows) (iN := r_8.toNat) (off := 0) (n := 1) (j := 0) rfl (by kernel_rfl) (by kernel_rfl) rfl Reads.own (by first | exact idx_lt h10.1 h10.2 | (simp only [List.length_set]; exact idx_lt h10.1 h10.2)) (by decide) rfl ?_)
    refine OpTo.go (GoO.stE (K := kT_session_Row) (A := A_3) (c := c_4) (xs := t_1.rows) (iN := r_8.toNat) (off := 1) (tg := 2) (j := 0) (v := .int .u64 t_1.now) rfl (by kernel_rfl) (by kernel_rfl) rfl (by first | exact idx_lt h10.1 h10.2 | (simp only [List.length_set]; exact idx_lt h10.1 h10.2)) (by decide) (by kernel_rfl) (by kernel_rfl) (by kernel_rfl) ((⟨(rdL t_1.rows r_8).Id, t_1.now, (rdL t_1.rows r_8).Seq, (⟨(rdL t_1.rows r_8).Reply.Err, (rdL t_1.rows r_8).Reply.Num, (rdL t_1.rows r_8).Reply.Extra⟩ : T_api_Reply)⟩ : T_session_Row)) (fun w S cs _ hr => ⟨_, by subst hr; exact stored_flat rfl, rfl⟩) rfl ?_)
    refine GoO.rebox (j := 1) (t := 1) (b := b_2) (cs := [.int .u64 t_1.now, .int .u64 t_1.next, .slice A_3 t_1.rows.length c_4]) (cs' := [.int .u64 t_1.now, .int .u64 t_1.next, .slice A_3 (t_1.rows.set r_8.toNat (⟨(rdL t_1.rows r_8).Id, t_1.now, (rdL t_1.rows r_8).Seq, (⟨(rdL t_1.rows r_8).Reply.Err, (rdL t_1.rows r_8).Reply.Num, (rdL t_1.rows r_8).Reply.Extra⟩ : T_api_Reply)⟩ : T_session_Row)).length c_4]) (by kernel_rfl) (by simp) ?_
    refine GoO.regionEnd ?_
    refine GoO.seq' c18_16e ?_
    refine GoO.block' c18_17e ?_
    refine GoO.seq' c18_18e ?_
    refine GoO.region' (is := [0, 1, 2, 3, 4, 5, 6, 7, 8, 9, 10]) c18_19e (by kernel_rfl) ?_
    refine GoO.exec (is := [0, 1]) (hs := [.p, .p]) (rest := [2, 3, 4, 5, 6, 7, 8, 9, 10]) (ks := [2, 6, 9, 30, 31]) (env' := [(2, .int .u64 seq_6), (6, .pointer (some ⟨b_7, 0, none⟩)), (9, elemP A_3 r_8.toNat 6 0), (30, .int .u64 seq_6), (31, elemP A_3 r_8.toNat 6 0)]) (H' := [⟨40, b_7, [.int .i64 0, .int .u64 0, .int .u64 0]⟩, ⟨1, b_2, [.int .u64 t_1.now, .int .u64 t_1.next, .slice A_3 (t_1.rows.set r_8.toNat (⟨(rdL t_1.rows r_8).Id, t_1.now, (rdL t_1.rows r_8).Seq, (⟨(rdL t_1.rows r_8).Reply.Err, (rdL t_1.rows r_8).Reply.Num, (rdL t_1.rows r_8).Reply.Extra⟩ : T_api_Reply)⟩ : T_session_Row)).length c_4]⟩]) (ps := []) (by kernel_rfl) trivial ?_
    refine OpTo.go (GoO.nilE (K := kT_session_Row) (A := A_3) (c := c_4) (xs := t_1.rows.set r_8.toNat (⟨(rdL t_1.rows r_8).Id, t_1.now, (rdL t_1.rows r_8).Seq, (⟨(rdL t_1.rows r_8).Reply.Err, (rdL t_1.rows r_8).Reply.Num, (rdL t_1.rows r_8).Reply.Extra⟩ : T_api_Reply)⟩ : T_session_Row)) (iN := r_8.toNat) (off := 0) (j := 0) rfl (by kernel_rfl) rfl Reads.own (by first | exact idx_lt h10.1 h10.2 | (simp only [List.length_set]; exact idx_lt h10.1 h10.2)) (by decide) rfl ?_)
    refine OpTo.go (GoO.fldE (K := kT_session_Row) (A := A_3) (c := c_4) (xs := t_1.rows.set r_8.toNat (⟨(rdL t_1.rows r_8).Id, t_1.now, (rdL t_1.rows r_8).Seq, (⟨(rdL t_1.rows r_8).Reply.Err, (rdL t_1.rows r_8).Reply.Num, (rdL t_1.rows r_8).Reply.Extra⟩ : T_api_Reply)⟩ : T_session_Row)) (iN := r_8.toNat) (off := 0) (n := 2) (j := 0) rfl (by kernel_rfl) (by kernel_rfl) rfl Reads.own (by first | exact idx_lt h10.1 h10.2 | (simp only [List.length_set]; exact idx_lt h10.1 h10.2)) (by decide) rfl ?_)
    refine OpTo.go (GoO.ldE' (K := kT_session_Row) (A := A_3) (c := c_4) (xs := t_1.rows.set r_8.toNat (⟨(rdL t_1.rows r_8).Id, t_1.now, (rdL t_1.rows r_8).Seq, (⟨(rdL t_1.rows r_8).Reply.Err, (rdL t_1.rows r_8).Reply.Num, (rdL t_1.rows r_8).Reply.Extra⟩ : T_api_Reply)⟩ : T_session_Row)) (iN := r_8.toNat) (off := 2) (j := 0) rfl (by kernel_rfl) rfl Reads.own (by first | exact idx_lt h10.1 h10.2 | (simp only [List.length_set]; exact idx_lt h10.1 h10.2)) (by decide) (Opn.flat _ _ _ _ _) (v := fun _ => .int .u64 ((rdL (t_1.rows.set r_8.toNat (⟨(rdL t_1.rows r_8).Id, t_1.now, (rdL t_1.rows r_8).Seq, (⟨(rdL t_1.rows r_8).Reply.Err, (rdL t_1.rows r_8).Reply.Num, (rdL t_1.rows r_8).Reply.Extra⟩ : T_api_Reply)⟩ : T_session_Row)) r_8).Seq)) (fun _ => by kernel_rfl) _ (fun _ => rfl) (fun _ => ?_))
    refine GoO.exec (is := [5, 6]) (hs := [.p, .p]) (rest := [7, 8, 9, 10]) (ks := [2, 6, 9, 36]) (env' := [(2, .int .u64 seq_6), (6, .pointer (some ⟨b_7, 0, none⟩)), (9, elemP A_3 r_8.toNat 6 0), (36, .bool (seq_6 == ((rdL (t_1.rows.set r_8.toNat (⟨(rdL t_1.rows r_8).Id, t_1.now, (rdL t_1.rows r_8).Seq, (⟨(rdL t_1.rows r_8).Reply.Err, (rdL t_1.rows r_8).Reply.Num, (rdL t_1.rows r_8).Reply.Extra⟩ : T_api_Reply)⟩ : T_session_Row)) r_8).Seq)))]) (H' := [⟨40, b_7, [.int .i64 0, .int .u64 0, .int .u64 0]⟩, ⟨1, b_2, [.int .u64 t_1.now, .int .u64 t_1.next, .slice A_3 (t_1.rows.set r_8.toNat (⟨(rdL t_1.rows r_8).Id, t_1.now, (rdL t_1.rows r_8).Seq, (⟨(rdL t_1.rows r_8).Reply.Err, (rdL t_1.rows r_8).Reply.Num, (rdL t_1.rows r_8).Reply.Extra⟩ : T_api_Reply)⟩ : T_session_Row)).length c_4]⟩]) (ps := []) (by kernel_rfl) trivial ?_
    refine GoO.bsplit (t := 36) (by kernel_rfl) (fun h11 => ?_) (fun h11 => ?_)
    · refine GoO.exec (is := [7, 8, 9, 10]) (hs := [.p, .p, .p, .p]) (rest := []) (ks := [2, 6, 9, 29]) (env' := [(2, .int .u64 seq_6), (6, .pointer (some ⟨b_7, 0, none⟩)), (9, elemP A_3 r_8.toNat 6 0), (29, .bool (decide (seq_6 > 0)))]) (H' := [⟨40, b_7, [.int .i64 0, .int .u64 0, .int .u64 0]⟩, ⟨1, b_2, [.int .u64 t_1.now, .int .u64 t_1.next, .slice A_3 (t_1.rows.set r_8.toNat (⟨(rdL t_1.rows r_8).Id, t_1.now, (rdL t_1.rows r_8).Seq, (⟨(rdL t_1.rows r_8).Reply.Err, (rdL t_1.rows r_8).Reply.Num, (rdL t_1.rows r_8).Reply.Extra⟩ : T_api_Reply)⟩ : T_session_Row)).length c_4]⟩]) (ps := []) (by kernel_rfl) trivial ?_
      refine GoO.regionEnd ?_
      exact GoO.sub (ks := [2, 6, 9, 29]) (hk := [0, 1]) (bk := [0]) (by kernel_rfl) (by kernel_rfl) (by kernel_rfl) (session_Table_Begin_j0_ok n t_1 seq_6 r_8 b_2 A_3 c_4 b_7 w0 S0 (decide (seq_6 > 0)))
    · refine GoO.exec (is := [7, 8, 9, 10]) (hs := [.p, .p, .p, .p]) (rest := []) (ks := [2, 6, 9, 29]) (env' := [(2, .int .u64 seq_6), (6, .pointer (some ⟨b_7, 0, none⟩)), (9, elemP A_3 r_8.toNat 6 0), (29, .bool false)]) (H' := [⟨40, b_7, [.int .i64 0, .int .u64 0, .int .u64 0]⟩, ⟨1, b_2, [.int .u64 t_1.now, .int .u64 t_1.next, .slice A_3 (t_1.rows.set r_8.toNat (⟨(rdL t_1.rows r_8).Id, t_1.now, (rdL t_1.rows r_8).Seq, (⟨(rdL t_1.rows r_8).Reply.Err, (rdL t_1.rows r_8).Reply.Num, (rdL t_1.rows r_8).Reply.Extra⟩ : T_api_Reply)⟩ : T_session_Row)).length c_4]⟩]) (ps := []) (by kernel_rfl) trivial ?_
      refine GoO.regionEnd ?_
      exact GoO.sub (ks := [2, 6, 9, 29]) (hk := [0, 1]) (bk := [0]) (by kernel_rfl) (by kernel_rfl) (by kernel_rfl) (session_Table_Begin_j0_ok n t_1 seq_6 r_8 b_2 A_3 c_4 b_7 w0 S0 false)

/-! (*tontine/session.Table).End -/
noncomputable def c19_0 : Code := bodyOf Try.f19
noncomputable def c19_1 : Code := cdL c19_0
noncomputable def c19_2 : Code := cdR c19_0
noncomputable def c19_3 : Code := cdL c19_2
noncomputable def c19_4 : Code := cdR c19_2
noncomputable def c19_5 : Code := cdL c19_4
noncomputable def c19_6 : Code := cdL c19_5
noncomputable def c19_7 : Code := cdR c19_5
noncomputable def c19_8 : Code := cdL c19_7
noncomputable def c19_9 : Code := cdL c19_8
noncomputable def c19_10 : Code := cdR c19_8
noncomputable def c19_11 : Code := cdR c19_7
noncomputable def c19_12 : Code := cdR c19_4
noncomputable def c19_13 : Code := cdL c19_12
noncomputable def c19_14 : Code := cdR c19_12
noncomputable def c19_15 : Code := cdL c19_14
noncomputable def c19_16 : Code := cdR c19_14
noncomputable def r19_1 : Array Oper := cdO c19_1
noncomputable def r19_3 : Array Oper := cdO c19_3
noncomputable def r19_6 : Array Oper := cdO c19_6
noncomputable def r19_9 : Array Oper := cdO c19_9
noncomputable def r19_13 : Array Oper := cdO c19_13
noncomputable def r19_15 : Array Oper := cdO c19_15
theorem c19_0e : c19_0 = .seq c19_1 c19_2 := by kernel_rfl
theorem c19_1e : c19_1 = .region 0 r19_1 false := by kernel_rfl
theorem c19_2e : c19_2 = .seq c19_3 c19_4 := by kernel_rfl
theorem c19_3e : c19_3 = .region 1 r19_3 false := by kernel_rfl
theorem c19_4e : c19_4 = .seq c19_5 c19_12 := by kernel_rfl
theorem c19_5e : c19_5 = .seq c19_6 c19_7 := by kernel_rfl
theorem c19_6e : c19_6 = .region 2 r19_6 false := by kernel_rfl
theorem c19_7e : c19_7 = .cond (cdC c19_7) c19_8 c19_11 := by kernel_rfl
theorem c19_8e : c19_8 = .seq c19_9 c19_10 := by kernel_rfl
theorem c19_9e : c19_9 = .region 3 r19_9 false := by kernel_rfl
theorem c19_10e : c19_10 = .ret := by kernel_rfl
theorem c19_11e : c19_11 = .skip := by kernel_rfl
theorem c19_12e : c19_12 = .seq c19_13 c19_14 := by kernel_rfl
theorem c19_13e : c19_13 = .region 4 r19_13 true := by kernel_rfl
theorem c19_14e : c19_14 = .seq c19_15 c19_16 := by kernel_rfl
theorem c19_15e : c19_15 = .region 5 r19_15 false := by kernel_rfl
theorem c19_16e : c19_16 = .ret := by kernel_rfl
noncomputable def session_Table_End.R (b_2 : Nat) (A_3 : Option Addr) (c_4 : Nat) : Pst (Bool × T_session_Table) where
  ε := Option Addr × Nat
  v := fun r x => .bool r.1
  H := fun r x => [⟨1, b_2, [.int .u64 r.2.now, .int .u64 r.2.next, .slice x.1 r.2.rows.length x.2]⟩]
  B := fun r x => [Ow 2 kT_session_Row x.1 x.2 r.2.rows]
noncomputable def session_Table_End.cx (b_2 : Nat) (A_3 : Option Addr) (c_4 : Nat) (w0 : World) (S0 : Fam) : Cx (Bool × T_session_Table) := ⟨Try.prog, 19, Try.f19, 48, w0, S0, [1, 2], 2, session_Table_End.R b_2 A_3 c_4⟩
theorem session_Table_End_j0_ok (n : Nat) (t_1 : T_session_Table) (seq_6 : Int) (y_7 : T_api_Reply) (r_9 : Int) (b_2 : Nat) (A_3 : Option Addr) (c_4 : Nat) (b_8 : Nat) (w0 : World) (S0 : Fam) (b_13 : Bool) :
    GoO (session_Table_End.cx b_2 A_3 c_4 w0 S0) [(0, .pointer (some ⟨b_2, 0, none⟩)), (2, .int .u64 seq_6), (7, .pointer (some ⟨b_8, 0, none⟩)), (9, .int .i64 r_9), (31, .bool b_13)] [⟨1, b_2, [.int .u64 t_1.now, .int .u64 t_1.next, .slice A_3 t_1.rows.length c_4]⟩, ⟨40, b_8, [.int .i64 y_7.Err, .int .u64 y_7.Num, .int .u64 y_7.Extra]⟩] [Ow 2 kT_session_Row A_3 c_4 t_1.rows] [.code c19_7, .code c19_12] (session_Table_End.j0 n t_1 seq_6 y_7 r_9 b_13) := by
  unfold session_Table_End.j0
  refine GoO.ite' c19_7e (by kernel_rfl) (fun h14 => ?_) (fun h14 => ?_)
  · refine GoO.seq' c19_8e ?_
    refine GoO.region' (is := [0]) c19_9e (by kernel_rfl) ?_
    refine GoO.exec (is := [0]) (hs := [.p]) (rest := []) (ks := [8]) (env' := [(8, .bool false)]) (H' := [⟨1, b_2, [.int .u64 t_1.now, .int .u64 t_1.next, .slice A_3 t_1.rows.length c_4]⟩, ⟨40, b_8, [.int .i64 y_7.Err, .int .u64 y_7.Num, .int .u64 y_7.Extra]⟩]) (ps := []) (by kernel_rfl) trivial ?_
    refine GoO.regionEnd ?_
    exact GoO.ret' (h := c19_10e) (hs := []) (ps := []) (hk := [0]) (bk := [0]) Try.func19 (⟨A_3, c_4⟩ : Option Addr × Nat) (by kernel_rfl) trivial (by kernel_rfl) (by kernel_rfl)
  · refine GoO.skip' c19_11e ?_
    refine GoO.seq' c19_12e ?_
    refine GoO.draw c19_13e (by kernel_rfl) [15, 16, 17] [⟨1, b_2, [.int .u64 t_1.now, .int .u64 t_1.next, .slice A_3 t_1.rows.length c_4]⟩, ⟨40, b_8, [.int .i64 y_7.Err, .int .u64 y_7.Num, .int .u64 y_7.Extra]⟩] [] (n := 18) (by kernel_rfl) ?_
    simp only [List.replicate]
    refine GoF.take [0, 1, 2, 3, 4, 5, 6, 7, 8, 9, 10, 11] [.p, .p, .p, .b 0, .p, .p, .p, .p, .b 0, .p, .p, .b 1] (ks := [35, 36, 40, 41, 42, 43]) (fu := 6) (li := [true, true, true, true, true, true, true, true, true, true, true, true, false, false, false, false, false, false]) (env' := [(35, .slice A_3 t_1.rows.length c_4), (36, .int .i64 r_9), (40, .slice A_3 t_1.rows.length c_4), (41, .int .i64 r_9), (42, .int .u64 seq_6), (43, .agg ⟨[.int .i64 y_7.Err, .int .u64 y_7.Num, .int .u64 y_7.Extra]⟩)]) (ps := [b_2 = b_2, b_2 = b_2, b_8 = b_8]) (hk := [0, 1]) (bk := []) (by kernel_rfl) (And.intro rfl (And.intro rfl (And.intro rfl trivial))) rfl rfl ?_
    refine GoF.guard (fun h15 => ?_)
    refine OpTo.goF (i := 12) (by kernel_rfl) (hk := [0, 1]) (bk := []) (GoO.idx (kk := .i64) (e := 87) (K := kT_session_Row) (A := A_3) (c := c_4) (xs := t_1.rows) (iv := r_9) (j := 0) rfl (by kernel_rfl) (by kernel_rfl) (by kernel_rfl) (by kernel_rfl) rfl Reads.own rfl h15.1 h15.2 (by decide) rfl ⟨rfl, rfl, ?_⟩)
    refine OpTo.goF (i := 13) (by kernel_rfl) (hk := [0, 1]) (bk := []) (GoO.fldE (K := kT_session_Row) (A := A_3) (c := c_4) (xs := t_1.rows) (iN := r_9.toNat) (off := 0) (n := 2) (j := 0) rfl (by kernel_rfl) (by kernel_rfl) rfl Reads.own (by first | exact idx_lt h15.1 h15.2 | (simp only [List.length_set]; exact idx_lt h15.1 h15.2)) (by decide) rfl ⟨rfl, rfl, ?_⟩)
    refine OpTo.goF (i := 14) (by kernel_rfl) (hk := [0, 1]) (bk := []) (GoO.stE (K := kT_session_Row) (A := A_3) (c := c_4) (xs := t_1.rows) (iN := r_9.toNat) (off := 2) (tg := 2) (j := 0) (v := .int .u64 seq_6) rfl (by kernel_rfl) (by kernel_rfl) rfl (by first | exact idx_lt h15.1 h15.2 | (simp only [List.length_set]; exact idx_lt h15.1 h15.2)) (by decide) (by kernel_rfl) (by kernel_rfl) (by kernel_rfl) ((⟨(rdL t_1.rows r_9).Id, (rdL t_1.rows r_9).Used, seq_6, (⟨(rdL t_1.rows r_9).Reply.Err, (rdL t_1.rows r_9).Reply.Num, (rdL t_1.rows r_9).Reply.Extra⟩ : T_api_Reply)⟩ : T_session_Row)) (fun w S cs _ hr => ⟨_, by subst hr; exact stored_flat rfl, rfl⟩) rfl ⟨rfl, rfl, ?_⟩)
    refine GoF.reval (t := 35) (v := .slice A_3 t_1.rows.length c_4) (v' := .slice A_3 (t_1.rows.set r_9.toNat (⟨(rdL t_1.rows r_9).Id, (rdL t_1.rows r_9).Used, seq_6, (⟨(rdL t_1.rows r_9).Reply.Err, (rdL t_1.rows r_9).Reply.Num, (rdL t_1.rows r_9).Reply.Extra⟩ : T_api_Reply)⟩ : T_session_Row)).length c_4) (by kernel_rfl) (by simp) ?_
    refine GoF.reval (t := 40) (v := .slice A_3 t_1.rows.length c_4) (v' := .slice A_3 (t_1.rows.set r_9.toNat (⟨(rdL t_1.rows r_9).Id, (rdL t_1.rows r_9).Used, seq_6, (⟨(rdL t_1.rows r_9).Reply.Err, (rdL t_1.rows r_9).Reply.Num, (rdL t_1.rows r_9).Reply.Extra⟩ : T_api_Reply)⟩ : T_session_Row)).length c_4) (by kernel_rfl) (by simp) ?_
    refine GoF.rebox (j := 0) (t := 1) (b := b_2) (cs := [.int .u64 t_1.now, .int .u64 t_1.next, .slice A_3 t_1.rows.length c_4]) (cs' := [.int .u64 t_1.now, .int .u64 t_1.next, .slice A_3 (t_1.rows.set r_9.toNat (⟨(rdL t_1.rows r_9).Id, (rdL t_1.rows r_9).Used, seq_6, (⟨(rdL t_1.rows r_9).Reply.Err, (rdL t_1.rows r_9).Reply.Num, (rdL t_1.rows r_9).Reply.Extra⟩ : T_api_Reply)⟩ : T_session_Row)).length c_4]) (by kernel_rfl) (by simp) ?_
    refine GoF.guard (fun h16 => ?_)
    refine OpTo.goE (i := 15) (by kernel_rfl) rfl (GoO.idx (kk := .i64) (e := 87) (K := kT_session_Row) (A := A_3) (c := c_4) (xs := t_1.rows.set r_9.toNat (⟨(rdL t_1.rows r_9).Id, (rdL t_1.rows r_9).Used, seq_6, (⟨(rdL t_1.rows r_9).Reply.Err, (rdL t_1.rows r_9).Reply.Num, (rdL t_1.rows r_9).Reply.Extra⟩ : T_api_Reply)⟩ : T_session_Row)) (iv := r_9) (j := 0) rfl (by kernel_rfl) (by kernel_rfl) (by kernel_rfl) (by kernel_rfl) rfl Reads.own rfl h16.1 h16.2 (by decide) rfl ?_)
    refine OpTo.goE (i := 16) (by kernel_rfl) rfl (GoO.fldE (K := kT_session_Row) (A := A_3) (c := c_4) (xs := t_1.rows.set r_9.toNat (⟨(rdL t_1.rows r_9).Id, (rdL t_1.rows r_9).Used, seq_6, (⟨(rdL t_1.rows r_9).Reply.Err, (rdL t_1.rows r_9).Reply.Num, (rdL t_1.rows r_9).Reply.Extra⟩ : T_api_Reply)⟩ : T_session_Row)) (iN := r_9.toNat) (off := 0) (n := 3) (j := 0) rfl (by kernel_rfl) (by kernel_rfl) rfl Reads.own (by first | exact idx_lt h16.1 h16.2 | (simp only [List.length_set]; exact idx_lt h16.1 h16.2)) (by decide) rfl ?_)
    refine OpTo.goE (i := 17) (by kernel_rfl) rfl (GoO.stE (K := kT_session_Row) (A := A_3) (c := c_4) (xs := t_1.rows.set r_9.toNat (⟨(rdL t_1.rows r_9).Id, (rdL t_1.rows r_9).Used, seq_6, (⟨(rdL t_1.rows r_9).Reply.Err, (rdL t_1.rows r_9).Reply.Num, (rdL t_1.rows r_9).Reply.Extra⟩ : T_api_Reply)⟩ : T_session_Row)) (iN := r_9.toNat) (off := 3) (tg := 2) (j := 0) (v := .agg ⟨[.int .i64 y_7.Err, .int .u64 y_7.Num, .int .u64 y_7.Extra]⟩) rfl (by kernel_rfl) (by kernel_rfl) rfl (by first | exact idx_lt h16.1 h16.2 | (simp only [List.length_set]; exact idx_lt h16.1 h16.2)) (by decide) (by kernel_rfl) (by kernel_rfl) (by kernel_rfl) ((⟨(rdL (t_1.rows.set r_9.toNat (⟨(rdL t_1.rows r_9).Id, (rdL t_1.rows r_9).Used, seq_6, (⟨(rdL t_1.rows r_9).Reply.Err, (rdL t_1.rows r_9).Reply.Num, (rdL t_1.rows r_9).Reply.Extra⟩ : T_api_Reply)⟩ : T_session_Row)) r_9).Id, (rdL (t_1.rows.set r_9.toNat (⟨(rdL t_1.rows r_9).Id, (rdL t_1.rows r_9).Used, seq_6, (⟨(rdL t_1.rows r_9).Reply.Err, (rdL t_1.rows r_9).Reply.Num, (rdL t_1.rows r_9).Reply.Extra⟩ : T_api_Reply)⟩ : T_session_Row)) r_9).Used, (rdL (t_1.rows.set r_9.toNat (⟨(rdL t_1.rows r_9).Id, (rdL t_1.rows r_9).Used, seq_6, (⟨(rdL t_1.rows r_9).Reply.Err, (rdL t_1.rows r_9).Reply.Num, (rdL t_1.rows r_9).Reply.Extra⟩ : T_api_Reply)⟩ : T_session_Row)) r_9).Seq, y_7⟩ : T_session_Row)) (fun w S cs _ hr => ⟨_, by subst hr; exact stored_flat rfl, rfl⟩) rfl ?_)
    refine GoF.reval (t := 35) (v := .slice A_3 (t_1.rows.set r_9.toNat (⟨(rdL t_1.rows r_9).Id, (rdL t_1.rows r_9).Used, seq_6, (⟨(rdL t_1.rows r_9).Reply.Err, (rdL t_1.rows r_9).Reply.Num, (rdL t_1.rows r_9).Reply.Extra⟩ : T_api_Reply)⟩ : T_session_Row)).length c_4) (v' := .slice A_3 ((t_1.rows.set r_9.toNat (⟨(rdL t_1.rows r_9).Id, (rdL t_1.rows r_9).Used, seq_6, (⟨(rdL t_1.rows r_9).Reply.Err, (rdL t_1.rows r_9).Reply.Num, (rdL t_1.rows r_9).Reply.Extra⟩ : T_api_Reply)⟩ : T_session_Row)).set r_9.toNat (⟨(rdL (t_1.rows.set r_9.toNat (⟨(rdL t_1.rows r_9).Id, (rdL t_1.rows r_9).Used, seq_6, (⟨(rdL t_1.rows r_9).Reply.Err, (rdL t_1.rows r_9).Reply.Num, (rdL t_1.rows r_9).Reply.Extra⟩ : T_api_Reply)⟩ : T_session_Row)) r_9).Id, (rdL (t_1.rows.set r_9.toNat (⟨(rdL t_1.rows r_9).Id, (rdL t_1.rows r_9).Used, seq_6, (⟨(rdL t_1.rows r_9).Reply.Err, (rdL t_1.rows r_9).Reply.Num, (rdL t_1.rows r_9).Reply.Extra⟩ : T_api_Reply)⟩ : T_session_Row)) r_9).Used, (rdL (t_1.rows.set r_9.toNat (⟨(rdL t_1.rows r_9).Id, (rdL t_1.rows r_9).Used, seq_6, (⟨(rdL t_1.rows r_9).Reply.Err, (rdL t_1.rows r_9).Reply.Num, (rdL t_1.rows r_9).Reply.Extra⟩ : T_api_Reply)⟩ : T_session_Row)) r_9).Seq, y_7⟩ : T_session_Row)).length c_4) (by kernel_rfl) (by simp) ?_
    refine GoF.reval (t := 40) (v := .slice A_3 (t_1.rows.set r_9.toNat (⟨(rdL t_1.rows r_9).Id, (rdL t_1.rows r_9).Used, seq_6, (⟨(rdL t_1.rows r_9).Reply.Err, (rdL t_1.rows r_9).Reply.Num, (rdL t_1.rows r_9).Reply.Extra⟩ : T_api_Reply)⟩ : T_session_Row)).length c_4) (v' := .slice A_3 ((t_1.rows.set r_9.toNat (⟨(rdL t_1.rows r_9).Id, (rdL t_1.rows r_9).Used, seq_6, (⟨(rdL t_1.rows r_9).Reply.Err, (rdL t_1.rows r_9).Reply.Num, (rdL t_1.rows r_9).Reply.Extra⟩ : T_api_Reply)⟩ : T_session_Row)).set r_9.toNat (⟨(rdL (t_1.rows.set r_9.toNat (⟨(rdL t_1.rows r_9).Id, (rdL t_1.rows r_9).Used, seq_6, (⟨(rdL t_1.rows r_9).Reply.Err, (rdL t_1.rows r_9).Reply.Num, (rdL t_1.rows r_9).Reply.Extra⟩ : T_api_Reply)⟩ : T_session_Row)) r_9).Id, (rdL (t_1.rows.set r_9.toNat (⟨(rdL t_1.rows r_9).Id, (rdL t_1.rows r_9).Used, seq_6, (⟨(rdL t_1.rows r_9).Reply.Err, (rdL t_1.rows r_9).Reply.Num, (rdL t_1.rows r_9).Reply.Extra⟩ : T_api_Reply)⟩ : T_session_Row)) r_9).Used, (rdL (t_1.rows.set r_9.toNat (⟨(rdL t_1.rows r_9).Id, (rdL t_1.rows r_9).Used, seq_6, (⟨(rdL t_1.rows r_9).Reply.Err, (rdL t_1.rows r_9).Reply.Num, (rdL t_1.rows r_9).Reply.Extra⟩ : T_api_Reply)⟩ : T_session_Row)) r_9).Seq, y_7⟩ : T_session_Row)).length c_4) (by kernel_rfl) (by simp) ?_
    refine GoF.rebox (j := 0) (t := 1) (b := b_2) (cs := [.int .u64 t_1.now, .int .u64 t_1.next, .slice A_3 (t_1.rows.set r_9.toNat (⟨(rdL t_1.rows r_9).Id, (rdL t_1.rows r_9).Used, seq_6, (⟨(rdL t_1.rows r_9).Reply.Err, (rdL t_1.rows r_9).Reply.Num, (rdL t_1.rows r_9).Reply.Extra⟩ : T_api_Reply)⟩ : T_session_Row)).length c_4]) (cs' := [.int .u64 t_1.now, .int .u64 t_1.next, .slice A_3 ((t_1.rows.set r_9.toNat (⟨(rdL t_1.rows r_9).Id, (rdL t_1.rows r_9).Used, seq_6, (⟨(rdL t_1.rows r_9).Reply.Err, (rdL t_1.rows r_9).Reply.Num, (rdL t_1.rows r_9).Reply.Extra⟩ : T_api_Reply)⟩ : T_session_Row)).set r_9.toNat (⟨(rdL (t_1.rows.set r_9.toNat (⟨(rdL t_1.rows r_9).Id, (rdL t_1.rows r_9).Used, seq_6, (⟨(rdL t_1.rows r_9).Reply.Err, (rdL t_1.rows r_9).Reply.Num, (rdL t_1.rows r_9).Reply.Extra⟩ : T_api_Reply)⟩ : T_session_Row)) r_9).Id, (rdL (t_1.rows.set r_9.toNat (⟨(rdL t_1.rows r_9).Id, (rdL t_1.rows r_9).Used, seq_6, (⟨(rdL t_1.rows r_9).Reply.Err, (rdL t_1.rows r_9).Reply.Num, (rdL t_1.rows r_9).Reply.Extra⟩ : T_api_Reply)⟩ : T_session_Row)) r_9).Used, (rdL (t_1.rows.set r_9.toNat (⟨(rdL t_1.rows r_9).Id, (rdL t_1.rows r_9).Used, seq_6, (⟨(rdL t_1.rows r_9).Reply.Err, (rdL t_1.rows r_9).Reply.Num, (rdL t_1.rows r_9).Reply.Extra⟩ : T_api_Reply)⟩ : T_session_Row)) r_9).Seq, y_7⟩ : T_session_Row)).length c_4]) (by kernel_rfl) (by simp) ?_
    refine GoF.done (by kernel_rfl) ?_
    refine GoO.seq' c19_14e ?_
    refine GoO.region' (is := [0]) c19_15e (by kernel_rfl) ?_
    refine GoO.exec (is := [0]) (hs := [.p]) (rest := []) (ks := [8]) (env' := [(8, .bool true)]) (H' := [⟨1, b_2, [.int .u64 t_1.now, .int .u64 t_1.next, .slice A_3 ((t_1.rows.set r_9.toNat (⟨(rdL t_1.rows r_9).Id, (rdL t_1.rows r_9).Used, seq_6, (⟨(rdL t_1.rows r_9).Reply.Err, (rdL t_1.rows r_9).Reply.Num, (rdL t_1.rows r_9).Reply.Extra⟩ : T_api_Reply)⟩ : T_session_Row)).set r_9.toNat (⟨(rdL (t_1.rows.set r_9.toNat (⟨(rdL t_1.rows r_9).Id, (rdL t_1.rows r_9).Used, seq_6, (⟨(rdL t_1.rows r_9).Reply.Err, (rdL t_1.rows r_9).Reply.Num, (rdL t_1.rows r_9).Reply.Extra⟩ : T_api_Reply)⟩ : T_session_Row)) r_9).Id, (rdL (t_1.rows.set r_9.toNat (⟨(rdL t_1.rows r_9).Id, (rdL t_1.rows r_9).Used, seq_6, (⟨(rdL t_1.rows r_9).Reply.Err, (rdL t_1.rows r_9).Reply.Num, (rdL t_1.rows r_9).Reply.Extra⟩ : T_api_Reply)⟩ : T_session_Row)) r_9).Used, (rdL (t_1.rows.set r_9.toNat (⟨(rdL t_1.rows r_9).Id, (rdL t_1.rows r_9).Used, seq_6, (⟨(rdL t_1.rows r_9).Reply.Err, (rdL t_1.rows r_9).Reply.Num, (rdL t_1.rows r_9).Reply.Extra⟩ : T_api_Reply)⟩ : T_session_Row)) r_9).Seq, y_7⟩ : T_session_Row)).length c_4]⟩, ⟨40, b_8, [.int .i64 y_7.Err, .int .u64 y_7.Num, .int .u64 y_7.Extra]⟩]) (ps := []) (by kernel_rfl) trivial ?_
    refine GoO.regionEnd ?_
    exact GoO.ret' (h := c19_16e) (hs := []) (ps := []) (hk := [0]) (bk := [0]) Try.func19 (⟨A_3, c_4⟩ : Option Addr × Nat) (by kernel_rfl) trivial (by kernel_rfl) (by kernel_rfl)
theorem session_Table_End_ok (n : Nat) (t_1 : T_session_Table) (id_5 : Int) (seq_6 : Int) (y_7 : T_api_Reply) (b_2 : Nat) (A_3 : Option Addr) (c_4 : Nat) :
    Meets Try.prog 19 [.pointer (some ⟨b_2, 0, none⟩), .int .u64 id_5, .int .u64 seq_6, .agg ⟨[.int .i64 y_7.Err, .int .u64 y_7.Num, .int .u64 y_7.Extra]⟩] 2 [1, 2] [⟨1, b_2, [.int .u64 t_1.now, .int .u64 t_1.next, .slice A_3 t_1.rows.length c_4]⟩] [Ow 2 kT_session_Row A_3 c_4 t_1.rows] (session_Table_End.f n t_1 id_5 seq_6 y_7) (session_Table_End.R b_2 A_3 c_4) := by
  refine Meets.of (c := c19_0) (n := 48) Try.func19 (by kernel_rfl) (by kernel_rfl) (by kernel_rfl) fun w0 S0 => ?_
  unfold session_Table_End.f
  show GoO (session_Table_End.cx b_2 A_3 c_4 w0 S0) [(0, .pointer (some ⟨b_2, 0, none⟩)), (1, .int .u64 id_5), (2, .int .u64 seq_6), (3, .agg ⟨[.int .i64 y_7.Err, .int .u64 y_7.Num, .int .u64 y_7.Extra]⟩)] [⟨1, b_2, [.int .u64 t_1.now, .int .u64 t_1.next, .slice A_3 t_1.rows.length c_4]⟩] [Ow 2 kT_session_Row A_3 c_4 t_1.rows] [.code c19_0] _
  refine GoO.seq' c19_0e ?_
  refine GoO.region' (is := [0, 1]) c19_1e (by kernel_rfl) ?_
  refine OpTo.go (GoO.new rfl 40 (cs := [.int .i64 y_7.Err, .int .u64 y_7.Num, .int .u64 y_7.Extra]) (by kernel_rfl) _ (fun _ => rfl) (fun b_8 => ?_))
  refine GoO.exec (is := [1]) (hs := [.p]) (rest := []) (ks := [0, 1, 2, 7]) (env' := [(0, .pointer (some ⟨b_2, 0, none⟩)), (1, .int .u64 id_5), (2, .int .u64 seq_6), (7, .pointer (some ⟨b_8, 0, none⟩))]) (H' := [⟨40, b_8, [.int .i64 y_7.Err, .int .u64 y_7.Num, .int .u64 y_7.Extra]⟩, ⟨1, b_2, [.int .u64 t_1.now, .int .u64 t_1.next, .slice A_3 t_1.rows.length c_4]⟩]) (ps := []) (by kernel_rfl) trivial ?_
  refine GoO.regionEnd ?_
  refine GoO.seq' c19_2e ?_
  refine GoO.region' (is := [0, 1, 2, 3]) c19_3e (by kernel_rfl) ?_
  refine GoO.exec (is := [0, 1]) (hs := [.p, .p]) (rest := [2, 3]) (ks := [0, 2, 7, 10, 11]) (env' := [(0, .pointer (some ⟨b_2, 0, none⟩)), (2, .int .u64 seq_6), (7, .pointer (some ⟨b_8, 0, none⟩)), (10, .pointer (some ⟨b_2, 0, none⟩)), (11, .int .u64 id_5)]) (H' := [⟨40, b_8, [.int .i64 y_7.Err, .int .u64 y_7.Num, .int .u64 y_7.Extra]⟩, ⟨1, b_2, [.int .u64 t_1.now, .int .u64 t_1.next, .slice A_3 t_1.rows.length c_4]⟩]) (ps := []) (by kernel_rfl) trivial ?_
  refine OpTo.go (GoO.call rfl (by kernel_rfl) (by kernel_rfl) (session_Table_find_ok n t_1 id_5 b_2 A_3 c_4) [[0], [1], [2]] [] [(1, 1)] [(2, 0)] (hks := [0, 1]) (bks := [0]) (by kernel_rfl) (by kernel_rfl) (by kernel_rfl) (.inl rfl) rfl rfl (by kernel_rfl) (by kernel_rfl) _ (fun _ _ => rfl) _ _ (fun _ _ => rfl) (fun _ _ => rfl) (fun _ _ => by kernel_rfl) (fun _ _ => by kernel_rfl) (fun r_9 x_17 => ?_))
  refine GoO.shape (env' := [(0, .pointer (some ⟨b_2, 0, none⟩)), (2, .int .u64 seq_6), (7, .pointer (some ⟨b_8, 0, none⟩)), (10, .pointer (some ⟨b_2, 0, none⟩)), (11, .int .u64 id_5), (12, .int .i64 r_9)]) (H' := [⟨40, b_8, [.int .i64 y_7.Err, .int .u64 y_7.Num, .int .u64 y_7.Extra]⟩, ⟨1, b_2, [.int .u64 t_1.now, .int .u64 t_1.next, .slice A_3 t_1.rows.length c_4]⟩]) (B' := [Ow 2 kT_session_Row A_3 c_4 t_1.rows]) (ks := [0, 2, 7, 10, 11, 12]) (by kernel_rfl) (by kernel_rfl) (by kernel_rfl) ?_
  refine GoO.exec (is := [3]) (hs := [.p]) (rest := []) (ks := [0, 2, 7, 9]) (env' := [(0, .pointer (some ⟨b_2, 0, none⟩)), (2, .int .u64 seq_6), (7, .pointer (some ⟨b_8, 0, none⟩)), (9, .int .i64 r_9)]) (H' := [⟨40, b_8, [.int .i64 y_7.Err, .int .u64 y_7.Num, .int .u64 y_7.Extra]⟩, ⟨1, b_2, [.int .u64 t_1.now, .int .u64 t_1.next, .slice A_3 t_1.rows.length c_4]⟩]) (ps := []) (by kernel_rfl) trivial ?_
  refine GoO.regionEnd ?_
  refine GoO.seq' c19_4e ?_
  refine GoO.seq' c19_5e ?_
  refine GoO.region' (is := [0, 1, 2, 3, 4, 5, 6, 7, 8, 9, 10, 11, 12, 13, 14, 15, 16, 17, 18]) c19_6e (by kernel_rfl) ?_
  refine GoO.exec (is := [0, 1, 2]) (hs := [.p, .p, .p]) (rest := [3, 4, 5, 6, 7, 8, 9, 10, 11, 12, 13, 14, 15, 16, 17, 18]) (ks := [0, 2, 7, 9, 15]) (env' := [(0, .pointer (some ⟨b_2, 0, none⟩)), (2, .int .u64 seq_6), (7, .pointer (some ⟨b_8, 0, none⟩)), (9, .int .i64 r_9), (15, .bool (decide (r_9 < 0)))]) (H' := [⟨40, b_8, [.int .i64 y_7.Err, .int .u64 y_7.Num, .int .u64 y_7.Extra]⟩, ⟨1, b_2, [.int .u64 t_1.now, .int .u64 t_1.next, .slice A_3 t_1.rows.length c_4]⟩]) (ps := []) (by kernel_rfl) trivial ?_
  refine GoO.bsplit (t := 15) (by kernel_rfl) (fun h10 => ?_) (fun h10 => ?_)
  · refine GoO.exec (is := [3, 4, 5, 6, 7, 8, 9, 10, 11, 12, 13, 14, 15, 16, 17, 18]) (hs := [.p, .p, .p, .p, .p, .p, .p, .p, .p, .p, .p, .p, .p, .p, .p, .p]) (rest := []) (ks := [0, 2, 7, 9, 31]) (env' := [(0, .pointer (some ⟨b_2, 0, none⟩)), (2, .int .u64 seq_6), (7, .pointer (some ⟨b_8, 0, none⟩)), (9, .int .i64 r_9), (31, .bool true)]) (H' := [⟨40, b_8, [.int .i64 y_7.Err, .int .u64 y_7.Num, .int .u64 y_7.Extra]⟩, ⟨1, b_2, [.int .u64 t_1.now, .int .u64 t_1.next, .slice A_3 t_1.rows.length c_4]⟩]) (ps := []) (by kernel_rfl) trivial ?_
    refine GoO.regionEnd ?_
    exact GoO.sub (ks := [0, 2, 7, 9, 31]) (hk := [1, 0]) (bk := [0]) (by kernel_rfl) (by kernel_rfl) (by kernel_rfl) (session_Table_End_j0_ok n t_1 seq_6 y_7 r_9 b_2 A_3 c_4 b_8 w0 S0 true)
  · refine GoO.exec (is := [3, 4, 5, 6]) (hs := [.p, .p, .p, .p]) (rest := [7, 8, 9, 10, 11, 12, 13, 14, 15, 16, 17, 18]) (ks := [0, 2, 7, 9, 19]) (env' := [(0, .pointer (some ⟨b_2, 0, none⟩)), (2, .int .u64 seq_6), (7, .pointer (some ⟨b_8, 0, none⟩)), (9, .int .i64 r_9), (19, .bool (seq_6 == 0))]) (H' := [⟨40, b_8, [.int .i64 y_7.Err, .int .u64 y_7.Num, .int .u64 y_7.Extra]⟩, ⟨1, b_2, [.int .u64 t_1.now, .int .u64 t_1.next, .slice A_3 t_1.rows.length c_4]⟩]) (ps := []) (by kernel_rfl) trivial ?_
    refine GoO.bsplit (t := 19) (by kernel_rfl) (fun h11 => ?_) (fun h11 => ?_)
    · refine GoO.exec (is := [7, 8, 9, 10, 11, 12, 13, 14, 15, 16, 17, 18]) (hs := [.p, .p, .p, .p, .p, .p, .p, .p, .p, .p, .p, .p]) (rest := []) (ks := [0, 2, 7, 9, 31]) (env' := [(0, .pointer (some ⟨b_2, 0, none⟩)), (2, .int .u64 seq_6), (7, .pointer (some ⟨b_8, 0, none⟩)), (9, .int .i64 r_9), (31, .bool true)]) (H' := [⟨40, b_8, [.int .i64 y_7.Err, .int .u64 y_7.Num, .int .u64 y_7.Extra]⟩, ⟨1, b_2, [.int .u64 t_1.now, .int .u64 t_1.next, .slice A_3 t_1.rows.length c_4]⟩]) (ps := []) (by kernel_rfl) trivial ?_
      refine GoO.regionEnd ?_
      exact GoO.sub (ks := [0, 2, 7, 9, 31]) (hk := [1, 0]) (bk := [0]) (by kernel_rfl) (by kernel_rfl) (by kernel_rfl) (session_Table_End_j0_ok n t_1 seq_6 y_7 r_9 b_2 A_3 c_4 b_8 w0 S0 true)
    · refine GoO.exec (is := [7, 8, 9, 10, 11, 12]) (hs := [.p, .p, .p, .p, .b 1, .p]) (rest := [13, 14, 15, 16, 17, 18]) (ks := [0, 2, 7, 9, 19, 20, 24, 25]) (env' := [(0, .pointer (some ⟨b_2, 0, none⟩)), (2, .int .u64 seq_6), (7, .pointer (some ⟨b_8, 0, none⟩)), (9, .int .i64 r_9), (19, .bool false), (20, .int .u64 seq_6), (24, .slice A_3 t_1.rows.length c_4), (25, .int .i64 r_9)]) (H' := [⟨40, b_8, [.int .i64 y_7.Err, .int .u64 y_7.Num, .int .u64 y_7.Extra]⟩, ⟨1, b_2, [.int .u64 t_1.now, .int .u64 t_1.next, .slice A_3 t_1.rows.length c_4]⟩]) (ps := [b_2 = b_2]) (by kernel_rfl) (And.intro rfl trivial) ?_
      refine GoO.guard (fun h12 => ?_)
      refine OpTo.go (GoO.idx (kk := .i64) (e := 87) (K := kT_session_Row) (A := A_3) (c := c_4) (xs := t_1.rows) (iv := r_9) (j := 0) rfl (by kernel_rfl) (by kernel_rfl) (by kernel_rfl) (by kernel_rfl) rfl Reads.own rfl h12.1 h12.2 (by decide) rfl ?_)
      refine OpTo.go (GoO.fldE (K := kT_session_Row) (A := A_3) (c := c_4) (xs := t_1.rows) (iN := r_9.toNat) (off := 0) (n := 2) (j := 0) rfl (by kernel_rfl) (by kernel_rfl) rfl Reads.own (by first | exact idx_lt h12.1 h12.2 | (simp only [List.length_set]; exact idx_lt h12.1 h12.2)) (by decide) rfl ?_)
      refine OpTo.go (GoO.ldE' (K := kT_session_Row) (A := A_3) (c := c_4) (xs := t_1.rows) (iN := r_9.toNat) (off := 2) (j := 0) rfl (by kernel_rfl) rfl Reads.own (by first | exact idx_lt h12.1 h12.2 | (simp only [List.length_set]; exact idx_lt h12.1 h12.2)) (by decide) (Opn.flat _ _ _ _ _) (v := fun _ => .int .u64 ((rdL t_1.rows r_9).Seq)) (fun _ => by kernel_rfl) _ (fun _ => rfl) (fun _ => ?_))
      refine GoO.exec (is := [16, 17, 18]) (hs := [.p, .p, .p]) (rest := []) (ks := [0, 2, 7, 9, 31]) (env' := [(0, .pointer (some ⟨b_2, 0, none⟩)), (2, .int .u64 seq_6), (7, .pointer (some ⟨b_8, 0, none⟩)), (9, .int .i64 r_9), (31, .bool (seq_6 != (wu64 (((rdL t_1.rows r_9).Seq) + 1))))]) (H' := [⟨40, b_8, [.int .i64 y_7.Err, .int .u64 y_7.Num, .int .u64 y_7.Extra]⟩, ⟨1, b_2, [.int .u64 t_1.now, .int .u64 t_1.next, .slice A_3 t_1.rows.length c_4]⟩]) (ps := []) (by kernel_rfl) trivial ?_
      refine GoO.regionEnd ?_
      exact GoO.sub (ks := [0, 2, 7, 9, 31]) (hk := [1, 0]) (bk := [0]) (by kernel_rfl) (by kernel_rfl) (by kernel_rfl) (session_Table_End_j0_ok n t_1 seq_6 y_7 r_9 b_2 A_3 c_4 b_8 w0 S0 (seq_6 != (wu64 (((rdL t_1.rows r_9).Seq) + 1))))

/-! tontine/tontinelaw15.begun -/
noncomputable def c14_0 : Code := bodyOf Try.f14
noncomputable def c14_1 : Code := cdL c14_0
noncomputable def c14_2 : Code := cdR c14_0
noncomputable def c14_3 : Code := cdL c14_2
noncomputable def c14_4 : Code := cdR c14_2
noncomputable def c14_5 : Code := cdL c14_4
noncomputable def c14_6 : Code := cdR c14_4
noncomputable def c14_7 : Code := cdL c14_6
noncomputable def c14_8 : Code := cdR c14_6
noncomputable def c14_9 : Code := cdL c14_8
noncomputable def c14_10 : Code := cdR c14_8
noncomputable def c14_11 : Code := cdL c14_10
noncomputable def c14_12 : Code := cdR c14_10
noncomputable def c14_13 : Code := cdL c14_12
noncomputable def c14_14 : Code := cdR c14_12
noncomputable def c14_15 : Code := cdL c14_14
noncomputable def c14_16 : Code := cdR c14_14
noncomputable def r14_1 : Array Oper := cdO c14_1
noncomputable def r14_3 : Array Oper := cdO c14_3
noncomputable def r14_5 : Array Oper := cdO c14_5
noncomputable def r14_7 : Array Oper := cdO c14_7
noncomputable def r14_9 : Array Oper := cdO c14_9
noncomputable def r14_11 : Array Oper := cdO c14_11
noncomputable def r14_13 : Array Oper := cdO c14_13
noncomputable def r14_15 : Array Oper := cdO c14_15
theorem c14_0e : c14_0 = .seq c14_1 c14_2 := by kernel_rfl
theorem c14_1e : c14_1 = .region 0 r14_1 false := by kernel_rfl
theorem c14_2e : c14_2 = .seq c14_3 c14_4 := by kernel_rfl
theorem c14_3e : c14_3 = .region 1 r14_3 false := by kernel_rfl
theorem c14_4e : c14_4 = .seq c14_5 c14_6 := by kernel_rfl
theorem c14_5e : c14_5 = .region 2 r14_5 false := by kernel_rfl
theorem c14_6e : c14_6 = .seq c14_7 c14_8 := by kernel_rfl
theorem c14_7e : c14_7 = .region 3 r14_7 false := by kernel_rfl
theorem c14_8e : c14_8 = .seq c14_9 c14_10 := by kernel_rfl
theorem c14_9e : c14_9 = .region 4 r14_9 false := by kernel_rfl
theorem c14_10e : c14_10 = .seq c14_11 c14_12 := by kernel_rfl
theorem c14_11e : c14_11 = .region 5 r14_11 false := by kernel_rfl
theorem c14_12e : c14_12 = .seq c14_13 c14_14 := by kernel_rfl
theorem c14_13e : c14_13 = .region 6 r14_13 false := by kernel_rfl
theorem c14_14e : c14_14 = .seq c14_15 c14_16 := by kernel_rfl
theorem c14_15e : c14_15 = .region 7 r14_15 false := by kernel_rfl
theorem c14_16e : c14_16 = .ret := by kernel_rfl
noncomputable def tontinelaw15_begun.R : Pst Bool where
  ε := Unit
  v := fun r x => .bool r
  H := fun r x => []
  B := fun r x => []
noncomputable def tontinelaw15_begun.cx (w0 : World) (S0 : Fam) : Cx Bool := ⟨Try.prog, 14, Try.f14, 64, w0, S0, [], 0, tontinelaw15_begun.R⟩
theorem tontinelaw15_begun_ok (n : Nat) :
    Meets Try.prog 14 [] 0 [] [] [] (tontinelaw15_begun.f n) (tontinelaw15_begun.R) := by
  refine Meets.of (c := c14_0) (n := 64) Try.func14 (by kernel_rfl) (by kernel_rfl) (by kernel_rfl) fun w0 S0 => ?_
  unfold tontinelaw15_begun.f
  show GoO (tontinelaw15_begun.cx w0 S0) [] [] [] [.code c14_0] _
  refine GoO.seq' c14_0e ?_
  refine GoO.region' (is := [0]) c14_1e (by kernel_rfl) ?_
  refine GoO.exec (is := [0]) (hs := [.p]) (rest := []) (ks := []) (env' := []) (H' := []) (ps := []) (by kernel_rfl) trivial ?_
  refine GoO.regionEnd ?_
  refine GoO.seq' c14_2e ?_
  refine GoO.region' (is := [0, 1]) c14_3e (by kernel_rfl) ?_
  refine OpTo.go (GoO.call rfl (by kernel_rfl) (by kernel_rfl) (session_New_ok n) [[0]] [(40, 1), (41, 2)] [] [] (hks := []) (bks := []) (by kernel_rfl) (by kernel_rfl) (by kernel_rfl) (.inl rfl) rfl rfl (by kernel_rfl) (by kernel_rfl) _ (fun _ _ => rfl) _ _ (fun _ _ => rfl) (fun _ _ => rfl) (fun _ _ => by kernel_rfl) (fun _ _ => by kernel_rfl) (fun r_1 x_34 => ?_))
  obtain ⟨b_2, A_3, c_4⟩ := x_34
  refine GoO.shape (env' := [(11, .pointer (some ⟨b_2, 0, none⟩))]) (H' := [⟨40, b_2, [.int .u64 r_1.now, .int .u64 r_1.next, .slice A_3 r_1.rows.length c_4]⟩]) (B' := [Ow 41 kT_session_Row A_3 c_4 r_1.rows]) (ks := [11]) (by kernel_rfl) (by kernel_rfl) (by kernel_rfl) ?_
  refine GoO.exec (is := [1]) (hs := [.p]) (rest := []) (ks := [1]) (env' := [(1, .pointer (some ⟨b_2, 0, none⟩))]) (H' := [⟨40, b_2, [.int .u64 r_1.now, .int .u64 r_1.next, .slice A_3 r_1.rows.length c_4]⟩]) (ps := []) (by kernel_rfl) trivial ?_
  refine GoO.regionEnd ?_
  refine GoO.seq' c14_4e ?_
  refine GoO.region' (is := [0, 1, 2, 3, 4, 5, 6]) c14_5e (by kernel_rfl) ?_
  refine GoO.exec (is := [0]) (hs := [.p]) (rest := [1, 2, 3, 4, 5, 6]) (ks := [1, 13]) (env' := [(1, .pointer (some ⟨b_2, 0, none⟩)), (13, .pointer (some ⟨b_2, 0, none⟩))]) (H' := [⟨40, b_2, [.int .u64 r_1.now, .int .u64 r_1.next, .slice A_3 r_1.rows.length c_4]⟩]) (ps := []) (by kernel_rfl) trivial ?_
  refine OpTo.go (GoO.call rfl (by kernel_rfl) (by kernel_rfl) (session_Table_Register_ok n r_1 b_2 A_3 c_4) [[0], [40], [41]] [(40, 1), (41, 2)] [(1, 0)] [(2, 0)] (hks := []) (bks := []) (by kernel_rfl) (by kernel_rfl) (by kernel_rfl) (.inl rfl) rfl rfl (by kernel_rfl) (by kernel_rfl) _ (fun _ _ => rfl) _ _ (fun _ _ => rfl) (fun _ _ => rfl) (fun _ _ => by kernel_rfl) (fun _ _ => by kernel_rfl) (fun r_5 x_33 => ?_))
  obtain ⟨A_6, c_7⟩ := x_33
  refine GoO.shape (env' := [(1, .pointer (some ⟨b_2, 0, none⟩)), (13, .pointer (some ⟨b_2, 0, none⟩)), (14, .tuple ⟨[.int .u64 r_5.1, .int .i64 r_5.2.1]⟩)]) (H' := [⟨40, b_2, [.int .u64 r_5.2.2.now, .int .u64 r_5.2.2.next, .slice A_6 r_5.2.2.rows.length c_7]⟩]) (B' := [Ow 41 kT_session_Row A_6 c_7 r_5.2.2.rows]) (ks := [1, 13, 14]) (by kernel_rfl) (by kernel_rfl) (by kernel_rfl) ?_
  refine GoO.exec (is := [2, 3, 4, 5, 6]) (hs := [.p, .p, .p, .p, .p]) (rest := []) (ks := [1, 2, 3]) (env' := [(1, .pointer (some ⟨b_2, 0, none⟩)), (2, .int .u64 r_5.1), (3, .int .i64 r_5.2.1)]) (H' := [⟨40, b_2, [.int .u64 r_5.2.2.now, .int .u64 r_5.2.2.next, .slice A_6 r_5.2.2.rows.length c_7]⟩]) (ps := []) (by kernel_rfl) trivial ?_
  refine GoO.regionEnd ?_
  refine GoO.seq' c14_6e ?_
  refine GoO.region' (is := [0, 1, 2, 3, 4, 5, 6, 7, 8]) c14_7e (by kernel_rfl) ?_
  refine GoO.exec (is := [0, 1]) (hs := [.p, .p]) (rest := [2, 3, 4, 5, 6, 7, 8]) (ks := [1, 2, 3, 18, 19]) (env' := [(1, .pointer (some ⟨b_2, 0, none⟩)), (2, .int .u64 r_5.1), (3, .int .i64 r_5.2.1), (18, .pointer (some ⟨b_2, 0, none⟩)), (19, .int .u64 r_5.1)]) (H' := [⟨40, b_2, [.int .u64 r_5.2.2.now, .int .u64 r_5.2.2.next, .slice A_6 r_5.2.2.rows.length c_7]⟩]) (ps := []) (by kernel_rfl) trivial ?_
  refine OpTo.go (GoO.call rfl (by kernel_rfl) (by kernel_rfl) (session_Table_Begin_ok n r_5.2.2 r_5.1 1 b_2 A_6 c_7) [[0], [40], [41]] [(40, 1), (41, 2)] [(1, 0)] [(2, 0)] (hks := []) (bks := []) (by kernel_rfl) (by kernel_rfl) (by kernel_rfl) (.inl rfl) rfl rfl (by kernel_rfl) (by kernel_rfl) _ (fun _ _ => rfl) _ _ (fun _ _ => rfl) (fun _ _ => rfl) (fun _ _ => by kernel_rfl) (fun _ _ => by kernel_rfl) (fun r_8 x_32 => ?_))
  obtain ⟨A_9, c_10⟩ := x_32
  refine GoO.shape (env' := [(1, .pointer (some ⟨b_2, 0, none⟩)), (2, .int .u64 r_5.1), (3, .int .i64 r_5.2.1), (18, .pointer (some ⟨b_2, 0, none⟩)), (19, .int .u64 r_5.1), (20, .tuple ⟨[.agg ⟨[.int .i64 r_8.1.Err, .int .u64 r_8.1.Num, .int .u64 r_8.1.Extra]⟩, .bool r_8.2.1]⟩)]) (H' := [⟨40, b_2, [.int .u64 r_8.2.2.now, .int .u64 r_8.2.2.next, .slice A_9 r_8.2.2.rows.length c_10]⟩]) (B' := [Ow 41 kT_session_Row A_9 c_10 r_8.2.2.rows]) (ks := [1, 2, 3, 18, 19, 20]) (by kernel_rfl) (by kernel_rfl) (by kernel_rfl) ?_
  refine GoO.exec (is := [3, 4, 5]) (hs := [.p, .p, .p]) (rest := [6, 7, 8]) (ks := [1, 2, 3, 21, 22]) (env' := [(1, .pointer (some ⟨b_2, 0, none⟩)), (2, .int .u64 r_5.1), (3, .int .i64 r_5.2.1), (21, .agg ⟨[.int .i64 r_8.1.Err, .int .u64 r_8.1.Num, .int .u64 r_8.1.Extra]⟩), (22, .bool r_8.2.1)]) (H' := [⟨40, b_2, [.int .u64 r_8.2.2.now, .int .u64 r_8.2.2.next, .slice A_9 r_8.2.2.rows.length c_10]⟩]) (ps := []) (by kernel_rfl) trivial ?_
  refine OpTo.go (GoO.new rfl 42 (cs := [.int .i64 0, .int .u64 0, .int .u64 0]) (by kernel_rfl) _ (fun _ => rfl) (fun b_11 => ?_))
  refine GoO.exec (is := [7, 8]) (hs := [.b 0, .p]) (rest := []) (ks := [1, 2, 3, 5]) (env' := [(1, .pointer (some ⟨b_2, 0, none⟩)), (2, .int .u64 r_5.1), (3, .int .i64 r_5.2.1), (5, .bool r_8.2.1)]) (H' := [⟨42, b_11, [.int .i64 r_8.1.Err, .int .u64 r_8.1.Num, .int .u64 r_8.1.Extra]⟩, ⟨40, b_2, [.int .u64 r_8.2.2.now, .int .u64 r_8.2.2.next, .slice A_9 r_8.2.2.rows.length c_10]⟩]) (ps := [b_11 = b_11]) (by kernel_rfl) (And.intro rfl trivial) ?_
  refine GoO.regionEnd ?_
  refine GoO.seq' c14_8e ?_
  refine GoO.region' (is := [0, 1, 2, 3, 4]) c14_9e (by kernel_rfl) ?_
  refine GoO.exec (is := [0, 1, 2]) (hs := [.p, .p, .p]) (rest := [3, 4]) (ks := [1, 2, 3, 5, 23, 24, 25]) (env' := [(1, .pointer (some ⟨b_2, 0, none⟩)), (2, .int .u64 r_5.1), (3, .int .i64 r_5.2.1), (5, .bool r_8.2.1), (23, .pointer (some ⟨b_2, 0, none⟩)), (24, .int .u64 r_5.1), (25, .agg ⟨[.int .i64 0, .int .u64 7, .int .u64 0]⟩)]) (H' := [⟨42, b_11, [.int .i64 r_8.1.Err, .int .u64 r_8.1.Num, .int .u64 r_8.1.Extra]⟩, ⟨40, b_2, [.int .u64 r_8.2.2.now, .int .u64 r_8.2.2.next, .slice A_9 r_8.2.2.rows.length c_10]⟩]) (ps := []) (by kernel_rfl) trivial ?_
  refine OpTo.go (GoO.call rfl (by kernel_rfl) (by kernel_rfl) (session_Table_End_ok n r_8.2.2 r_5.1 1 (⟨0, 7, 0⟩ : T_api_Reply) b_2 A_9 c_10) [[0], [40], [41]] [(40, 1), (41, 2)] [(1, 1)] [(2, 0)] (hks := [0]) (bks := []) (by kernel_rfl) (by kernel_rfl) (by kernel_rfl) (.inl rfl) rfl rfl (by kernel_rfl) (by kernel_rfl) _ (fun _ _ => rfl) _ _ (fun _ _ => rfl) (fun _ _ => rfl) (fun _ _ => by kernel_rfl) (fun _ _ => by kernel_rfl) (fun r_12 x_31 => ?_))
  obtain ⟨A_13, c_14⟩ := x_31
  refine GoO.shape (env' := [(1, .pointer (some ⟨b_2, 0, none⟩)), (2, .int .u64 r_5.1), (3, .int .i64 r_5.2.1), (5, .bool r_8.2.1), (23, .pointer (some ⟨b_2, 0, none⟩)), (24, .int .u64 r_5.1), (25, .agg ⟨[.int .i64 0, .int .u64 7, .int .u64 0]⟩), (26, .bool r_12.1)]) (H' := [⟨40, b_2, [.int .u64 r_12.2.now, .int .u64 r_12.2.next, .slice A_13 r_12.2.rows.length c_14]⟩, ⟨42, b_11, [.int .i64 r_8.1.Err, .int .u64 r_8.1.Num, .int .u64 r_8.1.Extra]⟩]) (B' := [Ow 41 kT_session_Row A_13 c_14 r_12.2.rows]) (ks := [1, 2, 3, 5, 23, 24, 25, 26]) (by kernel_rfl) (by kernel_rfl) (by kernel_rfl) ?_
  refine GoO.exec (is := [4]) (hs := [.p]) (rest := []) (ks := [1, 2, 3, 5, 6]) (env' := [(1, .pointer (some ⟨b_2, 0, none⟩)), (2, .int .u64 r_5.1), (3, .int .i64 r_5.2.1), (5, .bool r_8.2.1), (6, .bool r_12.1)]) (H' := [⟨40, b_2, [.int .u64 r_12.2.now, .int .u64 r_12.2.next, .slice A_13 r_12.2.rows.length c_14]⟩, ⟨42, b_11, [.int .i64 r_8.1.Err, .int .u64 r_8.1.Num, .int .u64 r_8.1.Extra]⟩]) (ps := []) (by kernel_rfl) trivial ?_
  refine GoO.regionEnd ?_
  refine GoO.seq' c14_10e ?_
  refine GoO.region' (is := [0, 1, 2, 3, 4, 5, 6, 7, 8]) c14_11e (by kernel_rfl) ?_
  refine GoO.exec (is := [0, 1]) (hs := [.p, .p]) (rest := [2, 3, 4, 5, 6, 7, 8]) (ks := [1, 2, 3, 5, 6, 28, 29]) (env' := [(1, .pointer (some ⟨b_2, 0, none⟩)), (2, .int .u64 r_5.1), (3, .int .i64 r_5.2.1), (5, .bool r_8.2.1), (6, .bool r_12.1), (28, .pointer (some ⟨b_2, 0, none⟩)), (29, .int .u64 r_5.1)]) (H' := [⟨40, b_2, [.int .u64 r_12.2.now, .int .u64 r_12.2.next, .slice A_13 r_12.2.rows.length c_14]⟩, ⟨42, b_11, [.int .i64 r_8.1.Err, .int .u64 r_8.1.Num, .int .u64 r_8.1.Extra]⟩]) (ps := []) (by kernel_rfl) trivial ?_
  refine OpTo.go (GoO.call rfl (by kernel_rfl) (by kernel_rfl) (session_Table_Begin_ok n r_12.2 r_5.1 1 b_2 A_13 c_14) [[0], [40], [41]] [(40, 1), (41, 2)] [(1, 0)] [(2, 0)] (hks := [1]) (bks := []) (by kernel_rfl) (by kernel_rfl) (by kernel_rfl) (.inl rfl) rfl rfl (by kernel_rfl) (by kernel_rfl) _ (fun _ _ => rfl) _ _ (fun _ _ => rfl) (fun _ _ => rfl) (fun _ _ => by kernel_rfl) (fun _ _ => by kernel_rfl) (fun r_15 x_30 => ?_))
  obtain ⟨A_16, c_17⟩ := x_30
  refine GoO.shape (env' := [(1, .pointer (some ⟨b_2, 0, none⟩)), (2, .int .u64 r_5.1), (3, .int .i64 r_5.2.1), (5, .bool r_8.2.1), (6, .bool r_12.1), (28, .pointer (some ⟨b_2, 0, none⟩)), (29, .int .u64 r_5.1), (30, .tuple ⟨[.agg ⟨[.int .i64 r_15.1.Err, .int .u64 r_15.1.Num, .int .u64 r_15.1.Extra]⟩, .bool r_15.2.1]⟩)]) (H' := [⟨40, b_2, [.int .u64 r_15.2.2.now, .int .u64 r_15.2.2.next, .slice A_16 r_15.2.2.rows.length c_17]⟩, ⟨42, b_11, [.int .i64 r_8.1.Err, .int .u64 r_8.1.Num, .int .u64 r_8.1.Extra]⟩]) (B' := [Ow 41 kT_session_Row A_16 c_17 r_15.2.2.rows]) (ks := [1, 2, 3, 5, 6, 28, 29, 30]) (by kernel_rfl) (by kernel_rfl) (by kernel_rfl) ?_
  refine GoO.exec (is := [3, 4, 5]) (hs := [.p, .p, .p]) (rest := [6, 7, 8]) (ks := [1, 2, 3, 5, 6, 31, 32]) (env' := [(1, .pointer (some ⟨b_2, 0, none⟩)), (2, .int .u64 r_5.1), (3, .int .i64 r_5.2.1), (5, .bool r_8.2.1), (6, .bool r_12.1), (31, .agg ⟨[.int .i64 r_15.1.Err, .int .u64 r_15.1.Num, .int .u64 r_15.1.Extra]⟩), (32, .bool r_15.2.1)]) (H' := [⟨40, b_2, [.int .u64 r_15.2.2.now, .int .u64 r_15.2.2.next, .slice A_16 r_15.2.2.rows.length c_17]⟩, ⟨42, b_11, [.int .i64 r_8.1.Err, .int .u64 r_8.1.Num, .int .u64 r_8.1.Extra]⟩]) (ps := []) (by kernel_rfl) trivial ?_
  refine OpTo.go (GoO.new rfl 43 (cs := [.int .i64 0, .int .u64 0, .int .u64 0]) (by kernel_rfl) _ (fun _ => rfl) (fun b_18 => ?_))
  refine GoO.exec (is := [7, 8]) (hs := [.b 0, .p]) (rest := []) (ks := [1, 2, 3, 5, 6, 7, 8]) (env' := [(1, .pointer (some ⟨b_2, 0, none⟩)), (2, .int .u64 r_5.1), (3, .int .i64 r_5.2.1), (5, .bool r_8.2.1), (6, .bool r_12.1), (7, .pointer (some ⟨b_18, 0, none⟩)), (8, .bool r_15.2.1)]) (H' := [⟨43, b_18, [.int .i64 r_15.1.Err, .int .u64 r_15.1.Num, .int .u64 r_15.1.Extra]⟩, ⟨40, b_2, [.int .u64 r_15.2.2.now, .int .u64 r_15.2.2.next, .slice A_16 r_15.2.2.rows.length c_17]⟩, ⟨42, b_11, [.int .i64 r_8.1.Err, .int .u64 r_8.1.Num, .int .u64 r_8.1.Extra]⟩]) (ps := [b_18 = b_18]) (by kernel_rfl) (And.intro rfl trivial) ?_
  refine GoO.regionEnd ?_
  refine GoO.seq' c14_12e ?_
  refine GoO.region' (is := [0, 1, 2, 3, 4, 5, 6, 7]) c14_13e (by kernel_rfl) ?_
  refine GoO.exec (is := [0]) (hs := [.p]) (rest := [1, 2, 3, 4, 5, 6, 7]) (ks := [2, 3, 5, 6, 7, 8, 34]) (env' := [(2, .int .u64 r_5.1), (3, .int .i64 r_5.2.1), (5, .bool r_8.2.1), (6, .bool r_12.1), (7, .pointer (some ⟨b_18, 0, none⟩)), (8, .bool r_15.2.1), (34, .pointer (some ⟨b_2, 0, none⟩))]) (H' := [⟨43, b_18, [.int .i64 r_15.1.Err, .int .u64 r_15.1.Num, .int .u64 r_15.1.Extra]⟩, ⟨40, b_2, [.int .u64 r_15.2.2.now, .int .u64 r_15.2.2.next, .slice A_16 r_15.2.2.rows.length c_17]⟩, ⟨42, b_11, [.int .i64 r_8.1.Err, .int .u64 r_8.1.Num, .int .u64 r_8.1.Extra]⟩]) (ps := []) (by kernel_rfl) trivial ?_
  refine OpTo.go (GoO.call rfl (by kernel_rfl) (by kernel_rfl) (session_Table_Begin_ok n r_15.2.2 9 1 b_2 A_16 c_17) [[0], [40], [41]] [(40, 1), (41, 2)] [(1, 1)] [(2, 0)] (hks := [0, 2]) (bks := []) (by kernel_rfl) (by kernel_rfl) (by kernel_rfl) (.inl rfl) rfl rfl (by kernel_rfl) (by kernel_rfl) _ (fun _ _ => rfl) _ _ (fun _ _ => rfl) (fun _ _ => rfl) (fun _ _ => by kernel_rfl) (fun _ _ => by kernel_rfl) (fun r_19 x_29 => ?_))
  obtain ⟨A_20, c_21⟩ := x_29
  refine GoO.shape (env' := [(2, .int .u64 r_5.1), (3, .int .i64 r_5.2.1), (5, .bool r_8.2.1), (6, .bool r_12.1), (7, .pointer (some ⟨b_18, 0, none⟩)), (8, .bool r_15.2.1), (34, .pointer (some ⟨b_2, 0, none⟩)), (35, .tuple ⟨[.agg ⟨[.int .i64 r_19.1.Err, .int .u64 r_19.1.Num, .int .u64 r_19.1.Extra]⟩, .bool r_19.2.1]⟩)]) (H' := [⟨40, b_2, [.int .u64 r_19.2.2.now, .int .u64 r_19.2.2.next, .slice A_20 r_19.2.2.rows.length c_21]⟩, ⟨43, b_18, [.int .i64 r_15.1.Err, .int .u64 r_15.1.Num, .int .u64 r_15.1.Extra]⟩, ⟨42, b_11, [.int .i64 r_8.1.Err, .int .u64 r_8.1.Num, .int .u64 r_8.1.Extra]⟩]) (B' := [Ow 41 kT_session_Row A_20 c_21 r_19.2.2.rows]) (ks := [2, 3, 5, 6, 7, 8, 34, 35]) (by kernel_rfl) (by kernel_rfl) (by kernel_rfl) ?_
  refine GoO.exec (is := [2, 3, 4]) (hs := [.p, .p, .p]) (rest := [5, 6, 7]) (ks := [2, 3, 5, 6, 7, 8, 36, 37]) (env' := [(2, .int .u64 r_5.1), (3, .int .i64 r_5.2.1), (5, .bool r_8.2.1), (6, .bool r_12.1), (7, .pointer (some ⟨b_18, 0, none⟩)), (8, .bool r_15.2.1), (36, .agg ⟨[.int .i64 r_19.1.Err, .int .u64 r_19.1.Num, .int .u64 r_19.1.Extra]⟩), (37, .bool r_19.2.1)]) (H' := [⟨40, b_2, [.int .u64 r_19.2.2.now, .int .u64 r_19.2.2.next, .slice A_20 r_19.2.2.rows.length c_21]⟩, ⟨43, b_18, [.int .i64 r_15.1.Err, .int .u64 r_15.1.Num, .int .u64 r_15.1.Extra]⟩, ⟨42, b_11, [.int .i64 r_8.1.Err, .int .u64 r_8.1.Num, .int .u64 r_8.1.Extra]⟩]) (ps := []) (by kernel_rfl) trivial ?_
  refine OpTo.go (GoO.new rfl 44 (cs := [.int .i64 0, .int .u64 0, .int .u64 0]) (by kernel_rfl) _ (fun _ => rfl) (fun b_22 => ?_))
  refine GoO.exec (is := [6, 7]) (hs := [.b 0, .p]) (rest := []) (ks := [2, 3, 5, 6, 7, 8, 9]) (env' := [(2, .int .u64 r_5.1), (3, .int .i64 r_5.2.1), (5, .bool r_8.2.1), (6, .bool r_12.1), (7, .pointer (some ⟨b_18, 0, none⟩)), (8, .bool r_15.2.1), (9, .pointer (some ⟨b_22, 0, none⟩))]) (H' := [⟨44, b_22, [.int .i64 r_19.1.Err, .int .u64 r_19.1.Num, .int .u64 r_19.1.Extra]⟩, ⟨40, b_2, [.int .u64 r_19.2.2.now, .int .u64 r_19.2.2.next, .slice A_20 r_19.2.2.rows.length c_21]⟩, ⟨43, b_18, [.int .i64 r_15.1.Err, .int .u64 r_15.1.Num, .int .u64 r_15.1.Extra]⟩, ⟨42, b_11, [.int .i64 r_8.1.Err, .int .u64 r_8.1.Num, .int .u64 r_8.1.Extra]⟩]) (ps := [b_22 = b_22]) (by kernel_rfl) (And.intro rfl trivial) ?_
  refine GoO.regionEnd ?_
  refine GoO.seq' c14_14e ?_
  refine GoO.region' (is := [0, 1, 2, 3, 4, 5, 6, 7, 8, 9, 10, 11, 12, 13, 14, 15, 16, 17, 18, 19, 20, 21, 22, 23, 24, 25, 26]) c14_15e (by kernel_rfl) ?_
  refine GoO.exec (is := [0, 1, 2]) (hs := [.p, .p, .p]) (rest := [3, 4, 5, 6, 7, 8, 9, 10, 11, 12, 13, 14, 15, 16, 17, 18, 19, 20, 21, 22, 23, 24, 25, 26]) (ks := [2, 5, 6, 7, 8, 9, 40]) (env' := [(2, .int .u64 r_5.1), (5, .bool r_8.2.1), (6, .bool r_12.1), (7, .pointer (some ⟨b_18, 0, none⟩)), (8, .bool r_15.2.1), (9, .pointer (some ⟨b_22, 0, none⟩)), (40, .bool (r_5.2.1 == 0))]) (H' := [⟨44, b_22, [.int .i64 r_19.1.Err, .int .u64 r_19.1.Num, .int .u64 r_19.1.Extra]⟩, ⟨40, b_2, [.int .u64 r_19.2.2.now, .int .u64 r_19.2.2.next, .slice A_20 r_19.2.2.rows.length c_21]⟩, ⟨43, b_18, [.int .i64 r_15.1.Err, .int .u64 r_15.1.Num, .int .u64 r_15.1.Extra]⟩, ⟨42, b_11, [.int .i64 r_8.1.Err, .int .u64 r_8.1.Num, .int .u64 r_8.1.Extra]⟩]) (ps := []) (by kernel_rfl) trivial ?_
  refine GoO.bsplit (t := 40) (by kernel_rfl) (fun h23 => ?_) (fun h23 => ?_)
  · refine GoO.exec (is := [3, 4, 5, 6]) (hs := [.p, .p, .p, .p]) (rest := [7, 8, 9, 10, 11, 12, 13, 14, 15, 16, 17, 18, 19, 20, 21, 22, 23, 24, 25, 26]) (ks := [5, 6, 7, 8, 9, 44]) (env' := [(5, .bool r_8.2.1), (6, .bool r_12.1), (7, .pointer (some ⟨b_18, 0, none⟩)), (8, .bool r_15.2.1), (9, .pointer (some ⟨b_22, 0, none⟩)), (44, .bool (r_5.1 == 1))]) (H' := [⟨44, b_22, [.int .i64 r_19.1.Err, .int .u64 r_19.1.Num, .int .u64 r_19.1.Extra]⟩, ⟨40, b_2, [.int .u64 r_19.2.2.now, .int .u64 r_19.2.2.next, .slice A_20 r_19.2.2.rows.length c_21]⟩, ⟨43, b_18, [.int .i64 r_15.1.Err, .int .u64 r_15.1.Num, .int .u64 r_15.1.Extra]⟩, ⟨42, b_11, [.int .i64 r_8.1.Err, .int .u64 r_8.1.Num, .int .u64 r_8.1.Extra]⟩]) (ps := []) (by kernel_rfl) trivial ?_
    refine GoO.bsplit (t := 44) (by kernel_rfl) (fun h24 => ?_) (fun h24 => ?_)
    · refine GoO.exec (is := [7, 8, 9]) (hs := [.p, .p, .p]) (rest := [10, 11, 12, 13, 14, 15, 16, 17, 18, 19, 20, 21, 22, 23, 24, 25, 26]) (ks := [6, 7, 8, 9, 47]) (env' := [(6, .bool r_12.1), (7, .pointer (some ⟨b_18, 0, none⟩)), (8, .bool r_15.2.1), (9, .pointer (some ⟨b_22, 0, none⟩)), (47, .bool r_8.2.1)]) (H' := [⟨44, b_22, [.int .i64 r_19.1.Err, .int .u64 r_19.1.Num, .int .u64 r_19.1.Extra]⟩, ⟨40, b_2, [.int .u64 r_19.2.2.now, .int .u64 r_19.2.2.next, .slice A_20 r_19.2.2.rows.length c_21]⟩, ⟨43, b_18, [.int .i64 r_15.1.Err, .int .u64 r_15.1.Num, .int .u64 r_15.1.Extra]⟩, ⟨42, b_11, [.int .i64 r_8.1.Err, .int .u64 r_8.1.Num, .int .u64 r_8.1.Extra]⟩]) (ps := []) (by kernel_rfl) trivial ?_
      refine GoO.bsplit (t := 47) (by kernel_rfl) (fun h25 => ?_) (fun h25 => ?_)
      · refine GoO.exec (is := [10, 11, 12]) (hs := [.p, .p, .p]) (rest := [13, 14, 15, 16, 17, 18, 19, 20, 21, 22, 23, 24, 25, 26]) (ks := [7, 8, 9, 50]) (env' := [(7, .pointer (some ⟨b_18, 0, none⟩)), (8, .bool r_15.2.1), (9, .pointer (some ⟨b_22, 0, none⟩)), (50, .bool r_12.1)]) (H' := [⟨44, b_22, [.int .i64 r_19.1.Err, .int .u64 r_19.1.Num, .int .u64 r_19.1.Extra]⟩, ⟨40, b_2, [.int .u64 r_19.2.2.now, .int .u64 r_19.2.2.next, .slice A_20 r_19.2.2.rows.length c_21]⟩, ⟨43, b_18, [.int .i64 r_15.1.Err, .int .u64 r_15.1.Num, .int .u64 r_15.1.Extra]⟩, ⟨42, b_11, [.int .i64 r_8.1.Err, .int .u64 r_8.1.Num, .int .u64 r_8.1.Extra]⟩]) (ps := []) (by kernel_rfl) trivial ?_
        refine GoO.bsplit (t := 50) (by kernel_rfl) (fun h26 => ?_) (fun h26 => ?_)
        · refine GoO.exec (is := [13, 14, 15, 16]) (hs := [.p, .p, .p, .p]) (rest := [17, 18, 19, 20, 21, 22, 23, 24, 25, 26]) (ks := [7, 9, 54]) (env' := [(7, .pointer (some ⟨b_18, 0, none⟩)), (9, .pointer (some ⟨b_22, 0, none⟩)), (54, .bool (!r_15.2.1))]) (H' := [⟨44, b_22, [.int .i64 r_19.1.Err, .int .u64 r_19.1.Num, .int .u64 r_19.1.Extra]⟩, ⟨40, b_2, [.int .u64 r_19.2.2.now, .int .u64 r_19.2.2.next, .slice A_20 r_19.2.2.rows.length c_21]⟩, ⟨43, b_18, [.int .i64 r_15.1.Err, .int .u64 r_15.1.Num, .int .u64 r_15.1.Extra]⟩, ⟨42, b_11, [.int .i64 r_8.1.Err, .int .u64 r_8.1.Num, .int .u64 r_8.1.Extra]⟩]) (ps := []) (by kernel_rfl) trivial ?_
          refine GoO.bsplit (t := 54) (by kernel_rfl) (fun h27 => ?_) (fun h27 => ?_)
          · refine GoO.exec (is := [17, 18, 19, 20, 21]) (hs := [.p, .b 2, .p, .p, .p]) (rest := [22, 23, 24, 25, 26]) (ks := [9, 59]) (env' := [(9, .pointer (some ⟨b_22, 0, none⟩)), (59, .bool (r_15.1.Num == 7))]) (H' := [⟨44, b_22, [.int .i64 r_19.1.Err, .int .u64 r_19.1.Num, .int .u64 r_19.1.Extra]⟩, ⟨40, b_2, [.int .u64 r_19.2.2.now, .int .u64 r_19.2.2.next, .slice A_20 r_19.2.2.rows.length c_21]⟩, ⟨43, b_18, [.int .i64 r_15.1.Err, .int .u64 r_15.1.Num, .int .u64 r_15.1.Extra]⟩, ⟨42, b_11, [.int .i64 r_8.1.Err, .int .u64 r_8.1.Num, .int .u64 r_8.1.Extra]⟩]) (ps := [b_18 = b_18]) (by kernel_rfl) (And.intro rfl trivial) ?_
            refine GoO.bsplit (t := 59) (by kernel_rfl) (fun h28 => ?_) (fun h28 => ?_)
            · refine GoO.exec (is := [22, 23, 24, 25, 26]) (hs := [.p, .b 0, .p, .p, .p]) (rest := []) (ks := [0]) (env' := [(0, .bool (r_19.1.Err == 40))]) (H' := [⟨44, b_22, [.int .i64 r_19.1.Err, .int .u64 r_19.1.Num, .int .u64 r_19.1.Extra]⟩, ⟨40, b_2, [.int .u64 r_19.2.2.now, .int .u64 r_19.2.2.next, .slice A_20 r_19.2.2.rows.length c_21]⟩, ⟨43, b_18, [.int .i64 r_15.1.Err, .int .u64 r_15.1.Num, .int .u64 r_15.1.Extra]⟩, ⟨42, b_11, [.int .i64 r_8.1.Err, .int .u64 r_8.1.Num, .int .u64 r_8.1.Extra]⟩]) (ps := [b_22 = b_22]) (by kernel_rfl) (And.intro rfl trivial) ?_
              refine GoO.regionEnd ?_
              exact GoO.ret' (h := c14_16e) (hs := []) (ps := []) (hk := []) (bk := []) Try.func14 () (by kernel_rfl) trivial (by kernel_rfl) (by kernel_rfl)
            · refine GoO.exec (is := [22, 23, 24, 25, 26]) (hs := [.p, .p, .p, .p, .p]) (rest := []) (ks := [0]) (env' := [(0, .bool false)]) (H' := [⟨44, b_22, [.int .i64 r_19.1.Err, .int .u64 r_19.1.Num, .int .u64 r_19.1.Extra]⟩, ⟨40, b_2, [.int .u64 r_19.2.2.now, .int .u64 r_19.2.2.next, .slice A_20 r_19.2.2.rows.length c_21]⟩, ⟨43, b_18, [.int .i64 r_15.1.Err, .int .u64 r_15.1.Num, .int .u64 r_15.1.Extra]⟩, ⟨42, b_11, [.int .i64 r_8.1.Err, .int .u64 r_8.1.Num, .int .u64 r_8.1.Extra]⟩]) (ps := []) (by kernel_rfl) trivial ?_
              refine GoO.regionEnd ?_
              exact GoO.ret' (h := c14_16e) (hs := []) (ps := []) (hk := []) (bk := []) Try.func14 () (by kernel_rfl) trivial (by kernel_rfl) (by kernel_rfl)
          · refine GoO.exec (is := [17, 18, 19, 20, 21, 22, 23, 24, 25, 26]) (hs := [.p, .p, .p, .p, .p, .p, .p, .p, .p, .p]) (rest := []) (ks := [0]) (env' := [(0, .bool false)]) (H' := [⟨44, b_22, [.int .i64 r_19.1.Err, .int .u64 r_19.1.Num, .int .u64 r_19.1.Extra]⟩, ⟨40, b_2, [.int .u64 r_19.2.2.now, .int .u64 r_19.2.2.next, .slice A_20 r_19.2.2.rows.length c_21]⟩, ⟨43, b_18, [.int .i64 r_15.1.Err, .int .u64 r_15.1.Num, .int .u64 r_15.1.Extra]⟩, ⟨42, b_11, [.int .i64 r_8.1.Err, .int .u64 r_8.1.Num, .int .u64 r_8.1.Extra]⟩]) (ps := []) (by kernel_rfl) trivial ?_
            refine GoO.regionEnd ?_
            exact GoO.ret' (h := c14_16e) (hs := []) (ps := []) (hk := []) (bk := []) Try.func14 () (by kernel_rfl) trivial (by kernel_rfl) (by kernel_rfl)
        · refine GoO.exec (is := [13, 14, 15, 16, 17, 18, 19, 20, 21, 22, 23, 24, 25, 26]) (hs := [.p, .p, .p, .p, .p, .p, .p, .p, .p, .p, .p, .p, .p, .p]) (rest := []) (ks := [0]) (env' := [(0, .bool false)]) (H' := [⟨44, b_22, [.int .i64 r_19.1.Err, .int .u64 r_19.1.Num, .int .u64 r_19.1.Extra]⟩, ⟨40, b_2, [.int .u64 r_19.2.2.now, .int .u64 r_19.2.2.next, .slice A_20 r_19.2.2.rows.length c_21]⟩, ⟨43, b_18, [.int .i64 r_15.1.Err, .int .u64 r_15.1.Num, .int .u64 r_15.1.Extra]⟩, ⟨42, b_11, [.int .i64 r_8.1.Err, .int .u64 r_8.1.Num, .int .u64 r_8.1.Extra]⟩]) (ps := []) (by kernel_rfl) trivial ?_
          refine GoO.regionEnd ?_
          exact GoO.ret' (h := c14_16e) (hs := []) (ps := []) (hk := []) (bk := []) Try.func14 () (by kernel_rfl) trivial (by kernel_rfl) (by kernel_rfl)
      · refine GoO.exec (is := [10, 11, 12, 13, 14, 15, 16, 17, 18, 19, 20, 21, 22, 23, 24, 25, 26]) (hs := [.p, .p, .p, .p, .p, .p, .p, .p, .p, .p, .p, .p, .p, .p, .p, .p, .p]) (rest := []) (ks := [0]) (env' := [(0, .bool false)]) (H' := [⟨44, b_22, [.int .i64 r_19.1.Err, .int .u64 r_19.1.Num, .int .u64 r_19.1.Extra]⟩, ⟨40, b_2, [.int .u64 r_19.2.2.now, .int .u64 r_19.2.2.next, .slice A_20 r_19.2.2.rows.length c_21]⟩, ⟨43, b_18, [.int .i64 r_15.1.Err, .int .u64 r_15.1.Num, .int .u64 r_15.1.Extra]⟩, ⟨42, b_11, [.int .i64 r_8.1.Err, .int .u64 r_8.1.Num, .int .u64 r_8.1.Extra]⟩]) (ps := []) (by kernel_rfl) trivial ?_
        refine GoO.regionEnd ?_
        exact GoO.ret' (h := c14_16e) (hs := []) (ps := []) (hk := []) (bk := []) Try.func14 () (by kernel_rfl) trivial (by kernel_rfl) (by kernel_rfl)
    · refine GoO.exec (is := [7, 8, 9, 10, 11, 12, 13, 14, 15, 16, 17, 18, 19, 20, 21, 22, 23, 24, 25, 26]) (hs := [.p, .p, .p, .p, .p, .p, .p, .p, .p, .p, .p, .p, .p, .p, .p, .p, .p, .p, .p, .p]) (rest := []) (ks := [0]) (env' := [(0, .bool false)]) (H' := [⟨44, b_22, [.int .i64 r_19.1.Err, .int .u64 r_19.1.Num, .int .u64 r_19.1.Extra]⟩, ⟨40, b_2, [.int .u64 r_19.2.2.now, .int .u64 r_19.2.2.next, .slice A_20 r_19.2.2.rows.length c_21]⟩, ⟨43, b_18, [.int .i64 r_15.1.Err, .int .u64 r_15.1.Num, .int .u64 r_15.1.Extra]⟩, ⟨42, b_11, [.int .i64 r_8.1.Err, .int .u64 r_8.1.Num, .int .u64 r_8.1.Extra]⟩]) (ps := []) (by kernel_rfl) trivial ?_
      refine GoO.regionEnd ?_
      exact GoO.ret' (h := c14_16e) (hs := []) (ps := []) (hk := []) (bk := []) Try.func14 () (by kernel_rfl) trivial (by kernel_rfl) (by kernel_rfl)
  · refine GoO.exec (is := [3, 4, 5, 6, 7, 8, 9, 10, 11, 12, 13, 14, 15, 16, 17, 18, 19, 20, 21, 22, 23, 24, 25, 26]) (hs := [.p, .p, .p, .p, .p, .p, .p, .p, .p, .p, .p, .p, .p, .p, .p, .p, .p, .p, .p, .p, .p, .p, .p, .p]) (rest := []) (ks := [0]) (env' := [(0, .bool false)]) (H' := [⟨44, b_22, [.int .i64 r_19.1.Err, .int .u64 r_19.1.Num, .int .u64 r_19.1.Extra]⟩, ⟨40, b_2, [.int .u64 r_19.2.2.now, .int .u64 r_19.2.2.next, .slice A_20 r_19.2.2.rows.length c_21]⟩, ⟨43, b_18, [.int .i64 r_15.1.Err, .int .u64 r_15.1.Num, .int .u64 r_15.1.Extra]⟩, ⟨42, b_11, [.int .i64 r_8.1.Err, .int .u64 r_8.1.Num, .int .u64 r_8.1.Extra]⟩]) (ps := []) (by kernel_rfl) trivial ?_
    refine GoO.regionEnd ?_
    exact GoO.ret' (h := c14_16e) (hs := []) (ps := []) (hk := []) (bk := []) Try.func14 () (by kernel_rfl) trivial (by kernel_rfl) (by kernel_rfl)

/-! (*tontine/session.Table).Clock -/
noncomputable def c16_0 : Code := bodyOf Try.f16
noncomputable def c16_1 : Code := cdL c16_0
noncomputable def c16_2 : Code := cdL c16_1
noncomputable def c16_3 : Code := cdR c16_1
noncomputable def c16_4 : Code := cdL c16_3
noncomputable def c16_5 : Code := cdR c16_3
noncomputable def c16_6 : Code := cdR c16_0
noncomputable def c16_7 : Code := cdL c16_6
noncomputable def c16_8 : Code := cdR c16_6
noncomputable def c16_9 : Code := cdL c16_8
noncomputable def c16_10 : Code := cdR c16_8
noncomputable def c16_11 : Code := cdL c16_10
noncomputable def c16_12 : Code := cdL c16_11
noncomputable def c16_13 : Code := cdR c16_11
noncomputable def c16_14 : Code := cdL c16_13
noncomputable def c16_15 : Code := cdL c16_14
noncomputable def c16_16 : Code := cdL c16_15
noncomputable def c16_17 : Code := cdR c16_15
noncomputable def c16_18 : Code := cdL c16_17
noncomputable def c16_19 : Code := cdL c16_18
noncomputable def c16_20 : Code := cdR c16_18
noncomputable def c16_21 : Code := cdR c16_17
noncomputable def c16_22 : Code := cdL c16_21
noncomputable def c16_23 : Code := cdL c16_22
noncomputable def c16_24 : Code := cdL c16_23
noncomputable def c16_25 : Code := cdR c16_23
noncomputable def c16_26 : Code := cdL c16_25
noncomputable def c16_27 : Code := cdR c16_25
noncomputable def c16_28 : Code := cdL c16_27
noncomputable def c16_29 : Code := cdR c16_27
noncomputable def c16_30 : Code := cdR c16_21
noncomputable def c16_31 : Code := cdR c16_10
noncomputable def r16_2 : Array Oper := cdO c16_2
noncomputable def r16_7 : Array Oper := cdO c16_7
noncomputable def r16_9 : Array Oper := cdO c16_9
noncomputable def r16_12 : Array Oper := cdO c16_12
noncomputable def r16_16 : Array Oper := cdO c16_16
noncomputable def r16_24 : Array Oper := cdO c16_24
noncomputable def r16_26 : Array Oper := cdO c16_26
noncomputable def r16_28 : Array Oper := cdO c16_28
noncomputable def r16_30 : Array Oper := cdO c16_30
noncomputable def r16_31 : Array Oper := cdO c16_31
theorem c16_0e : c16_0 = .seq c16_1 c16_6 := by kernel_rfl
theorem c16_1e : c16_1 = .seq c16_2 c16_3 := by kernel_rfl
theorem c16_2e : c16_2 = .region 0 r16_2 false := by kernel_rfl
theorem c16_3e : c16_3 = .cond (cdC c16_3) c16_4 c16_5 := by kernel_rfl
theorem c16_4e : c16_4 = .ret := by kernel_rfl
theorem c16_5e : c16_5 = .skip := by kernel_rfl
theorem c16_6e : c16_6 = .seq c16_7 c16_8 := by kernel_rfl
theorem c16_7e : c16_7 = .region 1 r16_7 false := by kernel_rfl
theorem c16_8e : c16_8 = .seq c16_9 c16_10 := by kernel_rfl
theorem c16_9e : c16_9 = .region 2 r16_9 false := by kernel_rfl
theorem c16_10e : c16_10 = .seq c16_11 c16_31 := by kernel_rfl
theorem c16_11e : c16_11 = .seq c16_12 c16_13 := by kernel_rfl
theorem c16_12e : c16_12 = .region 3 r16_12 false := by kernel_rfl
theorem c16_13e : c16_13 = .block 0 c16_14 := by kernel_rfl
theorem c16_14e : c16_14 = .loop c16_15 := by kernel_rfl
theorem c16_15e : c16_15 = .seq c16_16 c16_17 := by kernel_rfl
theorem c16_16e : c16_16 = .region 4 r16_16 false := by kernel_rfl
theorem c16_17e : c16_17 = .seq c16_18 c16_21 := by kernel_rfl
theorem c16_18e : c16_18 = .cond (cdC c16_18) c16_19 c16_20 := by kernel_rfl
theorem c16_19e : c16_19 = .skip := by kernel_rfl
theorem c16_20e : c16_20 = .exit 0 := by kernel_rfl
theorem c16_21e : c16_21 = .seq c16_22 c16_30 := by kernel_rfl
theorem c16_22e : c16_22 = .block 1 c16_23 := by kernel_rfl
theorem c16_23e : c16_23 = .seq c16_24 c16_25 := by kernel_rfl
theorem c16_24e : c16_24 = .region 5 r16_24 false := by kernel_rfl
theorem c16_25e : c16_25 = .seq c16_26 c16_27 := by kernel_rfl
theorem c16_26e : c16_26 = .region 6 r16_26 false := by kernel_rfl
theorem c16_27e : c16_27 = .cond (cdC c16_27) c16_28 c16_29 := by kernel_rfl
theorem c16_28e : c16_28 = .region 7 r16_28 false := by kernel_rfl
theorem c16_29e : c16_29 = .skip := by kernel_rfl
theorem c16_30e : c16_30 = .region 8 r16_30 false := by kernel_rfl
theorem c16_31e : c16_31 = .region 9 r16_31 false := by kernel_rfl
noncomputable def session_Table_Clock.R (b_2 : Nat) (A_3 : Option Addr) (c_4 : Nat) : Pst T_session_Table where
  ε := Option Addr × Nat
  v := fun r x => .tuple ⟨[]⟩
  H := fun r x => [⟨1, b_2, [.int .u64 r.now, .int .u64 r.next, .slice x.1 r.rows.length x.2]⟩]
  B := fun r x => [Ow 2 kT_session_Row x.1 x.2 r.rows]
noncomputable def session_Table_Clock.cx (b_2 : Nat) (A_3 : Option Addr) (c_4 : Nat) (w0 : World) (S0 : Fam) : Cx T_session_Table := ⟨Try.prog, 16, Try.f16, 44, w0, S0, [1, 2], 2, session_Table_Clock.R b_2 A_3 c_4⟩
theorem session_Table_Clock_l0_ok (n : Nat) (t_1 : T_session_Table) (now_5 : Int) (b_2 : Nat) (A_3 : Option Addr) (c_4 : Nat) (w0 : World) (S0 : Fam) :
    ∀ (k : Nat) (l_7 : (List T_session_Row)) (x_10 : Int) (A_8 : Option Addr) (c_9 : Nat), GoO (session_Table_Clock.cx b_2 A_3 c_4 w0 S0) [(0, .pointer (some ⟨b_2, 0, none⟩)), (1, .int .u64 now_5), (4, .slice A_8 l_7.length c_9), (24, .slice A_3 t_1.rows.length c_4), (25, .int .i64 (t_1.rows.length : Int)), (26, .int .i64 x_10)] [⟨1, b_2, [.int .u64 now_5, .int .u64 t_1.next, .slice A_3 t_1.rows.length c_4]⟩] [Ow 2 kT_session_Row A_3 c_4 t_1.rows, Ow 42 kT_session_Row A_8 c_9 l_7] [.code c16_15, .inLoop c16_15, .inBlock 0, .code c16_31] (session_Table_Clock.l0 n t_1 now_5 k l_7 x_10) := by
  intro k
  induction k with
  | zero => intros; rw [session_Table_Clock.l0.eq_1]; exact GoO.stop
  | succ k ih0 =>
    intro l_7 x_10 A_8 c_9
    rw [session_Table_Clock.l0.eq_2]
    refine GoO.seq' c16_15e ?_
    refine GoO.region' (is := [0]) c16_16e (by kernel_rfl) ?_
    refine GoO.exec (is := [0]) (hs := [.p]) (rest := []) (ks := [0, 1, 4, 24, 25, 26, 27]) (env' := [(0, .pointer (some ⟨b_2, 0, none⟩)), (1, .int .u64 now_5), (4, .slice A_8 l_7.length c_9), (24, .slice A_3 t_1.rows.length c_4), (25, .int .i64 (t_1.rows.length : Int)), (26, .int .i64 x_10), (27, .bool (decide (x_10 < (t_1.rows.length : Int))))]) (H' := [⟨1, b_2, [.int .u64 now_5, .int .u64 t_1.next, .slice A_3 t_1.rows.length c_4]⟩]) (ps := []) (by kernel_rfl) trivial ?_
    refine GoO.regionEnd ?_
    refine GoO.seq' c16_17e ?_
    refine GoO.ite' c16_18e (by kernel_rfl) (fun h11 => ?_) (fun h11 => ?_)
    · refine GoO.skip' c16_19e ?_
      refine GoO.seq' c16_21e ?_
      refine GoO.block' c16_22e ?_
      refine GoO.seq' c16_23e ?_
      refine GoO.region' (is := [0, 1, 2, 3]) c16_24e (by kernel_rfl) ?_
      refine GoO.guard (fun h12 => ?_)
      refine OpTo.go (GoO.idx (kk := .i64) (e := 87) (K := kT_session_Row) (A := A_3) (c := c_4) (xs := t_1.rows) (iv := x_10) (j := 0) rfl (by kernel_rfl) (by kernel_rfl) (by kernel_rfl) (by kernel_rfl) rfl Reads.own rfl h12.1 h12.2 (by decide) rfl ?_)
      refine OpTo.go (GoO.ldE' (K := kT_session_Row) (A := A_3) (c := c_4) (xs := t_1.rows) (iN := x_10.toNat) (off := 0) (j := 0) rfl (by kernel_rfl) rfl Reads.own (by first | exact idx_lt h12.1 h12.2 | (simp only [List.length_set]; exact idx_lt h12.1 h12.2)) (by decide) (Opn.flat _ _ _ _ _) (v := fun _ => .agg ⟨[.int .u64 ((rdL t_1.rows x_10).Id), .int .u64 ((rdL t_1.rows x_10).Used), .int .u64 ((rdL t_1.rows x_10).Seq), .int .i64 ((rdL t_1.rows x_10).Reply.Err), .int .u64 ((rdL t_1.rows x_10).Reply.Num), .int .u64 ((rdL t_1.rows x_10).Reply.Extra)]⟩) (fun _ => by kernel_rfl) _ (fun _ => rfl) (fun _ => ?_))
      refine OpTo.go (GoO.new rfl 40 (cs := [.int .u64 0, .int .u64 0, .int .u64 0, .int .i64 0, .int .u64 0, .int .u64 0]) (by kernel_rfl) _ (fun _ => rfl) (fun b_13 => ?_))
      refine GoO.exec (is := [3]) (hs := [.b 0]) (rest := []) (ks := [0, 1, 4, 6, 24, 25, 26]) (env' := [(0, .pointer (some ⟨b_2, 0, none⟩)), (1, .int .u64 now_5), (4, .slice A_8 l_7.length c_9), (6, .pointer (some ⟨b_13, 0, none⟩)), (24, .slice A_3 t_1.rows.length c_4), (25, .int .i64 (t_1.rows.length : Int)), (26, .int .i64 x_10)]) (H' := [⟨40, b_13, [.int .u64 ((rdL t_1.rows x_10).Id), .int .u64 ((rdL t_1.rows x_10).Used), .int .u64 ((rdL t_1.rows x_10).Seq), .int .i64 ((rdL t_1.rows x_10).Reply.Err), .int .u64 ((rdL t_1.rows x_10).Reply.Num), .int .u64 ((rdL t_1.rows x_10).Reply.Extra)]⟩, ⟨1, b_2, [.int .u64 now_5, .int .u64 t_1.next, .slice A_3 t_1.rows.length c_4]⟩]) (ps := [b_13 = b_13]) (by kernel_rfl) (And.intro rfl trivial) ?_
      refine GoO.regionEnd ?_
      refine GoO.seq' c16_25e ?_
      refine GoO.region' (is := [0, 1, 2, 3, 4]) c16_26e (by kernel_rfl) ?_
      refine GoO.exec (is := [0, 1, 2, 3, 4]) (hs := [.p, .p, .b 0, .p, .p]) (rest := []) (ks := [0, 1, 4, 6, 24, 25, 26, 34]) (env' := [(0, .pointer (some ⟨b_2, 0, none⟩)), (1, .int .u64 now_5), (4, .slice A_8 l_7.length c_9), (6, .pointer (some ⟨b_13, 0, none⟩)), (24, .slice A_3 t_1.rows.length c_4), (25, .int .i64 (t_1.rows.length : Int)), (26, .int .i64 x_10), (34, .bool (decide ((wu64 (now_5 - ((rdL t_1.rows x_10).Used))) ≤ 1000)))]) (H' := [⟨40, b_13, [.int .u64 ((rdL t_1.rows x_10).Id), .int .u64 ((rdL t_1.rows x_10).Used), .int .u64 ((rdL t_1.rows x_10).Seq), .int .i64 ((rdL t_1.rows x_10).Reply.Err), .int .u64 ((rdL t_1.rows x_10).Reply.Num), .int .u64 ((rdL t_1.rows x_10).Reply.Extra)]⟩, ⟨1, b_2, [.int .u64 now_5, .int .u64 t_1.next, .slice A_3 t_1.rows.length c_4]⟩]) (ps := [b_13 = b_13]) (by kernel_rfl) (And.intro rfl trivial) ?_
      refine GoO.regionEnd ?_
      refine GoO.ite' c16_27e (by kernel_rfl) (fun h14 => ?_) (fun h14 => ?_)
      · refine GoO.region' (is := [0, 1, 2, 3, 4]) c16_28e (by kernel_rfl) ?_
        refine GoO.exec (is := [0, 1]) (hs := [.p, .b 0]) (rest := [2, 3, 4]) (ks := [0, 1, 24, 25, 26, 35, 36]) (env' := [(0, .pointer (some ⟨b_2, 0, none⟩)), (1, .int .u64 now_5), (24, .slice A_3 t_1.rows.length c_4), (25, .int .i64 (t_1.rows.length : Int)), (26, .int .i64 x_10), (35, .slice A_8 l_7.length c_9), (36, .agg ⟨[.int .u64 ((rdL t_1.rows x_10).Id), .int .u64 ((rdL t_1.rows x_10).Used), .int .u64 ((rdL t_1.rows x_10).Seq), .int .i64 ((rdL t_1.rows x_10).Reply.Err), .int .u64 ((rdL t_1.rows x_10).Reply.Num), .int .u64 ((rdL t_1.rows x_10).Reply.Extra)]⟩)]) (H' := [⟨40, b_13, [.int .u64 ((rdL t_1.rows x_10).Id), .int .u64 ((rdL t_1.rows x_10).Used), .int .u64 ((rdL t_1.rows x_10).Seq), .int .i64 ((rdL t_1.rows x_10).Reply.Err), .int .u64 ((rdL t_1.rows x_10).Reply.Num), .int .u64 ((rdL t_1.rows x_10).Reply.Extra)]⟩, ⟨1, b_2, [.int .u64 now_5, .int .u64 t_1.next, .slice A_3 t_1.rows.length c_4]⟩]) (ps := [b_13 = b_13]) (by kernel_rfl) (And.intro rfl trivial) ?_
        refine OpTo.go (GoO.lit (e := 87) (K := kT_session_Row) rfl (by kernel_rfl) (by kernel_rfl) (cs := [.int .u64 ((rdL t_1.rows x_10).Id), .int .u64 ((rdL t_1.rows x_10).Used), .int .u64 ((rdL t_1.rows x_10).Seq), .int .i64 ((rdL t_1.rows x_10).Reply.Err), .int .u64 ((rdL t_1.rows x_10).Reply.Num), .int .u64 ((rdL t_1.rows x_10).Reply.Extra)]) (by kernel_rfl) [(⟨(rdL t_1.rows x_10).Id, (rdL t_1.rows x_10).Used, (rdL t_1.rows x_10).Seq, (⟨(rdL t_1.rows x_10).Reply.Err, (rdL t_1.rows x_10).Reply.Num, (rdL t_1.rows x_10).Reply.Extra⟩ : T_api_Reply)⟩ : T_session_Row)] (by kernel_rfl) (by kernel_rfl) (fun w S hB => ⟨[.int .u64 ((rdL t_1.rows x_10).Id), .int .u64 ((rdL t_1.rows x_10).Used), .int .u64 ((rdL t_1.rows x_10).Seq), .int .i64 ((rdL t_1.rows x_10).Reply.Err), .int .u64 ((rdL t_1.rows x_10).Reply.Num), .int .u64 ((rdL t_1.rows x_10).Reply.Extra)], _, rfl, rfl, rfl⟩) 41 _ (fun _ _ => rfl) (fun A_15 c_16 => ?_))
        refine GoO.guard (fun h17 => ?_)
        refine OpTo.go (GoO.appW (e := 87) (K := kT_session_Row) (A := A_8) (c := c_9) (tg := 42) (bytes := 48) (zs := [.int .u64 0, .int .u64 0, .int .u64 0, .int .i64 0, .int .u64 0, .int .u64 0]) (xs := l_7) (ys := [(⟨(rdL t_1.rows x_10).Id, (rdL t_1.rows x_10).Used, (rdL t_1.rows x_10).Seq, (⟨(rdL t_1.rows x_10).Reply.Err, (rdL t_1.rows x_10).Reply.Num, (rdL t_1.rows x_10).Reply.Extra⟩ : T_api_Reply)⟩ : T_session_Row)]) (xv := .slice A_15 [(⟨(rdL t_1.rows x_10).Id, (rdL t_1.rows x_10).Used, (rdL t_1.rows x_10).Seq, (⟨(rdL t_1.rows x_10).Reply.Err, (rdL t_1.rows x_10).Reply.Num, (rdL t_1.rows x_10).Reply.Extra⟩ : T_api_Reply)⟩ : T_session_Row)].length c_16) (j := 2) (bk := [0, 1]) rfl (by kernel_rfl) (by kernel_rfl) (by kernel_rfl) (by kernel_rfl) rfl (by kernel_rfl) rfl (fun w S hB => SrcIs.row (Reads.own w S (hB _ (List.mem_of_getElem? (i := 0) rfl)))) h17 rfl rfl rfl rfl _ (fun _ _ => rfl) (fun A_18 c_19 => ?_))
        refine GoO.exec (is := [4]) (hs := [.p]) (rest := []) (ks := [0, 1, 4, 24, 25, 26]) (env' := [(0, .pointer (some ⟨b_2, 0, none⟩)), (1, .int .u64 now_5), (4, .slice A_18 (l_7 ++ [(⟨(rdL t_1.rows x_10).Id, (rdL t_1.rows x_10).Used, (rdL t_1.rows x_10).Seq, (⟨(rdL t_1.rows x_10).Reply.Err, (rdL t_1.rows x_10).Reply.Num, (rdL t_1.rows x_10).Reply.Extra⟩ : T_api_Reply)⟩ : T_session_Row)]).length c_19), (24, .slice A_3 t_1.rows.length c_4), (25, .int .i64 (t_1.rows.length : Int)), (26, .int .i64 x_10)]) (H' := [⟨40, b_13, [.int .u64 ((rdL t_1.rows x_10).Id), .int .u64 ((rdL t_1.rows x_10).Used), .int .u64 ((rdL t_1.rows x_10).Seq), .int .i64 ((rdL t_1.rows x_10).Reply.Err), .int .u64 ((rdL t_1.rows x_10).Reply.Num), .int .u64 ((rdL t_1.rows x_10).Reply.Extra)]⟩, ⟨1, b_2, [.int .u64 now_5, .int .u64 t_1.next, .slice A_3 t_1.rows.length c_4]⟩]) (ps := []) (by kernel_rfl) trivial ?_
        refine GoO.regionEnd ?_
        refine GoO.inBlock ?_
        refine GoO.region' (is := [0, 1]) c16_30e (by kernel_rfl) ?_
        refine GoO.exec (is := [0, 1]) (hs := [.p, .p]) (rest := []) (ks := [0, 1, 4, 24, 25, 26]) (env' := [(0, .pointer (some ⟨b_2, 0, none⟩)), (1, .int .u64 now_5), (4, .slice A_18 (l_7 ++ [(⟨(rdL t_1.rows x_10).Id, (rdL t_1.rows x_10).Used, (rdL t_1.rows x_10).Seq, (⟨(rdL t_1.rows x_10).Reply.Err, (rdL t_1.rows x_10).Reply.Num, (rdL t_1.rows x_10).Reply.Extra⟩ : T_api_Reply)⟩ : T_session_Row)]).length c_19), (24, .slice A_3 t_1.rows.length c_4), (25, .int .i64 (t_1.rows.length : Int)), (26, .int .i64 (wi64 (x_10 + 1)))]) (H' := [⟨40, b_13, [.int .u64 ((rdL t_1.rows x_10).Id), .int .u64 ((rdL t_1.rows x_10).Used), .int .u64 ((rdL t_1.rows x_10).Seq), .int .i64 ((rdL t_1.rows x_10).Reply.Err), .int .u64 ((rdL t_1.rows x_10).Reply.Num), .int .u64 ((rdL t_1.rows x_10).Reply.Extra)]⟩, ⟨1, b_2, [.int .u64 now_5, .int .u64 t_1.next, .slice A_3 t_1.rows.length c_4]⟩]) (ps := []) (by kernel_rfl) trivial ?_
        refine GoO.regionEnd ?_
        refine GoO.inLoop ?_
        exact GoO.sub (ks := [0, 1, 4, 24, 25, 26]) (hk := [1]) (bk := [2, 0]) (by kernel_rfl) (by kernel_rfl) (by kernel_rfl) (ih0 (l_7 ++ [(⟨(rdL t_1.rows x_10).Id, (rdL t_1.rows x_10).Used, (rdL t_1.rows x_10).Seq, (⟨(rdL t_1.rows x_10).Reply.Err, (rdL t_1.rows x_10).Reply.Num, (rdL t_1.rows x_10).Reply.Extra⟩ : T_api_Reply)⟩ : T_session_Row)]) (wi64 (x_10 + 1)) A_18 c_19)
      · refine GoO.skip' c16_29e ?_
        refine GoO.inBlock ?_
        refine GoO.region' (is := [0, 1]) c16_30e (by kernel_rfl) ?_
        refine GoO.exec (is := [0, 1]) (hs := [.p, .p]) (rest := []) (ks := [0, 1, 4, 24, 25, 26]) (env' := [(0, .pointer (some ⟨b_2, 0, none⟩)), (1, .int .u64 now_5), (4, .slice A_8 l_7.length c_9), (24, .slice A_3 t_1.rows.length c_4), (25, .int .i64 (t_1.rows.length : Int)), (26, .int .i64 (wi64 (x_10 + 1)))]) (H' := [⟨40, b_13, [.int .u64 ((rdL t_1.rows x_10).Id), .int .u64 ((rdL t_1.rows x_10).Used), .int .u64 ((rdL t_1.rows x_10).Seq), .int .i64 ((rdL t_1.rows x_10).Reply.Err), .int .u64 ((rdL t_1.rows x_10).Reply.Num), .int .u64 ((rdL t_1.rows x_10).Reply.Extra)]⟩, ⟨1, b_2, [.int .u64 now_5, .int .u64 t_1.next, .slice A_3 t_1.rows.length c_4]⟩]) (ps := []) (by kernel_rfl) trivial ?_
        refine GoO.regionEnd ?_
        refine GoO.inLoop ?_
        exact GoO.sub (ks := [0, 1, 4, 24, 25, 26]) (hk := [1]) (bk := [0, 1]) (by kernel_rfl) (by kernel_rfl) (by kernel_rfl) (ih0 l_7 (wi64 (x_10 + 1)) A_8 c_9)
    · refine GoO.exit' c16_20e rfl ?_
      refine GoO.region' (is := [0, 1, 2, 3, 4]) c16_31e (by kernel_rfl) ?_
      refine GoO.exec (is := [0, 1, 2, 3, 4]) (hs := [.p, .p, .p, .p, .b 0]) (rest := []) (ks := []) (env' := []) (H' := [⟨1, b_2, [.int .u64 now_5, .int .u64 t_1.next, .slice A_8 l_7.length c_9]⟩]) (ps := [b_2 = b_2]) (by kernel_rfl) (And.intro rfl trivial) ?_
      refine GoO.regionEnd ?_
      refine GoO.sub (ks := []) (env' := []) (hk := [0]) (bk := [1]) (by kernel_rfl) rfl rfl ?_
      refine GoO.retag (t := 42) (u := 2) (j := 0) (hk := [0]) (bk := []) rfl rfl rfl rfl rfl rfl (by kernel_rfl) (by kernel_rfl) ?_
      exact GoO.fin (hs := []) (ps := []) (hk := [0]) (bk := [0]) Try.func16 (⟨A_8, c_9⟩ : Option Addr × Nat) (by kernel_rfl) trivial (by kernel_rfl) (by kernel_rfl)
theorem session_Table_Clock_ok (n : Nat) (t_1 : T_session_Table) (now_5 : Int) (b_2 : Nat) (A_3 : Option Addr) (c_4 : Nat) :
    Meets Try.prog 16 [.pointer (some ⟨b_2, 0, none⟩), .int .u64 now_5] 2 [1, 2] [⟨1, b_2, [.int .u64 t_1.now, .int .u64 t_1.next, .slice A_3 t_1.rows.length c_4]⟩] [Ow 2 kT_session_Row A_3 c_4 t_1.rows] (session_Table_Clock.f n t_1 now_5) (session_Table_Clock.R b_2 A_3 c_4) := by
  refine Meets.of (c := c16_0) (n := 44) Try.func16 (by kernel_rfl) (by kernel_rfl) (by kernel_rfl) fun w0 S0 => ?_
  unfold session_Table_Clock.f
  show GoO (session_Table_Clock.cx b_2 A_3 c_4 w0 S0) [(0, .pointer (some ⟨b_2, 0, none⟩)), (1, .int .u64 now_5)] [⟨1, b_2, [.int .u64 t_1.now, .int .u64 t_1.next, .slice A_3 t_1.rows.length c_4]⟩] [Ow 2 kT_session_Row A_3 c_4 t_1.rows] [.code c16_0] _
  refine GoO.seq' c16_0e ?_
  refine GoO.seq' c16_1e ?_
  refine GoO.region' (is := [0, 1, 2, 3, 4, 5, 6, 7, 8, 9]) c16_2e (by kernel_rfl) ?_
  refine GoO.exec (is := [0, 1, 2, 3, 4, 5, 6, 7, 8, 9]) (hs := [.p, .p, .p, .p, .p, .p, .p, .b 0, .p, .p]) (rest := []) (ks := [0, 1, 16]) (env' := [(0, .pointer (some ⟨b_2, 0, none⟩)), (1, .int .u64 now_5), (16, .bool (decide (now_5 ≤ t_1.now)))]) (H' := [⟨1, b_2, [.int .u64 t_1.now, .int .u64 t_1.next, .slice A_3 t_1.rows.length c_4]⟩]) (ps := [b_2 = b_2]) (by kernel_rfl) (And.intro rfl trivial) ?_
  refine GoO.regionEnd ?_
  refine GoO.ite' c16_3e (by kernel_rfl) (fun h6 => ?_) (fun h6 => ?_)
  · exact GoO.ret' (h := c16_4e) (hs := []) (ps := []) (hk := [0]) (bk := [0]) Try.func16 (⟨A_3, c_4⟩ : Option Addr × Nat) (by kernel_rfl) trivial (by kernel_rfl) (by kernel_rfl)
  · refine GoO.skip' c16_5e ?_
    refine GoO.seq' c16_6e ?_
    refine GoO.region' (is := [0, 1, 2, 3, 4]) c16_7e (by kernel_rfl) ?_
    refine GoO.exec (is := [0, 1, 2, 3, 4]) (hs := [.p, .p, .p, .p, .b 0]) (rest := []) (ks := [0, 1]) (env' := [(0, .pointer (some ⟨b_2, 0, none⟩)), (1, .int .u64 now_5)]) (H' := [⟨1, b_2, [.int .u64 now_5, .int .u64 t_1.next, .slice A_3 t_1.rows.length c_4]⟩]) (ps := [b_2 = b_2]) (by kernel_rfl) (And.intro rfl trivial) ?_
    refine GoO.regionEnd ?_
    refine GoO.seq' c16_8e ?_
    refine GoO.region' (is := [0]) c16_9e (by kernel_rfl) ?_
    refine GoO.exec (is := [0]) (hs := [.p]) (rest := []) (ks := [0, 1, 4]) (env' := [(0, .pointer (some ⟨b_2, 0, none⟩)), (1, .int .u64 now_5), (4, .slice none ([] : List T_session_Row).length 0)]) (H' := [⟨1, b_2, [.int .u64 now_5, .int .u64 t_1.next, .slice A_3 t_1.rows.length c_4]⟩]) (ps := []) (by kernel_rfl) trivial ?_
    refine GoO.regionEnd ?_
    refine GoO.seq' c16_10e ?_
    refine GoO.seq' c16_11e ?_
    refine GoO.region' (is := [0, 1, 2, 3, 4, 5]) c16_12e (by kernel_rfl) ?_
    refine GoO.exec (is := [0, 1, 2, 3, 4, 5]) (hs := [.p, .p, .p, .b 0, .p, .p]) (rest := []) (ks := [0, 1, 4, 24, 25, 26]) (env' := [(0, .pointer (some ⟨b_2, 0, none⟩)), (1, .int .u64 now_5), (4, .slice none ([] : List T_session_Row).length 0), (24, .slice A_3 t_1.rows.length c_4), (25, .int .i64 (t_1.rows.length : Int)), (26, .int .i64 0)]) (H' := [⟨1, b_2, [.int .u64 now_5, .int .u64 t_1.next, .slice A_3 t_1.rows.length c_4]⟩]) (ps := [b_2 = b_2]) (by kernel_rfl) (And.intro rfl trivial) ?_
    refine GoO.regionEnd ?_
    refine GoO.block' c16_13e ?_
    refine GoO.loop' c16_14e ?_
    refine GoO.nilOwn kT_session_Row 42 ?_
    exact GoO.sub (ks := [0, 1, 4, 24, 25, 26]) (hk := [0]) (bk := [1, 0]) (by kernel_rfl) (by kernel_rfl) (by kernel_rfl) (session_Table_Clock_l0_ok n t_1 now_5 b_2 A_3 c_4 w0 S0 n ([] : List T_session_Row) 0 none 0)

/-! (*tontine/session.Table).Rows -/
noncomputable def c24_0 : Code := bodyOf Try.f24
noncomputable def c24_1 : Code := cdL c24_0
noncomputable def c24_2 : Code := cdR c24_0
noncomputable def c24_3 : Code := cdL c24_2
noncomputable def c24_4 : Code := cdL c24_3
noncomputable def c24_5 : Code := cdR c24_3
noncomputable def c24_9 : Code := cdR c24_5
noncomputable def c24_10 : Code := cdR c24_2
noncomputable def c24_11 : Code := cdL c24_10
noncomputable def c24_12 : Code := cdR c24_10
noncomputable def c24_13 : Code := cdL c24_12
noncomputable def c24_14 : Code := cdR c24_12
noncomputable def c24_15 : Code := cdL c24_14
noncomputable def c24_16 : Code := cdR c24_14
noncomputable def c24_6 : Code := cdL c24_5
noncomputable def r24_1 : Array Oper := cdO c24_1
noncomputable def r24_4 : Array Oper := cdO c24_4
noncomputable def r24_11 : Array Oper := cdO c24_11
noncomputable def r24_13 : Array Oper := cdO c24_13
noncomputable def r24_15 : Array Oper := cdO c24_15
theorem c24_0e : c24_0 = .seq c24_1 c24_2 := by kernel_rfl
theorem c24_1e : c24_1 = .region 0 r24_1 false := by kernel_rfl
theorem c24_2e : c24_2 = .seq c24_3 c24_10 := by kernel_rfl
theorem c24_3e : c24_3 = .seq c24_4 c24_5 := by kernel_rfl
theorem c24_4e : c24_4 = .region 1 r24_4 false := by kernel_rfl
theorem c24_5e : c24_5 = .cond (cdC c24_5) c24_6 c24_9 := by kernel_rfl
theorem c24_9e : c24_9 = .skip := by kernel_rfl
theorem c24_10e : c24_10 = .seq c24_11 c24_12 := by kernel_rfl
theorem c24_11e : c24_11 = .region 3 r24_11 false := by kernel_rfl
theorem c24_12e : c24_12 = .seq c24_13 c24_14 := by kernel_rfl
theorem c24_13e : c24_13 = .region 4 r24_13 false := by kernel_rfl
theorem c24_14e : c24_14 = .seq c24_15 c24_16 := by kernel_rfl
theorem c24_15e : c24_15 = .region 5 r24_15 false := by kernel_rfl
theorem c24_16e : c24_16 = .ret := by kernel_rfl
noncomputable def session_Table_Rows.R (b_2 : Nat) (A_3 : Option Addr) (c_4 : Nat) : Pst (List T_session_Row) where
  ε := Option Addr × Nat
  v := fun r x => .slice x.1 r.length x.2
  H := fun r x => []
  B := fun r x => [Ow 3 kT_session_Row x.1 x.2 r]
noncomputable def session_Table_Rows.cx (b_2 : Nat) (A_3 : Option Addr) (c_4 : Nat) (w0 : World) (S0 : Fam) : Cx (List T_session_Row) := ⟨Try.prog, 24, Try.f24, 19, w0, S0, [], 2, session_Table_Rows.R b_2 A_3 c_4⟩
theorem session_Table_Rows_ok (n : Nat) (t_1 : T_session_Table) (b_2 : Nat) (A_3 : Option Addr) (c_4 : Nat) :
    Meets Try.prog 24 [.pointer (some ⟨b_2, 0, none⟩)] 2 [] [⟨1, b_2, [.int .u64 t_1.now, .int .u64 t_1.next, .slice A_3 t_1.rows.length c_4]⟩] [Ow 2 kT_session_Row A_3 c_4 t_1.rows] (session_Table_Rows.f n t_1) (session_Table_Rows.R b_2 A_3 c_4) := by
  refine Meets.of (c := c24_0) (n := 19) Try.func24 (by kernel_rfl) (by kernel_rfl) (by kernel_rfl) fun w0 S0 => ?_
  unfold session_Table_Rows.f
  show GoO (session_Table_Rows.cx b_2 A_3 c_4 w0 S0) [(0, .pointer (some ⟨b_2, 0, none⟩))] [⟨1, b_2, [.int .u64 t_1.now, .int .u64 t_1.next, .slice A_3 t_1.rows.length c_4]⟩] [Ow 2 kT_session_Row A_3 c_4 t_1.rows] [.code c24_0] _
  refine GoO.seq' c24_0e ?_
  refine GoO.region' (is := [0]) c24_1e (by kernel_rfl) ?_
  refine GoO.exec (is := [0]) (hs := [.p]) (rest := []) (ks := [0]) (env' := [(0, .pointer (some ⟨b_2, 0, none⟩))]) (H' := [⟨1, b_2, [.int .u64 t_1.now, .int .u64 t_1.next, .slice A_3 t_1.rows.length c_4]⟩]) (ps := []) (by kernel_rfl) trivial ?_
  refine GoO.regionEnd ?_
  refine GoO.seq' c24_2e ?_
  refine GoO.seq' c24_3e ?_
  refine GoO.region' (is := [0, 1]) c24_4e (by kernel_rfl) ?_
  refine GoO.exec (is := [0, 1]) (hs := [.p, .p]) (rest := []) (ks := [0, 5]) (env' := [(0, .pointer (some ⟨b_2, 0, none⟩)), (5, .bool false)]) (H' := [⟨1, b_2, [.int .u64 t_1.now, .int .u64 t_1.next, .slice A_3 t_1.rows.length c_4]⟩]) (ps := []) (by kernel_rfl) trivial ?_
  refine GoO.regionEnd ?_
  refine GoO.condF c24_5e (by kernel_rfl) ?_
  refine GoO.skip' c24_9e ?_
  refine GoO.seq' c24_10e ?_
  refine GoO.region' (is := [0, 1, 2, 3, 4, 5, 6]) c24_11e (by kernel_rfl) ?_
  refine GoO.exec (is := [0, 1, 2, 3, 4]) (hs := [.p, .p, .p, .b 0, .p]) (rest := [5, 6]) (ks := [0, 10]) (env' := [(0, .pointer (some ⟨b_2, 0, none⟩)), (10, .int .i64 (t_1.rows.length : Int))]) (H' := [⟨1, b_2, [.int .u64 t_1.now, .int .u64 t_1.next, .slice A_3 t_1.rows.length c_4]⟩]) (ps := [b_2 = b_2]) (by kernel_rfl) (And.intro rfl trivial) ?_
  refine GoO.guard (fun h7 => ?_)
  refine OpTo.go (GoO.mk (e := 87) (k1 := .i64) (k2 := .i64) (K := kT_session_Row) (n := (t_1.rows.length : Int)) (c := (t_1.rows.length : Int)) (bytes := 48) (zs := [.int .u64 0, .int .u64 0, .int .u64 0, .int .i64 0, .int .u64 0, .int .u64 0]) rfl (by kernel_rfl) (by kernel_rfl) (by kernel_rfl) (by kernel_rfl) ((⟨0, 0, 0, ⟨0, 0, 0⟩⟩ : T_session_Row)) (fun _ _ => rfl) h7.1 h7.2.1 (by kernel_rfl) h7.2.2 40 _ (fun _ _ => rfl) (fun A_5 c_6 => ?_))
  refine GoO.exec (is := [6]) (hs := [.p]) (rest := []) (ks := [0, 3]) (env' := [(0, .pointer (some ⟨b_2, 0, none⟩)), (3, .slice A_5 (List.replicate (t_1.rows.length : Int).toNat (⟨0, 0, 0, ⟨0, 0, 0⟩⟩ : T_session_Row)).length c_6)]) (H' := [⟨1, b_2, [.int .u64 t_1.now, .int .u64 t_1.next, .slice A_3 t_1.rows.length c_4]⟩]) (ps := []) (by kernel_rfl) trivial ?_
  refine GoO.regionEnd ?_
  refine GoO.seq' c24_12e ?_
  refine GoO.region' (is := [0, 1, 2, 3, 4, 5]) c24_13e (by kernel_rfl) ?_
  refine GoO.exec (is := [0, 1, 2, 3, 4]) (hs := [.p, .p, .p, .p, .b 0]) (rest := [5]) (ks := [3, 12, 16]) (env' := [(3, .slice A_5 (List.replicate (t_1.rows.length : Int).toNat (⟨0, 0, 0, ⟨0, 0, 0⟩⟩ : T_session_Row)).length c_6), (12, .slice A_5 (List.replicate (t_1.rows.length : Int).toNat (⟨0, 0, 0, ⟨0, 0, 0⟩⟩ : T_session_Row)).length c_6), (16, .slice A_3 t_1.rows.length c_4)]) (H' := [⟨1, b_2, [.int .u64 t_1.now, .int .u64 t_1.next, .slice A_3 t_1.rows.length c_4]⟩]) (ps := [b_2 = b_2]) (by kernel_rfl) (And.intro rfl trivial) ?_
  refine OpTo.go (GoO.copy1 (e := 87) (K := kT_session_Row) (A := A_5) (c := c_6) (xs := List.replicate (t_1.rows.length : Int).toNat (⟨0, 0, 0, ⟨0, 0, 0⟩⟩ : T_session_Row)) (A2 := A_3) (c2 := c_4) (ys := t_1.rows) (tg := 40) (j := 0) (j2 := 1) rfl rfl rfl (by kernel_rfl) (by kernel_rfl) rfl rfl Reads.own (by decide) (by kernel_rfl) (by kernel_rfl) (by kernel_rfl) rfl ?_)
  refine GoO.reval (t := 3) (v := .slice A_5 (List.replicate (t_1.rows.length : Int).toNat (⟨0, 0, 0, ⟨0, 0, 0⟩⟩ : T_session_Row)).length c_6) (v' := .slice A_5 (copyL (List.replicate (t_1.rows.length : Int).toNat (⟨0, 0, 0, ⟨0, 0, 0⟩⟩ : T_session_Row)) t_1.rows).length c_6) (by kernel_rfl) (by rw [copyL_length]) ?_
  refine GoO.reval (t := 12) (v := .slice A_5 (List.replicate (t_1.rows.length : Int).toNat (⟨0, 0, 0, ⟨0, 0, 0⟩⟩ : T_session_Row)).length c_6) (v' := .slice A_5 (copyL (List.replicate (t_1.rows.length : Int).toNat (⟨0, 0, 0, ⟨0, 0, 0⟩⟩ : T_session_Row)) t_1.rows).length c_6) (by kernel_rfl) (by rw [copyL_length]) ?_
  refine GoO.regionEnd ?_
  refine GoO.seq' c24_14e ?_
  refine GoO.region' (is := [0, 1]) c24_15e (by kernel_rfl) ?_
  refine GoO.exec (is := [0, 1]) (hs := [.p, .p]) (rest := []) (ks := [2]) (env' := [(2, .slice A_5 (copyL (List.replicate (t_1.rows.length : Int).toNat (⟨0, 0, 0, ⟨0, 0, 0⟩⟩ : T_session_Row)) t_1.rows).length c_6)]) (H' := [⟨1, b_2, [.int .u64 t_1.now, .int .u64 t_1.next, .slice A_3 t_1.rows.length c_4]⟩]) (ps := []) (by kernel_rfl) trivial ?_
  refine GoO.regionEnd ?_
  refine GoO.retag (t := 40) (u := 3) (j := 0) (hk := [0]) (bk := [1]) rfl rfl rfl rfl rfl rfl (by kernel_rfl) (by kernel_rfl) ?_
  exact GoO.ret' (h := c24_16e) (hs := []) (ps := []) (hk := []) (bk := [0]) Try.func24 (⟨A_5, c_6⟩ : Option Addr × Nat) (by kernel_rfl) trivial (by kernel_rfl) (by kernel_rfl)

/-! tontine/tontinelaw15.SessionLives -/
noncomputable def c5_0 : Code := bodyOf Try.f5
noncomputable def c5_1 : Code := cdL c5_0
noncomputable def c5_2 : Code := cdR c5_0
noncomputable def c5_3 : Code := cdL c5_2
noncomputable def c5_4 : Code := cdL c5_3
noncomputable def c5_5 : Code := cdR c5_3
noncomputable def c5_6 : Code := cdL c5_5
noncomputable def c5_7 : Code := cdL c5_6
noncomputable def c5_8 : Code := cdR c5_6
noncomputable def c5_9 : Code := cdR c5_5
noncomputable def c5_10 : Code := cdR c5_2
noncomputable def c5_11 : Code := cdL c5_10
noncomputable def c5_12 : Code := cdR c5_10
noncomputable def c5_13 : Code := cdL c5_12
noncomputable def c5_14 : Code := cdR c5_12
noncomputable def c5_15 : Code := cdL c5_14
noncomputable def c5_16 : Code := cdR c5_14
noncomputable def c5_17 : Code := cdL c5_16
noncomputable def c5_18 : Code := cdL c5_17
noncomputable def c5_19 : Code := cdR c5_17
noncomputable def c5_20 : Code := cdL c5_19
noncomputable def c5_21 : Code := cdL c5_20
noncomputable def c5_22 : Code := cdL c5_21
noncomputable def c5_23 : Code := cdR c5_21
noncomputable def c5_24 : Code := cdL c5_23
noncomputable def c5_25 : Code := cdL c5_24
noncomputable def c5_26 : Code := cdR c5_24
noncomputable def c5_27 : Code := cdR c5_23
noncomputable def c5_28 : Code := cdL c5_27
noncomputable def c5_29 : Code := cdL c5_28
noncomputable def c5_30 : Code := cdL c5_29
noncomputable def c5_31 : Code := cdR c5_29
noncomputable def c5_32 : Code := cdL c5_31
noncomputable def c5_33 : Code := cdL c5_32
noncomputable def c5_34 : Code := cdR c5_32
noncomputable def c5_35 : Code := cdL c5_34
noncomputable def c5_36 : Code := cdR c5_34
noncomputable def c5_37 : Code := cdR c5_31
noncomputable def c5_38 : Code := cdL c5_37
noncomputable def c5_39 : Code := cdR c5_37
noncomputable def c5_40 : Code := cdL c5_39
noncomputable def c5_41 : Code := cdR c5_39
noncomputable def c5_42 : Code := cdL c5_41
noncomputable def c5_43 : Code := cdR c5_41
noncomputable def c5_44 : Code := cdL c5_43
noncomputable def c5_45 : Code := cdR c5_43
noncomputable def c5_46 : Code := cdL c5_45
noncomputable def c5_47 : Code := cdL c5_46
noncomputable def c5_48 : Code := cdR c5_46
noncomputable def c5_49 : Code := cdL c5_48
noncomputable def c5_50 : Code := cdL c5_49
noncomputable def c5_51 : Code := cdR c5_49
noncomputable def c5_52 : Code := cdR c5_48
noncomputable def c5_53 : Code := cdR c5_45
noncomputable def c5_54 : Code := cdL c5_53
noncomputable def c5_55 : Code := cdL c5_54
noncomputable def c5_56 : Code := cdR c5_54
noncomputable def c5_57 : Code := cdL c5_56
noncomputable def c5_58 : Code := cdL c5_57
noncomputable def c5_59 : Code := cdR c5_57
noncomputable def c5_60 : Code := cdR c5_56
noncomputable def c5_61 : Code := cdR c5_53
noncomputable def c5_62 : Code := cdR c5_27
noncomputable def c5_63 : Code := cdR c5_16
noncomputable def c5_64 : Code := cdL c5_63
noncomputable def c5_65 : Code := cdR c5_63
noncomputable def r5_1 : Array Oper := cdO c5_1
noncomputable def r5_4 : Array Oper := cdO c5_4
noncomputable def r5_7 : Array Oper := cdO c5_7
noncomputable def r5_11 : Array Oper := cdO c5_11
noncomputable def r5_13 : Array Oper := cdO c5_13
noncomputable def r5_15 : Array Oper := cdO c5_15
noncomputable def r5_18 : Array Oper := cdO c5_18
noncomputable def r5_22 : Array Oper := cdO c5_22
noncomputable def r5_30 : Array Oper := cdO c5_30
noncomputable def r5_33 : Array Oper := cdO c5_33
noncomputable def r5_38 : Array Oper := cdO c5_38
noncomputable def r5_40 : Array Oper := cdO c5_40
noncomputable def r5_42 : Array Oper := cdO c5_42
noncomputable def r5_44 : Array Oper := cdO c5_44
noncomputable def r5_47 : Array Oper := cdO c5_47
noncomputable def r5_50 : Array Oper := cdO c5_50
noncomputable def r5_55 : Array Oper := cdO c5_55
noncomputable def r5_58 : Array Oper := cdO c5_58
noncomputable def r5_61 : Array Oper := cdO c5_61
noncomputable def r5_62 : Array Oper := cdO c5_62
noncomputable def r5_64 : Array Oper := cdO c5_64
theorem c5_0e : c5_0 = .seq c5_1 c5_2 := by kernel_rfl
theorem c5_1e : c5_1 = .region 0 r5_1 false := by kernel_rfl
theorem c5_2e : c5_2 = .seq c5_3 c5_10 := by kernel_rfl
theorem c5_3e : c5_3 = .seq c5_4 c5_5 := by kernel_rfl
theorem c5_4e : c5_4 = .region 1 r5_4 false := by kernel_rfl
theorem c5_5e : c5_5 = .cond (cdC c5_5) c5_6 c5_9 := by kernel_rfl
theorem c5_6e : c5_6 = .seq c5_7 c5_8 := by kernel_rfl
theorem c5_7e : c5_7 = .region 2 r5_7 false := by kernel_rfl
theorem c5_8e : c5_8 = .ret := by kernel_rfl
theorem c5_9e : c5_9 = .skip := by kernel_rfl
theorem c5_10e : c5_10 = .seq c5_11 c5_12 := by kernel_rfl
theorem c5_11e : c5_11 = .region 3 r5_11 false := by kernel_rfl
theorem c5_12e : c5_12 = .seq c5_13 c5_14 := by kernel_rfl
theorem c5_13e : c5_13 = .region 4 r5_13 false := by kernel_rfl
theorem c5_14e : c5_14 = .seq c5_15 c5_16 := by kernel_rfl
theorem c5_15e : c5_15 = .region 5 r5_15 false := by kernel_rfl
theorem c5_16e : c5_16 = .seq c5_17 c5_63 := by kernel_rfl
theorem c5_17e : c5_17 = .seq c5_18 c5_19 := by kernel_rfl
theorem c5_18e : c5_18 = .region 6 r5_18 false := by kernel_rfl
theorem c5_19e : c5_19 = .block 0 c5_20 := by kernel_rfl
theorem c5_20e : c5_20 = .loop c5_21 := by kernel_rfl
theorem c5_21e : c5_21 = .seq c5_22 c5_23 := by kernel_rfl
theorem c5_22e : c5_22 = .region 7 r5_22 false := by kernel_rfl
theorem c5_23e : c5_23 = .seq c5_24 c5_27 := by kernel_rfl
theorem c5_24e : c5_24 = .cond (cdC c5_24) c5_25 c5_26 := by kernel_rfl
theorem c5_25e : c5_25 = .skip := by kernel_rfl
theorem c5_26e : c5_26 = .exit 0 := by kernel_rfl
theorem c5_27e : c5_27 = .seq c5_28 c5_62 := by kernel_rfl
theorem c5_28e : c5_28 = .block 1 c5_29 := by kernel_rfl
theorem c5_29e : c5_29 = .seq c5_30 c5_31 := by kernel_rfl
theorem c5_30e : c5_30 = .region 8 r5_30 false := by kernel_rfl
theorem c5_31e : c5_31 = .seq c5_32 c5_37 := by kernel_rfl
theorem c5_32e : c5_32 = .seq c5_33 c5_34 := by kernel_rfl
theorem c5_33e : c5_33 = .region 9 r5_33 false := by kernel_rfl
theorem c5_34e : c5_34 = .cond (cdC c5_34) c5_35 c5_36 := by kernel_rfl
theorem c5_35e : c5_35 = .exit 0 := by kernel_rfl
theorem c5_36e : c5_36 = .skip := by kernel_rfl
theorem c5_37e : c5_37 = .seq c5_38 c5_39 := by kernel_rfl
theorem c5_38e : c5_38 = .region 10 r5_38 false := by kernel_rfl
theorem c5_39e : c5_39 = .seq c5_40 c5_41 := by kernel_rfl
theorem c5_40e : c5_40 = .region 11 r5_40 false := by kernel_rfl
theorem c5_41e : c5_41 = .seq c5_42 c5_43 := by kernel_rfl
theorem c5_42e : c5_42 = .region 12 r5_42 false := by kernel_rfl
theorem c5_43e : c5_43 = .seq c5_44 c5_45 := by kernel_rfl
theorem c5_44e : c5_44 = .region 13 r5_44 false := by kernel_rfl
theorem c5_45e : c5_45 = .seq c5_46 c5_53 := by kernel_rfl
theorem c5_46e : c5_46 = .seq c5_47 c5_48 := by kernel_rfl
theorem c5_47e : c5_47 = .region 14 r5_47 false := by kernel_rfl
theorem c5_48e : c5_48 = .cond (cdC c5_48) c5_49 c5_52 := by kernel_rfl
theorem c5_49e : c5_49 = .seq c5_50 c5_51 := by kernel_rfl
theorem c5_50e : c5_50 = .region 15 r5_50 false := by kernel_rfl
theorem c5_51e : c5_51 = .ret := by kernel_rfl
theorem c5_52e : c5_52 = .skip := by kernel_rfl
theorem c5_53e : c5_53 = .seq c5_54 c5_61 := by kernel_rfl
theorem c5_54e : c5_54 = .seq c5_55 c5_56 := by kernel_rfl
theorem c5_55e : c5_55 = .region 16 r5_55 false := by kernel_rfl
theorem c5_56e : c5_56 = .cond (cdC c5_56) c5_57 c5_60 := by kernel_rfl
theorem c5_57e : c5_57 = .seq c5_58 c5_59 := by kernel_rfl
theorem c5_58e : c5_58 = .region 17 r5_58 false := by kernel_rfl
theorem c5_59e : c5_59 = .ret := by kernel_rfl
theorem c5_60e : c5_60 = .skip := by kernel_rfl
theorem c5_61e : c5_61 = .region 18 r5_61 false := by kernel_rfl
theorem c5_62e : c5_62 = .region 19 r5_62 false := by kernel_rfl
theorem c5_63e : c5_63 = .seq c5_64 c5_65 := by kernel_rfl
theorem c5_64e : c5_64 = .region 20 r5_64 false := by kernel_rfl
theorem c5_65e : c5_65 = .ret := by kernel_rfl
noncomputable def tontinelaw15_SessionLives.R (A_2 : Option Addr) (c_3 : Nat) : Pst Bool where
  ε := Unit
  v := fun r x => .bool r
  H := fun r x => []
  B := fun r x => []
noncomputable def tontinelaw15_SessionLives.cx (A_2 : Option Addr) (c_3 : Nat) (w0 : World) (S0 : Fam) : Cx Bool := ⟨Try.prog, 5, Try.f5, 81, w0, S0, [], 0, tontinelaw15_SessionLives.R A_2 c_3⟩
theorem tontinelaw15_SessionLives_j0_ok (n : Nat) (f_13 : Int) (f_14 : Int) (f_15 : (List T_session_Row)) (b_7 : Nat) (A_16 : Option Addr) (c_17 : Nat) (A_2 : Option Addr) (c_3 : Nat) (w0 : World) (S0 : Fam) :
    GoO (tontinelaw15_SessionLives.cx A_2 c_3 w0 S0) [(3, .pointer (some ⟨b_7, 0, none⟩))] [⟨40, b_7, [.int .u64 f_13, .int .u64 f_14, .slice A_16 f_15.length c_17]⟩] [Ow 41 kT_session_Row A_16 c_17 f_15] [.code c5_63] (tontinelaw15_SessionLives.j0 n f_13 f_14 f_15) := by
  unfold tontinelaw15_SessionLives.j0
  refine GoO.seq' c5_63e ?_
  refine GoO.region' (is := [0, 1, 2, 3, 4]) c5_64e (by kernel_rfl) ?_
  refine GoO.exec (is := [0]) (hs := [.p]) (rest := [1, 2, 3, 4]) (ks := [77]) (env' := [(77, .pointer (some ⟨b_7, 0, none⟩))]) (H' := [⟨40, b_7, [.int .u64 f_13, .int .u64 f_14, .slice A_16 f_15.length c_17]⟩]) (ps := []) (by kernel_rfl) trivial ?_
  refine OpTo.go (GoO.call rfl (by kernel_rfl) (by kernel_rfl) (session_Table_Rows_ok n (⟨f_13, f_14, f_15⟩ : T_session_Table) b_7 A_16 c_17) [[0], [40], [41]] [(44, 3)] [(1, 0)] [(2, 0)] (hks := [0]) (bks := [0]) (by kernel_rfl) (by kernel_rfl) (by kernel_rfl) (.inl rfl) rfl rfl (by kernel_rfl) (by kernel_rfl) _ (fun _ _ => rfl) _ _ (fun _ _ => rfl) (fun _ _ => rfl) (fun _ _ => by kernel_rfl) (fun _ _ => by kernel_rfl) (fun r_49 x_52 => ?_))
  obtain ⟨A_50, c_51⟩ := x_52
  refine GoO.shape (env' := [(77, .pointer (some ⟨b_7, 0, none⟩)), (78, .slice A_50 r_49.length c_51)]) (H' := [⟨40, b_7, [.int .u64 f_13, .int .u64 f_14, .slice A_16 f_15.length c_17]⟩]) (B' := [Ow 44 kT_session_Row A_50 c_51 r_49, Ow 41 kT_session_Row A_16 c_17 f_15]) (ks := [77, 78]) (by kernel_rfl) (by kernel_rfl) (by kernel_rfl) ?_
  refine GoO.exec (is := [2, 3, 4]) (hs := [.p, .p, .p]) (rest := []) (ks := [2]) (env' := [(2, .bool ((r_49.length : Int) == 1))]) (H' := [⟨40, b_7, [.int .u64 f_13, .int .u64 f_14, .slice A_16 f_15.length c_17]⟩]) (ps := []) (by kernel_rfl) trivial ?_
  refine GoO.regionEnd ?_
  exact GoO.ret' (h := c5_65e) (hs := []) (ps := []) (hk := []) (bk := []) Try.func5 () (by kernel_rfl) trivial (by kernel_rfl) (by kernel_rfl)
theorem tontinelaw15_SessionLives_j1_ok (n : Nat) (A_2 : Option Addr) (c_3 : Nat) (w0 : World) (S0 : Fam) (b_37 : Bool) :
    GoO (tontinelaw15_SessionLives.cx A_2 c_3 w0 S0) [(2, .bool b_37)] [] [] [.code c5_51, .code c5_53, .inBlock 1, .code c5_62, .inLoop c5_21, .inBlock 0, .code c5_63] (tontinelaw15_SessionLives.j1 n b_37) := by
  unfold tontinelaw15_SessionLives.j1
  exact GoO.ret' (h := c5_51e) (hs := []) (ps := []) (hk := []) (bk := []) Try.func5 () (by kernel_rfl) trivial (by kernel_rfl) (by kernel_rfl)
theorem tontinelaw15_SessionLives_l0_ok (n : Nat) (waits_1 : (List Int)) (r_10 : Int × Int × T_session_Table) (A_2 : Option Addr) (c_3 : Nat) (b_7 : Nat) (w0 : World) (S0 : Fam) :
    ∀ (k : Nat) (f_13 : Int) (f_14 : Int) (f_15 : (List T_session_Row)) (now_18 : Int) (seq_19 : Int) (x_20 : Int) (A_16 : Option Addr) (c_17 : Nat), GoO (tontinelaw15_SessionLives.cx A_2 c_3 w0 S0) [(3, .pointer (some ⟨b_7, 0, none⟩)), (4, .int .u64 r_10.1), (6, .int .u64 now_18), (7, .int .u64 seq_19), (20, .slice A_2 waits_1.length c_3), (21, .int .i64 (waits_1.length : Int)), (22, .int .i64 x_20)] [⟨40, b_7, [.int .u64 f_13, .int .u64 f_14, .slice A_16 f_15.length c_17]⟩] [Ow 41 kT_session_Row A_16 c_17 f_15, Rd 0 (Kd.int .i64) A_2 c_3 waits_1] [.code c5_21, .inLoop c5_21, .inBlock 0, .code c5_63] (tontinelaw15_SessionLives.l0 n waits_1 r_10 k f_13 f_14 f_15 now_18 seq_19 x_20) := by
  intro k
  induction k with
  | zero => intros; rw [tontinelaw15_SessionLives.l0.eq_1]; exact GoO.stop
  | succ k ih0 =>
    intro f_13 f_14 f_15 now_18 seq_19 x_20 A_16 c_17
    rw [tontinelaw15_SessionLives.l0.eq_2]
    refine GoO.seq' c5_21e ?_
    refine GoO.region' (is := [0]) c5_22e (by kernel_rfl) ?_
    refine GoO.exec (is := [0]) (hs := [.p]) (rest := []) (ks := [3, 4, 6, 7, 20, 21, 22, 23]) (env' := [(3, .pointer (some ⟨b_7, 0, none⟩)), (4, .int .u64 r_10.1), (6, .int .u64 now_18), (7, .int .u64 seq_19), (20, .slice A_2 waits_1.length c_3), (21, .int .i64 (waits_1.length : Int)), (22, .int .i64 x_20), (23, .bool (decide (x_20 < (waits_1.length : Int))))]) (H' := [⟨40, b_7, [.int .u64 f_13, .int .u64 f_14, .slice A_16 f_15.length c_17]⟩]) (ps := []) (by kernel_rfl) trivial ?_
    refine GoO.regionEnd ?_
    refine GoO.seq' c5_23e ?_
    refine GoO.ite' c5_24e (by kernel_rfl) (fun h21 => ?_) (fun h21 => ?_)
    · refine GoO.skip' c5_25e ?_
      refine GoO.seq' c5_27e ?_
      refine GoO.block' c5_28e ?_
      refine GoO.seq' c5_29e ?_
      refine GoO.region' (is := [0, 1, 2, 3, 4]) c5_30e (by kernel_rfl) ?_
      refine GoO.exec (is := [0]) (hs := [.p]) (rest := [1, 2, 3, 4]) (ks := [3, 4, 6, 7, 20, 21, 22, 24]) (env' := [(3, .pointer (some ⟨b_7, 0, none⟩)), (4, .int .u64 r_10.1), (6, .int .u64 now_18), (7, .int .u64 seq_19), (20, .slice A_2 waits_1.length c_3), (21, .int .i64 (waits_1.length : Int)), (22, .int .i64 x_20), (24, .int .i64 x_20)]) (H' := [⟨40, b_7, [.int .u64 f_13, .int .u64 f_14, .slice A_16 f_15.length c_17]⟩]) (ps := []) (by kernel_rfl) trivial ?_
      refine GoO.guard (fun h22 => ?_)
      refine OpTo.go (GoO.idx (kk := .i64) (e := 3) (K := (Kd.int .i64)) (A := A_2) (c := c_3) (xs := waits_1) (iv := x_20) (j := 1) rfl (by kernel_rfl) (by kernel_rfl) (by kernel_rfl) (by kernel_rfl) rfl Reads.rd rfl h22.1 h22.2 (by decide) rfl ?_)
      refine OpTo.go (GoO.ldE' (K := (Kd.int .i64)) (A := A_2) (c := c_3) (xs := waits_1) (iN := x_20.toNat) (off := 0) (j := 1) rfl (by kernel_rfl) rfl Reads.rd (by first | exact idx_lt h22.1 h22.2 | (simp only [List.length_set]; exact idx_lt h22.1 h22.2)) (by decide) (Opn.flat _ _ _ _ _) (v := fun _ => .int .i64 (rdL waits_1 x_20)) (fun _ => by kernel_rfl) _ (fun _ => rfl) (fun _ => ?_))
      refine GoO.exec (is := [3, 4]) (hs := [.p, .p]) (rest := []) (ks := [3, 4, 6, 7, 8, 9, 20, 21, 22]) (env' := [(3, .pointer (some ⟨b_7, 0, none⟩)), (4, .int .u64 r_10.1), (6, .int .u64 now_18), (7, .int .u64 seq_19), (8, .int .i64 x_20), (9, .int .i64 (rdL waits_1 x_20)), (20, .slice A_2 waits_1.length c_3), (21, .int .i64 (waits_1.length : Int)), (22, .int .i64 x_20)]) (H' := [⟨40, b_7, [.int .u64 f_13, .int .u64 f_14, .slice A_16 f_15.length c_17]⟩]) (ps := []) (by kernel_rfl) trivial ?_
      refine GoO.regionEnd ?_
      refine GoO.seq' c5_31e ?_
      refine GoO.seq' c5_32e ?_
      refine GoO.region' (is := [0, 1]) c5_33e (by kernel_rfl) ?_
      refine GoO.exec (is := [0, 1]) (hs := [.p, .p]) (rest := []) (ks := [3, 4, 6, 7, 9, 20, 21, 22, 28]) (env' := [(3, .pointer (some ⟨b_7, 0, none⟩)), (4, .int .u64 r_10.1), (6, .int .u64 now_18), (7, .int .u64 seq_19), (9, .int .i64 (rdL waits_1 x_20)), (20, .slice A_2 waits_1.length c_3), (21, .int .i64 (waits_1.length : Int)), (22, .int .i64 x_20), (28, .bool (x_20 == 200))]) (H' := [⟨40, b_7, [.int .u64 f_13, .int .u64 f_14, .slice A_16 f_15.length c_17]⟩]) (ps := []) (by kernel_rfl) trivial ?_
      refine GoO.regionEnd ?_
      refine GoO.ite' c5_34e (by kernel_rfl) (fun h23 => ?_) (fun h23 => ?_)
      · refine GoO.exit' c5_35e rfl ?_
        exact GoO.sub (ks := [3]) (hk := [0]) (bk := [0]) (by kernel_rfl) (by kernel_rfl) (by kernel_rfl) (tontinelaw15_SessionLives_j0_ok n f_13 f_14 f_15 b_7 A_16 c_17 A_2 c_3 w0 S0)
      · refine GoO.skip' c5_36e ?_
        refine GoO.seq' c5_37e ?_
        refine GoO.region' (is := [0, 1, 2, 3, 4]) c5_38e (by kernel_rfl) ?_
        refine GoO.exec (is := [0, 1, 2, 3, 4]) (hs := [.p, .p, .p, .p, .p]) (rest := []) (ks := [3, 4, 6, 7, 9, 20, 21, 22]) (env' := [(3, .pointer (some ⟨b_7, 0, none⟩)), (4, .int .u64 r_10.1), (6, .int .u64 now_18), (7, .int .u64 seq_19), (9, .int .i64 ((wi64 (((rdL waits_1 x_20).tmod 1500) + 1500)).tmod 1500)), (20, .slice A_2 waits_1.length c_3), (21, .int .i64 (waits_1.length : Int)), (22, .int .i64 x_20)]) (H' := [⟨40, b_7, [.int .u64 f_13, .int .u64 f_14, .slice A_16 f_15.length c_17]⟩]) (ps := [(1500 : Int) ≠ 0, (1500 : Int) ≠ 0]) (by kernel_rfl) (And.intro (by decide) (And.intro (by decide) trivial)) ?_
        refine GoO.regionEnd ?_
        refine GoO.seq' c5_39e ?_
        refine GoO.region' (is := [0, 1, 2, 3, 4]) c5_40e (by kernel_rfl) ?_
        refine GoO.exec (is := [0, 1, 2, 3, 4]) (hs := [.p, .p, .p, .p, .p]) (rest := []) (ks := [3, 4, 6, 7, 9, 20, 21, 22]) (env' := [(3, .pointer (some ⟨b_7, 0, none⟩)), (4, .int .u64 r_10.1), (6, .int .u64 (wu64 (now_18 + (wu64 ((wi64 (((rdL waits_1 x_20).tmod 1500) + 1500)).tmod 1500))))), (7, .int .u64 seq_19), (9, .int .i64 ((wi64 (((rdL waits_1 x_20).tmod 1500) + 1500)).tmod 1500)), (20, .slice A_2 waits_1.length c_3), (21, .int .i64 (waits_1.length : Int)), (22, .int .i64 x_20)]) (H' := [⟨40, b_7, [.int .u64 f_13, .int .u64 f_14, .slice A_16 f_15.length c_17]⟩]) (ps := []) (by kernel_rfl) trivial ?_
        refine GoO.regionEnd ?_
        refine GoO.seq' c5_41e ?_
        refine GoO.region' (is := [0, 1, 2]) c5_42e (by kernel_rfl) ?_
        refine GoO.exec (is := [0, 1]) (hs := [.p, .p]) (rest := [2]) (ks := [3, 4, 6, 7, 9, 20, 21, 22, 37, 38]) (env' := [(3, .pointer (some ⟨b_7, 0, none⟩)), (4, .int .u64 r_10.1), (6, .int .u64 (wu64 (now_18 + (wu64 ((wi64 (((rdL waits_1 x_20).tmod 1500) + 1500)).tmod 1500))))), (7, .int .u64 seq_19), (9, .int .i64 ((wi64 (((rdL waits_1 x_20).tmod 1500) + 1500)).tmod 1500)), (20, .slice A_2 waits_1.length c_3), (21, .int .i64 (waits_1.length : Int)), (22, .int .i64 x_20), (37, .pointer (some ⟨b_7, 0, none⟩)), (38, .int .u64 (wu64 (now_18 + (wu64 ((wi64 (((rdL waits_1 x_20).tmod 1500) + 1500)).tmod 1500)))))]) (H' := [⟨40, b_7, [.int .u64 f_13, .int .u64 f_14, .slice A_16 f_15.length c_17]⟩]) (ps := []) (by kernel_rfl) trivial ?_
        refine OpTo.go (GoO.call rfl (by kernel_rfl) (by kernel_rfl) (session_Table_Clock_ok n (⟨f_13, f_14, f_15⟩ : T_session_Table) (wu64 (now_18 + (wu64 ((wi64 (((rdL waits_1 x_20).tmod 1500) + 1500)).tmod 1500)))) b_7 A_16 c_17) [[0], [40], [41]] [(40, 1), (41, 2)] [(1, 0)] [(2, 0)] (hks := []) (bks := [1]) (by kernel_rfl) (by kernel_rfl) (by kernel_rfl) (.inl rfl) rfl rfl (by kernel_rfl) (by kernel_rfl) _ (fun _ _ => rfl) _ _ (fun _ _ => rfl) (fun _ _ => rfl) (fun _ _ => by kernel_rfl) (fun _ _ => by kernel_rfl) (fun r_24 x_45 => ?_))
        obtain ⟨A_25, c_26⟩ := x_45
        refine GoO.shape (env' := [(3, .pointer (some ⟨b_7, 0, none⟩)), (4, .int .u64 r_10.1), (6, .int .u64 (wu64 (now_18 + (wu64 ((wi64 (((rdL waits_1 x_20).tmod 1500) + 1500)).tmod 1500))))), (7, .int .u64 seq_19), (9, .int .i64 ((wi64 (((rdL waits_1 x_20).tmod 1500) + 1500)).tmod 1500)), (20, .slice A_2 waits_1.length c_3), (21, .int .i64 (waits_1.length : Int)), (22, .int .i64 x_20), (37, .pointer (some ⟨b_7, 0, none⟩)), (38, .int .u64 (wu64 (now_18 + (wu64 ((wi64 (((rdL waits_1 x_20).tmod 1500) + 1500)).tmod 1500))))), (39, .tuple ⟨[]⟩)]) (H' := [⟨40, b_7, [.int .u64 r_24.now, .int .u64 r_24.next, .slice A_25 r_24.rows.length c_26]⟩]) (B' := [Ow 41 kT_session_Row A_25 c_26 r_24.rows, Rd 0 (Kd.int .i64) A_2 c_3 waits_1]) (ks := [3, 4, 6, 7, 9, 20, 21, 22, 37, 38, 39]) (by kernel_rfl) (by kernel_rfl) (by kernel_rfl) ?_
        refine GoO.regionEnd ?_
        refine GoO.seq' c5_43e ?_
        refine GoO.region' (is := [0, 1, 2, 3, 4, 5, 6, 7, 8, 9, 10]) c5_44e (by kernel_rfl) ?_
        refine GoO.exec (is := [0, 1, 2, 3]) (hs := [.p, .p, .p, .p]) (rest := [4, 5, 6, 7, 8, 9, 10]) (ks := [3, 4, 6, 7, 9, 20, 21, 22, 41, 42, 44]) (env' := [(3, .pointer (some ⟨b_7, 0, none⟩)), (4, .int .u64 r_10.1), (6, .int .u64 (wu64 (now_18 + (wu64 ((wi64 (((rdL waits_1 x_20).tmod 1500) + 1500)).tmod 1500))))), (7, .int .u64 seq_19), (9, .int .i64 ((wi64 (((rdL waits_1 x_20).tmod 1500) + 1500)).tmod 1500)), (20, .slice A_2 waits_1.length c_3), (21, .int .i64 (waits_1.length : Int)), (22, .int .i64 x_20), (41, .pointer (some ⟨b_7, 0, none⟩)), (42, .int .u64 r_10.1), (44, .int .u64 (wu64 (seq_19 + 1)))]) (H' := [⟨40, b_7, [.int .u64 r_24.now, .int .u64 r_24.next, .slice A_25 r_24.rows.length c_26]⟩]) (ps := []) (by kernel_rfl) trivial ?_
        refine OpTo.go (GoO.call rfl (by kernel_rfl) (by kernel_rfl) (session_Table_Begin_ok n r_24 r_10.1 (wu64 (seq_19 + 1)) b_7 A_25 c_26) [[0], [40], [41]] [(40, 1), (41, 2)] [(1, 0)] [(2, 0)] (hks := []) (bks := [1]) (by kernel_rfl) (by kernel_rfl) (by kernel_rfl) (.inl rfl) rfl rfl (by kernel_rfl) (by kernel_rfl) _ (fun _ _ => rfl) _ _ (fun _ _ => rfl) (fun _ _ => rfl) (fun _ _ => by kernel_rfl) (fun _ _ => by kernel_rfl) (fun r_27 x_44 => ?_))
        obtain ⟨A_28, c_29⟩ := x_44
        refine GoO.shape (env' := [(3, .pointer (some ⟨b_7, 0, none⟩)), (4, .int .u64 r_10.1), (6, .int .u64 (wu64 (now_18 + (wu64 ((wi64 (((rdL waits_1 x_20).tmod 1500) + 1500)).tmod 1500))))), (7, .int .u64 seq_19), (9, .int .i64 ((wi64 (((rdL waits_1 x_20).tmod 1500) + 1500)).tmod 1500)), (20, .slice A_2 waits_1.length c_3), (21, .int .i64 (waits_1.length : Int)), (22, .int .i64 x_20), (41, .pointer (some ⟨b_7, 0, none⟩)), (42, .int .u64 r_10.1), (44, .int .u64 (wu64 (seq_19 + 1))), (45, .tuple ⟨[.agg ⟨[.int .i64 r_27.1.Err, .int .u64 r_27.1.Num, .int .u64 r_27.1.Extra]⟩, .bool r_27.2.1]⟩)]) (H' := [⟨40, b_7, [.int .u64 r_27.2.2.now, .int .u64 r_27.2.2.next, .slice A_28 r_27.2.2.rows.length c_29]⟩]) (B' := [Ow 41 kT_session_Row A_28 c_29 r_27.2.2.rows, Rd 0 (Kd.int .i64) A_2 c_3 waits_1]) (ks := [3, 4, 6, 7, 9, 20, 21, 22, 41, 42, 44, 45]) (by kernel_rfl) (by kernel_rfl) (by kernel_rfl) ?_
        refine GoO.exec (is := [5, 6, 7]) (hs := [.p, .p, .p]) (rest := [8, 9, 10]) (ks := [3, 4, 6, 7, 9, 20, 21, 22, 46, 47]) (env' := [(3, .pointer (some ⟨b_7, 0, none⟩)), (4, .int .u64 r_10.1), (6, .int .u64 (wu64 (now_18 + (wu64 ((wi64 (((rdL waits_1 x_20).tmod 1500) + 1500)).tmod 1500))))), (7, .int .u64 seq_19), (9, .int .i64 ((wi64 (((rdL waits_1 x_20).tmod 1500) + 1500)).tmod 1500)), (20, .slice A_2 waits_1.length c_3), (21, .int .i64 (waits_1.length : Int)), (22, .int .i64 x_20), (46, .agg ⟨[.int .i64 r_27.1.Err, .int .u64 r_27.1.Num, .int .u64 r_27.1.Extra]⟩), (47, .bool r_27.2.1)]) (H' := [⟨40, b_7, [.int .u64 r_27.2.2.now, .int .u64 r_27.2.2.next, .slice A_28 r_27.2.2.rows.length c_29]⟩]) (ps := []) (by kernel_rfl) trivial ?_
        refine OpTo.go (GoO.new rfl 42 (cs := [.int .i64 0, .int .u64 0, .int .u64 0]) (by kernel_rfl) _ (fun _ => rfl) (fun b_30 => ?_))
        refine GoO.exec (is := [9, 10]) (hs := [.b 0, .p]) (rest := []) (ks := [3, 4, 6, 7, 9, 10, 11, 20, 21, 22]) (env' := [(3, .pointer (some ⟨b_7, 0, none⟩)), (4, .int .u64 r_10.1), (6, .int .u64 (wu64 (now_18 + (wu64 ((wi64 (((rdL waits_1 x_20).tmod 1500) + 1500)).tmod 1500))))), (7, .int .u64 seq_19), (9, .int .i64 ((wi64 (((rdL waits_1 x_20).tmod 1500) + 1500)).tmod 1500)), (10, .pointer (some ⟨b_30, 0, none⟩)), (11, .bool r_27.2.1), (20, .slice A_2 waits_1.length c_3), (21, .int .i64 (waits_1.length : Int)), (22, .int .i64 x_20)]) (H' := [⟨42, b_30, [.int .i64 r_27.1.Err, .int .u64 r_27.1.Num, .int .u64 r_27.1.Extra]⟩, ⟨40, b_7, [.int .u64 r_27.2.2.now, .int .u64 r_27.2.2.next, .slice A_28 r_27.2.2.rows.length c_29]⟩]) (ps := [b_30 = b_30]) (by kernel_rfl) (And.intro rfl trivial) ?_
        refine GoO.regionEnd ?_
        refine GoO.seq' c5_45e ?_
        refine GoO.seq' c5_46e ?_
        refine GoO.region' (is := [0, 1]) c5_47e (by kernel_rfl) ?_
        refine GoO.exec (is := [0, 1]) (hs := [.p, .p]) (rest := []) (ks := [3, 4, 6, 7, 10, 11, 20, 21, 22, 49]) (env' := [(3, .pointer (some ⟨b_7, 0, none⟩)), (4, .int .u64 r_10.1), (6, .int .u64 (wu64 (now_18 + (wu64 ((wi64 (((rdL waits_1 x_20).tmod 1500) + 1500)).tmod 1500))))), (7, .int .u64 seq_19), (10, .pointer (some ⟨b_30, 0, none⟩)), (11, .bool r_27.2.1), (20, .slice A_2 waits_1.length c_3), (21, .int .i64 (waits_1.length : Int)), (22, .int .i64 x_20), (49, .bool (decide (((wi64 (((rdL waits_1 x_20).tmod 1500) + 1500)).tmod 1500) > 1000)))]) (H' := [⟨42, b_30, [.int .i64 r_27.1.Err, .int .u64 r_27.1.Num, .int .u64 r_27.1.Extra]⟩, ⟨40, b_7, [.int .u64 r_27.2.2.now, .int .u64 r_27.2.2.next, .slice A_28 r_27.2.2.rows.length c_29]⟩]) (ps := []) (by kernel_rfl) trivial ?_
        refine GoO.regionEnd ?_
        refine GoO.ite' c5_48e (by kernel_rfl) (fun h31 => ?_) (fun h31 => ?_)
        · refine GoO.seq' c5_49e ?_
          refine GoO.region' (is := [0, 1, 2, 3, 4, 5, 6, 7, 8, 9, 10, 11, 12, 13]) c5_50e (by kernel_rfl) ?_
          refine GoO.exec (is := [0, 1, 2]) (hs := [.p, .p, .p]) (rest := [3, 4, 5, 6, 7, 8, 9, 10, 11, 12, 13]) (ks := [3, 10, 52]) (env' := [(3, .pointer (some ⟨b_7, 0, none⟩)), (10, .pointer (some ⟨b_30, 0, none⟩)), (52, .bool (!r_27.2.1))]) (H' := [⟨42, b_30, [.int .i64 r_27.1.Err, .int .u64 r_27.1.Num, .int .u64 r_27.1.Extra]⟩, ⟨40, b_7, [.int .u64 r_27.2.2.now, .int .u64 r_27.2.2.next, .slice A_28 r_27.2.2.rows.length c_29]⟩]) (ps := []) (by kernel_rfl) trivial ?_
          refine GoO.bsplit (t := 52) (by kernel_rfl) (fun h32 => ?_) (fun h32 => ?_)
          · refine GoO.exec (is := [3, 4, 5, 6, 7]) (hs := [.p, .b 0, .p, .p, .p]) (rest := [8, 9, 10, 11, 12, 13]) (ks := [3, 57]) (env' := [(3, .pointer (some ⟨b_7, 0, none⟩)), (57, .bool (r_27.1.Err == 40))]) (H' := [⟨42, b_30, [.int .i64 r_27.1.Err, .int .u64 r_27.1.Num, .int .u64 r_27.1.Extra]⟩, ⟨40, b_7, [.int .u64 r_27.2.2.now, .int .u64 r_27.2.2.next, .slice A_28 r_27.2.2.rows.length c_29]⟩]) (ps := [b_30 = b_30]) (by kernel_rfl) (And.intro rfl trivial) ?_
            refine GoO.bsplit (t := 57) (by kernel_rfl) (fun h33 => ?_) (fun h33 => ?_)
            · refine GoO.exec (is := [8]) (hs := [.p]) (rest := [9, 10, 11, 12, 13]) (ks := [57, 58]) (env' := [(57, .bool true), (58, .pointer (some ⟨b_7, 0, none⟩))]) (H' := [⟨42, b_30, [.int .i64 r_27.1.Err, .int .u64 r_27.1.Num, .int .u64 r_27.1.Extra]⟩, ⟨40, b_7, [.int .u64 r_27.2.2.now, .int .u64 r_27.2.2.next, .slice A_28 r_27.2.2.rows.length c_29]⟩]) (ps := []) (by kernel_rfl) trivial ?_
              refine OpTo.go (GoO.call rfl (by kernel_rfl) (by kernel_rfl) (session_Table_Rows_ok n r_27.2.2 b_7 A_28 c_29) [[0], [40], [41]] [(43, 3)] [(1, 1)] [(2, 0)] (hks := [0, 1]) (bks := [0, 1]) (by kernel_rfl) (by kernel_rfl) (by kernel_rfl) (.inl rfl) rfl rfl (by kernel_rfl) (by kernel_rfl) _ (fun _ _ => rfl) _ _ (fun _ _ => rfl) (fun _ _ => rfl) (fun _ _ => by kernel_rfl) (fun _ _ => by kernel_rfl) (fun r_34 x_37 => ?_))
              obtain ⟨A_35, c_36⟩ := x_37
              refine GoO.shape (env' := [(57, .bool true), (58, .pointer (some ⟨b_7, 0, none⟩)), (59, .slice A_35 r_34.length c_36)]) (H' := [⟨42, b_30, [.int .i64 r_27.1.Err, .int .u64 r_27.1.Num, .int .u64 r_27.1.Extra]⟩, ⟨40, b_7, [.int .u64 r_27.2.2.now, .int .u64 r_27.2.2.next, .slice A_28 r_27.2.2.rows.length c_29]⟩]) (B' := [Ow 43 kT_session_Row A_35 c_36 r_34, Ow 41 kT_session_Row A_28 c_29 r_27.2.2.rows, Rd 0 (Kd.int .i64) A_2 c_3 waits_1]) (ks := [57, 58, 59]) (by kernel_rfl) (by kernel_rfl) (by kernel_rfl) ?_
              refine GoO.exec (is := [10, 11, 12, 13]) (hs := [.p, .p, .p, .p]) (rest := []) (ks := [2]) (env' := [(2, .bool ((r_34.length : Int) == 0))]) (H' := [⟨42, b_30, [.int .i64 r_27.1.Err, .int .u64 r_27.1.Num, .int .u64 r_27.1.Extra]⟩, ⟨40, b_7, [.int .u64 r_27.2.2.now, .int .u64 r_27.2.2.next, .slice A_28 r_27.2.2.rows.length c_29]⟩]) (ps := []) (by kernel_rfl) trivial ?_
              refine GoO.regionEnd ?_
              exact GoO.sub (ks := [2]) (hk := []) (bk := []) (by kernel_rfl) (by kernel_rfl) (by kernel_rfl) (tontinelaw15_SessionLives_j1_ok n A_2 c_3 w0 S0 ((r_34.length : Int) == 0))
            · refine GoO.exec (is := [8, 9, 10, 11, 12, 13]) (hs := [.p, .p, .p, .p, .p, .p]) (rest := []) (ks := [2]) (env' := [(2, .bool false)]) (H' := [⟨42, b_30, [.int .i64 r_27.1.Err, .int .u64 r_27.1.Num, .int .u64 r_27.1.Extra]⟩, ⟨40, b_7, [.int .u64 r_27.2.2.now, .int .u64 r_27.2.2.next, .slice A_28 r_27.2.2.rows.length c_29]⟩]) (ps := []) (by kernel_rfl) trivial ?_
              refine GoO.regionEnd ?_
              exact GoO.sub (ks := [2]) (hk := []) (bk := []) (by kernel_rfl) (by kernel_rfl) (by kernel_rfl) (tontinelaw15_SessionLives_j1_ok n A_2 c_3 w0 S0 false)
          · refine GoO.exec (is := [3, 4, 5, 6, 7, 8, 9, 10, 11, 12, 13]) (hs := [.p, .p, .p, .p, .p, .p, .p, .p, .p, .p, .p]) (rest := []) (ks := [2]) (env' := [(2, .bool false)]) (H' := [⟨42, b_30, [.int .i64 r_27.1.Err, .int .u64 r_27.1.Num, .int .u64 r_27.1.Extra]⟩, ⟨40, b_7, [.int .u64 r_27.2.2.now, .int .u64 r_27.2.2.next, .slice A_28 r_27.2.2.rows.length c_29]⟩]) (ps := []) (by kernel_rfl) trivial ?_
            refine GoO.regionEnd ?_
            exact GoO.sub (ks := [2]) (hk := []) (bk := []) (by kernel_rfl) (by kernel_rfl) (by kernel_rfl) (tontinelaw15_SessionLives_j1_ok n A_2 c_3 w0 S0 false)
        · refine GoO.skip' c5_52e ?_
          refine GoO.seq' c5_53e ?_
          refine GoO.seq' c5_54e ?_
          refine GoO.region' (is := [0, 1, 2, 3, 4, 5, 6, 7, 8, 9, 10]) c5_55e (by kernel_rfl) ?_
          refine GoO.exec (is := [0, 1, 2]) (hs := [.p, .p, .p]) (rest := [3, 4, 5, 6, 7, 8, 9, 10]) (ks := [3, 4, 6, 7, 20, 21, 22, 65]) (env' := [(3, .pointer (some ⟨b_7, 0, none⟩)), (4, .int .u64 r_10.1), (6, .int .u64 (wu64 (now_18 + (wu64 ((wi64 (((rdL waits_1 x_20).tmod 1500) + 1500)).tmod 1500))))), (7, .int .u64 seq_19), (20, .slice A_2 waits_1.length c_3), (21, .int .i64 (waits_1.length : Int)), (22, .int .i64 x_20), (65, .bool (!r_27.2.1))]) (H' := [⟨42, b_30, [.int .i64 r_27.1.Err, .int .u64 r_27.1.Num, .int .u64 r_27.1.Extra]⟩, ⟨40, b_7, [.int .u64 r_27.2.2.now, .int .u64 r_27.2.2.next, .slice A_28 r_27.2.2.rows.length c_29]⟩]) (ps := []) (by kernel_rfl) trivial ?_
          refine GoO.bsplit (t := 65) (by kernel_rfl) (fun h38 => ?_) (fun h38 => ?_)
          · refine GoO.exec (is := [3, 4, 5, 6, 7, 8, 9, 10]) (hs := [.p, .p, .p, .p, .p, .p, .p, .p]) (rest := []) (ks := [3, 4, 6, 7, 20, 21, 22, 73]) (env' := [(3, .pointer (some ⟨b_7, 0, none⟩)), (4, .int .u64 r_10.1), (6, .int .u64 (wu64 (now_18 + (wu64 ((wi64 (((rdL waits_1 x_20).tmod 1500) + 1500)).tmod 1500))))), (7, .int .u64 seq_19), (20, .slice A_2 waits_1.length c_3), (21, .int .i64 (waits_1.length : Int)), (22, .int .i64 x_20), (73, .bool true)]) (H' := [⟨42, b_30, [.int .i64 r_27.1.Err, .int .u64 r_27.1.Num, .int .u64 r_27.1.Extra]⟩, ⟨40, b_7, [.int .u64 r_27.2.2.now, .int .u64 r_27.2.2.next, .slice A_28 r_27.2.2.rows.length c_29]⟩]) (ps := []) (by kernel_rfl) trivial ?_
            refine GoO.regionEnd ?_
            refine GoO.condT c5_56e (by kernel_rfl) ?_
            refine GoO.seq' c5_57e ?_
            refine GoO.region' (is := [0]) c5_58e (by kernel_rfl) ?_
            refine GoO.exec (is := [0]) (hs := [.p]) (rest := []) (ks := [2]) (env' := [(2, .bool false)]) (H' := [⟨42, b_30, [.int .i64 r_27.1.Err, .int .u64 r_27.1.Num, .int .u64 r_27.1.Extra]⟩, ⟨40, b_7, [.int .u64 r_27.2.2.now, .int .u64 r_27.2.2.next, .slice A_28 r_27.2.2.rows.length c_29]⟩]) (ps := []) (by kernel_rfl) trivial ?_
            refine GoO.regionEnd ?_
            exact GoO.ret' (h := c5_59e) (hs := []) (ps := []) (hk := []) (bk := []) Try.func5 () (by kernel_rfl) trivial (by kernel_rfl) (by kernel_rfl)
          · refine GoO.exec (is := [3, 4, 5, 6, 7]) (hs := [.p, .p, .p, .p, .p]) (rest := [8, 9, 10]) (ks := [3, 4, 6, 7, 20, 21, 22, 65, 66, 67, 69, 70]) (env' := [(3, .pointer (some ⟨b_7, 0, none⟩)), (4, .int .u64 r_10.1), (6, .int .u64 (wu64 (now_18 + (wu64 ((wi64 (((rdL waits_1 x_20).tmod 1500) + 1500)).tmod 1500))))), (7, .int .u64 seq_19), (20, .slice A_2 waits_1.length c_3), (21, .int .i64 (waits_1.length : Int)), (22, .int .i64 x_20), (65, .bool false), (66, .pointer (some ⟨b_7, 0, none⟩)), (67, .int .u64 r_10.1), (69, .int .u64 (wu64 (seq_19 + 1))), (70, .agg ⟨[.int .i64 0, .int .u64 0, .int .u64 0]⟩)]) (H' := [⟨42, b_30, [.int .i64 r_27.1.Err, .int .u64 r_27.1.Num, .int .u64 r_27.1.Extra]⟩, ⟨40, b_7, [.int .u64 r_27.2.2.now, .int .u64 r_27.2.2.next, .slice A_28 r_27.2.2.rows.length c_29]⟩]) (ps := []) (by kernel_rfl) trivial ?_
            refine OpTo.go (GoO.call rfl (by kernel_rfl) (by kernel_rfl) (session_Table_End_ok n r_27.2.2 r_10.1 (wu64 (seq_19 + 1)) (⟨0, 0, 0⟩ : T_api_Reply) b_7 A_28 c_29) [[0], [40], [41]] [(40, 1), (41, 2)] [(1, 1)] [(2, 0)] (hks := [0]) (bks := [1]) (by kernel_rfl) (by kernel_rfl) (by kernel_rfl) (.inl rfl) rfl rfl (by kernel_rfl) (by kernel_rfl) _ (fun _ _ => rfl) _ _ (fun _ _ => rfl) (fun _ _ => rfl) (fun _ _ => by kernel_rfl) (fun _ _ => by kernel_rfl) (fun r_39 x_43 => ?_))
            obtain ⟨A_40, c_41⟩ := x_43
            refine GoO.shape (env' := [(3, .pointer (some ⟨b_7, 0, none⟩)), (4, .int .u64 r_10.1), (6, .int .u64 (wu64 (now_18 + (wu64 ((wi64 (((rdL waits_1 x_20).tmod 1500) + 1500)).tmod 1500))))), (7, .int .u64 seq_19), (20, .slice A_2 waits_1.length c_3), (21, .int .i64 (waits_1.length : Int)), (22, .int .i64 x_20), (65, .bool false), (66, .pointer (some ⟨b_7, 0, none⟩)), (67, .int .u64 r_10.1), (69, .int .u64 (wu64 (seq_19 + 1))), (70, .agg ⟨[.int .i64 0, .int .u64 0, .int .u64 0]⟩), (71, .bool r_39.1)]) (H' := [⟨40, b_7, [.int .u64 r_39.2.now, .int .u64 r_39.2.next, .slice A_40 r_39.2.rows.length c_41]⟩, ⟨42, b_30, [.int .i64 r_27.1.Err, .int .u64 r_27.1.Num, .int .u64 r_27.1.Extra]⟩]) (B' := [Ow 41 kT_session_Row A_40 c_41 r_39.2.rows, Rd 0 (Kd.int .i64) A_2 c_3 waits_1]) (ks := [3, 4, 6, 7, 20, 21, 22, 65, 66, 67, 69, 70, 71]) (by kernel_rfl) (by kernel_rfl) (by kernel_rfl) ?_
            refine GoO.exec (is := [9, 10]) (hs := [.p, .p]) (rest := []) (ks := [3, 4, 6, 7, 20, 21, 22, 73]) (env' := [(3, .pointer (some ⟨b_7, 0, none⟩)), (4, .int .u64 r_10.1), (6, .int .u64 (wu64 (now_18 + (wu64 ((wi64 (((rdL waits_1 x_20).tmod 1500) + 1500)).tmod 1500))))), (7, .int .u64 seq_19), (20, .slice A_2 waits_1.length c_3), (21, .int .i64 (waits_1.length : Int)), (22, .int .i64 x_20), (73, .bool (!r_39.1))]) (H' := [⟨40, b_7, [.int .u64 r_39.2.now, .int .u64 r_39.2.next, .slice A_40 r_39.2.rows.length c_41]⟩, ⟨42, b_30, [.int .i64 r_27.1.Err, .int .u64 r_27.1.Num, .int .u64 r_27.1.Extra]⟩]) (ps := []) (by kernel_rfl) trivial ?_
            refine GoO.regionEnd ?_
            refine GoO.ite' c5_56e (by kernel_rfl) (fun h42 => ?_) (fun h42 => ?_)
            · refine GoO.seq' c5_57e ?_
              refine GoO.region' (is := [0]) c5_58e (by kernel_rfl) ?_
              refine GoO.exec (is := [0]) (hs := [.p]) (rest := []) (ks := [2]) (env' := [(2, .bool false)]) (H' := [⟨40, b_7, [.int .u64 r_39.2.now, .int .u64 r_39.2.next, .slice A_40 r_39.2.rows.length c_41]⟩, ⟨42, b_30, [.int .i64 r_27.1.Err, .int .u64 r_27.1.Num, .int .u64 r_27.1.Extra]⟩]) (ps := []) (by kernel_rfl) trivial ?_
              refine GoO.regionEnd ?_
              exact GoO.ret' (h := c5_59e) (hs := []) (ps := []) (hk := []) (bk := []) Try.func5 () (by kernel_rfl) trivial (by kernel_rfl) (by kernel_rfl)
            · refine GoO.skip' c5_60e ?_
              refine GoO.region' (is := [0, 1, 2]) c5_61e (by kernel_rfl) ?_
              refine GoO.exec (is := [0, 1, 2]) (hs := [.p, .p, .p]) (rest := []) (ks := [3, 4, 6, 7, 20, 21, 22]) (env' := [(3, .pointer (some ⟨b_7, 0, none⟩)), (4, .int .u64 r_10.1), (6, .int .u64 (wu64 (now_18 + (wu64 ((wi64 (((rdL waits_1 x_20).tmod 1500) + 1500)).tmod 1500))))), (7, .int .u64 (wu64 (seq_19 + 1))), (20, .slice A_2 waits_1.length c_3), (21, .int .i64 (waits_1.length : Int)), (22, .int .i64 x_20)]) (H' := [⟨40, b_7, [.int .u64 r_39.2.now, .int .u64 r_39.2.next, .slice A_40 r_39.2.rows.length c_41]⟩, ⟨42, b_30, [.int .i64 r_27.1.Err, .int .u64 r_27.1.Num, .int .u64 r_27.1.Extra]⟩]) (ps := []) (by kernel_rfl) trivial ?_
              refine GoO.regionEnd ?_
              refine GoO.inBlock ?_
              refine GoO.region' (is := [0, 1]) c5_62e (by kernel_rfl) ?_
              refine GoO.exec (is := [0, 1]) (hs := [.p, .p]) (rest := []) (ks := [3, 4, 6, 7, 20, 21, 22]) (env' := [(3, .pointer (some ⟨b_7, 0, none⟩)), (4, .int .u64 r_10.1), (6, .int .u64 (wu64 (now_18 + (wu64 ((wi64 (((rdL waits_1 x_20).tmod 1500) + 1500)).tmod 1500))))), (7, .int .u64 (wu64 (seq_19 + 1))), (20, .slice A_2 waits_1.length c_3), (21, .int .i64 (waits_1.length : Int)), (22, .int .i64 (wi64 (x_20 + 1)))]) (H' := [⟨40, b_7, [.int .u64 r_39.2.now, .int .u64 r_39.2.next, .slice A_40 r_39.2.rows.length c_41]⟩, ⟨42, b_30, [.int .i64 r_27.1.Err, .int .u64 r_27.1.Num, .int .u64 r_27.1.Extra]⟩]) (ps := []) (by kernel_rfl) trivial ?_
              refine GoO.regionEnd ?_
              refine GoO.inLoop ?_
              exact GoO.sub (ks := [3, 4, 6, 7, 20, 21, 22]) (hk := [0]) (bk := [0, 1]) (by kernel_rfl) (by kernel_rfl) (by kernel_rfl) (ih0 r_39.2.now r_39.2.next r_39.2.rows (wu64 (now_18 + (wu64 ((wi64 (((rdL waits_1 x_20).tmod 1500) + 1500)).tmod 1500)))) (wu64 (seq_19 + 1)) (wi64 (x_20 + 1)) A_40 c_41)
    · refine GoO.exit' c5_26e rfl ?_
      exact GoO.sub (ks := [3]) (hk := [0]) (bk := [0]) (by kernel_rfl) (by kernel_rfl) (by kernel_rfl) (tontinelaw15_SessionLives_j0_ok n f_13 f_14 f_15 b_7 A_16 c_17 A_2 c_3 w0 S0)
theorem tontinelaw15_SessionLives_ok (n : Nat) (waits_1 : (List Int)) (A_2 : Option Addr) (c_3 : Nat) :
    Meets Try.prog 5 [.slice A_2 waits_1.length c_3] 0 [] [] [Rd 0 (Kd.int .i64) A_2 c_3 waits_1] (tontinelaw15_SessionLives.f n waits_1) (tontinelaw15_SessionLives.R A_2 c_3) := by
  refine Meets.of (c := c5_0) (n := 81) Try.func5 (by kernel_rfl) (by kernel_rfl) (by kernel_rfl) fun w0 S0 => ?_
  unfold tontinelaw15_SessionLives.f
  show GoO (tontinelaw15_SessionLives.cx A_2 c_3 w0 S0) [(0, .slice A_2 waits_1.length c_3)] [] [Rd 0 (Kd.int .i64) A_2 c_3 waits_1] [.code c5_0] _
  refine GoO.seq' c5_0e ?_
  refine GoO.region' (is := [0]) c5_1e (by kernel_rfl) ?_
  refine GoO.exec (is := [0]) (hs := [.p]) (rest := []) (ks := [0]) (env' := [(0, .slice A_2 waits_1.length c_3)]) (H' := []) (ps := []) (by kernel_rfl) trivial ?_
  refine GoO.regionEnd ?_
  refine GoO.seq' c5_2e ?_
  refine GoO.seq' c5_3e ?_
  refine GoO.region' (is := [0, 1]) c5_4e (by kernel_rfl) ?_
  refine OpTo.go (GoO.call rfl (by kernel_rfl) (by kernel_rfl) (tontinelaw15_begun_ok n) [[0]] [] [] [] (hks := []) (bks := [0]) (by kernel_rfl) (by kernel_rfl) (by kernel_rfl) (.inl rfl) rfl rfl (by kernel_rfl) (by kernel_rfl) _ (fun _ _ => rfl) _ _ (fun _ _ => rfl) (fun _ _ => rfl) (fun _ _ => by kernel_rfl) (fun _ _ => by kernel_rfl) (fun r_4 x_55 => ?_))
  refine GoO.shape (env' := [(0, .slice A_2 waits_1.length c_3), (12, .bool r_4)]) (H' := []) (B' := [Rd 0 (Kd.int .i64) A_2 c_3 waits_1]) (ks := [0, 12]) (by kernel_rfl) (by kernel_rfl) (by kernel_rfl) ?_
  refine GoO.exec (is := [1]) (hs := [.p]) (rest := []) (ks := [0, 13]) (env' := [(0, .slice A_2 waits_1.length c_3), (13, .bool (!r_4))]) (H' := []) (ps := []) (by kernel_rfl) trivial ?_
  refine GoO.regionEnd ?_
  refine GoO.ite' c5_5e (by kernel_rfl) (fun h5 => ?_) (fun h5 => ?_)
  · refine GoO.seq' c5_6e ?_
    refine GoO.region' (is := [0]) c5_7e (by kernel_rfl) ?_
    refine GoO.exec (is := [0]) (hs := [.p]) (rest := []) (ks := [2]) (env' := [(2, .bool false)]) (H' := []) (ps := []) (by kernel_rfl) trivial ?_
    refine GoO.regionEnd ?_
    exact GoO.ret' (h := c5_8e) (hs := []) (ps := []) (hk := []) (bk := []) Try.func5 () (by kernel_rfl) trivial (by kernel_rfl) (by kernel_rfl)
  · refine GoO.skip' c5_9e ?_
    refine GoO.seq' c5_10e ?_
    refine GoO.region' (is := [0, 1]) c5_11e (by kernel_rfl) ?_
    refine OpTo.go (GoO.call rfl (by kernel_rfl) (by kernel_rfl) (session_New_ok n) [[0]] [(40, 1), (41, 2)] [] [] (hks := []) (bks := [0]) (by kernel_rfl) (by kernel_rfl) (by kernel_rfl) (.inl rfl) rfl rfl (by kernel_rfl) (by kernel_rfl) _ (fun _ _ => rfl) _ _ (fun _ _ => rfl) (fun _ _ => rfl) (fun _ _ => by kernel_rfl) (fun _ _ => by kernel_rfl) (fun r_6 x_54 => ?_))
    obtain ⟨b_7, A_8, c_9⟩ := x_54
    refine GoO.shape (env' := [(0, .slice A_2 waits_1.length c_3), (13, .bool (!r_4)), (14, .pointer (some ⟨b_7, 0, none⟩))]) (H' := [⟨40, b_7, [.int .u64 r_6.now, .int .u64 r_6.next, .slice A_8 r_6.rows.length c_9]⟩]) (B' := [Ow 41 kT_session_Row A_8 c_9 r_6.rows, Rd 0 (Kd.int .i64) A_2 c_3 waits_1]) (ks := [0, 13, 14]) (by kernel_rfl) (by kernel_rfl) (by kernel_rfl) ?_
    refine GoO.exec (is := [1]) (hs := [.p]) (rest := []) (ks := [0, 3]) (env' := [(0, .slice A_2 waits_1.length c_3), (3, .pointer (some ⟨b_7, 0, none⟩))]) (H' := [⟨40, b_7, [.int .u64 r_6.now, .int .u64 r_6.next, .slice A_8 r_6.rows.length c_9]⟩]) (ps := []) (by kernel_rfl) trivial ?_
    refine GoO.regionEnd ?_
    refine GoO.seq' c5_12e ?_
    refine GoO.region' (is := [0, 1, 2, 3, 4, 5, 6]) c5_13e (by kernel_rfl) ?_
    refine GoO.exec (is := [0]) (hs := [.p]) (rest := [1, 2, 3, 4, 5, 6]) (ks := [0, 3, 16]) (env' := [(0, .slice A_2 waits_1.length c_3), (3, .pointer (some ⟨b_7, 0, none⟩)), (16, .pointer (some ⟨b_7, 0, none⟩))]) (H' := [⟨40, b_7, [.int .u64 r_6.now, .int .u64 r_6.next, .slice A_8 r_6.rows.length c_9]⟩]) (ps := []) (by kernel_rfl) trivial ?_
    refine OpTo.go (GoO.call rfl (by kernel_rfl) (by kernel_rfl) (session_Table_Register_ok n r_6 b_7 A_8 c_9) [[0], [40], [41]] [(40, 1), (41, 2)] [(1, 0)] [(2, 0)] (hks := []) (bks := [1]) (by kernel_rfl) (by kernel_rfl) (by kernel_rfl) (.inl rfl) rfl rfl (by kernel_rfl) (by kernel_rfl) _ (fun _ _ => rfl) _ _ (fun _ _ => rfl) (fun _ _ => rfl) (fun _ _ => by kernel_rfl) (fun _ _ => by kernel_rfl) (fun r_10 x_53 => ?_))
    obtain ⟨A_11, c_12⟩ := x_53
    refine GoO.shape (env' := [(0, .slice A_2 waits_1.length c_3), (3, .pointer (some ⟨b_7, 0, none⟩)), (16, .pointer (some ⟨b_7, 0, none⟩)), (17, .tuple ⟨[.int .u64 r_10.1, .int .i64 r_10.2.1]⟩)]) (H' := [⟨40, b_7, [.int .u64 r_10.2.2.now, .int .u64 r_10.2.2.next, .slice A_11 r_10.2.2.rows.length c_12]⟩]) (B' := [Ow 41 kT_session_Row A_11 c_12 r_10.2.2.rows, Rd 0 (Kd.int .i64) A_2 c_3 waits_1]) (ks := [0, 3, 16, 17]) (by kernel_rfl) (by kernel_rfl) (by kernel_rfl) ?_
    refine GoO.exec (is := [2, 3, 4, 5, 6]) (hs := [.p, .p, .p, .p, .p]) (rest := []) (ks := [0, 3, 4]) (env' := [(0, .slice A_2 waits_1.length c_3), (3, .pointer (some ⟨b_7, 0, none⟩)), (4, .int .u64 r_10.1)]) (H' := [⟨40, b_7, [.int .u64 r_10.2.2.now, .int .u64 r_10.2.2.next, .slice A_11 r_10.2.2.rows.length c_12]⟩]) (ps := []) (by kernel_rfl) trivial ?_
    refine GoO.regionEnd ?_
    refine GoO.seq' c5_14e ?_
    refine GoO.region' (is := [0, 1]) c5_15e (by kernel_rfl) ?_
    refine GoO.exec (is := [0, 1]) (hs := [.p, .p]) (rest := []) (ks := [0, 3, 4, 6, 7]) (env' := [(0, .slice A_2 waits_1.length c_3), (3, .pointer (some ⟨b_7, 0, none⟩)), (4, .int .u64 r_10.1), (6, .int .u64 0), (7, .int .u64 0)]) (H' := [⟨40, b_7, [.int .u64 r_10.2.2.now, .int .u64 r_10.2.2.next, .slice A_11 r_10.2.2.rows.length c_12]⟩]) (ps := []) (by kernel_rfl) trivial ?_
    refine GoO.regionEnd ?_
    refine GoO.seq' c5_16e ?_
    refine GoO.seq' c5_17e ?_
    refine GoO.region' (is := [0, 1, 2]) c5_18e (by kernel_rfl) ?_
    refine GoO.exec (is := [0, 1, 2]) (hs := [.p, .p, .p]) (rest := []) (ks := [3, 4, 6, 7, 20, 21, 22]) (env' := [(3, .pointer (some ⟨b_7, 0, none⟩)), (4, .int .u64 r_10.1), (6, .int .u64 0), (7, .int .u64 0), (20, .slice A_2 waits_1.length c_3), (21, .int .i64 (waits_1.length : Int)), (22, .int .i64 0)]) (H' := [⟨40, b_7, [.int .u64 r_10.2.2.now, .int .u64 r_10.2.2.next, .slice A_11 r_10.2.2.rows.length c_12]⟩]) (ps := []) (by kernel_rfl) trivial ?_
    refine GoO.regionEnd ?_
    refine GoO.block' c5_19e ?_
    refine GoO.loop' c5_20e ?_
    exact GoO.sub (ks := [3, 4, 6, 7, 20, 21, 22]) (hk := [0]) (bk := [0, 1]) (by kernel_rfl) (by kernel_rfl) (by kernel_rfl) (tontinelaw15_SessionLives_l0_ok n waits_1 r_10 A_2 c_3 b_7 w0 S0 n r_10.2.2.now r_10.2.2.next r_10.2.2.rows 0 0 0 A_11 c_12)
end Go.GL
