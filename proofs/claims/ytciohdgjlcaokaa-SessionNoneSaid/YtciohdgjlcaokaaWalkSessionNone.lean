import Derived.Test.YtciohdgjlcaokaaKindsT3
import Derived.Test.YtciohdgjlcaokaaProg
set_option linter.unusedVariables false
set_option linter.unusedSimpArgs false
set_option maxRecDepth 100000
namespace Go.GL
open Go Go.Proofs

/-! tontine/session.New -/
noncomputable def c15_0 : Code := bodyOf Try.f15
noncomputable def c15_1 : Code := cdL c15_0
noncomputable def c15_2 : Code := cdR c15_0
noncomputable def c15_3 : Code := cdL c15_2
noncomputable def c15_4 : Code := cdR c15_2
noncomputable def r15_1 : Array Oper := cdO c15_1
noncomputable def r15_3 : Array Oper := cdO c15_3
theorem c15_0e : c15_0 = .seq c15_1 c15_2 := by kernel_rfl
theorem c15_1e : c15_1 = .region 0 r15_1 false := by kernel_rfl
theorem c15_2e : c15_2 = .seq c15_3 c15_4 := by kernel_rfl
theorem c15_3e : c15_3 = .region 1 r15_3 false := by kernel_rfl
theorem c15_4e : c15_4 = .ret := by kernel_rfl
noncomputable def session_New.R : Pst T_session_Table where
  ε := Nat × Option Addr × Nat
  v := fun r x => .pointer (some ⟨x.1, 0, none⟩)
  H := fun r x => [⟨1, x.1, [.int .u64 r.now, .int .u64 r.next, .slice x.2.1 r.rows.length x.2.2]⟩]
  B := fun r x => [Ow 2 kT_session_Row x.2.1 x.2.2 r.rows]
noncomputable def session_New.cx (w0 : World) (S0 : Fam) : Cx T_session_Table := ⟨Try.prog, 15, Try.f15, 3, w0, S0, [], 0, session_New.R⟩
theorem session_New_ok (n : Nat) :
    Meets Try.prog 15 [] 0 [] [] [] (session_New.f n) (session_New.R) := by
  refine Meets.of (c := c15_0) (n := 3) Try.func15 (by kernel_rfl) (by kernel_rfl) (by kernel_rfl) fun w0 S0 => ?_
  unfold session_New.f
  show GoO (session_New.cx w0 S0) [] [] [] [.code c15_0] _
  refine GoO.seq' c15_0e ?_
  refine GoO.region' (is := [0]) c15_1e (by kernel_rfl) ?_
  refine GoO.exec (is := [0]) (hs := [.p]) (rest := []) (ks := []) (env' := []) (H' := []) (ps := []) (by kernel_rfl) trivial ?_
  refine GoO.regionEnd ?_
  refine GoO.seq' c15_2e ?_
  refine GoO.region' (is := [0, 1, 2]) c15_3e (by kernel_rfl) ?_
  refine GoO.exec (is := [0]) (hs := [.p]) (rest := [1, 2]) (ks := [1]) (env' := [(1, .agg ⟨[.int .u64 0, .int .u64 1, .slice none ([] : List T_session_Row).length 0]⟩)]) (H' := []) (ps := []) (by kernel_rfl) trivial ?_
  refine OpTo.go (GoO.new rfl 40 (cs := [.int .u64 0, .int .u64 1, .slice none ([] : List T_session_Row).length 0]) (by kernel_rfl) _ (fun _ => rfl) (fun b_1 => ?_))
  refine GoO.exec (is := [2]) (hs := [.p]) (rest := []) (ks := [0]) (env' := [(0, .pointer (some ⟨b_1, 0, none⟩))]) (H' := [⟨40, b_1, [.int .u64 0, .int .u64 1, .slice none ([] : List T_session_Row).length 0]⟩]) (ps := []) (by kernel_rfl) trivial ?_
  refine GoO.regionEnd ?_
  refine GoO.nilOwn kT_session_Row 2 ?_
  refine GoO.retagB (t := 40) (u := 1) (j := 0) (hk := []) (bk := [0]) rfl rfl rfl rfl rfl rfl (by kernel_rfl) (by kernel_rfl) ?_
  exact GoO.ret' (h := c15_4e) (hs := []) (ps := []) (hk := [0]) (bk := [0]) Try.func15 (⟨b_1, none, 0⟩ : Nat × Option Addr × Nat) (by kernel_rfl) trivial (by kernel_rfl) (by kernel_rfl)

/-! (*tontine/session.Table).Register -/
noncomputable def c17_0 : Code := bodyOf Try.f17
noncomputable def c17_1 : Code := cdL c17_0
noncomputable def c17_2 : Code := cdR c17_0
noncomputable def c17_3 : Code := cdL c17_2
noncomputable def c17_4 : Code := cdL c17_3
noncomputable def c17_5 : Code := cdR c17_3
noncomputable def c17_6 : Code := cdL c17_5
noncomputable def c17_7 : Code := cdL c17_6
noncomputable def c17_8 : Code := cdR c17_6
noncomputable def c17_9 : Code := cdR c17_5
noncomputable def c17_10 : Code := cdR c17_2
noncomputable def c17_11 : Code := cdL c17_10
noncomputable def c17_12 : Code := cdR c17_10
noncomputable def c17_13 : Code := cdL c17_12
noncomputable def c17_14 : Code := cdR c17_12
noncomputable def c17_15 : Code := cdL c17_14
noncomputable def c17_16 : Code := cdR c17_14
noncomputable def r17_1 : Array Oper := cdO c17_1
noncomputable def r17_4 : Array Oper := cdO c17_4
noncomputable def r17_7 : Array Oper := cdO c17_7
noncomputable def r17_11 : Array Oper := cdO c17_11
noncomputable def r17_13 : Array Oper := cdO c17_13
noncomputable def r17_15 : Array Oper := cdO c17_15
theorem c17_0e : c17_0 = .seq c17_1 c17_2 := by kernel_rfl
theorem c17_1e : c17_1 = .region 0 r17_1 false := by kernel_rfl
theorem c17_2e : c17_2 = .seq c17_3 c17_10 := by kernel_rfl
theorem c17_3e : c17_3 = .seq c17_4 c17_5 := by kernel_rfl
theorem c17_4e : c17_4 = .region 1 r17_4 false := by kernel_rfl
theorem c17_5e : c17_5 = .cond (cdC c17_5) c17_6 c17_9 := by kernel_rfl
theorem c17_6e : c17_6 = .seq c17_7 c17_8 := by kernel_rfl
theorem c17_7e : c17_7 = .region 2 r17_7 false := by kernel_rfl
theorem c17_8e : c17_8 = .ret := by kernel_rfl
theorem c17_9e : c17_9 = .skip := by kernel_rfl
theorem c17_10e : c17_10 = .seq c17_11 c17_12 := by kernel_rfl
theorem c17_11e : c17_11 = .region 3 r17_11 true := by kernel_rfl
theorem c17_12e : c17_12 = .seq c17_13 c17_14 := by kernel_rfl
theorem c17_13e : c17_13 = .region 4 r17_13 false := by kernel_rfl
theorem c17_14e : c17_14 = .seq c17_15 c17_16 := by kernel_rfl
theorem c17_15e : c17_15 = .region 5 r17_15 false := by kernel_rfl
theorem c17_16e : c17_16 = .ret := by kernel_rfl
noncomputable def session_Table_Register.R (b_2 : Nat) (A_3 : Option Addr) (c_4 : Nat) : Pst (Int × Int × T_session_Table) where
  ε := Option Addr × Nat
  v := fun r x => .tuple ⟨[.int .u64 r.1, .int .i64 r.2.1]⟩
  H := fun r x => [⟨1, b_2, [.int .u64 r.2.2.now, .int .u64 r.2.2.next, .slice x.1 r.2.2.rows.length x.2]⟩]
  B := fun r x => [Ow 2 kT_session_Row x.1 x.2 r.2.2.rows]
noncomputable def session_Table_Register.cx (b_2 : Nat) (A_3 : Option Addr) (c_4 : Nat) (w0 : World) (S0 : Fam) : Cx (Int × Int × T_session_Table) := ⟨Try.prog, 17, Try.f17, 51, w0, S0, [1, 2], 2, session_Table_Register.R b_2 A_3 c_4⟩
theorem session_Table_Register_j0_ok (n : Nat) (t_1 : T_session_Table) (b_2 : Nat) (A_3 : Option Addr) (c_4 : Nat) (w0 : World) (S0 : Fam) (b_6 : Bool) :
    GoO (session_Table_Register.cx b_2 A_3 c_4 w0 S0) [(0, .pointer (some ⟨b_2, 0, none⟩)), (20, .bool b_6)] [⟨1, b_2, [.int .u64 t_1.now, .int .u64 t_1.next, .slice A_3 t_1.rows.length c_4]⟩] [Ow 2 kT_session_Row A_3 c_4 t_1.rows] [.code c17_5, .code c17_10] (session_Table_Register.j0 n t_1 b_6) := by
  unfold session_Table_Register.j0
  refine GoO.ite' c17_5e (by kernel_rfl) (fun h7 => ?_) (fun h7 => ?_)
  · refine GoO.seq' c17_6e ?_
    refine GoO.region' (is := [0, 1]) c17_7e (by kernel_rfl) ?_
    refine GoO.exec (is := [0, 1]) (hs := [.p, .p]) (rest := []) (ks := [2, 3]) (env' := [(2, .int .u64 0), (3, .int .i64 11)]) (H' := [⟨1, b_2, [.int .u64 t_1.now, .int .u64 t_1.next, .slice A_3 t_1.rows.length c_4]⟩]) (ps := []) (by kernel_rfl) trivial ?_
    refine GoO.regionEnd ?_
    exact GoO.ret' (h := c17_8e) (hs := []) (ps := []) (hk := [0]) (bk := [0]) Try.func17 (⟨A_3, c_4⟩ : Option Addr × Nat) (by kernel_rfl) trivial (by kernel_rfl) (by kernel_rfl)
  · refine GoO.skip' c17_9e ?_
    refine GoO.seq' c17_10e ?_
    refine GoO.draw c17_11e (by kernel_rfl) [16, 17, 18] [⟨1, b_2, [.int .u64 t_1.now, .int .u64 t_1.next, .slice A_3 t_1.rows.length c_4]⟩] [] (n := 19) (by kernel_rfl) ?_
    simp only [List.replicate]
    refine GoF.take [0, 1, 2, 3, 4, 5, 6, 7, 8, 9, 10, 11, 12, 13] [.p, .p, .p, .p, .b 0, .p, .p, .p, .b 0, .p, .p, .p, .b 0, .p] (ks := [0, 21, 25, 34]) (fu := 5) (li := [true, true, true, true, true, true, true, true, true, true, true, true, true, true, false, false, false, false, false]) (env' := [(0, .pointer (some ⟨b_2, 0, none⟩)), (21, .pointer (some ⟨b_2, 0, none⟩)), (25, .slice A_3 t_1.rows.length c_4), (34, .agg ⟨[.int .u64 t_1.next, .int .u64 t_1.now, .int .u64 0, .int .i64 0, .int .u64 0, .int .u64 0]⟩)]) (ps := [b_2 = b_2, b_2 = b_2, b_2 = b_2]) (hk := [0]) (bk := []) (by kernel_rfl) (And.intro rfl (And.intro rfl (And.intro rfl trivial))) rfl rfl ?_
    refine OpTo.goF (i := 14) (by kernel_rfl) (hk := [0]) (bk := []) (GoO.lit (e := 87) (K := kT_session_Row) rfl (by kernel_rfl) (by kernel_rfl) (cs := [.int .u64 t_1.next, .int .u64 t_1.now, .int .u64 0, .int .i64 0, .int .u64 0, .int .u64 0]) (by kernel_rfl) [(⟨t_1.next, t_1.now, 0, (⟨0, 0, 0⟩ : T_api_Reply)⟩ : T_session_Row)] (by kernel_rfl) (by kernel_rfl) (fun w S hB => ⟨[.int .u64 t_1.next, .int .u64 t_1.now, .int .u64 0, .int .i64 0, .int .u64 0, .int .u64 0], _, rfl, rfl, rfl⟩) 40 _ (fun _ _ => rfl) (fun A_8 c_9 => ⟨rfl, rfl, ?_⟩))
    refine GoF.guard (fun h10 => ?_)
    refine OpTo.goF (i := 15) (by kernel_rfl) (hk := [0]) (bk := []) (GoO.appW (e := 87) (K := kT_session_Row) (A := A_3) (c := c_4) (tg := 2) (bytes := 48) (zs := [.int .u64 0, .int .u64 0, .int .u64 0, .int .i64 0, .int .u64 0, .int .u64 0]) (xs := t_1.rows) (ys := [(⟨t_1.next, t_1.now, 0, (⟨0, 0, 0⟩ : T_api_Reply)⟩ : T_session_Row)]) (xv := .slice A_8 [(⟨t_1.next, t_1.now, 0, (⟨0, 0, 0⟩ : T_api_Reply)⟩ : T_session_Row)].length c_9) (j := 1) (bk := [0]) rfl (by kernel_rfl) (by kernel_rfl) (by kernel_rfl) (by kernel_rfl) rfl (by kernel_rfl) rfl (fun w S hB => SrcIs.row (Reads.own w S (hB _ (List.mem_of_getElem? (i := 0) rfl)))) h10 rfl rfl rfl rfl _ (fun _ _ => rfl) (fun A_11 c_12 => ⟨rfl, rfl, ?_⟩))
    refine GoF.fin1 (i := 16) (hint := .p) (ps := []) (hk := []) (bk := []) (by kernel_rfl) rfl trivial (.inl rfl) ?_
    refine GoF.fin1 (i := 17) (hint := .p) (ps := []) (hk := []) (bk := []) (by kernel_rfl) rfl trivial (.inl rfl) ?_
    refine GoF.fin1 (i := 18) (hint := .b 0) (ps := [b_2 = b_2]) (hk := []) (bk := []) (by kernel_rfl) rfl (And.intro rfl trivial) (.inl rfl) ?_
    refine GoF.done (by kernel_rfl) ?_
    refine GoO.seq' c17_12e ?_
    refine GoO.region' (is := [0, 1, 2, 3, 4, 5, 6, 7]) c17_13e (by kernel_rfl) ?_
    refine GoO.exec (is := [0, 1, 2, 3, 4, 5, 6, 7]) (hs := [.p, .p, .p, .b 0, .p, .p, .p, .b 0]) (rest := []) (ks := [0]) (env' := [(0, .pointer (some ⟨b_2, 0, none⟩))]) (H' := [⟨1, b_2, [.int .u64 t_1.now, .int .u64 (wu64 (t_1.next + 1)), .slice A_11 (t_1.rows ++ [(⟨t_1.next, t_1.now, 0, (⟨0, 0, 0⟩ : T_api_Reply)⟩ : T_session_Row)]).length c_12]⟩]) (ps := [b_2 = b_2, b_2 = b_2]) (by kernel_rfl) (And.intro rfl (And.intro rfl trivial)) ?_
    refine GoO.regionEnd ?_
    refine GoO.seq' c17_14e ?_
    refine GoO.region' (is := [0, 1, 2, 3, 4, 5, 6]) c17_15e (by kernel_rfl) ?_
    refine GoO.exec (is := [0, 1, 2, 3, 4, 5, 6]) (hs := [.p, .p, .p, .b 0, .p, .p, .p]) (rest := []) (ks := [2, 3]) (env' := [(2, .int .u64 (wu64 ((wu64 (t_1.next + 1)) - 1))), (3, .int .i64 0)]) (H' := [⟨1, b_2, [.int .u64 t_1.now, .int .u64 (wu64 (t_1.next + 1)), .slice A_11 (t_1.rows ++ [(⟨t_1.next, t_1.now, 0, (⟨0, 0, 0⟩ : T_api_Reply)⟩ : T_session_Row)]).length c_12]⟩]) (ps := [b_2 = b_2]) (by kernel_rfl) (And.intro rfl trivial) ?_
    refine GoO.regionEnd ?_
    exact GoO.ret' (h := c17_16e) (hs := []) (ps := []) (hk := [0]) (bk := [0]) Try.func17 (⟨A_11, c_12⟩ : Option Addr × Nat) (by kernel_rfl) trivial (by kernel_rfl) (by kernel_rfl)
theorem session_Table_Register_ok (n : Nat) (t_1 : T_session_Table) (b_2 : Nat) (A_3 : Option Addr) (c_4 : Nat) :
    Meets Try.prog 17 [.pointer (some ⟨b_2, 0, none⟩)] 2 [1, 2] [⟨1, b_2, [.int .u64 t_1.now, .int .u64 t_1.next, .slice A_3 t_1.rows.length c_4]⟩] [Ow 2 kT_session_Row A_3 c_4 t_1.rows] (session_Table_Register.f n t_1) (session_Table_Register.R b_2 A_3 c_4) := by
  refine Meets.of (c := c17_0) (n := 51) Try.func17 (by kernel_rfl) (by kernel_rfl) (by kernel_rfl) fun w0 S0 => ?_
  unfold session_Table_Register.f
  show GoO (session_Table_Register.cx b_2 A_3 c_4 w0 S0) [(0, .pointer (some ⟨b_2, 0, none⟩))] [⟨1, b_2, [.int .u64 t_1.now, .int .u64 t_1.next, .slice A_3 t_1.rows.length c_4]⟩] [Ow 2 kT_session_Row A_3 c_4 t_1.rows] [.code c17_0] _
  refine GoO.seq' c17_0e ?_
  refine GoO.region' (is := [0, 1]) c17_1e (by kernel_rfl) ?_
  refine GoO.exec (is := [0, 1]) (hs := [.p, .p]) (rest := []) (ks := [0]) (env' := [(0, .pointer (some ⟨b_2, 0, none⟩))]) (H' := [⟨1, b_2, [.int .u64 t_1.now, .int .u64 t_1.next, .slice A_3 t_1.rows.length c_4]⟩]) (ps := []) (by kernel_rfl) trivial ?_
  refine GoO.regionEnd ?_
  refine GoO.seq' c17_2e ?_
  refine GoO.seq' c17_3e ?_
  refine GoO.region' (is := [0, 1, 2, 3, 4, 5, 6, 7, 8, 9, 10, 11, 12, 13, 14, 15, 16]) c17_4e (by kernel_rfl) ?_
  refine GoO.exec (is := [0, 1, 2, 3, 4, 5, 6, 7, 8, 9, 10]) (hs := [.p, .p, .p, .p, .p, .p, .b 0, .p, .p, .p, .p]) (rest := [11, 12, 13, 14, 15, 16]) (ks := [0, 14]) (env' := [(0, .pointer (some ⟨b_2, 0, none⟩)), (14, .bool (decide ((t_1.rows.length : Int) ≥ 16)))]) (H' := [⟨1, b_2, [.int .u64 t_1.now, .int .u64 t_1.next, .slice A_3 t_1.rows.length c_4]⟩]) (ps := [b_2 = b_2]) (by kernel_rfl) (And.intro rfl trivial) ?_
  refine GoO.bsplit (t := 14) (by kernel_rfl) (fun h5 => ?_) (fun h5 => ?_)
  · refine GoO.exec (is := [11, 12, 13, 14, 15, 16]) (hs := [.p, .p, .p, .p, .p, .p]) (rest := []) (ks := [0, 20]) (env' := [(0, .pointer (some ⟨b_2, 0, none⟩)), (20, .bool true)]) (H' := [⟨1, b_2, [.int .u64 t_1.now, .int .u64 t_1.next, .slice A_3 t_1.rows.length c_4]⟩]) (ps := []) (by kernel_rfl) trivial ?_
    refine GoO.regionEnd ?_
    exact GoO.sub (ks := [0, 20]) (hk := [0]) (bk := [0]) (by kernel_rfl) (by kernel_rfl) (by kernel_rfl) (session_Table_Register_j0_ok n t_1 b_2 A_3 c_4 w0 S0 true)
  · refine GoO.exec (is := [11, 12, 13, 14, 15, 16]) (hs := [.p, .p, .p, .b 0, .p, .p]) (rest := []) (ks := [0, 20]) (env' := [(0, .pointer (some ⟨b_2, 0, none⟩)), (20, .bool (t_1.next == 18446744073709551615))]) (H' := [⟨1, b_2, [.int .u64 t_1.now, .int .u64 t_1.next, .slice A_3 t_1.rows.length c_4]⟩]) (ps := [b_2 = b_2]) (by kernel_rfl) (And.intro rfl trivial) ?_
    refine GoO.regionEnd ?_
    exact GoO.sub (ks := [0, 20]) (hk := [0]) (bk := [0]) (by kernel_rfl) (by kernel_rfl) (by kernel_rfl) (session_Table_Register_j0_ok n t_1 b_2 A_3 c_4 w0 S0 (t_1.next == 18446744073709551615))

/-! (*tontine/session.Table).find -/
noncomputable def c37_0 : Code := bodyOf Try.f37
noncomputable def c37_1 : Code := cdL c37_0
noncomputable def c37_2 : Code := cdR c37_0
noncomputable def c37_3 : Code := cdL c37_2
noncomputable def c37_4 : Code := cdL c37_3
noncomputable def c37_5 : Code := cdR c37_3
noncomputable def c37_6 : Code := cdL c37_5
noncomputable def c37_7 : Code := cdL c37_6
noncomputable def c37_8 : Code := cdR c37_6
noncomputable def c37_9 : Code := cdL c37_8
noncomputable def c37_10 : Code := cdL c37_9
noncomputable def c37_11 : Code := cdL c37_10
noncomputable def c37_12 : Code := cdR c37_10
noncomputable def c37_13 : Code := cdL c37_12
noncomputable def c37_14 : Code := cdL c37_13
noncomputable def c37_15 : Code := cdR c37_13
noncomputable def c37_16 : Code := cdR c37_12
noncomputable def c37_17 : Code := cdL c37_16
noncomputable def c37_18 : Code := cdL c37_17
noncomputable def c37_19 : Code := cdL c37_18
noncomputable def c37_20 : Code := cdR c37_18
noncomputable def c37_21 : Code := cdL c37_20
noncomputable def c37_22 : Code := cdR c37_20
noncomputable def c37_23 : Code := cdL c37_22
noncomputable def c37_24 : Code := cdL c37_23
noncomputable def c37_25 : Code := cdR c37_23
noncomputable def c37_26 : Code := cdR c37_22
noncomputable def c37_27 : Code := cdR c37_16
noncomputable def c37_29 : Code := cdR c37_2
noncomputable def c37_30 : Code := cdL c37_29
noncomputable def c37_31 : Code := cdR c37_29
noncomputable def c37_28 : Code := cdR c37_5
noncomputable def r37_1 : Array Oper := cdO c37_1
noncomputable def r37_4 : Array Oper := cdO c37_4
noncomputable def r37_7 : Array Oper := cdO c37_7
noncomputable def r37_11 : Array Oper := cdO c37_11
noncomputable def r37_19 : Array Oper := cdO c37_19
noncomputable def r37_21 : Array Oper := cdO c37_21
noncomputable def r37_24 : Array Oper := cdO c37_24
noncomputable def r37_27 : Array Oper := cdO c37_27
noncomputable def r37_30 : Array Oper := cdO c37_30
theorem c37_0e : c37_0 = .seq c37_1 c37_2 := by kernel_rfl
theorem c37_1e : c37_1 = .region 0 r37_1 false := by kernel_rfl
theorem c37_2e : c37_2 = .seq c37_3 c37_29 := by kernel_rfl
theorem c37_3e : c37_3 = .seq c37_4 c37_5 := by kernel_rfl
theorem c37_4e : c37_4 = .region 1 r37_4 false := by kernel_rfl
theorem c37_5e : c37_5 = .cond (cdC c37_5) c37_6 c37_28 := by kernel_rfl
theorem c37_6e : c37_6 = .seq c37_7 c37_8 := by kernel_rfl
theorem c37_7e : c37_7 = .region 2 r37_7 false := by kernel_rfl
theorem c37_8e : c37_8 = .block 0 c37_9 := by kernel_rfl
theorem c37_9e : c37_9 = .loop c37_10 := by kernel_rfl
theorem c37_10e : c37_10 = .seq c37_11 c37_12 := by kernel_rfl
theorem c37_11e : c37_11 = .region 3 r37_11 false := by kernel_rfl
theorem c37_12e : c37_12 = .seq c37_13 c37_16 := by kernel_rfl
theorem c37_13e : c37_13 = .cond (cdC c37_13) c37_14 c37_15 := by kernel_rfl
theorem c37_14e : c37_14 = .skip := by kernel_rfl
theorem c37_15e : c37_15 = .exit 0 := by kernel_rfl
theorem c37_16e : c37_16 = .seq c37_17 c37_27 := by kernel_rfl
theorem c37_17e : c37_17 = .block 1 c37_18 := by kernel_rfl
theorem c37_18e : c37_18 = .seq c37_19 c37_20 := by kernel_rfl
theorem c37_19e : c37_19 = .region 4 r37_19 false := by kernel_rfl
theorem c37_20e : c37_20 = .seq c37_21 c37_22 := by kernel_rfl
theorem c37_21e : c37_21 = .region 5 r37_21 false := by kernel_rfl
theorem c37_22e : c37_22 = .cond (cdC c37_22) c37_23 c37_26 := by kernel_rfl
theorem c37_23e : c37_23 = .seq c37_24 c37_25 := by kernel_rfl
theorem c37_24e : c37_24 = .region 6 r37_24 false := by kernel_rfl
theorem c37_25e : c37_25 = .ret := by kernel_rfl
theorem c37_26e : c37_26 = .skip := by kernel_rfl
theorem c37_27e : c37_27 = .region 7 r37_27 false := by kernel_rfl
theorem c37_29e : c37_29 = .seq c37_30 c37_31 := by kernel_rfl
theorem c37_30e : c37_30 = .region 8 r37_30 false := by kernel_rfl
theorem c37_31e : c37_31 = .ret := by kernel_rfl
theorem c37_28e : c37_28 = .skip := by kernel_rfl
noncomputable def session_Table_find.R (b_2 : Nat) (A_3 : Option Addr) (c_4 : Nat) : Pst Int where
  ε := Unit
  v := fun r x => .int .i64 r
  H := fun r x => []
  B := fun r x => []
noncomputable def session_Table_find.cx (b_2 : Nat) (A_3 : Option Addr) (c_4 : Nat) (w0 : World) (S0 : Fam) : Cx Int := ⟨Try.prog, 37, Try.f37, 25, w0, S0, [], 2, session_Table_find.R b_2 A_3 c_4⟩
theorem session_Table_find_l0_ok (n : Nat) (t_1 : T_session_Table) (id_5 : Int) (b_2 : Nat) (A_3 : Option Addr) (c_4 : Nat) (w0 : World) (S0 : Fam) :
    ∀ (k : Nat) (x_6 : Int), GoO (session_Table_find.cx b_2 A_3 c_4 w0 S0) [(1, .int .u64 id_5), (12, .slice A_3 t_1.rows.length c_4), (13, .int .i64 (t_1.rows.length : Int)), (14, .int .i64 x_6)] [⟨1, b_2, [.int .u64 t_1.now, .int .u64 t_1.next, .slice A_3 t_1.rows.length c_4]⟩] [Ow 2 kT_session_Row A_3 c_4 t_1.rows] [.code c37_10, .inLoop c37_10, .inBlock 0, .code c37_29] (session_Table_find.l0 n t_1 id_5 k x_6) := by
  intro k
  induction k with
  | zero => intros; rw [session_Table_find.l0.eq_1]; exact GoO.stop
  | succ k ih0 =>
    intro x_6
    rw [session_Table_find.l0.eq_2]
    refine GoO.seq' c37_10e ?_
    refine GoO.region' (is := [0]) c37_11e (by kernel_rfl) ?_
    refine GoO.exec (is := [0]) (hs := [.p]) (rest := []) (ks := [1, 12, 13, 14, 15]) (env' := [(1, .int .u64 id_5), (12, .slice A_3 t_1.rows.length c_4), (13, .int .i64 (t_1.rows.length : Int)), (14, .int .i64 x_6), (15, .bool (decide (x_6 < (t_1.rows.length : Int))))]) (H' := [⟨1, b_2, [.int .u64 t_1.now, .int .u64 t_1.next, .slice A_3 t_1.rows.length c_4]⟩]) (ps := []) (by kernel_rfl) trivial ?_
    refine GoO.regionEnd ?_
    refine GoO.seq' c37_12e ?_
    refine GoO.ite' c37_13e (by kernel_rfl) (fun h7 => ?_) (fun h7 => ?_)
    · refine GoO.skip' c37_14e ?_
      refine GoO.seq' c37_16e ?_
      refine GoO.block' c37_17e ?_
      refine GoO.seq' c37_18e ?_
      refine GoO.region' (is := [0, 1, 2, 3, 4, 5]) c37_19e (by kernel_rfl) ?_
      refine GoO.exec (is := [0]) (hs := [.p]) (rest := [1, 2, 3, 4, 5]) (ks := [1, 12, 13, 14, 16]) (env' := [(1, .int .u64 id_5), (12, .slice A_3 t_1.rows.length c_4), (13, .int .i64 (t_1.rows.length : Int)), (14, .int .i64 x_6), (16, .int .i64 x_6)]) (H' := [⟨1, b_2, [.int .u64 t_1.now, .int .u64 t_1.next, .slice A_3 t_1.rows.length c_4]⟩]) (ps := []) (by kernel_rfl) trivial ?_
      refine GoO.guard (fun h8 => ?_)
      refine OpTo.go (GoO.idx (kk := .i64) (e := 87) (K := kT_session_Row) (A := A_3) (c := c_4) (xs := t_1.rows) (iv := x_6) (j := 0) rfl (by kernel_rfl) (by kernel_rfl) (by kernel_rfl) (by kernel_rfl) rfl Reads.own rfl h8.1 h8.2 (by decide) rfl ?_)
      refine OpTo.go (GoO.ldE' (K := kT_session_Row) (A := A_3) (c := c_4) (xs := t_1.rows) (iN := x_6.toNat) (off := 0) (j := 0) rfl (by kernel_rfl) rfl Reads.own (by first | exact idx_lt h8.1 h8.2 | (simp only [List.length_set]; exact idx_lt h8.1 h8.2)) (by decide) (Opn.flat _ _ _ _ _) (v := fun _ => .agg ⟨[.int .u64 ((rdL t_1.rows x_6).Id), .int .u64 ((rdL t_1.rows x_6).Used), .int .u64 ((rdL t_1.rows x_6).Seq), .int .i64 ((rdL t_1.rows x_6).Reply.Err), .int .u64 ((rdL t_1.rows x_6).Reply.Num), .int .u64 ((rdL t_1.rows x_6).Reply.Extra)]⟩) (fun _ => by kernel_rfl) _ (fun _ => rfl) (fun _ => ?_))
      refine OpTo.go (GoO.new rfl 40 (cs := [.int .u64 0, .int .u64 0, .int .u64 0, .int .i64 0, .int .u64 0, .int .u64 0]) (by kernel_rfl) _ (fun _ => rfl) (fun b_9 => ?_))
      refine GoO.exec (is := [4, 5]) (hs := [.p, .b 0]) (rest := []) (ks := [1, 5, 6, 12, 13, 14]) (env' := [(1, .int .u64 id_5), (5, .int .i64 x_6), (6, .pointer (some ⟨b_9, 0, none⟩)), (12, .slice A_3 t_1.rows.length c_4), (13, .int .i64 (t_1.rows.length : Int)), (14, .int .i64 x_6)]) (H' := [⟨40, b_9, [.int .u64 ((rdL t_1.rows x_6).Id), .int .u64 ((rdL t_1.rows x_6).Used), .int .u64 ((rdL t_1.rows x_6).Seq), .int .i64 ((rdL t_1.rows x_6).Reply.Err), .int .u64 ((rdL t_1.rows x_6).Reply.Num), .int .u64 ((rdL t_1.rows x_6).Reply.Extra)]⟩, ⟨1, b_2, [.int .u64 t_1.now, .int .u64 t_1.next, .slice A_3 t_1.rows.length c_4]⟩]) (ps := [b_9 = b_9]) (by kernel_rfl) (And.intro rfl trivial) ?_
      refine GoO.regionEnd ?_
      refine GoO.seq' c37_20e ?_
      refine GoO.region' (is := [0, 1, 2, 3]) c37_21e (by kernel_rfl) ?_
      refine GoO.exec (is := [0, 1, 2, 3]) (hs := [.p, .b 0, .p, .p]) (rest := []) (ks := [1, 5, 12, 13, 14, 22]) (env' := [(1, .int .u64 id_5), (5, .int .i64 x_6), (12, .slice A_3 t_1.rows.length c_4), (13, .int .i64 (t_1.rows.length : Int)), (14, .int .i64 x_6), (22, .bool (((rdL t_1.rows x_6).Id) == id_5))]) (H' := [⟨40, b_9, [.int .u64 ((rdL t_1.rows x_6).Id), .int .u64 ((rdL t_1.rows x_6).Used), .int .u64 ((rdL t_1.rows x_6).Seq), .int .i64 ((rdL t_1.rows x_6).Reply.Err), .int .u64 ((rdL t_1.rows x_6).Reply.Num), .int .u64 ((rdL t_1.rows x_6).Reply.Extra)]⟩, ⟨1, b_2, [.int .u64 t_1.now, .int .u64 t_1.next, .slice A_3 t_1.rows.length c_4]⟩]) (ps := [b_9 = b_9]) (by kernel_rfl) (And.intro rfl trivial) ?_
      refine GoO.regionEnd ?_
      refine GoO.ite' c37_22e (by kernel_rfl) (fun h10 => ?_) (fun h10 => ?_)
      · refine GoO.seq' c37_23e ?_
        refine GoO.region' (is := [0, 1]) c37_24e (by kernel_rfl) ?_
        refine GoO.exec (is := [0, 1]) (hs := [.p, .p]) (rest := []) (ks := [4]) (env' := [(4, .int .i64 x_6)]) (H' := [⟨40, b_9, [.int .u64 ((rdL t_1.rows x_6).Id), .int .u64 ((rdL t_1.rows x_6).Used), .int .u64 ((rdL t_1.rows x_6).Seq), .int .i64 ((rdL t_1.rows x_6).Reply.Err), .int .u64 ((rdL t_1.rows x_6).Reply.Num), .int .u64 ((rdL t_1.rows x_6).Reply.Extra)]⟩, ⟨1, b_2, [.int .u64 t_1.now, .int .u64 t_1.next, .slice A_3 t_1.rows.length c_4]⟩]) (ps := []) (by kernel_rfl) trivial ?_
        refine GoO.regionEnd ?_
        exact GoO.ret' (h := c37_25e) (hs := []) (ps := []) (hk := []) (bk := []) Try.func37 () (by kernel_rfl) trivial (by kernel_rfl) (by kernel_rfl)
      · refine GoO.skip' c37_26e ?_
        refine GoO.inBlock ?_
        refine GoO.region' (is := [0, 1]) c37_27e (by kernel_rfl) ?_
        refine GoO.exec (is := [0, 1]) (hs := [.p, .p]) (rest := []) (ks := [1, 12, 13, 14]) (env' := [(1, .int .u64 id_5), (12, .slice A_3 t_1.rows.length c_4), (13, .int .i64 (t_1.rows.length : Int)), (14, .int .i64 (wi64 (x_6 + 1)))]) (H' := [⟨40, b_9, [.int .u64 ((rdL t_1.rows x_6).Id), .int .u64 ((rdL t_1.rows x_6).Used), .int .u64 ((rdL t_1.rows x_6).Seq), .int .i64 ((rdL t_1.rows x_6).Reply.Err), .int .u64 ((rdL t_1.rows x_6).Reply.Num), .int .u64 ((rdL t_1.rows x_6).Reply.Extra)]⟩, ⟨1, b_2, [.int .u64 t_1.now, .int .u64 t_1.next, .slice A_3 t_1.rows.length c_4]⟩]) (ps := []) (by kernel_rfl) trivial ?_
        refine GoO.regionEnd ?_
        refine GoO.inLoop ?_
        exact GoO.sub (ks := [1, 12, 13, 14]) (hk := [1]) (bk := [0]) (by kernel_rfl) (by kernel_rfl) (by kernel_rfl) (ih0 (wi64 (x_6 + 1)))
    · refine GoO.exit' c37_15e rfl ?_
      refine GoO.seq' c37_29e ?_
      refine GoO.region' (is := [0]) c37_30e (by kernel_rfl) ?_
      refine GoO.exec (is := [0]) (hs := [.p]) (rest := []) (ks := [4]) (env' := [(4, .int .i64 (-1))]) (H' := [⟨1, b_2, [.int .u64 t_1.now, .int .u64 t_1.next, .slice A_3 t_1.rows.length c_4]⟩]) (ps := []) (by kernel_rfl) trivial ?_
      refine GoO.regionEnd ?_
      exact GoO.ret' (h := c37_31e) (hs := []) (ps := []) (hk := []) (bk := []) Try.func37 () (by kernel_rfl) trivial (by kernel_rfl) (by kernel_rfl)
theorem session_Table_find_ok (n : Nat) (t_1 : T_session_Table) (id_5 : Int) (b_2 : Nat) (A_3 : Option Addr) (c_4 : Nat) :
    Meets Try.prog 37 [.pointer (some ⟨b_2, 0, none⟩), .int .u64 id_5] 2 [] [⟨1, b_2, [.int .u64 t_1.now, .int .u64 t_1.next, .slice A_3 t_1.rows.length c_4]⟩] [Ow 2 kT_session_Row A_3 c_4 t_1.rows] (session_Table_find.f n t_1 id_5) (session_Table_find.R b_2 A_3 c_4) := by
  refine Meets.of (c := c37_0) (n := 25) Try.func37 (by kernel_rfl) (by kernel_rfl) (by kernel_rfl) fun w0 S0 => ?_
  unfold session_Table_find.f
  show GoO (session_Table_find.cx b_2 A_3 c_4 w0 S0) [(0, .pointer (some ⟨b_2, 0, none⟩)), (1, .int .u64 id_5)] [⟨1, b_2, [.int .u64 t_1.now, .int .u64 t_1.next, .slice A_3 t_1.rows.length c_4]⟩] [Ow 2 kT_session_Row A_3 c_4 t_1.rows] [.code c37_0] _
  refine GoO.seq' c37_0e ?_
  refine GoO.region' (is := [0]) c37_1e (by kernel_rfl) ?_
  refine GoO.exec (is := [0]) (hs := [.p]) (rest := []) (ks := [0, 1]) (env' := [(0, .pointer (some ⟨b_2, 0, none⟩)), (1, .int .u64 id_5)]) (H' := [⟨1, b_2, [.int .u64 t_1.now, .int .u64 t_1.next, .slice A_3 t_1.rows.length c_4]⟩]) (ps := []) (by kernel_rfl) trivial ?_
  refine GoO.regionEnd ?_
  refine GoO.seq' c37_2e ?_
  refine GoO.seq' c37_3e ?_
  refine GoO.region' (is := [0, 1]) c37_4e (by kernel_rfl) ?_
  refine GoO.exec (is := [0, 1]) (hs := [.p, .p]) (rest := []) (ks := [0, 1, 8]) (env' := [(0, .pointer (some ⟨b_2, 0, none⟩)), (1, .int .u64 id_5), (8, .bool true)]) (H' := [⟨1, b_2, [.int .u64 t_1.now, .int .u64 t_1.next, .slice A_3 t_1.rows.length c_4]⟩]) (ps := []) (by kernel_rfl) trivial ?_
  refine GoO.regionEnd ?_
  refine GoO.condT c37_5e (by kernel_rfl) ?_
  refine GoO.seq' c37_6e ?_
  refine GoO.region' (is := [0, 1, 2, 3, 4, 5]) c37_7e (by kernel_rfl) ?_
  refine GoO.exec (is := [0, 1, 2, 3, 4, 5]) (hs := [.p, .p, .p, .b 0, .p, .p]) (rest := []) (ks := [1, 12, 13, 14]) (env' := [(1, .int .u64 id_5), (12, .slice A_3 t_1.rows.length c_4), (13, .int .i64 (t_1.rows.length : Int)), (14, .int .i64 0)]) (H' := [⟨1, b_2, [.int .u64 t_1.now, .int .u64 t_1.next, .slice A_3 t_1.rows.length c_4]⟩]) (ps := [b_2 = b_2]) (by kernel_rfl) (And.intro rfl trivial) ?_
  refine GoO.regionEnd ?_
  refine GoO.block' c37_8e ?_
  refine GoO.loop' c37_9e ?_
  exact GoO.sub (ks := [1, 12, 13, 14]) (hk := [0]) (bk := [0]) (by kernel_rfl) (by kernel_rfl) (by kernel_rfl) (session_Table_find_l0_ok n t_1 id_5 b_2 A_3 c_4 w0 S0 n 0)

/-! (*tontine/session.Table).Begin -/
noncomputable def c18_0 : Code := bodyOf Try.f18
noncomputable def c18_1 : Code := cdL c18_0
noncomputable def c18_2 : Code := cdR c18_0
noncomputable def c18_3 : Code := cdL c18_2
noncomputable def c18_4 : Code := cdR c18_2
noncomputable def c18_5 : Code := cdL c18_4
noncomputable def c18_6 : Code := cdL c18_5
noncomputable def c18_7 : Code := cdR c18_5
noncomputable def c18_8 : Code := cdL c18_7
noncomputable def c18_9 : Code := cdL c18_8
noncomputable def c18_10 : Code := cdR c18_8
noncomputable def c18_11 : Code := cdR c18_7
noncomputable def c18_12 : Code := cdR c18_4
noncomputable def c18_13 : Code := cdL c18_12
noncomputable def c18_14 : Code := cdR c18_12
noncomputable def c18_15 : Code := cdL c18_14
noncomputable def c18_16 : Code := cdR c18_14
noncomputable def c18_17 : Code := cdL c18_16
noncomputable def c18_18 : Code := cdL c18_17
noncomputable def c18_19 : Code := cdL c18_18
noncomputable def c18_20 : Code := cdR c18_18
noncomputable def c18_21 : Code := cdL c18_20
noncomputable def c18_22 : Code := cdL c18_21
noncomputable def c18_23 : Code := cdR c18_21
noncomputable def c18_24 : Code := cdR c18_20
noncomputable def c18_25 : Code := cdL c18_24
noncomputable def c18_26 : Code := cdR c18_24
noncomputable def c18_27 : Code := cdL c18_26
noncomputable def c18_28 : Code := cdL c18_27
noncomputable def c18_29 : Code := cdR c18_27
noncomputable def c18_30 : Code := cdR c18_26
noncomputable def c18_31 : Code := cdR c18_16
noncomputable def c18_32 : Code := cdL c18_31
noncomputable def c18_33 : Code := cdR c18_31
noncomputable def r18_1 : Array Oper := cdO c18_1
noncomputable def r18_3 : Array Oper := cdO c18_3
noncomputable def r18_6 : Array Oper := cdO c18_6
noncomputable def r18_9 : Array Oper := cdO c18_9
noncomputable def r18_13 : Array Oper := cdO c18_13
noncomputable def r18_15 : Array Oper := cdO c18_15
noncomputable def r18_19 : Array Oper := cdO c18_19
noncomputable def r18_22 : Array Oper := cdO c18_22
noncomputable def r18_25 : Array Oper := cdO c18_25
noncomputable def r18_28 : Array Oper := cdO c18_28
noncomputable def r18_32 : Array Oper := cdO c18_32
theorem c18_0e : c18_0 = .seq c18_1 c18_2 := by kernel_rfl
theorem c18_1e : c18_1 = .region 0 r18_1 false := by kernel_rfl
theorem c18_2e : c18_2 = .seq c18_3 c18_4 := by kernel_rfl
theorem c18_3e : c18_3 = .region 1 r18_3 false := by kernel_rfl
theorem c18_4e : c18_4 = .seq c18_5 c18_12 := by kernel_rfl
theorem c18_5e : c18_5 = .seq c18_6 c18_7 := by kernel_rfl
theorem c18_6e : c18_6 = .region 2 r18_6 false := by kernel_rfl
theorem c18_7e : c18_7 = .cond (cdC c18_7) c18_8 c18_11 := by kernel_rfl
theorem c18_8e : c18_8 = .seq c18_9 c18_10 := by kernel_rfl
theorem c18_9e : c18_9 = .region 3 r18_9 false := by kernel_rfl
theorem c18_10e : c18_10 = .ret := by kernel_rfl
theorem c18_11e : c18_11 = .skip := by kernel_rfl
theorem c18_12e : c18_12 = .seq c18_13 c18_14 := by kernel_rfl
theorem c18_13e : c18_13 = .region 4 r18_13 false := by kernel_rfl
theorem c18_14e : c18_14 = .seq c18_15 c18_16 := by kernel_rfl
theorem c18_15e : c18_15 = .region 5 r18_15 false := by kernel_rfl
theorem c18_16e : c18_16 = .seq c18_17 c18_31 := by kernel_rfl
theorem c18_17e : c18_17 = .block 0 c18_18 := by kernel_rfl
theorem c18_18e : c18_18 = .seq c18_19 c18_20 := by kernel_rfl
theorem c18_19e : c18_19 = .region 6 r18_19 false := by kernel_rfl
theorem c18_20e : c18_20 = .cond (cdC c18_20) c18_21 c18_24 := by kernel_rfl
theorem c18_21e : c18_21 = .seq c18_22 c18_23 := by kernel_rfl
theorem c18_22e : c18_22 = .region 7 r18_22 false := by kernel_rfl
theorem c18_23e : c18_23 = .ret := by kernel_rfl
theorem c18_24e : c18_24 = .seq c18_25 c18_26 := by kernel_rfl
theorem c18_25e : c18_25 = .region 8 r18_25 false := by kernel_rfl
theorem c18_26e : c18_26 = .cond (cdC c18_26) c18_27 c18_30 := by kernel_rfl
theorem c18_27e : c18_27 = .seq c18_28 c18_29 := by kernel_rfl
theorem c18_28e : c18_28 = .region 9 r18_28 false := by kernel_rfl
theorem c18_29e : c18_29 = .ret := by kernel_rfl
theorem c18_30e : c18_30 = .skip := by kernel_rfl
theorem c18_31e : c18_31 = .seq c18_32 c18_33 := by kernel_rfl
theorem c18_32e : c18_32 = .region 10 r18_32 false := by kernel_rfl
theorem c18_33e : c18_33 = .ret := by kernel_rfl
noncomputable def session_Table_Begin.R (b_2 : Nat) (A_3 : Option Addr) (c_4 : Nat) : Pst (T_api_Reply × Bool × T_session_Table) where
  ε := Option Addr × Nat
  v := fun r x => .tuple ⟨[.agg ⟨[.int .i64 r.1.Err, .int .u64 r.1.Num, .int .u64 r.1.Extra]⟩, .bool r.2.1]⟩
  H := fun r x => [⟨1, b_2, [.int .u64 r.2.2.now, .int .u64 r.2.2.next, .slice x.1 r.2.2.rows.length x.2]⟩]
  B := fun r x => [Ow 2 kT_session_Row x.1 x.2 r.2.2.rows]
noncomputable def session_Table_Begin.cx (b_2 : Nat) (A_3 : Option Addr) (c_4 : Nat) (w0 : World) (S0 : Fam) : Cx (T_api_Reply × Bool × T_session_Table) := ⟨Try.prog, 18, Try.f18, 58, w0, S0, [1, 2], 2, session_Table_Begin.R b_2 A_3 c_4⟩
theorem session_Table_Begin_j0_ok (n : Nat) (t_1 : T_session_Table) (seq_6 : Int) (r_8 : Int) (b_2 : Nat) (A_3 : Option Addr) (c_4 : Nat) (b_7 : Nat) (w0 : World) (S0 : Fam) (b_12 : Bool) :
    GoO (session_Table_Begin.cx b_2 A_3 c_4 w0 S0) [(2, .int .u64 seq_6), (6, .pointer (some ⟨b_7, 0, none⟩)), (9, elemP A_3 r_8.toNat 6 0), (29, .bool b_12)] [⟨40, b_7, [.int .i64 0, .int .u64 0, .int .u64 0]⟩, ⟨1, b_2, [.int .u64 t_1.now, .int .u64 t_1.next, .slice A_3 (t_1.rows.set r_8.toNat (⟨(rdL t_1.rows r_8).Id, t_1.now, (rdL t_1.rows r_8).Seq, (⟨(rdL t_1.rows r_8).Reply.Err, (rdL t_1.rows r_8).Reply.Num, (rdL t_1.rows r_8).Reply.Extra⟩ : T_api_Reply)⟩ : T_session_Row)).length c_4]⟩] [Ow 2 kT_session_Row A_3 c_4 (t_1.rows.set r_8.toNat (⟨(rdL t_1.rows r_8).Id, t_1.now, (rdL t_1.rows r_8).Seq, (⟨(rdL t_1.rows r_8).Reply.Err, (rdL t_1.rows r_8).Reply.Num, (rdL t_1.rows r_8).Reply.Extra⟩ : T_api_Reply)⟩ : T_session_Row))] [.code c18_20, .inBlock 0, .code c18_31] (session_Table_Begin.j0 n t_1 seq_6 r_8 b_12) := by
  unfold session_Table_Begin.j0
  refine GoO.ite' c18_20e (by kernel_rfl) (fun h13 => ?_) (fun h13 => ?_)
  · refine GoO.seq' c18_21e ?_
    refine GoO.region' (is := [0, 1, 2, 3, 4, 5]) c18_22e (by kernel_rfl) ?_
    refine GoO.exec (is := [0]) (hs := [.p]) (rest := [1, 2, 3, 4, 5]) (ks := [6, 40]) (env' := [(6, .pointer (some ⟨b_7, 0, none⟩)), (40, elemP A_3 r_8.toNat 6 0)]) (H' := [⟨40, b_7, [.int .i64 0, .int .u64 0, .int .u64 0]⟩, ⟨1, b_2, [.int .u64 t_1.now, .int .u64 t_1.next, .slice A_3 (t_1.rows.set r_8.toNat (⟨(rdL t_1.rows r_8).Id, t_1.now, (rdL t_1.rows r_8).Seq, (⟨(rdL t_1.rows r_8).Reply.Err, (rdL t_1.rows r_8).Reply.Num, (rdL t_1.rows r_8).Reply.Extra⟩ : T_api_Reply)⟩ : T_session_Row)).length c_4]⟩]) (ps := []) (by kernel_rfl) trivial ?_
    refine GoO.guard (fun h14 => ?_)
    refine OpTo.go (GoO.nilE (K := kT_session_Row) (A := A_3) (c := c_4) (xs := t_1.rows.set r_8.toNat (⟨(rdL t_1.rows r_8).Id, t_1.now, (rdL t_1.rows r_8).Seq, (⟨(rdL t_1.rows r_8).Reply.Err, (rdL t_1.rows r_8).Reply.Num, (rdL t_1.rows r_8).Reply.Extra⟩ : T_api_Reply)⟩ : T_session_Row)) (iN := r_8.toNat) (off := 0) (j := 0) rfl (by kernel_rfl) rfl Reads.own h14 (by decide) rfl ?_)
    refine GoO.guard (fun h15 => ?_)
    refine OpTo.go (GoO.fldE (K := kT_session_Row) (A := A_3) (c := c_4) (xs := t_1.rows.set r_8.toNat (⟨(rdL t_1.rows r_8).Id, t_1.now, (rdL t_1.rows r_8).Seq, (⟨(rdL t_1.rows r_8).Reply.Err, (rdL t_1.rows r_8).Reply.Num, (rdL t_1.rows r_8).Reply.Extra⟩ : T_api_Reply)⟩ : T_session_Row)) (iN := r_8.toNat) (off := 0) (n := 3) (j := 0) rfl (by kernel_rfl) (by kernel_rfl) rfl Reads.own h15 (by decide) rfl ?_)
    refine GoO.guard (fun h16 => ?_)
    refine OpTo.go (GoO.ldE' (K := kT_session_Row) (A := A_3) (c := c_4) (xs := t_1.rows.set r_8.toNat (⟨(rdL t_1.rows r_8).Id, t_1.now, (rdL t_1.rows r_8).Seq, (⟨(rdL t_1.rows r_8).Reply.Err, (rdL t_1.rows r_8).Reply.Num, (rdL t_1.rows r_8).Reply.Extra⟩ : T_api_Reply)⟩ : T_session_Row)) (iN := r_8.toNat) (off := 3) (j := 0) rfl (by kernel_rfl) rfl Reads.own h16 (by decide) (Opn.flat _ _ _ _ _) (v := fun _ => .agg ⟨[.int .i64 ((rdL (t_1.rows.set r_8.toNat (⟨(rdL t_1.rows r_8).Id, t_1.now, (rdL t_1.rows r_8).Seq, (⟨(rdL t_1.rows r_8).Reply.Err, (rdL t_1.rows r_8).Reply.Num, (rdL t_1.rows r_8).Reply.Extra⟩ : T_api_Reply)⟩ : T_session_Row)) r_8).Reply.Err), .int .u64 ((rdL (t_1.rows.set r_8.toNat (⟨(rdL t_1.rows r_8).Id, t_1.now, (rdL t_1.rows r_8).Seq, (⟨(rdL t_1.rows r_8).Reply.Err, (rdL t_1.rows r_8).Reply.Num, (rdL t_1.rows r_8).Reply.Extra⟩ : T_api_Reply)⟩ : T_session_Row)) r_8).Reply.Num), .int .u64 ((rdL (t_1.rows.set r_8.toNat (⟨(rdL t_1.rows r_8).Id, t_1.now, (rdL t_1.rows r_8).Seq, (⟨(rdL t_1.rows r_8).Reply.Err, (rdL t_1.rows r_8).Reply.Num, (rdL t_1.rows r_8).Reply.Extra⟩ : T_api_Reply)⟩ : T_session_Row)) r_8).Reply.Extra)]⟩) (fun _ => by kernel_rfl) _ (fun _ => rfl) (fun _ => ?_))
    refine GoO.exec (is := [4, 5]) (hs := [.b 0, .p]) (rest := []) (ks := [6, 7]) (env' := [(6, .pointer (some ⟨b_7, 0, none⟩)), (7, .bool false)]) (H' := [⟨40, b_7, [.int .i64 ((rdL (t_1.rows.set r_8.toNat (⟨(rdL t_1.rows r_8).Id, t_1.now, (rdL t_1.rows r_8).Seq, (⟨(rdL t_1.rows r_8).Reply.Err, (rdL t_1.rows r_8).Reply.Num, (rdL t_1.rows r_8).Reply.Extra⟩ : T_api_Reply)⟩ : T_session_Row)) r_8).Reply.Err), .int .u64 ((rdL (t_1.rows.set r_8.toNat (⟨(rdL t_1.rows r_8).Id, t_1.now, (rdL t_1.rows r_8).Seq, (⟨(rdL t_1.rows r_8).Reply.Err, (rdL t_1.rows r_8).Reply.Num, (rdL t_1.rows r_8).Reply.Extra⟩ : T_api_Reply)⟩ : T_session_Row)) r_8).Reply.Num), .int .u64 ((rdL (t_1.rows.set r_8.toNat (⟨(rdL t_1.rows r_8).Id, t_1.now, (rdL t_1.rows r_8).Seq, (⟨(rdL t_1.rows r_8).Reply.Err, (rdL t_1.rows r_8).Reply.Num, (rdL t_1.rows r_8).Reply.Extra⟩ : T_api_Reply)⟩ : T_session_Row)) r_8).Reply.Extra)]⟩, ⟨1, b_2, [.int .u64 t_1.now, .int .u64 t_1.next, .slice A_3 (t_1.rows.set r_8.toNat (⟨(rdL t_1.rows r_8).Id, t_1.now, (rdL t_1.rows r_8).Seq, (⟨(rdL t_1.rows r_8).Reply.Err, (rdL t_1.rows r_8).Reply.Num, (rdL t_1.rows r_8).Reply.Extra⟩ : T_api_Reply)⟩ : T_session_Row)).length c_4]⟩]) (ps := [b_7 = b_7]) (by kernel_rfl) (And.intro rfl trivial) ?_
    refine GoO.regionEnd ?_
    exact GoO.ret' (h := c18_23e) (hs := [0]) (ps := [b_7 = b_7]) (hk := [1]) (bk := [0]) Try.func18 (⟨A_3, c_4⟩ : Option Addr × Nat) (by kernel_rfl) (And.intro rfl trivial) (by kernel_rfl) (by kernel_rfl)
  · refine GoO.seq' c18_24e ?_
    refine GoO.region' (is := [0, 1, 2, 3, 4, 5, 6, 7, 8, 9, 10, 11]) c18_25e (by kernel_rfl) ?_
    refine GoO.exec (is := [0, 1]) (hs := [.p, .p]) (rest := [2, 3, 4, 5, 6, 7, 8, 9, 10, 11]) (ks := [2, 6, 45, 46]) (env' := [(2, .int .u64 seq_6), (6, .pointer (some ⟨b_7, 0, none⟩)), (45, .int .u64 seq_6), (46, elemP A_3 r_8.toNat 6 0)]) (H' := [⟨40, b_7, [.int .i64 0, .int .u64 0, .int .u64 0]⟩, ⟨1, b_2, [.int .u64 t_1.now, .int .u64 t_1.next, .slice A_3 (t_1.rows.set r_8.toNat (⟨(rdL t_1.rows r_8).Id, t_1.now, (rdL t_1.rows r_8).Seq, (⟨(rdL t_1.rows r_8).Reply.Err, (rdL t_1.rows r_8).Reply.Num, (rdL t_1.rows r_8).Reply.Extra⟩ : T_api_Reply)⟩ : T_session_Row)).length c_4]⟩]) (ps := []) (by kernel_rfl) trivial ?_
    refine GoO.guard (fun h17 => ?_)
    refine OpTo.go (GoO.nilE (K := kT_session_Row) (A := A_3) (c := c_4) (xs := t_1.rows.set r_8.toNat (⟨(rdL t_1.rows r_8).Id, t_1.now, (rdL t_1.rows r_8).Seq, (⟨(rdL t_1.rows r_8).Reply.Err, (rdL t_1.rows r_8).Reply.Num, (rdL t_1.rows r_8).Reply.Extra⟩ : T_api_Reply)⟩ : T_session_Row)) (iN := r_8.toNat) (off := 0) (j := 0) rfl (by kernel_rfl) rfl Reads.own h17 (by decide) rfl ?_)
    refine GoO.guard (fun h18 => ?_)
    refine OpTo.go (GoO.fldE (K := kT_session_Row) (A := A_3) (c := c_4) (xs := t_1.rows.set r_8.toNat (⟨(rdL t_1.rows r_8).Id, t_1.now, (rdL t_1.rows r_8).Seq, (⟨(rdL t_1.rows r_8).Reply.Err, (rdL t_1.rows r_8).Reply.Num, (rdL t_1.rows r_8).Reply.Extra⟩ : T_api_Reply)⟩ : T_session_Row)) (iN := r_8.toNat) (off := 0) (n := 2) (j := 0) rfl (by kernel_rfl) (by kernel_rfl) rfl Reads.own h18 (by decide) rfl ?_)
    refine GoO.guard (fun h19 => ?_)
    refine OpTo.go (GoO.ldE' (K := kT_session_Row) (A := A_3) (c := c_4) (xs := t_1.rows.set r_8.toNat (⟨(rdL t_1.rows r_8).Id, t_1.now, (rdL t_1.rows r_8).Seq, (⟨(rdL t_1.rows r_8).Reply.Err, (rdL t_1.rows r_8).Reply.Num, (rdL t_1.rows r_8).Reply.Extra⟩ : T_api_Reply)⟩ : T_session_Row)) (iN := r_8.toNat) (off := 2) (j := 0) rfl (by kernel_rfl) rfl Reads.own h19 (by decide) (Opn.flat _ _ _ _ _) (v := fun _ => .int .u64 ((rdL (t_1.rows.set r_8.toNat (⟨(rdL t_1.rows r_8).Id, t_1.now, (rdL t_1.rows r_8).Seq, (⟨(rdL t_1.rows r_8).Reply.Err, (rdL t_1.rows r_8).Reply.Num, (rdL t_1.rows r_8).Reply.Extra⟩ : T_api_Reply)⟩ : T_session_Row)) r_8).Seq)) (fun _ => by kernel_rfl) _ (fun _ => rfl) (fun _ => ?_))
    refine GoO.exec (is := [5, 6, 7]) (hs := [.p, .p, .p]) (rest := [8, 9, 10, 11]) (ks := [2, 6, 52]) (env' := [(2, .int .u64 seq_6), (6, .pointer (some ⟨b_7, 0, none⟩)), (52, .bool (seq_6 != (wu64 (((rdL (t_1.rows.set r_8.toNat (⟨(rdL t_1.rows r_8).Id, t_1.now, (rdL t_1.rows r_8).Seq, (⟨(rdL t_1.rows r_8).Reply.Err, (rdL t_1.rows r_8).Reply.Num, (rdL t_1.rows r_8).Reply.Extra⟩ : T_api_Reply)⟩ : T_session_Row)) r_8).Seq) + 1))))]) (H' := [⟨40, b_7, [.int .i64 0, .int .u64 0, .int .u64 0]⟩, ⟨1, b_2, [.int .u64 t_1.now, .int .u64 t_1.next, .slice A_3 (t_1.rows.set r_8.toNat (⟨(rdL t_1.rows r_8).Id, t_1.now, (rdL t_1.rows r_8).Seq, (⟨(rdL t_1.rows r_8).Reply.Err, (rdL t_1.rows r_8).Reply.Num, (rdL t_1.rows r_8).Reply.Extra⟩ : T_api_Reply)⟩ : T_session_Row)).length c_4]⟩]) (ps := []) (by kernel_rfl) trivial ?_
    refine GoO.bsplit (t := 52) (by kernel_rfl) (fun h20 => ?_) (fun h20 => ?_)
    · refine GoO.exec (is := [8, 9, 10, 11]) (hs := [.p, .p, .p, .p]) (rest := []) (ks := [6, 44]) (env' := [(6, .pointer (some ⟨b_7, 0, none⟩)), (44, .bool true)]) (H' := [⟨40, b_7, [.int .i64 0, .int .u64 0, .int .u64 0]⟩, ⟨1, b_2, [.int .u64 t_1.now, .int .u64 t_1.next, .slice A_3 (t_1.rows.set r_8.toNat (⟨(rdL t_1.rows r_8).Id, t_1.now, (rdL t_1.rows r_8).Seq, (⟨(rdL t_1.rows r_8).Reply.Err, (rdL t_1.rows r_8).Reply.Num, (rdL t_1.rows r_8).Reply.Extra⟩ : T_api_Reply)⟩ : T_session_Row)).length c_4]⟩]) (ps := []) (by kernel_rfl) trivial ?_
      refine GoO.regionEnd ?_
      refine GoO.condT c18_26e (by kernel_rfl) ?_
      refine GoO.seq' c18_27e ?_
      refine GoO.region' (is := [0, 1, 2]) c18_28e (by kernel_rfl) ?_
      refine GoO.exec (is := [0, 1, 2]) (hs := [.p, .b 0, .p]) (rest := []) (ks := [6, 7]) (env' := [(6, .pointer (some ⟨b_7, 0, none⟩)), (7, .bool false)]) (H' := [⟨40, b_7, [.int .i64 41, .int .u64 0, .int .u64 0]⟩, ⟨1, b_2, [.int .u64 t_1.now, .int .u64 t_1.next, .slice A_3 (t_1.rows.set r_8.toNat (⟨(rdL t_1.rows r_8).Id, t_1.now, (rdL t_1.rows r_8).Seq, (⟨(rdL t_1.rows r_8).Reply.Err, (rdL t_1.rows r_8).Reply.Num, (rdL t_1.rows r_8).Reply.Extra⟩ : T_api_Reply)⟩ : T_session_Row)).length c_4]⟩]) (ps := [b_7 = b_7]) (by kernel_rfl) (And.intro rfl trivial) ?_
      refine GoO.regionEnd ?_
      exact GoO.ret' (h := c18_29e) (hs := [0]) (ps := [b_7 = b_7]) (hk := [1]) (bk := [0]) Try.func18 (⟨A_3, c_4⟩ : Option Addr × Nat) (by kernel_rfl) (And.intro rfl trivial) (by kernel_rfl) (by kernel_rfl)
    · refine GoO.exec (is := [8, 9, 10, 11]) (hs := [.p, .p, .p, .p]) (rest := []) (ks := [6, 44]) (env' := [(6, .pointer (some ⟨b_7, 0, none⟩)), (44, .bool (seq_6 == 0))]) (H' := [⟨40, b_7, [.int .i64 0, .int .u64 0, .int .u64 0]⟩, ⟨1, b_2, [.int .u64 t_1.now, .int .u64 t_1.next, .slice A_3 (t_1.rows.set r_8.toNat (⟨(rdL t_1.rows r_8).Id, t_1.now, (rdL t_1.rows r_8).Seq, (⟨(rdL t_1.rows r_8).Reply.Err, (rdL t_1.rows r_8).Reply.Num, (rdL t_1.rows r_8).Reply.Extra⟩ : T_api_Reply)⟩ : T_session_Row)).length c_4]⟩]) (ps := []) (by kernel_rfl) trivial ?_
      refine GoO.regionEnd ?_
      refine GoO.ite' c18_26e (by kernel_rfl) (fun h21 => ?_) (fun h21 => ?_)
      · refine GoO.seq' c18_27e ?_
        refine GoO.region' (is := [0, 1, 2]) c18_28e (by kernel_rfl) ?_
        refine GoO.exec (is := [0, 1, 2]) (hs := [.p, .b 0, .p]) (rest := []) (ks := [6, 7]) (env' := [(6, .pointer (some ⟨b_7, 0, none⟩)), (7, .bool false)]) (H' := [⟨40, b_7, [.int .i64 41, .int .u64 0, .int .u64 0]⟩, ⟨1, b_2, [.int .u64 t_1.now, .int .u64 t_1.next, .slice A_3 (t_1.rows.set r_8.toNat (⟨(rdL t_1.rows r_8).Id, t_1.now, (rdL t_1.rows r_8).Seq, (⟨(rdL t_1.rows r_8).Reply.Err, (rdL t_1.rows r_8).Reply.Num, (rdL t_1.rows r_8).Reply.Extra⟩ : T_api_Reply)⟩ : T_session_Row)).length c_4]⟩]) (ps := [b_7 = b_7]) (by kernel_rfl) (And.intro rfl trivial) ?_
        refine GoO.regionEnd ?_
        exact GoO.ret' (h := c18_29e) (hs := [0]) (ps := [b_7 = b_7]) (hk := [1]) (bk := [0]) Try.func18 (⟨A_3, c_4⟩ : Option Addr × Nat) (by kernel_rfl) (And.intro rfl trivial) (by kernel_rfl) (by kernel_rfl)
      · refine GoO.skip' c18_30e ?_
        refine GoO.inBlock ?_
        refine GoO.seq' c18_31e ?_
        refine GoO.region' (is := [0, 1, 2]) c18_32e (by kernel_rfl) ?_
        refine GoO.exec (is := [0, 1, 2]) (hs := [.p, .b 0, .p]) (rest := []) (ks := [6, 7]) (env' := [(6, .pointer (some ⟨b_7, 0, none⟩)), (7, .bool true)]) (H' := [⟨40, b_7, [.int .i64 0, .int .u64 0, .int .u64 0]⟩, ⟨1, b_2, [.int .u64 t_1.now, .int .u64 t_1.next, .slice A_3 (t_1.rows.set r_8.toNat (⟨(rdL t_1.rows r_8).Id, t_1.now, (rdL t_1.rows r_8).Seq, (⟨(rdL t_1.rows r_8).Reply.Err, (rdL t_1.rows r_8).Reply.Num, (rdL t_1.rows r_8).Reply.Extra⟩ : T_api_Reply)⟩ : T_session_Row)).length c_4]⟩]) (ps := [b_7 = b_7]) (by kernel_rfl) (And.intro rfl trivial) ?_
        refine GoO.regionEnd ?_
        exact GoO.ret' (h := c18_33e) (hs := [0]) (ps := [b_7 = b_7]) (hk := [1]) (bk := [0]) Try.func18 (⟨A_3, c_4⟩ : Option Addr × Nat) (by kernel_rfl) (And.intro rfl trivial) (by kernel_rfl) (by kernel_rfl)
theorem session_Table_Begin_ok (n : Nat) (t_1 : T_session_Table) (id_5 : Int) (seq_6 : Int) (b_2 : Nat) (A_3 : Option Addr) (c_4 : Nat) :
    Meets Try.prog 18 [.pointer (some ⟨b_2, 0, none⟩), .int .u64 id_5, .int .u64 seq_6] 2 [1, 2] [⟨1, b_2, [.int .u64 t_1.now, .int .u64 t_1.next, .slice A_3 t_1.rows.length c_4]⟩] [Ow 2 kT_session_Row A_3 c_4 t_1.rows] (session_Table_Begin.f n t_1 id_5 seq_6) (session_Table_Begin.R b_2 A_3 c_4) := by
  refine Meets.of (c := c18_0) (n := 58) Try.func18 (by kernel_rfl) (by kernel_rfl) (by kernel_rfl) fun w0 S0 => ?_
  unfold session_Table_Begin.f
  show GoO (session_Table_Begin.cx b_2 A_3 c_4 w0 S0) [(0, .pointer (some ⟨b_2, 0, none⟩)), (1, .int .u64 id_5), (2, .int .u64 seq_6)] [⟨1, b_2, [.int .u64 t_1.now, .int .u64 t_1.next, .slice A_3 t_1.rows.length c_4]⟩] [Ow 2 kT_session_Row A_3 c_4 t_1.rows] [.code c18_0] _
  refine GoO.seq' c18_0e ?_
  refine GoO.region' (is := [0, 1]) c18_1e (by kernel_rfl) ?_
  refine OpTo.go (GoO.new rfl 40 (cs := [.int .i64 0, .int .u64 0, .int .u64 0]) (by kernel_rfl) _ (fun _ => rfl) (fun b_7 => ?_))
  refine GoO.exec (is := [1]) (hs := [.p]) (rest := []) (ks := [0, 1, 2, 6]) (env' := [(0, .pointer (some ⟨b_2, 0, none⟩)), (1, .int .u64 id_5), (2, .int .u64 seq_6), (6, .pointer (some ⟨b_7, 0, none⟩))]) (H' := [⟨40, b_7, [.int .i64 0, .int .u64 0, .int .u64 0]⟩, ⟨1, b_2, [.int .u64 t_1.now, .int .u64 t_1.next, .slice A_3 t_1.rows.length c_4]⟩]) (ps := []) (by kernel_rfl) trivial ?_
  refine GoO.regionEnd ?_
  refine GoO.seq' c18_2e ?_
  refine GoO.region' (is := [0, 1, 2, 3]) c18_3e (by kernel_rfl) ?_
  refine GoO.exec (is := [0, 1]) (hs := [.p, .p]) (rest := [2, 3]) (ks := [0, 2, 6, 10, 11]) (env' := [(0, .pointer (some ⟨b_2, 0, none⟩)), (2, .int .u64 seq_6), (6, .pointer (some ⟨b_7, 0, none⟩)), (10, .pointer (some ⟨b_2, 0, none⟩)), (11, .int .u64 id_5)]) (H' := [⟨40, b_7, [.int .i64 0, .int .u64 0, .int .u64 0]⟩, ⟨1, b_2, [.int .u64 t_1.now, .int .u64 t_1.next, .slice A_3 t_1.rows.length c_4]⟩]) (ps := []) (by kernel_rfl) trivial ?_
  refine OpTo.go (GoO.call rfl (by kernel_rfl) (by kernel_rfl) (session_Table_find_ok n t_1 id_5 b_2 A_3 c_4) [[0], [1], [2]] [] [(1, 1)] [(2, 0)] (hks := [0, 1]) (bks := [0]) (by kernel_rfl) (by kernel_rfl) (by kernel_rfl) (.inl rfl) rfl rfl (by kernel_rfl) (by kernel_rfl) _ (fun _ _ => rfl) _ _ (fun _ _ => rfl) (fun _ _ => rfl) (fun _ _ => by kernel_rfl) (fun _ _ => by kernel_rfl) (fun r_8 x_22 => ?_))
  refine GoO.shape (env' := [(0, .pointer (some ⟨b_2, 0, none⟩)), (2, .int .u64 seq_6), (6, .pointer (some ⟨b_7, 0, none⟩)), (10, .pointer (some ⟨b_2, 0, none⟩)), (11, .int .u64 id_5), (12, .int .i64 r_8)]) (H' := [⟨40, b_7, [.int .i64 0, .int .u64 0, .int .u64 0]⟩, ⟨1, b_2, [.int .u64 t_1.now, .int .u64 t_1.next, .slice A_3 t_1.rows.length c_4]⟩]) (B' := [Ow 2 kT_session_Row A_3 c_4 t_1.rows]) (ks := [0, 2, 6, 10, 11, 12]) (by kernel_rfl) (by kernel_rfl) (by kernel_rfl) ?_
  refine GoO.exec (is := [3]) (hs := [.p]) (rest := []) (ks := [0, 2, 6, 8]) (env' := [(0, .pointer (some ⟨b_2, 0, none⟩)), (2, .int .u64 seq_6), (6, .pointer (some ⟨b_7, 0, none⟩)), (8, .int .i64 r_8)]) (H' := [⟨40, b_7, [.int .i64 0, .int .u64 0, .int .u64 0]⟩, ⟨1, b_2, [.int .u64 t_1.now, .int .u64 t_1.next, .slice A_3 t_1.rows.length c_4]⟩]) (ps := []) (by kernel_rfl) trivial ?_
  refine GoO.regionEnd ?_
  refine GoO.seq' c18_4e ?_
  refine GoO.seq' c18_5e ?_
  refine GoO.region' (is := [0, 1]) c18_6e (by kernel_rfl) ?_
  refine GoO.exec (is := [0, 1]) (hs := [.p, .p]) (rest := []) (ks := [0, 2, 6, 8, 14]) (env' := [(0, .pointer (some ⟨b_2, 0, none⟩)), (2, .int .u64 seq_6), (6, .pointer (some ⟨b_7, 0, none⟩)), (8, .int .i64 r_8), (14, .bool (decide (r_8 < 0)))]) (H' := [⟨40, b_7, [.int .i64 0, .int .u64 0, .int .u64 0]⟩, ⟨1, b_2, [.int .u64 t_1.now, .int .u64 t_1.next, .slice A_3 t_1.rows.length c_4]⟩]) (ps := []) (by kernel_rfl) trivial ?_
  refine GoO.regionEnd ?_
  refine GoO.ite' c18_7e (by kernel_rfl) (fun h9 => ?_) (fun h9 => ?_)
  · refine GoO.seq' c18_8e ?_
    refine GoO.region' (is := [0, 1, 2]) c18_9e (by kernel_rfl) ?_
    refine GoO.exec (is := [0, 1, 2]) (hs := [.p, .b 0, .p]) (rest := []) (ks := [6, 7]) (env' := [(6, .pointer (some ⟨b_7, 0, none⟩)), (7, .bool false)]) (H' := [⟨40, b_7, [.int .i64 40, .int .u64 0, .int .u64 0]⟩, ⟨1, b_2, [.int .u64 t_1.now, .int .u64 t_1.next, .slice A_3 t_1.rows.length c_4]⟩]) (ps := [b_7 = b_7]) (by kernel_rfl) (And.intro rfl trivial) ?_
    refine GoO.regionEnd ?_
    exact GoO.ret' (h := c18_10e) (hs := [0]) (ps := [b_7 = b_7]) (hk := [1]) (bk := [0]) Try.func18 (⟨A_3, c_4⟩ : Option Addr × Nat) (by kernel_rfl) (And.intro rfl trivial) (by kernel_rfl) (by kernel_rfl)
  · refine GoO.skip' c18_11e ?_
    refine GoO.seq' c18_12e ?_
    refine GoO.region' (is := [0, 1, 2, 3, 4, 5, 6]) c18_13e (by kernel_rfl) ?_
    refine GoO.exec (is := [0, 1, 2, 3, 4]) (hs := [.p, .p, .p, .b 1, .p]) (rest := [5, 6]) (ks := [0, 2, 6, 19, 20]) (env' := [(0, .pointer (some ⟨b_2, 0, none⟩)), (2, .int .u64 seq_6), (6, .pointer (some ⟨b_7, 0, none⟩)), (19, .slice A_3 t_1.rows.length c_4), (20, .int .i64 r_8)]) (H' := [⟨40, b_7, [.int .i64 0, .int .u64 0, .int .u64 0]⟩, ⟨1, b_2, [.int .u64 t_1.now, .int .u64 t_1.next, .slice A_3 t_1.rows.length c_4]⟩]) (ps := [b_2 = b_2]) (by kernel_rfl) (And.intro rfl trivial) ?_
    refine GoO.guard (fun h10 => ?_)
    refine OpTo.go (GoO.idx (kk := .i64) (e := 87) (K := kT_session_Row) (A := A_3) (c := c_4) (xs := t_1.rows) (iv := r_8) (j := 0) rfl (by kernel_rfl) (by kernel_rfl) (by kernel_rfl) (by kernel_rfl) rfl Reads.own rfl h10.1 h10.2 (by decide) rfl ?_)
    refine GoO.exec (is := [6]) (hs := [.p]) (rest := []) (ks := [0, 2, 6, 9]) (env' := [(0, .pointer (some ⟨b_2, 0, none⟩)), (2, .int .u64 seq_6), (6, .pointer (some ⟨b_7, 0, none⟩)), (9, elemP A_3 r_8.toNat 6 0)]) (H' := [⟨40, b_7, [.int .i64 0, .int .u64 0, .int .u64 0]⟩, ⟨1, b_2, [.int .u64 t_1.now, .int .u64 t_1.next, .slice A_3 t_1.rows.length c_4]⟩]) (ps := []) (by kernel_rfl) trivial ?_
    refine GoO.regionEnd ?_
    refine GoO.seq' c18_14e ?_
    refine GoO.region' (is := [0, 1, 2, 3, 4, 5, 6, 7]) c18_15e (by kernel_rfl) ?_
    refine GoO.exec (is := [0, 1, 2, 3, 4]) (hs := [.p, .p, .p, .p, .b 1]) (rest := [5, 6, 7]) (ks := [2, 6, 9, 22, 26]) (env' := [(2, .int .u64 seq_6), (6, .pointer (some ⟨b_7, 0, none⟩)), (9, elemP A_3 r_8.toNat 6 0), (22, elemP A_3 r_8.toNat 6 0), (26, .int .u64 t_1.now)]) (H' := [⟨40, b_7, [.int .i64 0, .int .u64 0, .int .u64 0]⟩, ⟨1, b_2, [.int .u64 t_1.now, .int .u64 t_1.next, .slice A_3 t_1.rows.length c_4]⟩]) (ps := [b_2 = b_2]) (by kernel_rfl) (And.intro rfl trivial) ?_
    refine OpTo.go (GoO.nilE (K := kT_session_Row) (A := A_3) (c := c_4) (xs := t_1.rows) (iN := r_8.toNat) (off := 0) (j := 0) rfl (by kernel_rfl) rfl Reads.own (by first | exact idx_lt h10.1 h10.2 | (simp only [List.length_set]; exact idx_lt h10.1 h10.2)) (by decide) rfl ?_)
    refine OpTo.go (GoO.fldE (K := kT_session_Row) (A := A_3) (c := c_4) (xs := t_1.rows) (iN := r_8.toNat) (off := 0) (n := 1) (j := 0) rfl (by kernel_rfl) (by kernel_rfl) rfl Reads.own (by first | exact idx_lt h10.1 h10.2 | (simp only [List.length_set]; exact idx_lt h10.1 h10.2)) (by decide) rfl ?_)
    refine OpTo.go (GoO.stE (K := kT_session_Row) (A := A_3) (c := c_4) (xs := t_1.rows) (iN := r_8.toNat) (off := 1) (tg := 2) (j := 0) (v := .int .u64 t_1.now) rfl (by kernel_rfl) (by kernel_rfl) rfl (by first | exact idx_lt h10.1 h10.2 | (simp only [List.length_set]; exact idx_lt h10.1 h10.2)) (by decide) (by kernel_rfl) (by kernel_rfl) (by kernel_rfl) ((⟨(rdL t_1.rows r_8).Id, t_1.now, (rdL t_1.rows r_8).Seq, (⟨(rdL t_1.rows r_8).Reply.Err, (rdL t_1.rows r_8).Reply.Num, (rdL t_1.rows r_8).Reply.Extra⟩ : T_api_Reply)⟩ : T_session_Row)) (fun w S cs _ hr => ⟨_, by subst hr; exact stored_flat rfl, rfl⟩) rfl ?_)
    refine GoO.rebox (j := 1) (t := 1) (b := b_2) (cs := [.int .u64 t_1.now, .int .u64 t_1.next, .slice A_3 t_1.rows.length c_4]) (cs' := [.int .u64 t_1.now, .int .u64 t_1.next, .slice A_3 (t_1.rows.set r_8.toNat (⟨(rdL t_1.rows r_8).Id, t_1.now, (rdL t_1.rows r_8).Seq, (⟨(rdL t_1.rows r_8).Reply.Err, (rdL t_1.rows r_8).Reply.Num, (rdL t_1.rows r_8).Reply.Extra⟩ : T_api_Reply)⟩ : T_session_Row)).length c_4]) (by kernel_rfl) (by simp) ?_
    refine GoO.regionEnd ?_
    refine GoO.seq' c18_16e ?_
    refine GoO.block' c18_17e ?_
    refine GoO.seq' c18_18e ?_
    refine GoO.region' (is := [0, 1, 2, 3, 4, 5, 6, 7, 8, 9, 10]) c18_19e (by kernel_rfl) ?_
    refine GoO.exec (is := [0, 1]) (hs := [.p, .p]) (rest := [2, 3, 4, 5, 6, 7, 8, 9, 10]) (ks := [2, 6, 9, 30, 31]) (env' := [(2, .int .u64 seq_6), (6, .pointer (some ⟨b_7, 0, none⟩)), (9, elemP A_3 r_8.toNat 6 0), (30, .int .u64 seq_6), (31, elemP A_3 r_8.toNat 6 0)]) (H' := [⟨40, b_7, [.int .i64 0, .int .u64 0, .int .u64 0]⟩, ⟨1, b_2, [.int .u64 t_1.now, .int .u64 t_1.next, .slice A_3 (t_1.rows.set r_8.toNat (⟨(rdL t_1.rows r_8).Id, t_1.now, (rdL t_1.rows r_8).Seq, (⟨(rdL t_1.rows r_8).Reply.Err, (rdL t_1.rows r_8).Reply.Num, (rdL t_1.rows r_8).Reply.Extra⟩ : T_api_Reply)⟩ : T_session_Row)).length c_4]⟩]) (ps := []) (by kernel_rfl) trivial ?_
    refine OpTo.go (GoO.nilE (K := kT_session_Row) (A := A_3) (c := c_4) (xs := t_1.rows.set r_8.toNat (⟨(rdL t_1.rows r_8).Id, t_1.now, (rdL t_1.rows r_8).Seq, (⟨(rdL t_1.rows r_8).Reply.Err, (rdL t_1.rows r_8).Reply.Num, (rdL t_1.rows r_8).Reply.Extra⟩ : T_api_Reply)⟩ : T_session_Row)) (iN := r_8.toNat) (off := 0) (j := 0) rfl (by kernel_rfl) rfl Reads.own (by first | exact idx_lt h10.1 h10.2 | (simp only [List.length_set]; exact idx_lt h10.1 h10.2)) (by decide) rfl ?_)
    refine OpTo.go (GoO.fldE (K := kT_session_Row) (A := A_3) (c := c_4) (xs := t_1.rows.set r_8.toNat (⟨(rdL t_1.rows r_8).Id, t_1.now, (rdL t_1.rows r_8).Seq, (⟨(rdL t_1.rows r_8).Reply.Err, (rdL t_1.rows r_8).Reply.Num, (rdL t_1.rows r_8).Reply.Extra⟩ : T_api_Reply)⟩ : T_session_Row)) (iN := r_8.toNat) (off := 0) (n := 2) (j := 0) rfl (by kernel_rfl) (by kernel_rfl) rfl Reads.own (by first | exact idx_lt h10.1 h10.2 | (simp only [List.length_set]; exact idx_lt h10.1 h10.2)) (by decide) rfl ?_)
    refine OpTo.go (GoO.ldE' (K := kT_session_Row) (A := A_3) (c := c_4) (xs := t_1.rows.set r_8.toNat (⟨(rdL t_1.rows r_8).Id, t_1.now, (rdL t_1.rows r_8).Seq, (⟨(rdL t_1.rows r_8).Reply.Err, (rdL t_1.rows r_8).Reply.Num, (rdL t_1.rows r_8).Reply.Extra⟩ : T_api_Reply)⟩ : T_session_Row)) (iN := r_8.toNat) (off := 2) (j := 0) rfl (by kernel_rfl) rfl Reads.own (by first | exact idx_lt h10.1 h10.2 | (simp only [List.length_set]; exact idx_lt h10.1 h10.2)) (by decide) (Opn.flat _ _ _ _ _) (v := fun _ => .int .u64 ((rdL (t_1.rows.set r_8.toNat (⟨(rdL t_1.rows r_8).Id, t_1.now, (rdL t_1.rows r_8).Seq, (⟨(rdL t_1.rows r_8).Reply.Err, (rdL t_1.rows r_8).Reply.Num, (rdL t_1.rows r_8).Reply.Extra⟩ : T_api_Reply)⟩ : T_session_Row)) r_8).Seq)) (fun _ => by kernel_rfl) _ (fun _ => rfl) (fun _ => ?_))
    refine GoO.exec (is := [5, 6]) (hs := [.p, .p]) (rest := [7, 8, 9, 10]) (ks := [2, 6, 9, 36]) (env' := [(2, .int .u64 seq_6), (6, .pointer (some ⟨b_7, 0, none⟩)), (9, elemP A_3 r_8.toNat 6 0), (36, .bool (seq_6 == ((rdL (t_1.rows.set r_8.toNat (⟨(rdL t_1.rows r_8).Id, t_1.now, (rdL t_1.rows r_8).Seq, (⟨(rdL t_1.rows r_8).Reply.Err, (rdL t_1.rows r_8).Reply.Num, (rdL t_1.rows r_8).Reply.Extra⟩ : T_api_Reply)⟩ : T_session_Row)) r_8).Seq)))]) (H' := [⟨40, b_7, [.int .i64 0, .int .u64 0, .int .u64 0]⟩, ⟨1, b_2, [.int .u64 t_1.now, .int .u64 t_1.next, .slice A_3 (t_1.rows.set r_8.toNat (⟨(rdL t_1.rows r_8).Id, t_1.now, (rdL t_1.rows r_8).Seq, (⟨(rdL t_1.rows r_8).Reply.Err, (rdL t_1.rows r_8).Reply.Num, (rdL t_1.rows r_8).Reply.Extra⟩ : T_api_Reply)⟩ : T_session_Row)).length c_4]⟩]) (ps := []) (by kernel_rfl) trivial ?_
    refine GoO.bsplit (t := 36) (by kernel_rfl) (fun h11 => ?_) (fun h11 => ?_)
    · refine GoO.exec (is := [7, 8, 9, 10]) (hs := [.p, .p, .p, .p]) (rest := []) (ks := [2, 6, 9, 29]) (env' := [(2, .int .u64 seq_6), (6, .pointer (some ⟨b_7, 0, none⟩)), (9, elemP A_3 r_8.toNat 6 0), (29, .bool (decide (seq_6 > 0)))]) (H' := [⟨40, b_7, [.int .i64 0, .int .u64 0, .int .u64 0]⟩, ⟨1, b_2, [.int .u64 t_1.now, .int .u64 t_1.next, .slice A_3 (t_1.rows.set r_8.toNat (⟨(rdL t_1.rows r_8).Id, t_1.now, (rdL t_1.rows r_8).Seq, (⟨(rdL t_1.rows r_8).Reply.Err, (rdL t_1.rows r_8).Reply.Num, (rdL t_1.rows r_8).Reply.Extra⟩ : T_api_Reply)⟩ : T_session_Row)).length c_4]⟩]) (ps := []) (by kernel_rfl) trivial ?_
      refine GoO.regionEnd ?_
      exact GoO.sub (ks := [2, 6, 9, 29]) (hk := [0, 1]) (bk := [0]) (by kernel_rfl) (by kernel_rfl) (by kernel_rfl) (session_Table_Begin_j0_ok n t_1 seq_6 r_8 b_2 A_3 c_4 b_7 w0 S0 (decide (seq_6 > 0)))
    · refine GoO.exec (is := [7, 8, 9, 10]) (hs := [.p, .p, .p, .p]) (rest := []) (ks := [2, 6, 9, 29]) (env' := [(2, .int .u64 seq_6), (6, .pointer (some ⟨b_7, 0, none⟩)), (9, elemP A_3 r_8.toNat 6 0), (29, .bool false)]) (H' := [⟨40, b_7, [.int .i64 0, .int .u64 0, .int .u64 0]⟩, ⟨1, b_2, [.int .u64 t_1.now, .int .u64 t_1.next, .slice A_3 (t_1.rows.set r_8.toNat (⟨(rdL t_1.rows r_8).Id, t_1.now, (rdL t_1.rows r_8).Seq, (⟨(rdL t_1.rows r_8).Reply.Err, (rdL t_1.rows r_8).Reply.Num, (rdL t_1.rows r_8).Reply.Extra⟩ : T_api_Reply)⟩ : T_session_Row)).length c_4]⟩]) (ps := []) (by kernel_rfl) trivial ?_
      refine GoO.regionEnd ?_
      exact GoO.sub (ks := [2, 6, 9, 29]) (hk := [0, 1]) (bk := [0]) (by kernel_rfl) (by kernel_rfl) (by kernel_rfl) (session_Table_Begin_j0_ok n t_1 seq_6 r_8 b_2 A_3 c_4 b_7 w0 S0 false)

/-! (*tontine/session.Table).End -/
noncomputable def c19_0 : Code := bodyOf Try.f19
noncomputable def c19_1 : Code := cdL c19_0
noncomputable def c19_2 : Code := cdR c19_0
noncomputable def c19_3 : Code := cdL c19_2
noncomputable def c19_4 : Code := cdR c19_2
noncomputable def c19_5 : Code := cdL c19_4
noncomputable def c19_6 : Code := cdL c19_5
noncomputable def c19_7 : Code := cdR c19_5
noncomputable def c19_8 : Code := cdL c19_7
noncomputable def c19_9 : Code := cdL c19_8
noncomputable def c19_10 : Code := cdR c19_8
noncomputable def c19_11 : Code := cdR c19_7
noncomputable def c19_12 : Code := cdR c19_4
noncomputable def c19_13 : Code := cdL c19_12
noncomputable def c19_14 : Code := cdR c19_12
noncomputable def c19_15 : Code := cdL c19_14
noncomputable def c19_16 : Code := cdR c19_14
noncomputable def r19_1 : Array Oper := cdO c19_1
noncomputable def r19_3 : Array Oper := cdO c19_3
noncomputable def r19_6 : Array Oper := cdO c19_6
noncomputable def r19_9 : Array Oper := cdO c19_9
noncomputable def r19_13 : Array Oper := cdO c19_13
noncomputable def r19_15 : Array Oper := cdO c19_15
theorem c19_0e : c19_0 = .seq c19_1 c19_2 := by kernel_rfl
theorem c19_1e : c19_1 = .region 0 r19_1 false := by kernel_rfl
theorem c19_2e : c19_2 = .seq c19_3 c19_4 := by kernel_rfl
theorem c19_3e : c19_3 = .region 1 r19_3 false := by kernel_rfl
theorem c19_4e : c19_4 = .seq c19_5 c19_12 := by kernel_rfl
theorem c19_5e : c19_5 = .seq c19_6 c19_7 := by kernel_rfl
theorem c19_6e : c19_6 = .region 2 r19_6 false := by kernel_rfl
theorem c19_7e : c19_7 = .cond (cdC c19_7) c19_8 c19_11 := by kernel_rfl
theorem c19_8e : c19_8 = .seq c19_9 c19_10 := by kernel_rfl
theorem c19_9e : c19_9 = .region 3 r19_9 false := by kernel_rfl
theorem c19_10e : c19_10 = .ret := by kernel_rfl
theorem c19_11e : c19_11 = .skip := by kernel_rfl
theorem c19_12e : c19_12 = .seq c19_13 c19_14 := by kernel_rfl
theorem c19_13e : c19_13 = .region 4 r19_13 true := by kernel_rfl
theorem c19_14e : c19_14 = .seq c19_15 c19_16 := by kernel_rfl
theorem c19_15e : c19_15 = .region 5 r19_15 false := by kernel_rfl
theorem c19_16e : c19_16 = .ret := by kernel_rfl
noncomputable def session_Table_End.R (b_2 : Nat) (A_3 : Option Addr) (c_4 : Nat) : Pst (Bool × T_session_Table) where
  ε := Option Addr × Nat
  v := fun r x => .bool r.1
  H := fun r x => [⟨1, b_2, [.int .u64 r.2.now, .int .u64 r.2.next, .slice x.1 r.2.rows.length x.2]⟩]
  B := fun r x => [Ow 2 kT_session_Row x.1 x.2 r.2.rows]
noncomputable def session_Table_End.cx (b_2 : Nat) (A_3 : Option Addr) (c_4 : Nat) (w0 : World) (S0 : Fam) : Cx (Bool × T_session_Table) := ⟨Try.prog, 19, Try.f19, 48, w0, S0, [1, 2], 2, session_Table_End.R b_2 A_3 c_4⟩
theorem session_Table_End_j0_ok (n : Nat) (t_1 : T_session_Table) (seq_6 : Int) (y_7 : T_api_Reply) (r_9 : Int) (b_2 : Nat) (A_3 : Option Addr) (c_4 : Nat) (b_8 : Nat) (w0 : World) (S0 : Fam) (b_13 : Bool) :
    GoO (session_Table_End.cx b_2 A_3 c_4 w0 S0) [(0, .pointer (some ⟨b_2, 0, none⟩)), (2, .int .u64 seq_6), (7, .pointer (some ⟨b_8, 0, none⟩)), (9, .int .i64 r_9), (31, .bool b_13)] [⟨1, b_2, [.int .u64 t_1.now, .int .u64 t_1.next, .slice A_3 t_1.rows.length c_4]⟩, ⟨40, b_8, [.int .i64 y_7.Err, .int .u64 y_7.Num, .int .u64 y_7.Extra]⟩] [Ow 2 kT_session_Row A_3 c_4 t_1.rows] [.code c19_7, .code c19_12] (session_Table_End.j0 n t_1 seq_6 y_7 r_9 b_13) := by
  unfold session_Table_End.j0
  refine GoO.ite' c19_7e (by kernel_rfl) (fun h14 => ?_) (fun h14 => ?_)
  · refine GoO.seq' c19_8e ?_
    refine GoO.region' (is := [0]) c19_9e (by kernel_rfl) ?_
    refine GoO.exec (is := [0]) (hs := [.p]) (rest := []) (ks := [8]) (env' := [(8, .bool false)]) (H' := [⟨1, b_2, [.int .u64 t_1.now, .int .u64 t_1.next, .slice A_3 t_1.rows.length c_4]⟩, ⟨40, b_8, [.int .i64 y_7.Err, .int .u64 y_7.Num, .int .u64 y_7.Extra]⟩]) (ps := []) (by kernel_rfl) trivial ?_
    refine GoO.regionEnd ?_
    exact GoO.ret' (h := c19_10e) (hs := []) (ps := []) (hk := [0]) (bk := [0]) Try.func19 (⟨A_3, c_4⟩ : Option Addr × Nat) (by kernel_rfl) trivial (by kernel_rfl) (by kernel_rfl)
  · refine GoO.skip' c19_11e ?_
    refine GoO.seq' c19_12e ?_
    refine GoO.draw c19_13e (by kernel_rfl) [15, 16, 17] [⟨1, b_2, [.int .u64 t_1.now, .int .u64 t_1.next, .slice A_3 t_1.rows.length c_4]⟩, ⟨40, b_8, [.int .i64 y_7.Err, .int .u64 y_7.Num, .int .u64 y_7.Extra]⟩] [] (n := 18) (by kernel_rfl) ?_
    simp only [List.replicate]
    refine GoF.take [0, 1, 2, 3, 4, 5, 6, 7, 8, 9, 10, 11] [.p, .p, .p, .b 0, .p, .p, .p, .p, .b 0, .p, .p, .b 1] (ks := [35, 36, 40, 41, 42, 43]) (fu := 6) (li := [true, true, true, true, true, true, true, true, true, true, true, true, false, false, false, false, false, false]) (env' := [(35, .slice A_3 t_1.rows.length c_4), (36, .int .i64 r_9), (40, .slice A_3 t_1.rows.length c_4), (41, .int .i64 r_9), (42, .int .u64 seq_6), (43, .agg ⟨[.int .i64 y_7.Err, .int .u64 y_7.Num, .int .u64 y_7.Extra]⟩)]) (ps := [b_2 = b_2, b_2 = b_2, b_8 = b_8]) (hk := [0, 1]) (bk := []) (by kernel_rfl) (And.intro rfl (And.intro rfl (And.intro rfl trivial))) rfl rfl ?_
    refine GoF.guard (fun h15 => ?_)
    refine OpTo.goF (i := 12) (by kernel_rfl) (hk := [0, 1]) (bk := []) (GoO.idx (kk := .i64) (e := 87) (K := kT_session_Row) (A := A_3) (c := c_4) (xs := t_1.rows) (iv := r_9) (j := 0) rfl (by kernel_rfl) (by kernel_rfl) (by kernel_rfl) (by kernel_rfl) rfl Reads.own rfl h15.1 h15.2 (by decide) rfl ⟨rfl, rfl, ?_⟩)
    refine OpTo.goF (i := 13) (by kernel_rfl) (hk := [0, 1]) (bk := []) (GoO.fldE (K := kT_session_Row) (A := A_3) (c := c_4) (xs := t_1.rows) (iN := r_9.toNat) (off := 0) (n := 2) (j := 0) rfl (by kernel_rfl) (by kernel_rfl) rfl Reads.own (by first | exact idx_lt h15.1 h15.2 | (simp only [List.length_set]; exact idx_lt h15.1 h15.2)) (by decide) rfl ⟨rfl, rfl, ?_⟩)
    refine OpTo.goF (i := 14) (by kernel_rfl) (hk := [0, 1]) (bk := []) (GoO.stE (K := kT_session_Row) (A := A_3) (c := c_4) (xs := t_1.rows) (iN := r_9.toNat) (off := 2) (tg := 2) (j := 0) (v := .int .u64 seq_6) rfl (by kernel_rfl) (by kernel_rfl) rfl (by first | exact idx_lt h15.1 h15.2 | (simp only [List.length_set]; exact idx_lt h15.1 h15.2)) (by decide) (by kernel_rfl) (by kernel_rfl) (by kernel_rfl) ((⟨(rdL t_1.rows r_9).Id, (rdL t_1.rows r_9).Used, seq_6, (⟨(rdL t_1.rows r_9).Reply.Err, (rdL t_1.rows r_9).Reply.Num, (rdL t_1.rows r_9).Reply.Extra⟩ : T_api_Reply)⟩ : T_session_Row)) (fun w S cs _ hr => ⟨_, by subst hr; exact stored_flat rfl, rfl⟩) rfl ⟨rfl, rfl, ?_⟩)
    refine GoF.reval (t := 35) (v := .slice A_3 t_1.rows.length c_4) (v' := .slice A_3 (t_1.rows.set r_9.toNat (⟨(rdL t_1.rows r_9).Id, (rdL t_1.rows r_9).Used, seq_6, (⟨(rdL t_1.rows r_9).Reply.Err, (rdL t_1.rows r_9).Reply.Num, (rdL t_1.rows r_9).Reply.Extra⟩ : T_api_Reply)⟩ : T_session_Row)).length c_4) (by kernel_rfl) (by simp) ?_
    refine GoF.reval (t := 40) (v := .slice A_3 t_1.rows.length c_4) (v' := .slice A_3 (t_1.rows.set r_9.toNat (⟨(rdL t_1.rows r_9).Id, (rdL t_1.rows r_9).Used, seq_6, (⟨(rdL t_1.rows r_9).Reply.Err, (rdL t_1.rows r_9).Reply.Num, (rdL t_1.rows r_9).Reply.Extra⟩ : T_api_Reply)⟩ : T_session_Row)).length c_4) (by kernel_rfl) (by simp) ?_
    refine GoF.rebox (j := 0) (t := 1) (b := b_2) (cs := [.int .u64 t_1.now, .int .u64 t_1.next, .slice A_3 t_1.rows.length c_4]) (cs' := [.int .u64 t_1.now, .int .u64 t_1.next, .slice A_3 (t_1.rows.set r_9.toNat (⟨(rdL t_1.rows r_9).Id, (rdL t_1.rows r_9).Used, seq_6, (⟨(rdL t_1.rows r_9).Reply.Err, (rdL t_1.rows r_9).Reply.Num, (rdL t_1.rows r_9).Reply.Extra⟩ : T_api_Reply)⟩ : T_session_Row)).length c_4]) (by kernel_rfl) (by simp) ?_
    refine GoF.guard (fun h16 => ?_)
    refine OpTo.goE (i := 15) (by kernel_rfl) rfl (GoO.idx (kk := .i64) (e := 87) (K := kT_session_Row) (A := A_3) (c := c_4) (xs := t_1.rows.set r_9.toNat (⟨(rdL t_1.rows r_9).Id, (rdL t_1.rows r_9).Used, seq_6, (⟨(rdL t_1.rows r_9).Reply.Err, (rdL t_1.rows r_9).Reply.Num, (rdL t_1.rows r_9).Reply.Extra⟩ : T_api_Reply)⟩ : T_session_Row)) (iv := r_9) (j := 0) rfl (by kernel_rfl) (by kernel_rfl) (by kernel_rfl) (by kernel_rfl) rfl Reads.own rfl h16.1 h16.2 (by decide) rfl ?_)
    refine OpTo.goE (i := 16) (by kernel_rfl) rfl (GoO.fldE (K := kT_session_Row) (A := A_3) (c := c_4) (xs := t_1.rows.set r_9.toNat (⟨(rdL t_1.rows r_9).Id, (rdL t_1.rows r_9).Used, seq_6, (⟨(rdL t_1.rows r_9).Reply.Err, (rdL t_1.rows r_9).Reply.Num, (rdL t_1.rows r_9).Reply.Extra⟩ : T_api_Reply)⟩ : T_session_Row)) (iN := r_9.toNat) (off := 0) (n := 3) (j := 0) rfl (by kernel_rfl) (by kernel_rfl) rfl Reads.own (by first | exact idx_lt h16.1 h16.2 | (simp only [List.length_set]; exact idx_lt h16.1 h16.2)) (by decide) rfl ?_)
    refine OpTo.goE (i := 17) (by kernel_rfl) rfl (GoO.stE (K := kT_session_Row) (A := A_3) (c := c_4) (xs := t_1.rows.set r_9.toNat (⟨(rdL t_1.rows r_9).Id, (rdL t_1.rows r_9).Used, seq_6, (⟨(rdL t_1.rows r_9).Reply.Err, (rdL t_1.rows r_9).Reply.Num, (rdL t_1.rows r_9).Reply.Extra⟩ : T_api_Reply)⟩ : T_session_Row)) (iN := r_9.toNat) (off := 3) (tg := 2) (j := 0) (v := .agg ⟨[.int .i64 y_7.Err, .int .u64 y_7.Num, .int .u64 y_7.Extra]⟩) rfl (by kernel_rfl) (by kernel_rfl) rfl (by first | exact idx_lt h16.1 h16.2 | (simp only [List.length_set]; exact idx_lt h16.1 h16.2)) (by decide) (by kernel_rfl) (by kernel_rfl) (by kernel_rfl) ((⟨(rdL (t_1.rows.set r_9.toNat (⟨(rdL t_1.rows r_9).Id, (rdL t_1.rows r_9).Used, seq_6, (⟨(rdL t_1.rows r_9).Reply.Err, (rdL t_1.rows r_9).Reply.Num, (rdL t_1.rows r_9).Reply.Extra⟩ : T_api_Reply)⟩ : T_session_Row)) r_9).Id, (rdL (t_1.rows.set r_9.toNat (⟨(rdL t_1.rows r_9).Id, (rdL t_1.rows r_9).Used, seq_6, (⟨(rdL t_1.rows r_9).Reply.Err, (rdL t_1.rows r_9).Reply.Num, (rdL t_1.rows r_9).Reply.Extra⟩ : T_api_Reply)⟩ : T_session_Row)) r_9).Used, (rdL (t_1.rows.set r_9.toNat (⟨(rdL t_1.rows r_9).Id, (rdL t_1.rows r_9).Used, seq_6, (⟨(rdL t_1.rows r_9).Reply.Err, (rdL t_1.rows r_9).Reply.Num, (rdL t_1.rows r_9).Reply.Extra⟩ : T_api_Reply)⟩ : T_session_Row)) r_9).Seq, y_7⟩ : T_session_Row)) (fun w S cs _ hr => ⟨_, by subst hr; exact stored_flat rfl, rfl⟩) rfl ?_)
    refine GoF.reval (t := 35) (v := .slice A_3 (t_1.rows.set r_9.toNat (⟨(rdL t_1.rows r_9).Id, (rdL t_1.rows r_9).Used, seq_6, (⟨(rdL t_1.rows r_9).Reply.Err, (rdL t_1.rows r_9).Reply.Num, (rdL t_1.rows r_9).Reply.Extra⟩ : T_api_Reply)⟩ : T_session_Row)).length c_4) (v' := .slice A_3 ((t_1.rows.set r_9.toNat (⟨(rdL t_1.rows r_9).Id, (rdL t_1.rows r_9).Used, seq_6, (⟨(rdL t_1.rows r_9).Reply.Err, (rdL t_1.rows r_9).Reply.Num, (rdL t_1.rows r_9).Reply.Extra⟩ : T_api_Reply)⟩ : T_session_Row)).set r_9.toNat (⟨(rdL (t_1.rows.set r_9.toNat (⟨(rdL t_1.rows r_9).Id, (rdL t_1.rows r_9).Used, seq_6, (⟨(rdL t_1.rows r_9).Reply.Err, (rdL t_1.rows r_9).Reply.Num, (rdL t_1.rows r_9).Reply.Extra⟩ : T_api_Reply)⟩ : T_session_Row)) r_9).Id, (rdL (t_1.rows.set r_9.toNat (⟨(rdL t_1.rows r_9).Id, (rdL t_1.rows r_9).Used, seq_6, (⟨(rdL t_1.rows r_9).Reply.Err, (rdL t_1.rows r_9).Reply.Num, (rdL t_1.rows r_9).Reply.Extra⟩ : T_api_Reply)⟩ : T_session_Row)) r_9).Used, (rdL (t_1.rows.set r_9.toNat (⟨(rdL t_1.rows r_9).Id, (rdL t_1.rows r_9).Used, seq_6, (⟨(rdL t_1.rows r_9).Reply.Err, (rdL t_1.rows r_9).Reply.Num, (rdL t_1.rows r_9).Reply.Extra⟩ : T_api_Reply)⟩ : T_session_Row)) r_9).Seq, y_7⟩ : T_session_Row)).length c_4) (by kernel_rfl) (by simp) ?_
    refine GoF.reval (t := 40) (v := .slice A_3 (t_1.rows.set r_9.toNat (⟨(rdL t_1.rows r_9).Id, (rdL t_1.rows r_9).Used, seq_6, (⟨(rdL t_1.rows r_9).Reply.Err, (rdL t_1.rows r_9).Reply.Num, (rdL t_1.rows r_9).Reply.Extra⟩ : T_api_Reply)⟩ : T_session_Row)).length c_4) (v' := .slice A_3 ((t_1.rows.set r_9.toNat (⟨(rdL t_1.rows r_9).Id, (rdL t_1.rows r_9).Used, seq_6, (⟨(rdL t_1.rows r_9).Reply.Err, (rdL t_1.rows r_9).Reply.Num, (rdL t_1.rows r_9).Reply.Extra⟩ : T_api_Reply)⟩ : T_session_Row)).set r_9.toNat (⟨(rdL (t_1.rows.set r_9.toNat (⟨(rdL t_1.rows r_9).Id, (rdL t_1.rows r_9).Used, seq_6, (⟨(rdL t_1.rows r_9).Reply.Err, (rdL t_1.rows r_9).Reply.Num, (rdL t_1.rows r_9).Reply.Extra⟩ : T_api_Reply)⟩ : T_session_Row)) r_9).Id, (rdL (t_1.rows.set r_9.toNat (⟨(rdL t_1.rows r_9).Id, (rdL t_1.rows r_9).Used, seq_6, (⟨(rdL t_1.rows r_9).Reply.Err, (rdL t_1.rows r_9).Reply.Num, (rdL t_1.rows r_9).Reply.Extra⟩ : T_api_Reply)⟩ : T_session_Row)) r_9).Used, (rdL (t_1.rows.set r_9.toNat (⟨(rdL t_1.rows r_9).Id, (rdL t_1.rows r_9).Used, seq_6, (⟨(rdL t_1.rows r_9).Reply.Err, (rdL t_1.rows r_9).Reply.Num, (rdL t_1.rows r_9).Reply.Extra⟩ : T_api_Reply)⟩ : T_session_Row)) r_9).Seq, y_7⟩ : T_session_Row)).length c_4) (by kernel_rfl) (by simp) ?_
    refine GoF.rebox (j := 0) (t := 1) (b := b_2) (cs := [.int .u64 t_1.now, .int .u64 t_1.next, .slice A_3 (t_1.rows.set r_9.toNat (⟨(rdL t_1.rows r_9).Id, (rdL t_1.rows r_9).Used, seq_6, (⟨(rdL t_1.rows r_9).Reply.Err, (rdL t_1.rows r_9).Reply.Num, (rdL t_1.rows r_9).Reply.Extra⟩ : T_api_Reply)⟩ : T_session_Row)).length c_4]) (cs' := [.int .u64 t_1.now, .int .u64 t_1.next, .slice A_3 ((t_1.rows.set r_9.toNat (⟨(rdL t_1.rows r_9).Id, (rdL t_1.rows r_9).Used, seq_6, (⟨(rdL t_1.rows r_9).Reply.Err, (rdL t_1.rows r_9).Reply.Num, (rdL t_1.rows r_9).Reply.Extra⟩ : T_api_Reply)⟩ : T_session_Row)).set r_9.toNat (⟨(rdL (t_1.rows.set r_9.toNat (⟨(rdL t_1.rows r_9).Id, (rdL t_1.rows r_9).Used, seq_6, (⟨(rdL t_1.rows r_9).Reply.Err, (rdL t_1.rows r_9).Reply.Num, (rdL t_1.rows r_9).Reply.Extra⟩ : T_api_Reply)⟩ : T_session_Row)) r_9).Id, (rdL (t_1.rows.set r_9.toNat (⟨(rdL t_1.rows r_9).Id, (rdL t_1.rows r_9).Used, seq_6, (⟨(rdL t_1.rows r_9).Reply.Err, (rdL t_1.rows r_9).Reply.Num, (rdL t_1.rows r_9).Reply.Extra⟩ : T_api_Reply)⟩ : T_session_Row)) r_9).Used, (rdL (t_1.rows.set r_9.toNat (⟨(rdL t_1.rows r_9).Id, (rdL t_1.rows r_9).Used, seq_6, (⟨(rdL t_1.rows r_9).Reply.Err, (rdL t_1.rows r_9).Reply.Num, (rdL t_1.rows r_9).Reply.Extra⟩ : T_api_Reply)⟩ : T_session_Row)) r_9).Seq, y_7⟩ : T_session_Row)).length c_4]) (by kernel_rfl) (by simp) ?_
    refine GoF.done (by kernel_rfl) ?_
    refine GoO.seq' c19_14e ?_
    refine GoO.region' (is := [0]) c19_15e (by kernel_rfl) ?_
    refine GoO.exec (is := [0]) (hs := [.p]) (rest := []) (ks := [8]) (env' := [(8, .bool true)]) (H' := [⟨1, b_2, [.int .u64 t_1.now, .int .u64 t_1.next, .slice A_3 ((t_1.rows.set r_9.toNat (⟨(rdL t_1.rows r_9).Id, (rdL t_1.rows r_9).Used, seq_6, (⟨(rdL t_1.rows r_9).Reply.Err, (rdL t_1.rows r_9).Reply.Num, (rdL t_1.rows r_9).Reply.Extra⟩ : T_api_Reply)⟩ : T_session_Row)).set r_9.toNat (⟨(rdL (t_1.rows.set r_9.toNat (⟨(rdL t_1.rows r_9).Id, (rdL t_1.rows r_9).Used, seq_6, (⟨(rdL t_1.rows r_9).Reply.Err, (rdL t_1.rows r_9).Reply.Num, (rdL t_1.rows r_9).Reply.Extra⟩ : T_api_Reply)⟩ : T_session_Row)) r_9).Id, (rdL (t_1.rows.set r_9.toNat (⟨(rdL t_1.rows r_9).Id, (rdL t_1.rows r_9).Used, seq_6, (⟨(rdL t_1.rows r_9).Reply.Err, (rdL t_1.rows r_9).Reply.Num, (rdL t_1.rows r_9).Reply.Extra⟩ : T_api_Reply)⟩ : T_session_Row)) r_9).Used, (rdL (t_1.rows.set r_9.toNat (⟨(rdL t_1.rows r_9).Id, (rdL t_1.rows r_9).Used, seq_6, (⟨(rdL t_1.rows r_9).Reply.Err, (rdL t_1.rows r_9).Reply.Num, (rdL t_1.rows r_9).Reply.Extra⟩ : T_api_Reply)⟩ : T_session_Row)) r_9).Seq, y_7⟩ : T_session_Row)).length c_4]⟩, ⟨40, b_8, [.int .i64 y_7.Err, .int .u64 y_7.Num, .int .u64 y_7.Extra]⟩]) (ps := []) (by kernel_rfl) trivial ?_
    refine GoO.regionEnd ?_
    exact GoO.ret' (h := c19_16e) (hs := []) (ps := []) (hk := [0]) (bk := [0]) Try.func19 (⟨A_3, c_4⟩ : Option Addr × Nat) (by kernel_rfl) trivial (by kernel_rfl) (by kernel_rfl)
theorem session_Table_End_ok (n : Nat) (t_1 : T_session_Table) (id_5 : Int) (seq_6 : Int) (y_7 : T_api_Reply) (b_2 : Nat) (A_3 : Option Addr) (c_4 : Nat) :
    Meets Try.prog 19 [.pointer (some ⟨b_2, 0, none⟩), .int .u64 id_5, .int .u64 seq_6, .agg ⟨[.int .i64 y_7.Err, .int .u64 y_7.Num, .int .u64 y_7.Extra]⟩] 2 [1, 2] [⟨1, b_2, [.int .u64 t_1.now, .int .u64 t_1.next, .slice A_3 t_1.rows.length c_4]⟩] [Ow 2 kT_session_Row A_3 c_4 t_1.rows] (session_Table_End.f n t_1 id_5 seq_6 y_7) (session_Table_End.R b_2 A_3 c_4) := by
  refine Meets.of (c := c19_0) (n := 48) Try.func19 (by kernel_rfl) (by kernel_rfl) (by kernel_rfl) fun w0 S0 => ?_
  unfold session_Table_End.f
  show GoO (session_Table_End.cx b_2 A_3 c_4 w0 S0) [(0, .pointer (some ⟨b_2, 0, none⟩)), (1, .int .u64 id_5), (2, .int .u64 seq_6), (3, .agg ⟨[.int .i64 y_7.Err, .int .u64 y_7.Num, .int .u64 y_7.Extra]⟩)] [⟨1, b_2, [.int .u64 t_1.now, .int .u64 t_1.next, .slice A_3 t_1.rows.length c_4]⟩] [Ow 2 kT_session_Row A_3 c_4 t_1.rows] [.code c19_0] _
  refine GoO.seq' c19_0e ?_
  refine GoO.region' (is := [0, 1]) c19_1e (by kernel_rfl) ?_
  refine OpTo.go (GoO.new rfl 40 (cs := [.int .i64 y_7.Err, .int .u64 y_7.Num, .int .u64 y_7.Extra]) (by kernel_rfl) _ (fun _ => rfl) (fun b_8 => ?_))
  refine GoO.exec (is := [1]) (hs := [.p]) (rest := []) (ks := [0, 1, 2, 7]) (env' := [(0, .pointer (some ⟨b_2, 0, none⟩)), (1, .int .u64 id_5), (2, .int .u64 seq_6), (7, .pointer (some ⟨b_8, 0, none⟩))]) (H' := [⟨40, b_8, [.int .i64 y_7.Err, .int .u64 y_7.Num, .int .u64 y_7.Extra]⟩, ⟨1, b_2, [.int .u64 t_1.now, .int .u64 t_1.next, .slice A_3 t_1.rows.length c_4]⟩]) (ps := []) (by kernel_rfl) trivial ?_
  refine GoO.regionEnd ?_
  refine GoO.seq' c19_2e ?_
  refine GoO.region' (is := [0, 1, 2, 3]) c19_3e (by kernel_rfl) ?_
  refine GoO.exec (is := [0, 1]) (hs := [.p, .p]) (rest := [2, 3]) (ks := [0, 2, 7, 10, 11]) (env' := [(0, .pointer (some ⟨b_2, 0, none⟩)), (2, .int .u64 seq_6), (7, .pointer (some ⟨b_8, 0, none⟩)), (10, .pointer (some ⟨b_2, 0, none⟩)), (11, .int .u64 id_5)]) (H' := [⟨40, b_8, [.int .i64 y_7.Err, .int .u64 y_7.Num, .int .u64 y_7.Extra]⟩, ⟨1, b_2, [.int .u64 t_1.now, .int .u64 t_1.next, .slice A_3 t_1.rows.length c_4]⟩]) (ps := []) (by kernel_rfl) trivial ?_
  refine OpTo.go (GoO.call rfl (by kernel_rfl) (by kernel_rfl) (session_Table_find_ok n t_1 id_5 b_2 A_3 c_4) [[0], [1], [2]] [] [(1, 1)] [(2, 0)] (hks := [0, 1]) (bks := [0]) (by kernel_rfl) (by kernel_rfl) (by kernel_rfl) (.inl rfl) rfl rfl (by kernel_rfl) (by kernel_rfl) _ (fun _ _ => rfl) _ _ (fun _ _ => rfl) (fun _ _ => rfl) (fun _ _ => by kernel_rfl) (fun _ _ => by kernel_rfl) (fun r_9 x_17 => ?_))
  refine GoO.shape (env' := [(0, .pointer (some ⟨b_2, 0, none⟩)), (2, .int .u64 seq_6), (7, .pointer (some ⟨b_8, 0, none⟩)), (10, .pointer (some ⟨b_2, 0, none⟩)), (11, .int .u64 id_5), (12, .int .i64 r_9)]) (H' := [⟨40, b_8, [.int .i64 y_7.Err, .int .u64 y_7.Num, .int .u64 y_7.Extra]⟩, ⟨1, b_2, [.int .u64 t_1.now, .int .u64 t_1.next, .slice A_3 t_1.rows.length c_4]⟩]) (B' := [Ow 2 kT_session_Row A_3 c_4 t_1.rows]) (ks := [0, 2, 7, 10, 11, 12]) (by kernel_rfl) (by kernel_rfl) (by kernel_rfl) ?_
  refine GoO.exec (is := [3]) (hs := [.p]) (rest := []) (ks := [0, 2, 7, 9]) (env' := [(0, .pointer (some ⟨b_2, 0, none⟩)), (2, .int .u64 seq_6), (7, .pointer (some ⟨b_8, 0, none⟩)), (9, .int .i64 r_9)]) (H' := [⟨40, b_8, [.int .i64 y_7.Err, .int .u64 y_7.Num, .int .u64 y_7.Extra]⟩, ⟨1, b_2, [.int .u64 t_1.now, .int .u64 t_1.next, .slice A_3 t_1.rows.length c_4]⟩]) (ps := []) (by kernel_rfl) trivial ?_
  refine GoO.regionEnd ?_
  refine GoO.seq' c19_4e ?_
  refine GoO.seq' c19_5e ?_
  refine GoO.region' (is := [0, 1, 2, 3, 4, 5, 6, 7, 8, 9, 10, 11, 12, 13, 14, 15, 16, 17, 18]) c19_6e (by kernel_rfl) ?_
  refine GoO.exec (is := [0, 1, 2]) (hs := [.p, .p, .p]) (rest := [3, 4, 5, 6, 7, 8, 9, 10, 11, 12, 13, 14, 15, 16, 17, 18]) (ks := [0, 2, 7, 9, 15]) (env' := [(0, .pointer (some ⟨b_2, 0, none⟩)), (2, .int .u64 seq_6), (7, .pointer (some ⟨b_8, 0, none⟩)), (9, .int .i64 r_9), (15, .bool (decide (r_9 < 0)))]) (H' := [⟨40, b_8, [.int .i64 y_7.Err, .int .u64 y_7.Num, .int .u64 y_7.Extra]⟩, ⟨1, b_2, [.int .u64 t_1.now, .int .u64 t_1.next, .slice A_3 t_1.rows.length c_4]⟩]) (ps := []) (by kernel_rfl) trivial ?_
  refine GoO.bsplit (t := 15) (by kernel_rfl) (fun h10 => ?_) (fun h10 => ?_)
  · refine GoO.exec (is := [3, 4, 5, 6, 7, 8, 9, 10, 11, 12, 13, 14, 15, 16, 17, 18]) (hs := [.p, .p, .p, .p, .p, .p, .p, .p, .p, .p, .p, .p, .p, .p, .p, .p]) (rest := []) (ks := [0, 2, 7, 9, 31]) (env' := [(0, .pointer (some ⟨b_2, 0, none⟩)), (2, .int .u64 seq_6), (7, .pointer (some ⟨b_8, 0, none⟩)), (9, .int .i64 r_9), (31, .bool true)]) (H' := [⟨40, b_8, [.int .i64 y_7.Err, .int .u64 y_7.Num, .int .u64 y_7.Extra]⟩, ⟨1, b_2, [.int .u64 t_1.now, .int .u64 t_1.next, .slice A_3 t_1.rows.length c_4]⟩]) (ps := []) (by kernel_rfl) trivial ?_
    refine GoO.regionEnd ?_
    exact GoO.sub (ks := [0, 2, 7, 9, 31]) (hk := [1, 0]) (bk := [0]) (by kernel_rfl) (by kernel_rfl) (by kernel_rfl) (session_Table_End_j0_ok n t_1 seq_6 y_7 r_9 b_2 A_3 c_4 b_8 w0 S0 true)
  · refine GoO.exec (is := [3, 4, 5, 6]) (hs := [.p, .p, .p, .p]) (rest := [7, 8, 9, 10, 11, 12, 13, 14, 15, 16, 17, 18]) (ks := [0, 2, 7, 9, 19]) (env' := [(0, .pointer (some ⟨b_2, 0, none⟩)), (2, .int .u64 seq_6), (7, .pointer (some ⟨b_8, 0, none⟩)), (9, .int .i64 r_9), (19, .bool (seq_6 == 0))]) (H' := [⟨40, b_8, [.int .i64 y_7.Err, .int .u64 y_7.Num, .int .u64 y_7.Extra]⟩, ⟨1, b_2, [.int .u64 t_1.now, .int .u64 t_1.next, .slice A_3 t_1.rows.length c_4]⟩]) (ps := []) (by kernel_rfl) trivial ?_
    refine GoO.bsplit (t := 19) (by kernel_rfl) (fun h11 => ?_) (fun h11 => ?_)
    · refine GoO.exec (is := [7, 8, 9, 10, 11, 12, 13, 14, 15, 16, 17, 18]) (hs := [.p, .p, .p, .p, .p, .p, .p, .p, .p, .p, .p, .p]) (rest := []) (ks := [0, 2, 7, 9, 31]) (env' := [(0, .pointer (some ⟨b_2, 0, none⟩)), (2, .int .u64 seq_6), (7, .pointer (some ⟨b_8, 0, none⟩)), (9, .int .i64 r_9), (31, .bool true)]) (H' := [⟨40, b_8, [.int .i64 y_7.Err, .int .u64 y_7.Num, .int .u64 y_7.Extra]⟩, ⟨1, b_2, [.int .u64 t_1.now, .int .u64 t_1.next, .slice A_3 t_1.rows.length c_4]⟩]) (ps := []) (by kernel_rfl) trivial ?_
      refine GoO.regionEnd ?_
      exact GoO.sub (ks := [0, 2, 7, 9, 31]) (hk := [1, 0]) (bk := [0]) (by kernel_rfl) (by kernel_rfl) (by kernel_rfl) (session_Table_End_j0_ok n t_1 seq_6 y_7 r_9 b_2 A_3 c_4 b_8 w0 S0 true)
    · refine GoO.exec (is := [7, 8, 9, 10, 11, 12]) (hs := [.p, .p, .p, .p, .b 1, .p]) (rest := [13, 14, 15, 16, 17, 18]) (ks := [0, 2, 7, 9, 19, 20, 24, 25]) (env' := [(0, .pointer (some ⟨b_2, 0, none⟩)), (2, .int .u64 seq_6), (7, .pointer (some ⟨b_8, 0, none⟩)), (9, .int .i64 r_9), (19, .bool false), (20, .int .u64 seq_6), (24, .slice A_3 t_1.rows.length c_4), (25, .int .i64 r_9)]) (H' := [⟨40, b_8, [.int .i64 y_7.Err, .int .u64 y_7.Num, .int .u64 y_7.Extra]⟩, ⟨1, b_2, [.int .u64 t_1.now, .int .u64 t_1.next, .slice A_3 t_1.rows.length c_4]⟩]) (ps := [b_2 = b_2]) (by kernel_rfl) (And.intro rfl trivial) ?_
      refine GoO.guard (fun h12 => ?_)
      refine OpTo.go (GoO.idx (kk := .i64) (e := 87) (K := kT_session_Row) (A := A_3) (c := c_4) (xs := t_1.rows) (iv := r_9) (j := 0) rfl (by kernel_rfl) (by kernel_rfl) (by kernel_rfl) (by kernel_rfl) rfl Reads.own rfl h12.1 h12.2 (by decide) rfl ?_)
      refine OpTo.go (GoO.fldE (K := kT_session_Row) (A := A_3) (c := c_4) (xs := t_1.rows) (iN := r_9.toNat) (off := 0) (n := 2) (j := 0) rfl (by kernel_rfl) (by kernel_rfl) rfl Reads.own (by first | exact idx_lt h12.1 h12.2 | (simp only [List.length_set]; exact idx_lt h12.1 h12.2)) (by decide) rfl ?_)
      refine OpTo.go (GoO.ldE' (K := kT_session_Row) (A := A_3) (c := c_4) (xs := t_1.rows) (iN := r_9.toNat) (off := 2) (j := 0) rfl (by kernel_rfl) rfl Reads.own (by first | exact idx_lt h12.1 h12.2 | (simp only [List.length_set]; exact idx_lt h12.1 h12.2)) (by decide) (Opn.flat _ _ _ _ _) (v := fun _ => .int .u64 ((rdL t_1.rows r_9).Seq)) (fun _ => by kernel_rfl) _ (fun _ => rfl) (fun _ => ?_))
      refine GoO.exec (is := [16, 17, 18]) (hs := [.p, .p, .p]) (rest := []) (ks := [0, 2, 7, 9, 31]) (env' := [(0, .pointer (some ⟨b_2, 0, none⟩)), (2, .int .u64 seq_6), (7, .pointer (some ⟨b_8, 0, none⟩)), (9, .int .i64 r_9), (31, .bool (seq_6 != (wu64 (((rdL t_1.rows r_9).Seq) + 1))))]) (H' := [⟨40, b_8, [.int .i64 y_7.Err, .int .u64 y_7.Num, .int .u64 y_7.Extra]⟩, ⟨1, b_2, [.int .u64 t_1.now, .int .u64 t_1.next, .slice A_3 t_1.rows.length c_4]⟩]) (ps := []) (by kernel_rfl) trivial ?_
      refine GoO.regionEnd ?_
      exact GoO.sub (ks := [0, 2, 7, 9, 31]) (hk := [1, 0]) (bk := [0]) (by kernel_rfl) (by kernel_rfl) (by kernel_rfl) (session_Table_End_j0_ok n t_1 seq_6 y_7 r_9 b_2 A_3 c_4 b_8 w0 S0 (seq_6 != (wu64 (((rdL t_1.rows r_9).Seq) + 1))))

/-! tontine/tontinelaw15.begun -/
noncomputable def c14_0 : Code := bodyOf Try.f14
noncomputable def c14_1 : Code := cdL c14_0
noncomputable def c14_2 : Code := cdR c14_0
noncomputable def c14_3 : Code := cdL c14_2
noncomputable def c14_4 : Code := cdR c14_2
noncomputable def c14_5 : Code := cdL c14_4
noncomputable def c14_6 : Code := cdR c14_4
noncomputable def c14_7 : Code := cdL c14_6
noncomputable def c14_8 : Code := cdR c14_6
noncomputable def c14_9 : Code := cdL c14_8
noncomputable def c14_10 : Code := cdR c14_8
noncomputable def c14_11 : Code := cdL c14_10
noncomputable def c14_12 : Code := cdR c14_10
noncomputable def c14_13 : Code := cdL c14_12
noncomputable def c14_14 : Code := cdR c14_12
noncomputable def c14_15 : Code := cdL c14_14
noncomputable def c14_16 : Code := cdR c14_14
noncomputable def r14_1 : Array Oper := cdO c14_1
noncomputable def r14_3 : Array Oper := cdO c14_3
noncomputable def r14_5 : Array Oper := cdO c14_5
noncomputable def r14_7 : Array Oper := cdO c14_7
noncomputable def r14_9 : Array Oper := cdO c14_9
noncomputable def r14_11 : Array Oper := cdO c14_11
noncomputable def r14_13 : Array Oper := cdO c14_13
noncomputable def r14_15 : Array Oper := cdO c14_15
theorem c14_0e : c14_0 = .seq c14_1 c14_2 := by kernel_rfl
theorem c14_1e : c14_1 = .region 0 r14_1 false := by kernel_rfl
theorem c14_2e : c14_2 = .seq c14_3 c14_4 := by kernel_rfl
theorem c14_3e : c14_3 = .region 1 r14_3 false := by kernel_rfl
theorem c14_4e : c14_4 = .seq c14_5 c14_6 := by kernel_rfl
theorem c14_5e : c14_5 = .region 2 r14_5 false := by kernel_rfl
theorem c14_6e : c14_6 = .seq c14_7 c14_8 := by kernel_rfl
theorem c14_7e : c14_7 = .region 3 r14_7 false := by kernel_rfl
theorem c14_8e : c14_8 = .seq c14_9 c14_10 := by kernel_rfl
theorem c14_9e : c14_9 = .region 4 r14_9 false := by kernel_rfl
theorem c14_10e : c14_10 = .seq c14_11 c14_12 := by kernel_rfl
theorem c14_11e : c14_11 = .region 5 r14_11 false := by kernel_rfl
theorem c14_12e : c14_12 = .seq c14_13 c14_14 := by kernel_rfl
theorem c14_13e : c14_13 = .region 6 r14_13 false := by kernel_rfl
theorem c14_14e : c14_14 = .seq c14_15 c14_16 := by kernel_rfl
theorem c14_15e : c14_15 = .region 7 r14_15 false := by kernel_rfl
theorem c14_16e : c14_16 = .ret := by kernel_rfl
noncomputable def tontinelaw15_begun.R : Pst Bool where
  ε := Unit
  v := fun r x => .bool r
  H := fun r x => []
  B := fun r x => []
noncomputable def tontinelaw15_begun.cx (w0 : World) (S0 : Fam) : Cx Bool := ⟨Try.prog, 14, Try.f14, 64, w0, S0, [], 0, tontinelaw15_begun.R⟩
theorem tontinelaw15_begun_ok (n : Nat) :
    Meets Try.prog 14 [] 0 [] [] [] (tontinelaw15_begun.f n) (tontinelaw15_begun.R) := by
  refine Meets.of (c := c14_0) (n := 64) Try.func14 (by kernel_rfl) (by kernel_rfl) (by kernel_rfl) fun w0 S0 => ?_
  unfold tontinelaw15_begun.f
  show GoO (tontinelaw15_begun.cx w0 S0) [] [] [] [.code c14_0] _
  refine GoO.seq' c14_0e ?_
  refine GoO.region' (is := [0]) c14_1e (by kernel_rfl) ?_
  refine GoO.exec (is := [0]) (hs := [.p]) (rest := []) (ks := []) (env' := []) (H' := []) (ps := []) (by kernel_rfl) trivial ?_
  refine GoO.regionEnd ?_
  refine GoO.seq' c14_2e ?_
  refine GoO.region' (is := [0, 1]) c14_3e (by kernel_rfl) ?_
  refine OpTo.go (GoO.call rfl (by kernel_rfl) (by kernel_rfl) (session_New_ok n) [[0]] [(40, 1), (41, 2)] [] [] (hks := []) (bks := []) (by kernel_rfl) (by kernel_rfl) (by kernel_rfl) (.inl rfl) rfl rfl (by kernel_rfl) (by kernel_rfl) _ (fun _ _ => rfl) _ _ (fun _ _ => rfl) (fun _ _ => rfl) (fun _ _ => by kernel_rfl) (fun _ _ => by kernel_rfl) (fun r_1 x_34 => ?_))
  obtain ⟨b_2, A_3, c_4⟩ := x_34
  refine GoO.shape (env' := [(11, .pointer (some ⟨b_2, 0, none⟩))]) (H' := [⟨40, b_2, [.int .u64 r_1.now, .int .u64 r_1.next, .slice A_3 r_1.rows.length c_4]⟩]) (B' := [Ow 41 kT_session_Row A_3 c_4 r_1.rows]) (ks := [11]) (by kernel_rfl) (by kernel_rfl) (by kernel_rfl) ?_
  refine GoO.exec (is := [1]) (hs := [.p]) (rest := []) (ks := [1]) (env' := [(1, .pointer (some ⟨b_2, 0, none⟩))]) (H' := [⟨40, b_2, [.int .u64 r_1.now, .int .u64 r_1.next, .slice A_3 r_1.rows.length c_4]⟩]) (ps := []) (by kernel_rfl) trivial ?_
  refine GoO.regionEnd ?_
  refine GoO.seq' c14_4e ?_
  refine GoO.region' (is := [0, 1, 2, 3, 4, 5, 6]) c14_5e (by kernel_rfl) ?_
  refine GoO.exec (is := [0]) (hs := [.p]) (rest := [1, 2, 3, 4, 5, 6]) (ks := [1, 13]) (env' := [(1, .pointer (some ⟨b_2, 0, none⟩)), (13, .pointer (some ⟨b_2, 0, none⟩))]) (H' := [⟨40, b_2, [.int .u64 r_1.now, .int .u64 r_1.next, .slice A_3 r_1.rows.length c_4]⟩]) (ps := []) (by kernel_rfl) trivial ?_
  refine OpTo.go (GoO.call rfl (by kernel_rfl) (by kernel_rfl) (session_Table_Register_ok n r_1 b_2 A_3 c_4) [[0], [40], [41]] [(40, 1), (41, 2)] [(1, 0)] [(2, 0)] (hks := []) (bks := []) (by kernel_rfl) (by kernel_rfl) (by kernel_rfl) (.inl rfl) rfl rfl (by kernel_rfl) (by kernel_rfl) _ (fun _ _ => rfl) _ _ (fun _ _ => rfl) (fun _ _ => rfl) (fun _ _ => by kernel_rfl) (fun _ _ => by kernel_rfl) (fun r_5 x_33 => ?_))
  obtain ⟨A_6, c_7⟩ := x_33
  refine GoO.shape (env' := [(1, .pointer (some ⟨b_2, 0, none⟩)), (13, .pointer (some ⟨b_2, 0, none⟩)), (14, .tuple ⟨[.int .u64 r_5.1, .int .i64 r_5.2.1]⟩)]) (H' := [⟨40, b_2, [.int .u64 r_5.2.2.now, .int .u64 r_5.2.2.next, .slice A_6 r_5.2.2.rows.length c_7]⟩]) (B' := [Ow 41 kT_session_Row A_6 c_7 r_5.2.2.rows]) (ks := [1, 13, 14]) (by kernel_rfl) (by kernel_rfl) (by kernel_rfl) ?_
  refine GoO.exec (is := [2, 3, 4, 5, 6]) (hs := [.p, .p, .p, .p, .p]) (rest := []) (ks := [1, 2, 3]) (env' := [(1, .pointer (some ⟨b_2, 0, none⟩)), (2, .int .u64 r_5.1), (3, .int .i64 r_5.2.1)]) (H' := [⟨40, b_2, [.int .u64 r_5.2.2.now, .int .u64 r_5.2.2.next, .slice A_6 r_5.2.2.rows.length c_7]⟩]) (ps := []) (by kernel_rfl) trivial ?_
  refine GoO.regionEnd ?_
  refine GoO.seq' c14_6e ?_
  refine GoO.region' (is := [0, 1, 2, 3, 4, 5, 6, 7, 8]) c14_7e (by kernel_rfl) ?_
  refine GoO.exec (is := [0, 1]) (hs := [.p, .p]) (rest := [2, 3, 4, 5, 6, 7, 8]) (ks := [1, 2, 3, 18, 19]) (env' := [(1, .pointer (some ⟨b_2, 0, none⟩)), (2, .int .u64 r_5.1), (3, .int .i64 r_5.2.1), (18, .pointer (some ⟨b_2, 0, none⟩)), (19, .int .u64 r_5.1)]) (H' := [⟨40, b_2, [.int .u64 r_5.2.2.now, .int .u64 r_5.2.2.next, .slice A_6 r_5.2.2.rows.length c_7]⟩]) (ps := []) (by kernel_rfl) trivial ?_
  refine OpTo.go (GoO.call rfl (by kernel_rfl) (by kernel_rfl) (session_Table_Begin_ok n r_5.2.2 r_5.1 1 b_2 A_6 c_7) [[0], [40], [41]] [(40, 1), (41, 2)] [(1, 0)] [(2, 0)] (hks := []) (bks := []) (by kernel_rfl) (by kernel_rfl) (by kernel_rfl) (.inl rfl) rfl rfl (by kernel_rfl) (by kernel_rfl) _ (fun _ _ => rfl) _ _ (fun _ _ => rfl) (fun _ _ => rfl) (fun _ _ => by kernel_rfl) (fun _ _ => by kernel_rfl) (fun r_8 x_32 => ?_))
  obtain ⟨A_9, c_10⟩ := x_32
  refine GoO.shape (env' := [(1, .pointer (some ⟨b_2, 0, none⟩)), (2, .int .u64 r_5.1), (3, .int .i64 r_5.2.1), (18, .pointer (some ⟨b_2, 0, none⟩)), (19, .int .u64 r_5.1), (20, .tuple ⟨[.agg ⟨[.int .i64 r_8.1.Err, .int .u64 r_8.1.Num, .int .u64 r_8.1.Extra]⟩, .bool r_8.2.1]⟩)]) (H' := [⟨40, b_2, [.int .u64 r_8.2.2.now, .int .u64 r_8.2.2.next, .slice A_9 r_8.2.2.rows.length c_10]⟩]) (B' := [Ow 41 kT_session_Row A_9 c_10 r_8.2.2.rows]) (ks := [1, 2, 3, 18, 19, 20]) (by kernel_rfl) (by kernel_rfl) (by kernel_rfl) ?_
  refine GoO.exec (is := [3, 4, 5]) (hs := [.p, .p, .p]) (rest := [6, 7, 8]) (ks := [1, 2, 3, 21, 22]) (env' := [(1, .pointer (some ⟨b_2, 0, none⟩)), (2, .int .u64 r_5.1), (3, .int .i64 r_5.2.1), (21, .agg ⟨[.int .i64 r_8.1.Err, .int .u64 r_8.1.Num, .int .u64 r_8.1.Extra]⟩), (22, .bool r_8.2.1)]) (H' := [⟨40, b_2, [.int .u64 r_8.2.2.now, .int .u64 r_8.2.2.next, .slice A_9 r_8.2.2.rows.length c_10]⟩]) (ps := []) (by kernel_rfl) trivial ?_
  refine OpTo.go (GoO.new rfl 42 (cs := [.int .i64 0, .int .u64 0, .int .u64 0]) (by kernel_rfl) _ (fun _ => rfl) (fun b_11 => ?_))
  refine GoO.exec (is := [7, 8]) (hs := [.b 0, .p]) (rest := []) (ks := [1, 2, 3, 5]) (env' := [(1, .pointer (some ⟨b_2, 0, none⟩)), (2, .int .u64 r_5.1), (3, .int .i64 r_5.2.1), (5, .bool r_8.2.1)]) (H' := [⟨42, b_11, [.int .i64 r_8.1.Err, .int .u64 r_8.1.Num, .int .u64 r_8.1.Extra]⟩, ⟨40, b_2, [.int .u64 r_8.2.2.now, .int .u64 r_8.2.2.next, .slice A_9 r_8.2.2.rows.length c_10]⟩]) (ps := [b_11 = b_11]) (by kernel_rfl) (And.intro rfl trivial) ?_
  refine GoO.regionEnd ?_
  refine GoO.seq' c14_8e ?_
  refine GoO.region' (is := [0, 1, 2, 3, 4]) c14_9e (by kernel_rfl) ?_
  refine GoO.exec (is := [0, 1, 2]) (hs := [.p, .p, .p]) (rest := [3, 4]) (ks := [1, 2, 3, 5, 23, 24, 25]) (env' := [(1, .pointer (some ⟨b_2, 0, none⟩)), (2, .int .u64 r_5.1), (3, .int .i64 r_5.2.1), (5, .bool r_8.2.1), (23, .pointer (some ⟨b_2, 0, none⟩)), (24, .int .u64 r_5.1), (25, .agg ⟨[.int .i64 0, .int .u64 7, .int .u64 0]⟩)]) (H' := [⟨42, b_11, [.int .i64 r_8.1.Err, .int .u64 r_8.1.Num, .int .u64 r_8.1.Extra]⟩, ⟨40, b_2, [.int .u64 r_8.2.2.now, .int .u64 r_8.2.2.next, .slice A_9 r_8.2.2.rows.length c_10]⟩]) (ps := []) (by kernel_rfl) trivial ?_
  refine OpTo.go (GoO.call rfl (by kernel_rfl) (by kernel_rfl) (session_Table_End_ok n r_8.2.2 r_5.1 1 (⟨0, 7, 0⟩ : T_api_Reply) b_2 A_9 c_10) [[0], [40], [41]] [(40, 1), (41, 2)] [(1, 1)] [(2, 0)] (hks := [0]) (bks := []) (by kernel_rfl) (by kernel_rfl) (by kernel_rfl) (.inl rfl) rfl rfl (by kernel_rfl) (by kernel_rfl) _ (fun _ _ => rfl) _ _ (fun _ _ => rfl) (fun _ _ => rfl) (fun _ _ => by kernel_rfl) (fun _ _ => by kernel_rfl) (fun r_12 x_31 => ?_))
  obtain ⟨A_13, c_14⟩ := x_31
  refine GoO.shape (env' := [(1, .pointer (some ⟨b_2, 0, none⟩)), (2, .int .u64 r_5.1), (3, .int .i64 r_5.2.1), (5, .bool r_8.2.1), (23, .pointer (some ⟨b_2, 0, none⟩)), (24, .int .u64 r_5.1), (25, .agg ⟨[.int .i64 0, .int .u64 7, .int .u64 0]⟩), (26, .bool r_12.1)]) (H' := [⟨40, b_2, [.int .u64 r_12.2.now, .int .u64 r_12.2.next, .slice A_13 r_12.2.rows.length c_14]⟩, ⟨42, b_11, [.int .i64 r_8.1.Err, .int .u64 r_8.1.Num, .int .u64 r_8.1.Extra]⟩]) (B' := [Ow 41 kT_session_Row A_13 c_14 r_12.2.rows]) (ks := [1, 2, 3, 5, 23, 24, 25, 26]) (by kernel_rfl) (by kernel_rfl) (by kernel_rfl) ?_
  refine GoO.exec (is := [4]) (hs := [.p]) (rest := []) (ks := [1, 2, 3, 5, 6]) (env' := [(1, .pointer (some ⟨b_2, 0, none⟩)), (2, .int .u64 r_5.1), (3, .int .i64 r_5.2.1), (5, .bool r_8.2.1), (6, .bool r_12.1)]) (H' := [⟨40, b_2, [.int .u64 r_12.2.now, .int .u64 r_12.2.next, .slice A_13 r_12.2.rows.length c_14]⟩, ⟨42, b_11, [.int .i64 r_8.1.Err, .int .u64 r_8.1.Num, .int .u64 r_8.1.Extra]⟩]) (ps := []) (by kernel_rfl) trivial ?_
  refine GoO.regionEnd ?_
  refine GoO.seq' c14_10e ?_
  refine GoO.region' (is := [0, 1, 2, 3, 4, 5, 6, 7, 8]) c14_11e (by kernel_rfl) ?_
  refine GoO.exec (is := [0, 1]) (hs := [.p, .p]) (rest := [2, 3, 4, 5, 6, 7, 8]) (ks := [1, 2, 3, 5, 6, 28, 29]) (env' := [(1, .pointer (some ⟨b_2, 0, none⟩)), (2, .int .u64 r_5.1), (3, .int .i64 r_5.2.1), (5, .bool r_8.2.1), (6, .bool r_12.1), (28, .pointer (some ⟨b_2, 0, none⟩)), (29, .int .u64 r_5.1)]) (H' := [⟨40, b_2, [.int .u64 r_12.2.now, .int .u64 r_12.2.next, .slice A_13 r_12.2.rows.length c_14]⟩, ⟨42, b_11, [.int .i64 r_8.1.Err, .int .u64 r_8.1.Num, .int .u64 r_8.1.Extra]⟩]) (ps := []) (by kernel_rfl) trivial ?_
  refine OpTo.go (GoO.call rfl (by kernel_rfl) (by kernel_rfl) (session_Table_Begin_ok n r_12.2 r_5.1 1 b_2 A_13 c_14) [[0], [40], [41]] [(40, 1), (41, 2)] [(1, 0)] [(2, 0)] (hks := [1]) (bks := []) (by kernel_rfl) (by kernel_rfl) (by kernel_rfl) (.inl rfl) rfl rfl (by kernel_rfl) (by kernel_rfl) _ (fun _ _ => rfl) _ _ (fun _ _ => rfl) (fun _ _ => rfl) (fun _ _ => by kernel_rfl) (fun _ _ => by kernel_rfl) (fun r_15 x_30 => ?_))
  obtain ⟨A_16, c_17⟩ := x_30
  refine GoO.shape (env' := [(1, .pointer (some ⟨b_2, 0, none⟩)), (2, .int .u64 r_5.1), (3, .int .i64 r_5.2.1), (5, .bool r_8.2.1), (6, .bool r_12.1), (28, .pointer (some ⟨b_2, 0, none⟩)), (29, .int .u64 r_5.1), (30, .tuple ⟨[.agg ⟨[.int .i64 r_15.1.Err, .int .u64 r_15.1.Num, .int .u64 r_15.1.Extra]⟩, .bool r_15.2.1]⟩)]) (H' := [⟨40, b_2, [.int .u64 r_15.2.2.now, .int .u64 r_15.2.2.next, .slice A_16 r_15.2.2.rows.length c_17]⟩, ⟨42, b_11, [.int .i64 r_8.1.Err, .int .u64 r_8.1.Num, .int .u64 r_8.1.Extra]⟩]) (B' := [Ow 41 kT_session_Row A_16 c_17 r_15.2.2.rows]) (ks := [1, 2, 3, 5, 6, 28, 29, 30]) (by kernel_rfl) (by kernel_rfl) (by kernel_rfl) ?_
  refine GoO.exec (is := [3, 4, 5]) (hs := [.p, .p, .p]) (rest := [6, 7, 8]) (ks := [1, 2, 3, 5, 6, 31, 32]) (env' := [(1, .pointer (some ⟨b_2, 0, none⟩)), (2, .int .u64 r_5.1), (3, .int .i64 r_5.2.1), (5, .bool r_8.2.1), (6, .bool r_12.1), (31, .agg ⟨[.int .i64 r_15.1.Err, .int .u64 r_15.1.Num, .int .u64 r_15.1.Extra]⟩), (32, .bool r_15.2.1)]) (H' := [⟨40, b_2, [.int .u64 r_15.2.2.now, .int .u64 r_15.2.2.next, .slice A_16 r_15.2.2.rows.length c_17]⟩, ⟨42, b_11, [.int .i64 r_8.1.Err, .int .u64 r_8.1.Num, .int .u64 r_8.1.Extra]⟩]) (ps := []) (by kernel_rfl) trivial ?_
  refine OpTo.go (GoO.new rfl 43 (cs := [.int .i64 0, .int .u64 0, .int .u64 0]) (by kernel_rfl) _ (fun _ => rfl) (fun b_18 => ?_))
  refine GoO.exec (is := [7, 8]) (hs := [.b 0, .p]) (rest := []) (ks := [1, 2, 3, 5, 6, 7, 8]) (env' := [(1, .pointer (some ⟨b_2, 0, none⟩)), (2, .int .u64 r_5.1), (3, .int .i64 r_5.2.1), (5, .bool r_8.2.1), (6, .bool r_12.1), (7, .pointer (some ⟨b_18, 0, none⟩)), (8, .bool r_15.2.1)]) (H' := [⟨43, b_18, [.int .i64 r_15.1.Err, .int .u64 r_15.1.Num, .int .u64 r_15.1.Extra]⟩, ⟨40, b_2, [.int .u64 r_15.2.2.now, .int .u64 r_15.2.2.next, .slice A_16 r_15.2.2.rows.length c_17]⟩, ⟨42, b_11, [.int .i64 r_8.1.Err, .int .u64 r_8.1.Num, .int .u64 r_8.1.Extra]⟩]) (ps := [b_18 = b_18]) (by kernel_rfl) (And.intro rfl trivial) ?_
  refine GoO.regionEnd ?_
  refine GoO.seq' c14_12e ?_
  refine GoO.region' (is := [0, 1, 2, 3, 4, 5, 6, 7]) c14_13e (by kernel_rfl) ?_
  refine GoO.exec (is := [0]) (hs := [.p]) (rest := [1, 2, 3, 4, 5, 6, 7]) (ks := [2, 3, 5, 6, 7, 8, 34]) (env' := [(2, .int .u64 r_5.1), (3, .int .i64 r_5.2.1), (5, .bool r_8.2.1), (6, .bool r_12.1), (7, .pointer (some ⟨b_18, 0, none⟩)), (8, .bool r_15.2.1), (34, .pointer (some ⟨b_2, 0, none⟩))]) (H' := [⟨43, b_18, [.int .i64 r_15.1.Err, .int .u64 r_15.1.Num, .int .u64 r_15.1.Extra]⟩, ⟨40, b_2, [.int .u64 r_15.2.2.now, .int .u64 r_15.2.2.next, .slice A_16 r_15.2.2.rows.length c_17]⟩, ⟨42, b_11, [.int .i64 r_8.1.Err, .int .u64 r_8.1.Num, .int .u64 r_8.1.Extra]⟩]) (ps := []) (by kernel_rfl) trivial ?_
  refine OpTo.go (GoO.call rfl (by kernel_rfl) (by kernel_rfl) (session_Table_Begin_ok n r_15.2.2 9 1 b_2 A_16 c_17) [[0], [40], [41]] [(40, 1), (41, 2)] [(1, 1)] [(2, 0)] (hks := [0, 2]) (bks := []) (by kernel_rfl) (by kernel_rfl) (by kernel_rfl) (.inl rfl) rfl rfl (by kernel_rfl) (by kernel_rfl) _ (fun _ _ => rfl) _ _ (fun _ _ => rfl) (fun _ _ => rfl) (fun _ _ => by kernel_rfl) (fun _ _ => by kernel_rfl) (fun r_19 x_29 => ?_))
  obtain ⟨A_20, c_21⟩ := x_29
  refine GoO.shape (env' := [(2, .int .u64 r_5.1), (3, .int .i64 r_5.2.1), (5, .bool r_8.2.1), (6, .bool r_12.1), (7, .pointer (some ⟨b_18, 0, none⟩)), (8, .bool r_15.2.1), (34, .pointer (some ⟨b_2, 0, none⟩)), (35, .tuple ⟨[.agg ⟨[.int .i64 r_19.1.Err, .int .u64 r_19.1.Num, .int .u64 r_19.1.Extra]⟩, .bool r_19.2.1]⟩)]) (H' := [⟨40, b_2, [.int .u64 r_19.2.2.now, .int .u64 r_19.2.2.next, .slice A_20 r_19.2.2.rows.length c_21]⟩, ⟨43, b_18, [.int .i64 r_15.1.Err, .int .u64 r_15.1.Num, .int .u64 r_15.1.Extra]⟩, ⟨42, b_11, [.int .i64 r_8.1.Err, .int .u64 r_8.1.Num, .int .u64 r_8.1.Extra]⟩]) (B' := [Ow 41 kT_session_Row A_20 c_21 r_19.2.2.rows]) (ks := [2, 3, 5, 6, 7, 8, 34, 35]) (by kernel_rfl) (by kernel_rfl) (by kernel_rfl) ?_
  refine GoO.exec (is := [2, 3, 4]) (hs := [.p, .p, .p]) (rest := [5, 6, 7]) (ks := [2, 3, 5, 6, 7, 8, 36, 37]) (env' := [(2, .int .u64 r_5.1), (3, .int .i64 r_5.2.1), (5, .bool r_8.2.1), (6, .bool r_12.1), (7, .pointer (some ⟨b_18, 0, none⟩)), (8, .bool r_15.2.1), (36, .agg ⟨[.int .i64 r_19.1.Err, .int .u64 r_19.1.Num, .int .u64 r_19.1.Extra]⟩), (37, .bool r_19.2.1)]) (H' := [⟨40, b_2, [.int .u64 r_19.2.2.now, .int .u64 r_19.2.2.next, .slice A_20 r_19.2.2.rows.length c_21]⟩, ⟨43, b_18, [.int .i64 r_15.1.Err, .int .u64 r_15.1.Num, .int .u64 r_15.1.Extra]⟩, ⟨42, b_11, [.int .i64 r_8.1.Err, .int .u64 r_8.1.Num, .int .u64 r_8.1.Extra]⟩]) (ps := []) (by kernel_rfl) trivial ?_
  refine OpTo.go (GoO.new rfl 44 (cs := [.int .i64 0, .int .u64 0, .int .u64 0]) (by kernel_rfl) _ (fun _ => rfl) (fun b_22 => ?_))
  refine GoO.exec (is := [6, 7]) (hs := [.b 0, .p]) (rest := []) (ks := [2, 3, 5, 6, 7, 8, 9]) (env' := [(2, .int .u64 r_5.1), (3, .int .i64 r_5.2.1), (5, .bool r_8.2.1), (6, .bool r_12.1), (7, .pointer (some ⟨b_18, 0, none⟩)), (8, .bool r_15.2.1), (9, .pointer (some ⟨b_22, 0, none⟩))]) (H' := [⟨44, b_22, [.int .i64 r_19.1.Err, .int .u64 r_19.1.Num, .int .u64 r_19.1.Extra]⟩, ⟨40, b_2, [.int .u64 r_19.2.2.now, .int .u64 r_19.2.2.next, .slice A_20 r_19.2.2.rows.length c_21]⟩, ⟨43, b_18, [.int .i64 r_15.1.Err, .int .u64 r_15.1.Num, .int .u64 r_15.1.Extra]⟩, ⟨42, b_11, [.int .i64 r_8.1.Err, .int .u64 r_8.1.Num, .int .u64 r_8.1.Extra]⟩]) (ps := [b_22 = b_22]) (by kernel_rfl) (And.intro rfl trivial) ?_
  refine GoO.regionEnd ?_
  refine GoO.seq' c14_14e ?_
  refine GoO.region' (is := [0, 1, 2, 3, 4, 5, 6, 7, 8, 9, 10, 11, 12, 13, 14, 15, 16, 17, 18, 19, 20, 21, 22, 23, 24, 25, 26]) c14_15e (by kernel_rfl) ?_
  refine GoO.exec (is := [0, 1, 2]) (hs := [.p, .p, .p]) (rest := [3, 4, 5, 6, 7, 8, 9, 10, 11, 12, 13, 14, 15, 16, 17, 18, 19, 20, 21, 22, 23, 24, 25, 26]) (ks := [2, 5, 6, 7, 8, 9, 40]) (env' := [(2, .int .u64 r_5.1), (5, .bool r_8.2.1), (6, .bool r_12.1), (7, .pointer (some ⟨b_18, 0, none⟩)), (8, .bool r_15.2.1), (9, .pointer (some ⟨b_22, 0, none⟩)), (40, .bool (r_5.2.1 == 0))]) (H' := [⟨44, b_22, [.int .i64 r_19.1.Err, .int .u64 r_19.1.Num, .int .u64 r_19.1.Extra]⟩, ⟨40, b_2, [.int .u64 r_19.2.2.now, .int .u64 r_19.2.2.next, .slice A_20 r_19.2.2.rows.length c_21]⟩, ⟨43, b_18, [.int .i64 r_15.1.Err, .int .u64 r_15.1.Num, .int .u64 r_15.1.Extra]⟩, ⟨42, b_11, [.int .i64 r_8.1.Err, .int .u64 r_8.1.Num, .int .u64 r_8.1.Extra]⟩]) (ps := []) (by kernel_rfl) trivial ?_
  refine GoO.bsplit (t := 40) (by kernel_rfl) (fun h23 => ?_) (fun h23 => ?_)
  · refine GoO.exec (is := [3, 4, 5, 6]) (hs := [.p, .p, .p, .p]) (rest := [7, 8, 9, 10, 11, 12, 13, 14, 15, 16, 17, 18, 19, 20, 21, 22, 23, 24, 25, 26]) (ks := [5, 6, 7, 8, 9, 44]) (env' := [(5, .bool r_8.2.1), (6, .bool r_12.1), (7, .pointer (some ⟨b_18, 0, none⟩)), (8, .bool r_15.2.1), (9, .pointer (some ⟨b_22, 0, none⟩)), (44, .bool (r_5.1 == 1))]) (H' := [⟨44, b_22, [.int .i64 r_19.1.Err, .int .u64 r_19.1.Num, .int .u64 r_19.1.Extra]⟩, ⟨40, b_2, [.int .u64 r_19.2.2.now, .int .u64 r_19.2.2.next, .slice A_20 r_19.2.2.rows.length c_21]⟩, ⟨43, b_18, [.int .i64 r_15.1.Err, .int .u64 r_15.1.Num, .int .u64 r_15.1.Extra]⟩, ⟨42, b_11, [.int .i64 r_8.1.Err, .int .u64 r_8.1.Num, .int .u64 r_8.1.Extra]⟩]) (ps := []) (by kernel_rfl) trivial ?_
    refine GoO.bsplit (t := 44) (by kernel_rfl) (fun h24 => ?_) (fun h24 => ?_)
    · refine GoO.exec (is := [7, 8, 9]) (hs := [.p, .p, .p]) (rest := [10, 11, 12, 13, 14, 15, 16, 17, 18, 19, 20, 21, 22, 23, 24, 25, 26]) (ks := [6, 7, 8, 9, 47]) (env' := [(6, .bool r_12.1), (7, .pointer (some ⟨b_18, 0, none⟩)), (8, .bool r_15.2.1), (9, .pointer (some ⟨b_22, 0, none⟩)), (47, .bool r_8.2.1)]) (H' := [⟨44, b_22, [.int .i64 r_19.1.Err, .int .u64 r_19.1.Num, .int .u64 r_19.1.Extra]⟩, ⟨40, b_2, [.int .u64 r_19.2.2.now, .int .u64 r_19.2.2.next, .slice A_20 r_19.2.2.rows.length c_21]⟩, ⟨43, b_18, [.int .i64 r_15.1.Err, .int .u64 r_15.1.Num, .int .u64 r_15.1.Extra]⟩, ⟨42, b_11, [.int .i64 r_8.1.Err, .int .u64 r_8.1.Num, .int .u64 r_8.1.Extra]⟩]) (ps := []) (by kernel_rfl) trivial ?_
      refine GoO.bsplit (t := 47) (by kernel_rfl) (fun h25 => ?_) (fun h25 => ?_)
      · refine GoO.exec (is := [10, 11, 12]) (hs := [.p, .p, .p]) (rest := [13, 14, 15, 16, 17, 18, 19, 20, 21, 22, 23, 24, 25, 26]) (ks := [7, 8, 9, 50]) (env' := [(7, .pointer (some ⟨b_18, 0, none⟩)), (8, .bool r_15.2.1), (9, .pointer (some ⟨b_22, 0, none⟩)), (50, .bool r_12.1)]) (H' := [⟨44, b_22, [.int .i64 r_19.1.Err, .int .u64 r_19.1.Num, .int .u64 r_19.1.Extra]⟩, ⟨40, b_2, [.int .u64 r_19.2.2.now, .int .u64 r_19.2.2.next, .slice A_20 r_19.2.2.rows.length c_21]⟩, ⟨43, b_18, [.int .i64 r_15.1.Err, .int .u64 r_15.1.Num, .int .u64 r_15.1.Extra]⟩, ⟨42, b_11, [.int .i64 r_8.1.Err, .int .u64 r_8.1.Num, .int .u64 r_8.1.Extra]⟩]) (ps := []) (by kernel_rfl) trivial ?_
        refine GoO.bsplit (t := 50) (by kernel_rfl) (fun h26 => ?_) (fun h26 => ?_)
        · refine GoO.exec (is := [13, 14, 15, 16]) (hs := [.p, .p, .p, .p]) (rest := [17, 18, 19, 20, 21, 22, 23, 24, 25, 26]) (ks := [7, 9, 54]) (env' := [(7, .pointer (some ⟨b_18, 0, none⟩)), (9, .pointer (some ⟨b_22, 0, none⟩)), (54, .bool (!r_15.2.1))]) (H' := [⟨44, b_22, [.int .i64 r_19.1.Err, .int .u64 r_19.1.Num, .int .u64 r_19.1.Extra]⟩, ⟨40, b_2, [.int .u64 r_19.2.2.now, .int .u64 r_19.2.2.next, .slice A_20 r_19.2.2.rows.length c_21]⟩, ⟨43, b_18, [.int .i64 r_15.1.Err, .int .u64 r_15.1.Num, .int .u64 r_15.1.Extra]⟩, ⟨42, b_11, [.int .i64 r_8.1.Err, .int .u64 r_8.1.Num, .int .u64 r_8.1.Extra]⟩]) (ps := []) (by kernel_rfl) trivial ?_
          refine GoO.bsplit (t := 54) (by kernel_rfl) (fun h27 => ?_) (fun h27 => ?_)
          · refine GoO.exec (is := [17, 18, 19, 20, 21]) (hs := [.p, .b 2, .p, .p, .p]) (rest := [22, 23, 24, 25, 26]) (ks := [9, 59]) (env' := [(9, .pointer (some ⟨b_22, 0, none⟩)), (59, .bool (r_15.1.Num == 7))]) (H' := [⟨44, b_22, [.int .i64 r_19.1.Err, .int .u64 r_19.1.Num, .int .u64 r_19.1.Extra]⟩, ⟨40, b_2, [.int .u64 r_19.2.2.now, .int .u64 r_19.2.2.next, .slice A_20 r_19.2.2.rows.length c_21]⟩, ⟨43, b_18, [.int .i64 r_15.1.Err, .int .u64 r_15.1.Num, .int .u64 r_15.1.Extra]⟩, ⟨42, b_11, [.int .i64 r_8.1.Err, .int .u64 r_8.1.Num, .int .u64 r_8.1.Extra]⟩]) (ps := [b_18 = b_18]) (by kernel_rfl) (And.intro rfl trivial) ?_
            refine GoO.bsplit (t := 59) (by kernel_rfl) (fun h28 => ?_) (fun h28 => ?_)
            · refine GoO.exec (is := [22, 23, 24, 25, 26]) (hs := [.p, .b 0, .p, .p, .p]) (rest := []) (ks := [0]) (env' := [(0, .bool (r_19.1.Err == 40))]) (H' := [⟨44, b_22, [.int .i64 r_19.1.Err, .int .u64 r_19.1.Num, .int .u64 r_19.1.Extra]⟩, ⟨40, b_2, [.int .u64 r_19.2.2.now, .int .u64 r_19.2.2.next, .slice A_20 r_19.2.2.rows.length c_21]⟩, ⟨43, b_18, [.int .i64 r_15.1.Err, .int .u64 r_15.1.Num, .int .u64 r_15.1.Extra]⟩, ⟨42, b_11, [.int .i64 r_8.1.Err, .int .u64 r_8.1.Num, .int .u64 r_8.1.Extra]⟩]) (ps := [b_22 = b_22]) (by kernel_rfl) (And.intro rfl trivial) ?_
              refine GoO.regionEnd ?_
              exact GoO.ret' (h := c14_16e) (hs := []) (ps := []) (hk := []) (bk := []) Try.func14 () (by kernel_rfl) trivial (by kernel_rfl) (by kernel_rfl)
            · refine GoO.exec (is := [22, 23, 24, 25, 26]) (hs := [.p, .p, .p, .p, .p]) (rest := []) (ks := [0]) (env' := [(0, .bool false)]) (H' := [⟨44, b_22, [.int .i64 r_19.1.Err, .int .u64 r_19.1.Num, .int .u64 r_19.1.Extra]⟩, ⟨40, b_2, [.int .u64 r_19.2.2.now, .int .u64 r_19.2.2.next, .slice A_20 r_19.2.2.rows.length c_21]⟩, ⟨43, b_18, [.int .i64 r_15.1.Err, .int .u64 r_15.1.Num, .int .u64 r_15.1.Extra]⟩, ⟨42, b_11, [.int .i64 r_8.1.Err, .int .u64 r_8.1.Num, .int .u64 r_8.1.Extra]⟩]) (ps := []) (by kernel_rfl) trivial ?_
              refine GoO.regionEnd ?_
              exact GoO.ret' (h := c14_16e) (hs := []) (ps := []) (hk := []) (bk := []) Try.func14 () (by kernel_rfl) trivial (by kernel_rfl) (by kernel_rfl)
          · refine GoO.exec (is := [17, 18, 19, 20, 21, 22, 23, 24, 25, 26]) (hs := [.p, .p, .p, .p, .p, .p, .p, .p, .p, .p]) (rest := []) (ks := [0]) (env' := [(0, .bool false)]) (H' := [⟨44, b_22, [.int .i64 r_19.1.Err, .int .u64 r_19.1.Num, .int .u64 r_19.1.Extra]⟩, ⟨40, b_2, [.int .u64 r_19.2.2.now, .int .u64 r_19.2.2.next, .slice A_20 r_19.2.2.rows.length c_21]⟩, ⟨43, b_18, [.int .i64 r_15.1.Err, .int .u64 r_15.1.Num, .int .u64 r_15.1.Extra]⟩, ⟨42, b_11, [.int .i64 r_8.1.Err, .int .u64 r_8.1.Num, .int .u64 r_8.1.Extra]⟩]) (ps := []) (by kernel_rfl) trivial ?_
            refine GoO.regionEnd ?_
            exact GoO.ret' (h := c14_16e) (hs := []) (ps := []) (hk := []) (bk := []) Try.func14 () (by kernel_rfl) trivial (by kernel_rfl) (by kernel_rfl)
        · refine GoO.exec (is := [13, 14, 15, 16, 17, 18, 19, 20, 21, 22, 23, 24, 25, 26]) (hs := [.p, .p, .p, .p, .p, .p, .p, .p, .p, .p, .p, .p, .p, .p]) (rest := []) (ks := [0]) (env' := [(0, .bool false)]) (H' := [⟨44, b_22, [.int .i64 r_19.1.Err, .int .u64 r_19.1.Num, .int .u64 r_19.1.Extra]⟩, ⟨40, b_2, [.int .u64 r_19.2.2.now, .int .u64 r_19.2.2.next, .slice A_20 r_19.2.2.rows.length c_21]⟩, ⟨43, b_18, [.int .i64 r_15.1.Err, .int .u64 r_15.1.Num, .int .u64 r_15.1.Extra]⟩, ⟨42, b_11, [.int .i64 r_8.1.Err, .int .u64 r_8.1.Num, .int .u64 r_8.1.Extra]⟩]) (ps := []) (by kernel_rfl) trivial ?_
          refine GoO.regionEnd ?_
          exact GoO.ret' (h := c14_16e) (hs := []) (ps := []) (hk := []) (bk := []) Try.func14 () (by kernel_rfl) trivial (by kernel_rfl) (by kernel_rfl)
      · refine GoO.exec (is := [10, 11, 12, 13, 14, 15, 16, 17, 18, 19, 20, 21, 22, 23, 24, 25, 26]) (hs := [.p, .p, .p, .p, .p, .p, .p, .p, .p, .p, .p, .p, .p, .p, .p, .p, .p]) (rest := []) (ks := [0]) (env' := [(0, .bool false)]) (H' := [⟨44, b_22, [.int .i64 r_19.1.Err, .int .u64 r_19.1.Num, .int .u64 r_19.1.Extra]⟩, ⟨40, b_2, [.int .u64 r_19.2.2.now, .int .u64 r_19.2.2.next, .slice A_20 r_19.2.2.rows.length c_21]⟩, ⟨43, b_18, [.int .i64 r_15.1.Err, .int .u64 r_15.1.Num, .int .u64 r_15.1.Extra]⟩, ⟨42, b_11, [.int .i64 r_8.1.Err, .int .u64 r_8.1.Num, .int .u64 r_8.1.Extra]⟩]) (ps := []) (by kernel_rfl) trivial ?_
        refine GoO.regionEnd ?_
        exact GoO.ret' (h := c14_16e) (hs := []) (ps := []) (hk := []) (bk := []) Try.func14 () (by kernel_rfl) trivial (by kernel_rfl) (by kernel_rfl)
    · refine GoO.exec (is := [7, 8, 9, 10, 11, 12, 13, 14, 15, 16, 17, 18, 19, 20, 21, 22, 23, 24, 25, 26]) (hs := [.p, .p, .p, .p, .p, .p, .p, .p, .p, .p, .p, .p, .p, .p, .p, .p, .p, .p, .p, .p]) (rest := []) (ks := [0]) (env' := [(0, .bool false)]) (H' := [⟨44, b_22, [.int .i64 r_19.1.Err, .int .u64 r_19.1.Num, .int .u64 r_19.1.Extra]⟩, ⟨40, b_2, [.int .u64 r_19.2.2.now, .int .u64 r_19.2.2.next, .slice A_20 r_19.2.2.rows.length c_21]⟩, ⟨43, b_18, [.int .i64 r_15.1.Err, .int .u64 r_15.1.Num, .int .u64 r_15.1.Extra]⟩, ⟨42, b_11, [.int .i64 r_8.1.Err, .int .u64 r_8.1.Num, .int .u64 r_8.1.Extra]⟩]) (ps := []) (by kernel_rfl) trivial ?_
      refine GoO.regionEnd ?_
      exact GoO.ret' (h := c14_16e) (hs := []) (ps := []) (hk := []) (bk := []) Try.func14 () (by kernel_rfl) trivial (by kernel_rfl) (by kernel_rfl)
  · refine GoO.exec (is := [3, 4, 5, 6, 7, 8, 9, 10, 11, 12, 13, 14, 15, 16, 17, 18, 19, 20, 21, 22, 23, 24, 25, 26]) (hs := [.p, .p, .p, .p, .p, .p, .p, .p, .p, .p, .p, .p, .p, .p, .p, .p, .p, .p, .p, .p, .p, .p, .p, .p]) (rest := []) (ks := [0]) (env' := [(0, .bool false)]) (H' := [⟨44, b_22, [.int .i64 r_19.1.Err, .int .u64 r_19.1.Num, .int .u64 r_19.1.Extra]⟩, ⟨40, b_2, [.int .u64 r_19.2.2.now, .int .u64 r_19.2.2.next, .slice A_20 r_19.2.2.rows.length c_21]⟩, ⟨43, b_18, [.int .i64 r_15.1.Err, .int .u64 r_15.1.Num, .int .u64 r_15.1.Extra]⟩, ⟨42, b_11, [.int .i64 r_8.1.Err, .int .u64 r_8.1.Num, .int .u64 r_8.1.Extra]⟩]) (ps := []) (by kernel_rfl) trivial ?_
    refine GoO.regionEnd ?_
    exact GoO.ret' (h := c14_16e) (hs := []) (ps := []) (hk := []) (bk := []) Try.func14 () (by kernel_rfl) trivial (by kernel_rfl) (by kernel_rfl)

/-! (*tontine/session.Table).Clock -/
noncomputable def c16n0_0 : Code := bodyOf Try.f16
noncomputable def c16n0_1 : Code := cdL c16n0_0
noncomputable def c16n0_2 : Code := cdL c16n0_1
noncomputable def c16n0_3 : Code := cdR c16n0_1
noncomputable def c16n0_4 : Code := cdL c16n0_3
noncomputable def c16n0_6 : Code := cdR c16n0_0
noncomputable def c16n0_5 : Code := cdR c16n0_3
noncomputable def r16n0_2 : Array Oper := cdO c16n0_2
theorem c16n0_0e : c16n0_0 = .seq c16n0_1 c16n0_6 := by kernel_rfl
theorem c16n0_1e : c16n0_1 = .seq c16n0_2 c16n0_3 := by kernel_rfl
theorem c16n0_2e : c16n0_2 = .region 0 r16n0_2 false := by kernel_rfl
theorem c16n0_3e : c16n0_3 = .cond (cdC c16n0_3) c16n0_4 c16n0_5 := by kernel_rfl
theorem c16n0_4e : c16n0_4 = .ret := by kernel_rfl
theorem c16n0_5e : c16n0_5 = .skip := by kernel_rfl
noncomputable def session_Table_Clock_n0.R : Pst Unit where
  ε := Unit
  v := fun r x => .tuple ⟨[]⟩
  H := fun r x => []
  B := fun r x => []
noncomputable def session_Table_Clock_n0.cx (w0 : World) (S0 : Fam) : Cx Unit := ⟨Try.prog, 16, Try.f16, 44, w0, S0, [], 0, session_Table_Clock_n0.R⟩
theorem session_Table_Clock_n0_ok (n : Nat) (now_1 : Int) :
    Meets Try.prog 16 [.pointer none, .int .u64 now_1] 0 [] [] [] (session_Table_Clock_n0.f n now_1) (session_Table_Clock_n0.R) := by
  refine Meets.of (c := c16n0_0) (n := 44) Try.func16 (by kernel_rfl) (by kernel_rfl) (by kernel_rfl) fun w0 S0 => ?_
  unfold session_Table_Clock_n0.f
  show GoO (session_Table_Clock_n0.cx w0 S0) [(0, .pointer none), (1, .int .u64 now_1)] [] [] [.code c16n0_0] _
  refine GoO.seq' c16n0_0e ?_
  refine GoO.seq' c16n0_1e ?_
  refine GoO.region' (is := [0, 1, 2, 3, 4, 5, 6, 7, 8, 9]) c16n0_2e (by kernel_rfl) ?_
  refine GoO.exec (is := [0, 1, 2, 3, 4, 5, 6, 7, 8, 9]) (hs := [.p, .p, .p, .p, .p, .p, .p, .p, .p, .p]) (rest := []) (ks := [0, 1, 16]) (env' := [(0, .pointer none), (1, .int .u64 now_1), (16, .bool true)]) (H' := []) (ps := []) (by kernel_rfl) trivial ?_
  refine GoO.regionEnd ?_
  refine GoO.condT c16n0_3e (by kernel_rfl) ?_
  exact GoO.ret' (h := c16n0_4e) (hs := []) (ps := []) (hk := []) (bk := []) Try.func16 () (by kernel_rfl) trivial (by kernel_rfl) (by kernel_rfl)

/-! (*tontine/session.Table).Write -/
noncomputable def c25n0_0 : Code := bodyOf Try.f25
noncomputable def c25n0_1 : Code := cdL c25n0_0
noncomputable def c25n0_2 : Code := cdL c25n0_1
noncomputable def c25n0_3 : Code := cdR c25n0_1
noncomputable def c25n0_4 : Code := cdL c25n0_3
noncomputable def c25n0_6 : Code := cdR c25n0_0
noncomputable def c25n0_5 : Code := cdR c25n0_3
noncomputable def r25n0_2 : Array Oper := cdO c25n0_2
theorem c25n0_0e : c25n0_0 = .seq c25n0_1 c25n0_6 := by kernel_rfl
theorem c25n0_1e : c25n0_1 = .seq c25n0_2 c25n0_3 := by kernel_rfl
theorem c25n0_2e : c25n0_2 = .region 0 r25n0_2 false := by kernel_rfl
theorem c25n0_3e : c25n0_3 = .cond (cdC c25n0_3) c25n0_4 c25n0_5 := by kernel_rfl
theorem c25n0_4e : c25n0_4 = .ret := by kernel_rfl
theorem c25n0_5e : c25n0_5 = .skip := by kernel_rfl
noncomputable def session_Table_Write_n0.R (b_2 : Nat) (A_3 : Option Addr) (c_4 : Nat) : Pst Unit where
  ε := Unit
  v := fun r x => .tuple ⟨[]⟩
  H := fun r x => []
  B := fun r x => []
noncomputable def session_Table_Write_n0.cx (b_2 : Nat) (A_3 : Option Addr) (c_4 : Nat) (w0 : World) (S0 : Fam) : Cx Unit := ⟨Try.prog, 25, Try.f25, 59, w0, S0, [], 2, session_Table_Write_n0.R b_2 A_3 c_4⟩
theorem session_Table_Write_n0_ok (n : Nat) (w_1 : T_pack_Writer) (b_2 : Nat) (A_3 : Option Addr) (c_4 : Nat) :
    Meets Try.prog 25 [.pointer none, .pointer (some ⟨b_2, 0, none⟩)] 2 [] [⟨1, b_2, [.slice A_3 w_1.b.length c_4]⟩] [Ow 2 Kd.u8 A_3 c_4 w_1.b] (session_Table_Write_n0.f n w_1) (session_Table_Write_n0.R b_2 A_3 c_4) := by
  refine Meets.of (c := c25n0_0) (n := 59) Try.func25 (by kernel_rfl) (by kernel_rfl) (by kernel_rfl) fun w0 S0 => ?_
  unfold session_Table_Write_n0.f
  show GoO (session_Table_Write_n0.cx b_2 A_3 c_4 w0 S0) [(0, .pointer none), (1, .pointer (some ⟨b_2, 0, none⟩))] [⟨1, b_2, [.slice A_3 w_1.b.length c_4]⟩] [Ow 2 Kd.u8 A_3 c_4 w_1.b] [.code c25n0_0] _
  refine GoO.seq' c25n0_0e ?_
  refine GoO.seq' c25n0_1e ?_
  refine GoO.region' (is := [0, 1]) c25n0_2e (by kernel_rfl) ?_
  refine GoO.exec (is := [0, 1]) (hs := [.p, .p]) (rest := []) (ks := [0, 1, 7]) (env' := [(0, .pointer none), (1, .pointer (some ⟨b_2, 0, none⟩)), (7, .bool true)]) (H' := [⟨1, b_2, [.slice A_3 w_1.b.length c_4]⟩]) (ps := []) (by kernel_rfl) trivial ?_
  refine GoO.regionEnd ?_
  refine GoO.condT c25n0_3e (by kernel_rfl) ?_
  exact GoO.ret' (h := c25n0_4e) (hs := []) (ps := []) (hk := []) (bk := []) Try.func25 () (by kernel_rfl) trivial (by kernel_rfl) (by kernel_rfl)

/-! (*tontine/session.Table).Register -/
noncomputable def c17n0_0 : Code := bodyOf Try.f17
noncomputable def c17n0_1 : Code := cdL c17n0_0
noncomputable def c17n0_2 : Code := cdR c17n0_0
noncomputable def c17n0_3 : Code := cdL c17n0_2
noncomputable def c17n0_4 : Code := cdL c17n0_3
noncomputable def c17n0_5 : Code := cdR c17n0_3
noncomputable def c17n0_6 : Code := cdL c17n0_5
noncomputable def c17n0_7 : Code := cdL c17n0_6
noncomputable def c17n0_8 : Code := cdR c17n0_6
noncomputable def c17n0_10 : Code := cdR c17n0_2
noncomputable def c17n0_9 : Code := cdR c17n0_5
noncomputable def r17n0_1 : Array Oper := cdO c17n0_1
noncomputable def r17n0_4 : Array Oper := cdO c17n0_4
noncomputable def r17n0_7 : Array Oper := cdO c17n0_7
theorem c17n0_0e : c17n0_0 = .seq c17n0_1 c17n0_2 := by kernel_rfl
theorem c17n0_1e : c17n0_1 = .region 0 r17n0_1 false := by kernel_rfl
theorem c17n0_2e : c17n0_2 = .seq c17n0_3 c17n0_10 := by kernel_rfl
theorem c17n0_3e : c17n0_3 = .seq c17n0_4 c17n0_5 := by kernel_rfl
theorem c17n0_4e : c17n0_4 = .region 1 r17n0_4 false := by kernel_rfl
theorem c17n0_5e : c17n0_5 = .cond (cdC c17n0_5) c17n0_6 c17n0_9 := by kernel_rfl
theorem c17n0_6e : c17n0_6 = .seq c17n0_7 c17n0_8 := by kernel_rfl
theorem c17n0_7e : c17n0_7 = .region 2 r17n0_7 false := by kernel_rfl
theorem c17n0_8e : c17n0_8 = .ret := by kernel_rfl
theorem c17n0_9e : c17n0_9 = .skip := by kernel_rfl
noncomputable def session_Table_Register_n0.R : Pst (Int × Int) where
  ε := Unit
  v := fun r x => .tuple ⟨[.int .u64 r.1, .int .i64 r.2]⟩
  H := fun r x => []
  B := fun r x => []
noncomputable def session_Table_Register_n0.cx (w0 : World) (S0 : Fam) : Cx (Int × Int) := ⟨Try.prog, 17, Try.f17, 51, w0, S0, [], 0, session_Table_Register_n0.R⟩
theorem session_Table_Register_n0_ok (n : Nat) :
    Meets Try.prog 17 [.pointer none] 0 [] [] [] (session_Table_Register_n0.f n) (session_Table_Register_n0.R) := by
  refine Meets.of (c := c17n0_0) (n := 51) Try.func17 (by kernel_rfl) (by kernel_rfl) (by kernel_rfl) fun w0 S0 => ?_
  unfold session_Table_Register_n0.f
  show GoO (session_Table_Register_n0.cx w0 S0) [(0, .pointer none)] [] [] [.code c17n0_0] _
  refine GoO.seq' c17n0_0e ?_
  refine GoO.region' (is := [0, 1]) c17n0_1e (by kernel_rfl) ?_
  refine GoO.exec (is := [0, 1]) (hs := [.p, .p]) (rest := []) (ks := [0]) (env' := [(0, .pointer none)]) (H' := []) (ps := []) (by kernel_rfl) trivial ?_
  refine GoO.regionEnd ?_
  refine GoO.seq' c17n0_2e ?_
  refine GoO.seq' c17n0_3e ?_
  refine GoO.region' (is := [0, 1, 2, 3, 4, 5, 6, 7, 8, 9, 10, 11, 12, 13, 14, 15, 16]) c17n0_4e (by kernel_rfl) ?_
  refine GoO.exec (is := [0, 1, 2, 3, 4, 5, 6, 7, 8, 9, 10, 11, 12, 13, 14, 15, 16]) (hs := [.p, .p, .p, .p, .p, .p, .p, .p, .p, .p, .p, .p, .p, .p, .p, .p, .p]) (rest := []) (ks := [0, 20]) (env' := [(0, .pointer none), (20, .bool true)]) (H' := []) (ps := []) (by kernel_rfl) trivial ?_
  refine GoO.regionEnd ?_
  refine GoO.condT c17n0_5e (by kernel_rfl) ?_
  refine GoO.seq' c17n0_6e ?_
  refine GoO.region' (is := [0, 1]) c17n0_7e (by kernel_rfl) ?_
  refine GoO.exec (is := [0, 1]) (hs := [.p, .p]) (rest := []) (ks := [2, 3]) (env' := [(2, .int .u64 0), (3, .int .i64 11)]) (H' := []) (ps := []) (by kernel_rfl) trivial ?_
  refine GoO.regionEnd ?_
  exact GoO.ret' (h := c17n0_8e) (hs := []) (ps := []) (hk := []) (bk := []) Try.func17 () (by kernel_rfl) trivial (by kernel_rfl) (by kernel_rfl)

/-! (*tontine/session.Table).find -/
noncomputable def c37n0_0 : Code := bodyOf Try.f37
noncomputable def c37n0_1 : Code := cdL c37n0_0
noncomputable def c37n0_2 : Code := cdR c37n0_0
noncomputable def c37n0_3 : Code := cdL c37n0_2
noncomputable def c37n0_4 : Code := cdL c37n0_3
noncomputable def c37n0_5 : Code := cdR c37n0_3
noncomputable def c37n0_28 : Code := cdR c37n0_5
noncomputable def c37n0_29 : Code := cdR c37n0_2
noncomputable def c37n0_30 : Code := cdL c37n0_29
noncomputable def c37n0_31 : Code := cdR c37n0_29
noncomputable def c37n0_6 : Code := cdL c37n0_5
noncomputable def r37n0_1 : Array Oper := cdO c37n0_1
noncomputable def r37n0_4 : Array Oper := cdO c37n0_4
noncomputable def r37n0_30 : Array Oper := cdO c37n0_30
theorem c37n0_0e : c37n0_0 = .seq c37n0_1 c37n0_2 := by kernel_rfl
theorem c37n0_1e : c37n0_1 = .region 0 r37n0_1 false := by kernel_rfl
theorem c37n0_2e : c37n0_2 = .seq c37n0_3 c37n0_29 := by kernel_rfl
theorem c37n0_3e : c37n0_3 = .seq c37n0_4 c37n0_5 := by kernel_rfl
theorem c37n0_4e : c37n0_4 = .region 1 r37n0_4 false := by kernel_rfl
theorem c37n0_5e : c37n0_5 = .cond (cdC c37n0_5) c37n0_6 c37n0_28 := by kernel_rfl
theorem c37n0_28e : c37n0_28 = .skip := by kernel_rfl
theorem c37n0_29e : c37n0_29 = .seq c37n0_30 c37n0_31 := by kernel_rfl
theorem c37n0_30e : c37n0_30 = .region 8 r37n0_30 false := by kernel_rfl
theorem c37n0_31e : c37n0_31 = .ret := by kernel_rfl
noncomputable def session_Table_find_n0.R : Pst Int where
  ε := Unit
  v := fun r x => .int .i64 r
  H := fun r x => []
  B := fun r x => []
noncomputable def session_Table_find_n0.cx (w0 : World) (S0 : Fam) : Cx Int := ⟨Try.prog, 37, Try.f37, 25, w0, S0, [], 0, session_Table_find_n0.R⟩
theorem session_Table_find_n0_ok (n : Nat) (id_1 : Int) :
    Meets Try.prog 37 [.pointer none, .int .u64 id_1] 0 [] [] [] (session_Table_find_n0.f n id_1) (session_Table_find_n0.R) := by
  refine Meets.of (c := c37n0_0) (n := 25) Try.func37 (by kernel_rfl) (by kernel_rfl) (by kernel_rfl) fun w0 S0 => ?_
  unfold session_Table_find_n0.f
  show GoO (session_Table_find_n0.cx w0 S0) [(0, .pointer none), (1, .int .u64 id_1)] [] [] [.code c37n0_0] _
  refine GoO.seq' c37n0_0e ?_
  refine GoO.region' (is := [0]) c37n0_1e (by kernel_rfl) ?_
  refine GoO.exec (is := [0]) (hs := [.p]) (rest := []) (ks := [0, 1]) (env' := [(0, .pointer none), (1, .int .u64 id_1)]) (H' := []) (ps := []) (by kernel_rfl) trivial ?_
  refine GoO.regionEnd ?_
  refine GoO.seq' c37n0_2e ?_
  refine GoO.seq' c37n0_3e ?_
  refine GoO.region' (is := [0, 1]) c37n0_4e (by kernel_rfl) ?_
  refine GoO.exec (is := [0, 1]) (hs := [.p, .p]) (rest := []) (ks := [0, 1, 8]) (env' := [(0, .pointer none), (1, .int .u64 id_1), (8, .bool false)]) (H' := []) (ps := []) (by kernel_rfl) trivial ?_
  refine GoO.regionEnd ?_
  refine GoO.condF c37n0_5e (by kernel_rfl) ?_
  refine GoO.skip' c37n0_28e ?_
  refine GoO.seq' c37n0_29e ?_
  refine GoO.region' (is := [0]) c37n0_30e (by kernel_rfl) ?_
  refine GoO.exec (is := [0]) (hs := [.p]) (rest := []) (ks := [4]) (env' := [(4, .int .i64 (-1))]) (H' := []) (ps := []) (by kernel_rfl) trivial ?_
  refine GoO.regionEnd ?_
  exact GoO.ret' (h := c37n0_31e) (hs := []) (ps := []) (hk := []) (bk := []) Try.func37 () (by kernel_rfl) trivial (by kernel_rfl) (by kernel_rfl)

/-! (*tontine/session.Table).Begin -/
noncomputable def c18n0_0 : Code := bodyOf Try.f18
noncomputable def c18n0_1 : Code := cdL c18n0_0
noncomputable def c18n0_2 : Code := cdR c18n0_0
noncomputable def c18n0_3 : Code := cdL c18n0_2
noncomputable def c18n0_4 : Code := cdR c18n0_2
noncomputable def c18n0_5 : Code := cdL c18n0_4
noncomputable def c18n0_6 : Code := cdL c18n0_5
noncomputable def c18n0_7 : Code := cdR c18n0_5
noncomputable def c18n0_8 : Code := cdL c18n0_7
noncomputable def c18n0_9 : Code := cdL c18n0_8
noncomputable def c18n0_10 : Code := cdR c18n0_8
noncomputable def c18n0_11 : Code := cdR c18n0_7
noncomputable def c18n0_12 : Code := cdR c18n0_4
noncomputable def c18n0_13 : Code := cdL c18n0_12
noncomputable def c18n0_14 : Code := cdR c18n0_12
noncomputable def r18n0_1 : Array Oper := cdO c18n0_1
noncomputable def r18n0_3 : Array Oper := cdO c18n0_3
noncomputable def r18n0_6 : Array Oper := cdO c18n0_6
noncomputable def r18n0_9 : Array Oper := cdO c18n0_9
noncomputable def r18n0_13 : Array Oper := cdO c18n0_13
theorem c18n0_0e : c18n0_0 = .seq c18n0_1 c18n0_2 := by kernel_rfl
theorem c18n0_1e : c18n0_1 = .region 0 r18n0_1 false := by kernel_rfl
theorem c18n0_2e : c18n0_2 = .seq c18n0_3 c18n0_4 := by kernel_rfl
theorem c18n0_3e : c18n0_3 = .region 1 r18n0_3 false := by kernel_rfl
theorem c18n0_4e : c18n0_4 = .seq c18n0_5 c18n0_12 := by kernel_rfl
theorem c18n0_5e : c18n0_5 = .seq c18n0_6 c18n0_7 := by kernel_rfl
theorem c18n0_6e : c18n0_6 = .region 2 r18n0_6 false := by kernel_rfl
theorem c18n0_7e : c18n0_7 = .cond (cdC c18n0_7) c18n0_8 c18n0_11 := by kernel_rfl
theorem c18n0_8e : c18n0_8 = .seq c18n0_9 c18n0_10 := by kernel_rfl
theorem c18n0_9e : c18n0_9 = .region 3 r18n0_9 false := by kernel_rfl
theorem c18n0_10e : c18n0_10 = .ret := by kernel_rfl
theorem c18n0_11e : c18n0_11 = .skip := by kernel_rfl
theorem c18n0_12e : c18n0_12 = .seq c18n0_13 c18n0_14 := by kernel_rfl
theorem c18n0_13e : c18n0_13 = .region 4 r18n0_13 false := by kernel_rfl
noncomputable def session_Table_Begin_n0.R : Pst (T_api_Reply × Bool) where
  ε := Unit
  v := fun r x => .tuple ⟨[.agg ⟨[.int .i64 r.1.Err, .int .u64 r.1.Num, .int .u64 r.1.Extra]⟩, .bool r.2]⟩
  H := fun r x => []
  B := fun r x => []
noncomputable def session_Table_Begin_n0.cx (w0 : World) (S0 : Fam) : Cx (T_api_Reply × Bool) := ⟨Try.prog, 18, Try.f18, 58, w0, S0, [], 0, session_Table_Begin_n0.R⟩
theorem session_Table_Begin_n0_ok (n : Nat) (id_1 : Int) (seq_2 : Int) :
    Meets Try.prog 18 [.pointer none, .int .u64 id_1, .int .u64 seq_2] 0 [] [] [] (session_Table_Begin_n0.f n id_1 seq_2) (session_Table_Begin_n0.R) := by
  refine Meets.of (c := c18n0_0) (n := 58) Try.func18 (by kernel_rfl) (by kernel_rfl) (by kernel_rfl) fun w0 S0 => ?_
  unfold session_Table_Begin_n0.f
  show GoO (session_Table_Begin_n0.cx w0 S0) [(0, .pointer none), (1, .int .u64 id_1), (2, .int .u64 seq_2)] [] [] [.code c18n0_0] _
  refine GoO.seq' c18n0_0e ?_
  refine GoO.region' (is := [0, 1]) c18n0_1e (by kernel_rfl) ?_
  refine OpTo.go (GoO.new rfl 40 (cs := [.int .i64 0, .int .u64 0, .int .u64 0]) (by kernel_rfl) _ (fun _ => rfl) (fun b_3 => ?_))
  refine GoO.exec (is := [1]) (hs := [.p]) (rest := []) (ks := [0, 1, 2, 6]) (env' := [(0, .pointer none), (1, .int .u64 id_1), (2, .int .u64 seq_2), (6, .pointer (some ⟨b_3, 0, none⟩))]) (H' := [⟨40, b_3, [.int .i64 0, .int .u64 0, .int .u64 0]⟩]) (ps := []) (by kernel_rfl) trivial ?_
  refine GoO.regionEnd ?_
  refine GoO.seq' c18n0_2e ?_
  refine GoO.region' (is := [0, 1, 2, 3]) c18n0_3e (by kernel_rfl) ?_
  refine GoO.exec (is := [0, 1]) (hs := [.p, .p]) (rest := [2, 3]) (ks := [0, 2, 6, 10, 11]) (env' := [(0, .pointer none), (2, .int .u64 seq_2), (6, .pointer (some ⟨b_3, 0, none⟩)), (10, .pointer none), (11, .int .u64 id_1)]) (H' := [⟨40, b_3, [.int .i64 0, .int .u64 0, .int .u64 0]⟩]) (ps := []) (by kernel_rfl) trivial ?_
  refine OpTo.go (GoO.call rfl (by kernel_rfl) (by kernel_rfl) (session_Table_find_n0_ok n id_1) [[0]] [] [] [] (hks := [0]) (bks := []) (by kernel_rfl) (by kernel_rfl) (by kernel_rfl) (.inl rfl) rfl rfl (by kernel_rfl) (by kernel_rfl) _ (fun _ _ => rfl) _ _ (fun _ _ => rfl) (fun _ _ => rfl) (fun _ _ => by kernel_rfl) (fun _ _ => by kernel_rfl) (fun r_4 x_6 => ?_))
  refine GoO.shape (env' := [(0, .pointer none), (2, .int .u64 seq_2), (6, .pointer (some ⟨b_3, 0, none⟩)), (10, .pointer none), (11, .int .u64 id_1), (12, .int .i64 r_4)]) (H' := [⟨40, b_3, [.int .i64 0, .int .u64 0, .int .u64 0]⟩]) (B' := []) (ks := [0, 2, 6, 10, 11, 12]) (by kernel_rfl) (by kernel_rfl) (by kernel_rfl) ?_
  refine GoO.exec (is := [3]) (hs := [.p]) (rest := []) (ks := [0, 2, 6, 8]) (env' := [(0, .pointer none), (2, .int .u64 seq_2), (6, .pointer (some ⟨b_3, 0, none⟩)), (8, .int .i64 r_4)]) (H' := [⟨40, b_3, [.int .i64 0, .int .u64 0, .int .u64 0]⟩]) (ps := []) (by kernel_rfl) trivial ?_
  refine GoO.regionEnd ?_
  refine GoO.seq' c18n0_4e ?_
  refine GoO.seq' c18n0_5e ?_
  refine GoO.region' (is := [0, 1]) c18n0_6e (by kernel_rfl) ?_
  refine GoO.exec (is := [0, 1]) (hs := [.p, .p]) (rest := []) (ks := [0, 2, 6, 8, 14]) (env' := [(0, .pointer none), (2, .int .u64 seq_2), (6, .pointer (some ⟨b_3, 0, none⟩)), (8, .int .i64 r_4), (14, .bool (decide (r_4 < 0)))]) (H' := [⟨40, b_3, [.int .i64 0, .int .u64 0, .int .u64 0]⟩]) (ps := []) (by kernel_rfl) trivial ?_
  refine GoO.regionEnd ?_
  refine GoO.ite' c18n0_7e (by kernel_rfl) (fun h5 => ?_) (fun h5 => ?_)
  · refine GoO.seq' c18n0_8e ?_
    refine GoO.region' (is := [0, 1, 2]) c18n0_9e (by kernel_rfl) ?_
    refine GoO.exec (is := [0, 1, 2]) (hs := [.p, .b 0, .p]) (rest := []) (ks := [6, 7]) (env' := [(6, .pointer (some ⟨b_3, 0, none⟩)), (7, .bool false)]) (H' := [⟨40, b_3, [.int .i64 40, .int .u64 0, .int .u64 0]⟩]) (ps := [b_3 = b_3]) (by kernel_rfl) (And.intro rfl trivial) ?_
    refine GoO.regionEnd ?_
    exact GoO.ret' (h := c18n0_10e) (hs := [0]) (ps := [b_3 = b_3]) (hk := []) (bk := []) Try.func18 () (by kernel_rfl) (And.intro rfl trivial) (by kernel_rfl) (by kernel_rfl)
  · refine GoO.skip' c18n0_11e ?_
    refine GoO.seq' c18n0_12e ?_
    refine GoO.region' (is := [0, 1, 2, 3, 4, 5, 6]) c18n0_13e (by kernel_rfl) ?_
    refine GoO.exec (is := [0]) (hs := [.p]) (rest := [1, 2, 3, 4, 5, 6]) (ks := [0, 2, 6, 8, 16]) (env' := [(0, .pointer none), (2, .int .u64 seq_2), (6, .pointer (some ⟨b_3, 0, none⟩)), (8, .int .i64 r_4), (16, .pointer none)]) (H' := [⟨40, b_3, [.int .i64 0, .int .u64 0, .int .u64 0]⟩]) (ps := []) (by kernel_rfl) trivial ?_
    exact GoO.stop

/-! (*tontine/session.Table).Now -/
noncomputable def c26n0_0 : Code := bodyOf Try.f26
noncomputable def c26n0_1 : Code := cdL c26n0_0
noncomputable def c26n0_2 : Code := cdR c26n0_0
noncomputable def c26n0_3 : Code := cdL c26n0_2
noncomputable def c26n0_4 : Code := cdL c26n0_3
noncomputable def c26n0_5 : Code := cdR c26n0_3
noncomputable def c26n0_6 : Code := cdL c26n0_5
noncomputable def c26n0_7 : Code := cdL c26n0_6
noncomputable def c26n0_8 : Code := cdR c26n0_6
noncomputable def c26n0_10 : Code := cdR c26n0_2
noncomputable def c26n0_9 : Code := cdR c26n0_5
noncomputable def r26n0_1 : Array Oper := cdO c26n0_1
noncomputable def r26n0_4 : Array Oper := cdO c26n0_4
noncomputable def r26n0_7 : Array Oper := cdO c26n0_7
theorem c26n0_0e : c26n0_0 = .seq c26n0_1 c26n0_2 := by kernel_rfl
theorem c26n0_1e : c26n0_1 = .region 0 r26n0_1 false := by kernel_rfl
theorem c26n0_2e : c26n0_2 = .seq c26n0_3 c26n0_10 := by kernel_rfl
theorem c26n0_3e : c26n0_3 = .seq c26n0_4 c26n0_5 := by kernel_rfl
theorem c26n0_4e : c26n0_4 = .region 1 r26n0_4 false := by kernel_rfl
theorem c26n0_5e : c26n0_5 = .cond (cdC c26n0_5) c26n0_6 c26n0_9 := by kernel_rfl
theorem c26n0_6e : c26n0_6 = .seq c26n0_7 c26n0_8 := by kernel_rfl
theorem c26n0_7e : c26n0_7 = .region 2 r26n0_7 false := by kernel_rfl
theorem c26n0_8e : c26n0_8 = .ret := by kernel_rfl
theorem c26n0_9e : c26n0_9 = .skip := by kernel_rfl
noncomputable def session_Table_Now_n0.R : Pst Int where
  ε := Unit
  v := fun r x => .int .u64 r
  H := fun r x => []
  B := fun r x => []
noncomputable def session_Table_Now_n0.cx (w0 : World) (S0 : Fam) : Cx Int := ⟨Try.prog, 26, Try.f26, 9, w0, S0, [], 0, session_Table_Now_n0.R⟩
theorem session_Table_Now_n0_ok (n : Nat) :
    Meets Try.prog 26 [.pointer none] 0 [] [] [] (session_Table_Now_n0.f n) (session_Table_Now_n0.R) := by
  refine Meets.of (c := c26n0_0) (n := 9) Try.func26 (by kernel_rfl) (by kernel_rfl) (by kernel_rfl) fun w0 S0 => ?_
  unfold session_Table_Now_n0.f
  show GoO (session_Table_Now_n0.cx w0 S0) [(0, .pointer none)] [] [] [.code c26n0_0] _
  refine GoO.seq' c26n0_0e ?_
  refine GoO.region' (is := [0]) c26n0_1e (by kernel_rfl) ?_
  refine GoO.exec (is := [0]) (hs := [.p]) (rest := []) (ks := [0]) (env' := [(0, .pointer none)]) (H' := []) (ps := []) (by kernel_rfl) trivial ?_
  refine GoO.regionEnd ?_
  refine GoO.seq' c26n0_2e ?_
  refine GoO.seq' c26n0_3e ?_
  refine GoO.region' (is := [0, 1]) c26n0_4e (by kernel_rfl) ?_
  refine GoO.exec (is := [0, 1]) (hs := [.p, .p]) (rest := []) (ks := [0, 4]) (env' := [(0, .pointer none), (4, .bool true)]) (H' := []) (ps := []) (by kernel_rfl) trivial ?_
  refine GoO.regionEnd ?_
  refine GoO.condT c26n0_5e (by kernel_rfl) ?_
  refine GoO.seq' c26n0_6e ?_
  refine GoO.region' (is := [0]) c26n0_7e (by kernel_rfl) ?_
  refine GoO.exec (is := [0]) (hs := [.p]) (rest := []) (ks := [2]) (env' := [(2, .int .u64 0)]) (H' := []) (ps := []) (by kernel_rfl) trivial ?_
  refine GoO.regionEnd ?_
  exact GoO.ret' (h := c26n0_8e) (hs := []) (ps := []) (hk := []) (bk := []) Try.func26 () (by kernel_rfl) trivial (by kernel_rfl) (by kernel_rfl)

/-! (*tontine/session.Table).End -/
noncomputable def c19n0_0 : Code := bodyOf Try.f19
noncomputable def c19n0_1 : Code := cdL c19n0_0
noncomputable def c19n0_2 : Code := cdR c19n0_0
noncomputable def c19n0_3 : Code := cdL c19n0_2
noncomputable def c19n0_4 : Code := cdR c19n0_2
noncomputable def c19n0_5 : Code := cdL c19n0_4
noncomputable def c19n0_6 : Code := cdL c19n0_5
noncomputable def c19n0_7 : Code := cdR c19n0_5
noncomputable def c19n0_8 : Code := cdL c19n0_7
noncomputable def c19n0_9 : Code := cdL c19n0_8
noncomputable def c19n0_10 : Code := cdR c19n0_8
noncomputable def c19n0_12 : Code := cdR c19n0_4
noncomputable def c19n0_11 : Code := cdR c19n0_7
noncomputable def c19n0_13 : Code := cdL c19n0_12
noncomputable def c19n0_14 : Code := cdR c19n0_12
noncomputable def r19n0_1 : Array Oper := cdO c19n0_1
noncomputable def r19n0_3 : Array Oper := cdO c19n0_3
noncomputable def r19n0_6 : Array Oper := cdO c19n0_6
noncomputable def r19n0_9 : Array Oper := cdO c19n0_9
noncomputable def r19n0_13 : Array Oper := cdO c19n0_13
theorem c19n0_0e : c19n0_0 = .seq c19n0_1 c19n0_2 := by kernel_rfl
theorem c19n0_1e : c19n0_1 = .region 0 r19n0_1 false := by kernel_rfl
theorem c19n0_2e : c19n0_2 = .seq c19n0_3 c19n0_4 := by kernel_rfl
theorem c19n0_3e : c19n0_3 = .region 1 r19n0_3 false := by kernel_rfl
theorem c19n0_4e : c19n0_4 = .seq c19n0_5 c19n0_12 := by kernel_rfl
theorem c19n0_5e : c19n0_5 = .seq c19n0_6 c19n0_7 := by kernel_rfl
theorem c19n0_6e : c19n0_6 = .region 2 r19n0_6 false := by kernel_rfl
theorem c19n0_7e : c19n0_7 = .cond (cdC c19n0_7) c19n0_8 c19n0_11 := by kernel_rfl
theorem c19n0_8e : c19n0_8 = .seq c19n0_9 c19n0_10 := by kernel_rfl
theorem c19n0_9e : c19n0_9 = .region 3 r19n0_9 false := by kernel_rfl
theorem c19n0_10e : c19n0_10 = .ret := by kernel_rfl
theorem c19n0_12e : c19n0_12 = .seq c19n0_13 c19n0_14 := by kernel_rfl
theorem c19n0_11e : c19n0_11 = .skip := by kernel_rfl
theorem c19n0_13e : c19n0_13 = .region 4 r19n0_13 true := by kernel_rfl
noncomputable def session_Table_End_n0.R : Pst Bool where
  ε := Unit
  v := fun r x => .bool r
  H := fun r x => []
  B := fun r x => []
noncomputable def session_Table_End_n0.cx (w0 : World) (S0 : Fam) : Cx Bool := ⟨Try.prog, 19, Try.f19, 48, w0, S0, [], 0, session_Table_End_n0.R⟩
theorem session_Table_End_n0_j0_ok (n : Nat) (seq_2 : Int) (y_3 : T_api_Reply) (r_5 : Int) (b_4 : Nat) (w0 : World) (S0 : Fam) :
    GoO (session_Table_End_n0.cx w0 S0) [(0, .pointer none), (2, .int .u64 seq_2), (7, .pointer (some ⟨b_4, 0, none⟩)), (9, .int .i64 r_5), (31, .bool true)] [⟨40, b_4, [.int .i64 y_3.Err, .int .u64 y_3.Num, .int .u64 y_3.Extra]⟩] [] [.code c19n0_7, .code c19n0_12] (session_Table_End_n0.j0 n) := by
  unfold session_Table_End_n0.j0
  refine GoO.condT c19n0_7e (by kernel_rfl) ?_
  refine GoO.seq' c19n0_8e ?_
  refine GoO.region' (is := [0]) c19n0_9e (by kernel_rfl) ?_
  refine GoO.exec (is := [0]) (hs := [.p]) (rest := []) (ks := [8]) (env' := [(8, .bool false)]) (H' := [⟨40, b_4, [.int .i64 y_3.Err, .int .u64 y_3.Num, .int .u64 y_3.Extra]⟩]) (ps := []) (by kernel_rfl) trivial ?_
  refine GoO.regionEnd ?_
  exact GoO.ret' (h := c19n0_10e) (hs := []) (ps := []) (hk := []) (bk := []) Try.func19 () (by kernel_rfl) trivial (by kernel_rfl) (by kernel_rfl)
theorem session_Table_End_n0_ok (n : Nat) (id_1 : Int) (seq_2 : Int) (y_3 : T_api_Reply) :
    Meets Try.prog 19 [.pointer none, .int .u64 id_1, .int .u64 seq_2, .agg ⟨[.int .i64 y_3.Err, .int .u64 y_3.Num, .int .u64 y_3.Extra]⟩] 0 [] [] [] (session_Table_End_n0.f n id_1 seq_2 y_3) (session_Table_End_n0.R) := by
  refine Meets.of (c := c19n0_0) (n := 48) Try.func19 (by kernel_rfl) (by kernel_rfl) (by kernel_rfl) fun w0 S0 => ?_
  unfold session_Table_End_n0.f
  show GoO (session_Table_End_n0.cx w0 S0) [(0, .pointer none), (1, .int .u64 id_1), (2, .int .u64 seq_2), (3, .agg ⟨[.int .i64 y_3.Err, .int .u64 y_3.Num, .int .u64 y_3.Extra]⟩)] [] [] [.code c19n0_0] _
  refine GoO.seq' c19n0_0e ?_
  refine GoO.region' (is := [0, 1]) c19n0_1e (by kernel_rfl) ?_
  refine OpTo.go (GoO.new rfl 40 (cs := [.int .i64 y_3.Err, .int .u64 y_3.Num, .int .u64 y_3.Extra]) (by kernel_rfl) _ (fun _ => rfl) (fun b_4 => ?_))
  refine GoO.exec (is := [1]) (hs := [.p]) (rest := []) (ks := [0, 1, 2, 7]) (env' := [(0, .pointer none), (1, .int .u64 id_1), (2, .int .u64 seq_2), (7, .pointer (some ⟨b_4, 0, none⟩))]) (H' := [⟨40, b_4, [.int .i64 y_3.Err, .int .u64 y_3.Num, .int .u64 y_3.Extra]⟩]) (ps := []) (by kernel_rfl) trivial ?_
  refine GoO.regionEnd ?_
  refine GoO.seq' c19n0_2e ?_
  refine GoO.region' (is := [0, 1, 2, 3]) c19n0_3e (by kernel_rfl) ?_
  refine GoO.exec (is := [0, 1]) (hs := [.p, .p]) (rest := [2, 3]) (ks := [0, 2, 7, 10, 11]) (env' := [(0, .pointer none), (2, .int .u64 seq_2), (7, .pointer (some ⟨b_4, 0, none⟩)), (10, .pointer none), (11, .int .u64 id_1)]) (H' := [⟨40, b_4, [.int .i64 y_3.Err, .int .u64 y_3.Num, .int .u64 y_3.Extra]⟩]) (ps := []) (by kernel_rfl) trivial ?_
  refine OpTo.go (GoO.call rfl (by kernel_rfl) (by kernel_rfl) (session_Table_find_n0_ok n id_1) [[0]] [] [] [] (hks := [0]) (bks := []) (by kernel_rfl) (by kernel_rfl) (by kernel_rfl) (.inl rfl) rfl rfl (by kernel_rfl) (by kernel_rfl) _ (fun _ _ => rfl) _ _ (fun _ _ => rfl) (fun _ _ => rfl) (fun _ _ => by kernel_rfl) (fun _ _ => by kernel_rfl) (fun r_5 x_8 => ?_))
  refine GoO.shape (env' := [(0, .pointer none), (2, .int .u64 seq_2), (7, .pointer (some ⟨b_4, 0, none⟩)), (10, .pointer none), (11, .int .u64 id_1), (12, .int .i64 r_5)]) (H' := [⟨40, b_4, [.int .i64 y_3.Err, .int .u64 y_3.Num, .int .u64 y_3.Extra]⟩]) (B' := []) (ks := [0, 2, 7, 10, 11, 12]) (by kernel_rfl) (by kernel_rfl) (by kernel_rfl) ?_
  refine GoO.exec (is := [3]) (hs := [.p]) (rest := []) (ks := [0, 2, 7, 9]) (env' := [(0, .pointer none), (2, .int .u64 seq_2), (7, .pointer (some ⟨b_4, 0, none⟩)), (9, .int .i64 r_5)]) (H' := [⟨40, b_4, [.int .i64 y_3.Err, .int .u64 y_3.Num, .int .u64 y_3.Extra]⟩]) (ps := []) (by kernel_rfl) trivial ?_
  refine GoO.regionEnd ?_
  refine GoO.seq' c19n0_4e ?_
  refine GoO.seq' c19n0_5e ?_
  refine GoO.region' (is := [0, 1, 2, 3, 4, 5, 6, 7, 8, 9, 10, 11, 12, 13, 14, 15, 16, 17, 18]) c19n0_6e (by kernel_rfl) ?_
  refine GoO.exec (is := [0, 1, 2]) (hs := [.p, .p, .p]) (rest := [3, 4, 5, 6, 7, 8, 9, 10, 11, 12, 13, 14, 15, 16, 17, 18]) (ks := [0, 2, 7, 9, 15]) (env' := [(0, .pointer none), (2, .int .u64 seq_2), (7, .pointer (some ⟨b_4, 0, none⟩)), (9, .int .i64 r_5), (15, .bool (decide (r_5 < 0)))]) (H' := [⟨40, b_4, [.int .i64 y_3.Err, .int .u64 y_3.Num, .int .u64 y_3.Extra]⟩]) (ps := []) (by kernel_rfl) trivial ?_
  refine GoO.bsplit (t := 15) (by kernel_rfl) (fun h6 => ?_) (fun h6 => ?_)
  · refine GoO.exec (is := [3, 4, 5, 6, 7, 8, 9, 10, 11, 12, 13, 14, 15, 16, 17, 18]) (hs := [.p, .p, .p, .p, .p, .p, .p, .p, .p, .p, .p, .p, .p, .p, .p, .p]) (rest := []) (ks := [0, 2, 7, 9, 31]) (env' := [(0, .pointer none), (2, .int .u64 seq_2), (7, .pointer (some ⟨b_4, 0, none⟩)), (9, .int .i64 r_5), (31, .bool true)]) (H' := [⟨40, b_4, [.int .i64 y_3.Err, .int .u64 y_3.Num, .int .u64 y_3.Extra]⟩]) (ps := []) (by kernel_rfl) trivial ?_
    refine GoO.regionEnd ?_
    exact GoO.sub (ks := [0, 2, 7, 9, 31]) (hk := [0]) (bk := []) (by kernel_rfl) (by kernel_rfl) (by kernel_rfl) (session_Table_End_n0_j0_ok n seq_2 y_3 r_5 b_4 w0 S0)
  · refine GoO.exec (is := [3, 4, 5, 6]) (hs := [.p, .p, .p, .p]) (rest := [7, 8, 9, 10, 11, 12, 13, 14, 15, 16, 17, 18]) (ks := [0, 2, 7, 9, 19]) (env' := [(0, .pointer none), (2, .int .u64 seq_2), (7, .pointer (some ⟨b_4, 0, none⟩)), (9, .int .i64 r_5), (19, .bool (seq_2 == 0))]) (H' := [⟨40, b_4, [.int .i64 y_3.Err, .int .u64 y_3.Num, .int .u64 y_3.Extra]⟩]) (ps := []) (by kernel_rfl) trivial ?_
    refine GoO.bsplit (t := 19) (by kernel_rfl) (fun h7 => ?_) (fun h7 => ?_)
    · refine GoO.exec (is := [7, 8, 9, 10, 11, 12, 13, 14, 15, 16, 17, 18]) (hs := [.p, .p, .p, .p, .p, .p, .p, .p, .p, .p, .p, .p]) (rest := []) (ks := [0, 2, 7, 9, 31]) (env' := [(0, .pointer none), (2, .int .u64 seq_2), (7, .pointer (some ⟨b_4, 0, none⟩)), (9, .int .i64 r_5), (31, .bool true)]) (H' := [⟨40, b_4, [.int .i64 y_3.Err, .int .u64 y_3.Num, .int .u64 y_3.Extra]⟩]) (ps := []) (by kernel_rfl) trivial ?_
      refine GoO.regionEnd ?_
      exact GoO.sub (ks := [0, 2, 7, 9, 31]) (hk := [0]) (bk := []) (by kernel_rfl) (by kernel_rfl) (by kernel_rfl) (session_Table_End_n0_j0_ok n seq_2 y_3 r_5 b_4 w0 S0)
    · refine GoO.exec (is := [7, 8]) (hs := [.p, .p]) (rest := [9, 10, 11, 12, 13, 14, 15, 16, 17, 18]) (ks := [0, 2, 7, 9, 19, 20, 21]) (env' := [(0, .pointer none), (2, .int .u64 seq_2), (7, .pointer (some ⟨b_4, 0, none⟩)), (9, .int .i64 r_5), (19, .bool false), (20, .int .u64 seq_2), (21, .pointer none)]) (H' := [⟨40, b_4, [.int .i64 y_3.Err, .int .u64 y_3.Num, .int .u64 y_3.Extra]⟩]) (ps := []) (by kernel_rfl) trivial ?_
      exact GoO.stop

/-! (*tontine/session.Table).Rows -/
noncomputable def c24n0_0 : Code := bodyOf Try.f24
noncomputable def c24n0_1 : Code := cdL c24n0_0
noncomputable def c24n0_2 : Code := cdR c24n0_0
noncomputable def c24n0_3 : Code := cdL c24n0_2
noncomputable def c24n0_4 : Code := cdL c24n0_3
noncomputable def c24n0_5 : Code := cdR c24n0_3
noncomputable def c24n0_6 : Code := cdL c24n0_5
noncomputable def c24n0_7 : Code := cdL c24n0_6
noncomputable def c24n0_8 : Code := cdR c24n0_6
noncomputable def c24n0_10 : Code := cdR c24n0_2
noncomputable def c24n0_9 : Code := cdR c24n0_5
noncomputable def r24n0_1 : Array Oper := cdO c24n0_1
noncomputable def r24n0_4 : Array Oper := cdO c24n0_4
noncomputable def r24n0_7 : Array Oper := cdO c24n0_7
theorem c24n0_0e : c24n0_0 = .seq c24n0_1 c24n0_2 := by kernel_rfl
theorem c24n0_1e : c24n0_1 = .region 0 r24n0_1 false := by kernel_rfl
theorem c24n0_2e : c24n0_2 = .seq c24n0_3 c24n0_10 := by kernel_rfl
theorem c24n0_3e : c24n0_3 = .seq c24n0_4 c24n0_5 := by kernel_rfl
theorem c24n0_4e : c24n0_4 = .region 1 r24n0_4 false := by kernel_rfl
theorem c24n0_5e : c24n0_5 = .cond (cdC c24n0_5) c24n0_6 c24n0_9 := by kernel_rfl
theorem c24n0_6e : c24n0_6 = .seq c24n0_7 c24n0_8 := by kernel_rfl
theorem c24n0_7e : c24n0_7 = .region 2 r24n0_7 false := by kernel_rfl
theorem c24n0_8e : c24n0_8 = .ret := by kernel_rfl
theorem c24n0_9e : c24n0_9 = .skip := by kernel_rfl
noncomputable def session_Table_Rows_n0.R : Pst (List T_session_Row) where
  ε := Option Addr × Nat
  v := fun r x => .slice x.1 r.length x.2
  H := fun r x => []
  B := fun r x => [Ow 1 kT_session_Row x.1 x.2 r]
noncomputable def session_Table_Rows_n0.cx (w0 : World) (S0 : Fam) : Cx (List T_session_Row) := ⟨Try.prog, 24, Try.f24, 19, w0, S0, [], 0, session_Table_Rows_n0.R⟩
theorem session_Table_Rows_n0_ok (n : Nat) :
    Meets Try.prog 24 [.pointer none] 0 [] [] [] (session_Table_Rows_n0.f n) (session_Table_Rows_n0.R) := by
  refine Meets.of (c := c24n0_0) (n := 19) Try.func24 (by kernel_rfl) (by kernel_rfl) (by kernel_rfl) fun w0 S0 => ?_
  unfold session_Table_Rows_n0.f
  show GoO (session_Table_Rows_n0.cx w0 S0) [(0, .pointer none)] [] [] [.code c24n0_0] _
  refine GoO.seq' c24n0_0e ?_
  refine GoO.region' (is := [0]) c24n0_1e (by kernel_rfl) ?_
  refine GoO.exec (is := [0]) (hs := [.p]) (rest := []) (ks := [0]) (env' := [(0, .pointer none)]) (H' := []) (ps := []) (by kernel_rfl) trivial ?_
  refine GoO.regionEnd ?_
  refine GoO.seq' c24n0_2e ?_
  refine GoO.seq' c24n0_3e ?_
  refine GoO.region' (is := [0, 1]) c24n0_4e (by kernel_rfl) ?_
  refine GoO.exec (is := [0, 1]) (hs := [.p, .p]) (rest := []) (ks := [0, 5]) (env' := [(0, .pointer none), (5, .bool true)]) (H' := []) (ps := []) (by kernel_rfl) trivial ?_
  refine GoO.regionEnd ?_
  refine GoO.condT c24n0_5e (by kernel_rfl) ?_
  refine GoO.seq' c24n0_6e ?_
  refine GoO.region' (is := [0]) c24n0_7e (by kernel_rfl) ?_
  refine GoO.exec (is := [0]) (hs := [.p]) (rest := []) (ks := [2]) (env' := [(2, .slice none ([] : List T_session_Row).length 0)]) (H' := []) (ps := []) (by kernel_rfl) trivial ?_
  refine GoO.regionEnd ?_
  refine GoO.nilOwn kT_session_Row 1 ?_
  exact GoO.ret' (h := c24n0_8e) (hs := []) (ps := []) (hk := []) (bk := [0]) Try.func24 (⟨none, 0⟩ : Option Addr × Nat) (by kernel_rfl) trivial (by kernel_rfl) (by kernel_rfl)

/-! (*tontine/session.Table).Rows -/
noncomputable def c24_0 : Code := bodyOf Try.f24
noncomputable def c24_1 : Code := cdL c24_0
noncomputable def c24_2 : Code := cdR c24_0
noncomputable def c24_3 : Code := cdL c24_2
noncomputable def c24_4 : Code := cdL c24_3
noncomputable def c24_5 : Code := cdR c24_3
noncomputable def c24_9 : Code := cdR c24_5
noncomputable def c24_10 : Code := cdR c24_2
noncomputable def c24_11 : Code := cdL c24_10
noncomputable def c24_12 : Code := cdR c24_10
noncomputable def c24_13 : Code := cdL c24_12
noncomputable def c24_14 : Code := cdR c24_12
noncomputable def c24_15 : Code := cdL c24_14
noncomputable def c24_16 : Code := cdR c24_14
noncomputable def c24_6 : Code := cdL c24_5
noncomputable def r24_1 : Array Oper := cdO c24_1
noncomputable def r24_4 : Array Oper := cdO c24_4
noncomputable def r24_11 : Array Oper := cdO c24_11
noncomputable def r24_13 : Array Oper := cdO c24_13
noncomputable def r24_15 : Array Oper := cdO c24_15
theorem c24_0e : c24_0 = .seq c24_1 c24_2 := by kernel_rfl
theorem c24_1e : c24_1 = .region 0 r24_1 false := by kernel_rfl
theorem c24_2e : c24_2 = .seq c24_3 c24_10 := by kernel_rfl
theorem c24_3e : c24_3 = .seq c24_4 c24_5 := by kernel_rfl
theorem c24_4e : c24_4 = .region 1 r24_4 false := by kernel_rfl
theorem c24_5e : c24_5 = .cond (cdC c24_5) c24_6 c24_9 := by kernel_rfl
theorem c24_9e : c24_9 = .skip := by kernel_rfl
theorem c24_10e : c24_10 = .seq c24_11 c24_12 := by kernel_rfl
theorem c24_11e : c24_11 = .region 3 r24_11 false := by kernel_rfl
theorem c24_12e : c24_12 = .seq c24_13 c24_14 := by kernel_rfl
theorem c24_13e : c24_13 = .region 4 r24_13 false := by kernel_rfl
theorem c24_14e : c24_14 = .seq c24_15 c24_16 := by kernel_rfl
theorem c24_15e : c24_15 = .region 5 r24_15 false := by kernel_rfl
theorem c24_16e : c24_16 = .ret := by kernel_rfl
noncomputable def session_Table_Rows.R (b_2 : Nat) (A_3 : Option Addr) (c_4 : Nat) : Pst (List T_session_Row) where
  ε := Option Addr × Nat
  v := fun r x => .slice x.1 r.length x.2
  H := fun r x => []
  B := fun r x => [Ow 3 kT_session_Row x.1 x.2 r]
noncomputable def session_Table_Rows.cx (b_2 : Nat) (A_3 : Option Addr) (c_4 : Nat) (w0 : World) (S0 : Fam) : Cx (List T_session_Row) := ⟨Try.prog, 24, Try.f24, 19, w0, S0, [], 2, session_Table_Rows.R b_2 A_3 c_4⟩
theorem session_Table_Rows_ok (n : Nat) (t_1 : T_session_Table) (b_2 : Nat) (A_3 : Option Addr) (c_4 : Nat) :
    Meets Try.prog 24 [.pointer (some ⟨b_2, 0, none⟩)] 2 [] [⟨1, b_2, [.int .u64 t_1.now, .int .u64 t_1.next, .slice A_3 t_1.rows.length c_4]⟩] [Ow 2 kT_session_Row A_3 c_4 t_1.rows] (session_Table_Rows.f n t_1) (session_Table_Rows.R b_2 A_3 c_4) := by
  refine Meets.of (c := c24_0) (n := 19) Try.func24 (by kernel_rfl) (by kernel_rfl) (by kernel_rfl) fun w0 S0 => ?_
  unfold session_Table_Rows.f
  show GoO (session_Table_Rows.cx b_2 A_3 c_4 w0 S0) [(0, .pointer (some ⟨b_2, 0, none⟩))] [⟨1, b_2, [.int .u64 t_1.now, .int .u64 t_1.next, .slice A_3 t_1.rows.length c_4]⟩] [Ow 2 kT_session_Row A_3 c_4 t_1.rows] [.code c24_0] _
  refine GoO.seq' c24_0e ?_
  refine GoO.region' (is := [0]) c24_1e (by kernel_rfl) ?_
  refine GoO.exec (is := [0]) (hs := [.p]) (rest := []) (ks := [0]) (env' := [(0, .pointer (some ⟨b_2, 0, none⟩))]) (H' := [⟨1, b_2, [.int .u64 t_1.now, .int .u64 t_1.next, .slice A_3 t_1.rows.length c_4]⟩]) (ps := []) (by kernel_rfl) trivial ?_
  refine GoO.regionEnd ?_
  refine GoO.seq' c24_2e ?_
  refine GoO.seq' c24_3e ?_
  refine GoO.region' (is := [0, 1]) c24_4e (by kernel_rfl) ?_
  refine GoO.exec (is := [0, 1]) (hs := [.p, .p]) (rest := []) (ks := [0, 5]) (env' := [(0, .pointer (some ⟨b_2, 0, none⟩)), (5, .bool false)]) (H' := [⟨1, b_2, [.int .u64 t_1.now, .int .u64 t_1.next, .slice A_3 t_1.rows.length c_4]⟩]) (ps := []) (by kernel_rfl) trivial ?_
  refine GoO.regionEnd ?_
  refine GoO.condF c24_5e (by kernel_rfl) ?_
  refine GoO.skip' c24_9e ?_
  refine GoO.seq' c24_10e ?_
  refine GoO.region' (is := [0, 1, 2, 3, 4, 5, 6]) c24_11e (by kernel_rfl) ?_
  refine GoO.exec (is := [0, 1, 2, 3, 4]) (hs := [.p, .p, .p, .b 0, .p]) (rest := [5, 6]) (ks := [0, 10]) (env' := [(0, .pointer (some ⟨b_2, 0, none⟩)), (10, .int .i64 (t_1.rows.length : Int))]) (H' := [⟨1, b_2, [.int .u64 t_1.now, .int .u64 t_1.next, .slice A_3 t_1.rows.length c_4]⟩]) (ps := [b_2 = b_2]) (by kernel_rfl) (And.intro rfl trivial) ?_
  refine GoO.guard (fun h7 => ?_)
  refine OpTo.go (GoO.mk (e := 87) (k1 := .i64) (k2 := .i64) (K := kT_session_Row) (n := (t_1.rows.length : Int)) (c := (t_1.rows.length : Int)) (bytes := 48) (zs := [.int .u64 0, .int .u64 0, .int .u64 0, .int .i64 0, .int .u64 0, .int .u64 0]) rfl (by kernel_rfl) (by kernel_rfl) (by kernel_rfl) (by kernel_rfl) ((⟨0, 0, 0, ⟨0, 0, 0⟩⟩ : T_session_Row)) (fun _ _ => rfl) h7.1 h7.2.1 (by kernel_rfl) h7.2.2 40 _ (fun _ _ => rfl) (fun A_5 c_6 => ?_))
  refine GoO.exec (is := [6]) (hs := [.p]) (rest := []) (ks := [0, 3]) (env' := [(0, .pointer (some ⟨b_2, 0, none⟩)), (3, .slice A_5 (List.replicate (t_1.rows.length : Int).toNat (⟨0, 0, 0, ⟨0, 0, 0⟩⟩ : T_session_Row)).length c_6)]) (H' := [⟨1, b_2, [.int .u64 t_1.now, .int .u64 t_1.next, .slice A_3 t_1.rows.length c_4]⟩]) (ps := []) (by kernel_rfl) trivial ?_
  refine GoO.regionEnd ?_
  refine GoO.seq' c24_12e ?_
  refine GoO.region' (is := [0, 1, 2, 3, 4, 5]) c24_13e (by kernel_rfl) ?_
  refine GoO.exec (is := [0, 1, 2, 3, 4]) (hs := [.p, .p, .p, .p, .b 0]) (rest := [5]) (ks := [3, 12, 16]) (env' := [(3, .slice A_5 (List.replicate (t_1.rows.length : Int).toNat (⟨0, 0, 0, ⟨0, 0, 0⟩⟩ : T_session_Row)).length c_6), (12, .slice A_5 (List.replicate (t_1.rows.length : Int).toNat (⟨0, 0, 0, ⟨0, 0, 0⟩⟩ : T_session_Row)).length c_6), (16, .slice A_3 t_1.rows.length c_4)]) (H' := [⟨1, b_2, [.int .u64 t_1.now, .int .u64 t_1.next, .slice A_3 t_1.rows.length c_4]⟩]) (ps := [b_2 = b_2]) (by kernel_rfl) (And.intro rfl trivial) ?_
  refine OpTo.go (GoO.copy1 (e := 87) (K := kT_session_Row) (A := A_5) (c := c_6) (xs := List.replicate (t_1.rows.length : Int).toNat (⟨0, 0, 0, ⟨0, 0, 0⟩⟩ : T_session_Row)) (A2 := A_3) (c2 := c_4) (ys := t_1.rows) (tg := 40) (j := 0) (j2 := 1) rfl rfl rfl (by kernel_rfl) (by kernel_rfl) rfl rfl Reads.own (by decide) (by kernel_rfl) (by kernel_rfl) (by kernel_rfl) rfl ?_)
  refine GoO.reval (t := 3) (v := .slice A_5 (List.replicate (t_1.rows.length : Int).toNat (⟨0, 0, 0, ⟨0, 0, 0⟩⟩ : T_session_Row)).length c_6) (v' := .slice A_5 (copyL (List.replicate (t_1.rows.length : Int).toNat (⟨0, 0, 0, ⟨0, 0, 0⟩⟩ : T_session_Row)) t_1.rows).length c_6) (by kernel_rfl) (by rw [copyL_length]) ?_
  refine GoO.reval (t := 12) (v := .slice A_5 (List.replicate (t_1.rows.length : Int).toNat (⟨0, 0, 0, ⟨0, 0, 0⟩⟩ : T_session_Row)).length c_6) (v' := .slice A_5 (copyL (List.replicate (t_1.rows.length : Int).toNat (⟨0, 0, 0, ⟨0, 0, 0⟩⟩ : T_session_Row)) t_1.rows).length c_6) (by kernel_rfl) (by rw [copyL_length]) ?_
  refine GoO.regionEnd ?_
  refine GoO.seq' c24_14e ?_
  refine GoO.region' (is := [0, 1]) c24_15e (by kernel_rfl) ?_
  refine GoO.exec (is := [0, 1]) (hs := [.p, .p]) (rest := []) (ks := [2]) (env' := [(2, .slice A_5 (copyL (List.replicate (t_1.rows.length : Int).toNat (⟨0, 0, 0, ⟨0, 0, 0⟩⟩ : T_session_Row)) t_1.rows).length c_6)]) (H' := [⟨1, b_2, [.int .u64 t_1.now, .int .u64 t_1.next, .slice A_3 t_1.rows.length c_4]⟩]) (ps := []) (by kernel_rfl) trivial ?_
  refine GoO.regionEnd ?_
  refine GoO.retag (t := 40) (u := 3) (j := 0) (hk := [0]) (bk := [1]) rfl rfl rfl rfl rfl rfl (by kernel_rfl) (by kernel_rfl) ?_
  exact GoO.ret' (h := c24_16e) (hs := []) (ps := []) (hk := []) (bk := [0]) Try.func24 (⟨A_5, c_6⟩ : Option Addr × Nat) (by kernel_rfl) trivial (by kernel_rfl) (by kernel_rfl)

/-! tontine/tontinelaw15.SessionNone -/
noncomputable def c6_0 : Code := bodyOf Try.f6
noncomputable def c6_1 : Code := cdL c6_0
noncomputable def c6_2 : Code := cdR c6_0
noncomputable def c6_3 : Code := cdL c6_2
noncomputable def c6_4 : Code := cdL c6_3
noncomputable def c6_5 : Code := cdR c6_3
noncomputable def c6_6 : Code := cdL c6_5
noncomputable def c6_7 : Code := cdL c6_6
noncomputable def c6_8 : Code := cdR c6_6
noncomputable def c6_9 : Code := cdR c6_5
noncomputable def c6_10 : Code := cdR c6_2
noncomputable def c6_11 : Code := cdL c6_10
noncomputable def c6_12 : Code := cdR c6_10
noncomputable def c6_13 : Code := cdL c6_12
noncomputable def c6_14 : Code := cdR c6_12
noncomputable def c6_15 : Code := cdL c6_14
noncomputable def c6_16 : Code := cdR c6_14
noncomputable def c6_17 : Code := cdL c6_16
noncomputable def c6_18 : Code := cdR c6_16
noncomputable def c6_19 : Code := cdL c6_18
noncomputable def c6_20 : Code := cdR c6_18
noncomputable def c6_21 : Code := cdL c6_20
noncomputable def c6_22 : Code := cdL c6_21
noncomputable def c6_23 : Code := cdR c6_21
noncomputable def c6_24 : Code := cdL c6_23
noncomputable def c6_25 : Code := cdL c6_24
noncomputable def c6_26 : Code := cdR c6_24
noncomputable def c6_27 : Code := cdR c6_23
noncomputable def c6_28 : Code := cdR c6_20
noncomputable def c6_29 : Code := cdL c6_28
noncomputable def c6_30 : Code := cdR c6_28
noncomputable def c6_31 : Code := cdL c6_30
noncomputable def c6_32 : Code := cdR c6_30
noncomputable def c6_33 : Code := cdL c6_32
noncomputable def c6_34 : Code := cdL c6_33
noncomputable def c6_35 : Code := cdR c6_33
noncomputable def c6_36 : Code := cdL c6_35
noncomputable def c6_37 : Code := cdL c6_36
noncomputable def c6_38 : Code := cdL c6_37
noncomputable def c6_39 : Code := cdR c6_37
noncomputable def c6_40 : Code := cdL c6_39
noncomputable def c6_41 : Code := cdL c6_40
noncomputable def c6_42 : Code := cdR c6_40
noncomputable def c6_43 : Code := cdR c6_39
noncomputable def c6_44 : Code := cdL c6_43
noncomputable def c6_45 : Code := cdL c6_44
noncomputable def c6_46 : Code := cdL c6_45
noncomputable def c6_47 : Code := cdR c6_45
noncomputable def c6_48 : Code := cdL c6_47
noncomputable def c6_49 : Code := cdR c6_47
noncomputable def c6_50 : Code := cdL c6_49
noncomputable def c6_51 : Code := cdR c6_49
noncomputable def c6_52 : Code := cdL c6_51
noncomputable def c6_53 : Code := cdL c6_52
noncomputable def c6_54 : Code := cdR c6_52
noncomputable def c6_55 : Code := cdR c6_51
noncomputable def c6_56 : Code := cdR c6_43
noncomputable def c6_57 : Code := cdR c6_32
noncomputable def c6_58 : Code := cdL c6_57
noncomputable def c6_59 : Code := cdR c6_57
noncomputable def r6_1 : Array Oper := cdO c6_1
noncomputable def r6_4 : Array Oper := cdO c6_4
noncomputable def r6_7 : Array Oper := cdO c6_7
noncomputable def r6_11 : Array Oper := cdO c6_11
noncomputable def r6_13 : Array Oper := cdO c6_13
noncomputable def r6_15 : Array Oper := cdO c6_15
noncomputable def r6_17 : Array Oper := cdO c6_17
noncomputable def r6_19 : Array Oper := cdO c6_19
noncomputable def r6_22 : Array Oper := cdO c6_22
noncomputable def r6_25 : Array Oper := cdO c6_25
noncomputable def r6_29 : Array Oper := cdO c6_29
noncomputable def r6_31 : Array Oper := cdO c6_31
noncomputable def r6_34 : Array Oper := cdO c6_34
noncomputable def r6_38 : Array Oper := cdO c6_38
noncomputable def r6_46 : Array Oper := cdO c6_46
noncomputable def r6_48 : Array Oper := cdO c6_48
noncomputable def r6_50 : Array Oper := cdO c6_50
noncomputable def r6_53 : Array Oper := cdO c6_53
noncomputable def r6_56 : Array Oper := cdO c6_56
noncomputable def r6_58 : Array Oper := cdO c6_58
theorem c6_0e : c6_0 = .seq c6_1 c6_2 := by kernel_rfl
theorem c6_1e : c6_1 = .region 0 r6_1 false := by kernel_rfl
theorem c6_2e : c6_2 = .seq c6_3 c6_10 := by kernel_rfl
theorem c6_3e : c6_3 = .seq c6_4 c6_5 := by kernel_rfl
theorem c6_4e : c6_4 = .region 1 r6_4 false := by kernel_rfl
theorem c6_5e : c6_5 = .cond (cdC c6_5) c6_6 c6_9 := by kernel_rfl
theorem c6_6e : c6_6 = .seq c6_7 c6_8 := by kernel_rfl
theorem c6_7e : c6_7 = .region 2 r6_7 false := by kernel_rfl
theorem c6_8e : c6_8 = .ret := by kernel_rfl
theorem c6_9e : c6_9 = .skip := by kernel_rfl
theorem c6_10e : c6_10 = .seq c6_11 c6_12 := by kernel_rfl
theorem c6_11e : c6_11 = .region 3 r6_11 false := by kernel_rfl
theorem c6_12e : c6_12 = .seq c6_13 c6_14 := by kernel_rfl
theorem c6_13e : c6_13 = .region 4 r6_13 false := by kernel_rfl
theorem c6_14e : c6_14 = .seq c6_15 c6_16 := by kernel_rfl
theorem c6_15e : c6_15 = .region 5 r6_15 false := by kernel_rfl
theorem c6_16e : c6_16 = .seq c6_17 c6_18 := by kernel_rfl
theorem c6_17e : c6_17 = .region 6 r6_17 false := by kernel_rfl
theorem c6_18e : c6_18 = .seq c6_19 c6_20 := by kernel_rfl
theorem c6_19e : c6_19 = .region 7 r6_19 false := by kernel_rfl
theorem c6_20e : c6_20 = .seq c6_21 c6_28 := by kernel_rfl
theorem c6_21e : c6_21 = .seq c6_22 c6_23 := by kernel_rfl
theorem c6_22e : c6_22 = .region 8 r6_22 false := by kernel_rfl
theorem c6_23e : c6_23 = .cond (cdC c6_23) c6_24 c6_27 := by kernel_rfl
theorem c6_24e : c6_24 = .seq c6_25 c6_26 := by kernel_rfl
theorem c6_25e : c6_25 = .region 9 r6_25 false := by kernel_rfl
theorem c6_26e : c6_26 = .ret := by kernel_rfl
theorem c6_27e : c6_27 = .skip := by kernel_rfl
theorem c6_28e : c6_28 = .seq c6_29 c6_30 := by kernel_rfl
theorem c6_29e : c6_29 = .region 10 r6_29 false := by kernel_rfl
theorem c6_30e : c6_30 = .seq c6_31 c6_32 := by kernel_rfl
theorem c6_31e : c6_31 = .region 11 r6_31 false := by kernel_rfl
theorem c6_32e : c6_32 = .seq c6_33 c6_57 := by kernel_rfl
theorem c6_33e : c6_33 = .seq c6_34 c6_35 := by kernel_rfl
theorem c6_34e : c6_34 = .region 12 r6_34 false := by kernel_rfl
theorem c6_35e : c6_35 = .block 0 c6_36 := by kernel_rfl
theorem c6_36e : c6_36 = .loop c6_37 := by kernel_rfl
theorem c6_37e : c6_37 = .seq c6_38 c6_39 := by kernel_rfl
theorem c6_38e : c6_38 = .region 13 r6_38 false := by kernel_rfl
theorem c6_39e : c6_39 = .seq c6_40 c6_43 := by kernel_rfl
theorem c6_40e : c6_40 = .cond (cdC c6_40) c6_41 c6_42 := by kernel_rfl
theorem c6_41e : c6_41 = .skip := by kernel_rfl
theorem c6_42e : c6_42 = .exit 0 := by kernel_rfl
theorem c6_43e : c6_43 = .seq c6_44 c6_56 := by kernel_rfl
theorem c6_44e : c6_44 = .block 1 c6_45 := by kernel_rfl
theorem c6_45e : c6_45 = .seq c6_46 c6_47 := by kernel_rfl
theorem c6_46e : c6_46 = .region 14 r6_46 false := by kernel_rfl
theorem c6_47e : c6_47 = .seq c6_48 c6_49 := by kernel_rfl
theorem c6_48e : c6_48 = .region 15 r6_48 false := by kernel_rfl
theorem c6_49e : c6_49 = .seq c6_50 c6_51 := by kernel_rfl
theorem c6_50e : c6_50 = .region 16 r6_50 false := by kernel_rfl
theorem c6_51e : c6_51 = .cond (cdC c6_51) c6_52 c6_55 := by kernel_rfl
theorem c6_52e : c6_52 = .seq c6_53 c6_54 := by kernel_rfl
theorem c6_53e : c6_53 = .region 17 r6_53 false := by kernel_rfl
theorem c6_54e : c6_54 = .ret := by kernel_rfl
theorem c6_55e : c6_55 = .skip := by kernel_rfl
theorem c6_56e : c6_56 = .region 18 r6_56 false := by kernel_rfl
theorem c6_57e : c6_57 = .seq c6_58 c6_59 := by kernel_rfl
theorem c6_58e : c6_58 = .region 19 r6_58 false := by kernel_rfl
theorem c6_59e : c6_59 = .ret := by kernel_rfl
noncomputable def tontinelaw15_SessionNone.R : Pst Bool where
  ε := Unit
  v := fun r x => .bool r
  H := fun r x => []
  B := fun r x => []
noncomputable def tontinelaw15_SessionNone.cx (w0 : World) (S0 : Fam) : Cx Bool := ⟨Try.prog, 6, Try.f6, 113, w0, S0, [], 0, tontinelaw15_SessionNone.R⟩
theorem tontinelaw15_SessionNone_j1_ok (n : Nat) (L0 : Int → Int → (List T_session_Row) → Int → Option Bool) (more_3 : Int) (f_28 : Int) (f_29 : Int) (f_30 : (List T_session_Row)) (x_33 : Int) (r_35 : Int × Int × T_session_Table) (b_25 : Nat) (A_31 : Option Addr) (c_32 : Nat) (A_36 : Option Addr) (c_37 : Nat) (w0 : World) (S0 : Fam) (ih0 : ∀ (f_28 : Int) (f_29 : Int) (f_30 : (List T_session_Row)) (x_33 : Int) (A_31 : Option Addr) (c_32 : Nat), GoO (tontinelaw15_SessionNone.cx w0 S0) [(2, .int .i64 ((wi64 ((more_3.tmod 50) + 50)).tmod 50)), (12, .pointer (some ⟨b_25, 0, none⟩)), (69, .int .i64 ((wi64 ((more_3.tmod 50) + 50)).tmod 50)), (70, .int .i64 x_33)] [⟨44, b_25, [.int .u64 f_28, .int .u64 f_29, .slice A_31 f_30.length c_32]⟩] [Ow 45 kT_session_Row A_31 c_32 f_30] [.code c6_37, .inLoop c6_37, .inBlock 0, .code c6_57] (L0 f_28 f_29 f_30 x_33)) (b_45 : Bool) :
    GoO (tontinelaw15_SessionNone.cx w0 S0) [(2, .int .i64 ((wi64 ((more_3.tmod 50) + 50)).tmod 50)), (12, .pointer (some ⟨b_25, 0, none⟩)), (69, .int .i64 ((wi64 ((more_3.tmod 50) + 50)).tmod 50)), (70, .int .i64 x_33), (105, .bool b_45)] [⟨44, b_25, [.int .u64 r_35.2.2.now, .int .u64 r_35.2.2.next, .slice A_36 r_35.2.2.rows.length c_37]⟩] [Ow 45 kT_session_Row A_36 c_37 r_35.2.2.rows] [.code c6_51, .inBlock 1, .code c6_56, .inLoop c6_37, .inBlock 0, .code c6_57] (tontinelaw15_SessionNone.j1 n L0 x_33 r_35 b_45) := by
  unfold tontinelaw15_SessionNone.j1
  refine GoO.ite' c6_51e (by kernel_rfl) (fun h46 => ?_) (fun h46 => ?_)
  · refine GoO.seq' c6_52e ?_
    refine GoO.region' (is := [0]) c6_53e (by kernel_rfl) ?_
    refine GoO.exec (is := [0]) (hs := [.p]) (rest := []) (ks := [6]) (env' := [(6, .bool false)]) (H' := [⟨44, b_25, [.int .u64 r_35.2.2.now, .int .u64 r_35.2.2.next, .slice A_36 r_35.2.2.rows.length c_37]⟩]) (ps := []) (by kernel_rfl) trivial ?_
    refine GoO.regionEnd ?_
    exact GoO.ret' (h := c6_54e) (hs := []) (ps := []) (hk := []) (bk := []) Try.func6 () (by kernel_rfl) trivial (by kernel_rfl) (by kernel_rfl)
  · refine GoO.skip' c6_55e ?_
    refine GoO.inBlock ?_
    refine GoO.region' (is := [0, 1]) c6_56e (by kernel_rfl) ?_
    refine GoO.exec (is := [0, 1]) (hs := [.p, .p]) (rest := []) (ks := [2, 12, 69, 70]) (env' := [(2, .int .i64 ((wi64 ((more_3.tmod 50) + 50)).tmod 50)), (12, .pointer (some ⟨b_25, 0, none⟩)), (69, .int .i64 ((wi64 ((more_3.tmod 50) + 50)).tmod 50)), (70, .int .i64 (wi64 (x_33 + 1)))]) (H' := [⟨44, b_25, [.int .u64 r_35.2.2.now, .int .u64 r_35.2.2.next, .slice A_36 r_35.2.2.rows.length c_37]⟩]) (ps := []) (by kernel_rfl) trivial ?_
    refine GoO.regionEnd ?_
    refine GoO.inLoop ?_
    exact GoO.sub (ks := [2, 12, 69, 70]) (hk := [0]) (bk := [0]) (by kernel_rfl) (by kernel_rfl) (by kernel_rfl) (ih0 r_35.2.2.now r_35.2.2.next r_35.2.2.rows (wi64 (x_33 + 1)) A_36 c_37)
theorem tontinelaw15_SessionNone_l0_ok (n : Nat) (more_3 : Int) (b_25 : Nat) (w0 : World) (S0 : Fam) :
    ∀ (k : Nat) (f_28 : Int) (f_29 : Int) (f_30 : (List T_session_Row)) (x_33 : Int) (A_31 : Option Addr) (c_32 : Nat), GoO (tontinelaw15_SessionNone.cx w0 S0) [(2, .int .i64 ((wi64 ((more_3.tmod 50) + 50)).tmod 50)), (12, .pointer (some ⟨b_25, 0, none⟩)), (69, .int .i64 ((wi64 ((more_3.tmod 50) + 50)).tmod 50)), (70, .int .i64 x_33)] [⟨44, b_25, [.int .u64 f_28, .int .u64 f_29, .slice A_31 f_30.length c_32]⟩] [Ow 45 kT_session_Row A_31 c_32 f_30] [.code c6_37, .inLoop c6_37, .inBlock 0, .code c6_57] (tontinelaw15_SessionNone.l0 n more_3 k f_28 f_29 f_30 x_33) := by
  intro k
  induction k with
  | zero => intros; rw [tontinelaw15_SessionNone.l0.eq_1]; exact GoO.stop
  | succ k ih0 =>
    intro f_28 f_29 f_30 x_33 A_31 c_32
    rw [tontinelaw15_SessionNone.l0.eq_2]
    refine GoO.seq' c6_37e ?_
    refine GoO.region' (is := [0]) c6_38e (by kernel_rfl) ?_
    refine GoO.exec (is := [0]) (hs := [.p]) (rest := []) (ks := [2, 12, 69, 70, 71]) (env' := [(2, .int .i64 ((wi64 ((more_3.tmod 50) + 50)).tmod 50)), (12, .pointer (some ⟨b_25, 0, none⟩)), (69, .int .i64 ((wi64 ((more_3.tmod 50) + 50)).tmod 50)), (70, .int .i64 x_33), (71, .bool (decide (x_33 < ((wi64 ((more_3.tmod 50) + 50)).tmod 50))))]) (H' := [⟨44, b_25, [.int .u64 f_28, .int .u64 f_29, .slice A_31 f_30.length c_32]⟩]) (ps := []) (by kernel_rfl) trivial ?_
    refine GoO.regionEnd ?_
    refine GoO.seq' c6_39e ?_
    refine GoO.ite' c6_40e (by kernel_rfl) (fun h34 => ?_) (fun h34 => ?_)
    · refine GoO.skip' c6_41e ?_
      refine GoO.seq' c6_43e ?_
      refine GoO.block' c6_44e ?_
      refine GoO.seq' c6_45e ?_
      refine GoO.region' (is := [0, 1]) c6_46e (by kernel_rfl) ?_
      refine GoO.exec (is := [0, 1]) (hs := [.p, .p]) (rest := []) (ks := [2, 12, 13, 69, 70]) (env' := [(2, .int .i64 ((wi64 ((more_3.tmod 50) + 50)).tmod 50)), (12, .pointer (some ⟨b_25, 0, none⟩)), (13, .int .i64 x_33), (69, .int .i64 ((wi64 ((more_3.tmod 50) + 50)).tmod 50)), (70, .int .i64 x_33)]) (H' := [⟨44, b_25, [.int .u64 f_28, .int .u64 f_29, .slice A_31 f_30.length c_32]⟩]) (ps := []) (by kernel_rfl) trivial ?_
      refine GoO.regionEnd ?_
      refine GoO.seq' c6_47e ?_
      refine GoO.region' (is := [0, 1, 2, 3, 4, 5, 6]) c6_48e (by kernel_rfl) ?_
      refine GoO.exec (is := [0]) (hs := [.p]) (rest := [1, 2, 3, 4, 5, 6]) (ks := [2, 12, 13, 69, 70, 74]) (env' := [(2, .int .i64 ((wi64 ((more_3.tmod 50) + 50)).tmod 50)), (12, .pointer (some ⟨b_25, 0, none⟩)), (13, .int .i64 x_33), (69, .int .i64 ((wi64 ((more_3.tmod 50) + 50)).tmod 50)), (70, .int .i64 x_33), (74, .pointer (some ⟨b_25, 0, none⟩))]) (H' := [⟨44, b_25, [.int .u64 f_28, .int .u64 f_29, .slice A_31 f_30.length c_32]⟩]) (ps := []) (by kernel_rfl) trivial ?_
      refine OpTo.go (GoO.call rfl (by kernel_rfl) (by kernel_rfl) (session_Table_Register_ok n (⟨f_28, f_29, f_30⟩ : T_session_Table) b_25 A_31 c_32) [[0], [44], [45]] [(44, 1), (45, 2)] [(1, 0)] [(2, 0)] (hks := []) (bks := []) (by kernel_rfl) (by kernel_rfl) (by kernel_rfl) (.inl rfl) rfl rfl (by kernel_rfl) (by kernel_rfl) _ (fun _ _ => rfl) _ _ (fun _ _ => rfl) (fun _ _ => rfl) (fun _ _ => by kernel_rfl) (fun _ _ => by kernel_rfl) (fun r_35 x_47 => ?_))
      obtain ⟨A_36, c_37⟩ := x_47
      refine GoO.shape (env' := [(2, .int .i64 ((wi64 ((more_3.tmod 50) + 50)).tmod 50)), (12, .pointer (some ⟨b_25, 0, none⟩)), (13, .int .i64 x_33), (69, .int .i64 ((wi64 ((more_3.tmod 50) + 50)).tmod 50)), (70, .int .i64 x_33), (74, .pointer (some ⟨b_25, 0, none⟩)), (75, .tuple ⟨[.int .u64 r_35.1, .int .i64 r_35.2.1]⟩)]) (H' := [⟨44, b_25, [.int .u64 r_35.2.2.now, .int .u64 r_35.2.2.next, .slice A_36 r_35.2.2.rows.length c_37]⟩]) (B' := [Ow 45 kT_session_Row A_36 c_37 r_35.2.2.rows]) (ks := [2, 12, 13, 69, 70, 74, 75]) (by kernel_rfl) (by kernel_rfl) (by kernel_rfl) ?_
      refine GoO.exec (is := [2, 3, 4, 5, 6]) (hs := [.p, .p, .p, .p, .p]) (rest := []) (ks := [2, 12, 13, 14, 15, 69, 70]) (env' := [(2, .int .i64 ((wi64 ((more_3.tmod 50) + 50)).tmod 50)), (12, .pointer (some ⟨b_25, 0, none⟩)), (13, .int .i64 x_33), (14, .int .u64 r_35.1), (15, .int .i64 r_35.2.1), (69, .int .i64 ((wi64 ((more_3.tmod 50) + 50)).tmod 50)), (70, .int .i64 x_33)]) (H' := [⟨44, b_25, [.int .u64 r_35.2.2.now, .int .u64 r_35.2.2.next, .slice A_36 r_35.2.2.rows.length c_37]⟩]) (ps := []) (by kernel_rfl) trivial ?_
      refine GoO.regionEnd ?_
      refine GoO.seq' c6_49e ?_
      refine GoO.region' (is := [0, 1, 2, 3, 4, 5, 6, 7, 8, 9, 10, 11, 12, 13, 14, 15, 16, 17, 18, 19, 20, 21, 22, 23, 24, 25, 26, 27]) c6_50e (by kernel_rfl) ?_
      refine GoO.exec (is := [0, 1, 2, 3, 4, 5]) (hs := [.p, .p, .p, .p, .p, .p]) (rest := [6, 7, 8, 9, 10, 11, 12, 13, 14, 15, 16, 17, 18, 19, 20, 21, 22, 23, 24, 25, 26, 27]) (ks := [2, 12, 13, 14, 15, 69, 70, 83]) (env' := [(2, .int .i64 ((wi64 ((more_3.tmod 50) + 50)).tmod 50)), (12, .pointer (some ⟨b_25, 0, none⟩)), (13, .int .i64 x_33), (14, .int .u64 r_35.1), (15, .int .i64 r_35.2.1), (69, .int .i64 ((wi64 ((more_3.tmod 50) + 50)).tmod 50)), (70, .int .i64 x_33), (83, .bool (!((r_35.2.1 == 0) == (decide (x_33 < 16)))))]) (H' := [⟨44, b_25, [.int .u64 r_35.2.2.now, .int .u64 r_35.2.2.next, .slice A_36 r_35.2.2.rows.length c_37]⟩]) (ps := []) (by kernel_rfl) trivial ?_
      refine GoO.bsplit (t := 83) (by kernel_rfl) (fun h38 => ?_) (fun h38 => ?_)
      · refine GoO.exec (is := [6, 7, 8, 9, 10, 11, 12, 13, 14, 15, 16, 17, 18, 19, 20, 21, 22, 23, 24, 25, 26, 27]) (hs := [.p, .p, .p, .p, .p, .p, .p, .p, .p, .p, .p, .p, .p, .p, .p, .p, .p, .p, .p, .p, .p, .p]) (rest := []) (ks := [2, 12, 69, 70, 105]) (env' := [(2, .int .i64 ((wi64 ((more_3.tmod 50) + 50)).tmod 50)), (12, .pointer (some ⟨b_25, 0, none⟩)), (69, .int .i64 ((wi64 ((more_3.tmod 50) + 50)).tmod 50)), (70, .int .i64 x_33), (105, .bool true)]) (H' := [⟨44, b_25, [.int .u64 r_35.2.2.now, .int .u64 r_35.2.2.next, .slice A_36 r_35.2.2.rows.length c_37]⟩]) (ps := []) (by kernel_rfl) trivial ?_
        refine GoO.regionEnd ?_
        exact GoO.sub (ks := [2, 12, 69, 70, 105]) (hk := [0]) (bk := [0]) (by kernel_rfl) (by kernel_rfl) (by kernel_rfl) (tontinelaw15_SessionNone_j1_ok n (tontinelaw15_SessionNone.l0 n more_3 k) more_3 f_28 f_29 f_30 x_33 r_35 b_25 A_31 c_32 A_36 c_37 w0 S0 ih0 true)
      · refine GoO.exec (is := [6, 7, 8]) (hs := [.p, .p, .p]) (rest := [9, 10, 11, 12, 13, 14, 15, 16, 17, 18, 19, 20, 21, 22, 23, 24, 25, 26, 27]) (ks := [2, 12, 13, 14, 15, 69, 70, 83, 86]) (env' := [(2, .int .i64 ((wi64 ((more_3.tmod 50) + 50)).tmod 50)), (12, .pointer (some ⟨b_25, 0, none⟩)), (13, .int .i64 x_33), (14, .int .u64 r_35.1), (15, .int .i64 r_35.2.1), (69, .int .i64 ((wi64 ((more_3.tmod 50) + 50)).tmod 50)), (70, .int .i64 x_33), (83, .bool false), (86, .bool (r_35.2.1 == 0))]) (H' := [⟨44, b_25, [.int .u64 r_35.2.2.now, .int .u64 r_35.2.2.next, .slice A_36 r_35.2.2.rows.length c_37]⟩]) (ps := []) (by kernel_rfl) trivial ?_
        refine GoO.bsplit (t := 86) (by kernel_rfl) (fun h39 => ?_) (fun h39 => ?_)
        · refine GoO.exec (is := [9, 10, 11, 12, 13, 14, 15, 16]) (hs := [.p, .p, .p, .p, .p, .p, .p, .p]) (rest := [17, 18, 19, 20, 21, 22, 23, 24, 25, 26, 27]) (ks := [2, 12, 14, 15, 69, 70, 94]) (env' := [(2, .int .i64 ((wi64 ((more_3.tmod 50) + 50)).tmod 50)), (12, .pointer (some ⟨b_25, 0, none⟩)), (14, .int .u64 r_35.1), (15, .int .i64 r_35.2.1), (69, .int .i64 ((wi64 ((more_3.tmod 50) + 50)).tmod 50)), (70, .int .i64 x_33), (94, .bool (r_35.1 != (wu64 (wi64 (x_33 + 1)))))]) (H' := [⟨44, b_25, [.int .u64 r_35.2.2.now, .int .u64 r_35.2.2.next, .slice A_36 r_35.2.2.rows.length c_37]⟩]) (ps := []) (by kernel_rfl) trivial ?_
          refine GoO.bsplit (t := 94) (by kernel_rfl) (fun h40 => ?_) (fun h40 => ?_)
          · refine GoO.exec (is := [17, 18, 19, 20, 21, 22, 23, 24, 25, 26, 27]) (hs := [.p, .p, .p, .p, .p, .p, .p, .p, .p, .p, .p]) (rest := []) (ks := [2, 12, 69, 70, 105]) (env' := [(2, .int .i64 ((wi64 ((more_3.tmod 50) + 50)).tmod 50)), (12, .pointer (some ⟨b_25, 0, none⟩)), (69, .int .i64 ((wi64 ((more_3.tmod 50) + 50)).tmod 50)), (70, .int .i64 x_33), (105, .bool true)]) (H' := [⟨44, b_25, [.int .u64 r_35.2.2.now, .int .u64 r_35.2.2.next, .slice A_36 r_35.2.2.rows.length c_37]⟩]) (ps := []) (by kernel_rfl) trivial ?_
            refine GoO.regionEnd ?_
            exact GoO.sub (ks := [2, 12, 69, 70, 105]) (hk := [0]) (bk := [0]) (by kernel_rfl) (by kernel_rfl) (by kernel_rfl) (tontinelaw15_SessionNone_j1_ok n (tontinelaw15_SessionNone.l0 n more_3 k) more_3 f_28 f_29 f_30 x_33 r_35 b_25 A_31 c_32 A_36 c_37 w0 S0 ih0 true)
          · refine GoO.exec (is := [17, 18, 19]) (hs := [.p, .p, .p]) (rest := [20, 21, 22, 23, 24, 25, 26, 27]) (ks := [2, 12, 14, 15, 69, 70, 94, 97]) (env' := [(2, .int .i64 ((wi64 ((more_3.tmod 50) + 50)).tmod 50)), (12, .pointer (some ⟨b_25, 0, none⟩)), (14, .int .u64 r_35.1), (15, .int .i64 r_35.2.1), (69, .int .i64 ((wi64 ((more_3.tmod 50) + 50)).tmod 50)), (70, .int .i64 x_33), (94, .bool false), (97, .bool (r_35.2.1 != 0))]) (H' := [⟨44, b_25, [.int .u64 r_35.2.2.now, .int .u64 r_35.2.2.next, .slice A_36 r_35.2.2.rows.length c_37]⟩]) (ps := []) (by kernel_rfl) trivial ?_
            refine GoO.bsplit (t := 97) (by kernel_rfl) (fun h41 => ?_) (fun h41 => ?_)
            · refine GoO.exec (is := [20, 21, 22]) (hs := [.p, .p, .p]) (rest := [23, 24, 25, 26, 27]) (ks := [2, 12, 14, 69, 70, 94, 97, 100]) (env' := [(2, .int .i64 ((wi64 ((more_3.tmod 50) + 50)).tmod 50)), (12, .pointer (some ⟨b_25, 0, none⟩)), (14, .int .u64 r_35.1), (69, .int .i64 ((wi64 ((more_3.tmod 50) + 50)).tmod 50)), (70, .int .i64 x_33), (94, .bool false), (97, .bool true), (100, .bool (r_35.2.1 != 11))]) (H' := [⟨44, b_25, [.int .u64 r_35.2.2.now, .int .u64 r_35.2.2.next, .slice A_36 r_35.2.2.rows.length c_37]⟩]) (ps := []) (by kernel_rfl) trivial ?_
              refine GoO.bsplit (t := 100) (by kernel_rfl) (fun h42 => ?_) (fun h42 => ?_)
              · refine GoO.exec (is := [23, 24, 25, 26, 27]) (hs := [.p, .p, .p, .p, .p]) (rest := []) (ks := [2, 12, 69, 70, 105]) (env' := [(2, .int .i64 ((wi64 ((more_3.tmod 50) + 50)).tmod 50)), (12, .pointer (some ⟨b_25, 0, none⟩)), (69, .int .i64 ((wi64 ((more_3.tmod 50) + 50)).tmod 50)), (70, .int .i64 x_33), (105, .bool true)]) (H' := [⟨44, b_25, [.int .u64 r_35.2.2.now, .int .u64 r_35.2.2.next, .slice A_36 r_35.2.2.rows.length c_37]⟩]) (ps := []) (by kernel_rfl) trivial ?_
                refine GoO.regionEnd ?_
                exact GoO.sub (ks := [2, 12, 69, 70, 105]) (hk := [0]) (bk := [0]) (by kernel_rfl) (by kernel_rfl) (by kernel_rfl) (tontinelaw15_SessionNone_j1_ok n (tontinelaw15_SessionNone.l0 n more_3 k) more_3 f_28 f_29 f_30 x_33 r_35 b_25 A_31 c_32 A_36 c_37 w0 S0 ih0 true)
              · refine GoO.exec (is := [23, 24, 25, 26, 27]) (hs := [.p, .p, .p, .p, .p]) (rest := []) (ks := [2, 12, 69, 70, 105]) (env' := [(2, .int .i64 ((wi64 ((more_3.tmod 50) + 50)).tmod 50)), (12, .pointer (some ⟨b_25, 0, none⟩)), (69, .int .i64 ((wi64 ((more_3.tmod 50) + 50)).tmod 50)), (70, .int .i64 x_33), (105, .bool (r_35.1 != 0))]) (H' := [⟨44, b_25, [.int .u64 r_35.2.2.now, .int .u64 r_35.2.2.next, .slice A_36 r_35.2.2.rows.length c_37]⟩]) (ps := []) (by kernel_rfl) trivial ?_
                refine GoO.regionEnd ?_
                exact GoO.sub (ks := [2, 12, 69, 70, 105]) (hk := [0]) (bk := [0]) (by kernel_rfl) (by kernel_rfl) (by kernel_rfl) (tontinelaw15_SessionNone_j1_ok n (tontinelaw15_SessionNone.l0 n more_3 k) more_3 f_28 f_29 f_30 x_33 r_35 b_25 A_31 c_32 A_36 c_37 w0 S0 ih0 (r_35.1 != 0))
            · refine GoO.exec (is := [20, 21, 22, 23, 24, 25, 26, 27]) (hs := [.p, .p, .p, .p, .p, .p, .p, .p]) (rest := []) (ks := [2, 12, 69, 70, 105]) (env' := [(2, .int .i64 ((wi64 ((more_3.tmod 50) + 50)).tmod 50)), (12, .pointer (some ⟨b_25, 0, none⟩)), (69, .int .i64 ((wi64 ((more_3.tmod 50) + 50)).tmod 50)), (70, .int .i64 x_33), (105, .bool false)]) (H' := [⟨44, b_25, [.int .u64 r_35.2.2.now, .int .u64 r_35.2.2.next, .slice A_36 r_35.2.2.rows.length c_37]⟩]) (ps := []) (by kernel_rfl) trivial ?_
              refine GoO.regionEnd ?_
              exact GoO.sub (ks := [2, 12, 69, 70, 105]) (hk := [0]) (bk := [0]) (by kernel_rfl) (by kernel_rfl) (by kernel_rfl) (tontinelaw15_SessionNone_j1_ok n (tontinelaw15_SessionNone.l0 n more_3 k) more_3 f_28 f_29 f_30 x_33 r_35 b_25 A_31 c_32 A_36 c_37 w0 S0 ih0 false)
        · refine GoO.exec (is := [9, 10, 11, 12, 13, 14, 15, 16, 17, 18, 19]) (hs := [.p, .p, .p, .p, .p, .p, .p, .p, .p, .p, .p]) (rest := [20, 21, 22, 23, 24, 25, 26, 27]) (ks := [2, 12, 14, 15, 69, 70, 94, 97]) (env' := [(2, .int .i64 ((wi64 ((more_3.tmod 50) + 50)).tmod 50)), (12, .pointer (some ⟨b_25, 0, none⟩)), (14, .int .u64 r_35.1), (15, .int .i64 r_35.2.1), (69, .int .i64 ((wi64 ((more_3.tmod 50) + 50)).tmod 50)), (70, .int .i64 x_33), (94, .bool false), (97, .bool (r_35.2.1 != 0))]) (H' := [⟨44, b_25, [.int .u64 r_35.2.2.now, .int .u64 r_35.2.2.next, .slice A_36 r_35.2.2.rows.length c_37]⟩]) (ps := []) (by kernel_rfl) trivial ?_
          refine GoO.bsplit (t := 97) (by kernel_rfl) (fun h43 => ?_) (fun h43 => ?_)
          · refine GoO.exec (is := [20, 21, 22]) (hs := [.p, .p, .p]) (rest := [23, 24, 25, 26, 27]) (ks := [2, 12, 14, 69, 70, 94, 97, 100]) (env' := [(2, .int .i64 ((wi64 ((more_3.tmod 50) + 50)).tmod 50)), (12, .pointer (some ⟨b_25, 0, none⟩)), (14, .int .u64 r_35.1), (69, .int .i64 ((wi64 ((more_3.tmod 50) + 50)).tmod 50)), (70, .int .i64 x_33), (94, .bool false), (97, .bool true), (100, .bool (r_35.2.1 != 11))]) (H' := [⟨44, b_25, [.int .u64 r_35.2.2.now, .int .u64 r_35.2.2.next, .slice A_36 r_35.2.2.rows.length c_37]⟩]) (ps := []) (by kernel_rfl) trivial ?_
            refine GoO.bsplit (t := 100) (by kernel_rfl) (fun h44 => ?_) (fun h44 => ?_)
            · refine GoO.exec (is := [23, 24, 25, 26, 27]) (hs := [.p, .p, .p, .p, .p]) (rest := []) (ks := [2, 12, 69, 70, 105]) (env' := [(2, .int .i64 ((wi64 ((more_3.tmod 50) + 50)).tmod 50)), (12, .pointer (some ⟨b_25, 0, none⟩)), (69, .int .i64 ((wi64 ((more_3.tmod 50) + 50)).tmod 50)), (70, .int .i64 x_33), (105, .bool true)]) (H' := [⟨44, b_25, [.int .u64 r_35.2.2.now, .int .u64 r_35.2.2.next, .slice A_36 r_35.2.2.rows.length c_37]⟩]) (ps := []) (by kernel_rfl) trivial ?_
              refine GoO.regionEnd ?_
              exact GoO.sub (ks := [2, 12, 69, 70, 105]) (hk := [0]) (bk := [0]) (by kernel_rfl) (by kernel_rfl) (by kernel_rfl) (tontinelaw15_SessionNone_j1_ok n (tontinelaw15_SessionNone.l0 n more_3 k) more_3 f_28 f_29 f_30 x_33 r_35 b_25 A_31 c_32 A_36 c_37 w0 S0 ih0 true)
            · refine GoO.exec (is := [23, 24, 25, 26, 27]) (hs := [.p, .p, .p, .p, .p]) (rest := []) (ks := [2, 12, 69, 70, 105]) (env' := [(2, .int .i64 ((wi64 ((more_3.tmod 50) + 50)).tmod 50)), (12, .pointer (some ⟨b_25, 0, none⟩)), (69, .int .i64 ((wi64 ((more_3.tmod 50) + 50)).tmod 50)), (70, .int .i64 x_33), (105, .bool (r_35.1 != 0))]) (H' := [⟨44, b_25, [.int .u64 r_35.2.2.now, .int .u64 r_35.2.2.next, .slice A_36 r_35.2.2.rows.length c_37]⟩]) (ps := []) (by kernel_rfl) trivial ?_
              refine GoO.regionEnd ?_
              exact GoO.sub (ks := [2, 12, 69, 70, 105]) (hk := [0]) (bk := [0]) (by kernel_rfl) (by kernel_rfl) (by kernel_rfl) (tontinelaw15_SessionNone_j1_ok n (tontinelaw15_SessionNone.l0 n more_3 k) more_3 f_28 f_29 f_30 x_33 r_35 b_25 A_31 c_32 A_36 c_37 w0 S0 ih0 (r_35.1 != 0))
          · refine GoO.exec (is := [20, 21, 22, 23, 24, 25, 26, 27]) (hs := [.p, .p, .p, .p, .p, .p, .p, .p]) (rest := []) (ks := [2, 12, 69, 70, 105]) (env' := [(2, .int .i64 ((wi64 ((more_3.tmod 50) + 50)).tmod 50)), (12, .pointer (some ⟨b_25, 0, none⟩)), (69, .int .i64 ((wi64 ((more_3.tmod 50) + 50)).tmod 50)), (70, .int .i64 x_33), (105, .bool false)]) (H' := [⟨44, b_25, [.int .u64 r_35.2.2.now, .int .u64 r_35.2.2.next, .slice A_36 r_35.2.2.rows.length c_37]⟩]) (ps := []) (by kernel_rfl) trivial ?_
            refine GoO.regionEnd ?_
            exact GoO.sub (ks := [2, 12, 69, 70, 105]) (hk := [0]) (bk := [0]) (by kernel_rfl) (by kernel_rfl) (by kernel_rfl) (tontinelaw15_SessionNone_j1_ok n (tontinelaw15_SessionNone.l0 n more_3 k) more_3 f_28 f_29 f_30 x_33 r_35 b_25 A_31 c_32 A_36 c_37 w0 S0 ih0 false)
    · refine GoO.exit' c6_42e rfl ?_
      refine GoO.seq' c6_57e ?_
      refine GoO.region' (is := [0, 1, 2, 3, 4, 5, 6]) c6_58e (by kernel_rfl) ?_
      refine GoO.exec (is := [0]) (hs := [.p]) (rest := [1, 2, 3, 4, 5, 6]) (ks := [2, 107]) (env' := [(2, .int .i64 ((wi64 ((more_3.tmod 50) + 50)).tmod 50)), (107, .pointer (some ⟨b_25, 0, none⟩))]) (H' := [⟨44, b_25, [.int .u64 f_28, .int .u64 f_29, .slice A_31 f_30.length c_32]⟩]) (ps := []) (by kernel_rfl) trivial ?_
      refine OpTo.go (GoO.call rfl (by kernel_rfl) (by kernel_rfl) (session_Table_Rows_ok n (⟨f_28, f_29, f_30⟩ : T_session_Table) b_25 A_31 c_32) [[0], [44], [45]] [(46, 3)] [(1, 0)] [(2, 0)] (hks := [0]) (bks := [0]) (by kernel_rfl) (by kernel_rfl) (by kernel_rfl) (.inl rfl) rfl rfl (by kernel_rfl) (by kernel_rfl) _ (fun _ _ => rfl) _ _ (fun _ _ => rfl) (fun _ _ => rfl) (fun _ _ => by kernel_rfl) (fun _ _ => by kernel_rfl) (fun r_48 x_51 => ?_))
      obtain ⟨A_49, c_50⟩ := x_51
      refine GoO.shape (env' := [(2, .int .i64 ((wi64 ((more_3.tmod 50) + 50)).tmod 50)), (107, .pointer (some ⟨b_25, 0, none⟩)), (108, .slice A_49 r_48.length c_50)]) (H' := [⟨44, b_25, [.int .u64 f_28, .int .u64 f_29, .slice A_31 f_30.length c_32]⟩]) (B' := [Ow 46 kT_session_Row A_49 c_50 r_48, Ow 45 kT_session_Row A_31 c_32 f_30]) (ks := [2, 107, 108]) (by kernel_rfl) (by kernel_rfl) (by kernel_rfl) ?_
      refine GoO.exec (is := [2, 3, 4, 5, 6]) (hs := [.p, .p, .p, .p, .p]) (rest := []) (ks := [6]) (env' := [(6, .bool ((r_48.length : Int) == (if 16 < ((wi64 ((more_3.tmod 50) + 50)).tmod 50) then 16 else ((wi64 ((more_3.tmod 50) + 50)).tmod 50))))]) (H' := [⟨44, b_25, [.int .u64 f_28, .int .u64 f_29, .slice A_31 f_30.length c_32]⟩]) (ps := []) (by kernel_rfl) trivial ?_
      refine GoO.regionEnd ?_
      exact GoO.ret' (h := c6_59e) (hs := []) (ps := []) (hk := []) (bk := []) Try.func6 () (by kernel_rfl) trivial (by kernel_rfl) (by kernel_rfl)
theorem tontinelaw15_SessionNone_j0_ok (n : Nat) (more_3 : Int) (w0 : World) (S0 : Fam) (b_22 : Bool) :
    GoO (tontinelaw15_SessionNone.cx w0 S0) [(2, .int .i64 more_3), (63, .bool b_22)] [] [] [.code c6_23, .code c6_28] (tontinelaw15_SessionNone.j0 n more_3 b_22) := by
  unfold tontinelaw15_SessionNone.j0
  refine GoO.ite' c6_23e (by kernel_rfl) (fun h23 => ?_) (fun h23 => ?_)
  · refine GoO.seq' c6_24e ?_
    refine GoO.region' (is := [0]) c6_25e (by kernel_rfl) ?_
    refine GoO.exec (is := [0]) (hs := [.p]) (rest := []) (ks := [6]) (env' := [(6, .bool false)]) (H' := []) (ps := []) (by kernel_rfl) trivial ?_
    refine GoO.regionEnd ?_
    exact GoO.ret' (h := c6_26e) (hs := []) (ps := []) (hk := []) (bk := []) Try.func6 () (by kernel_rfl) trivial (by kernel_rfl) (by kernel_rfl)
  · refine GoO.skip' c6_27e ?_
    refine GoO.seq' c6_28e ?_
    refine GoO.region' (is := [0, 1]) c6_29e (by kernel_rfl) ?_
    refine OpTo.go (GoO.call rfl (by kernel_rfl) (by kernel_rfl) (session_New_ok n) [[0]] [(44, 1), (45, 2)] [] [] (hks := []) (bks := []) (by kernel_rfl) (by kernel_rfl) (by kernel_rfl) (.inl rfl) rfl rfl (by kernel_rfl) (by kernel_rfl) _ (fun _ _ => rfl) _ _ (fun _ _ => rfl) (fun _ _ => rfl) (fun _ _ => by kernel_rfl) (fun _ _ => by kernel_rfl) (fun r_24 x_52 => ?_))
    obtain ⟨b_25, A_26, c_27⟩ := x_52
    refine GoO.shape (env' := [(2, .int .i64 more_3), (63, .bool b_22), (64, .pointer (some ⟨b_25, 0, none⟩))]) (H' := [⟨44, b_25, [.int .u64 r_24.now, .int .u64 r_24.next, .slice A_26 r_24.rows.length c_27]⟩]) (B' := [Ow 45 kT_session_Row A_26 c_27 r_24.rows]) (ks := [2, 63, 64]) (by kernel_rfl) (by kernel_rfl) (by kernel_rfl) ?_
    refine GoO.exec (is := [1]) (hs := [.p]) (rest := []) (ks := [2, 12]) (env' := [(2, .int .i64 more_3), (12, .pointer (some ⟨b_25, 0, none⟩))]) (H' := [⟨44, b_25, [.int .u64 r_24.now, .int .u64 r_24.next, .slice A_26 r_24.rows.length c_27]⟩]) (ps := []) (by kernel_rfl) trivial ?_
    refine GoO.regionEnd ?_
    refine GoO.seq' c6_30e ?_
    refine GoO.region' (is := [0, 1, 2, 3, 4]) c6_31e (by kernel_rfl) ?_
    refine GoO.exec (is := [0, 1, 2, 3, 4]) (hs := [.p, .p, .p, .p, .p]) (rest := []) (ks := [2, 12]) (env' := [(2, .int .i64 ((wi64 ((more_3.tmod 50) + 50)).tmod 50)), (12, .pointer (some ⟨b_25, 0, none⟩))]) (H' := [⟨44, b_25, [.int .u64 r_24.now, .int .u64 r_24.next, .slice A_26 r_24.rows.length c_27]⟩]) (ps := [(50 : Int) ≠ 0, (50 : Int) ≠ 0]) (by kernel_rfl) (And.intro (by decide) (And.intro (by decide) trivial)) ?_
    refine GoO.regionEnd ?_
    refine GoO.seq' c6_32e ?_
    refine GoO.seq' c6_33e ?_
    refine GoO.region' (is := [0, 1]) c6_34e (by kernel_rfl) ?_
    refine GoO.exec (is := [0, 1]) (hs := [.p, .p]) (rest := []) (ks := [2, 12, 69, 70]) (env' := [(2, .int .i64 ((wi64 ((more_3.tmod 50) + 50)).tmod 50)), (12, .pointer (some ⟨b_25, 0, none⟩)), (69, .int .i64 ((wi64 ((more_3.tmod 50) + 50)).tmod 50)), (70, .int .i64 0)]) (H' := [⟨44, b_25, [.int .u64 r_24.now, .int .u64 r_24.next, .slice A_26 r_24.rows.length c_27]⟩]) (ps := []) (by kernel_rfl) trivial ?_
    refine GoO.regionEnd ?_
    refine GoO.block' c6_35e ?_
    refine GoO.loop' c6_36e ?_
    exact GoO.sub (ks := [2, 12, 69, 70]) (hk := [0]) (bk := [0]) (by kernel_rfl) (by kernel_rfl) (by kernel_rfl) (tontinelaw15_SessionNone_l0_ok n more_3 b_25 w0 S0 n r_24.now r_24.next r_24.rows 0 A_26 c_27)
theorem tontinelaw15_SessionNone_ok (n : Nat) (id_1 : Int) (seq_2 : Int) (more_3 : Int) :
    Meets Try.prog 6 [.int .u64 id_1, .int .u64 seq_2, .int .i64 more_3] 0 [] [] [] (tontinelaw15_SessionNone.f n id_1 seq_2 more_3) (tontinelaw15_SessionNone.R) := by
  refine Meets.of (c := c6_0) (n := 113) Try.func6 (by kernel_rfl) (by kernel_rfl) (by kernel_rfl) fun w0 S0 => ?_
  unfold tontinelaw15_SessionNone.f
  show GoO (tontinelaw15_SessionNone.cx w0 S0) [(0, .int .u64 id_1), (1, .int .u64 seq_2), (2, .int .i64 more_3)] [] [] [.code c6_0] _
  refine GoO.seq' c6_0e ?_
  refine GoO.region' (is := [0]) c6_1e (by kernel_rfl) ?_
  refine GoO.exec (is := [0]) (hs := [.p]) (rest := []) (ks := [0, 1, 2]) (env' := [(0, .int .u64 id_1), (1, .int .u64 seq_2), (2, .int .i64 more_3)]) (H' := []) (ps := []) (by kernel_rfl) trivial ?_
  refine GoO.regionEnd ?_
  refine GoO.seq' c6_2e ?_
  refine GoO.seq' c6_3e ?_
  refine GoO.region' (is := [0, 1]) c6_4e (by kernel_rfl) ?_
  refine OpTo.go (GoO.call rfl (by kernel_rfl) (by kernel_rfl) (tontinelaw15_begun_ok n) [[0]] [] [] [] (hks := []) (bks := []) (by kernel_rfl) (by kernel_rfl) (by kernel_rfl) (.inl rfl) rfl rfl (by kernel_rfl) (by kernel_rfl) _ (fun _ _ => rfl) _ _ (fun _ _ => rfl) (fun _ _ => rfl) (fun _ _ => by kernel_rfl) (fun _ _ => by kernel_rfl) (fun r_4 x_57 => ?_))
  refine GoO.shape (env' := [(0, .int .u64 id_1), (1, .int .u64 seq_2), (2, .int .i64 more_3), (16, .bool r_4)]) (H' := []) (B' := []) (ks := [0, 1, 2, 16]) (by kernel_rfl) (by kernel_rfl) (by kernel_rfl) ?_
  refine GoO.exec (is := [1]) (hs := [.p]) (rest := []) (ks := [0, 1, 2, 17]) (env' := [(0, .int .u64 id_1), (1, .int .u64 seq_2), (2, .int .i64 more_3), (17, .bool (!r_4))]) (H' := []) (ps := []) (by kernel_rfl) trivial ?_
  refine GoO.regionEnd ?_
  refine GoO.ite' c6_5e (by kernel_rfl) (fun h5 => ?_) (fun h5 => ?_)
  · refine GoO.seq' c6_6e ?_
    refine GoO.region' (is := [0]) c6_7e (by kernel_rfl) ?_
    refine GoO.exec (is := [0]) (hs := [.p]) (rest := []) (ks := [6]) (env' := [(6, .bool false)]) (H' := []) (ps := []) (by kernel_rfl) trivial ?_
    refine GoO.regionEnd ?_
    exact GoO.ret' (h := c6_8e) (hs := []) (ps := []) (hk := []) (bk := []) Try.func6 () (by kernel_rfl) trivial (by kernel_rfl) (by kernel_rfl)
  · refine GoO.skip' c6_9e ?_
    refine GoO.seq' c6_10e ?_
    refine GoO.region' (is := [0]) c6_11e (by kernel_rfl) ?_
    refine GoO.exec (is := [0]) (hs := [.p]) (rest := []) (ks := [0, 1, 2, 7]) (env' := [(0, .int .u64 id_1), (1, .int .u64 seq_2), (2, .int .i64 more_3), (7, .pointer none)]) (H' := []) (ps := []) (by kernel_rfl) trivial ?_
    refine GoO.regionEnd ?_
    refine GoO.seq' c6_12e ?_
    refine GoO.region' (is := [0, 1, 2]) c6_13e (by kernel_rfl) ?_
    refine GoO.exec (is := [0, 1]) (hs := [.p, .p]) (rest := [2]) (ks := [0, 1, 2, 7, 18, 19]) (env' := [(0, .int .u64 id_1), (1, .int .u64 seq_2), (2, .int .i64 more_3), (7, .pointer none), (18, .pointer none), (19, .int .u64 id_1)]) (H' := []) (ps := []) (by kernel_rfl) trivial ?_
    refine OpTo.go (GoO.call rfl (by kernel_rfl) (by kernel_rfl) (session_Table_Clock_n0_ok n id_1) [[0]] [] [] [] (hks := []) (bks := []) (by kernel_rfl) (by kernel_rfl) (by kernel_rfl) (.inl rfl) rfl rfl (by kernel_rfl) (by kernel_rfl) _ (fun _ _ => rfl) _ _ (fun _ _ => rfl) (fun _ _ => rfl) (fun _ _ => by kernel_rfl) (fun _ _ => by kernel_rfl) (fun r_6 x_56 => ?_))
    refine GoO.shape (env' := [(0, .int .u64 id_1), (1, .int .u64 seq_2), (2, .int .i64 more_3), (7, .pointer none), (18, .pointer none), (19, .int .u64 id_1), (20, .tuple ⟨[]⟩)]) (H' := []) (B' := []) (ks := [0, 1, 2, 7, 18, 19, 20]) (by kernel_rfl) (by kernel_rfl) (by kernel_rfl) ?_
    refine GoO.regionEnd ?_
    refine GoO.seq' c6_14e ?_
    refine GoO.region' (is := [0, 1, 2]) c6_15e (by kernel_rfl) ?_
    refine GoO.exec (is := [0]) (hs := [.p]) (rest := [1, 2]) (ks := [0, 1, 2, 7, 21]) (env' := [(0, .int .u64 id_1), (1, .int .u64 seq_2), (2, .int .i64 more_3), (7, .pointer none), (21, .pointer none)]) (H' := []) (ps := []) (by kernel_rfl) trivial ?_
    refine OpTo.go (GoO.new rfl 40 (cs := [.slice none ([] : List UInt8).length 0]) (by kernel_rfl) _ (fun _ => rfl) (fun b_7 => ?_))
    refine GoO.nilOwn Kd.u8 41 ?_
    refine OpTo.go (GoO.call rfl (by kernel_rfl) (by kernel_rfl) (session_Table_Write_n0_ok n (⟨[]⟩ : T_pack_Writer) b_7 none 0) [[0], [40], [41]] [] [(1, 0)] [(2, 0)] (hks := [0]) (bks := [0]) (by kernel_rfl) (by kernel_rfl) (by kernel_rfl) (.inl rfl) rfl rfl (by kernel_rfl) (by kernel_rfl) _ (fun _ _ => rfl) _ _ (fun _ _ => rfl) (fun _ _ => rfl) (fun _ _ => by kernel_rfl) (fun _ _ => by kernel_rfl) (fun r_8 x_55 => ?_))
    refine GoO.shape (env' := [(0, .int .u64 id_1), (1, .int .u64 seq_2), (2, .int .i64 more_3), (7, .pointer none), (21, .pointer none), (22, .pointer (some ⟨b_7, 0, none⟩)), (23, .tuple ⟨[]⟩)]) (H' := [⟨40, b_7, [.slice none ([] : List UInt8).length 0]⟩]) (B' := [Ow 41 Kd.u8 none 0 ([] : List UInt8)]) (ks := [0, 1, 2, 7, 21, 22, 23]) (by kernel_rfl) (by kernel_rfl) (by kernel_rfl) ?_
    refine GoO.regionEnd ?_
    refine GoO.seq' c6_16e ?_
    refine GoO.region' (is := [0, 1, 2, 3, 4, 5, 6]) c6_17e (by kernel_rfl) ?_
    refine GoO.exec (is := [0]) (hs := [.p]) (rest := [1, 2, 3, 4, 5, 6]) (ks := [0, 1, 2, 7, 25]) (env' := [(0, .int .u64 id_1), (1, .int .u64 seq_2), (2, .int .i64 more_3), (7, .pointer none), (25, .pointer none)]) (H' := [⟨40, b_7, [.slice none ([] : List UInt8).length 0]⟩]) (ps := []) (by kernel_rfl) trivial ?_
    refine OpTo.go (GoO.call rfl (by kernel_rfl) (by kernel_rfl) (session_Table_Register_n0_ok n) [[0]] [] [] [] (hks := [0]) (bks := [0]) (by kernel_rfl) (by kernel_rfl) (by kernel_rfl) (.inl rfl) rfl rfl (by kernel_rfl) (by kernel_rfl) _ (fun _ _ => rfl) _ _ (fun _ _ => rfl) (fun _ _ => rfl) (fun _ _ => by kernel_rfl) (fun _ _ => by kernel_rfl) (fun r_9 x_54 => ?_))
    refine GoO.shape (env' := [(0, .int .u64 id_1), (1, .int .u64 seq_2), (2, .int .i64 more_3), (7, .pointer none), (25, .pointer none), (26, .tuple ⟨[.int .u64 r_9.1, .int .i64 r_9.2]⟩)]) (H' := [⟨40, b_7, [.slice none ([] : List UInt8).length 0]⟩]) (B' := [Ow 41 Kd.u8 none 0 ([] : List UInt8)]) (ks := [0, 1, 2, 7, 25, 26]) (by kernel_rfl) (by kernel_rfl) (by kernel_rfl) ?_
    refine GoO.exec (is := [2, 3, 4, 5, 6]) (hs := [.p, .p, .p, .p, .p]) (rest := []) (ks := [0, 1, 2, 7, 9]) (env' := [(0, .int .u64 id_1), (1, .int .u64 seq_2), (2, .int .i64 more_3), (7, .pointer none), (9, .int .i64 r_9.2)]) (H' := [⟨40, b_7, [.slice none ([] : List UInt8).length 0]⟩]) (ps := []) (by kernel_rfl) trivial ?_
    refine GoO.regionEnd ?_
    refine GoO.seq' c6_18e ?_
    refine GoO.region' (is := [0, 1, 2, 3, 4, 5, 6, 7, 8, 9]) c6_19e (by kernel_rfl) ?_
    refine GoO.exec (is := [0, 1, 2]) (hs := [.p, .p, .p]) (rest := [3, 4, 5, 6, 7, 8, 9]) (ks := [0, 1, 2, 7, 9, 30, 31, 32]) (env' := [(0, .int .u64 id_1), (1, .int .u64 seq_2), (2, .int .i64 more_3), (7, .pointer none), (9, .int .i64 r_9.2), (30, .pointer none), (31, .int .u64 id_1), (32, .int .u64 seq_2)]) (H' := [⟨40, b_7, [.slice none ([] : List UInt8).length 0]⟩]) (ps := []) (by kernel_rfl) trivial ?_
    refine OpTo.go (GoO.call rfl (by kernel_rfl) (by kernel_rfl) (session_Table_Begin_n0_ok n id_1 seq_2) [[0]] [] [] [] (hks := [0]) (bks := [0]) (by kernel_rfl) (by kernel_rfl) (by kernel_rfl) (.inl rfl) rfl rfl (by kernel_rfl) (by kernel_rfl) _ (fun _ _ => rfl) _ _ (fun _ _ => rfl) (fun _ _ => rfl) (fun _ _ => by kernel_rfl) (fun _ _ => by kernel_rfl) (fun r_10 x_53 => ?_))
    refine GoO.shape (env' := [(0, .int .u64 id_1), (1, .int .u64 seq_2), (2, .int .i64 more_3), (7, .pointer none), (9, .int .i64 r_9.2), (30, .pointer none), (31, .int .u64 id_1), (32, .int .u64 seq_2), (33, .tuple ⟨[.agg ⟨[.int .i64 r_10.1.Err, .int .u64 r_10.1.Num, .int .u64 r_10.1.Extra]⟩, .bool r_10.2]⟩)]) (H' := [⟨40, b_7, [.slice none ([] : List UInt8).length 0]⟩]) (B' := [Ow 41 Kd.u8 none 0 ([] : List UInt8)]) (ks := [0, 1, 2, 7, 9, 30, 31, 32, 33]) (by kernel_rfl) (by kernel_rfl) (by kernel_rfl) ?_
    refine GoO.exec (is := [4, 5, 6]) (hs := [.p, .p, .p]) (rest := [7, 8, 9]) (ks := [0, 1, 2, 7, 9, 34, 35]) (env' := [(0, .int .u64 id_1), (1, .int .u64 seq_2), (2, .int .i64 more_3), (7, .pointer none), (9, .int .i64 r_9.2), (34, .agg ⟨[.int .i64 r_10.1.Err, .int .u64 r_10.1.Num, .int .u64 r_10.1.Extra]⟩), (35, .bool r_10.2)]) (H' := [⟨40, b_7, [.slice none ([] : List UInt8).length 0]⟩]) (ps := []) (by kernel_rfl) trivial ?_
    refine OpTo.go (GoO.new rfl 42 (cs := [.int .i64 0, .int .u64 0, .int .u64 0]) (by kernel_rfl) _ (fun _ => rfl) (fun b_11 => ?_))
    refine GoO.exec (is := [8, 9]) (hs := [.b 0, .p]) (rest := []) (ks := [0, 1, 2, 7, 9, 10, 11]) (env' := [(0, .int .u64 id_1), (1, .int .u64 seq_2), (2, .int .i64 more_3), (7, .pointer none), (9, .int .i64 r_9.2), (10, .pointer (some ⟨b_11, 0, none⟩)), (11, .bool r_10.2)]) (H' := [⟨42, b_11, [.int .i64 r_10.1.Err, .int .u64 r_10.1.Num, .int .u64 r_10.1.Extra]⟩, ⟨40, b_7, [.slice none ([] : List UInt8).length 0]⟩]) (ps := [b_11 = b_11]) (by kernel_rfl) (And.intro rfl trivial) ?_
    refine GoO.regionEnd ?_
    refine GoO.seq' c6_20e ?_
    refine GoO.seq' c6_21e ?_
    refine GoO.region' (is := [0, 1, 2, 3, 4, 5, 6, 7, 8, 9, 10, 11, 12, 13, 14, 15, 16, 17, 18, 19, 20, 21, 22, 23, 24, 25, 26, 27]) c6_22e (by kernel_rfl) ?_
    refine GoO.exec (is := [0]) (hs := [.p]) (rest := [1, 2, 3, 4, 5, 6, 7, 8, 9, 10, 11, 12, 13, 14, 15, 16, 17, 18, 19, 20, 21, 22, 23, 24, 25, 26, 27]) (ks := [0, 1, 2, 7, 9, 10, 11, 36]) (env' := [(0, .int .u64 id_1), (1, .int .u64 seq_2), (2, .int .i64 more_3), (7, .pointer none), (9, .int .i64 r_9.2), (10, .pointer (some ⟨b_11, 0, none⟩)), (11, .bool r_10.2), (36, .pointer none)]) (H' := [⟨42, b_11, [.int .i64 r_10.1.Err, .int .u64 r_10.1.Num, .int .u64 r_10.1.Extra]⟩, ⟨40, b_7, [.slice none ([] : List UInt8).length 0]⟩]) (ps := []) (by kernel_rfl) trivial ?_
    refine OpTo.go (GoO.call rfl (by kernel_rfl) (by kernel_rfl) (session_Table_Now_n0_ok n) [[0]] [] [] [] (hks := [0, 1]) (bks := [0]) (by kernel_rfl) (by kernel_rfl) (by kernel_rfl) (.inl rfl) rfl rfl (by kernel_rfl) (by kernel_rfl) _ (fun _ _ => rfl) _ _ (fun _ _ => rfl) (fun _ _ => rfl) (fun _ _ => by kernel_rfl) (fun _ _ => by kernel_rfl) (fun r_12 x_24 => ?_))
    refine GoO.shape (env' := [(0, .int .u64 id_1), (1, .int .u64 seq_2), (2, .int .i64 more_3), (7, .pointer none), (9, .int .i64 r_9.2), (10, .pointer (some ⟨b_11, 0, none⟩)), (11, .bool r_10.2), (36, .pointer none), (37, .int .u64 r_12)]) (H' := [⟨42, b_11, [.int .i64 r_10.1.Err, .int .u64 r_10.1.Num, .int .u64 r_10.1.Extra]⟩, ⟨40, b_7, [.slice none ([] : List UInt8).length 0]⟩]) (B' := [Ow 41 Kd.u8 none 0 ([] : List UInt8)]) (ks := [0, 1, 2, 7, 9, 10, 11, 36, 37]) (by kernel_rfl) (by kernel_rfl) (by kernel_rfl) ?_
    refine GoO.exec (is := [2, 3]) (hs := [.p, .p]) (rest := [4, 5, 6, 7, 8, 9, 10, 11, 12, 13, 14, 15, 16, 17, 18, 19, 20, 21, 22, 23, 24, 25, 26, 27]) (ks := [0, 1, 2, 7, 9, 10, 11, 39]) (env' := [(0, .int .u64 id_1), (1, .int .u64 seq_2), (2, .int .i64 more_3), (7, .pointer none), (9, .int .i64 r_9.2), (10, .pointer (some ⟨b_11, 0, none⟩)), (11, .bool r_10.2), (39, .bool (r_12 != 0))]) (H' := [⟨42, b_11, [.int .i64 r_10.1.Err, .int .u64 r_10.1.Num, .int .u64 r_10.1.Extra]⟩, ⟨40, b_7, [.slice none ([] : List UInt8).length 0]⟩]) (ps := []) (by kernel_rfl) trivial ?_
    refine GoO.bsplit (t := 39) (by kernel_rfl) (fun h13 => ?_) (fun h13 => ?_)
    · refine GoO.exec (is := [4, 5, 6, 7, 8, 9, 10, 11, 12, 13, 14, 15, 16, 17, 18, 19, 20, 21, 22, 23, 24, 25, 26, 27]) (hs := [.p, .p, .p, .p, .p, .p, .p, .p, .p, .p, .p, .p, .p, .p, .p, .p, .p, .p, .p, .p, .p, .p, .p, .p]) (rest := []) (ks := [2, 63]) (env' := [(2, .int .i64 more_3), (63, .bool true)]) (H' := [⟨42, b_11, [.int .i64 r_10.1.Err, .int .u64 r_10.1.Num, .int .u64 r_10.1.Extra]⟩, ⟨40, b_7, [.slice none ([] : List UInt8).length 0]⟩]) (ps := []) (by kernel_rfl) trivial ?_
      refine GoO.regionEnd ?_
      exact GoO.sub (ks := [2, 63]) (hk := []) (bk := []) (by kernel_rfl) (by kernel_rfl) (by kernel_rfl) (tontinelaw15_SessionNone_j0_ok n more_3 w0 S0 true)
    · refine GoO.exec (is := [4, 5, 6, 7]) (hs := [.p, .p, .p, .p]) (rest := [8, 9, 10, 11, 12, 13, 14, 15, 16, 17, 18, 19, 20, 21, 22, 23, 24, 25, 26, 27]) (ks := [0, 1, 2, 7, 10, 11, 43]) (env' := [(0, .int .u64 id_1), (1, .int .u64 seq_2), (2, .int .i64 more_3), (7, .pointer none), (10, .pointer (some ⟨b_11, 0, none⟩)), (11, .bool r_10.2), (43, .bool (r_9.2 != 11))]) (H' := [⟨42, b_11, [.int .i64 r_10.1.Err, .int .u64 r_10.1.Num, .int .u64 r_10.1.Extra]⟩, ⟨40, b_7, [.slice none ([] : List UInt8).length 0]⟩]) (ps := []) (by kernel_rfl) trivial ?_
      refine GoO.bsplit (t := 43) (by kernel_rfl) (fun h14 => ?_) (fun h14 => ?_)
      · refine GoO.exec (is := [8, 9, 10, 11, 12, 13, 14, 15, 16, 17, 18, 19, 20, 21, 22, 23, 24, 25, 26, 27]) (hs := [.p, .p, .p, .p, .p, .p, .p, .p, .p, .p, .p, .p, .p, .p, .p, .p, .p, .p, .p, .p]) (rest := []) (ks := [2, 63]) (env' := [(2, .int .i64 more_3), (63, .bool true)]) (H' := [⟨42, b_11, [.int .i64 r_10.1.Err, .int .u64 r_10.1.Num, .int .u64 r_10.1.Extra]⟩, ⟨40, b_7, [.slice none ([] : List UInt8).length 0]⟩]) (ps := []) (by kernel_rfl) trivial ?_
        refine GoO.regionEnd ?_
        exact GoO.sub (ks := [2, 63]) (hk := []) (bk := []) (by kernel_rfl) (by kernel_rfl) (by kernel_rfl) (tontinelaw15_SessionNone_j0_ok n more_3 w0 S0 true)
      · refine GoO.exec (is := [8, 9, 10]) (hs := [.p, .p, .p]) (rest := [11, 12, 13, 14, 15, 16, 17, 18, 19, 20, 21, 22, 23, 24, 25, 26, 27]) (ks := [0, 1, 2, 7, 10, 46]) (env' := [(0, .int .u64 id_1), (1, .int .u64 seq_2), (2, .int .i64 more_3), (7, .pointer none), (10, .pointer (some ⟨b_11, 0, none⟩)), (46, .bool r_10.2)]) (H' := [⟨42, b_11, [.int .i64 r_10.1.Err, .int .u64 r_10.1.Num, .int .u64 r_10.1.Extra]⟩, ⟨40, b_7, [.slice none ([] : List UInt8).length 0]⟩]) (ps := []) (by kernel_rfl) trivial ?_
        refine GoO.bsplit (t := 46) (by kernel_rfl) (fun h15 => ?_) (fun h15 => ?_)
        · refine GoO.exec (is := [11, 12, 13, 14, 15, 16, 17, 18, 19, 20, 21, 22, 23, 24, 25, 26, 27]) (hs := [.p, .p, .p, .p, .p, .p, .p, .p, .p, .p, .p, .p, .p, .p, .p, .p, .p]) (rest := []) (ks := [2, 63]) (env' := [(2, .int .i64 more_3), (63, .bool true)]) (H' := [⟨42, b_11, [.int .i64 r_10.1.Err, .int .u64 r_10.1.Num, .int .u64 r_10.1.Extra]⟩, ⟨40, b_7, [.slice none ([] : List UInt8).length 0]⟩]) (ps := []) (by kernel_rfl) trivial ?_
          refine GoO.regionEnd ?_
          exact GoO.sub (ks := [2, 63]) (hk := []) (bk := []) (by kernel_rfl) (by kernel_rfl) (by kernel_rfl) (tontinelaw15_SessionNone_j0_ok n more_3 w0 S0 true)
        · refine GoO.exec (is := [11, 12, 13, 14, 15]) (hs := [.p, .b 0, .p, .p, .p]) (rest := [16, 17, 18, 19, 20, 21, 22, 23, 24, 25, 26, 27]) (ks := [0, 1, 2, 7, 10, 51]) (env' := [(0, .int .u64 id_1), (1, .int .u64 seq_2), (2, .int .i64 more_3), (7, .pointer none), (10, .pointer (some ⟨b_11, 0, none⟩)), (51, .bool (r_10.1.Err != 40))]) (H' := [⟨42, b_11, [.int .i64 r_10.1.Err, .int .u64 r_10.1.Num, .int .u64 r_10.1.Extra]⟩, ⟨40, b_7, [.slice none ([] : List UInt8).length 0]⟩]) (ps := [b_11 = b_11]) (by kernel_rfl) (And.intro rfl trivial) ?_
          refine GoO.bsplit (t := 51) (by kernel_rfl) (fun h16 => ?_) (fun h16 => ?_)
          · refine GoO.exec (is := [16, 17, 18, 19, 20, 21, 22, 23, 24, 25, 26, 27]) (hs := [.p, .p, .p, .p, .p, .p, .p, .p, .p, .p, .p, .p]) (rest := []) (ks := [2, 63]) (env' := [(2, .int .i64 more_3), (63, .bool true)]) (H' := [⟨42, b_11, [.int .i64 r_10.1.Err, .int .u64 r_10.1.Num, .int .u64 r_10.1.Extra]⟩, ⟨40, b_7, [.slice none ([] : List UInt8).length 0]⟩]) (ps := []) (by kernel_rfl) trivial ?_
            refine GoO.regionEnd ?_
            exact GoO.sub (ks := [2, 63]) (hk := []) (bk := []) (by kernel_rfl) (by kernel_rfl) (by kernel_rfl) (tontinelaw15_SessionNone_j0_ok n more_3 w0 S0 true)
          · refine GoO.exec (is := [16, 17, 18, 19]) (hs := [.p, .p, .p, .b 0]) (rest := [20, 21, 22, 23, 24, 25, 26, 27]) (ks := [2, 7, 51, 52, 53, 54, 55]) (env' := [(2, .int .i64 more_3), (7, .pointer none), (51, .bool false), (52, .pointer none), (53, .int .u64 id_1), (54, .int .u64 seq_2), (55, .agg ⟨[.int .i64 r_10.1.Err, .int .u64 r_10.1.Num, .int .u64 r_10.1.Extra]⟩)]) (H' := [⟨42, b_11, [.int .i64 r_10.1.Err, .int .u64 r_10.1.Num, .int .u64 r_10.1.Extra]⟩, ⟨40, b_7, [.slice none ([] : List UInt8).length 0]⟩]) (ps := [b_11 = b_11]) (by kernel_rfl) (And.intro rfl trivial) ?_
            refine OpTo.go (GoO.call rfl (by kernel_rfl) (by kernel_rfl) (session_Table_End_n0_ok n id_1 seq_2 r_10.1) [[0]] [] [] [] (hks := [0, 1]) (bks := [0]) (by kernel_rfl) (by kernel_rfl) (by kernel_rfl) (.inl rfl) rfl rfl (by kernel_rfl) (by kernel_rfl) _ (fun _ _ => rfl) _ _ (fun _ _ => rfl) (fun _ _ => rfl) (fun _ _ => by kernel_rfl) (fun _ _ => by kernel_rfl) (fun r_17 x_23 => ?_))
            refine GoO.shape (env' := [(2, .int .i64 more_3), (7, .pointer none), (51, .bool false), (52, .pointer none), (53, .int .u64 id_1), (54, .int .u64 seq_2), (55, .agg ⟨[.int .i64 r_10.1.Err, .int .u64 r_10.1.Num, .int .u64 r_10.1.Extra]⟩), (56, .bool r_17)]) (H' := [⟨42, b_11, [.int .i64 r_10.1.Err, .int .u64 r_10.1.Num, .int .u64 r_10.1.Extra]⟩, ⟨40, b_7, [.slice none ([] : List UInt8).length 0]⟩]) (B' := [Ow 41 Kd.u8 none 0 ([] : List UInt8)]) (ks := [2, 7, 51, 52, 53, 54, 55, 56]) (by kernel_rfl) (by kernel_rfl) (by kernel_rfl) ?_
            refine GoO.exec (is := [21, 22]) (hs := [.p, .p]) (rest := [23, 24, 25, 26, 27]) (ks := [2, 7, 58]) (env' := [(2, .int .i64 more_3), (7, .pointer none), (58, .bool r_17)]) (H' := [⟨42, b_11, [.int .i64 r_10.1.Err, .int .u64 r_10.1.Num, .int .u64 r_10.1.Extra]⟩, ⟨40, b_7, [.slice none ([] : List UInt8).length 0]⟩]) (ps := []) (by kernel_rfl) trivial ?_
            refine GoO.bsplit (t := 58) (by kernel_rfl) (fun h18 => ?_) (fun h18 => ?_)
            · refine GoO.exec (is := [23, 24, 25, 26, 27]) (hs := [.p, .p, .p, .p, .p]) (rest := []) (ks := [2, 63]) (env' := [(2, .int .i64 more_3), (63, .bool true)]) (H' := [⟨42, b_11, [.int .i64 r_10.1.Err, .int .u64 r_10.1.Num, .int .u64 r_10.1.Extra]⟩, ⟨40, b_7, [.slice none ([] : List UInt8).length 0]⟩]) (ps := []) (by kernel_rfl) trivial ?_
              refine GoO.regionEnd ?_
              exact GoO.sub (ks := [2, 63]) (hk := []) (bk := []) (by kernel_rfl) (by kernel_rfl) (by kernel_rfl) (tontinelaw15_SessionNone_j0_ok n more_3 w0 S0 true)
            · refine GoO.exec (is := [23]) (hs := [.p]) (rest := [24, 25, 26, 27]) (ks := [2, 58, 59]) (env' := [(2, .int .i64 more_3), (58, .bool false), (59, .pointer none)]) (H' := [⟨42, b_11, [.int .i64 r_10.1.Err, .int .u64 r_10.1.Num, .int .u64 r_10.1.Extra]⟩, ⟨40, b_7, [.slice none ([] : List UInt8).length 0]⟩]) (ps := []) (by kernel_rfl) trivial ?_
              refine OpTo.go (GoO.call rfl (by kernel_rfl) (by kernel_rfl) (session_Table_Rows_n0_ok n) [[0]] [(43, 1)] [] [] (hks := [0, 1]) (bks := [0]) (by kernel_rfl) (by kernel_rfl) (by kernel_rfl) (.inl rfl) rfl rfl (by kernel_rfl) (by kernel_rfl) _ (fun _ _ => rfl) _ _ (fun _ _ => rfl) (fun _ _ => rfl) (fun _ _ => by kernel_rfl) (fun _ _ => by kernel_rfl) (fun r_19 x_22 => ?_))
              obtain ⟨A_20, c_21⟩ := x_22
              refine GoO.shape (env' := [(2, .int .i64 more_3), (58, .bool false), (59, .pointer none), (60, .slice A_20 r_19.length c_21)]) (H' := [⟨42, b_11, [.int .i64 r_10.1.Err, .int .u64 r_10.1.Num, .int .u64 r_10.1.Extra]⟩, ⟨40, b_7, [.slice none ([] : List UInt8).length 0]⟩]) (B' := [Ow 43 kT_session_Row A_20 c_21 r_19, Ow 41 Kd.u8 none 0 ([] : List UInt8)]) (ks := [2, 58, 59, 60]) (by kernel_rfl) (by kernel_rfl) (by kernel_rfl) ?_
              refine GoO.exec (is := [25, 26, 27]) (hs := [.p, .p, .p]) (rest := []) (ks := [2, 63]) (env' := [(2, .int .i64 more_3), (63, .bool ((r_19.length : Int) != 0))]) (H' := [⟨42, b_11, [.int .i64 r_10.1.Err, .int .u64 r_10.1.Num, .int .u64 r_10.1.Extra]⟩, ⟨40, b_7, [.slice none ([] : List UInt8).length 0]⟩]) (ps := []) (by kernel_rfl) trivial ?_
              refine GoO.regionEnd ?_
              exact GoO.sub (ks := [2, 63]) (hk := []) (bk := []) (by kernel_rfl) (by kernel_rfl) (by kernel_rfl) (tontinelaw15_SessionNone_j0_ok n more_3 w0 S0 ((r_19.length : Int) != 0))
end Go.GL
