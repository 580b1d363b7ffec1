import Derived.Test.YtciohdgjlcaokaaKindsT3
import Derived.Test.YtciohdgjlcaokaaProg
set_option linter.unusedVariables false
set_option linter.unusedSimpArgs false
set_option maxRecDepth 100000
namespace Go.GL
open Go Go.Proofs

/-! tontine/session.New -/
noncomputable def c15_0 : Code := bodyOf Try.f15
noncomputable def c15_1 : Code := cdL c15_0
noncomputable def c15_2 : Code := cdR c15_0
noncomputable def c15_3 : Code := cdL c15_2
noncomputable def c15_4 : Code := cdR c15_2
noncomputable def r15_1 : Array Oper := cdO c15_1
noncomputable def r15_3 : Array Oper := cdO c15_3
theorem c15_0e : c15_0 = .seq c15_1 c15_2 := by kernel_rfl
theorem c15_1e : c15_1 = .region 0 r15_1 false := by kernel_rfl
theorem c15_2e : c15_2 = .seq c15_3 c15_4 := by kernel_rfl
theorem c15_3e : c15_3 = .region 1 r15_3 false := by kernel_rfl
theorem c15_4e : c15_4 = .ret := by kernel_rfl
noncomputable def session_New.R : Pst T_session_Table where
  ε := Nat × Option Addr × Nat
  v := fun r x => .pointer (some ⟨x.1, 0, none⟩)
  H := fun r x => [⟨1, x.1, [.int .u64 r.now, .int .u64 r.next, .slice x.2.1 r.rows.length x.2.2]⟩]
  B := fun r x => [Ow 2 kT_session_Row x.2.1 x.2.2 r.rows]
noncomputable def session_New.cx (w0 : World) (S0 : Fam) : Cx T_session_Table := ⟨Try.prog, 15, Try.f15, 3, w0, S0, [], 0, session_New.R⟩
theorem session_New_ok (n : Nat) :
    Meets Try.prog 15 [] 0 [] [] [] (session_New.f n) (session_New.R) := by
  refine Meets.of (c := c15_0) (n := 3) Try.func15 (by kernel_rfl) (by kernel_rfl) (by kernel_rfl) fun w0 S0 => ?_
  unfold session_New.f
  show GoO (session_New.cx w0 S0) [] [] [] [.code c15_0] _
  refine GoO.seq' c15_0e ?_
  refine GoO.region' (is := [0]) c15_1e (by kernel_rfl) ?_
  refine GoO.exec (is := [0]) (hs := [.p]) (rest := []) (ks := []) (env' := []) (H' := []) (ps := []) (by kernel_rfl) trivial ?_
  refine GoO.regionEnd ?_
  refine GoO.seq' c15_2e ?_
  refine GoO.region' (is := [0, 1, 2]) c15_3e (by kernel_rfl) ?_
  refine GoO.exec (is := [0]) (hs := [.p]) (rest := [1, 2]) (ks := [1]) (env' := [(1, .agg ⟨[.int .u64 0, .int .u64 1, .slice none ([] : List T_session_Row).length 0]⟩)]) (H' := []) (ps := []) (by kernel_rfl) trivial ?_
  refine OpTo.go (GoO.new rfl 40 (cs := [.int .u64 0, .int .u64 1, .slice none ([] : List T_session_Row).length 0]) (by kernel_rfl) _ (fun _ => rfl) (fun b_1 => ?_))
  refine GoO.exec (is := [2]) (hs := [.p]) (rest := []) (ks := [0]) (env' := [(0, .pointer (some ⟨b_1, 0, none⟩))]) (H' := [⟨40, b_1, [.int .u64 0, .int .u64 1, .slice none ([] : List T_session_Row).length 0]⟩]) (ps := []) (by kernel_rfl) trivial ?_
  refine GoO.regionEnd ?_
  refine GoO.nilOwn kT_session_Row 2 ?_
  refine GoO.retagB (t := 40) (u := 1) (j := 0) (hk := []) (bk := [0]) rfl rfl rfl rfl rfl rfl (by kernel_rfl) (by kernel_rfl) ?_
  exact GoO.ret' (h := c15_4e) (hs := []) (ps := []) (hk := [0]) (bk := [0]) Try.func15 (⟨b_1, none, 0⟩ : Nat × Option Addr × Nat) (by kernel_rfl) trivial (by kernel_rfl) (by kernel_rfl)

/-! (*tontine/session.Table).Register -/
noncomputable def c17_0 : Code := bodyOf Try.f17
noncomputable def c17_1 : Code := cdL c17_0
noncomputable def c17_2 : Code := cdR c17_0
noncomputable def c17_3 : Code := cdL c17_2
noncomputable def c17_4 : Code := cdL c17_3
noncomputable def c17_5 : Code := cdR c17_3
noncomputable def c17_6 : Code := cdL c17_5
noncomputable def c17_7 : Code := cdL c17_6
noncomputable def c17_8 : Code := cdR c17_6
noncomputable def c17_9 : Code := cdR c17_5
noncomputable def c17_10 : Code := cdR c17_2
noncomputable def c17_11 : Code := cdL c17_10
noncomputable def c17_12 : Code := cdR c17_10
noncomputable def c17_13 : Code := cdL c17_12
noncomputable def c17_14 : Code := cdR c17_12
noncomputable def c17_15 : Code := cdL c17_14
noncomputable def c17_16 : Code := cdR c17_14
noncomputable def r17_1 : Array Oper := cdO c17_1
noncomputable def r17_4 : Array Oper := cdO c17_4
noncomputable def r17_7 : Array Oper := cdO c17_7
noncomputable def r17_11 : Array Oper := cdO c17_11
noncomputable def r17_13 : Array Oper := cdO c17_13
noncomputable def r17_15 : Array Oper := cdO c17_15
theorem c17_0e : c17_0 = .seq c17_1 c17_2 := by kernel_rfl
theorem c17_1e : c17_1 = .region 0 r17_1 false := by kernel_rfl
theorem c17_2e : c17_2 = .seq c17_3 c17_10 := by kernel_rfl
theorem c17_3e : c17_3 = .seq c17_4 c17_5 := by kernel_rfl
theorem c17_4e : c17_4 = .region 1 r17_4 false := by kernel_rfl
theorem c17_5e : c17_5 = .cond (cdC c17_5) c17_6 c17_9 := by kernel_rfl
theorem c17_6e : c17_6 = .seq c17_7 c17_8 := by kernel_rfl
theorem c17_7e : c17_7 = .region 2 r17_7 false := by kernel_rfl
theorem c17_8e : c17_8 = .ret := by kernel_rfl
theorem c17_9e : c17_9 = .skip := by kernel_rfl
theorem c17_10e : c17_10 = .seq c17_11 c17_12 := by kernel_rfl
theorem c17_11e : c17_11 = .region 3 r17_11 true := by kernel_rfl
theorem c17_12e : c17_12 = .seq c17_13 c17_14 := by kernel_rfl
theorem c17_13e : c17_13 = .region 4 r17_13 false := by kernel_rfl
theorem c17_14e : c17_14 = .seq c17_15 c17_16 := by kernel_rfl
theorem c17_15e : c17_15 = .region 5 r17_15 false := by kernel_rfl
theorem c17_16e : c17_16 = .ret := by kernel_rfl
noncomputable def session_Table_Register.R (b_2 : Nat) (A_3 : Option Addr) (c_4 : Nat) : Pst (Int × Int × T_session_Table) where
  ε := Option Addr × Nat
  v := fun r x => .tuple ⟨[.int .u64 r.1, .int .i64 r.2.1]⟩
  H := fun r x => [⟨1, b_2, [.int .u64 r.2.2.now, .int .u64 r.2.2.next, .slice x.1 r.2.2.rows.length x.2]⟩]
  B := fun r x => [Ow 2 kT_session_Row x.1 x.2 r.2.2.rows]
noncomputable def session_Table_Register.cx (b_2 : Nat) (A_3 : Option Addr) (c_4 : Nat) (w0 : World) (S0 : Fam) : Cx (Int × Int × T_session_Table) := ⟨Try.prog, 17, Try.f17, 51, w0, S0, [1, 2], 2, session_Table_Register.R b_2 A_3 c_4⟩
theorem session_Table_Register_j0_ok (n : Nat) (t_1 : T_session_Table) (b_2 : Nat) (A_3 : Option Addr) (c_4 : Nat) (w0 : World) (S0 : Fam) (b_6 : Bool) :
    GoO (session_Table_Register.cx b_2 A_3 c_4 w0 S0) [(0, .pointer (some ⟨b_2, 0, none⟩)), (20, .bool b_6)] [⟨1, b_2, [.int .u64 t_1.now, .int .u64 t_1.next, .slice A_3 t_1.rows.length c_4]⟩] [Ow 2 kT_session_Row A_3 c_4 t_1.rows] [.code c17_5, .code c17_10] (session_Table_Register.j0 n t_1 b_6) := by
  unfold session_Table_Register.j0
  refine GoO.ite' c17_5e (by kernel_rfl) (fun h7 => ?_) (fun h7 => ?_)
  · refine GoO.seq' c17_6e ?_
    refine GoO.region' (is := [0, 1]) c17_7e (by kernel_rfl) ?_
    refine GoO.exec (is := [0, 1]) (hs := [.p, .p]) (rest := []) (ks := [2, 3]) (env' := [(2, .int .u64 0), (3, .int .i64 11)]) (H' := [⟨1, b_2, [.int .u64 t_1.now, .int .u64 t_1.next, .slice A_3 t_1.rows.length c_4]⟩]) (ps := []) (by kernel_rfl) trivial ?_
    refine GoO.regionEnd ?_
    exact GoO.ret' (h := c17_8e) (hs := []) (ps := []) (hk := [0]) (bk := [0]) Try.func17 (⟨A_3, c_4⟩ : Option Addr × Nat) (by kernel_rfl) trivial (by kernel_rfl) (by kernel_rfl)
  · refine GoO.skip' c17_9e ?_
    refine GoO.seq' c17_10e ?_
    refine GoO.draw c17_11e (by kernel_rfl) [16, 17, 18] [⟨1, b_2, [.int .u64 t_1.now, .int .u64 t_1.next, .slice A_3 t_1.rows.length c_4]⟩] [] (n := 19) (by kernel_rfl) ?_
    simp only [List.replicate]
    refine GoF.take [0, 1, 2, 3, 4, 5, 6, 7, 8, 9, 10, 11, 12, 13] [.p, .p, .p, .p, .b 0, .p, .p, .p, .b 0, .p, .p, .p, .b 0, .p] (ks := [0, 21, 25, 34]) (fu := 5) (li := [true, true, true, true, true, true, true, true, true, true, true, true, true, true, false, false, false, false, false]) (env' := [(0, .pointer (some ⟨b_2, 0, none⟩)), (21, .pointer (some ⟨b_2, 0, none⟩)), (25, .slice A_3 t_1.rows.length c_4), (34, .agg ⟨[.int .u64 t_1.next, .int .u64 t_1.now, .int .u64 0, .int .i64 0, .int .u64 0, .int .u64 0]⟩)]) (ps := [b_2 = b_2, b_2 = b_2, b_2 = b_2]) (hk := [0]) (bk := []) (by kernel_rfl) (And.intro rfl (And.intro rfl (And.intro rfl trivial))) rfl rfl ?_
    refine OpTo.goF (i := 14) (by kernel_rfl) (hk := [0]) (bk := []) (GoO.lit (e := 87) (K := kT_session_Row) rfl (by kernel_rfl) (by kernel_rfl) (cs := [.int .u64 t_1.next, .int .u64 t_1.now, .int .u64 0, .int .i64 0, .int .u64 0, .int .u64 0]) (by kernel_rfl) [(⟨t_1.next, t_1.now, 0, (⟨0, 0, 0⟩ : T_api_Reply)⟩ : T_session_Row)] (by kernel_rfl) (by kernel_rfl) (fun w S hB => ⟨[.int .u64 t_1.next, .int .u64 t_1.now, .int .u64 0, .int .i64 0, .int .u64 0, .int .u64 0], _, rfl, rfl, rfl⟩) 40 _ (fun _ _ => rfl) (fun A_8 c_9 => ⟨rfl, rfl, ?_⟩))
    refine GoF.guard (fun h10 => ?_)
    refine OpTo.goF (i := 15) (by kernel_rfl) (hk := [0]) (bk := []) (GoO.appW (e := 87) (K := kT_session_Row) (A := A_3) (c := c_4) (tg := 2) (bytes := 48) (zs := [.int .u64 0, .int .u64 0, .int .u64 0, .int .i64 0, .int .u64 0, .int .u64 0]) (xs := t_1.rows) (ys := [(⟨t_1.next, t_1.now, 0, (⟨0, 0, 0⟩ : T_api_Reply)⟩ : T_session_Row)]) (xv := .slice A_8 [(⟨t_1.next, t_1.now, 0, (⟨0, 0, 0⟩ : T_api_Reply)⟩ : T_session_Row)].length c_9) (j := 1) (bk := [0]) rfl (by kernel_rfl) (by kernel_rfl) (by kernel_rfl) (by kernel_rfl) rfl (by kernel_rfl) rfl (fun w S hB => SrcIs.row (Reads.own w S (hB _ (List.mem_of_getElem? (i := 0) rfl)))) h10 rfl rfl rfl rfl _ (fun _ _ => rfl) (fun A_11 c_12 => ⟨rfl, rfl, ?_⟩))
    refine GoF.fin1 (i := 16) (hint := .p) (ps := []) (hk := []) (bk := []) (by kernel_rfl) rfl trivial (.inl rfl) ?_
    refine GoF.fin1 (i := 17) (hint := .p) (ps := []) (hk := []) (bk := []) (by kernel_rfl) rfl trivial (.inl rfl) ?_
    refine GoF.fin1 (i := 18) (hint := .b 0) (ps := [b_2 = b_2]) (hk := []) (bk := []) (by kernel_rfl) rfl (And.intro rfl trivial) (.inl rfl) ?_
    refine GoF.done (by kernel_rfl) ?_
    refine GoO.seq' c17_12e ?_
    refine GoO.region' (is := [0, 1, 2, 3, 4, 5, 6, 7]) c17_13e (by kernel_rfl) ?_
    refine GoO.exec (is := [0, 1, 2, 3, 4, 5, 6, 7]) (hs := [.p, .p, .p, .b 0, .p, .p, .p, .b 0]) (rest := []) (ks := [0]) (env' := [(0, .pointer (some ⟨b_2, 0, none⟩))]) (H' := [⟨1, b_2, [.int .u64 t_1.now, .int .u64 (wu64 (t_1.next + 1)), .slice A_11 (t_1.rows ++ [(⟨t_1.next, t_1.now, 0, (⟨0, 0, 0⟩ : T_api_Reply)⟩ : T_session_Row)]).length c_12]⟩]) (ps := [b_2 = b_2, b_2 = b_2]) (by kernel_rfl) (And.intro rfl (And.intro rfl trivial)) ?_
    refine GoO.regionEnd ?_
    refine GoO.seq' c17_14e ?_
    refine GoO.region' (is := [0, 1, 2, 3, 4, 5, 6]) c17_15e (by kernel_rfl) ?_
    refine GoO.exec (is := [0, 1, 2, 3, 4, 5, 6]) (hs := [.p, .p, .p, .b 0, .p, .p, .p]) (rest := []) (ks := [2, 3]) (env' := [(2, .int .u64 (wu64 ((wu64 (t_1.next + 1)) - 1))), (3, .int .i64 0)]) (H' := [⟨1, b_2, [.int .u64 t_1.now, .int .u64 (wu64 (t_1.next + 1)), .slice A_11 (t_1.rows ++ [(⟨t_1.next, t_1.now, 0, (⟨0, 0, 0⟩ : T_api_Reply)⟩ : T_session_Row)]).length c_12]⟩]) (ps := [b_2 = b_2]) (by kernel_rfl) (And.intro rfl trivial) ?_
    refine GoO.regionEnd ?_
    exact GoO.ret' (h := c17_16e) (hs := []) (ps := []) (hk := [0]) (bk := [0]) Try.func17 (⟨A_11, c_12⟩ : Option Addr × Nat) (by kernel_rfl) trivial (by kernel_rfl) (by kernel_rfl)
theorem session_Table_Register_ok (n : Nat) (t_1 : T_session_Table) (b_2 : Nat) (A_3 : Option Addr) (c_4 : Nat) :
    Meets Try.prog 17 [.pointer (some ⟨b_2, 0, none⟩)] 2 [1, 2] [⟨1, b_2, [.int .u64 t_1.now, .int .u64 t_1.next, .slice A_3 t_1.rows.length c_4]⟩] [Ow 2 kT_session_Row A_3 c_4 t_1.rows] (session_Table_Register.f n t_1) (session_Table_Register.R b_2 A_3 c_4) := by
  refine Meets.of (c := c17_0) (n := 51) Try.func17 (by kernel_rfl) (by kernel_rfl) (by kernel_rfl) fun w0 S0 => ?_
  unfold session_Table_Register.f
  show GoO (session_Table_Register.cx b_2 A_3 c_4 w0 S0) [(0, .pointer (some ⟨b_2, 0, none⟩))] [⟨1, b_2, [.int .u64 t_1.now, .int .u64 t_1.next, .slice A_3 t_1.rows.length c_4]⟩] [Ow 2 kT_session_Row A_3 c_4 t_1.rows] [.code c17_0] _
  refine GoO.seq' c17_0e ?_
  refine GoO.region' (is := [0, 1]) c17_1e (by kernel_rfl) ?_
  refine GoO.exec (is := [0, 1]) (hs := [.p, .p]) (rest := []) (ks := [0]) (env' := [(0, .pointer (some ⟨b_2, 0, none⟩))]) (H' := [⟨1, b_2, [.int .u64 t_1.now, .int .u64 t_1.next, .slice A_3 t_1.rows.length c_4]⟩]) (ps := []) (by kernel_rfl) trivial ?_
  refine GoO.regionEnd ?_
  refine GoO.seq' c17_2e ?_
  refine GoO.seq' c17_3e ?_
  refine GoO.region' (is := [0, 1, 2, 3, 4, 5, 6, 7, 8, 9, 10, 11, 12, 13, 14, 15, 16]) c17_4e (by kernel_rfl) ?_
  refine GoO.exec (is := [0, 1, 2, 3, 4, 5, 6, 7, 8, 9, 10]) (hs := [.p, .p, .p, .p, .p, .p, .b 0, .p, .p, .p, .p]) (rest := [11, 12, 13, 14, 15, 16]) (ks := [0, 14]) (env' := [(0, .pointer (some ⟨b_2, 0, none⟩)), (14, .bool (decide ((t_1.rows.length : Int) ≥ 16)))]) (H' := [⟨1, b_2, [.int .u64 t_1.now, .int .u64 t_1.next, .slice A_3 t_1.rows.length c_4]⟩]) (ps := [b_2 = b_2]) (by kernel_rfl) (And.intro rfl trivial) ?_
  refine GoO.bsplit (t := 14) (by kernel_rfl) (fun h5 => ?_) (fun h5 => ?_)
  · refine GoO.exec (is := [11, 12, 13, 14, 15, 16]) (hs := [.p, .p, .p, .p, .p, .p]) (rest := []) (ks := [0, 20]) (env' := [(0, .pointer (some ⟨b_2, 0, none⟩)), (20, .bool true)]) (H' := [⟨1, b_2, [.int .u64 t_1.now, .int .u64 t_1.next, .slice A_3 t_1.rows.length c_4]⟩]) (ps := []) (by kernel_rfl) trivial ?_
    refine GoO.regionEnd ?_
    exact GoO.sub (ks := [0, 20]) (hk := [0]) (bk := [0]) (by kernel_rfl) (by kernel_rfl) (by kernel_rfl) (session_Table_Register_j0_ok n t_1 b_2 A_3 c_4 w0 S0 true)
  · refine GoO.exec (is := [11, 12, 13, 14, 15, 16]) (hs := [.p, .p, .p, .b 0, .p, .p]) (rest := []) (ks := [0, 20]) (env' := [(0, .pointer (some ⟨b_2, 0, none⟩)), (20, .bool (t_1.next == 18446744073709551615))]) (H' := [⟨1, b_2, [.int .u64 t_1.now, .int .u64 t_1.next, .slice A_3 t_1.rows.length c_4]⟩]) (ps := [b_2 = b_2]) (by kernel_rfl) (And.intro rfl trivial) ?_
    refine GoO.regionEnd ?_
    exact GoO.sub (ks := [0, 20]) (hk := [0]) (bk := [0]) (by kernel_rfl) (by kernel_rfl) (by kernel_rfl) (session_Table_Register_j0_ok n t_1 b_2 A_3 c_4 w0 S0 (t_1.next == 18446744073709551615))

/-! (*tontine/session.Table).find -/
noncomputable def c37_0 : Code := bodyOf Try.f37
noncomputable def c37_1 : Code := cdL c37_0
noncomputable def c37_2 : Code := cdR c37_0
noncomputable def c37_3 : Code := cdL c37_2
noncomputable def c37_4 : Code := cdL c37_3
noncomputable def c37_5 : Code := cdR c37_3
noncomputable def c37_6 : Code := cdL c37_5
noncomputable def c37_7 : Code := cdL c37_6
noncomputable def c37_8 : Code := cdR c37_6
noncomputable def c37_9 : Code := cdL c37_8
noncomputable def c37_10 : Code := cdL c37_9
noncomputable def c37_11 : Code := cdL c37_10
noncomputable def c37_12 : Code := cdR c37_10
noncomputable def c37_13 : Code := cdL c37_12
noncomputable def c37_14 : Code := cdL c37_13
noncomputable def c37_15 : Code := cdR c37_13
noncomputable def c37_16 : Code := cdR c37_12
noncomputable def c37_17 : Code := cdL c37_16
noncomputable def c37_18 : Code := cdL c37_17
noncomputable def c37_19 : Code := cdL c37_18
noncomputable def c37_20 : Code := cdR c37_18
noncomputable def c37_21 : Code := cdL c37_20
noncomputable def c37_22 : Code := cdR c37_20
noncomputable def c37_23 : Code := cdL c37_22
noncomputable def c37_24 : Code := cdL c37_23
noncomputable def c37_25 : Code := cdR c37_23
noncomputable def c37_26 : Code := cdR c37_22
noncomputable def c37_27 : Code := cdR c37_16
noncomputable def c37_29 : Code := cdR c37_2
noncomputable def c37_30 : Code := cdL c37_29
noncomputable def c37_31 : Code := cdR c37_29
noncomputable def c37_28 : Code := cdR c37_5
noncomputable def r37_1 : Array Oper := cdO c37_1
noncomputable def r37_4 : Array Oper := cdO c37_4
noncomputable def r37_7 : Array Oper := cdO c37_7
noncomputable def r37_11 : Array Oper := cdO c37_11
noncomputable def r37_19 : Array Oper := cdO c37_19
noncomputable def r37_21 : Array Oper := cdO c37_21
noncomputable def r37_24 : Array Oper := cdO c37_24
noncomputable def r37_27 : Array Oper := cdO c37_27
noncomputable def r37_30 : Array Oper := cdO c37_30
theorem c37_0e : c37_0 = .seq c37_1 c37_2 := by kernel_rfl
theorem c37_1e : c37_1 = .region 0 r37_1 false := by kernel_rfl
theorem c37_2e : c37_2 = .seq c37_3 c37_29 := by kernel_rfl
theorem c37_3e : c37_3 = .seq c37_4 c37_5 := by kernel_rfl
theorem c37_4e : c37_4 = .region 1 r37_4 false := by kernel_rfl
theorem c37_5e : c37_5 = .cond (cdC c37_5) c37_6 c37_28 := by kernel_rfl
theorem c37_6e : c37_6 = .seq c37_7 c37_8 := by kernel_rfl
theorem c37_7e : c37_7 = .region 2 r37_7 false := by kernel_rfl
theorem c37_8e : c37_8 = .block 0 c37_9 := by kernel_rfl
theorem c37_9e : c37_9 = .loop c37_10 := by kernel_rfl
theorem c37_10e : c37_10 = .seq c37_11 c37_12 := by kernel_rfl
theorem c37_11e : c37_11 = .region 3 r37_11 false := by kernel_rfl
theorem c37_12e : c37_12 = .seq c37_13 c37_16 := by kernel_rfl
theorem c37_13e : c37_13 = .cond (cdC c37_13) c37_14 c37_15 := by kernel_rfl
theorem c37_14e : c37_14 = .skip := by kernel_rfl
theorem c37_15e : c37_15 = .exit 0 := by kernel_rfl
theorem c37_16e : c37_16 = .seq c37_17 c37_27 := by kernel_rfl
theorem c37_17e : c37_17 = .block 1 c37_18 := by kernel_rfl
theorem c37_18e : c37_18 = .seq c37_19 c37_20 := by kernel_rfl
theorem c37_19e : c37_19 = .region 4 r37_19 false := by kernel_rfl
theorem c37_20e : c37_20 = .seq c37_21 c37_22 := by kernel_rfl
theorem c37_21e : c37_21 = .region 5 r37_21 false := by kernel_rfl
theorem c37_22e : c37_22 = .cond (cdC c37_22) c37_23 c37_26 := by kernel_rfl
theorem c37_23e : c37_23 = .seq c37_24 c37_25 := by kernel_rfl
theorem c37_24e : c37_24 = .region 6 r37_24 false := by kernel_rfl
theorem c37_25e : c37_25 = .ret := by kernel_rfl
theorem c37_26e : c37_26 = .skip := by kernel_rfl
theorem c37_27e : c37_27 = .region 7 r37_27 false := by kernel_rfl
theorem c37_29e : c37_29 = .seq c37_30 c37_31 := by kernel_rfl
theorem c37_30e : c37_30 = .region 8 r37_30 false := by kernel_rfl
theorem c37_31e : c37_31 = .ret := by kernel_rfl
theorem c37_28e : c37_28 = .skip := by kernel_rfl
noncomputable def session_Table_find.R (b_2 : Nat) (A_3 : Option Addr) (c_4 : Nat) : Pst Int where
  ε := Unit
  v := fun r x => .int .i64 r
  H := fun r x => []
  B := fun r x => []
noncomputable def session_Table_find.cx (b_2 : Nat) (A_3 : Option Addr) (c_4 : Nat) (w0 : World) (S0 : Fam) : Cx Int := ⟨Try.prog, 37, Try.f37, 25, w0, S0, [], 2, session_Table_find.R b_2 A_3 c_4⟩
theorem session_Table_find_l0_ok (n : Nat) (t_1 : T_session_Table) (id_5 : Int) (b_2 : Nat) (A_3 : Option Addr) (c_4 : Nat) (w0 : World) (S0 : Fam) :
    ∀ (k : Nat) (x_6 : Int), GoO (session_Table_find.cx b_2 A_3 c_4 w0 S0) [(1, .int .u64 id_5), (12, .slice A_3 t_1.rows.length c_4), (13, .int .i64 (t_1.rows.length : Int)), (14, .int .i64 x_6)] [⟨1, b_2, [.int .u64 t_1.now, .int .u64 t_1.next, .slice A_3 t_1.rows.length c_4]⟩] [Ow 2 kT_session_Row A_3 c_4 t_1.rows] [.code c37_10, .inLoop c37_10, .inBlock 0, .code c37_29] (session_Table_find.l0 n t_1 id_5 k x_6) := by
  intro k
  induction k with
  | zero => intros; rw [session_Table_find.l0.eq_1]; exact GoO.stop
  | succ k ih0 =>
    intro x_6
    rw [session_Table_find.l0.eq_2]
    refine GoO.seq' c37_10e ?_
    refine GoO.region' (is := [0]) c37_11e (by kernel_rfl) ?_
    refine GoO.exec (is := [0]) (hs := [.p]) (rest := []) (ks := [1, 12, 13, 14, 15]) (env' := [(1, .int .u64 id_5), (12, .slice A_3 t_1.rows.length c_4), (13, .int .i64 (t_1.rows.length : Int)), (14, .int .i64 x_6), (15, .bool (decide (x_6 < (t_1.rows.length : Int))))]) (H' := [⟨1, b_2, [.int .u64 t_1.now, .int .u64 t_1.next, .slice A_3 t_1.rows.length c_4]⟩]) (ps := []) (by kernel_rfl) trivial ?_
    refine GoO.regionEnd ?_
    refine GoO.seq' c37_12e ?_
    refine GoO.ite' c37_13e (by kernel_rfl) (fun h7 => ?_) (fun h7 => ?_)
    · refine GoO.skip' c37_14e ?_
      refine GoO.seq' c37_16e ?_
      refine GoO.block' c37_17e ?_
      refine GoO.seq' c37_18e ?_
      refine GoO.region' (is := [0, 1, 2, 3, 4, 5]) c37_19e (by kernel_rfl) ?_
      refine GoO.exec (is := [0]) (hs := [.p]) (rest := [1, 2, 3, 4, 5]) (ks := [1, 12, 13, 14, 16]) (env' := [(1, .int .u64 id_5), (12, .slice A_3 t_1.rows.length c_4), (13, .int .i64 (t_1.rows.length : Int)), (14, .int .i64 x_6), (16, .int .i64 x_6)]) (H' := [⟨1, b_2, [.int .u64 t_1.now, .int .u64 t_1.next, .slice A_3 t_1.rows.length c_4]⟩]) (ps := []) (by kernel_rfl) trivial ?_
      refine GoO.guard (fun h8 => ?_)
      refine OpTo.go (GoO.idx (kk := .i64) (e := 87) (K := kT_session_Row) (A := A_3) (c := c_4) (xs := t_1.rows) (iv := x_6) (j := 0) rfl (by kernel_rfl) (by kernel_rfl) (by kernel_rfl) (by kernel_rfl) rfl Reads.own rfl h8.1 h8.2 (by decide) rfl ?_)
      refine OpTo.go (GoO.ldE' (K := kT_session_Row) (A := A_3) (c := c_4) (xs := t_1.rows) (iN := x_6.toNat) (off := 0) (j := 0) rfl (by kernel_rfl) rfl Reads.own (by first | exact idx_lt h8.1 h8.2 | (simp only [List.length_set]; exact idx_lt h8.1 h8.2)) (by decide) (Opn.flat _ _ _ _ _) (v := fun _ => .agg ⟨[.int .u64 ((rdL t_1.rows x_6).Id), .int .u64 ((rdL t_1.rows x_6).Used), .int .u64 ((rdL t_1.rows x_6).Seq), .int .i64 ((rdL t_1.rows x_6).Reply.Err), .int .u64 ((rdL t_1.rows x_6).Reply.Num), .int .u64 ((rdL t_1.rows x_6).Reply.Extra)]⟩) (fun _ => by kernel_rfl) _ (fun _ => rfl) (fun _ => ?_))
      refine OpTo.go (GoO.new rfl 40 (cs := [.int .u64 0, .int .u64 0, .int .u64 0, .int .i64 0, .int .u64 0, .int .u64 0]) (by kernel_rfl) _ (fun _ => rfl) (fun b_9 => ?_))
      refine GoO.exec (is := [4, 5]) (hs := [.p, .b 0]) (rest := []) (ks := [1, 5, 6, 12, 13, 14]) (env' := [(1, .int .u64 id_5), (5, .int .i64 x_6), (6, .pointer (some ⟨b_9, 0, none⟩)), (12, .slice A_3 t_1.rows.length c_4), (13, .int .i64 (t_1.rows.length : Int)), (14, .int .i64 x_6)]) (H' := [⟨40, b_9, [.int .u64 ((rdL t_1.rows x_6).Id), .int .u64 ((rdL t_1.rows x_6).Used), .int .u64 ((rdL t_1.rows x_6).Seq), .int .i64 ((rdL t_1.rows x_6).Reply.Err), .int .u64 ((rdL t_1.rows x_6).Reply.Num), .int .u64 ((rdL t_1.rows x_6).Reply.Extra)]⟩, ⟨1, b_2, [.int .u64 t_1.now, .int .u64 t_1.next, .slice A_3 t_1.rows.length c_4]⟩]) (ps := [b_9 = b_9]) (by kernel_rfl) (And.intro rfl trivial) ?_
      refine GoO.regionEnd ?_
      refine GoO.seq' c37_20e ?_
      refine GoO.region' (is := [0, 1, 2, 3]) c37_21e (by kernel_rfl) ?_
      refine GoO.exec (is := [0, 1, 2, 3]) (hs := [.p, .b 0, .p, .p]) (rest := []) (ks := [1, 5, 12, 13, 14, 22]) (env' := [(1, .int .u64 id_5), (5, .int .i64 x_6), (12, .slice A_3 t_1.rows.length c_4), (13, .int .i64 (t_1.rows.length : Int)), (14, .int .i64 x_6), (22, .bool (((rdL t_1.rows x_6).Id) == id_5))]) (H' := [⟨40, b_9, [.int .u64 ((rdL t_1.rows x_6).Id), .int .u64 ((rdL t_1.rows x_6).Used), .int .u64 ((rdL t_1.rows x_6).Seq), .int .i64 ((rdL t_1.rows x_6).Reply.Err), .int .u64 ((rdL t_1.rows x_6).Reply.Num), .int .u64 ((rdL t_1.rows x_6).Reply.Extra)]⟩, ⟨1, b_2, [.int .u64 t_1.now, .int .u64 t_1.next, .slice A_3 t_1.rows.length c_4]⟩]) (ps := [b_9 = b_9]) (by kernel_rfl) (And.intro rfl trivial) ?_
      refine GoO.regionEnd ?_
      refine GoO.ite' c37_22e (by kernel_rfl) (fun h10 => ?_) (fun h10 => ?_)
      · refine GoO.seq' c37_23e ?_
        refine GoO.region' (is := [0, 1]) c37_24e (by kernel_rfl) ?_
        refine GoO.exec (is := [0, 1]) (hs := [.p, .p]) (rest := []) (ks := [4]) (env' := [(4, .int .i64 x_6)]) (H' := [⟨40, b_9, [.int .u64 ((rdL t_1.rows x_6).Id), .int .u64 ((rdL t_1.rows x_6).Used), .int .u64 ((rdL t_1.rows x_6).Seq), .int .i64 ((rdL t_1.rows x_6).Reply.Err), .int .u64 ((rdL t_1.rows x_6).Reply.Num), .int .u64 ((rdL t_1.rows x_6).Reply.Extra)]⟩, ⟨1, b_2, [.int .u64 t_1.now, .int .u64 t_1.next, .slice A_3 t_1.rows.length c_4]⟩]) (ps := []) (by kernel_rfl) trivial ?_
        refine GoO.regionEnd ?_
        exact GoO.ret' (h := c37_25e) (hs := []) (ps := []) (hk := []) (bk := []) Try.func37 () (by kernel_rfl) trivial (by kernel_rfl) (by kernel_rfl)
      · refine GoO.skip' c37_26e ?_
        refine GoO.inBlock ?_
        refine GoO.region' (is := [0, 1]) c37_27e (by kernel_rfl) ?_
        refine GoO.exec (is := [0, 1]) (hs := [.p, .p]) (rest := []) (ks := [1, 12, 13, 14]) (env' := [(1, .int .u64 id_5), (12, .slice A_3 t_1.rows.length c_4), (13, .int .i64 (t_1.rows.length : Int)), (14, .int .i64 (wi64 (x_6 + 1)))]) (H' := [⟨40, b_9, [.int .u64 ((rdL t_1.rows x_6).Id), .int .u64 ((rdL t_1.rows x_6).Used), .int .u64 ((rdL t_1.rows x_6).Seq), .int .i64 ((rdL t_1.rows x_6).Reply.Err), .int .u64 ((rdL t_1.rows x_6).Reply.Num), .int .u64 ((rdL t_1.rows x_6).Reply.Extra)]⟩, ⟨1, b_2, [.int .u64 t_1.now, .int .u64 t_1.next, .slice A_3 t_1.rows.length c_4]⟩]) (ps := []) (by kernel_rfl) trivial ?_
        refine GoO.regionEnd ?_
        refine GoO.inLoop ?_
        exact GoO.sub (ks := [1, 12, 13, 14]) (hk := [1]) (bk := [0]) (by kernel_rfl) (by kernel_rfl) (by kernel_rfl) (ih0 (wi64 (x_6 + 1)))
    · refine GoO.exit' c37_15e rfl ?_
      refine GoO.seq' c37_29e ?_
      refine GoO.region' (is := [0]) c37_30e (by kernel_rfl) ?_
      refine GoO.exec (is := [0]) (hs := [.p]) (rest := []) (ks := [4]) (env' := [(4, .int .i64 (-1))]) (H' := [⟨1, b_2, [.int .u64 t_1.now, .int .u64 t_1.next, .slice A_3 t_1.rows.length c_4]⟩]) (ps := []) (by kernel_rfl) trivial ?_
      refine GoO.regionEnd ?_
      exact GoO.ret' (h := c37_31e) (hs := []) (ps := []) (hk := []) (bk := []) Try.func37 () (by kernel_rfl) trivial (by kernel_rfl) (by kernel_rfl)
theorem session_Table_find_ok (n : Nat) (t_1 : T_session_Table) (id_5 : Int) (b_2 : Nat) (A_3 : Option Addr) (c_4 : Nat) :
    Meets Try.prog 37 [.pointer (some ⟨b_2, 0, none⟩), .int .u64 id_5] 2 [] [⟨1, b_2, [.int .u64 t_1.now, .int .u64 t_1.next, .slice A_3 t_1.rows.length c_4]⟩] [Ow 2 kT_session_Row A_3 c_4 t_1.rows] (session_Table_find.f n t_1 id_5) (session_Table_find.R b_2 A_3 c_4) := by
  refine Meets.of (c := c37_0) (n := 25) Try.func37 (by kernel_rfl) (by kernel_rfl) (by kernel_rfl) fun w0 S0 => ?_
  unfold session_Table_find.f
  show GoO (session_Table_find.cx b_2 A_3 c_4 w0 S0) [(0, .pointer (some ⟨b_2, 0, none⟩)), (1, .int .u64 id_5)] [⟨1, b_2, [.int .u64 t_1.now, .int .u64 t_1.next, .slice A_3 t_1.rows.length c_4]⟩] [Ow 2 kT_session_Row A_3 c_4 t_1.rows] [.code c37_0] _
  refine GoO.seq' c37_0e ?_
  refine GoO.region' (is := [0]) c37_1e (by kernel_rfl) ?_
  refine GoO.exec (is := [0]) (hs := [.p]) (rest := []) (ks := [0, 1]) (env' := [(0, .pointer (some ⟨b_2, 0, none⟩)), (1, .int .u64 id_5)]) (H' := [⟨1, b_2, [.int .u64 t_1.now, .int .u64 t_1.next, .slice A_3 t_1.rows.length c_4]⟩]) (ps := []) (by kernel_rfl) trivial ?_
  refine GoO.regionEnd ?_
  refine GoO.seq' c37_2e ?_
  refine GoO.seq' c37_3e ?_
  refine GoO.region' (is := [0, 1]) c37_4e (by kernel_rfl) ?_
  refine GoO.exec (is := [0, 1]) (hs := [.p, .p]) (rest := []) (ks := [0, 1, 8]) (env' := [(0, .pointer (some ⟨b_2, 0, none⟩)), (1, .int .u64 id_5), (8, .bool true)]) (H' := [⟨1, b_2, [.int .u64 t_1.now, .int .u64 t_1.next, .slice A_3 t_1.rows.length c_4]⟩]) (ps := []) (by kernel_rfl) trivial ?_
  refine GoO.regionEnd ?_
  refine GoO.condT c37_5e (by kernel_rfl) ?_
  refine GoO.seq' c37_6e ?_
  refine GoO.region' (is := [0, 1, 2, 3, 4, 5]) c37_7e (by kernel_rfl) ?_
  refine GoO.exec (is := [0, 1, 2, 3, 4, 5]) (hs := [.p, .p, .p, .b 0, .p, .p]) (rest := []) (ks := [1, 12, 13, 14]) (env' := [(1, .int .u64 id_5), (12, .slice A_3 t_1.rows.length c_4), (13, .int .i64 (t_1.rows.length : Int)), (14, .int .i64 0)]) (H' := [⟨1, b_2, [.int .u64 t_1.now, .int .u64 t_1.next, .slice A_3 t_1.rows.length c_4]⟩]) (ps := [b_2 = b_2]) (by kernel_rfl) (And.intro rfl trivial) ?_
  refine GoO.regionEnd ?_
  refine GoO.block' c37_8e ?_
  refine GoO.loop' c37_9e ?_
  exact GoO.sub (ks := [1, 12, 13, 14]) (hk := [0]) (bk := [0]) (by kernel_rfl) (by kernel_rfl) (by kernel_rfl) (session_Table_find_l0_ok n t_1 id_5 b_2 A_3 c_4 w0 S0 n 0)

/-! (*tontine/session.Table).Begin -/
noncomputable def c18_0 : Code := bodyOf Try.f18
noncomputable def c18_1 : Code := cdL c18_0
noncomputable def c18_2 : Code := cdR c18_0
noncomputable def c18_3 : Code := cdL c18_2
noncomputable def c18_4 : Code := cdR c18_2
noncomputable def c18_5 : Code := cdL c18_4
noncomputable def c18_6 : Code := cdL c18_5
noncomputable def c18_7 : Code := cdR c18_5
noncomputable def c18_8 : Code := cdL c18_7
noncomputable def c18_9 : Code := cdL c18_8
noncomputable def c18_10 : Code := cdR c18_8
noncomputable def c18_11 : Code := cdR c18_7
noncomputable def c18_12 : Code := cdR c18_4
noncomputable def c18_13 : Code := cdL c18_12
noncomputable def c18_14 : Code := cdR c18_12
noncomputable def c18_15 : Code := cdL c18_14
noncomputable def c18_16 : Code := cdR c18_14
noncomputable def c18_17 : Code := cdL c18_16
noncomputable def c18_18 : Code := cdL c18_17
noncomputable def c18_19 : Code := cdL c18_18
noncomputable def c18_20 : Code := cdR c18_18
noncomputable def c18_21 : Code := cdL c18_20
noncomputable def c18_22 : Code := cdL c18_21
noncomputable def c18_23 : Code := cdR c18_21
noncomputable def c18_24 : Code := cdR c18_20
noncomputable def c18_25 : Code := cdL c18_24
noncomputable def c18_26 : Code := cdR c18_24
noncomputable def c18_27 : Code := cdL c18_26
noncomputable def c18_28 : Code := cdL c18_27
noncomputable def c18_29 : Code := cdR c18_27
noncomputable def c18_30 : Code := cdR c18_26
noncomputable def c18_31 : Code := cdR c18_16
noncomputable def c18_32 : Code := cdL c18_31
noncomputable def c18_33 : Code := cdR c18_31
noncomputable def r18_1 : Array Oper := cdO c18_1
noncomputable def r18_3 : Array Oper := cdO c18_3
noncomputable def r18_6 : Array Oper := cdO c18_6
noncomputable def r18_9 : Array Oper := cdO c18_9
noncomputable def r18_13 : Array Oper := cdO c18_13
noncomputable def r18_15 : Array Oper := cdO c18_15
noncomputable def r18_19 : Array Oper := cdO c18_19
noncomputable def r18_22 : Array Oper := cdO c18_22
noncomputable def r18_25 : Array Oper := cdO c18_25
noncomputable def r18_28 : Array Oper := cdO c18_28
noncomputable def r18_32 : Array Oper := cdO c18_32
theorem c18_0e : c18_0 = .seq c18_1 c18_2 := by kernel_rfl
theorem c18_1e : c18_1 = .region 0 r18_1 false := by kernel_rfl
theorem c18_2e : c18_2 = .seq c18_3 c18_4 := by kernel_rfl
theorem c18_3e : c18_3 = .region 1 r18_3 false := by kernel_rfl
theorem c18_4e : c18_4 = .seq c18_5 c18_12 := by kernel_rfl
theorem c18_5e : c18_5 = .seq c18_6 c18_7 := by kernel_rfl
theorem c18_6e : c18_6 = .region 2 r18_6 false := by kernel_rfl
theorem c18_7e : c18_7 = .cond (cdC c18_7) c18_8 c18_11 := by kernel_rfl
theorem c18_8e : c18_8 = .seq c18_9 c18_10 := by kernel_rfl
theorem c18_9e : c18_9 = .region 3 r18_9 false := by kernel_rfl
theorem c18_10e : c18_10 = .ret := by kernel_rfl
theorem c18_11e : c18_11 = .skip := by kernel_rfl
theorem c18_12e : c18_12 = .seq c18_13 c18_14 := by kernel_rfl
theorem c18_13e : c18_13 = .region 4 r18_13 false := by kernel_rfl
theorem c18_14e : c18_14 = .seq c18_15 c18_16 := by kernel_rfl
theorem c18_15e : c18_15 = .region 5 r18_15 false := by kernel_rfl
theorem c18_16e : c18_16 = .seq c18_17 c18_31 := by kernel_rfl
theorem c18_17e : c18_17 = .block 0 c18_18 := by kernel_rfl
theorem c18_18e : c18_18 = .seq c18_19 c18_20 := by kernel_rfl
theorem c18_19e : c18_19 = .region 6 r18_19 false := by kernel_rfl
theorem c18_20e : c18_20 = .cond (cdC c18_20) c18_21 c18_24 := by kernel_rfl
theorem c18_21e : c18_21 = .seq c18_22 c18_23 := by kernel_rfl
theorem c18_22e : c18_22 = .region 7 r18_22 false := by kernel_rfl
theorem c18_23e : c18_23 = .ret := by kernel_rfl
theorem c18_24e : c18_24 = .seq c18_25 c18_26 := by kernel_rfl
theorem c18_25e : c18_25 = .region 8 r18_25 false := by kernel_rfl
theorem c18_26e : c18_26 = .cond (cdC c18_26) c18_27 c18_30 := by kernel_rfl
theorem c18_27e : c18_27 = .seq c18_28 c18_29 := by kernel_rfl
theorem c18_28e : c18_28 = .region 9 r18_28 false := by kernel_rfl
theorem c18_29e : c18_29 = .ret := by kernel_rfl
theorem c18_30e : c18_30 = .skip := by kernel_rfl
theorem c18_31e : c18_31 = .seq c18_32 c18_33 := by kernel_rfl
theorem c18_32e : c18_32 = .region 10 r18_32 false := by kernel_rfl
theorem c18_33e : c18_33 = .ret := by kernel_rfl
noncomputable def session_Table_Begin.R (b_2 : Nat) (A_3 : Option Addr) (c_4 : Nat) : Pst (T_api_Reply × Bool × T_session_Table) where
  ε := Option Addr × Nat
  v := fun r x => .tuple ⟨[.agg ⟨[.int .i64 r.1.Err, .int .u64 r.1.Num, .int .u64 r.1.Extra]⟩, .bool r.2.1]⟩
  H := fun r x => [⟨1, b_2, [.int .u64 r.2.2.now, .int .u64 r.2.2.next, .slice x.1 r.2.2.rows.length x.2]⟩]
  B := fun r x => [Ow 2 kT_session_Row x.1 x.2 r.2.2.rows]
noncomputable def session_Table_Begin.cx (b_2 : Nat) (A_3 : Option Addr) (c_4 : Nat) (w0 : World) (S0 : Fam) : Cx (T_api_Reply × Bool × T_session_Table) := ⟨Try.prog, 18, Try.f18, 58, w0, S0, [1, 2], 2, session_Table_Begin.R b_2 A_3 c_4⟩
theorem session_Table_Begin_j0_ok (n : Nat) (t_1 : T_session_Table) (seq_6 : Int) (r_8 : Int) (b_2 : Nat) (A_3 : Option Addr) (c_4 : Nat) (b_7 : Nat) (w0 : World) (S0 : Fam) (b_12 : Bool) :
    GoO (session_Table_Begin.cx b_2 A_3 c_4 w0 S0) [(2, .int .u64 seq_6), (6, .pointer (some ⟨b_7, 0, none⟩)), (9, elemP A_3 r_8.toNat 6 0), (29, .bool b_12)] [⟨40, b_7, [.int .i64 0, .int .u64 0, .int .u64 0]⟩, ⟨1, b_2, [.int .u64 t_1.now, .int .u64 t_1.next, .slice A_3 (t_1.rows.set r_8.toNat (⟨(rdL t_1.rows r_8).Id, t_1.now, (rdL t_1.rows r_8).Seq, (⟨(rdL t_1.rows r_8).Reply.Err, (rdL t_1.rows r_8).Reply.Num, (rdL t_1.rows r_8).Reply.Extra⟩ : T_api_Reply)⟩ : T_session_Row)).length c_4]⟩] [Ow 2 kT_session_Row A_3 c_4 (t_1.rows.set r_8.toNat (⟨(rdL t_1.rows r_8).Id, t_1.now, (rdL t_1.rows r_8).Seq, (⟨(rdL t_1.rows r_8).Reply.Err, (rdL t_1.rows r_8).Reply.Num, (rdL t_1.rows r_8).Reply.Extra⟩ : T_api_Reply)⟩ : T_session_Row))] [.code c18_20, .inBlock 0, .code c18_31] (session_Table_Begin.j0 n t_1 seq_6 r_8 b_12) := by
  unfold session_Table_Begin.j0
  refine GoO.ite' c18_20e (by kernel_rfl) (fun h13 => ?_) (fun h13 => ?_)
  · refine GoO.seq' c18_21e ?_
    refine GoO.region' (is := [0, 1, 2, 3, 4, 5]) c18_22e (by kernel_rfl) ?_
    refine GoO.exec (is := [0]) (hs := [.p]) (rest := [1, 2, 3, 4, 5]) (ks := [6, 40]) (env' := [(6, .pointer (some ⟨b_7, 0, none⟩)), (40, elemP A_3 r_8.toNat 6 0)]) (H' := [⟨40, b_7, [.int .i64 0, .int .u64 0, .int .u64 0]⟩, ⟨1, b_2, [.int .u64 t_1.now, .int .u64 t_1.next, .slice A_3 (t_1.rows.set r_8.toNat (⟨(rdL t_1.rows r_8).Id, t_1.now, (rdL t_1.rows r_8).Seq, (⟨(rdL t_1.rows r_8).Reply.Err, (rdL t_1.rows r_8).Reply.Num, (rdL t_1.rows r_8).Reply.Extra⟩ : T_api_Reply)⟩ : T_session_Row)).length c_4]⟩]) (ps := []) (by kernel_rfl) trivial ?_
    refine GoO.guard (fun h14 => ?_)
    refine OpTo.go (GoO.nilE (K := kT_session_Row) (A := A_3) (c := c_4) (xs := t_1.rows.set r_8.toNat (⟨(rdL t_1.rows r_8).Id, t_1.now, (rdL t_1.rows r_8).Seq, (⟨(rdL t_1.rows r_8).Reply.Err, (rdL t_1.rows r_8).Reply.Num, (rdL t_1.rows r_8).Reply.Extra⟩ : T_api_Reply)⟩ : T_session_Row)) (iN := r_8.toNat) (off := 0) (j := 0) rfl (by kernel_rfl) rfl Reads.own h14 (by decide) rfl ?_)
    refine GoO.guard (fun h15 => ?_)
    refine OpTo.go (GoO.fldE (K := kT_session_Row) (A := A_3) (c := c_4) (xs := t_1.rows.set r_8.toNat (⟨(rdL t_1.rows r_8).Id, t_1.now, (rdL t_1.rows r_8).Seq, (⟨(rdL t_1.rows r_8).Reply.Err, (rdL t_1.rows r_8).Reply.Num, (rdL t_1.rows r_8).Reply.Extra⟩ : T_api_Reply)⟩ : T_session_Row)) (iN := r_8.toNat) (off := 0) (n := 3) (j := 0) rfl (by kernel_rfl) (by kernel_rfl) rfl Reads.own h15 (by decide) rfl ?_)
    refine GoO.guard (fun h16 => ?_)
    refine OpTo.go (GoO.ldE' (K := kT_session_Row) (A := A_3) (c := c_4) (xs := t_1.rows.set r_8.toNat (⟨(rdL t_1.rows r_8).Id, t_1.now, (rdL t_1.rows r_8).Seq, (⟨(rdL t_1.rows r_8).Reply.Err, (rdL t_1.rows r_8).Reply.Num, (rdL t_1.rows r_8).Reply.Extra⟩ : T_api_Reply)⟩ : T_session_Row)) (iN := r_8.toNat) (off := 3) (j := 0) rfl (by kernel_rfl) rfl Reads.own h16 (by decide) (Opn.flat _ _ _ _ _) (v := fun _ => .agg ⟨[.int .i64 ((rdL (t_1.rows.set r_8.toNat (⟨(rdL t_1.rows r_8).Id, t_1.now, (rdL t_1.rows r_8).Seq, (⟨(rdL t_1.rows r_8).Reply.Err, (rdL t_1.rows r_8).Reply.Num, (rdL t_1.rows r_8).Reply.Extra⟩ : T_api_Reply)⟩ : T_session_Row)) r_8).Reply.Err), .int .u64 ((rdL (t_1.rows.set r_8.toNat (⟨(rdL t_1.rows r_8).Id, t_1.now, (rdL t_1.rows r_8).Seq, (⟨(rdL t_1.rows r_8).Reply.Err, (rdL t_1.rows r_8).Reply.Num, (rdL t_1.rows r_8).Reply.Extra⟩ : T_api_Reply)⟩ : T_session_Row)) r_8).Reply.Num), .int .u64 ((rdL (t_1.rows.set r_8.toNat (⟨(rdL t_1.rows r_8).Id, t_1.now, (rdL t_1.rows r_8).Seq, (⟨(rdL t_1.rows r_8).Reply.Err, (rdL t_1.rows r_8).Reply.Num, (rdL t_1.rows r_8).Reply.Extra⟩ : T_api_Reply)⟩ : T_session_Row)) r_8).Reply.Extra)]⟩) (fun _ => by kernel_rfl) _ (fun _ => rfl) (fun _ => ?_))
    refine GoO.exec (is := [4, 5]) (hs := [.b 0, .p]) (rest := []) (ks := [6, 7]) (env' := [(6, .pointer (some ⟨b_7, 0, none⟩)), (7, .bool false)]) (H' := [⟨40, b_7, [.int .i64 ((rdL (t_1.rows.set r_8.toNat (⟨(rdL t_1.rows r_8).Id, t_1.now, (rdL t_1.rows r_8).Seq, (⟨(rdL t_1.rows r_8).Reply.Err, (rdL t_1.rows r_8).Reply.Num, (rdL t_1.rows r_8).Reply.Extra⟩ : T_api_Reply)⟩ : T_session_Row)) r_8).Reply.Err), .int .u64 ((rdL (t_1.rows.set r_8.toNat (⟨(rdL t_1.rows r_8).Id, t_1.now, (rdL t_1.rows r_8).Seq, (⟨(rdL t_1.rows r_8).Reply.Err, (rdL t_1.rows r_8).Reply.Num, (rdL t_1.rows r_8).Reply.Extra⟩ : T_api_Reply)⟩ : T_session_Row)) r_8).Reply.Num), .int .u64 ((rdL (t_1.rows.set r_8.toNat (⟨(rdL t_1.rows r_8).Id, t_1.now, (rdL t_1.rows r_8).Seq, (⟨(rdL t_1.rows r_8).Reply.Err, (rdL t_1.rows r_8).Reply.Num, (rdL t_1.rows r_8).Reply.Extra⟩ : T_api_Reply)⟩ : T_session_Row)) r_8).Reply.Extra)]⟩, ⟨1, b_2, [.int .u64 t_1.now, .int .u64 t_1.next, .slice A_3 (t_1.rows.set r_8.toNat (⟨(rdL t_1.rows r_8).Id, t_1.now, (rdL t_1.rows r_8).Seq, (⟨(rdL t_1.rows r_8).Reply.Err, (rdL t_1.rows r_8).Reply.Num, (rdL t_1.rows r_8).Reply.Extra⟩ : T_api_Reply)⟩ : T_session_Row)).length c_4]⟩]) (ps := [b_7 = b_7]) (by kernel_rfl) (And.intro rfl trivial) ?_
    refine GoO.regionEnd ?_
    exact GoO.ret' (h := c18_23e) (hs := [0]) (ps := [b_7 = b_7]) (hk := [1]) (bk := [0]) Try.func18 (⟨A_3, c_4⟩ : Option Addr × Nat) (by kernel_rfl) (And.intro rfl trivial) (by kernel_rfl) (by kernel_rfl)
  · refine GoO.seq' c18_24e ?_
    refine GoO.region' (is := [0, 1, 2, 3, 4, 5, 6, 7, 8, 9, 10, 11]) c18_25e (by kernel_rfl) ?_
    refine GoO.exec (is := [0, 1]) (hs := [.p, .p]) (rest := [2, 3, 4, 5, 6, 7, 8, 9, 10, 11]) (ks := [2, 6, 45, 46]) (env' := [(2, .int .u64 seq_6), (6, .pointer (some ⟨b_7, 0, none⟩)), (45, .int .u64 seq_6), (46, elemP A_3 r_8.toNat 6 0)]) (H' := [⟨40, b_7, [.int .i64 0, .int .u64 0, .int .u64 0]⟩, ⟨1, b_2, [.int .u64 t_1.now, .int .u64 t_1.next, .slice A_3 (t_1.rows.set r_8.toNat (⟨(rdL t_1.rows r_8).Id, t_1.now, (rdL t_1.rows r_8).Seq, (⟨(rdL t_1.rows r_8).Reply.Err, (rdL t_1.rows r_8).Reply.Num, (rdL t_1.rows r_8).Reply.Extra⟩ : T_api_Reply)⟩ : T_session_Row)).length c_4]⟩]) (ps := []) (by kernel_rfl) trivial ?_
    refine GoO.guard (fun h17 => ?_)
    refine OpTo.go (GoO.nilE (K := kT_session_Row) (A := A_3) (c := c_4) (xs := t_1.rows.set r_8.toNat (⟨(rdL t_1.rows r_8).Id, t_1.now, (rdL t_1.rows r_8).Seq, (⟨(rdL t_1.rows r_8).Reply.Err, (rdL t_1.rows r_8).Reply.Num, (rdL t_1.rows r_8).Reply.Extra⟩ : T_api_Reply)⟩ : T_session_Row)) (iN := r_8.toNat) (off := 0) (j := 0) rfl (by kernel_rfl) rfl Reads.own h17 (by decide) rfl ?_)
    refine GoO.guard (fun h18 => ?_)
    refine OpTo.go (GoO.fldE (K := kT_session_Row) (A := A_3) (c := c_4) (xs := t_1.rows.set r_8.toNat (⟨(rdL t_1.rows r_8).Id, t_1.now, (rdL t_1.rows r_8).Seq, (⟨(rdL t_1.rows r_8).Reply.Err, (rdL t_1.rows r_8).Reply.Num, (rdL t_1.rows r_8).Reply.Extra⟩ : T_api_Reply)⟩ : T_session_Row)) (iN := r_8.toNat) (off := 0) (n := 2) (j := 0) rfl (by kernel_rfl) (by kernel_rfl) rfl Reads.own h18 (by decide) rfl ?_)
    refine GoO.guard (fun h19 => ?_)
    refine OpTo.go (GoO.ldE' (K := kT_session_Row) (A := A_3) (c := c_4) (xs := t_1.rows.set r_8.toNat (⟨(rdL t_1.rows r_8).Id, t_1.now, (rdL t_1.rows r_8).Seq, (⟨(rdL t_1.rows r_8).Reply.Err, (rdL t_1.rows r_8).Reply.Num, (rdL t_1.rows r_8).Reply.Extra⟩ : T_api_Reply)⟩ : T_session_Row)) (iN := r_8.toNat) (off := 2) (j := 0) rfl (by kernel_rfl) rfl Reads.own h19 (by decide) (Opn.flat _ _ _ _ _) (v := fun _ => .int .u64 ((rdL (t_1.rows.set r_8.toNat (⟨(rdL t_1.rows r_8).Id, t_1.now, (rdL t_1.rows r_8).Seq, (⟨(rdL t_1.rows r_8).Reply.Err, (rdL t_1.rows r_8).Reply.Num, (rdL t_1.rows r_8).Reply.Extra⟩ : T_api_Reply)⟩ : T_session_Row)) r_8).Seq)) (fun _ => by kernel_rfl) _ (fun _ => rfl) (fun _ => ?_))
    refine GoO.exec (is := [5, 6, 7]) (hs := [.p, .p, .p]) (rest := [8, 9, 10, 11]) (ks := [2, 6, 52]) (env' := [(2, .int .u64 seq_6), (6, .pointer (some ⟨b_7, 0, none⟩)), (52, .bool (seq_6 != (wu64 (((rdL (t_1.rows.set r_8.toNat (⟨(rdL t_1.rows r_8).Id, t_1.now, (rdL t_1.rows r_8).Seq, (⟨(rdL t_1.rows r_8).Reply.Err, (rdL t_1.rows r_8).Reply.Num, (rdL t_1.rows r_8).Reply.Extra⟩ : T_api_Reply)⟩ : T_session_Row)) r_8).Seq) + 1))))]) (H' := [⟨40, b_7, [.int .i64 0, .int .u64 0, .int .u64 0]⟩, ⟨1, b_2, [.int .u64 t_1.now, .int .u64 t_1.next, .slice A_3 (t_1.rows.set r_8.toNat (⟨(rdL t_1.rows r_8).Id, t_1.now, (rdL t_1.rows r_8).Seq, (⟨(rdL t_1.rows r_8).Reply.Err, (rdL t_1.rows r_8).Reply.Num, (rdL t_1.rows r_8).Reply.Extra⟩ : T_api_Reply)⟩ : T_session_Row)).length c_4]⟩]) (ps := []) (by kernel_rfl) trivial ?_
    refine GoO.bsplit (t := 52) (by kernel_rfl) (fun h20 => ?_) (fun h20 => ?_)
    · refine GoO.exec (is := [8, 9, 10, 11]) (hs := [.p, .p, .p, .p]) (rest := []) (ks := [6, 44]) (env' := [(6, .pointer (some ⟨b_7, 0, none⟩)), (44, .bool true)]) (H' := [⟨40, b_7, [.int .i64 0, .int .u64 0, .int .u64 0]⟩, ⟨1, b_2, [.int .u64 t_1.now, .int .u64 t_1.next, .slice A_3 (t_1.rows.set r_8.toNat (⟨(rdL t_1.rows r_8).Id, t_1.now, (rdL t_1.rows r_8).Seq, (⟨(rdL t_1.rows r_8).Reply.Err, (rdL t_1.rows r_8).Reply.Num, (rdL t_1.rows r_8).Reply.Extra⟩ : T_api_Reply)⟩ : T_session_Row)).length c_4]⟩]) (ps := []) (by kernel_rfl) trivial ?_
      refine GoO.regionEnd ?_
      refine GoO.condT c18_26e (by kernel_rfl) ?_
      refine GoO.seq' c18_27e ?_
      refine GoO.region' (is := [0, 1, 2]) c18_28e (by kernel_rfl) ?_
      refine GoO.exec (is := [0, 1, 2]) (hs := [.p, .b 0, .p]) (rest := []) (ks := [6, 7]) (env' := [(6, .pointer (some ⟨b_7, 0, none⟩)), (7, .bool false)]) (H' := [⟨40, b_7, [.int .i64 41, .int .u64 0, .int .u64 0]⟩, ⟨1, b_2, [.int .u64 t_1.now, .int .u64 t_1.next, .slice A_3 (t_1.rows.set r_8.toNat (⟨(rdL t_1.rows r_8).Id, t_1.now, (rdL t_1.rows r_8).Seq, (⟨(rdL t_1.rows r_8).Reply.Err, (rdL t_1.rows r_8).Reply.Num, (rdL t_1.rows r_8).Reply.Extra⟩ : T_api_Reply)⟩ : T_session_Row)).length c_4]⟩]) (ps := [b_7 = b_7]) (by kernel_rfl) (And.intro rfl trivial) ?_
      refine GoO.regionEnd ?_
      exact GoO.ret' (h := c18_29e) (hs := [0]) (ps := [b_7 = b_7]) (hk := [1]) (bk := [0]) Try.func18 (⟨A_3, c_4⟩ : Option Addr × Nat) (by kernel_rfl) (And.intro rfl trivial) (by kernel_rfl) (by kernel_rfl)
    · refine GoO.exec (is := [8, 9, 10, 11]) (hs := [.p, .p, .p, .p]) (rest := []) (ks := [6, 44]) (env' := [(6, .pointer (some ⟨b_7, 0, none⟩)), (44, .bool (seq_6 == 0))]) (H' := [⟨40, b_7, [.int .i64 0, .int .u64 0, .int .u64 0]⟩, ⟨1, b_2, [.int .u64 t_1.now, .int .u64 t_1.next, .slice A_3 (t_1.rows.set r_8.toNat (⟨(rdL t_1.rows r_8).Id, t_1.now, (rdL t_1.rows r_8).Seq, (⟨(rdL t_1.rows r_8).Reply.Err, (rdL t_1.rows r_8).Reply.Num, (rdL t_1.rows r_8).Reply.Extra⟩ : T_api_Reply)⟩ : T_session_Row)).length c_4]⟩]) (ps := []) (by kernel_rfl) trivial ?_
      refine GoO.regionEnd ?_
      refine GoO.ite' c18_26e (by kernel_rfl) (fun h21 => ?_) (fun h21 => ?_)
      · refine GoO.seq' c18_27e ?_
        refine GoO.region' (is := [0, 1, 2]) c18_28e (by kernel_rfl) ?_
        refine GoO.exec (is := [0, 1, 2]) (hs := [.p, .b 0, .p]) (rest := []) (ks := [6, 7]) (env' := [(6, .pointer (some ⟨b_7, 0, none⟩)), (7, .bool false)]) (H' := [⟨40, b_7, [.int .i64 41, .int .u64 0, .int .u64 0]⟩, ⟨1, b_2, [.int .u64 t_1.now, .int .u64 t_1.next, .slice A_3 (t_1.rows.set r_8.toNat (⟨(rdL t_1.rows r_8).Id, t_1.now, (rdL t_1.rows r_8).Seq, (⟨(rdL t_1.rows r_8).Reply.Err, (rdL t_1.rows r_8).Reply.Num, (rdL t_1.rows r_8).Reply.Extra⟩ : T_api_Reply)⟩ : T_session_Row)).length c_4]⟩]) (ps := [b_7 = b_7]) (by kernel_rfl) (And.intro rfl trivial) ?_
        refine GoO.regionEnd ?_
        exact GoO.ret' (h := c18_29e) (hs := [0]) (ps := [b_7 = b_7]) (hk := [1]) (bk := [0]) Try.func18 (⟨A_3, c_4⟩ : Option Addr × Nat) (by kernel_rfl) (And.intro rfl trivial) (by kernel_rfl) (by kernel_rfl)
      · refine GoO.skip' c18_30e ?_
        refine GoO.inBlock ?_
        refine GoO.seq' c18_31e ?_
        refine GoO.region' (is := [0, 1, 2]) c18_32e (by kernel_rfl) ?_
        refine GoO.exec (is := [0, 1, 2]) (hs := [.p, .b 0, .p]) (rest := []) (ks := [6, 7]) (env' := [(6, .pointer (some ⟨b_7, 0, none⟩)), (7, .bool true)]) (H' := [⟨40, b_7, [.int .i64 0, .int .u64 0, .int .u64 0]⟩, ⟨1, b_2, [.int .u64 t_1.now, .int .u64 t_1.next, .slice A_3 (t_1.rows.set r_8.toNat (⟨(rdL t_1.rows r_8).Id, t_1.now, (rdL t_1.rows r_8).Seq, (⟨(rdL t_1.rows r_8).Reply.Err, (rdL t_1.rows r_8).Reply.Num, (rdL t_1.rows r_8).Reply.Extra⟩ : T_api_Reply)⟩ : T_session_Row)).length c_4]⟩]) (ps := [b_7 = b_7]) (by kernel_rfl) (And.intro rfl trivial) ?_
        refine GoO.regionEnd ?_
        exact GoO.ret' (h := c18_33e) (hs := [0]) (ps := [b_7 = b_7]) (hk := [1]) (bk := [0]) Try.func18 (⟨A_3, c_4⟩ : Option Addr × Nat) (by kernel_rfl) (And.intro rfl trivial) (by kernel_rfl) (by kernel_rfl)
theorem session_Table_Begin_ok (n : Nat) (t_1 : T_session_Table) (id_5 : Int) (seq_6 : Int) (b_2 : Nat) (A_3 : Option Addr) (c_4 : Nat) :
    Meets Try.prog 18 [.pointer (some ⟨b_2, 0, none⟩), .int .u64 id_5, .int .u64 seq_6] 2 [1, 2] [⟨1, b_2, [.int .u64 t_1.now, .int .u64 t_1.next, .slice A_3 t_1.rows.length c_4]⟩] [Ow 2 kT_session_Row A_3 c_4 t_1.rows] (session_Table_Begin.f n t_1 id_5 seq_6) (session_Table_Begin.R b_2 A_3 c_4) := by
  refine Meets.of (c := c18_0) (n := 58) Try.func18 (by kernel_rfl) (by kernel_rfl) (by kernel_rfl) fun w0 S0 => ?_
  unfold session_Table_Begin.f
  show GoO (session_Table_Begin.cx b_2 A_3 c_4 w0 S0) [(0, .pointer (some ⟨b_2, 0, none⟩)), (1, .int .u64 id_5), (2, .int .u64 seq_6)] [⟨1, b_2, [.int .u64 t_1.now, .int .u64 t_1.next, .slice A_3 t_1.rows.length c_4]⟩] [Ow 2 kT_session_Row A_3 c_4 t_1.rows] [.code c18_0] _
  refine GoO.seq' c18_0e ?_
  refine GoO.region' (is := [0, 1]) c18_1e (by kernel_rfl) ?_
  refine OpTo.go (GoO.new rfl 40 (cs := [.int .i64 0, .int .u64 0, .int .u64 0]) (by kernel_rfl) _ (fun _ => rfl) (fun b_7 => ?_))
  refine GoO.exec (is := [1]) (hs := [.p]) (rest := []) (ks := [0, 1, 2, 6]) (env' := [(0, .pointer (some ⟨b_2, 0, none⟩)), (1, .int .u64 id_5), (2, .int .u64 seq_6), (6, .pointer (some ⟨b_7, 0, none⟩))]) (H' := [⟨40, b_7, [.int .i64 0, .int .u64 0, .int .u64 0]⟩, ⟨1, b_2, [.int .u64 t_1.now, .int .u64 t_1.next, .slice A_3 t_1.rows.length c_4]⟩]) (ps := []) (by kernel_rfl) trivial ?_
  refine GoO.regionEnd ?_
  refine GoO.seq' c18_2e ?_
  refine GoO.region' (is := [0, 1, 2, 3]) c18_3e (by kernel_rfl) ?_
  refine GoO.exec (is := [0, 1]) (hs := [.p, .p]) (rest := [2, 3]) (ks := [0, 2, 6, 10, 11]) (env' := [(0, .pointer (some ⟨b_2, 0, none⟩)), (2, .int .u64 seq_6), (6, .pointer (some ⟨b_7, 0, none⟩)), (10, .pointer (some ⟨b_2, 0, none⟩)), (11, .int .u64 id_5)]) (H' := [⟨40, b_7, [.int .i64 0, .int .u64 0, .int .u64 0]⟩, ⟨1, b_2, [.int .u64 t_1.now, .int .u64 t_1.next, .slice A_3 t_1.rows.length c_4]⟩]) (ps := []) (by kernel_rfl) trivial ?_
  refine OpTo.go (GoO.call rfl (by kernel_rfl) (by kernel_rfl) (session_Table_find_ok n t_1 id_5 b_2 A_3 c_4) [[0], [1], [2]] [] [(1, 1)] [(2, 0)] (hks := [0, 1]) (bks := [0]) (by kernel_rfl) (by kernel_rfl) (by kernel_rfl) (.inl rfl) rfl rfl (by kernel_rfl) (by kernel_rfl) _ (fun _ _ => rfl) _ _ (fun _ _ => rfl) (fun _ _ => rfl) (fun _ _ => by kernel_rfl) (fun _ _ => by kernel_rfl) (fun r_8 x_22 => ?_))
  refine GoO.shape (env' := [(0, .pointer (some ⟨b_2, 0, none⟩)), (2, .int .u64 seq_6), (6, .pointer (some ⟨b_7, 0, none⟩)), (10, .pointer (some ⟨b_2, 0, none⟩)), (11, .int .u64 id_5), (12, .int .i64 r_8)]) (H' := [⟨40, b_7, [.int .i64 0, .int .u64 0, .int .u64 0]⟩, ⟨1, b_2, [.int .u64 t_1.now, .int .u64 t_1.next, .slice A_3 t_1.rows.length c_4]⟩]) (B' := [Ow 2 kT_session_Row A_3 c_4 t_1.rows]) (ks := [0, 2, 6, 10, 11, 12]) (by kernel_rfl) (by kernel_rfl) (by kernel_rfl) ?_
  refine GoO.exec (is := [3]) (hs := [.p]) (rest := []) (ks := [0, 2, 6, 8]) (env' := [(0, .pointer (some ⟨b_2, 0, none⟩)), (2, .int .u64 seq_6), (6, .pointer (some ⟨b_7, 0, none⟩)), (8, .int .i64 r_8)]) (H' := [⟨40, b_7, [.int .i64 0, .int .u64 0, .int .u64 0]⟩, ⟨1, b_2, [.int .u64 t_1.now, .int .u64 t_1.next, .slice A_3 t_1.rows.length c_4]⟩]) (ps := []) (by kernel_rfl) trivial ?_
  refine GoO.regionEnd ?_
  refine GoO.seq' c18_4e ?_
  refine GoO.seq' c18_5e ?_
  refine GoO.region' (is := [0, 1]) c18_6e (by kernel_rfl) ?_
  refine GoO.exec (is := [0, 1]) (hs := [.p, .p]) (rest := []) (ks := [0, 2, 6, 8, 14]) (env' := [(0, .pointer (some ⟨b_2, 0, none⟩)), (2, .int .u64 seq_6), (6, .pointer (some ⟨b_7, 0, none⟩)), (8, .int .i64 r_8), (14, .bool (decide (r_8 < 0)))]) (H' := [⟨40, b_7, [.int .i64 0, .int .u64 0, .int .u64 0]⟩, ⟨1, b_2, [.int .u64 t_1.now, .int .u64 t_1.next, .slice A_3 t_1.rows.length c_4]⟩]) (ps := []) (by kernel_rfl) trivial ?_
  refine GoO.regionEnd ?_
  refine GoO.ite' c18_7e (by kernel_rfl) (fun h9 => ?_) (fun h9 => ?_)
  · refine GoO.seq' c18_8e ?_
    refine GoO.region' (is := [0, 1, 2]) c18_9e (by kernel_rfl) ?_
    refine GoO.exec (is := [0, 1, 2]) (hs := [.p, .b 0, .p]) (rest := []) (ks := [6, 7]) (env' := [(6, .pointer (some ⟨b_7, 0, none⟩)), (7, .bool false)]) (H' := [⟨40, b_7, [.int .i64 40, .int .u64 0, .int .u64 0]⟩, ⟨1, b_2, [.int .u64 t_1.now, .int .u64 t_1.next, .slice A_3 t_1.rows.length c_4]⟩]) (ps := [b_7 = b_7]) (by kernel_rfl) (And.intro rfl trivial) ?_
    refine GoO.regionEnd ?_
    exact GoO.ret' (h := c18_10e) (hs := [0]) (ps := [b_7 = b_7]) (hk := [1]) (bk := [0]) Try.func18 (⟨A_3, c_4⟩ : Option Addr × Nat) (by kernel_rfl) (And.intro rfl trivial) (by kernel_rfl) (by kernel_rfl)
  · refine GoO.skip' c18_11e ?_
    refine GoO.seq' c18_12e ?_
    refine GoO.region' (is := [0, 1, 2, 3, 4, 5, 6]) c18_13e (by kernel_rfl) ?_
    refine GoO.exec (is := [0, 1, 2, 3, 4]) (hs := [.p, .p, .p, .b 1, .p]) (rest := [5, 6]) (ks := [0, 2, 6, 19, 20]) (env' := [(0, .pointer (some ⟨b_2, 0, none⟩)), (2, .int .u64 seq_6), (6, .pointer (some ⟨b_7, 0, none⟩)), (19, .slice A_3 t_1.rows.length c_4), (20, .int .i64 r_8)]) (H' := [⟨40, b_7, [.int .i64 0, .int .u64 0, .int .u64 0]⟩, ⟨1, b_2, [.int .u64 t_1.now, .int .u64 t_1.next, .slice A_3 t_1.rows.length c_4]⟩]) (ps := [b_2 = b_2]) (by kernel_rfl) (And.intro rfl trivial) ?_
    refine GoO.guard (fun h10 => ?_)
    refine OpTo.go (GoO.idx (kk := .i64) (e := 87) (K := kT_session_Row) (A := A_3) (c := c_4) (xs := t_1.rows) (iv := r_8) (j := 0) rfl (by kernel_rfl) (by kernel_rfl) (by kernel_rfl) (by kernel_rfl) rfl Reads.own rfl h10.1 h10.2 (by decide) rfl ?_)
    refine GoO.exec (is := [6]) (hs := [.p]) (rest := []) (ks := [0, 2, 6, 9]) (env' := [(0, .pointer (some ⟨b_2, 0, none⟩)), (2, .int .u64 seq_6), (6, .pointer (some ⟨b_7, 0, none⟩)), (9, elemP A_3 r_8.toNat 6 0)]) (H' := [⟨40, b_7, [.int .i64 0, .int .u64 0, .int .u64 0]⟩, ⟨1, b_2, [.int .u64 t_1.now, .int .u64 t_1.next, .slice A_3 t_1.rows.length c_4]⟩]) (ps := []) (by kernel_rfl) trivial ?_
    refine GoO.regionEnd ?_
    refine GoO.seq' c18_14e ?_
    refine GoO.region' (is := [0, 1, 2, 3, 4, 5, 6, 7]) c18_15e (by kernel_rfl) ?_
    refine GoO.exec (is := [0, 1, 2, 3, 4]) (hs := [.p, .p, .p, .p, .b 1]) (rest := [5, 6, 7]) (ks := [2, 6, 9, 22, 26]) (env' := [(2, .int .u64 seq_6), (6, .pointer (some ⟨b_7, 0, none⟩)), (9, elemP A_3 r_8.toNat 6 0), (22, elemP A_3 r_8.toNat 6 0), (26, .int .u64 t_1.now)]) (H' := [⟨40, b_7, [.int .i64 0, .int .u64 0, .int .u64 0]⟩, ⟨1, b_2, [.int .u64 t_1.now, .int .u64 t_1.next, .slice A_3 t_1.rows.length c_4]⟩]) (ps := [b_2 = b_2]) (by kernel_rfl) (And.intro rfl trivial) ?_
    refine OpTo.go (GoO.nilE (K := kT_session_Row) (A := A_3) (c := c_4) (xs := t_1.rows) (iN := r_8.toNat) (off := 0) (j := 0) rfl (by kernel_rfl) rfl Reads.own (by first | exact idx_lt h10.1 h10.2 | (simp only [List.length_set]; exact idx_lt h10.1 h10.2)) (by decide) rfl ?_)
    refine OpTo.go (GoO.fldE (K := kT_session_Row) (A := A_3) (c := c_4) (xs := t_1.rows) (iN := r_8.toNat) (off := 0) (n := 1) (j := 0) rfl (by kernel_rfl) (by kernel_rfl) rfl Reads.own (by first | exact idx_lt h10.1 h10.2 | (simp only [List.length_set]; exact idx_lt h10.1 h10.2)) (by decide) rfl ?_)
    refine OpTo.go (GoO.stE (K := kT_session_Row) (A := A_3) (c := c_4) (xs := t_1.rows) (iN := r_8.toNat) (off := 1) (tg := 2) (j := 0) (v := .int .u64 t_1.now) rfl (by kernel_rfl) (by kernel_rfl) rfl (by first | exact idx_lt h10.1 h10.2 | (simp only [List.length_set]; exact idx_lt h10.1 h10.2)) (by decide) (by kernel_rfl) (by kernel_rfl) (by kernel_rfl) ((⟨(rdL t_1.rows r_8).Id, t_1.now, (rdL t_1.rows r_8).Seq, (⟨(rdL t_1.rows r_8).Reply.Err, (rdL t_1.rows r_8).Reply.Num, (rdL t_1.rows r_8).Reply.Extra⟩ : T_api_Reply)⟩ : T_session_Row)) (fun w S cs _ hr => ⟨_, by subst hr; exact stored_flat rfl, rfl⟩) rfl ?_)
    refine GoO.rebox (j := 1) (t := 1) (b := b_2) (cs := [.int .u64 t_1.now, .int .u64 t_1.next, .slice A_3 t_1.rows.length c_4]) (cs' := [.int .u64 t_1.now, .int .u64 t_1.next, .slice A_3 (t_1.rows.set r_8.toNat (⟨(rdL t_1.rows r_8).Id, t_1.now, (rdL t_1.rows r_8).Seq, (⟨(rdL t_1.rows r_8).Reply.Err, (rdL t_1.rows r_8).Reply.Num, (rdL t_1.rows r_8).Reply.Extra⟩ : T_api_Reply)⟩ : T_session_Row)).length c_4]) (by kernel_rfl) (by simp) ?_
    refine GoO.regionEnd ?_
    refine GoO.seq' c18_16e ?_
    refine GoO.block' c18_17e ?_
    refine GoO.seq' c18_18e ?_
    refine GoO.region' (is := [0, 1, 2, 3, 4, 5, 6, 7, 8, 9, 10]) c18_19e (by kernel_rfl) ?_
    refine GoO.exec (is := [0, 1]) (hs := [.p, .p]) (rest := [2, 3, 4, 5, 6, 7, 8, 9, 10]) (ks := [2, 6, 9, 30, 31]) (env' := [(2, .int .u64 seq_6), (6, .pointer (some ⟨b_7, 0, none⟩)), (9, elemP A_3 r_8.toNat 6 0), (30, .int .u64 seq_6), (31, elemP A_3 r_8.toNat 6 0)]) (H' := [⟨40, b_7, [.int .i64 0, .int .u64 0, .int .u64 0]⟩, ⟨1, b_2, [.int .u64 t_1.now, .int .u64 t_1.next, .slice A_3 (t_1.rows.set r_8.toNat (⟨(rdL t_1.rows r_8).Id, t_1.now, (rdL t_1.rows r_8).Seq, (⟨(rdL t_1.rows r_8).Reply.Err, (rdL t_1.rows r_8).Reply.Num, (rdL t_1.rows r_8).Reply.Extra⟩ : T_api_Reply)⟩ : T_session_Row)).length c_4]⟩]) (ps := []) (by kernel_rfl) trivial ?_
    refine OpTo.go (GoO.nilE (K := kT_session_Row) (A := A_3) (c := c_4) (xs := t_1.rows.set r_8.toNat (⟨(rdL t_1.rows r_8).Id, t_1.now, (rdL t_1.rows r_8).Seq, (⟨(rdL t_1.rows r_8).Reply.Err, (rdL t_1.rows r_8).Reply.Num, (rdL t_1.rows r_8).Reply.Extra⟩ : T_api_Reply)⟩ : T_session_Row)) (iN := r_8.toNat) (off := 0) (j := 0) rfl (by kernel_rfl) rfl Reads.own (by first | exact idx_lt h10.1 h10.2 | (simp only [List.length_set]; exact idx_lt h10.1 h10.2)) (by decide) rfl ?_)
    refine OpTo.go (GoO.fldE (K := kT_session_Row) (A := A_3) (c := c_4) (xs := t_1.rows.set r_8.toNat (⟨(rdL t_1.rows r_8).Id, t_1.now, (rdL t_1.rows r_8).Seq, (⟨(rdL t_1.rows r_8).Reply.Err, (rdL t_1.rows r_8).Reply.Num, (rdL t_1.rows r_8).Reply.Extra⟩ : T_api_Reply)⟩ : T_session_Row)) (iN := r_8.toNat) (off := 0) (n := 2) (j := 0) rfl (by kernel_rfl) (by kernel_rfl) rfl Reads.own (by first | exact idx_lt h10.1 h10.2 | (simp only [List.length_set]; exact idx_lt h10.1 h10.2)) (by decide) rfl ?_)
    refine OpTo.go (GoO.ldE' (K := kT_session_Row) (A := A_3) (c := c_4) (xs := t_1.rows.set r_8.toNat (⟨(rdL t_1.rows r_8).Id, t_1.now, (rdL t_1.rows r_8).Seq, (⟨(rdL t_1.rows r_8).Reply.Err, (rdL t_1.rows r_8).Reply.Num, (rdL t_1.rows r_8).Reply.Extra⟩ : T_api_Reply)⟩ : T_session_Row)) (iN := r_8.toNat) (off := 2) (j := 0) rfl (by kernel_rfl) rfl Reads.own (by first | exact idx_lt h10.1 h10.2 | (simp only [List.length_set]; exact idx_lt h10.1 h10.2)) (by decide) (Opn.flat _ _ _ _ _) (v := fun _ => .int .u64 ((rdL (t_1.rows.set r_8.toNat (⟨(rdL t_1.rows r_8).Id, t_1.now, (rdL t_1.rows r_8).Seq, (⟨(rdL t_1.rows r_8).Reply.Err, (rdL t_1.rows r_8).Reply.Num, (rdL t_1.rows r_8).Reply.Extra⟩ : T_api_Reply)⟩ : T_session_Row)) r_8).Seq)) (fun _ => by kernel_rfl) _ (fun _ => rfl) (fun _ => ?_))
    refine GoO.exec (is := [5, 6]) (hs := [.p, .p]) (rest := [7, 8, 9, 10]) (ks := [2, 6, 9, 36]) (env' := [(2, .int .u64 seq_6), (6, .pointer (some ⟨b_7, 0, none⟩)), (9, elemP A_3 r_8.toNat 6 0), (36, .bool (seq_6 == ((rdL (t_1.rows.set r_8.toNat (⟨(rdL t_1.rows r_8).Id, t_1.now, (rdL t_1.rows r_8).Seq, (⟨(rdL t_1.rows r_8).Reply.Err, (rdL t_1.rows r_8).Reply.Num, (rdL t_1.rows r_8).Reply.Extra⟩ : T_api_Reply)⟩ : T_session_Row)) r_8).Seq)))]) (H' := [⟨40, b_7, [.int .i64 0, .int .u64 0, .int .u64 0]⟩, ⟨1, b_2, [.int .u64 t_1.now, .int .u64 t_1.next, .slice A_3 (t_1.rows.set r_8.toNat (⟨(rdL t_1.rows r_8).Id, t_1.now, (rdL t_1.rows r_8).Seq, (⟨(rdL t_1.rows r_8).Reply.Err, (rdL t_1.rows r_8).Reply.Num, (rdL t_1.rows r_8).Reply.Extra⟩ : T_api_Reply)⟩ : T_session_Row)).length c_4]⟩]) (ps := []) (by kernel_rfl) trivial ?_
    refine GoO.bsplit (t := 36) (by kernel_rfl) (fun h11 => ?_) (fun h11 => ?_)
    · refine GoO.exec (is := [7, 8, 9, 10]) (hs := [.p, .p, .p, .p]) (rest := []) (ks := [2, 6, 9, 29]) (env' := [(2, .int .u64 seq_6), (6, .pointer (some ⟨b_7, 0, none⟩)), (9, elemP A_3 r_8.toNat 6 0), (29, .bool (decide (seq_6 > 0)))]) (H' := [⟨40, b_7, [.int .i64 0, .int .u64 0, .int .u64 0]⟩, ⟨1, b_2, [.int .u64 t_1.now, .int .u64 t_1.next, .slice A_3 (t_1.rows.set r_8.toNat (⟨(rdL t_1.rows r_8).Id, t_1.now, (rdL t_1.rows r_8).Seq, (⟨(rdL t_1.rows r_8).Reply.Err, (rdL t_1.rows r_8).Reply.Num, (rdL t_1.rows r_8).Reply.Extra⟩ : T_api_Reply)⟩ : T_session_Row)).length c_4]⟩]) (ps := []) (by kernel_rfl) trivial ?_
      refine GoO.regionEnd ?_
      exact GoO.sub (ks := [2, 6, 9, 29]) (hk := [0, 1]) (bk := [0]) (by kernel_rfl) (by kernel_rfl) (by kernel_rfl) (session_Table_Begin_j0_ok n t_1 seq_6 r_8 b_2 A_3 c_4 b_7 w0 S0 (decide (seq_6 > 0)))
    · refine GoO.exec (is := [7, 8, 9, 10]) (hs := [.p, .p, .p, .p]) (rest := []) (ks := [2, 6, 9, 29]) (env' := [(2, .int .u64 seq_6), (6, .pointer (some ⟨b_7, 0, none⟩)), (9, elemP A_3 r_8.toNat 6 0), (29, .bool false)]) (H' := [⟨40, b_7, [.int .i64 0, .int .u64 0, .int .u64 0]⟩, ⟨1, b_2, [.int .u64 t_1.now, .int .u64 t_1.next, .slice A_3 (t_1.rows.set r_8.toNat (⟨(rdL t_1.rows r_8).Id, t_1.now, (rdL t_1.rows r_8).Seq, (⟨(rdL t_1.rows r_8).Reply.Err, (rdL t_1.rows r_8).Reply.Num, (rdL t_1.rows r_8).Reply.Extra⟩ : T_api_Reply)⟩ : T_session_Row)).length c_4]⟩]) (ps := []) (by kernel_rfl) trivial ?_
      refine GoO.regionEnd ?_
      exact GoO.sub (ks := [2, 6, 9, 29]) (hk := [0, 1]) (bk := [0]) (by kernel_rfl) (by kernel_rfl) (by kernel_rfl) (session_Table_Begin_j0_ok n t_1 seq_6 r_8 b_2 A_3 c_4 b_7 w0 S0 false)

/-! (*tontine/session.Table).End -/
noncomputable def c19_0 : Code := bodyOf Try.f19
noncomputable def c19_1 : Code := cdL c19_0
noncomputable def c19_2 : Code := cdR c19_0
noncomputable def c19_3 : Code := cdL c19_2
noncomputable def c19_4 : Code := cdR c19_2
noncomputable def c19_5 : Code := cdL c19_4
noncomputable def c19_6 : Code := cdL c19_5
noncomputable def c19_7 : Code := cdR c19_5
noncomputable def c19_8 : Code := cdL c19_7
noncomputable def c19_9 : Code := cdL c19_8
noncomputable def c19_10 : Code := cdR c19_8
noncomputable def c19_11 : Code := cdR c19_7
noncomputable def c19_12 : Code := cdR c19_4
noncomputable def c19_13 : Code := cdL c19_12
noncomputable def c19_14 : Code := cdR c19_12
noncomputable def c19_15 : Code := cdL c19_14
noncomputable def c19_16 : Code := cdR c19_14
noncomputable def r19_1 : Array Oper := cdO c19_1
noncomputable def r19_3 : Array Oper := cdO c19_3
noncomputable def r19_6 : Array Oper := cdO c19_6
noncomputable def r19_9 : Array Oper := cdO c19_9
noncomputable def r19_13 : Array Oper := cdO c19_13
noncomputable def r19_15 : Array Oper := cdO c19_15
theorem c19_0e : c19_0 = .seq c19_1 c19_2 := by kernel_rfl
theorem c19_1e : c19_1 = .region 0 r19_1 false := by kernel_rfl
theorem c19_2e : c19_2 = .seq c19_3 c19_4 := by kernel_rfl
theorem c19_3e : c19_3 = .region 1 r19_3 false := by kernel_rfl
theorem c19_4e : c19_4 = .seq c19_5 c19_12 := by kernel_rfl
theorem c19_5e : c19_5 = .seq c19_6 c19_7 := by kernel_rfl
theorem c19_6e : c19_6 = .region 2 r19_6 false := by kernel_rfl
theorem c19_7e : c19_7 = .cond (cdC c19_7) c19_8 c19_11 := by kernel_rfl
theorem c19_8e : c19_8 = .seq c19_9 c19_10 := by kernel_rfl
theorem c19_9e : c19_9 = .region 3 r19_9 false := by kernel_rfl
theorem c19_10e : c19_10 = .ret := by kernel_rfl
theorem c19_11e : c19_11 = .skip := by kernel_rfl
theorem c19_12e : c19_12 = .seq c19_13 c19_14 := by kernel_rfl
theorem c19_13e : c19_13 = .region 4 r19_13 true := by kernel_rfl
theorem c19_14e : c19_14 = .seq c19_15 c19_16 := by kernel_rfl
theorem c19_15e : c19_15 = .region 5 r19_15 false := by kernel_rfl
theorem c19_16e : c19_16 = .ret := by kernel_rfl
noncomputable def session_Table_End.R (b_2 : Nat) (A_3 : Option Addr) (c_4 : Nat) : Pst (Bool × T_session_Table) where
  ε := Option Addr × Nat
  v := fun r x => .bool r.1
  H := fun r x => [⟨1, b_2, [.int .u64 r.2.now, .int .u64 r.2.next, .slice x.1 r.2.rows.length x.2]⟩]
  B := fun r x => [Ow 2 kT_session_Row x.1 x.2 r.2.rows]
noncomputable def session_Table_End.cx (b_2 : Nat) (A_3 : Option Addr) (c_4 : Nat) (w0 : World) (S0 : Fam) : Cx (Bool × T_session_Table) := ⟨Try.prog, 19, Try.f19, 48, w0, S0, [1, 2], 2, session_Table_End.R b_2 A_3 c_4⟩
theorem session_Table_End_j0_ok (n : Nat) (t_1 : T_session_Table) (seq_6 : Int) (y_7 : T_api_Reply) (r_9 : Int) (b_2 : Nat) (A_3 : Option Addr) (c_4 : Nat) (b_8 : Nat) (w0 : World) (S0 : Fam) (b_13 : Bool) :
    GoO (session_Table_End.cx b_2 A_3 c_4 w0 S0) [(0, .pointer (some ⟨b_2, 0, none⟩)), (2, .int .u64 seq_6), (7, .pointer (some ⟨b_8, 0, none⟩)), (9, .int .i64 r_9), (31, .bool b_13)] [⟨1, b_2, [.int .u64 t_1.now, .int .u64 t_1.next, .slice A_3 t_1.rows.length c_4]⟩, ⟨40, b_8, [.int .i64 y_7.Err, .int .u64 y_7.Num, .int .u64 y_7.Extra]⟩] [Ow 2 kT_session_Row A_3 c_4 t_1.rows] [.code c19_7, .code c19_12] (session_Table_End.j0 n t_1 seq_6 y_7 r_9 b_13) := by
  unfold session_Table_End.j0
  refine GoO.ite' c19_7e (by kernel_rfl) (fun h14 => ?_) (fun h14 => ?_)
  · refine GoO.seq' c19_8e ?_
    refine GoO.region' (is := [0]) c19_9e (by kernel_rfl) ?_
    refine GoO.exec (is := [0]) (hs := [.p]) (rest := []) (ks := [8]) (env' := [(8, .bool false)]) (H' := [⟨1, b_2, [.int .u64 t_1.now, .int .u64 t_1.next, .slice A_3 t_1.rows.length c_4]⟩, ⟨40, b_8, [.int .i64 y_7.Err, .int .u64 y_7.Num, .int .u64 y_7.Extra]⟩]) (ps := []) (by kernel_rfl) trivial ?_
    refine GoO.regionEnd ?_
    exact GoO.ret' (h := c19_10e) (hs := []) (ps := []) (hk := [0]) (bk := [0]) Try.func19 (⟨A_3, c_4⟩ : Option Addr × Nat) (by kernel_rfl) trivial (by kernel_rfl) (by kernel_rfl)
  · refine GoO.skip' c19_11e ?_
    refine GoO.seq' c19_12e ?_
    refine GoO.draw c19_13e (by kernel_rfl) [15, 16, 17] [⟨1, b_2, [.int .u64 t_1.now, .int .u64 t_1.next, .slice A_3 t_1.rows.length c_4]⟩, ⟨40, b_8, [.int .i64 y_7.Err, .int .u64 y_7.Num, .int .u64 y_7.Extra]⟩] [] (n := 18) (by kernel_rfl) ?_
    simp only [List.replicate]
    refine GoF.take [0, 1, 2, 3, 4, 5, 6, 7, 8, 9, 10, 11] [.p, .p, .p, .b 0, .p, .p, .p, .p, .b 0, .p, .p, .b 1] (ks := [35, 36, 40, 41, 42, 43]) (fu := 6) (li := [true, true, true, true, true, true, true, true, true, true, true, true, false, false, false, false, false, false]) (env' := [(35, .slice A_3 t_1.rows.length c_4), (36, .int .i64 r_9), (40, .slice A_3 t_1.rows.length c_4), (41, .int .i64 r_9), (42, .int .u64 seq_6), (43, .agg ⟨[.int .i64 y_7.Err, .int .u64 y_7.Num, .int .u64 y_7.Extra]⟩)]) (ps := [b_2 = b_2, b_2 = b_2, b_8 = b_8]) (hk := [0, 1]) (bk := []) (by kernel_rfl) (And.intro rfl (And.intro rfl (And.intro rfl trivial))) rfl rfl ?_
    refine GoF.guard (fun h15 => ?_)
    refine OpTo.goF (i := 12) (by kernel_rfl) (hk := [0, 1]) (bk := []) (GoO.idx (kk := .i64) (e := 87) (K := kT_session_Row) (A := A_3) (c := c_4) (xs := t_1.rows) (iv := r_9) (j := 0) rfl (by kernel_rfl) (by kernel_rfl) (by kernel_rfl) (by kernel_rfl) rfl Reads.own rfl h15.1 h15.2 (by decide) rfl ⟨rfl, rfl, ?_⟩)
    refine OpTo.goF (i := 13) (by kernel_rfl) (hk := [0, 1]) (bk := []) (GoO.fldE (K := kT_session_Row) (A := A_3) (c := c_4) (xs := t_1.rows) (iN := r_9.toNat) (off := 0) (n := 2) (j := 0) rfl (by kernel_rfl) (by kernel_rfl) rfl Reads.own (by first | exact idx_lt h15.1 h15.2 | (simp only [List.length_set]; exact idx_lt h15.1 h15.2)) (by decide) rfl ⟨rfl, rfl, ?_⟩)
    refine OpTo.goF (i := 14) (by kernel_rfl) (hk := [0, 1]) (bk := []) (GoO.stE (K := kT_session_Row) (A := A_3) (c := c_4) (xs := t_1.rows) (iN := r_9.toNat) (off := 2) (tg := 2) (j := 0) (v := .int .u64 seq_6) rfl (by kernel_rfl) (by kernel_rfl) rfl (by first | exact idx_lt h15.1 h15.2 | (simp only [List.length_set]; exact idx_lt h15.1 h15.2)) (by decide) (by kernel_rfl) (by kernel_rfl) (by kernel_rfl) ((⟨(rdL t_1.rows r_9).Id, (rdL t_1.rows r_9).Used, seq_6, (⟨(rdL t_1.rows r_9).Reply.Err, (rdL t_1.rows r_9).Reply.Num, (rdL t_1.rows r_9).Reply.Extra⟩ : T_api_Reply)⟩ : T_session_Row)) (fun w S cs _ hr => ⟨_, by subst hr; exact stored_flat rfl, rfl⟩) rfl ⟨rfl, rfl, ?_⟩)
    refine GoF.reval (t := 35) (v := .slice A_3 t_1.rows.length c_4) (v' := .slice A_3 (t_1.rows.set r_9.toNat (⟨(rdL t_1.rows r_9).Id, (rdL t_1.rows r_9).Used, seq_6, (⟨(rdL t_1.rows r_9).Reply.Err, (rdL t_1.rows r_9).Reply.Num, (rdL t_1.rows r_9).Reply.Extra⟩ : T_api_Reply)⟩ : T_session_Row)).length c_4) (by kernel_rfl) (by simp) ?_
    refine GoF.reval (t := 40) (v := .slice A_3 t_1.rows.length c_4) (v' := .slice A_3 (t_1.rows.set r_9.toNat (⟨(rdL t_1.rows r_9).Id, (rdL t_1.rows r_9).Used, seq_6, (⟨(rdL t_1.rows r_9).Reply.Err, (rdL t_1.rows r_9).Reply.Num, (rdL t_1.rows r_9).Reply.Extra⟩ : T_api_Reply)⟩ : T_session_Row)).length c_4) (by kernel_rfl) (by simp) ?_
    refine GoF.rebox (j := 0) (t := 1) (b := b_2) (cs := [.int .u64 t_1.now, .int .u64 t_1.next, .slice A_3 t_1.rows.length c_4]) (cs' := [.int .u64 t_1.now, .int .u64 t_1.next, .slice A_3 (t_1.rows.set r_9.toNat (⟨(rdL t_1.rows r_9).Id, (rdL t_1.rows r_9).Used, seq_6, (⟨(rdL t_1.rows r_9).Reply.Err, (rdL t_1.rows r_9).Reply.Num, (rdL t_1.rows r_9).Reply.Extra⟩ : T_api_Reply)⟩ : T_session_Row)).length c_4]) (by kernel_rfl) (by simp) ?_
    refine GoF.guard (fun h16 => ?_)
    refine OpTo.goE (i := 15) (by kernel_rfl) rfl (GoO.idx (kk := .i64) (e := 87) (K := kT_session_Row) (A := A_3) (c := c_4) (xs := t_1.rows.set r_9.toNat (⟨(rdL t_1.rows r_9).Id, (rdL t_1.rows r_9).Used, seq_6, (⟨(rdL t_1.rows r_9).Reply.Err, (rdL t_1.rows r_9).Reply.Num, (rdL t_1.rows r_9).Reply.Extra⟩ : T_api_Reply)⟩ : T_session_Row)) (iv := r_9) (j := 0) rfl (by kernel_rfl) (by kernel_rfl) (by kernel_rfl) (by kernel_rfl) rfl Reads.own rfl h16.1 h16.2 (by decide) rfl ?_)
    refine OpTo.goE (i := 16) (by kernel_rfl) rfl (GoO.fldE (K := kT_session_Row) (A := A_3) (c := c_4) (xs := t_1.rows.set r_9.toNat (⟨(rdL t_1.rows r_9).Id, (rdL t_1.rows r_9).Used, seq_6, (⟨(rdL t_1.rows r_9).Reply.Err, (rdL t_1.rows r_9).Reply.Num, (rdL t_1.rows r_9).Reply.Extra⟩ : T_api_Reply)⟩ : T_session_Row)) (iN := r_9.toNat) (off := 0) (n := 3) (j := 0) rfl (by kernel_rfl) (by kernel_rfl) rfl Reads.own (by first | exact idx_lt h16.1 h16.2 | (simp only [List.length_set]; exact idx_lt h16.1 h16.2)) (by decide) rfl ?_)
    refine OpTo.goE (i := 17) (by kernel_rfl) rfl (GoO.stE (K := kT_session_Row) (A := A_3) (c := c_4) (xs := t_1.rows.set r_9.toNat (⟨(rdL t_1.rows r_9).Id, (rdL t_1.rows r_9).Used, seq_6, (⟨(rdL t_1.rows r_9).Reply.Err, (rdL t_1.rows r_9).Reply.Num, (rdL t_1.rows r_9).Reply.Extra⟩ : T_api_Reply)⟩ : T_session_Row)) (iN := r_9.toNat) (off := 3) (tg := 2) (j := 0) (v := .agg ⟨[.int .i64 y_7.Err, .int .u64 y_7.Num, .int .u64 y_7.Extra]⟩) rfl (by kernel_rfl) (by kernel_rfl) rfl (by first | exact idx_lt h16.1 h16.2 | (simp only [List.length_set]; exact idx_lt h16.1 h16.2)) (by decide) (by kernel_rfl) (by kernel_rfl) (by kernel_rfl) ((⟨(rdL (t_1.rows.set r_9.toNat (⟨(rdL t_1.rows r_9).Id, (rdL t_1.rows r_9).Used, seq_6, (⟨(rdL t_1.rows r_9).Reply.Err, (rdL t_1.rows r_9).Reply.Num, (rdL t_1.rows r_9).Reply.Extra⟩ : T_api_Reply)⟩ : T_session_Row)) r_9).Id, (rdL (t_1.rows.set r_9.toNat (⟨(rdL t_1.rows r_9).Id, (rdL t_1.rows r_9).Used, seq_6, (⟨(rdL t_1.rows r_9).Reply.Err, (rdL t_1.rows r_9).Reply.Num, (rdL t_1.rows r_9).Reply.Extra⟩ : T_api_Reply)⟩ : T_session_Row)) r_9).Used, (rdL (t_1.rows.set r_9.toNat (⟨(rdL t_1.rows r_9).Id, (rdL t_1.rows r_9).Used, seq_6, (⟨(rdL t_1.rows r_9).Reply.Err, (rdL t_1.rows r_9).Reply.Num, (rdL t_1.rows r_9).Reply.Extra⟩ : T_api_Reply)⟩ : T_session_Row)) r_9).Seq, y_7⟩ : T_session_Row)) (fun w S cs _ hr => ⟨_, by subst hr; exact stored_flat rfl, rfl⟩) rfl ?_)
    refine GoF.reval (t := 35) (v := .slice A_3 (t_1.rows.set r_9.toNat (⟨(rdL t_1.rows r_9).Id, (rdL t_1.rows r_9).Used, seq_6, (⟨(rdL t_1.rows r_9).Reply.Err, (rdL t_1.rows r_9).Reply.Num, (rdL t_1.rows r_9).Reply.Extra⟩ : T_api_Reply)⟩ : T_session_Row)).length c_4) (v' := .slice A_3 ((t_1.rows.set r_9.toNat (⟨(rdL t_1.rows r_9).Id, (rdL t_1.rows r_9).Used, seq_6, (⟨(rdL t_1.rows r_9).Reply.Err, (rdL t_1.rows r_9).Reply.Num, (rdL t_1.rows r_9).Reply.Extra⟩ : T_api_Reply)⟩ : T_session_Row)).set r_9.toNat (⟨(rdL (t_1.rows.set r_9.toNat (⟨(rdL t_1.rows r_9).Id, (rdL t_1.rows r_9).Used, seq_6, (⟨(rdL t_1.rows r_9).Reply.Err, (rdL t_1.rows r_9).Reply.Num, (rdL t_1.rows r_9).Reply.Extra⟩ : T_api_Reply)⟩ : T_session_Row)) r_9).Id, (rdL (t_1.rows.set r_9.toNat (⟨(rdL t_1.rows r_9).Id, (rdL t_1.rows r_9).Used, seq_6, (⟨(rdL t_1.rows r_9).Reply.Err, (rdL t_1.rows r_9).Reply.Num, (rdL t_1.rows r_9).Reply.Extra⟩ : T_api_Reply)⟩ : T_session_Row)) r_9).Used, (rdL (t_1.rows.set r_9.toNat (⟨(rdL t_1.rows r_9).Id, (rdL t_1.rows r_9).Used, seq_6, (⟨(rdL t_1.rows r_9).Reply.Err, (rdL t_1.rows r_9).Reply.Num, (rdL t_1.rows r_9).Reply.Extra⟩ : T_api_Reply)⟩ : T_session_Row)) r_9).Seq, y_7⟩ : T_session_Row)).length c_4) (by kernel_rfl) (by simp) ?_
    refine GoF.reval (t := 40) (v := .slice A_3 (t_1.rows.set r_9.toNat (⟨(rdL t_1.rows r_9).Id, (rdL t_1.rows r_9).Used, seq_6, (⟨(rdL t_1.rows r_9).Reply.Err, (rdL t_1.rows r_9).Reply.Num, (rdL t_1.rows r_9).Reply.Extra⟩ : T_api_Reply)⟩ : T_session_Row)).length c_4) (v' := .slice A_3 ((t_1.rows.set r_9.toNat (⟨(rdL t_1.rows r_9).Id, (rdL t_1.rows r_9).Used, seq_6, (⟨(rdL t_1.rows r_9).Reply.Err, (rdL t_1.rows r_9).Reply.Num, (rdL t_1.rows r_9).Reply.Extra⟩ : T_api_Reply)⟩ : T_session_Row)).set r_9.toNat (⟨(rdL (t_1.rows.set r_9.toNat (⟨(rdL t_1.rows r_9).Id, (rdL t_1.rows r_9).Used, seq_6, (⟨(rdL t_1.rows r_9).Reply.Err, (rdL t_1.rows r_9).Reply.Num, (rdL t_1.rows r_9).Reply.Extra⟩ : T_api_Reply)⟩ : T_session_Row)) r_9).Id, (rdL (t_1.rows.set r_9.toNat (⟨(rdL t_1.rows r_9).Id, (rdL t_1.rows r_9).Used, seq_6, (⟨(rdL t_1.rows r_9).Reply.Err, (rdL t_1.rows r_9).Reply.Num, (rdL t_1.rows r_9).Reply.Extra⟩ : T_api_Reply)⟩ : T_session_Row)) r_9).Used, (rdL (t_1.rows.set r_9.toNat (⟨(rdL t_1.rows r_9).Id, (rdL t_1.rows r_9).Used, seq_6, (⟨(rdL t_1.rows r_9).Reply.Err, (rdL t_1.rows r_9).Reply.Num, (rdL t_1.rows r_9).Reply.Extra⟩ : T_api_Reply)⟩ : T_session_Row)) r_9).Seq, y_7⟩ : T_session_Row)).length c_4) (by kernel_rfl) (by simp) ?_
    refine GoF.rebox (j := 0) (t := 1) (b := b_2) (cs := [.int .u64 t_1.now, .int .u64 t_1.next, .slice A_3 (t_1.rows.set r_9.toNat (⟨(rdL t_1.rows r_9).Id, (rdL t_1.rows r_9).Used, seq_6, (⟨(rdL t_1.rows r_9).Reply.Err, (rdL t_1.rows r_9).Reply.Num, (rdL t_1.rows r_9).Reply.Extra⟩ : T_api_Reply)⟩ : T_session_Row)).length c_4]) (cs' := [.int .u64 t_1.now, .int .u64 t_1.next, .slice A_3 ((t_1.rows.set r_9.toNat (⟨(rdL t_1.rows r_9).Id, (rdL t_1.rows r_9).Used, seq_6, (⟨(rdL t_1.rows r_9).Reply.Err, (rdL t_1.rows r_9).Reply.Num, (rdL t_1.rows r_9).Reply.Extra⟩ : T_api_Reply)⟩ : T_session_Row)).set r_9.toNat (⟨(rdL (t_1.rows.set r_9.toNat (⟨(rdL t_1.rows r_9).Id, (rdL t_1.rows r_9).Used, seq_6, (⟨(rdL t_1.rows r_9).Reply.Err, (rdL t_1.rows r_9).Reply.Num, (rdL t_1.rows r_9).Reply.Extra⟩ : T_api_Reply)⟩ : T_session_Row)) r_9).Id, (rdL (t_1.rows.set r_9.toNat (⟨(rdL t_1.rows r_9).Id, (rdL t_1.rows r_9).Used, seq_6, (⟨(rdL t_1.rows r_9).Reply.Err, (rdL t_1.rows r_9).Reply.Num, (rdL t_1.rows r_9).Reply.Extra⟩ : T_api_Reply)⟩ : T_session_Row)) r_9).Used, (rdL (t_1.rows.set r_9.toNat (⟨(rdL t_1.rows r_9).Id, (rdL t_1.rows r_9).Used, seq_6, (⟨(rdL t_1.rows r_9).Reply.Err, (rdL t_1.rows r_9).Reply.Num, (rdL t_1.rows r_9).Reply.Extra⟩ : T_api_Reply)⟩ : T_session_Row)) r_9).Seq, y_7⟩ : T_session_Row)).length c_4]) (by kernel_rfl) (by simp) ?_
    refine GoF.done (by kernel_rfl) ?_
    refine GoO.seq' c19_14e ?_
    refine GoO.region' (is := [0]) c19_15e (by kernel_rfl) ?_
    refine GoO.exec (is := [0]) (hs := [.p]) (rest := []) (ks := [8]) (env' := [(8, .bool true)]) (H' := [⟨1, b_2, [.int .u64 t_1.now, .int .u64 t_1.next, .slice A_3 ((t_1.rows.set r_9.toNat (⟨(rdL t_1.rows r_9).Id, (rdL t_1.rows r_9).Used, seq_6, (⟨(rdL t_1.rows r_9).Reply.Err, (rdL t_1.rows r_9).Reply.Num, (rdL t_1.rows r_9).Reply.Extra⟩ : T_api_Reply)⟩ : T_session_Row)).set r_9.toNat (⟨(rdL (t_1.rows.set r_9.toNat (⟨(rdL t_1.rows r_9).Id, (rdL t_1.rows r_9).Used, seq_6, (⟨(rdL t_1.rows r_9).Reply.Err, (rdL t_1.rows r_9).Reply.Num, (rdL t_1.rows r_9).Reply.Extra⟩ : T_api_Reply)⟩ : T_session_Row)) r_9).Id, (rdL (t_1.rows.set r_9.toNat (⟨(rdL t_1.rows r_9).Id, (rdL t_1.rows r_9).Used, seq_6, (⟨(rdL t_1.rows r_9).Reply.Err, (rdL t_1.rows r_9).Reply.Num, (rdL t_1.rows r_9).Reply.Extra⟩ : T_api_Reply)⟩ : T_session_Row)) r_9).Used, (rdL (t_1.rows.set r_9.toNat (⟨(rdL t_1.rows r_9).Id, (rdL t_1.rows r_9).Used, seq_6, (⟨(rdL t_1.rows r_9).Reply.Err, (rdL t_1.rows r_9).Reply.Num, (rdL t_1.rows r_9).Reply.Extra⟩ : T_api_Reply)⟩ : T_session_Row)) r_9).Seq, y_7⟩ : T_session_Row)).length c_4]⟩, ⟨40, b_8, [.int .i64 y_7.Err, .int .u64 y_7.Num, .int .u64 y_7.Extra]⟩]) (ps := []) (by kernel_rfl) trivial ?_
    refine GoO.regionEnd ?_
    exact GoO.ret' (h := c19_16e) (hs := []) (ps := []) (hk := [0]) (bk := [0]) Try.func19 (⟨A_3, c_4⟩ : Option Addr × Nat) (by kernel_rfl) trivial (by kernel_rfl) (by kernel_rfl)
theorem session_Table_End_ok (n : Nat) (t_1 : T_session_Table) (id_5 : Int) (seq_6 : Int) (y_7 : T_api_Reply) (b_2 : Nat) (A_3 : Option Addr) (c_4 : Nat) :
    Meets Try.prog 19 [.pointer (some ⟨b_2, 0, none⟩), .int .u64 id_5, .int .u64 seq_6, .agg ⟨[.int .i64 y_7.Err, .int .u64 y_7.Num, .int .u64 y_7.Extra]⟩] 2 [1, 2] [⟨1, b_2, [.int .u64 t_1.now, .int .u64 t_1.next, .slice A_3 t_1.rows.length c_4]⟩] [Ow 2 kT_session_Row A_3 c_4 t_1.rows] (session_Table_End.f n t_1 id_5 seq_6 y_7) (session_Table_End.R b_2 A_3 c_4) := by
  refine Meets.of (c := c19_0) (n := 48) Try.func19 (by kernel_rfl) (by kernel_rfl) (by kernel_rfl) fun w0 S0 => ?_
  unfold session_Table_End.f
  show GoO (session_Table_End.cx b_2 A_3 c_4 w0 S0) [(0, .pointer (some ⟨b_2, 0, none⟩)), (1, .int .u64 id_5), (2, .int .u64 seq_6), (3, .agg ⟨[.int .i64 y_7.Err, .int .u64 y_7.Num, .int .u64 y_7.Extra]⟩)] [⟨1, b_2, [.int .u64 t_1.now, .int .u64 t_1.next, .slice A_3 t_1.rows.length c_4]⟩] [Ow 2 kT_session_Row A_3 c_4 t_1.rows] [.code c19_0] _
  refine GoO.seq' c19_0e ?_
  refine GoO.region' (is := [0, 1]) c19_1e (by kernel_rfl) ?_
  refine OpTo.go (GoO.new rfl 40 (cs := [.int .i64 y_7.Err, .int .u64 y_7.Num, .int .u64 y_7.Extra]) (by kernel_rfl) _ (fun _ => rfl) (fun b_8 => ?_))
  refine GoO.exec (is := [1]) (hs := [.p]) (rest := []) (ks := [0, 1, 2, 7]) (env' := [(0, .pointer (some ⟨b_2, 0, none⟩)), (1, .int .u64 id_5), (2, .int .u64 seq_6), (7, .pointer (some ⟨b_8, 0, none⟩))]) (H' := [⟨40, b_8, [.int .i64 y_7.Err, .int .u64 y_7.Num, .int .u64 y_7.Extra]⟩, ⟨1, b_2, [.int .u64 t_1.now, .int .u64 t_1.next, .slice A_3 t_1.rows.length c_4]⟩]) (ps := []) (by kernel_rfl) trivial ?_
  refine GoO.regionEnd ?_
  refine GoO.seq' c19_2e ?_
  refine GoO.region' (is := [0, 1, 2, 3]) c19_3e (by kernel_rfl) ?_
  refine GoO.exec (is := [0, 1]) (hs := [.p, .p]) (rest := [2, 3]) (ks := [0, 2, 7, 10, 11]) (env' := [(0, .pointer (some ⟨b_2, 0, none⟩)), (2, .int .u64 seq_6), (7, .pointer (some ⟨b_8, 0, none⟩)), (10, .pointer (some ⟨b_2, 0, none⟩)), (11, .int .u64 id_5)]) (H' := [⟨40, b_8, [.int .i64 y_7.Err, .int .u64 y_7.Num, .int .u64 y_7.Extra]⟩, ⟨1, b_2, [.int .u64 t_1.now, .int .u64 t_1.next, .slice A_3 t_1.rows.length c_4]⟩]) (ps := []) (by kernel_rfl) trivial ?_
  refine OpTo.go (GoO.call rfl (by kernel_rfl) (by kernel_rfl) (session_Table_find_ok n t_1 id_5 b_2 A_3 c_4) [[0], [1], [2]] [] [(1, 1)] [(2, 0)] (hks := [0, 1]) (bks := [0]) (by kernel_rfl) (by kernel_rfl) (by kernel_rfl) (.inl rfl) rfl rfl (by kernel_rfl) (by kernel_rfl) _ (fun _ _ => rfl) _ _ (fun _ _ => rfl) (fun _ _ => rfl) (fun _ _ => by kernel_rfl) (fun _ _ => by kernel_rfl) (fun r_9 x_17 => ?_))
  refine GoO.shape (env' := [(0, .pointer (some ⟨b_2, 0, none⟩)), (2, .int .u64 seq_6), (7, .pointer (some ⟨b_8, 0, none⟩)), (10, .pointer (some ⟨b_2, 0, none⟩)), (11, .int .u64 id_5), (12, .int .i64 r_9)]) (H' := [⟨40, b_8, [.int .i64 y_7.Err, .int .u64 y_7.Num, .int .u64 y_7.Extra]⟩, ⟨1, b_2, [.int .u64 t_1.now, .int .u64 t_1.next, .slice A_3 t_1.rows.length c_4]⟩]) (B' := [Ow 2 kT_session_Row A_3 c_4 t_1.rows]) (ks := [0, 2, 7, 10, 11, 12]) (by kernel_rfl) (by kernel_rfl) (by kernel_rfl) ?_
  refine GoO.exec (is := [3]) (hs := [.p]) (rest := []) (ks := [0, 2, 7, 9]) (env' := [(0, .pointer (some ⟨b_2, 0, none⟩)), (2, .int .u64 seq_6), (7, .pointer (some ⟨b_8, 0, none⟩)), (9, .int .i64 r_9)]) (H' := [⟨40, b_8, [.int .i64 y_7.Err, .int .u64 y_7.Num, .int .u64 y_7.Extra]⟩, ⟨1, b_2, [.int .u64 t_1.now, .int .u64 t_1.next, .slice A_3 t_1.rows.length c_4]⟩]) (ps := []) (by kernel_rfl) trivial ?_
  refine GoO.regionEnd ?_
  refine GoO.seq' c19_4e ?_
  refine GoO.seq' c19_5e ?_
  refine GoO.region' (is := [0, 1, 2, 3, 4, 5, 6, 7, 8, 9, 10, 11, 12, 13, 14, 15, 16, 17, 18]) c19_6e (by kernel_rfl) ?_
  refine GoO.exec (is := [0, 1, 2]) (hs := [.p, .p, .p]) (rest := [3, 4, 5, 6, 7, 8, 9, 10, 11, 12, 13, 14, 15, 16, 17, 18]) (ks := [0, 2, 7, 9, 15]) (env' := [(0, .pointer (some ⟨b_2, 0, none⟩)), (2, .int .u64 seq_6), (7, .pointer (some ⟨b_8, 0, none⟩)), (9, .int .i64 r_9), (15, .bool (decide (r_9 < 0)))]) (H' := [⟨40, b_8, [.int .i64 y_7.Err, .int .u64 y_7.Num, .int .u64 y_7.Extra]⟩, ⟨1, b_2, [.int .u64 t_1.now, .int .u64 t_1.next, .slice A_3 t_1.rows.length c_4]⟩]) (ps := []) (by kernel_rfl) trivial ?_
  refine GoO.bsplit (t := 15) (by kernel_rfl) (fun h10 => ?_) (fun h10 => ?_)
  · refine GoO.exec (is := [3, 4, 5, 6, 7, 8, 9, 10, 11, 12, 13, 14, 15, 16, 17, 18]) (hs := [.p, .p, .p, .p, .p, .p, .p, .p, .p, .p, .p, .p, .p, .p, .p, .p]) (rest := []) (ks := [0, 2, 7, 9, 31]) (env' := [(0, .pointer (some ⟨b_2, 0, none⟩)), (2, .int .u64 seq_6), (7, .pointer (some ⟨b_8, 0, none⟩)), (9, .int .i64 r_9), (31, .bool true)]) (H' := [⟨40, b_8, [.int .i64 y_7.Err, .int .u64 y_7.Num, .int .u64 y_7.Extra]⟩, ⟨1, b_2, [.int .u64 t_1.now, .int .u64 t_1.next, .slice A_3 t_1.rows.length c_4]⟩]) (ps := []) (by kernel_rfl) trivial ?_
    refine GoO.regionEnd ?_
    exact GoO.sub (ks := [0, 2, 7, 9, 31]) (hk := [1, 0]) (bk := [0]) (by kernel_rfl) (by kernel_rfl) (by kernel_rfl) (session_Table_End_j0_ok n t_1 seq_6 y_7 r_9 b_2 A_3 c_4 b_8 w0 S0 true)
  · refine GoO.exec (is := [3, 4, 5, 6]) (hs := [.p, .p, .p, .p]) (rest := [7, 8, 9, 10, 11, 12, 13, 14, 15, 16, 17, 18]) (ks := [0, 2, 7, 9, 19]) (env' := [(0, .pointer (some ⟨b_2, 0, none⟩)), (2, .int .u64 seq_6), (7, .pointer (some ⟨b_8, 0, none⟩)), (9, .int .i64 r_9), (19, .bool (seq_6 == 0))]) (H' := [⟨40, b_8, [.int .i64 y_7.Err, .int .u64 y_7.Num, .int .u64 y_7.Extra]⟩, ⟨1, b_2, [.int .u64 t_1.now, .int .u64 t_1.next, .slice A_3 t_1.rows.length c_4]⟩]) (ps := []) (by kernel_rfl) trivial ?_
    refine GoO.bsplit (t := 19) (by kernel_rfl) (fun h11 => ?_) (fun h11 => ?_)
    · refine GoO.exec (is := [7, 8, 9, 10, 11, 12, 13, 14, 15, 16, 17, 18]) (hs := [.p, .p, .p, .p, .p, .p, .p, .p, .p, .p, .p, .p]) (rest := []) (ks := [0, 2, 7, 9, 31]) (env' := [(0, .pointer (some ⟨b_2, 0, none⟩)), (2, .int .u64 seq_6), (7, .pointer (some ⟨b_8, 0, none⟩)), (9, .int .i64 r_9), (31, .bool true)]) (H' := [⟨40, b_8, [.int .i64 y_7.Err, .int .u64 y_7.Num, .int .u64 y_7.Extra]⟩, ⟨1, b_2, [.int .u64 t_1.now, .int .u64 t_1.next, .slice A_3 t_1.rows.length c_4]⟩]) (ps := []) (by kernel_rfl) trivial ?_
      refine GoO.regionEnd ?_
      exact GoO.sub (ks := [0, 2, 7, 9, 31]) (hk := [1, 0]) (bk := [0]) (by kernel_rfl) (by kernel_rfl) (by kernel_rfl) (session_Table_End_j0_ok n t_1 seq_6 y_7 r_9 b_2 A_3 c_4 b_8 w0 S0 true)
    · refine GoO.exec (is := [7, 8, 9, 10, 11, 12]) (hs := [.p, .p, .p, .p, .b 1, .p]) (rest := [13, 14, 15, 16, 17, 18]) (ks := [0, 2, 7, 9, 19, 20, 24, 25]) (env' := [(0, .pointer (some ⟨b_2, 0, none⟩)), (2, .int .u64 seq_6), (7, .pointer (some ⟨b_8, 0, none⟩)), (9, .int .i64 r_9), (19, .bool false), (20, .int .u64 seq_6), (24, .slice A_3 t_1.rows.length c_4), (25, .int .i64 r_9)]) (H' := [⟨40, b_8, [.int .i64 y_7.Err, .int .u64 y_7.Num, .int .u64 y_7.Extra]⟩, ⟨1, b_2, [.int .u64 t_1.now, .int .u64 t_1.next, .slice A_3 t_1.rows.length c_4]⟩]) (ps := [b_2 = b_2]) (by kernel_rfl) (And.intro rfl trivial) ?_
      refine GoO.guard (fun h12 => ?_)
      refine OpTo.go (GoO.idx (kk := .i64) (e := 87) (K := kT_session_Row) (A := A_3) (c := c_4) (xs := t_1.rows) (iv := r_9) (j := 0) rfl (by kernel_rfl) (by kernel_rfl) (by kernel_rfl) (by kernel_rfl) rfl Reads.own rfl h12.1 h12.2 (by decide) rfl ?_)
      refine OpTo.go (GoO.fldE (K := kT_session_Row) (A := A_3) (c := c_4) (xs := t_1.rows) (iN := r_9.toNat) (off := 0) (n := 2) (j := 0) rfl (by kernel_rfl) (by kernel_rfl) rfl Reads.own (by first | exact idx_lt h12.1 h12.2 | (simp only [List.length_set]; exact idx_lt h12.1 h12.2)) (by decide) rfl ?_)
      refine OpTo.go (GoO.ldE' (K := kT_session_Row) (A := A_3) (c := c_4) (xs := t_1.rows) (iN := r_9.toNat) (off := 2) (j := 0) rfl (by kernel_rfl) rfl Reads.own (by first | exact idx_lt h12.1 h12.2 | (simp only [List.length_set]; exact idx_lt h12.1 h12.2)) (by decide) (Opn.flat _ _ _ _ _) (v := fun _ => .int .u64 ((rdL t_1.rows r_9).Seq)) (fun _ => by kernel_rfl) _ (fun _ => rfl) (fun _ => ?_))
      refine GoO.exec (is := [16, 17, 18]) (hs := [.p, .p, .p]) (rest := []) (ks := [0, 2, 7, 9, 31]) (env' := [(0, .pointer (some ⟨b_2, 0, none⟩)), (2, .int .u64 seq_6), (7, .pointer (some ⟨b_8, 0, none⟩)), (9, .int .i64 r_9), (31, .bool (seq_6 != (wu64 (((rdL t_1.rows r_9).Seq) + 1))))]) (H' := [⟨40, b_8, [.int .i64 y_7.Err, .int .u64 y_7.Num, .int .u64 y_7.Extra]⟩, ⟨1, b_2, [.int .u64 t_1.now, .int .u64 t_1.next, .slice A_3 t_1.rows.length c_4]⟩]) (ps := []) (by kernel_rfl) trivial ?_
      refine GoO.regionEnd ?_
      exact GoO.sub (ks := [0, 2, 7, 9, 31]) (hk := [1, 0]) (bk := [0]) (by kernel_rfl) (by kernel_rfl) (by kernel_rfl) (session_Table_End_j0_ok n t_1 seq_6 y_7 r_9 b_2 A_3 c_4 b_8 w0 S0 (seq_6 != (wu64 (((rdL t_1.rows r_9).Seq) + 1))))

/-! tontine/tontinelaw15.begun -/
noncomputable def c14_0 : Code := bodyOf Try.f14
noncomputable def c14_1 : Code := cdL c14_0
noncomputable def c14_2 : Code := cdR c14_0
noncomputable def c14_3 : Code := cdL c14_2
noncomputable def c14_4 : Code := cdR c14_2
noncomputable def c14_5 : Code := cdL c14_4
noncomputable def c14_6 : Code := cdR c14_4
noncomputable def c14_7 : Code := cdL c14_6
noncomputable def c14_8 : Code := cdR c14_6
noncomputable def c14_9 : Code := cdL c14_8
noncomputable def c14_10 : Code := cdR c14_8
noncomputable def c14_11 : Code := cdL c14_10
noncomputable def c14_12 : Code := cdR c14_10
noncomputable def c14_13 : Code := cdL c14_12
noncomputable def c14_14 : Code := cdR c14_12
noncomputable def c14_15 : Code := cdL c14_14
noncomputable def c14_16 : Code := cdR c14_14
noncomputable def r14_1 : Array Oper := cdO c14_1
noncomputable def r14_3 : Array Oper := cdO c14_3
noncomputable def r14_5 : Array Oper := cdO c14_5
noncomputable def r14_7 : Array Oper := cdO c14_7
noncomputable def r14_9 : Array Oper := cdO c14_9
noncomputable def r14_11 : Array Oper := cdO c14_11
noncomputable def r14_13 : Array Oper := cdO c14_13
noncomputable def r14_15 : Array Oper := cdO c14_15
theorem c14_0e : c14_0 = .seq c14_1 c14_2 := by kernel_rfl
theorem c14_1e : c14_1 = .region 0 r14_1 false := by kernel_rfl
theorem c14_2e : c14_2 = .seq c14_3 c14_4 := by kernel_rfl
theorem c14_3e : c14_3 = .region 1 r14_3 false := by kernel_rfl
theorem c14_4e : c14_4 = .seq c14_5 c14_6 := by kernel_rfl
theorem c14_5e : c14_5 = .region 2 r14_5 false := by kernel_rfl
theorem c14_6e : c14_6 = .seq c14_7 c14_8 := by kernel_rfl
theorem c14_7e : c14_7 = .region 3 r14_7 false := by kernel_rfl
theorem c14_8e : c14_8 = .seq c14_9 c14_10 := by kernel_rfl
theorem c14_9e : c14_9 = .region 4 r14_9 false := by kernel_rfl
theorem c14_10e : c14_10 = .seq c14_11 c14_12 := by kernel_rfl
theorem c14_11e : c14_11 = .region 5 r14_11 false := by kernel_rfl
theorem c14_12e : c14_12 = .seq c14_13 c14_14 := by kernel_rfl
theorem c14_13e : c14_13 = .region 6 r14_13 false := by kernel_rfl
theorem c14_14e : c14_14 = .seq c14_15 c14_16 := by kernel_rfl
theorem c14_15e : c14_15 = .region 7 r14_15 false := by kernel_rfl
theorem c14_16e : c14_16 = .ret := by kernel_rfl
noncomputable def tontinelaw15_begun.R : Pst Bool where
  ε := Unit
  v := fun r x => .bool r
  H := fun r x => []
  B := fun r x => []
noncomputable def tontinelaw15_begun.cx (w0 : World) (S0 : Fam) : Cx Bool := ⟨Try.prog, 14, Try.f14, 64, w0, S0, [], 0, tontinelaw15_begun.R⟩
theorem tontinelaw15_begun_ok (n : Nat) :
    Meets Try.prog 14 [] 0 [] [] [] (tontinelaw15_begun.f n) (tontinelaw15_begun.R) := by
  refine Meets.of (c := c14_0) (n := 64) Try.func14 (by kernel_rfl) (by kernel_rfl) (by kernel_rfl) fun w0 S0 => ?_
  unfold tontinelaw15_begun.f
  show GoO (tontinelaw15_begun.cx w0 S0) [] [] [] [.code c14_0] _
  refine GoO.seq' c14_0e ?_
  refine GoO.region' (is := [0]) c14_1e (by kernel_rfl) ?_
  refine GoO.exec (is := [0]) (hs := [.p]) (rest := []) (ks := []) (env' := []) (H' := []) (ps := []) (by kernel_rfl) trivial ?_
  refine GoO.regionEnd ?_
  refine GoO.seq' c14_2e ?_
  refine GoO.region' (is := [0, 1]) c14_3e (by kernel_rfl) ?_
  refine OpTo.go (GoO.call rfl (by kernel_rfl) (by kernel_rfl) (session_New_ok n) [[0]] [(40, 1), (41, 2)] [] [] (hks := []) (bks := []) (by kernel_rfl) (by kernel_rfl) (by kernel_rfl) (.inl rfl) rfl rfl (by kernel_rfl) (by kernel_rfl) _ (fun _ _ => rfl) _ _ (fun _ _ => rfl) (fun _ _ => rfl) (fun _ _ => by kernel_rfl) (fun _ _ => by kernel_rfl) (fun r_1 x_34 => ?_))
  obtain ⟨b_2, A_3, c_4⟩ := x_34
  refine GoO.shape (env' := [(11, .pointer (some ⟨b_2, 0, none⟩))]) (H' := [⟨40, b_2, [.int .u64 r_1.now, .int .u64 r_1.next, .slice A_3 r_1.rows.length c_4]⟩]) (B' := [Ow 41 kT_session_Row A_3 c_4 r_1.rows]) (ks := [11]) (by kernel_rfl) (by kernel_rfl) (by kernel_rfl) ?_
  refine GoO.exec (is := [1]) (hs := [.p]) (rest := []) (ks := [1]) (env' := [(1, .pointer (some ⟨b_2, 0, none⟩))]) (H' := [⟨40, b_2, [.int .u64 r_1.now, .int .u64 r_1.next, .slice A_3 r_1.rows.length c_4]⟩]) (ps := []) (by kernel_rfl) trivial ?_
  refine GoO.regionEnd ?_
  refine GoO.seq' c14_4e ?_
  refine GoO.region' (is := [0, 1, 2, 3, 4, 5, 6]) c14_5e (by kernel_rfl) ?_
  refine GoO.exec (is := [0]) (hs := [.p]) (rest := [1, 2, 3, 4, 5, 6]) (ks := [1, 13]) (env' := [(1, .pointer (some ⟨b_2, 0, none⟩)), (13, .pointer (some ⟨b_2, 0, none⟩))]) (H' := [⟨40, b_2, [.int .u64 r_1.now, .int .u64 r_1.next, .slice A_3 r_1.rows.length c_4]⟩]) (ps := []) (by kernel_rfl) trivial ?_
  refine OpTo.go (GoO.call rfl (by kernel_rfl) (by kernel_rfl) (session_Table_Register_ok n r_1 b_2 A_3 c_4) [[0], [40], [41]] [(40, 1), (41, 2)] [(1, 0)] [(2, 0)] (hks := []) (bks := []) (by kernel_rfl) (by kernel_rfl) (by kernel_rfl) (.inl rfl) rfl rfl (by kernel_rfl) (by kernel_rfl) _ (fun _ _ => rfl) _ _ (fun _ _ => rfl) (fun _ _ => rfl) (fun _ _ => by kernel_rfl) (fun _ _ => by kernel_rfl) (fun r_5 x_33 => ?_))
  obtain ⟨A_6, c_7⟩ := x_33
  refine GoO.shape (env' := [(1, .pointer (some ⟨b_2, 0, none⟩)), (13, .pointer (some ⟨b_2, 0, none⟩)), (14, .tuple ⟨[.int .u64 r_5.1, .int .i64 r_5.2.1]⟩)]) (H' := [⟨40, b_2, [.int .u64 r_5.2.2.now, .int .u64 r_5.2.2.next, .slice A_6 r_5.2.2.rows.length c_7]⟩]) (B' := [Ow 41 kT_session_Row A_6 c_7 r_5.2.2.rows]) (ks := [1, 13, 14]) (by kernel_rfl) (by kernel_rfl) (by kernel_rfl) ?_
  refine GoO.exec (is := [2, 3, 4, 5, 6]) (hs := [.p, .p, .p, .p, .p]) (rest := []) (ks := [1, 2, 3]) (env' := [(1, .pointer (some ⟨b_2, 0, none⟩)), (2, .int .u64 r_5.1), (3, .int .i64 r_5.2.1)]) (H' := [⟨40, b_2, [.int .u64 r_5.2.2.now, .int .u64 r_5.2.2.next, .slice A_6 r_5.2.2.rows.length c_7]⟩]) (ps := []) (by kernel_rfl) trivial ?_
  refine GoO.regionEnd ?_
  refine GoO.seq' c14_6e ?_
  refine GoO.region' (is := [0, 1, 2, 3, 4, 5, 6, 7, 8]) c14_7e (by kernel_rfl) ?_
  refine GoO.exec (is := [0, 1]) (hs := [.p, .p]) (rest := [2, 3, 4, 5, 6, 7, 8]) (ks := [1, 2, 3, 18, 19]) (env' := [(1, .pointer (some ⟨b_2, 0, none⟩)), (2, .int .u64 r_5.1), (3, .int .i64 r_5.2.1), (18, .pointer (some ⟨b_2, 0, none⟩)), (19, .int .u64 r_5.1)]) (H' := [⟨40, b_2, [.int .u64 r_5.2.2.now, .int .u64 r_5.2.2.next, .slice A_6 r_5.2.2.rows.length c_7]⟩]) (ps := []) (by kernel_rfl) trivial ?_
  refine OpTo.go (GoO.call rfl (by kernel_rfl) (by kernel_rfl) (session_Table_Begin_ok n r_5.2.2 r_5.1 1 b_2 A_6 c_7) [[0], [40], [41]] [(40, 1), (41, 2)] [(1, 0)] [(2, 0)] (hks := []) (bks := []) (by kernel_rfl) (by kernel_rfl) (by kernel_rfl) (.inl rfl) rfl rfl (by kernel_rfl) (by kernel_rfl) _ (fun _ _ => rfl) _ _ (fun _ _ => rfl) (fun _ _ => rfl) (fun _ _ => by kernel_rfl) (fun _ _ => by kernel_rfl) (fun r_8 x_32 => ?_))
  obtain ⟨A_9, c_10⟩ := x_32
  refine GoO.shape (env' := [(1, .pointer (some ⟨b_2, 0, none⟩)), (2, .int .u64 r_5.1), (3, .int .i64 r_5.2.1), (18, .pointer (some ⟨b_2, 0, none⟩)), (19, .int .u64 r_5.1), (20, .tuple ⟨[.agg ⟨[.int .i64 r_8.1.Err, .int .u64 r_8.1.Num, .int .u64 r_8.1.Extra]⟩, .bool r_8.2.1]⟩)]) (H' := [⟨40, b_2, [.int .u64 r_8.2.2.now, .int .u64 r_8.2.2.next, .slice A_9 r_8.2.2.rows.length c_10]⟩]) (B' := [Ow 41 kT_session_Row A_9 c_10 r_8.2.2.rows]) (ks := [1, 2, 3, 18, 19, 20]) (by kernel_rfl) (by kernel_rfl) (by kernel_rfl) ?_
  refine GoO.exec (is := [3, 4, 5]) (hs := [.p, .p, .p]) (rest := [6, 7, 8]) (ks := [1, 2, 3, 21, 22]) (env' := [(1, .pointer (some ⟨b_2, 0, none⟩)), (2, .int .u64 r_5.1), (3, .int .i64 r_5.2.1), (21, .agg ⟨[.int .i64 r_8.1.Err, .int .u64 r_8.1.Num, .int .u64 r_8.1.Extra]⟩), (22, .bool r_8.2.1)]) (H' := [⟨40, b_2, [.int .u64 r_8.2.2.now, .int .u64 r_8.2.2.next, .slice A_9 r_8.2.2.rows.length c_10]⟩]) (ps := []) (by kernel_rfl) trivial ?_
  refine OpTo.go (GoO.new rfl 42 (cs := [.int .i64 0, .int .u64 0, .int .u64 0]) (by kernel_rfl) _ (fun _ => rfl) (fun b_11 => ?_))
  refine GoO.exec (is := [7, 8]) (hs := [.b 0, .p]) (rest := []) (ks := [1, 2, 3, 5]) (env' := [(1, .pointer (some ⟨b_2, 0, none⟩)), (2, .int .u64 r_5.1), (3, .int .i64 r_5.2.1), (5, .bool r_8.2.1)]) (H' := [⟨42, b_11, [.int .i64 r_8.1.Err, .int .u64 r_8.1.Num, .int .u64 r_8.1.Extra]⟩, ⟨40, b_2, [.int .u64 r_8.2.2.now, .int .u64 r_8.2.2.next, .slice A_9 r_8.2.2.rows.length c_10]⟩]) (ps := [b_11 = b_11]) (by kernel_rfl) (And.intro rfl trivial) ?_
  refine GoO.regionEnd ?_
  refine GoO.seq' c14_8e ?_
  refine GoO.region' (is := [0, 1, 2, 3, 4]) c14_9e (by kernel_rfl) ?_
  refine GoO.exec (is := [0, 1, 2]) (hs := [.p, .p, .p]) (rest := [3, 4]) (ks := [1, 2, 3, 5, 23, 24, 25]) (env' := [(1, .pointer (some ⟨b_2, 0, none⟩)), (2, .int .u64 r_5.1), (3, .int .i64 r_5.2.1), (5, .bool r_8.2.1), (23, .pointer (some ⟨b_2, 0, none⟩)), (24, .int .u64 r_5.1), (25, .agg ⟨[.int .i64 0, .int .u64 7, .int .u64 0]⟩)]) (H' := [⟨42, b_11, [.int .i64 r_8.1.Err, .int .u64 r_8.1.Num, .int .u64 r_8.1.Extra]⟩, ⟨40, b_2, [.int .u64 r_8.2.2.now, .int .u64 r_8.2.2.next, .slice A_9 r_8.2.2.rows.length c_10]⟩]) (ps := []) (by kernel_rfl) trivial ?_
  refine OpTo.go (GoO.call rfl (by kernel_rfl) (by kernel_rfl) (session_Table_End_ok n r_8.2.2 r_5.1 1 (⟨0, 7, 0⟩ : T_api_Reply) b_2 A_9 c_10) [[0], [40], [41]] [(40, 1), (41, 2)] [(1, 1)] [(2, 0)] (hks := [0]) (bks := []) (by kernel_rfl) (by kernel_rfl) (by kernel_rfl) (.inl rfl) rfl rfl (by kernel_rfl) (by kernel_rfl) _ (fun _ _ => rfl) _ _ (fun _ _ => rfl) (fun _ _ => rfl) (fun _ _ => by kernel_rfl) (fun _ _ => by kernel_rfl) (fun r_12 x_31 => ?_))
  obtain ⟨A_13, c_14⟩ := x_31
  refine GoO.shape (env' := [(1, .pointer (some ⟨b_2, 0, none⟩)), (2, .int .u64 r_5.1), (3, .int .i64 r_5.2.1), (5, .bool r_8.2.1), (23, .pointer (some ⟨b_2, 0, none⟩)), (24, .int .u64 r_5.1), (25, .agg ⟨[.int .i64 0, .int .u64 7, .int .u64 0]⟩), (26, .bool r_12.1)]) (H' := [⟨40, b_2, [.int .u64 r_12.2.now, .int .u64 r_12.2.next, .slice A_13 r_12.2.rows.length c_14]⟩, ⟨42, b_11, [.int .i64 r_8.1.Err, .int .u64 r_8.1.Num, .int .u64 r_8.1.Extra]⟩]) (B' := [Ow 41 kT_session_Row A_13 c_14 r_12.2.rows]) (ks := [1, 2, 3, 5, 23, 24, 25, 26]) (by kernel_rfl) (by kernel_rfl) (by kernel_rfl) ?_
  refine GoO.exec (is := [4]) (hs := [.p]) (rest := []) (ks := [1, 2, 3, 5, 6]) (env' := [(1, .pointer (some ⟨b_2, 0, none⟩)), (2, .int .u64 r_5.1), (3, .int .i64 r_5.2.1), (5, .bool r_8.2.1), (6, .bool r_12.1)]) (H' := [⟨40, b_2, [.int .u64 r_12.2.now, .int .u64 r_12.2.next, .slice A_13 r_12.2.rows.length c_14]⟩, ⟨42, b_11, [.int .i64 r_8.1.Err, .int .u64 r_8.1.Num, .int .u64 r_8.1.Extra]⟩]) (ps := []) (by kernel_rfl) trivial ?_
  refine GoO.regionEnd ?_
  refine GoO.seq' c14_10e ?_
  refine GoO.region' (is := [0, 1, 2, 3, 4, 5, 6, 7, 8]) c14_11e (by kernel_rfl) ?_
  refine GoO.exec (is := [0, 1]) (hs := [.p, .p]) (rest := [2, 3, 4, 5, 6, 7, 8]) (ks := [1, 2, 3, 5, 6, 28, 29]) (env' := [(1, .pointer (some ⟨b_2, 0, none⟩)), (2, .int .u64 r_5.1), (3, .int .i64 r_5.2.1), (5, .bool r_8.2.1), (6, .bool r_12.1), (28, .pointer (some ⟨b_2, 0, none⟩)), (29, .int .u64 r_5.1)]) (H' := [⟨40, b_2, [.int .u64 r_12.2.now, .int .u64 r_12.2.next, .slice A_13 r_12.2.rows.length c_14]⟩, ⟨42, b_11, [.int .i64 r_8.1.Err, .int .u64 r_8.1.Num, .int .u64 r_8.1.Extra]⟩]) (ps := []) (by kernel_rfl) trivial ?_
  refine OpTo.go (GoO.call rfl (by kernel_rfl) (by kernel_rfl) (session_Table_Begin_ok n r_12.2 r_5.1 1 b_2 A_13 c_14) [[0], [40], [41]] [(40, 1), (41, 2)] [(1, 0)] [(2, 0)] (hks := [1]) (bks := []) (by kernel_rfl) (by kernel_rfl) (by kernel_rfl) (.inl rfl) rfl rfl (by kernel_rfl) (by kernel_rfl) _ (fun _ _ => rfl) _ _ (fun _ _ => rfl) (fun _ _ => rfl) (fun _ _ => by kernel_rfl) (fun _ _ => by kernel_rfl) (fun r_15 x_30 => ?_))
  obtain ⟨A_16, c_17⟩ := x_30
  refine GoO.shape (env' := [(1, .pointer (some ⟨b_2, 0, none⟩)), (2, .int .u64 r_5.1), (3, .int .i64 r_5.2.1), (5, .bool r_8.2.1), (6, .bool r_12.1), (28, .pointer (some ⟨b_2, 0, none⟩)), (29, .int .u64 r_5.1), (30, .tuple ⟨[.agg ⟨[.int .i64 r_15.1.Err, .int .u64 r_15.1.Num, .int .u64 r_15.1.Extra]⟩, .bool r_15.2.1]⟩)]) (H' := [⟨40, b_2, [.int .u64 r_15.2.2.now, .int .u64 r_15.2.2.next, .slice A_16 r_15.2.2.rows.length c_17]⟩, ⟨42, b_11, [.int .i64 r_8.1.Err, .int .u64 r_8.1.Num, .int .u64 r_8.1.Extra]⟩]) (B' := [Ow 41 kT_session_Row A_16 c_17 r_15.2.2.rows]) (ks := [1, 2, 3, 5, 6, 28, 29, 30]) (by kernel_rfl) (by kernel_rfl) (by kernel_rfl) ?_
  refine GoO.exec (is := [3, 4, 5]) (hs := [.p, .p, .p]) (rest := [6, 7, 8]) (ks := [1, 2, 3, 5, 6, 31, 32]) (env' := [(1, .pointer (some ⟨b_2, 0, none⟩)), (2, .int .u64 r_5.1), (3, .int .i64 r_5.2.1), (5, .bool r_8.2.1), (6, .bool r_12.1), (31, .agg ⟨[.int .i64 r_15.1.Err, .int .u64 r_15.1.Num, .int .u64 r_15.1.Extra]⟩), (32, .bool r_15.2.1)]) (H' := [⟨40, b_2, [.int .u64 r_15.2.2.now, .int .u64 r_15.2.2.next, .slice A_16 r_15.2.2.rows.length c_17]⟩, ⟨42, b_11, [.int .i64 r_8.1.Err, .int .u64 r_8.1.Num, .int .u64 r_8.1.Extra]⟩]) (ps := []) (by kernel_rfl) trivial ?_
  refine OpTo.go (GoO.new rfl 43 (cs := [.int .i64 0, .int .u64 0, .int .u64 0]) (by kernel_rfl) _ (fun _ => rfl) (fun b_18 => ?_))
  refine GoO.exec (is := [7, 8]) (hs := [.b 0, .p]) (rest := []) (ks := [1, 2, 3, 5, 6, 7, 8]) (env' := [(1, .pointer (some ⟨b_2, 0, none⟩)), (2, .int .u64 r_5.1), (3, .int .i64 r_5.2.1), (5, .bool r_8.2.1), (6, .bool r_12.1), (7, .pointer (some ⟨b_18, 0, none⟩)), (8, .bool r_15.2.1)]) (H' := [⟨43, b_18, [.int .i64 r_15.1.Err, .int .u64 r_15.1.Num, .int .u64 r_15.1.Extra]⟩, ⟨40, b_2, [.int .u64 r_15.2.2.now, .int .u64 r_15.2.2.next, .slice A_16 r_15.2.2.rows.length c_17]⟩, ⟨42, b_11, [.int .i64 r_8.1.Err, .int .u64 r_8.1.Num, .int .u64 r_8.1.Extra]⟩]) (ps := [b_18 = b_18]) (by kernel_rfl) (And.intro rfl trivial) ?_
  refine GoO.regionEnd ?_
  refine GoO.seq' c14_12e ?_
  refine GoO.region' (is := [0, 1, 2, 3, 4, 5, 6, 7]) c14_13e (by kernel_rfl) ?_
  refine GoO.exec (is := [0]) (hs := [.p]) (rest := [1, 2, 3, 4, 5, 6, 7]) (ks := [2, 3, 5, 6, 7, 8, 34]) (env' := [(2, .int .u64 r_5.1), (3, .int .i64 r_5.2.1), (5, .bool r_8.2.1), (6, .bool r_12.1), (7, .pointer (some ⟨b_18, 0, none⟩)), (8, .bool r_15.2.1), (34, .pointer (some ⟨b_2, 0, none⟩))]) (H' := [⟨43, b_18, [.int .i64 r_15.1.Err, .int .u64 r_15.1.Num, .int .u64 r_15.1.Extra]⟩, ⟨40, b_2, [.int .u64 r_15.2.2.now, .int .u64 r_15.2.2.next, .slice A_16 r_15.2.2.rows.length c_17]⟩, ⟨42, b_11, [.int .i64 r_8.1.Err, .int .u64 r_8.1.Num, .int .u64 r_8.1.Extra]⟩]) (ps := []) (by kernel_rfl) trivial ?_
  refine OpTo.go (GoO.call rfl (by kernel_rfl) (by kernel_rfl) (session_Table_Begin_ok n r_15.2.2 9 1 b_2 A_16 c_17) [[0], [40], [41]] [(40, 1), (41, 2)] [(1, 1)] [(2, 0)] (hks := [0, 2]) (bks := []) (by kernel_rfl) (by kernel_rfl) (by kernel_rfl) (.inl rfl) rfl rfl (by kernel_rfl) (by kernel_rfl) _ (fun _ _ => rfl) _ _ (fun _ _ => rfl) (fun _ _ => rfl) (fun _ _ => by kernel_rfl) (fun _ _ => by kernel_rfl) (fun r_19 x_29 => ?_))
  obtain ⟨A_20, c_21⟩ := x_29
  refine GoO.shape (env' := [(2, .int .u64 r_5.1), (3, .int .i64 r_5.2.1), (5, .bool r_8.2.1), (6, .bool r_12.1), (7, .pointer (some ⟨b_18, 0, none⟩)), (8, .bool r_15.2.1), (34, .pointer (some ⟨b_2, 0, none⟩)), (35, .tuple ⟨[.agg ⟨[.int .i64 r_19.1.Err, .int .u64 r_19.1.Num, .int .u64 r_19.1.Extra]⟩, .bool r_19.2.1]⟩)]) (H' := [⟨40, b_2, [.int .u64 r_19.2.2.now, .int .u64 r_19.2.2.next, .slice A_20 r_19.2.2.rows.length c_21]⟩, ⟨43, b_18, [.int .i64 r_15.1.Err, .int .u64 r_15.1.Num, .int .u64 r_15.1.Extra]⟩, ⟨42, b_11, [.int .i64 r_8.1.Err, .int .u64 r_8.1.Num, .int .u64 r_8.1.Extra]⟩]) (B' := [Ow 41 kT_session_Row A_20 c_21 r_19.2.2.rows]) (ks := [2, 3, 5, 6, 7, 8, 34, 35]) (by kernel_rfl) (by kernel_rfl) (by kernel_rfl) ?_
  refine GoO.exec (is := [2, 3, 4]) (hs := [.p, .p, .p]) (rest := [5, 6, 7]) (ks := [2, 3, 5, 6, 7, 8, 36, 37]) (env' := [(2, .int .u64 r_5.1), (3, .int .i64 r_5.2.1), (5, .bool r_8.2.1), (6, .bool r_12.1), (7, .pointer (some ⟨b_18, 0, none⟩)), (8, .bool r_15.2.1), (36, .agg ⟨[.int .i64 r_19.1.Err, .int .u64 r_19.1.Num, .int .u64 r_19.1.Extra]⟩), (37, .bool r_19.2.1)]) (H' := [⟨40, b_2, [.int .u64 r_19.2.2.now, .int .u64 r_19.2.2.next, .slice A_20 r_19.2.2.rows.length c_21]⟩, ⟨43, b_18, [.int .i64 r_15.1.Err, .int .u64 r_15.1.Num, .int .u64 r_15.1.Extra]⟩, ⟨42, b_11, [.int .i64 r_8.1.Err, .int .u64 r_8.1.Num, .int .u64 r_8.1.Extra]⟩]) (ps := []) (by kernel_rfl) trivial ?_
  refine OpTo.go (GoO.new rfl 44 (cs := [.int .i64 0, .int .u64 0, .int .u64 0]) (by kernel_rfl) _ (fun _ => rfl) (fun b_22 => ?_))
  refine GoO.exec (is := [6, 7]) (hs := [.b 0, .p]) (rest := []) (ks := [2, 3, 5, 6, 7, 8, 9]) (env' := [(2, .int .u64 r_5.1), (3, .int .i64 r_5.2.1), (5, .bool r_8.2.1), (6, .bool r_12.1), (7, .pointer (some ⟨b_18, 0, none⟩)), (8, .bool r_15.2.1), (9, .pointer (some ⟨b_22, 0, none⟩))]) (H' := [⟨44, b_22, [.int .i64 r_19.1.Err, .int .u64 r_19.1.Num, .int .u64 r_19.1.Extra]⟩, ⟨40, b_2, [.int .u64 r_19.2.2.now, .int .u64 r_19.2.2.next, .slice A_20 r_19.2.2.rows.length c_21]⟩, ⟨43, b_18, [.int .i64 r_15.1.Err, .int .u64 r_15.1.Num, .int .u64 r_15.1.Extra]⟩, ⟨42, b_11, [.int .i64 r_8.1.Err, .int .u64 r_8.1.Num, .int .u64 r_8.1.Extra]⟩]) (ps := [b_22 = b_22]) (by kernel_rfl) (And.intro rfl trivial) ?_
  refine GoO.regionEnd ?_
  refine GoO.seq' c14_14e ?_
  refine GoO.region' (is := [0, 1, 2, 3, 4, 5, 6, 7, 8, 9, 10, 11, 12, 13, 14, 15, 16, 17, 18, 19, 20, 21, 22, 23, 24, 25, 26]) c14_15e (by kernel_rfl) ?_
  refine GoO.exec (is := [0, 1, 2]) (hs := [.p, .p, .p]) (rest := [3, 4, 5, 6, 7, 8, 9, 10, 11, 12, 13, 14, 15, 16, 17, 18, 19, 20, 21, 22, 23, 24, 25, 26]) (ks := [2, 5, 6, 7, 8, 9, 40]) (env' := [(2, .int .u64 r_5.1), (5, .bool r_8.2.1), (6, .bool r_12.1), (7, .pointer (some ⟨b_18, 0, none⟩)), (8, .bool r_15.2.1), (9, .pointer (some ⟨b_22, 0, none⟩)), (40, .bool (r_5.2.1 == 0))]) (H' := [⟨44, b_22, [.int .i64 r_19.1.Err, .int .u64 r_19.1.Num, .int .u64 r_19.1.Extra]⟩, ⟨40, b_2, [.int .u64 r_19.2.2.now, .int .u64 r_19.2.2.next, .slice A_20 r_19.2.2.rows.length c_21]⟩, ⟨43, b_18, [.int .i64 r_15.1.Err, .int .u64 r_15.1.Num, .int .u64 r_15.1.Extra]⟩, ⟨42, b_11, [.int .i64 r_8.1.Err, .int .u64 r_8.1.Num, .int .u64 r_8.1.Extra]⟩]) (ps := []) (by kernel_rfl) trivial ?_
  refine GoO.bsplit (t := 40) (by kernel_rfl) (fun h23 => ?_) (fun h23 => ?_)
  · refine GoO.exec (is := [3, 4, 5, 6]) (hs := [.p, .p, .p, .p]) (rest := [7, 8, 9, 10, 11, 12, 13, 14, 15, 16, 17, 18, 19, 20, 21, 22, 23, 24, 25, 26]) (ks := [5, 6, 7, 8, 9, 44]) (env' := [(5, .bool r_8.2.1), (6, .bool r_12.1), (7, .pointer (some ⟨b_18, 0, none⟩)), (8, .bool r_15.2.1), (9, .pointer (some ⟨b_22, 0, none⟩)), (44, .bool (r_5.1 == 1))]) (H' := [⟨44, b_22, [.int .i64 r_19.1.Err, .int .u64 r_19.1.Num, .int .u64 r_19.1.Extra]⟩, ⟨40, b_2, [.int .u64 r_19.2.2.now, .int .u64 r_19.2.2.next, .slice A_20 r_19.2.2.rows.length c_21]⟩, ⟨43, b_18, [.int .i64 r_15.1.Err, .int .u64 r_15.1.Num, .int .u64 r_15.1.Extra]⟩, ⟨42, b_11, [.int .i64 r_8.1.Err, .int .u64 r_8.1.Num, .int .u64 r_8.1.Extra]⟩]) (ps := []) (by kernel_rfl) trivial ?_
    refine GoO.bsplit (t := 44) (by kernel_rfl) (fun h24 => ?_) (fun h24 => ?_)
    · refine GoO.exec (is := [7, 8, 9]) (hs := [.p, .p, .p]) (rest := [10, 11, 12, 13, 14, 15, 16, 17, 18, 19, 20, 21, 22, 23, 24, 25, 26]) (ks := [6, 7, 8, 9, 47]) (env' := [(6, .bool r_12.1), (7, .pointer (some ⟨b_18, 0, none⟩)), (8, .bool r_15.2.1), (9, .pointer (some ⟨b_22, 0, none⟩)), (47, .bool r_8.2.1)]) (H' := [⟨44, b_22, [.int .i64 r_19.1.Err, .int .u64 r_19.1.Num, .int .u64 r_19.1.Extra]⟩, ⟨40, b_2, [.int .u64 r_19.2.2.now, .int .u64 r_19.2.2.next, .slice A_20 r_19.2.2.rows.length c_21]⟩, ⟨43, b_18, [.int .i64 r_15.1.Err, .int .u64 r_15.1.Num, .int .u64 r_15.1.Extra]⟩, ⟨42, b_11, [.int .i64 r_8.1.Err, .int .u64 r_8.1.Num, .int .u64 r_8.1.Extra]⟩]) (ps := []) (by kernel_rfl) trivial ?_
      refine GoO.bsplit (t := 47) (by kernel_rfl) (fun h25 => ?_) (fun h25 => ?_)
      · refine GoO.exec (is := [10, 11, 12]) (hs := [.p, .p, .p]) (rest := [13, 14, 15, 16, 17, 18, 19, 20, 21, 22, 23, 24, 25, 26]) (ks := [7, 8, 9, 50]) (env' := [(7, .pointer (some ⟨b_18, 0, none⟩)), (8, .bool r_15.2.1), (9, .pointer (some ⟨b_22, 0, none⟩)), (50, .bool r_12.1)]) (H' := [⟨44, b_22, [.int .i64 r_19.1.Err, .int .u64 r_19.1.Num, .int .u64 r_19.1.Extra]⟩, ⟨40, b_2, [.int .u64 r_19.2.2.now, .int .u64 r_19.2.2.next, .slice A_20 r_19.2.2.rows.length c_21]⟩, ⟨43, b_18, [.int .i64 r_15.1.Err, .int .u64 r_15.1.Num, .int .u64 r_15.1.Extra]⟩, ⟨42, b_11, [.int .i64 r_8.1.Err, .int .u64 r_8.1.Num, .int .u64 r_8.1.Extra]⟩]) (ps := []) (by kernel_rfl) trivial ?_
        refine GoO.bsplit (t := 50) (by kernel_rfl) (fun h26 => ?_) (fun h26 => ?_)
        · refine GoO.exec (is := [13, 14, 15, 16]) (hs := [.p, .p, .p, .p]) (rest := [17, 18, 19, 20, 21, 22, 23, 24, 25, 26]) (ks := [7, 9, 54]) (env' := [(7, .pointer (some ⟨b_18, 0, none⟩)), (9, .pointer (some ⟨b_22, 0, none⟩)), (54, .bool (!r_15.2.1))]) (H' := [⟨44, b_22, [.int .i64 r_19.1.Err, .int .u64 r_19.1.Num, .int .u64 r_19.1.Extra]⟩, ⟨40, b_2, [.int .u64 r_19.2.2.now, .int .u64 r_19.2.2.next, .slice A_20 r_19.2.2.rows.length c_21]⟩, ⟨43, b_18, [.int .i64 r_15.1.Err, .int .u64 r_15.1.Num, .int .u64 r_15.1.Extra]⟩, ⟨42, b_11, [.int .i64 r_8.1.Err, .int .u64 r_8.1.Num, .int .u64 r_8.1.Extra]⟩]) (ps := []) (by kernel_rfl) trivial ?_
          refine GoO.bsplit (t := 54) (by kernel_rfl) (fun h27 => ?_) (fun h27 => ?_)
          · refine GoO.exec (is := [17, 18, 19, 20, 21]) (hs := [.p, .b 2, .p, .p, .p]) (rest := [22, 23, 24, 25, 26]) (ks := [9, 59]) (env' := [(9, .pointer (some ⟨b_22, 0, none⟩)), (59, .bool (r_15.1.Num == 7))]) (H' := [⟨44, b_22, [.int .i64 r_19.1.Err, .int .u64 r_19.1.Num, .int .u64 r_19.1.Extra]⟩, ⟨40, b_2, [.int .u64 r_19.2.2.now, .int .u64 r_19.2.2.next, .slice A_20 r_19.2.2.rows.length c_21]⟩, ⟨43, b_18, [.int .i64 r_15.1.Err, .int .u64 r_15.1.Num, .int .u64 r_15.1.Extra]⟩, ⟨42, b_11, [.int .i64 r_8.1.Err, .int .u64 r_8.1.Num, .int .u64 r_8.1.Extra]⟩]) (ps := [b_18 = b_18]) (by kernel_rfl) (And.intro rfl trivial) ?_
            refine GoO.bsplit (t := 59) (by kernel_rfl) (fun h28 => ?_) (fun h28 => ?_)
            · refine GoO.exec (is := [22, 23, 24, 25, 26]) (hs := [.p, .b 0, .p, .p, .p]) (rest := []) (ks := [0]) (env' := [(0, .bool (r_19.1.Err == 40))]) (H' := [⟨44, b_22, [.int .i64 r_19.1.Err, .int .u64 r_19.1.Num, .int .u64 r_19.1.Extra]⟩, ⟨40, b_2, [.int .u64 r_19.2.2.now, .int .u64 r_19.2.2.next, .slice A_20 r_19.2.2.rows.length c_21]⟩, ⟨43, b_18, [.int .i64 r_15.1.Err, .int .u64 r_15.1.Num, .int .u64 r_15.1.Extra]⟩, ⟨42, b_11, [.int .i64 r_8.1.Err, .int .u64 r_8.1.Num, .int .u64 r_8.1.Extra]⟩]) (ps := [b_22 = b_22]) (by kernel_rfl) (And.intro rfl trivial) ?_
              refine GoO.regionEnd ?_
              exact GoO.ret' (h := c14_16e) (hs := []) (ps := []) (hk := []) (bk := []) Try.func14 () (by kernel_rfl) trivial (by kernel_rfl) (by kernel_rfl)
            · refine GoO.exec (is := [22, 23, 24, 25, 26]) (hs := [.p, .p, .p, .p, .p]) (rest := []) (ks := [0]) (env' := [(0, .bool false)]) (H' := [⟨44, b_22, [.int .i64 r_19.1.Err, .int .u64 r_19.1.Num, .int .u64 r_19.1.Extra]⟩, ⟨40, b_2, [.int .u64 r_19.2.2.now, .int .u64 r_19.2.2.next, .slice A_20 r_19.2.2.rows.length c_21]⟩, ⟨43, b_18, [.int .i64 r_15.1.Err, .int .u64 r_15.1.Num, .int .u64 r_15.1.Extra]⟩, ⟨42, b_11, [.int .i64 r_8.1.Err, .int .u64 r_8.1.Num, .int .u64 r_8.1.Extra]⟩]) (ps := []) (by kernel_rfl) trivial ?_
              refine GoO.regionEnd ?_
              exact GoO.ret' (h := c14_16e) (hs := []) (ps := []) (hk := []) (bk := []) Try.func14 () (by kernel_rfl) trivial (by kernel_rfl) (by kernel_rfl)
          · refine GoO.exec (is := [17, 18, 19, 20, 21, 22, 23, 24, 25, 26]) (hs := [.p, .p, .p, .p, .p, .p, .p, .p, .p, .p]) (rest := []) (ks := [0]) (env' := [(0, .bool false)]) (H' := [⟨44, b_22, [.int .i64 r_19.1.Err, .int .u64 r_19.1.Num, .int .u64 r_19.1.Extra]⟩, ⟨40, b_2, [.int .u64 r_19.2.2.now, .int .u64 r_19.2.2.next, .slice A_20 r_19.2.2.rows.length c_21]⟩, ⟨43, b_18, [.int .i64 r_15.1.Err, .int .u64 r_15.1.Num, .int .u64 r_15.1.Extra]⟩, ⟨42, b_11, [.int .i64 r_8.1.Err, .int .u64 r_8.1.Num, .int .u64 r_8.1.Extra]⟩]) (ps := []) (by kernel_rfl) trivial ?_
            refine GoO.regionEnd ?_
            exact GoO.ret' (h := c14_16e) (hs := []) (ps := []) (hk := []) (bk := []) Try.func14 () (by kernel_rfl) trivial (by kernel_rfl) (by kernel_rfl)
        · refine GoO.exec (is := [13, 14, 15, 16, 17, 18, 19, 20, 21, 22, 23, 24, 25, 26]) (hs := [.p, .p, .p, .p, .p, .p, .p, .p, .p, .p, .p, .p, .p, .p]) (rest := []) (ks := [0]) (env' := [(0, .bool false)]) (H' := [⟨44, b_22, [.int .i64 r_19.1.Err, .int .u64 r_19.1.Num, .int .u64 r_19.1.Extra]⟩, ⟨40, b_2, [.int .u64 r_19.2.2.now, .int .u64 r_19.2.2.next, .slice A_20 r_19.2.2.rows.length c_21]⟩, ⟨43, b_18, [.int .i64 r_15.1.Err, .int .u64 r_15.1.Num, .int .u64 r_15.1.Extra]⟩, ⟨42, b_11, [.int .i64 r_8.1.Err, .int .u64 r_8.1.Num, .int .u64 r_8.1.Extra]⟩]) (ps := []) (by kernel_rfl) trivial ?_
          refine GoO.regionEnd ?_
          exact GoO.ret' (h := c14_16e) (hs := []) (ps := []) (hk := []) (bk := []) Try.func14 () (by kernel_rfl) trivial (by kernel_rfl) (by kernel_rfl)
      · refine GoO.exec (is := [10, 11, 12, 13, 14, 15, 16, 17, 18, 19, 20, 21, 22, 23, 24, 25, 26]) (hs := [.p, .p, .p, .p, .p, .p, .p, .p, .p, .p, .p, .p, .p, .p, .p, .p, .p]) (rest := []) (ks := [0]) (env' := [(0, .bool false)]) (H' := [⟨44, b_22, [.int .i64 r_19.1.Err, .int .u64 r_19.1.Num, .int .u64 r_19.1.Extra]⟩, ⟨40, b_2, [.int .u64 r_19.2.2.now, .int .u64 r_19.2.2.next, .slice A_20 r_19.2.2.rows.length c_21]⟩, ⟨43, b_18, [.int .i64 r_15.1.Err, .int .u64 r_15.1.Num, .int .u64 r_15.1.Extra]⟩, ⟨42, b_11, [.int .i64 r_8.1.Err, .int .u64 r_8.1.Num, .int .u64 r_8.1.Extra]⟩]) (ps := []) (by kernel_rfl) trivial ?_
        refine GoO.regionEnd ?_
        exact GoO.ret' (h := c14_16e) (hs := []) (ps := []) (hk := []) (bk := []) Try.func14 () (by kernel_rfl) trivial (by kernel_rfl) (by kernel_rfl)
    · refine GoO.exec (is := [7, 8, 9, 10, 11, 12, 13, 14, 15, 16, 17, 18, 19, 20, 21, 22, 23, 24, 25, 26]) (hs := [.p, .p, .p, .p, .p, .p, .p, .p, .p, .p, .p, .p, .p, .p, .p, .p, .p, .p, .p, .p]) (rest := []) (ks := [0]) (env' := [(0, .bool false)]) (H' := [⟨44, b_22, [.int .i64 r_19.1.Err, .int .u64 r_19.1.Num, .int .u64 r_19.1.Extra]⟩, ⟨40, b_2, [.int .u64 r_19.2.2.now, .int .u64 r_19.2.2.next, .slice A_20 r_19.2.2.rows.length c_21]⟩, ⟨43, b_18, [.int .i64 r_15.1.Err, .int .u64 r_15.1.Num, .int .u64 r_15.1.Extra]⟩, ⟨42, b_11, [.int .i64 r_8.1.Err, .int .u64 r_8.1.Num, .int .u64 r_8.1.Extra]⟩]) (ps := []) (by kernel_rfl) trivial ?_
      refine GoO.regionEnd ?_
      exact GoO.ret' (h := c14_16e) (hs := []) (ps := []) (hk := []) (bk := []) Try.func14 () (by kernel_rfl) trivial (by kernel_rfl) (by kernel_rfl)
  · refine GoO.exec (is := [3, 4, 5, 6, 7, 8, 9, 10, 11, 12, 13, 14, 15, 16, 17, 18, 19, 20, 21, 22, 23, 24, 25, 26]) (hs := [.p, .p, .p, .p, .p, .p, .p, .p, .p, .p, .p, .p, .p, .p, .p, .p, .p, .p, .p, .p, .p, .p, .p, .p]) (rest := []) (ks := [0]) (env' := [(0, .bool false)]) (H' := [⟨44, b_22, [.int .i64 r_19.1.Err, .int .u64 r_19.1.Num, .int .u64 r_19.1.Extra]⟩, ⟨40, b_2, [.int .u64 r_19.2.2.now, .int .u64 r_19.2.2.next, .slice A_20 r_19.2.2.rows.length c_21]⟩, ⟨43, b_18, [.int .i64 r_15.1.Err, .int .u64 r_15.1.Num, .int .u64 r_15.1.Extra]⟩, ⟨42, b_11, [.int .i64 r_8.1.Err, .int .u64 r_8.1.Num, .int .u64 r_8.1.Extra]⟩]) (ps := []) (by kernel_rfl) trivial ?_
    refine GoO.regionEnd ?_
    exact GoO.ret' (h := c14_16e) (hs := []) (ps := []) (hk := []) (bk := []) Try.func14 () (by kernel_rfl) trivial (by kernel_rfl) (by kernel_rfl)

/-! (*tontine/session.Table).Clock -/
noncomputable def c16_0 : Code := bodyOf Try.f16
noncomputable def c16_1 : Code := cdL c16_0
noncomputable def c16_2 : Code := cdL c16_1
noncomputable def c16_3 : Code := cdR c16_1
noncomputable def c16_4 : Code := cdL c16_3
noncomputable def c16_5 : Code := cdR c16_3
noncomputable def c16_6 : Code := cdR c16_0
noncomputable def c16_7 : Code := cdL c16_6
noncomputable def c16_8 : Code := cdR c16_6
noncomputable def c16_9 : Code := cdL c16_8
noncomputable def c16_10 : Code := cdR c16_8
noncomputable def c16_11 : Code := cdL c16_10
noncomputable def c16_12 : Code := cdL c16_11
noncomputable def c16_13 : Code := cdR c16_11
noncomputable def c16_14 : Code := cdL c16_13
noncomputable def c16_15 : Code := cdL c16_14
noncomputable def c16_16 : Code := cdL c16_15
noncomputable def c16_17 : Code := cdR c16_15
noncomputable def c16_18 : Code := cdL c16_17
noncomputable def c16_19 : Code := cdL c16_18
noncomputable def c16_20 : Code := cdR c16_18
noncomputable def c16_21 : Code := cdR c16_17
noncomputable def c16_22 : Code := cdL c16_21
noncomputable def c16_23 : Code := cdL c16_22
noncomputable def c16_24 : Code := cdL c16_23
noncomputable def c16_25 : Code := cdR c16_23
noncomputable def c16_26 : Code := cdL c16_25
noncomputable def c16_27 : Code := cdR c16_25
noncomputable def c16_28 : Code := cdL c16_27
noncomputable def c16_29 : Code := cdR c16_27
noncomputable def c16_30 : Code := cdR c16_21
noncomputable def c16_31 : Code := cdR c16_10
noncomputable def r16_2 : Array Oper := cdO c16_2
noncomputable def r16_7 : Array Oper := cdO c16_7
noncomputable def r16_9 : Array Oper := cdO c16_9
noncomputable def r16_12 : Array Oper := cdO c16_12
noncomputable def r16_16 : Array Oper := cdO c16_16
noncomputable def r16_24 : Array Oper := cdO c16_24
noncomputable def r16_26 : Array Oper := cdO c16_26
noncomputable def r16_28 : Array Oper := cdO c16_28
noncomputable def r16_30 : Array Oper := cdO c16_30
noncomputable def r16_31 : Array Oper := cdO c16_31
theorem c16_0e : c16_0 = .seq c16_1 c16_6 := by kernel_rfl
theorem c16_1e : c16_1 = .seq c16_2 c16_3 := by kernel_rfl
theorem c16_2e : c16_2 = .region 0 r16_2 false := by kernel_rfl
theorem c16_3e : c16_3 = .cond (cdC c16_3) c16_4 c16_5 := by kernel_rfl
theorem c16_4e : c16_4 = .ret := by kernel_rfl
theorem c16_5e : c16_5 = .skip := by kernel_rfl
theorem c16_6e : c16_6 = .seq c16_7 c16_8 := by kernel_rfl
theorem c16_7e : c16_7 = .region 1 r16_7 false := by kernel_rfl
theorem c16_8e : c16_8 = .seq c16_9 c16_10 := by kernel_rfl
theorem c16_9e : c16_9 = .region 2 r16_9 false := by kernel_rfl
theorem c16_10e : c16_10 = .seq c16_11 c16_31 := by kernel_rfl
theorem c16_11e : c16_11 = .seq c16_12 c16_13 := by kernel_rfl
theorem c16_12e : c16_12 = .region 3 r16_12 false := by kernel_rfl
theorem c16_13e : c16_13 = .block 0 c16_14 := by kernel_rfl
theorem c16_14e : c16_14 = .loop c16_15 := by kernel_rfl
theorem c16_15e : c16_15 = .seq c16_16 c16_17 := by kernel_rfl
theorem c16_16e : c16_16 = .region 4 r16_16 false := by kernel_rfl
theorem c16_17e : c16_17 = .seq c16_18 c16_21 := by kernel_rfl
theorem c16_18e : c16_18 = .cond (cdC c16_18) c16_19 c16_20 := by kernel_rfl
theorem c16_19e : c16_19 = .skip := by kernel_rfl
theorem c16_20e : c16_20 = .exit 0 := by kernel_rfl
theorem c16_21e : c16_21 = .seq c16_22 c16_30 := by kernel_rfl
theorem c16_22e : c16_22 = .block 1 c16_23 := by kernel_rfl
theorem c16_23e : c16_23 = .seq c16_24 c16_25 := by kernel_rfl
theorem c16_24e : c16_24 = .region 5 r16_24 false := by kernel_rfl
theorem c16_25e : c16_25 = .seq c16_26 c16_27 := by kernel_rfl
theorem c16_26e : c16_26 = .region 6 r16_26 false := by kernel_rfl
theorem c16_27e : c16_27 = .cond (cdC c16_27) c16_28 c16_29 := by kernel_rfl
theorem c16_28e : c16_28 = .region 7 r16_28 false := by kernel_rfl
theorem c16_29e : c16_29 = .skip := by kernel_rfl
theorem c16_30e : c16_30 = .region 8 r16_30 false := by kernel_rfl
theorem c16_31e : c16_31 = .region 9 r16_31 false := by kernel_rfl
noncomputable def session_Table_Clock.R (b_2 : Nat) (A_3 : Option Addr) (c_4 : Nat) : Pst T_session_Table where
  ε := Option Addr × Nat
  v := fun r x => .tuple ⟨[]⟩
  H := fun r x => [⟨1, b_2, [.int .u64 r.now, .int .u64 r.next, .slice x.1 r.rows.length x.2]⟩]
  B := fun r x => [Ow 2 kT_session_Row x.1 x.2 r.rows]
noncomputable def session_Table_Clock.cx (b_2 : Nat) (A_3 : Option Addr) (c_4 : Nat) (w0 : World) (S0 : Fam) : Cx T_session_Table := ⟨Try.prog, 16, Try.f16, 44, w0, S0, [1, 2], 2, session_Table_Clock.R b_2 A_3 c_4⟩
theorem session_Table_Clock_l0_ok (n : Nat) (t_1 : T_session_Table) (now_5 : Int) (b_2 : Nat) (A_3 : Option Addr) (c_4 : Nat) (w0 : World) (S0 : Fam) :
    ∀ (k : Nat) (l_7 : (List T_session_Row)) (x_10 : Int) (A_8 : Option Addr) (c_9 : Nat), GoO (session_Table_Clock.cx b_2 A_3 c_4 w0 S0) [(0, .pointer (some ⟨b_2, 0, none⟩)), (1, .int .u64 now_5), (4, .slice A_8 l_7.length c_9), (24, .slice A_3 t_1.rows.length c_4), (25, .int .i64 (t_1.rows.length : Int)), (26, .int .i64 x_10)] [⟨1, b_2, [.int .u64 now_5, .int .u64 t_1.next, .slice A_3 t_1.rows.length c_4]⟩] [Ow 2 kT_session_Row A_3 c_4 t_1.rows, Ow 42 kT_session_Row A_8 c_9 l_7] [.code c16_15, .inLoop c16_15, .inBlock 0, .code c16_31] (session_Table_Clock.l0 n t_1 now_5 k l_7 x_10) := by
  intro k
  induction k with
  | zero => intros; rw [session_Table_Clock.l0.eq_1]; exact GoO.stop
  | succ k ih0 =>
    intro l_7 x_10 A_8 c_9
    rw [session_Table_Clock.l0.eq_2]
    refine GoO.seq' c16_15e ?_
    refine GoO.region' (is := [0]) c16_16e (by kernel_rfl) ?_
    refine GoO.exec (is := [0]) (hs := [.p]) (rest := []) (ks := [0, 1, 4, 24, 25, 26, 27]) (env' := [(0, .pointer (some ⟨b_2, 0, none⟩)), (1, .int .u64 now_5), (4, .slice A_8 l_7.length c_9), (24, .slice A_3 t_1.rows.length c_4), (25, .int .i64 (t_1.rows.length : Int)), (26, .int .i64 x_10), (27, .bool (decide (x_10 < (t_1.rows.length : Int))))]) (H' := [⟨1, b_2, [.int .u64 now_5, .int .u64 t_1.next, .slice A_3 t_1.rows.length c_4]⟩]) (ps := []) (by kernel_rfl) trivial ?_
    refine GoO.regionEnd ?_
    refine GoO.seq' c16_17e ?_
    refine GoO.ite' c16_18e (by kernel_rfl) (fun h11 => ?_) (fun h11 => ?_)
    · refine GoO.skip' c16_19e ?_
      refine GoO.seq' c16_21e ?_
      refine GoO.block' c16_22e ?_
      refine GoO.seq' c16_23e ?_
      refine GoO.region' (is := [0, 1, 2, 3]) c16_24e (by kernel_rfl) ?_
      refine GoO.guard (fun h12 => ?_)
      refine OpTo.go (GoO.idx (kk := .i64) (e := 87) (K := kT_session_Row) (A := A_3) (c := c_4) (xs := t_1.rows) (iv := x_10) (j := 0) rfl (by kernel_rfl) (by kernel_rfl) (by kernel_rfl) (by kernel_rfl) rfl Reads.own rfl h12.1 h12.2 (by decide) rfl ?_)
      refine OpTo.go (GoO.ldE' (K := kT_session_Row) (A := A_3) (c := c_4) (xs := t_1.rows) (iN := x_10.toNat) (off := 0) (j := 0) rfl (by kernel_rfl) rfl Reads.own (by first | exact idx_lt h12.1 h12.2 | (simp only [List.length_set]; exact idx_lt h12.1 h12.2)) (by decide) (Opn.flat _ _ _ _ _) (v := fun _ => .agg ⟨[.int .u64 ((rdL t_1.rows x_10).Id), .int .u64 ((rdL t_1.rows x_10).Used), .int .u64 ((rdL t_1.rows x_10).Seq), .int .i64 ((rdL t_1.rows x_10).Reply.Err), .int .u64 ((rdL t_1.rows x_10).Reply.Num), .int .u64 ((rdL t_1.rows x_10).Reply.Extra)]⟩) (fun _ => by kernel_rfl) _ (fun _ => rfl) (fun _ => ?_))
      refine OpTo.go (GoO.new rfl 40 (cs := [.int .u64 0, .int .u64 0, .int .u64 0, .int .i64 0, .int .u64 0, .int .u64 0]) (by kernel_rfl) _ (fun _ => rfl) (fun b_13 => ?_))
      refine GoO.exec (is := [3]) (hs := [.b 0]) (rest := []) (ks := [0, 1, 4, 6, 24, 25, 26]) (env' := [(0, .pointer (some ⟨b_2, 0, none⟩)), (1, .int .u64 now_5), (4, .slice A_8 l_7.length c_9), (6, .pointer (some ⟨b_13, 0, none⟩)), (24, .slice A_3 t_1.rows.length c_4), (25, .int .i64 (t_1.rows.length : Int)), (26, .int .i64 x_10)]) (H' := [⟨40, b_13, [.int .u64 ((rdL t_1.rows x_10).Id), .int .u64 ((rdL t_1.rows x_10).Used), .int .u64 ((rdL t_1.rows x_10).Seq), .int .i64 ((rdL t_1.rows x_10).Reply.Err), .int .u64 ((rdL t_1.rows x_10).Reply.Num), .int .u64 ((rdL t_1.rows x_10).Reply.Extra)]⟩, ⟨1, b_2, [.int .u64 now_5, .int .u64 t_1.next, .slice A_3 t_1.rows.length c_4]⟩]) (ps := [b_13 = b_13]) (by kernel_rfl) (And.intro rfl trivial) ?_
      refine GoO.regionEnd ?_
      refine GoO.seq' c16_25e ?_
      refine GoO.region' (is := [0, 1, 2, 3, 4]) c16_26e (by kernel_rfl) ?_
      refine GoO.exec (is := [0, 1, 2, 3, 4]) (hs := [.p, .p, .b 0, .p, .p]) (rest := []) (ks := [0, 1, 4, 6, 24, 25, 26, 34]) (env' := [(0, .pointer (some ⟨b_2, 0, none⟩)), (1, .int .u64 now_5), (4, .slice A_8 l_7.length c_9), (6, .pointer (some ⟨b_13, 0, none⟩)), (24, .slice A_3 t_1.rows.length c_4), (25, .int .i64 (t_1.rows.length : Int)), (26, .int .i64 x_10), (34, .bool (decide ((wu64 (now_5 - ((rdL t_1.rows x_10).Used))) ≤ 1000)))]) (H' := [⟨40, b_13, [.int .u64 ((rdL t_1.rows x_10).Id), .int .u64 ((rdL t_1.rows x_10).Used), .int .u64 ((rdL t_1.rows x_10).Seq), .int .i64 ((rdL t_1.rows x_10).Reply.Err), .int .u64 ((rdL t_1.rows x_10).Reply.Num), .int .u64 ((rdL t_1.rows x_10).Reply.Extra)]⟩, ⟨1, b_2, [.int .u64 now_5, .int .u64 t_1.next, .slice A_3 t_1.rows.length c_4]⟩]) (ps := [b_13 = b_13]) (by kernel_rfl) (And.intro rfl trivial) ?_
      refine GoO.regionEnd ?_
      refine GoO.ite' c16_27e (by kernel_rfl) (fun h14 => ?_) (fun h14 => ?_)
      · refine GoO.region' (is := [0, 1, 2, 3, 4]) c16_28e (by kernel_rfl) ?_
        refine GoO.exec (is := [0, 1]) (hs := [.p, .b 0]) (rest := [2, 3, 4]) (ks := [0, 1, 24, 25, 26, 35, 36]) (env' := [(0, .pointer (some ⟨b_2, 0, none⟩)), (1, .int .u64 now_5), (24, .slice A_3 t_1.rows.length c_4), (25, .int .i64 (t_1.rows.length : Int)), (26, .int .i64 x_10), (35, .slice A_8 l_7.length c_9), (36, .agg ⟨[.int .u64 ((rdL t_1.rows x_10).Id), .int .u64 ((rdL t_1.rows x_10).Used), .int .u64 ((rdL t_1.rows x_10).Seq), .int .i64 ((rdL t_1.rows x_10).Reply.Err), .int .u64 ((rdL t_1.rows x_10).Reply.Num), .int .u64 ((rdL t_1.rows x_10).Reply.Extra)]⟩)]) (H' := [⟨40, b_13, [.int .u64 ((rdL t_1.rows x_10).Id), .int .u64 ((rdL t_1.rows x_10).Used), .int .u64 ((rdL t_1.rows x_10).Seq), .int .i64 ((rdL t_1.rows x_10).Reply.Err), .int .u64 ((rdL t_1.rows x_10).Reply.Num), .int .u64 ((rdL t_1.rows x_10).Reply.Extra)]⟩, ⟨1, b_2, [.int .u64 now_5, .int .u64 t_1.next, .slice A_3 t_1.rows.length c_4]⟩]) (ps := [b_13 = b_13]) (by kernel_rfl) (And.intro rfl trivial) ?_
        refine OpTo.go (GoO.lit (e := 87) (K := kT_session_Row) rfl (by kernel_rfl) (by kernel_rfl) (cs := [.int .u64 ((rdL t_1.rows x_10).Id), .int .u64 ((rdL t_1.rows x_10).Used), .int .u64 ((rdL t_1.rows x_10).Seq), .int .i64 ((rdL t_1.rows x_10).Reply.Err), .int .u64 ((rdL t_1.rows x_10).Reply.Num), .int .u64 ((rdL t_1.rows x_10).Reply.Extra)]) (by kernel_rfl) [(⟨(rdL t_1.rows x_10).Id, (rdL t_1.rows x_10).Used, (rdL t_1.rows x_10).Seq, (⟨(rdL t_1.rows x_10).Reply.Err, (rdL t_1.rows x_10).Reply.Num, (rdL t_1.rows x_10).Reply.Extra⟩ : T_api_Reply)⟩ : T_session_Row)] (by kernel_rfl) (by kernel_rfl) (fun w S hB => ⟨[.int .u64 ((rdL t_1.rows x_10).Id), .int .u64 ((rdL t_1.rows x_10).Used), .int .u64 ((rdL t_1.rows x_10).Seq), .int .i64 ((rdL t_1.rows x_10).Reply.Err), .int .u64 ((rdL t_1.rows x_10).Reply.Num), .int .u64 ((rdL t_1.rows x_10).Reply.Extra)], _, rfl, rfl, rfl⟩) 41 _ (fun _ _ => rfl) (fun A_15 c_16 => ?_))
        refine GoO.guard (fun h17 => ?_)
        refine OpTo.go (GoO.appW (e := 87) (K := kT_session_Row) (A := A_8) (c := c_9) (tg := 42) (bytes := 48) (zs := [.int .u64 0, .int .u64 0, .int .u64 0, .int .i64 0, .int .u64 0, .int .u64 0]) (xs := l_7) (ys := [(⟨(rdL t_1.rows x_10).Id, (rdL t_1.rows x_10).Used, (rdL t_1.rows x_10).Seq, (⟨(rdL t_1.rows x_10).Reply.Err, (rdL t_1.rows x_10).Reply.Num, (rdL t_1.rows x_10).Reply.Extra⟩ : T_api_Reply)⟩ : T_session_Row)]) (xv := .slice A_15 [(⟨(rdL t_1.rows x_10).Id, (rdL t_1.rows x_10).Used, (rdL t_1.rows x_10).Seq, (⟨(rdL t_1.rows x_10).Reply.Err, (rdL t_1.rows x_10).Reply.Num, (rdL t_1.rows x_10).Reply.Extra⟩ : T_api_Reply)⟩ : T_session_Row)].length c_16) (j := 2) (bk := [0, 1]) rfl (by kernel_rfl) (by kernel_rfl) (by kernel_rfl) (by kernel_rfl) rfl (by kernel_rfl) rfl (fun w S hB => SrcIs.row (Reads.own w S (hB _ (List.mem_of_getElem? (i := 0) rfl)))) h17 rfl rfl rfl rfl _ (fun _ _ => rfl) (fun A_18 c_19 => ?_))
        refine GoO.exec (is := [4]) (hs := [.p]) (rest := []) (ks := [0, 1, 4, 24, 25, 26]) (env' := [(0, .pointer (some ⟨b_2, 0, none⟩)), (1, .int .u64 now_5), (4, .slice A_18 (l_7 ++ [(⟨(rdL t_1.rows x_10).Id, (rdL t_1.rows x_10).Used, (rdL t_1.rows x_10).Seq, (⟨(rdL t_1.rows x_10).Reply.Err, (rdL t_1.rows x_10).Reply.Num, (rdL t_1.rows x_10).Reply.Extra⟩ : T_api_Reply)⟩ : T_session_Row)]).length c_19), (24, .slice A_3 t_1.rows.length c_4), (25, .int .i64 (t_1.rows.length : Int)), (26, .int .i64 x_10)]) (H' := [⟨40, b_13, [.int .u64 ((rdL t_1.rows x_10).Id), .int .u64 ((rdL t_1.rows x_10).Used), .int .u64 ((rdL t_1.rows x_10).Seq), .int .i64 ((rdL t_1.rows x_10).Reply.Err), .int .u64 ((rdL t_1.rows x_10).Reply.Num), .int .u64 ((rdL t_1.rows x_10).Reply.Extra)]⟩, ⟨1, b_2, [.int .u64 now_5, .int .u64 t_1.next, .slice A_3 t_1.rows.length c_4]⟩]) (ps := []) (by kernel_rfl) trivial ?_
        refine GoO.regionEnd ?_
        refine GoO.inBlock ?_
        refine GoO.region' (is := [0, 1]) c16_30e (by kernel_rfl) ?_
        refine GoO.exec (is := [0, 1]) (hs := [.p, .p]) (rest := []) (ks := [0, 1, 4, 24, 25, 26]) (env' := [(0, .pointer (some ⟨b_2, 0, none⟩)), (1, .int .u64 now_5), (4, .slice A_18 (l_7 ++ [(⟨(rdL t_1.rows x_10).Id, (rdL t_1.rows x_10).Used, (rdL t_1.rows x_10).Seq, (⟨(rdL t_1.rows x_10).Reply.Err, (rdL t_1.rows x_10).Reply.Num, (rdL t_1.rows x_10).Reply.Extra⟩ : T_api_Reply)⟩ : T_session_Row)]).length c_19), (24, .slice A_3 t_1.rows.length c_4), (25, .int .i64 (t_1.rows.length : Int)), (26, .int .i64 (wi64 (x_10 + 1)))]) (H' := [⟨40, b_13, [.int .u64 ((rdL t_1.rows x_10).Id), .int .u64 ((rdL t_1.rows x_10).Used), .int .u64 ((rdL t_1.rows x_10).Seq), .int .i64 ((rdL t_1.rows x_10).Reply.Err), .int .u64 ((rdL t_1.rows x_10).Reply.Num), .int .u64 ((rdL t_1.rows x_10).Reply.Extra)]⟩, ⟨1, b_2, [.int .u64 now_5, .int .u64 t_1.next, .slice A_3 t_1.rows.length c_4]⟩]) (ps := []) (by kernel_rfl) trivial ?_
        refine GoO.regionEnd ?_
        refine GoO.inLoop ?_
        exact GoO.sub (ks := [0, 1, 4, 24, 25, 26]) (hk := [1]) (bk := [2, 0]) (by kernel_rfl) (by kernel_rfl) (by kernel_rfl) (ih0 (l_7 ++ [(⟨(rdL t_1.rows x_10).Id, (rdL t_1.rows x_10).Used, (rdL t_1.rows x_10).Seq, (⟨(rdL t_1.rows x_10).Reply.Err, (rdL t_1.rows x_10).Reply.Num, (rdL t_1.rows x_10).Reply.Extra⟩ : T_api_Reply)⟩ : T_session_Row)]) (wi64 (x_10 + 1)) A_18 c_19)
      · refine GoO.skip' c16_29e ?_
        refine GoO.inBlock ?_
        refine GoO.region' (is := [0, 1]) c16_30e (by kernel_rfl) ?_
        refine GoO.exec (is := [0, 1]) (hs := [.p, .p]) (rest := []) (ks := [0, 1, 4, 24, 25, 26]) (env' := [(0, .pointer (some ⟨b_2, 0, none⟩)), (1, .int .u64 now_5), (4, .slice A_8 l_7.length c_9), (24, .slice A_3 t_1.rows.length c_4), (25, .int .i64 (t_1.rows.length : Int)), (26, .int .i64 (wi64 (x_10 + 1)))]) (H' := [⟨40, b_13, [.int .u64 ((rdL t_1.rows x_10).Id), .int .u64 ((rdL t_1.rows x_10).Used), .int .u64 ((rdL t_1.rows x_10).Seq), .int .i64 ((rdL t_1.rows x_10).Reply.Err), .int .u64 ((rdL t_1.rows x_10).Reply.Num), .int .u64 ((rdL t_1.rows x_10).Reply.Extra)]⟩, ⟨1, b_2, [.int .u64 now_5, .int .u64 t_1.next, .slice A_3 t_1.rows.length c_4]⟩]) (ps := []) (by kernel_rfl) trivial ?_
        refine GoO.regionEnd ?_
        refine GoO.inLoop ?_
        exact GoO.sub (ks := [0, 1, 4, 24, 25, 26]) (hk := [1]) (bk := [0, 1]) (by kernel_rfl) (by kernel_rfl) (by kernel_rfl) (ih0 l_7 (wi64 (x_10 + 1)) A_8 c_9)
    · refine GoO.exit' c16_20e rfl ?_
      refine GoO.region' (is := [0, 1, 2, 3, 4]) c16_31e (by kernel_rfl) ?_
      refine GoO.exec (is := [0, 1, 2, 3, 4]) (hs := [.p, .p, .p, .p, .b 0]) (rest := []) (ks := []) (env' := []) (H' := [⟨1, b_2, [.int .u64 now_5, .int .u64 t_1.next, .slice A_8 l_7.length c_9]⟩]) (ps := [b_2 = b_2]) (by kernel_rfl) (And.intro rfl trivial) ?_
      refine GoO.regionEnd ?_
      refine GoO.sub (ks := []) (env' := []) (hk := [0]) (bk := [1]) (by kernel_rfl) rfl rfl ?_
      refine GoO.retag (t := 42) (u := 2) (j := 0) (hk := [0]) (bk := []) rfl rfl rfl rfl rfl rfl (by kernel_rfl) (by kernel_rfl) ?_
      exact GoO.fin (hs := []) (ps := []) (hk := [0]) (bk := [0]) Try.func16 (⟨A_8, c_9⟩ : Option Addr × Nat) (by kernel_rfl) trivial (by kernel_rfl) (by kernel_rfl)
theorem session_Table_Clock_ok (n : Nat) (t_1 : T_session_Table) (now_5 : Int) (b_2 : Nat) (A_3 : Option Addr) (c_4 : Nat) :
    Meets Try.prog 16 [.pointer (some ⟨b_2, 0, none⟩), .int .u64 now_5] 2 [1, 2] [⟨1, b_2, [.int .u64 t_1.now, .int .u64 t_1.next, .slice A_3 t_1.rows.length c_4]⟩] [Ow 2 kT_session_Row A_3 c_4 t_1.rows] (session_Table_Clock.f n t_1 now_5) (session_Table_Clock.R b_2 A_3 c_4) := by
  refine Meets.of (c := c16_0) (n := 44) Try.func16 (by kernel_rfl) (by kernel_rfl) (by kernel_rfl) fun w0 S0 => ?_
  unfold session_Table_Clock.f
  show GoO (session_Table_Clock.cx b_2 A_3 c_4 w0 S0) [(0, .pointer (some ⟨b_2, 0, none⟩)), (1, .int .u64 now_5)] [⟨1, b_2, [.int .u64 t_1.now, .int .u64 t_1.next, .slice A_3 t_1.rows.length c_4]⟩] [Ow 2 kT_session_Row A_3 c_4 t_1.rows] [.code c16_0] _
  refine GoO.seq' c16_0e ?_
  refine GoO.seq' c16_1e ?_
  refine GoO.region' (is := [0, 1, 2, 3, 4, 5, 6, 7, 8, 9]) c16_2e (by kernel_rfl) ?_
  refine GoO.exec (is := [0, 1, 2, 3, 4, 5, 6, 7, 8, 9]) (hs := [.p, .p, .p, .p, .p, .p, .p, .b 0, .p, .p]) (rest := []) (ks := [0, 1, 16]) (env' := [(0, .pointer (some ⟨b_2, 0, none⟩)), (1, .int .u64 now_5), (16, .bool (decide (now_5 ≤ t_1.now)))]) (H' := [⟨1, b_2, [.int .u64 t_1.now, .int .u64 t_1.next, .slice A_3 t_1.rows.length c_4]⟩]) (ps := [b_2 = b_2]) (by kernel_rfl) (And.intro rfl trivial) ?_
  refine GoO.regionEnd ?_
  refine GoO.ite' c16_3e (by kernel_rfl) (fun h6 => ?_) (fun h6 => ?_)
  · exact GoO.ret' (h := c16_4e) (hs := []) (ps := []) (hk := [0]) (bk := [0]) Try.func16 (⟨A_3, c_4⟩ : Option Addr × Nat) (by kernel_rfl) trivial (by kernel_rfl) (by kernel_rfl)
  · refine GoO.skip' c16_5e ?_
    refine GoO.seq' c16_6e ?_
    refine GoO.region' (is := [0, 1, 2, 3, 4]) c16_7e (by kernel_rfl) ?_
    refine GoO.exec (is := [0, 1, 2, 3, 4]) (hs := [.p, .p, .p, .p, .b 0]) (rest := []) (ks := [0, 1]) (env' := [(0, .pointer (some ⟨b_2, 0, none⟩)), (1, .int .u64 now_5)]) (H' := [⟨1, b_2, [.int .u64 now_5, .int .u64 t_1.next, .slice A_3 t_1.rows.length c_4]⟩]) (ps := [b_2 = b_2]) (by kernel_rfl) (And.intro rfl trivial) ?_
    refine GoO.regionEnd ?_
    refine GoO.seq' c16_8e ?_
    refine GoO.region' (is := [0]) c16_9e (by kernel_rfl) ?_
    refine GoO.exec (is := [0]) (hs := [.p]) (rest := []) (ks := [0, 1, 4]) (env' := [(0, .pointer (some ⟨b_2, 0, none⟩)), (1, .int .u64 now_5), (4, .slice none ([] : List T_session_Row).length 0)]) (H' := [⟨1, b_2, [.int .u64 now_5, .int .u64 t_1.next, .slice A_3 t_1.rows.length c_4]⟩]) (ps := []) (by kernel_rfl) trivial ?_
    refine GoO.regionEnd ?_
    refine GoO.seq' c16_10e ?_
    refine GoO.seq' c16_11e ?_
    refine GoO.region' (is := [0, 1, 2, 3, 4, 5]) c16_12e (by kernel_rfl) ?_
    refine GoO.exec (is := [0, 1, 2, 3, 4, 5]) (hs := [.p, .p, .p, .b 0, .p, .p]) (rest := []) (ks := [0, 1, 4, 24, 25, 26]) (env' := [(0, .pointer (some ⟨b_2, 0, none⟩)), (1, .int .u64 now_5), (4, .slice none ([] : List T_session_Row).length 0), (24, .slice A_3 t_1.rows.length c_4), (25, .int .i64 (t_1.rows.length : Int)), (26, .int .i64 0)]) (H' := [⟨1, b_2, [.int .u64 now_5, .int .u64 t_1.next, .slice A_3 t_1.rows.length c_4]⟩]) (ps := [b_2 = b_2]) (by kernel_rfl) (And.intro rfl trivial) ?_
    refine GoO.regionEnd ?_
    refine GoO.block' c16_13e ?_
    refine GoO.loop' c16_14e ?_
    refine GoO.nilOwn kT_session_Row 42 ?_
    exact GoO.sub (ks := [0, 1, 4, 24, 25, 26]) (hk := [0]) (bk := [1, 0]) (by kernel_rfl) (by kernel_rfl) (by kernel_rfl) (session_Table_Clock_l0_ok n t_1 now_5 b_2 A_3 c_4 w0 S0 n ([] : List T_session_Row) 0 none 0)

/-! (*tontine/tontineref15.Table).Clock -/
noncomputable def c44_0 : Code := bodyOf Try.f44
noncomputable def c44_1 : Code := cdL c44_0
noncomputable def c44_2 : Code := cdL c44_1
noncomputable def c44_3 : Code := cdR c44_1
noncomputable def c44_4 : Code := cdL c44_3
noncomputable def c44_5 : Code := cdR c44_3
noncomputable def c44_6 : Code := cdR c44_0
noncomputable def c44_7 : Code := cdL c44_6
noncomputable def c44_8 : Code := cdR c44_6
noncomputable def c44_9 : Code := cdL c44_8
noncomputable def c44_10 : Code := cdR c44_8
noncomputable def c44_11 : Code := cdL c44_10
noncomputable def c44_12 : Code := cdL c44_11
noncomputable def c44_13 : Code := cdR c44_11
noncomputable def c44_14 : Code := cdL c44_13
noncomputable def c44_15 : Code := cdL c44_14
noncomputable def c44_16 : Code := cdL c44_15
noncomputable def c44_17 : Code := cdL c44_16
noncomputable def c44_18 : Code := cdR c44_16
noncomputable def c44_19 : Code := cdL c44_18
noncomputable def c44_20 : Code := cdR c44_18
noncomputable def c44_21 : Code := cdR c44_15
noncomputable def c44_22 : Code := cdL c44_21
noncomputable def c44_23 : Code := cdL c44_22
noncomputable def c44_24 : Code := cdL c44_23
noncomputable def c44_25 : Code := cdR c44_23
noncomputable def c44_26 : Code := cdL c44_25
noncomputable def c44_27 : Code := cdR c44_25
noncomputable def c44_28 : Code := cdR c44_21
noncomputable def c44_29 : Code := cdR c44_10
noncomputable def r44_2 : Array Oper := cdO c44_2
noncomputable def r44_7 : Array Oper := cdO c44_7
noncomputable def r44_9 : Array Oper := cdO c44_9
noncomputable def r44_12 : Array Oper := cdO c44_12
noncomputable def r44_17 : Array Oper := cdO c44_17
noncomputable def r44_24 : Array Oper := cdO c44_24
noncomputable def r44_26 : Array Oper := cdO c44_26
noncomputable def r44_28 : Array Oper := cdO c44_28
noncomputable def r44_29 : Array Oper := cdO c44_29
theorem c44_0e : c44_0 = .seq c44_1 c44_6 := by kernel_rfl
theorem c44_1e : c44_1 = .seq c44_2 c44_3 := by kernel_rfl
theorem c44_2e : c44_2 = .region 0 r44_2 false := by kernel_rfl
theorem c44_3e : c44_3 = .cond (cdC c44_3) c44_4 c44_5 := by kernel_rfl
theorem c44_4e : c44_4 = .ret := by kernel_rfl
theorem c44_5e : c44_5 = .skip := by kernel_rfl
theorem c44_6e : c44_6 = .seq c44_7 c44_8 := by kernel_rfl
theorem c44_7e : c44_7 = .region 1 r44_7 false := by kernel_rfl
theorem c44_8e : c44_8 = .seq c44_9 c44_10 := by kernel_rfl
theorem c44_9e : c44_9 = .region 2 r44_9 false := by kernel_rfl
theorem c44_10e : c44_10 = .seq c44_11 c44_29 := by kernel_rfl
theorem c44_11e : c44_11 = .seq c44_12 c44_13 := by kernel_rfl
theorem c44_12e : c44_12 = .region 3 r44_12 false := by kernel_rfl
theorem c44_13e : c44_13 = .block 0 c44_14 := by kernel_rfl
theorem c44_14e : c44_14 = .loop c44_15 := by kernel_rfl
theorem c44_15e : c44_15 = .seq c44_16 c44_21 := by kernel_rfl
theorem c44_16e : c44_16 = .seq c44_17 c44_18 := by kernel_rfl
theorem c44_17e : c44_17 = .region 4 r44_17 false := by kernel_rfl
theorem c44_18e : c44_18 = .cond (cdC c44_18) c44_19 c44_20 := by kernel_rfl
theorem c44_19e : c44_19 = .skip := by kernel_rfl
theorem c44_20e : c44_20 = .exit 0 := by kernel_rfl
theorem c44_21e : c44_21 = .seq c44_22 c44_28 := by kernel_rfl
theorem c44_22e : c44_22 = .block 1 c44_23 := by kernel_rfl
theorem c44_23e : c44_23 = .seq c44_24 c44_25 := by kernel_rfl
theorem c44_24e : c44_24 = .region 6 r44_24 false := by kernel_rfl
theorem c44_25e : c44_25 = .cond (cdC c44_25) c44_26 c44_27 := by kernel_rfl
theorem c44_26e : c44_26 = .region 7 r44_26 false := by kernel_rfl
theorem c44_27e : c44_27 = .skip := by kernel_rfl
theorem c44_28e : c44_28 = .region 5 r44_28 false := by kernel_rfl
theorem c44_29e : c44_29 = .region 8 r44_29 false := by kernel_rfl
noncomputable def tontineref15_Table_Clock.R (b_2 : Nat) (A_3 : Option Addr) (c_4 : Nat) : Pst T_tontineref15_Table where
  ε := Option Addr × Nat
  v := fun r x => .tuple ⟨[]⟩
  H := fun r x => [⟨1, b_2, [.int .u64 r.Now, .int .u64 r.Next, .slice x.1 r.Rows.length x.2]⟩]
  B := fun r x => [Ow 2 kT_tontineref15_Row x.1 x.2 r.Rows]
noncomputable def tontineref15_Table_Clock.cx (b_2 : Nat) (A_3 : Option Addr) (c_4 : Nat) (w0 : World) (S0 : Fam) : Cx T_tontineref15_Table := ⟨Try.prog, 44, Try.f44, 62, w0, S0, [1, 2], 2, tontineref15_Table_Clock.R b_2 A_3 c_4⟩
theorem tontineref15_Table_Clock_j0_ok (n : Nat) (L0 : (List T_tontineref15_Row) → Int → Option T_tontineref15_Table) (t_1 : T_tontineref15_Table) (now_5 : Int) (l_7 : (List T_tontineref15_Row)) (i_10 : Int) (b_2 : Nat) (A_3 : Option Addr) (c_4 : Nat) (A_8 : Option Addr) (c_9 : Nat) (w0 : World) (S0 : Fam) (ih0 : ∀ (l_7 : (List T_tontineref15_Row)) (i_10 : Int) (A_8 : Option Addr) (c_9 : Nat), GoO (tontineref15_Table_Clock.cx b_2 A_3 c_4 w0 S0) [(0, .pointer (some ⟨b_2, 0, none⟩)), (1, .int .u64 now_5), (4, .slice A_8 l_7.length c_9), (5, .int .i64 i_10)] [⟨1, b_2, [.int .u64 now_5, .int .u64 t_1.Next, .slice A_3 t_1.Rows.length c_4]⟩] [Ow 2 kT_tontineref15_Row A_3 c_4 t_1.Rows, Ow 41 kT_tontineref15_Row A_8 c_9 l_7] [.code c44_15, .inLoop c44_15, .inBlock 0, .code c44_29] (L0 l_7 i_10)) (b_15 : Bool) :
    GoO (tontineref15_Table_Clock.cx b_2 A_3 c_4 w0 S0) [(0, .pointer (some ⟨b_2, 0, none⟩)), (1, .int .u64 now_5), (4, .slice A_8 l_7.length c_9), (5, .int .i64 i_10), (47, .bool b_15)] [⟨1, b_2, [.int .u64 now_5, .int .u64 t_1.Next, .slice A_3 t_1.Rows.length c_4]⟩] [Ow 2 kT_tontineref15_Row A_3 c_4 t_1.Rows, Ow 41 kT_tontineref15_Row A_8 c_9 l_7] [.code c44_25, .inBlock 1, .code c44_28, .inLoop c44_15, .inBlock 0, .code c44_29] (tontineref15_Table_Clock.j0 n L0 t_1 l_7 i_10 b_15) := by
  unfold tontineref15_Table_Clock.j0
  refine GoO.ite' c44_25e (by kernel_rfl) (fun h16 => ?_) (fun h16 => ?_)
  · refine GoO.region' (is := [0, 1, 2, 3, 4, 5, 6, 7, 8, 9, 10]) c44_26e (by kernel_rfl) ?_
    refine GoO.exec (is := [0, 1, 2, 3, 4, 5]) (hs := [.p, .p, .p, .p, .b 0, .p]) (rest := [6, 7, 8, 9, 10]) (ks := [0, 1, 5, 48, 52, 53]) (env' := [(0, .pointer (some ⟨b_2, 0, none⟩)), (1, .int .u64 now_5), (5, .int .i64 i_10), (48, .slice A_8 l_7.length c_9), (52, .slice A_3 t_1.Rows.length c_4), (53, .int .i64 i_10)]) (H' := [⟨1, b_2, [.int .u64 now_5, .int .u64 t_1.Next, .slice A_3 t_1.Rows.length c_4]⟩]) (ps := [b_2 = b_2]) (by kernel_rfl) (And.intro rfl trivial) ?_
    refine GoO.guard (fun h17 => ?_)
    refine OpTo.go (GoO.idx (kk := .i64) (e := 100) (K := kT_tontineref15_Row) (A := A_3) (c := c_4) (xs := t_1.Rows) (iv := i_10) (j := 0) rfl (by kernel_rfl) (by kernel_rfl) (by kernel_rfl) (by kernel_rfl) rfl Reads.own rfl h17.1 h17.2 (by decide) rfl ?_)
    refine OpTo.go (GoO.ldE' (K := kT_tontineref15_Row) (A := A_3) (c := c_4) (xs := t_1.Rows) (iN := i_10.toNat) (off := 0) (j := 0) rfl (by kernel_rfl) rfl Reads.own (by first | exact idx_lt h17.1 h17.2 | (simp only [List.length_set]; exact idx_lt h17.1 h17.2)) (by decide) (Opn.flat _ _ _ _ _) (v := fun _ => .agg ⟨[.int .u64 ((rdL t_1.Rows i_10).Id), .int .u64 ((rdL t_1.Rows i_10).Used), .int .u64 ((rdL t_1.Rows i_10).Seq), .int .i64 ((rdL t_1.Rows i_10).Reply.Err), .int .u64 ((rdL t_1.Rows i_10).Reply.Num), .int .u64 ((rdL t_1.Rows i_10).Reply.Extra)]⟩) (fun _ => by kernel_rfl) _ (fun _ => rfl) (fun _ => ?_))
    refine OpTo.go (GoO.lit (e := 100) (K := kT_tontineref15_Row) rfl (by kernel_rfl) (by kernel_rfl) (cs := [.int .u64 ((rdL t_1.Rows i_10).Id), .int .u64 ((rdL t_1.Rows i_10).Used), .int .u64 ((rdL t_1.Rows i_10).Seq), .int .i64 ((rdL t_1.Rows i_10).Reply.Err), .int .u64 ((rdL t_1.Rows i_10).Reply.Num), .int .u64 ((rdL t_1.Rows i_10).Reply.Extra)]) (by kernel_rfl) [(⟨(rdL t_1.Rows i_10).Id, (rdL t_1.Rows i_10).Used, (rdL t_1.Rows i_10).Seq, (⟨(rdL t_1.Rows i_10).Reply.Err, (rdL t_1.Rows i_10).Reply.Num, (rdL t_1.Rows i_10).Reply.Extra⟩ : T_api_Reply)⟩ : T_tontineref15_Row)] (by kernel_rfl) (by kernel_rfl) (fun w S hB => ⟨[.int .u64 ((rdL t_1.Rows i_10).Id), .int .u64 ((rdL t_1.Rows i_10).Used), .int .u64 ((rdL t_1.Rows i_10).Seq), .int .i64 ((rdL t_1.Rows i_10).Reply.Err), .int .u64 ((rdL t_1.Rows i_10).Reply.Num), .int .u64 ((rdL t_1.Rows i_10).Reply.Extra)], _, rfl, rfl, rfl⟩) 40 _ (fun _ _ => rfl) (fun A_18 c_19 => ?_))
    refine GoO.guard (fun h20 => ?_)
    refine OpTo.go (GoO.appW (e := 100) (K := kT_tontineref15_Row) (A := A_8) (c := c_9) (tg := 41) (bytes := 48) (zs := [.int .u64 0, .int .u64 0, .int .u64 0, .int .i64 0, .int .u64 0, .int .u64 0]) (xs := l_7) (ys := [(⟨(rdL t_1.Rows i_10).Id, (rdL t_1.Rows i_10).Used, (rdL t_1.Rows i_10).Seq, (⟨(rdL t_1.Rows i_10).Reply.Err, (rdL t_1.Rows i_10).Reply.Num, (rdL t_1.Rows i_10).Reply.Extra⟩ : T_api_Reply)⟩ : T_tontineref15_Row)]) (xv := .slice A_18 [(⟨(rdL t_1.Rows i_10).Id, (rdL t_1.Rows i_10).Used, (rdL t_1.Rows i_10).Seq, (⟨(rdL t_1.Rows i_10).Reply.Err, (rdL t_1.Rows i_10).Reply.Num, (rdL t_1.Rows i_10).Reply.Extra⟩ : T_api_Reply)⟩ : T_tontineref15_Row)].length c_19) (j := 2) (bk := [0, 1]) rfl (by kernel_rfl) (by kernel_rfl) (by kernel_rfl) (by kernel_rfl) rfl (by kernel_rfl) rfl (fun w S hB => SrcIs.row (Reads.own w S (hB _ (List.mem_of_getElem? (i := 0) rfl)))) h20 rfl rfl rfl rfl _ (fun _ _ => rfl) (fun A_21 c_22 => ?_))
    refine GoO.exec (is := [10]) (hs := [.p]) (rest := []) (ks := [0, 1, 4, 5]) (env' := [(0, .pointer (some ⟨b_2, 0, none⟩)), (1, .int .u64 now_5), (4, .slice A_21 (l_7 ++ [(⟨(rdL t_1.Rows i_10).Id, (rdL t_1.Rows i_10).Used, (rdL t_1.Rows i_10).Seq, (⟨(rdL t_1.Rows i_10).Reply.Err, (rdL t_1.Rows i_10).Reply.Num, (rdL t_1.Rows i_10).Reply.Extra⟩ : T_api_Reply)⟩ : T_tontineref15_Row)]).length c_22), (5, .int .i64 i_10)]) (H' := [⟨1, b_2, [.int .u64 now_5, .int .u64 t_1.Next, .slice A_3 t_1.Rows.length c_4]⟩]) (ps := []) (by kernel_rfl) trivial ?_
    refine GoO.regionEnd ?_
    refine GoO.inBlock ?_
    refine GoO.region' (is := [0, 1, 2]) c44_28e (by kernel_rfl) ?_
    refine GoO.exec (is := [0, 1, 2]) (hs := [.p, .p, .p]) (rest := []) (ks := [0, 1, 4, 5]) (env' := [(0, .pointer (some ⟨b_2, 0, none⟩)), (1, .int .u64 now_5), (4, .slice A_21 (l_7 ++ [(⟨(rdL t_1.Rows i_10).Id, (rdL t_1.Rows i_10).Used, (rdL t_1.Rows i_10).Seq, (⟨(rdL t_1.Rows i_10).Reply.Err, (rdL t_1.Rows i_10).Reply.Num, (rdL t_1.Rows i_10).Reply.Extra⟩ : T_api_Reply)⟩ : T_tontineref15_Row)]).length c_22), (5, .int .i64 (wi64 (i_10 + 1)))]) (H' := [⟨1, b_2, [.int .u64 now_5, .int .u64 t_1.Next, .slice A_3 t_1.Rows.length c_4]⟩]) (ps := []) (by kernel_rfl) trivial ?_
    refine GoO.regionEnd ?_
    refine GoO.inLoop ?_
    exact GoO.sub (ks := [0, 1, 4, 5]) (hk := [0]) (bk := [2, 0]) (by kernel_rfl) (by kernel_rfl) (by kernel_rfl) (ih0 (l_7 ++ [(⟨(rdL t_1.Rows i_10).Id, (rdL t_1.Rows i_10).Used, (rdL t_1.Rows i_10).Seq, (⟨(rdL t_1.Rows i_10).Reply.Err, (rdL t_1.Rows i_10).Reply.Num, (rdL t_1.Rows i_10).Reply.Extra⟩ : T_api_Reply)⟩ : T_tontineref15_Row)]) (wi64 (i_10 + 1)) A_21 c_22)
  · refine GoO.skip' c44_27e ?_
    refine GoO.inBlock ?_
    refine GoO.region' (is := [0, 1, 2]) c44_28e (by kernel_rfl) ?_
    refine GoO.exec (is := [0, 1, 2]) (hs := [.p, .p, .p]) (rest := []) (ks := [0, 1, 4, 5]) (env' := [(0, .pointer (some ⟨b_2, 0, none⟩)), (1, .int .u64 now_5), (4, .slice A_8 l_7.length c_9), (5, .int .i64 (wi64 (i_10 + 1)))]) (H' := [⟨1, b_2, [.int .u64 now_5, .int .u64 t_1.Next, .slice A_3 t_1.Rows.length c_4]⟩]) (ps := []) (by kernel_rfl) trivial ?_
    refine GoO.regionEnd ?_
    refine GoO.inLoop ?_
    exact GoO.sub (ks := [0, 1, 4, 5]) (hk := [0]) (bk := [0, 1]) (by kernel_rfl) (by kernel_rfl) (by kernel_rfl) (ih0 l_7 (wi64 (i_10 + 1)) A_8 c_9)
theorem tontineref15_Table_Clock_l0_ok (n : Nat) (t_1 : T_tontineref15_Table) (now_5 : Int) (b_2 : Nat) (A_3 : Option Addr) (c_4 : Nat) (w0 : World) (S0 : Fam) :
    ∀ (k : Nat) (l_7 : (List T_tontineref15_Row)) (i_10 : Int) (A_8 : Option Addr) (c_9 : Nat), GoO (tontineref15_Table_Clock.cx b_2 A_3 c_4 w0 S0) [(0, .pointer (some ⟨b_2, 0, none⟩)), (1, .int .u64 now_5), (4, .slice A_8 l_7.length c_9), (5, .int .i64 i_10)] [⟨1, b_2, [.int .u64 now_5, .int .u64 t_1.Next, .slice A_3 t_1.Rows.length c_4]⟩] [Ow 2 kT_tontineref15_Row A_3 c_4 t_1.Rows, Ow 41 kT_tontineref15_Row A_8 c_9 l_7] [.code c44_15, .inLoop c44_15, .inBlock 0, .code c44_29] (tontineref15_Table_Clock.l0 n t_1 now_5 k l_7 i_10) := by
  intro k
  induction k with
  | zero => intros; rw [tontineref15_Table_Clock.l0.eq_1]; exact GoO.stop
  | succ k ih0 =>
    intro l_7 i_10 A_8 c_9
    rw [tontineref15_Table_Clock.l0.eq_2]
    refine GoO.seq' c44_15e ?_
    refine GoO.seq' c44_16e ?_
    refine GoO.region' (is := [0, 1, 2, 3, 4, 5, 6]) c44_17e (by kernel_rfl) ?_
    refine GoO.exec (is := [0, 1, 2, 3, 4, 5, 6]) (hs := [.p, .p, .p, .p, .b 0, .p, .p]) (rest := []) (ks := [0, 1, 4, 5, 22]) (env' := [(0, .pointer (some ⟨b_2, 0, none⟩)), (1, .int .u64 now_5), (4, .slice A_8 l_7.length c_9), (5, .int .i64 i_10), (22, .bool (decide (i_10 < (t_1.Rows.length : Int))))]) (H' := [⟨1, b_2, [.int .u64 now_5, .int .u64 t_1.Next, .slice A_3 t_1.Rows.length c_4]⟩]) (ps := [b_2 = b_2]) (by kernel_rfl) (And.intro rfl trivial) ?_
    refine GoO.regionEnd ?_
    refine GoO.ite' c44_18e (by kernel_rfl) (fun h11 => ?_) (fun h11 => ?_)
    · refine GoO.skip' c44_19e ?_
      refine GoO.seq' c44_21e ?_
      refine GoO.block' c44_22e ?_
      refine GoO.seq' c44_23e ?_
      refine GoO.region' (is := [0, 1, 2, 3, 4, 5, 6, 7, 8, 9, 10, 11, 12, 13, 14, 15, 16, 17, 18, 19, 20, 21, 22]) c44_24e (by kernel_rfl) ?_
      refine GoO.exec (is := [0, 1, 2, 3, 4]) (hs := [.p, .p, .p, .b 0, .p]) (rest := [5, 6, 7, 8, 9, 10, 11, 12, 13, 14, 15, 16, 17, 18, 19, 20, 21, 22]) (ks := [0, 1, 4, 5, 28, 29]) (env' := [(0, .pointer (some ⟨b_2, 0, none⟩)), (1, .int .u64 now_5), (4, .slice A_8 l_7.length c_9), (5, .int .i64 i_10), (28, .slice A_3 t_1.Rows.length c_4), (29, .int .i64 i_10)]) (H' := [⟨1, b_2, [.int .u64 now_5, .int .u64 t_1.Next, .slice A_3 t_1.Rows.length c_4]⟩]) (ps := [b_2 = b_2]) (by kernel_rfl) (And.intro rfl trivial) ?_
      refine GoO.guard (fun h12 => ?_)
      refine OpTo.go (GoO.idx (kk := .i64) (e := 100) (K := kT_tontineref15_Row) (A := A_3) (c := c_4) (xs := t_1.Rows) (iv := i_10) (j := 0) rfl (by kernel_rfl) (by kernel_rfl) (by kernel_rfl) (by kernel_rfl) rfl Reads.own rfl h12.1 h12.2 (by decide) rfl ?_)
      refine OpTo.go (GoO.fldE (K := kT_tontineref15_Row) (A := A_3) (c := c_4) (xs := t_1.Rows) (iN := i_10.toNat) (off := 0) (n := 1) (j := 0) rfl (by kernel_rfl) (by kernel_rfl) rfl Reads.own (by first | exact idx_lt h12.1 h12.2 | (simp only [List.length_set]; exact idx_lt h12.1 h12.2)) (by decide) rfl ?_)
      refine OpTo.go (GoO.ldE' (K := kT_tontineref15_Row) (A := A_3) (c := c_4) (xs := t_1.Rows) (iN := i_10.toNat) (off := 1) (j := 0) rfl (by kernel_rfl) rfl Reads.own (by first | exact idx_lt h12.1 h12.2 | (simp only [List.length_set]; exact idx_lt h12.1 h12.2)) (by decide) (Opn.flat _ _ _ _ _) (v := fun _ => .int .u64 ((rdL t_1.Rows i_10).Used)) (fun _ => by kernel_rfl) _ (fun _ => rfl) (fun _ => ?_))
      refine GoO.exec (is := [8, 9, 10, 11]) (hs := [.p, .p, .p, .p]) (rest := [12, 13, 14, 15, 16, 17, 18, 19, 20, 21, 22]) (ks := [0, 1, 4, 5, 36]) (env' := [(0, .pointer (some ⟨b_2, 0, none⟩)), (1, .int .u64 now_5), (4, .slice A_8 l_7.length c_9), (5, .int .i64 i_10), (36, .bool (decide ((wu64 (((rdL t_1.Rows i_10).Used) + 1000)) ≥ now_5)))]) (H' := [⟨1, b_2, [.int .u64 now_5, .int .u64 t_1.Next, .slice A_3 t_1.Rows.length c_4]⟩]) (ps := []) (by kernel_rfl) trivial ?_
      refine GoO.bsplit (t := 36) (by kernel_rfl) (fun h13 => ?_) (fun h13 => ?_)
      · refine GoO.exec (is := [12, 13, 14, 15, 16, 17, 18, 19, 20, 21, 22]) (hs := [.p, .p, .p, .p, .p, .p, .p, .p, .p, .p, .p]) (rest := []) (ks := [0, 1, 4, 5, 47]) (env' := [(0, .pointer (some ⟨b_2, 0, none⟩)), (1, .int .u64 now_5), (4, .slice A_8 l_7.length c_9), (5, .int .i64 i_10), (47, .bool true)]) (H' := [⟨1, b_2, [.int .u64 now_5, .int .u64 t_1.Next, .slice A_3 t_1.Rows.length c_4]⟩]) (ps := []) (by kernel_rfl) trivial ?_
        refine GoO.regionEnd ?_
        exact GoO.sub (ks := [0, 1, 4, 5, 47]) (hk := [0]) (bk := [0, 1]) (by kernel_rfl) (by kernel_rfl) (by kernel_rfl) (tontineref15_Table_Clock_j0_ok n (tontineref15_Table_Clock.l0 n t_1 now_5 k) t_1 now_5 l_7 i_10 b_2 A_3 c_4 A_8 c_9 w0 S0 ih0 true)
      · refine GoO.exec (is := [12, 13, 14, 15, 16]) (hs := [.p, .p, .p, .b 0, .p]) (rest := [17, 18, 19, 20, 21, 22]) (ks := [0, 1, 4, 5, 36, 40, 41]) (env' := [(0, .pointer (some ⟨b_2, 0, none⟩)), (1, .int .u64 now_5), (4, .slice A_8 l_7.length c_9), (5, .int .i64 i_10), (36, .bool false), (40, .slice A_3 t_1.Rows.length c_4), (41, .int .i64 i_10)]) (H' := [⟨1, b_2, [.int .u64 now_5, .int .u64 t_1.Next, .slice A_3 t_1.Rows.length c_4]⟩]) (ps := [b_2 = b_2]) (by kernel_rfl) (And.intro rfl trivial) ?_
        refine GoO.guard (fun h14 => ?_)
        refine OpTo.go (GoO.idx (kk := .i64) (e := 100) (K := kT_tontineref15_Row) (A := A_3) (c := c_4) (xs := t_1.Rows) (iv := i_10) (j := 0) rfl (by kernel_rfl) (by kernel_rfl) (by kernel_rfl) (by kernel_rfl) rfl Reads.own rfl h14.1 h14.2 (by decide) rfl ?_)
        refine OpTo.go (GoO.fldE (K := kT_tontineref15_Row) (A := A_3) (c := c_4) (xs := t_1.Rows) (iN := i_10.toNat) (off := 0) (n := 1) (j := 0) rfl (by kernel_rfl) (by kernel_rfl) rfl Reads.own (by first | exact idx_lt h14.1 h14.2 | (simp only [List.length_set]; exact idx_lt h14.1 h14.2)) (by decide) rfl ?_)
        refine OpTo.go (GoO.ldE' (K := kT_tontineref15_Row) (A := A_3) (c := c_4) (xs := t_1.Rows) (iN := i_10.toNat) (off := 1) (j := 0) rfl (by kernel_rfl) rfl Reads.own (by first | exact idx_lt h14.1 h14.2 | (simp only [List.length_set]; exact idx_lt h14.1 h14.2)) (by decide) (Opn.flat _ _ _ _ _) (v := fun _ => .int .u64 ((rdL t_1.Rows i_10).Used)) (fun _ => by kernel_rfl) _ (fun _ => rfl) (fun _ => ?_))
        refine GoO.exec (is := [20, 21, 22]) (hs := [.p, .p, .p]) (rest := []) (ks := [0, 1, 4, 5, 47]) (env' := [(0, .pointer (some ⟨b_2, 0, none⟩)), (1, .int .u64 now_5), (4, .slice A_8 l_7.length c_9), (5, .int .i64 i_10), (47, .bool (decide ((wu64 (((rdL t_1.Rows i_10).Used) + 1000)) < 1000)))]) (H' := [⟨1, b_2, [.int .u64 now_5, .int .u64 t_1.Next, .slice A_3 t_1.Rows.length c_4]⟩]) (ps := []) (by kernel_rfl) trivial ?_
        refine GoO.regionEnd ?_
        exact GoO.sub (ks := [0, 1, 4, 5, 47]) (hk := [0]) (bk := [0, 1]) (by kernel_rfl) (by kernel_rfl) (by kernel_rfl) (tontineref15_Table_Clock_j0_ok n (tontineref15_Table_Clock.l0 n t_1 now_5 k) t_1 now_5 l_7 i_10 b_2 A_3 c_4 A_8 c_9 w0 S0 ih0 (decide ((wu64 (((rdL t_1.Rows i_10).Used) + 1000)) < 1000)))
    · refine GoO.exit' c44_20e rfl ?_
      refine GoO.region' (is := [0, 1, 2, 3, 4]) c44_29e (by kernel_rfl) ?_
      refine GoO.exec (is := [0, 1, 2, 3, 4]) (hs := [.p, .p, .p, .p, .b 0]) (rest := []) (ks := []) (env' := []) (H' := [⟨1, b_2, [.int .u64 now_5, .int .u64 t_1.Next, .slice A_8 l_7.length c_9]⟩]) (ps := [b_2 = b_2]) (by kernel_rfl) (And.intro rfl trivial) ?_
      refine GoO.regionEnd ?_
      refine GoO.sub (ks := []) (env' := []) (hk := [0]) (bk := [1]) (by kernel_rfl) rfl rfl ?_
      refine GoO.retag (t := 41) (u := 2) (j := 0) (hk := [0]) (bk := []) rfl rfl rfl rfl rfl rfl (by kernel_rfl) (by kernel_rfl) ?_
      exact GoO.fin (hs := []) (ps := []) (hk := [0]) (bk := [0]) Try.func44 (⟨A_8, c_9⟩ : Option Addr × Nat) (by kernel_rfl) trivial (by kernel_rfl) (by kernel_rfl)
theorem tontineref15_Table_Clock_ok (n : Nat) (t_1 : T_tontineref15_Table) (now_5 : Int) (b_2 : Nat) (A_3 : Option Addr) (c_4 : Nat) :
    Meets Try.prog 44 [.pointer (some ⟨b_2, 0, none⟩), .int .u64 now_5] 2 [1, 2] [⟨1, b_2, [.int .u64 t_1.Now, .int .u64 t_1.Next, .slice A_3 t_1.Rows.length c_4]⟩] [Ow 2 kT_tontineref15_Row A_3 c_4 t_1.Rows] (tontineref15_Table_Clock.f n t_1 now_5) (tontineref15_Table_Clock.R b_2 A_3 c_4) := by
  refine Meets.of (c := c44_0) (n := 62) Try.func44 (by kernel_rfl) (by kernel_rfl) (by kernel_rfl) fun w0 S0 => ?_
  unfold tontineref15_Table_Clock.f
  show GoO (tontineref15_Table_Clock.cx b_2 A_3 c_4 w0 S0) [(0, .pointer (some ⟨b_2, 0, none⟩)), (1, .int .u64 now_5)] [⟨1, b_2, [.int .u64 t_1.Now, .int .u64 t_1.Next, .slice A_3 t_1.Rows.length c_4]⟩] [Ow 2 kT_tontineref15_Row A_3 c_4 t_1.Rows] [.code c44_0] _
  refine GoO.seq' c44_0e ?_
  refine GoO.seq' c44_1e ?_
  refine GoO.region' (is := [0, 1, 2, 3, 4, 5]) c44_2e (by kernel_rfl) ?_
  refine GoO.exec (is := [0, 1, 2, 3, 4, 5]) (hs := [.p, .p, .p, .p, .b 0, .p]) (rest := []) (ks := [0, 1, 11]) (env' := [(0, .pointer (some ⟨b_2, 0, none⟩)), (1, .int .u64 now_5), (11, .bool (decide (now_5 ≤ t_1.Now)))]) (H' := [⟨1, b_2, [.int .u64 t_1.Now, .int .u64 t_1.Next, .slice A_3 t_1.Rows.length c_4]⟩]) (ps := [b_2 = b_2]) (by kernel_rfl) (And.intro rfl trivial) ?_
  refine GoO.regionEnd ?_
  refine GoO.ite' c44_3e (by kernel_rfl) (fun h6 => ?_) (fun h6 => ?_)
  · exact GoO.ret' (h := c44_4e) (hs := []) (ps := []) (hk := [0]) (bk := [0]) Try.func44 (⟨A_3, c_4⟩ : Option Addr × Nat) (by kernel_rfl) trivial (by kernel_rfl) (by kernel_rfl)
  · refine GoO.skip' c44_5e ?_
    refine GoO.seq' c44_6e ?_
    refine GoO.region' (is := [0, 1, 2, 3, 4]) c44_7e (by kernel_rfl) ?_
    refine GoO.exec (is := [0, 1, 2, 3, 4]) (hs := [.p, .p, .p, .p, .b 0]) (rest := []) (ks := [0, 1]) (env' := [(0, .pointer (some ⟨b_2, 0, none⟩)), (1, .int .u64 now_5)]) (H' := [⟨1, b_2, [.int .u64 now_5, .int .u64 t_1.Next, .slice A_3 t_1.Rows.length c_4]⟩]) (ps := [b_2 = b_2]) (by kernel_rfl) (And.intro rfl trivial) ?_
    refine GoO.regionEnd ?_
    refine GoO.seq' c44_8e ?_
    refine GoO.region' (is := [0]) c44_9e (by kernel_rfl) ?_
    refine GoO.exec (is := [0]) (hs := [.p]) (rest := []) (ks := [0, 1, 4]) (env' := [(0, .pointer (some ⟨b_2, 0, none⟩)), (1, .int .u64 now_5), (4, .slice none ([] : List T_tontineref15_Row).length 0)]) (H' := [⟨1, b_2, [.int .u64 now_5, .int .u64 t_1.Next, .slice A_3 t_1.Rows.length c_4]⟩]) (ps := []) (by kernel_rfl) trivial ?_
    refine GoO.regionEnd ?_
    refine GoO.seq' c44_10e ?_
    refine GoO.seq' c44_11e ?_
    refine GoO.region' (is := [0]) c44_12e (by kernel_rfl) ?_
    refine GoO.exec (is := [0]) (hs := [.p]) (rest := []) (ks := [0, 1, 4, 5]) (env' := [(0, .pointer (some ⟨b_2, 0, none⟩)), (1, .int .u64 now_5), (4, .slice none ([] : List T_tontineref15_Row).length 0), (5, .int .i64 0)]) (H' := [⟨1, b_2, [.int .u64 now_5, .int .u64 t_1.Next, .slice A_3 t_1.Rows.length c_4]⟩]) (ps := []) (by kernel_rfl) trivial ?_
    refine GoO.regionEnd ?_
    refine GoO.block' c44_13e ?_
    refine GoO.loop' c44_14e ?_
    refine GoO.nilOwn kT_tontineref15_Row 41 ?_
    exact GoO.sub (ks := [0, 1, 4, 5]) (hk := [0]) (bk := [1, 0]) (by kernel_rfl) (by kernel_rfl) (by kernel_rfl) (tontineref15_Table_Clock_l0_ok n t_1 now_5 b_2 A_3 c_4 w0 S0 n ([] : List T_tontineref15_Row) 0 none 0)

/-! (*tontine/tontineref15.Table).Register -/
noncomputable def c45_0 : Code := bodyOf Try.f45
noncomputable def c45_1 : Code := cdL c45_0
noncomputable def c45_2 : Code := cdR c45_0
noncomputable def c45_3 : Code := cdL c45_2
noncomputable def c45_4 : Code := cdL c45_3
noncomputable def c45_5 : Code := cdR c45_3
noncomputable def c45_6 : Code := cdL c45_5
noncomputable def c45_7 : Code := cdL c45_6
noncomputable def c45_8 : Code := cdR c45_6
noncomputable def c45_9 : Code := cdR c45_5
noncomputable def c45_10 : Code := cdR c45_2
noncomputable def c45_11 : Code := cdL c45_10
noncomputable def c45_12 : Code := cdR c45_10
noncomputable def c45_13 : Code := cdL c45_12
noncomputable def c45_14 : Code := cdR c45_12
noncomputable def c45_15 : Code := cdL c45_14
noncomputable def c45_16 : Code := cdR c45_14
noncomputable def r45_1 : Array Oper := cdO c45_1
noncomputable def r45_4 : Array Oper := cdO c45_4
noncomputable def r45_7 : Array Oper := cdO c45_7
noncomputable def r45_11 : Array Oper := cdO c45_11
noncomputable def r45_13 : Array Oper := cdO c45_13
noncomputable def r45_15 : Array Oper := cdO c45_15
theorem c45_0e : c45_0 = .seq c45_1 c45_2 := by kernel_rfl
theorem c45_1e : c45_1 = .region 0 r45_1 false := by kernel_rfl
theorem c45_2e : c45_2 = .seq c45_3 c45_10 := by kernel_rfl
theorem c45_3e : c45_3 = .seq c45_4 c45_5 := by kernel_rfl
theorem c45_4e : c45_4 = .region 1 r45_4 false := by kernel_rfl
theorem c45_5e : c45_5 = .cond (cdC c45_5) c45_6 c45_9 := by kernel_rfl
theorem c45_6e : c45_6 = .seq c45_7 c45_8 := by kernel_rfl
theorem c45_7e : c45_7 = .region 2 r45_7 false := by kernel_rfl
theorem c45_8e : c45_8 = .ret := by kernel_rfl
theorem c45_9e : c45_9 = .skip := by kernel_rfl
theorem c45_10e : c45_10 = .seq c45_11 c45_12 := by kernel_rfl
theorem c45_11e : c45_11 = .region 3 r45_11 true := by kernel_rfl
theorem c45_12e : c45_12 = .seq c45_13 c45_14 := by kernel_rfl
theorem c45_13e : c45_13 = .region 4 r45_13 false := by kernel_rfl
theorem c45_14e : c45_14 = .seq c45_15 c45_16 := by kernel_rfl
theorem c45_15e : c45_15 = .region 5 r45_15 false := by kernel_rfl
theorem c45_16e : c45_16 = .ret := by kernel_rfl
noncomputable def tontineref15_Table_Register.R (b_2 : Nat) (A_3 : Option Addr) (c_4 : Nat) : Pst (Int × Int × T_tontineref15_Table) where
  ε := Option Addr × Nat
  v := fun r x => .tuple ⟨[.int .u64 r.1, .int .i64 r.2.1]⟩
  H := fun r x => [⟨1, b_2, [.int .u64 r.2.2.Now, .int .u64 r.2.2.Next, .slice x.1 r.2.2.Rows.length x.2]⟩]
  B := fun r x => [Ow 2 kT_tontineref15_Row x.1 x.2 r.2.2.Rows]
noncomputable def tontineref15_Table_Register.cx (b_2 : Nat) (A_3 : Option Addr) (c_4 : Nat) (w0 : World) (S0 : Fam) : Cx (Int × Int × T_tontineref15_Table) := ⟨Try.prog, 45, Try.f45, 48, w0, S0, [1, 2], 2, tontineref15_Table_Register.R b_2 A_3 c_4⟩
theorem tontineref15_Table_Register_j0_ok (n : Nat) (t_1 : T_tontineref15_Table) (b_2 : Nat) (A_3 : Option Addr) (c_4 : Nat) (w0 : World) (S0 : Fam) (b_6 : Bool) :
    GoO (tontineref15_Table_Register.cx b_2 A_3 c_4 w0 S0) [(0, .pointer (some ⟨b_2, 0, none⟩)), (17, .bool b_6)] [⟨1, b_2, [.int .u64 t_1.Now, .int .u64 t_1.Next, .slice A_3 t_1.Rows.length c_4]⟩] [Ow 2 kT_tontineref15_Row A_3 c_4 t_1.Rows] [.code c45_5, .code c45_10] (tontineref15_Table_Register.j0 n t_1 b_6) := by
  unfold tontineref15_Table_Register.j0
  refine GoO.ite' c45_5e (by kernel_rfl) (fun h7 => ?_) (fun h7 => ?_)
  · refine GoO.seq' c45_6e ?_
    refine GoO.region' (is := [0, 1]) c45_7e (by kernel_rfl) ?_
    refine GoO.exec (is := [0, 1]) (hs := [.p, .p]) (rest := []) (ks := [2, 3]) (env' := [(2, .int .u64 0), (3, .int .i64 11)]) (H' := [⟨1, b_2, [.int .u64 t_1.Now, .int .u64 t_1.Next, .slice A_3 t_1.Rows.length c_4]⟩]) (ps := []) (by kernel_rfl) trivial ?_
    refine GoO.regionEnd ?_
    exact GoO.ret' (h := c45_8e) (hs := []) (ps := []) (hk := [0]) (bk := [0]) Try.func45 (⟨A_3, c_4⟩ : Option Addr × Nat) (by kernel_rfl) trivial (by kernel_rfl) (by kernel_rfl)
  · refine GoO.skip' c45_9e ?_
    refine GoO.seq' c45_10e ?_
    refine GoO.draw c45_11e (by kernel_rfl) [16, 17, 18] [⟨1, b_2, [.int .u64 t_1.Now, .int .u64 t_1.Next, .slice A_3 t_1.Rows.length c_4]⟩] [] (n := 19) (by kernel_rfl) ?_
    simp only [List.replicate]
    refine GoF.take [0, 1, 2, 3, 4, 5, 6, 7, 8, 9, 10, 11, 12, 13] [.p, .p, .p, .p, .b 0, .p, .p, .p, .b 0, .p, .p, .p, .b 0, .p] (ks := [0, 18, 22, 31]) (fu := 5) (li := [true, true, true, true, true, true, true, true, true, true, true, true, true, true, false, false, false, false, false]) (env' := [(0, .pointer (some ⟨b_2, 0, none⟩)), (18, .pointer (some ⟨b_2, 0, none⟩)), (22, .slice A_3 t_1.Rows.length c_4), (31, .agg ⟨[.int .u64 t_1.Next, .int .u64 t_1.Now, .int .u64 0, .int .i64 0, .int .u64 0, .int .u64 0]⟩)]) (ps := [b_2 = b_2, b_2 = b_2, b_2 = b_2]) (hk := [0]) (bk := []) (by kernel_rfl) (And.intro rfl (And.intro rfl (And.intro rfl trivial))) rfl rfl ?_
    refine OpTo.goF (i := 14) (by kernel_rfl) (hk := [0]) (bk := []) (GoO.lit (e := 100) (K := kT_tontineref15_Row) rfl (by kernel_rfl) (by kernel_rfl) (cs := [.int .u64 t_1.Next, .int .u64 t_1.Now, .int .u64 0, .int .i64 0, .int .u64 0, .int .u64 0]) (by kernel_rfl) [(⟨t_1.Next, t_1.Now, 0, (⟨0, 0, 0⟩ : T_api_Reply)⟩ : T_tontineref15_Row)] (by kernel_rfl) (by kernel_rfl) (fun w S hB => ⟨[.int .u64 t_1.Next, .int .u64 t_1.Now, .int .u64 0, .int .i64 0, .int .u64 0, .int .u64 0], _, rfl, rfl, rfl⟩) 40 _ (fun _ _ => rfl) (fun A_8 c_9 => ⟨rfl, rfl, ?_⟩))
    refine GoF.guard (fun h10 => ?_)
    refine OpTo.goF (i := 15) (by kernel_rfl) (hk := [0]) (bk := []) (GoO.appW (e := 100) (K := kT_tontineref15_Row) (A := A_3) (c := c_4) (tg := 2) (bytes := 48) (zs := [.int .u64 0, .int .u64 0, .int .u64 0, .int .i64 0, .int .u64 0, .int .u64 0]) (xs := t_1.Rows) (ys := [(⟨t_1.Next, t_1.Now, 0, (⟨0, 0, 0⟩ : T_api_Reply)⟩ : T_tontineref15_Row)]) (xv := .slice A_8 [(⟨t_1.Next, t_1.Now, 0, (⟨0, 0, 0⟩ : T_api_Reply)⟩ : T_tontineref15_Row)].length c_9) (j := 1) (bk := [0]) rfl (by kernel_rfl) (by kernel_rfl) (by kernel_rfl) (by kernel_rfl) rfl (by kernel_rfl) rfl (fun w S hB => SrcIs.row (Reads.own w S (hB _ (List.mem_of_getElem? (i := 0) rfl)))) h10 rfl rfl rfl rfl _ (fun _ _ => rfl) (fun A_11 c_12 => ⟨rfl, rfl, ?_⟩))
    refine GoF.fin1 (i := 16) (hint := .p) (ps := []) (hk := []) (bk := []) (by kernel_rfl) rfl trivial (.inl rfl) ?_
    refine GoF.fin1 (i := 17) (hint := .p) (ps := []) (hk := []) (bk := []) (by kernel_rfl) rfl trivial (.inl rfl) ?_
    refine GoF.fin1 (i := 18) (hint := .b 0) (ps := [b_2 = b_2]) (hk := []) (bk := []) (by kernel_rfl) rfl (And.intro rfl trivial) (.inl rfl) ?_
    refine GoF.done (by kernel_rfl) ?_
    refine GoO.seq' c45_12e ?_
    refine GoO.region' (is := [0, 1, 2, 3, 4, 5, 6, 7]) c45_13e (by kernel_rfl) ?_
    refine GoO.exec (is := [0, 1, 2, 3, 4, 5, 6, 7]) (hs := [.p, .p, .p, .b 0, .p, .p, .p, .b 0]) (rest := []) (ks := [0]) (env' := [(0, .pointer (some ⟨b_2, 0, none⟩))]) (H' := [⟨1, b_2, [.int .u64 t_1.Now, .int .u64 (wu64 (t_1.Next + 1)), .slice A_11 (t_1.Rows ++ [(⟨t_1.Next, t_1.Now, 0, (⟨0, 0, 0⟩ : T_api_Reply)⟩ : T_tontineref15_Row)]).length c_12]⟩]) (ps := [b_2 = b_2, b_2 = b_2]) (by kernel_rfl) (And.intro rfl (And.intro rfl trivial)) ?_
    refine GoO.regionEnd ?_
    refine GoO.seq' c45_14e ?_
    refine GoO.region' (is := [0, 1, 2, 3, 4, 5, 6]) c45_15e (by kernel_rfl) ?_
    refine GoO.exec (is := [0, 1, 2, 3, 4, 5, 6]) (hs := [.p, .p, .p, .b 0, .p, .p, .p]) (rest := []) (ks := [2, 3]) (env' := [(2, .int .u64 (wu64 ((wu64 (t_1.Next + 1)) - 1))), (3, .int .i64 0)]) (H' := [⟨1, b_2, [.int .u64 t_1.Now, .int .u64 (wu64 (t_1.Next + 1)), .slice A_11 (t_1.Rows ++ [(⟨t_1.Next, t_1.Now, 0, (⟨0, 0, 0⟩ : T_api_Reply)⟩ : T_tontineref15_Row)]).length c_12]⟩]) (ps := [b_2 = b_2]) (by kernel_rfl) (And.intro rfl trivial) ?_
    refine GoO.regionEnd ?_
    exact GoO.ret' (h := c45_16e) (hs := []) (ps := []) (hk := [0]) (bk := [0]) Try.func45 (⟨A_11, c_12⟩ : Option Addr × Nat) (by kernel_rfl) trivial (by kernel_rfl) (by kernel_rfl)
theorem tontineref15_Table_Register_ok (n : Nat) (t_1 : T_tontineref15_Table) (b_2 : Nat) (A_3 : Option Addr) (c_4 : Nat) :
    Meets Try.prog 45 [.pointer (some ⟨b_2, 0, none⟩)] 2 [1, 2] [⟨1, b_2, [.int .u64 t_1.Now, .int .u64 t_1.Next, .slice A_3 t_1.Rows.length c_4]⟩] [Ow 2 kT_tontineref15_Row A_3 c_4 t_1.Rows] (tontineref15_Table_Register.f n t_1) (tontineref15_Table_Register.R b_2 A_3 c_4) := by
  refine Meets.of (c := c45_0) (n := 48) Try.func45 (by kernel_rfl) (by kernel_rfl) (by kernel_rfl) fun w0 S0 => ?_
  unfold tontineref15_Table_Register.f
  show GoO (tontineref15_Table_Register.cx b_2 A_3 c_4 w0 S0) [(0, .pointer (some ⟨b_2, 0, none⟩))] [⟨1, b_2, [.int .u64 t_1.Now, .int .u64 t_1.Next, .slice A_3 t_1.Rows.length c_4]⟩] [Ow 2 kT_tontineref15_Row A_3 c_4 t_1.Rows] [.code c45_0] _
  refine GoO.seq' c45_0e ?_
  refine GoO.region' (is := [0, 1]) c45_1e (by kernel_rfl) ?_
  refine GoO.exec (is := [0, 1]) (hs := [.p, .p]) (rest := []) (ks := [0]) (env' := [(0, .pointer (some ⟨b_2, 0, none⟩))]) (H' := [⟨1, b_2, [.int .u64 t_1.Now, .int .u64 t_1.Next, .slice A_3 t_1.Rows.length c_4]⟩]) (ps := []) (by kernel_rfl) trivial ?_
  refine GoO.regionEnd ?_
  refine GoO.seq' c45_2e ?_
  refine GoO.seq' c45_3e ?_
  refine GoO.region' (is := [0, 1, 2, 3, 4, 5, 6, 7, 8, 9, 10, 11, 12, 13]) c45_4e (by kernel_rfl) ?_
  refine GoO.exec (is := [0, 1, 2, 3, 4, 5, 6]) (hs := [.p, .p, .p, .b 0, .p, .p, .p]) (rest := [7, 8, 9, 10, 11, 12, 13]) (ks := [0, 10]) (env' := [(0, .pointer (some ⟨b_2, 0, none⟩)), (10, .bool ((t_1.Rows.length : Int) == 16))]) (H' := [⟨1, b_2, [.int .u64 t_1.Now, .int .u64 t_1.Next, .slice A_3 t_1.Rows.length c_4]⟩]) (ps := [b_2 = b_2]) (by kernel_rfl) (And.intro rfl trivial) ?_
  refine GoO.bsplit (t := 10) (by kernel_rfl) (fun h5 => ?_) (fun h5 => ?_)
  · refine GoO.exec (is := [7, 8, 9, 10, 11, 12, 13]) (hs := [.p, .p, .p, .p, .p, .p, .p]) (rest := []) (ks := [0, 17]) (env' := [(0, .pointer (some ⟨b_2, 0, none⟩)), (17, .bool true)]) (H' := [⟨1, b_2, [.int .u64 t_1.Now, .int .u64 t_1.Next, .slice A_3 t_1.Rows.length c_4]⟩]) (ps := []) (by kernel_rfl) trivial ?_
    refine GoO.regionEnd ?_
    exact GoO.sub (ks := [0, 17]) (hk := [0]) (bk := [0]) (by kernel_rfl) (by kernel_rfl) (by kernel_rfl) (tontineref15_Table_Register_j0_ok n t_1 b_2 A_3 c_4 w0 S0 true)
  · refine GoO.exec (is := [7, 8, 9, 10, 11, 12, 13]) (hs := [.p, .p, .p, .b 0, .p, .p, .p]) (rest := []) (ks := [0, 17]) (env' := [(0, .pointer (some ⟨b_2, 0, none⟩)), (17, .bool ((wu64 (t_1.Next + 1)) == 0))]) (H' := [⟨1, b_2, [.int .u64 t_1.Now, .int .u64 t_1.Next, .slice A_3 t_1.Rows.length c_4]⟩]) (ps := [b_2 = b_2]) (by kernel_rfl) (And.intro rfl trivial) ?_
    refine GoO.regionEnd ?_
    exact GoO.sub (ks := [0, 17]) (hk := [0]) (bk := [0]) (by kernel_rfl) (by kernel_rfl) (by kernel_rfl) (tontineref15_Table_Register_j0_ok n t_1 b_2 A_3 c_4 w0 S0 ((wu64 (t_1.Next + 1)) == 0))

/-! (*tontine/tontineref15.Table).find -/
noncomputable def c58_0 : Code := bodyOf Try.f58
noncomputable def c58_1 : Code := cdL c58_0
noncomputable def c58_2 : Code := cdR c58_0
noncomputable def c58_3 : Code := cdL c58_2
noncomputable def c58_4 : Code := cdL c58_3
noncomputable def c58_5 : Code := cdR c58_3
noncomputable def c58_6 : Code := cdL c58_5
noncomputable def c58_7 : Code := cdL c58_6
noncomputable def c58_8 : Code := cdL c58_7
noncomputable def c58_9 : Code := cdL c58_8
noncomputable def c58_10 : Code := cdR c58_8
noncomputable def c58_11 : Code := cdL c58_10
noncomputable def c58_12 : Code := cdR c58_10
noncomputable def c58_13 : Code := cdR c58_7
noncomputable def c58_14 : Code := cdL c58_13
noncomputable def c58_15 : Code := cdL c58_14
noncomputable def c58_16 : Code := cdL c58_15
noncomputable def c58_17 : Code := cdR c58_15
noncomputable def c58_18 : Code := cdL c58_17
noncomputable def c58_19 : Code := cdL c58_18
noncomputable def c58_20 : Code := cdR c58_18
noncomputable def c58_21 : Code := cdR c58_17
noncomputable def c58_22 : Code := cdR c58_13
noncomputable def c58_23 : Code := cdR c58_2
noncomputable def c58_24 : Code := cdL c58_23
noncomputable def c58_25 : Code := cdR c58_23
noncomputable def r58_1 : Array Oper := cdO c58_1
noncomputable def r58_4 : Array Oper := cdO c58_4
noncomputable def r58_9 : Array Oper := cdO c58_9
noncomputable def r58_16 : Array Oper := cdO c58_16
noncomputable def r58_19 : Array Oper := cdO c58_19
noncomputable def r58_22 : Array Oper := cdO c58_22
noncomputable def r58_24 : Array Oper := cdO c58_24
theorem c58_0e : c58_0 = .seq c58_1 c58_2 := by kernel_rfl
theorem c58_1e : c58_1 = .region 0 r58_1 false := by kernel_rfl
theorem c58_2e : c58_2 = .seq c58_3 c58_23 := by kernel_rfl
theorem c58_3e : c58_3 = .seq c58_4 c58_5 := by kernel_rfl
theorem c58_4e : c58_4 = .region 1 r58_4 false := by kernel_rfl
theorem c58_5e : c58_5 = .block 0 c58_6 := by kernel_rfl
theorem c58_6e : c58_6 = .loop c58_7 := by kernel_rfl
theorem c58_7e : c58_7 = .seq c58_8 c58_13 := by kernel_rfl
theorem c58_8e : c58_8 = .seq c58_9 c58_10 := by kernel_rfl
theorem c58_9e : c58_9 = .region 2 r58_9 false := by kernel_rfl
theorem c58_10e : c58_10 = .cond (cdC c58_10) c58_11 c58_12 := by kernel_rfl
theorem c58_11e : c58_11 = .skip := by kernel_rfl
theorem c58_12e : c58_12 = .exit 0 := by kernel_rfl
theorem c58_13e : c58_13 = .seq c58_14 c58_22 := by kernel_rfl
theorem c58_14e : c58_14 = .block 1 c58_15 := by kernel_rfl
theorem c58_15e : c58_15 = .seq c58_16 c58_17 := by kernel_rfl
theorem c58_16e : c58_16 = .region 4 r58_16 false := by kernel_rfl
theorem c58_17e : c58_17 = .cond (cdC c58_17) c58_18 c58_21 := by kernel_rfl
theorem c58_18e : c58_18 = .seq c58_19 c58_20 := by kernel_rfl
theorem c58_19e : c58_19 = .region 5 r58_19 false := by kernel_rfl
theorem c58_20e : c58_20 = .ret := by kernel_rfl
theorem c58_21e : c58_21 = .skip := by kernel_rfl
theorem c58_22e : c58_22 = .region 3 r58_22 false := by kernel_rfl
theorem c58_23e : c58_23 = .seq c58_24 c58_25 := by kernel_rfl
theorem c58_24e : c58_24 = .region 6 r58_24 false := by kernel_rfl
theorem c58_25e : c58_25 = .ret := by kernel_rfl
noncomputable def tontineref15_Table_find.R (b_2 : Nat) (A_3 : Option Addr) (c_4 : Nat) : Pst Int where
  ε := Unit
  v := fun r x => .int .i64 r
  H := fun r x => []
  B := fun r x => []
noncomputable def tontineref15_Table_find.cx (b_2 : Nat) (A_3 : Option Addr) (c_4 : Nat) (w0 : World) (S0 : Fam) : Cx Int := ⟨Try.prog, 58, Try.f58, 26, w0, S0, [], 2, tontineref15_Table_find.R b_2 A_3 c_4⟩
theorem tontineref15_Table_find_l0_ok (n : Nat) (t_1 : T_tontineref15_Table) (id_5 : Int) (b_2 : Nat) (A_3 : Option Addr) (c_4 : Nat) (w0 : World) (S0 : Fam) :
    ∀ (k : Nat) (i_6 : Int), GoO (tontineref15_Table_find.cx b_2 A_3 c_4 w0 S0) [(0, .pointer (some ⟨b_2, 0, none⟩)), (1, .int .u64 id_5), (5, .int .i64 i_6)] [⟨1, b_2, [.int .u64 t_1.Now, .int .u64 t_1.Next, .slice A_3 t_1.Rows.length c_4]⟩] [Ow 2 kT_tontineref15_Row A_3 c_4 t_1.Rows] [.code c58_7, .inLoop c58_7, .inBlock 0, .code c58_23] (tontineref15_Table_find.l0 n t_1 id_5 k i_6) := by
  intro k
  induction k with
  | zero => intros; rw [tontineref15_Table_find.l0.eq_1]; exact GoO.stop
  | succ k ih0 =>
    intro i_6
    rw [tontineref15_Table_find.l0.eq_2]
    refine GoO.seq' c58_7e ?_
    refine GoO.seq' c58_8e ?_
    refine GoO.region' (is := [0, 1, 2, 3, 4, 5, 6]) c58_9e (by kernel_rfl) ?_
    refine GoO.exec (is := [0, 1, 2, 3, 4, 5, 6]) (hs := [.p, .p, .p, .p, .b 0, .p, .p]) (rest := []) (ks := [0, 1, 5, 12]) (env' := [(0, .pointer (some ⟨b_2, 0, none⟩)), (1, .int .u64 id_5), (5, .int .i64 i_6), (12, .bool (decide (i_6 < (t_1.Rows.length : Int))))]) (H' := [⟨1, b_2, [.int .u64 t_1.Now, .int .u64 t_1.Next, .slice A_3 t_1.Rows.length c_4]⟩]) (ps := [b_2 = b_2]) (by kernel_rfl) (And.intro rfl trivial) ?_
    refine GoO.regionEnd ?_
    refine GoO.ite' c58_10e (by kernel_rfl) (fun h7 => ?_) (fun h7 => ?_)
    · refine GoO.skip' c58_11e ?_
      refine GoO.seq' c58_13e ?_
      refine GoO.block' c58_14e ?_
      refine GoO.seq' c58_15e ?_
      refine GoO.region' (is := [0, 1, 2, 3, 4, 5, 6, 7, 8, 9]) c58_16e (by kernel_rfl) ?_
      refine GoO.exec (is := [0, 1, 2, 3, 4]) (hs := [.p, .p, .p, .b 0, .p]) (rest := [5, 6, 7, 8, 9]) (ks := [0, 1, 5, 18, 19]) (env' := [(0, .pointer (some ⟨b_2, 0, none⟩)), (1, .int .u64 id_5), (5, .int .i64 i_6), (18, .slice A_3 t_1.Rows.length c_4), (19, .int .i64 i_6)]) (H' := [⟨1, b_2, [.int .u64 t_1.Now, .int .u64 t_1.Next, .slice A_3 t_1.Rows.length c_4]⟩]) (ps := [b_2 = b_2]) (by kernel_rfl) (And.intro rfl trivial) ?_
      refine GoO.guard (fun h8 => ?_)
      refine OpTo.go (GoO.idx (kk := .i64) (e := 100) (K := kT_tontineref15_Row) (A := A_3) (c := c_4) (xs := t_1.Rows) (iv := i_6) (j := 0) rfl (by kernel_rfl) (by kernel_rfl) (by kernel_rfl) (by kernel_rfl) rfl Reads.own rfl h8.1 h8.2 (by decide) rfl ?_)
      refine OpTo.go (GoO.fldE (K := kT_tontineref15_Row) (A := A_3) (c := c_4) (xs := t_1.Rows) (iN := i_6.toNat) (off := 0) (n := 0) (j := 0) rfl (by kernel_rfl) (by kernel_rfl) rfl Reads.own (by first | exact idx_lt h8.1 h8.2 | (simp only [List.length_set]; exact idx_lt h8.1 h8.2)) (by decide) rfl ?_)
      refine OpTo.go (GoO.ldE' (K := kT_tontineref15_Row) (A := A_3) (c := c_4) (xs := t_1.Rows) (iN := i_6.toNat) (off := 0) (j := 0) rfl (by kernel_rfl) rfl Reads.own (by first | exact idx_lt h8.1 h8.2 | (simp only [List.length_set]; exact idx_lt h8.1 h8.2)) (by decide) (Opn.flat _ _ _ _ _) (v := fun _ => .int .u64 ((rdL t_1.Rows i_6).Id)) (fun _ => by kernel_rfl) _ (fun _ => rfl) (fun _ => ?_))
      refine GoO.exec (is := [8, 9]) (hs := [.p, .p]) (rest := []) (ks := [0, 1, 5, 24]) (env' := [(0, .pointer (some ⟨b_2, 0, none⟩)), (1, .int .u64 id_5), (5, .int .i64 i_6), (24, .bool (((rdL t_1.Rows i_6).Id) == id_5))]) (H' := [⟨1, b_2, [.int .u64 t_1.Now, .int .u64 t_1.Next, .slice A_3 t_1.Rows.length c_4]⟩]) (ps := []) (by kernel_rfl) trivial ?_
      refine GoO.regionEnd ?_
      refine GoO.ite' c58_17e (by kernel_rfl) (fun h9 => ?_) (fun h9 => ?_)
      · refine GoO.seq' c58_18e ?_
        refine GoO.region' (is := [0, 1]) c58_19e (by kernel_rfl) ?_
        refine GoO.exec (is := [0, 1]) (hs := [.p, .p]) (rest := []) (ks := [4]) (env' := [(4, .int .i64 i_6)]) (H' := [⟨1, b_2, [.int .u64 t_1.Now, .int .u64 t_1.Next, .slice A_3 t_1.Rows.length c_4]⟩]) (ps := []) (by kernel_rfl) trivial ?_
        refine GoO.regionEnd ?_
        exact GoO.ret' (h := c58_20e) (hs := []) (ps := []) (hk := []) (bk := []) Try.func58 () (by kernel_rfl) trivial (by kernel_rfl) (by kernel_rfl)
      · refine GoO.skip' c58_21e ?_
        refine GoO.inBlock ?_
        refine GoO.region' (is := [0, 1, 2]) c58_22e (by kernel_rfl) ?_
        refine GoO.exec (is := [0, 1, 2]) (hs := [.p, .p, .p]) (rest := []) (ks := [0, 1, 5]) (env' := [(0, .pointer (some ⟨b_2, 0, none⟩)), (1, .int .u64 id_5), (5, .int .i64 (wi64 (i_6 + 1)))]) (H' := [⟨1, b_2, [.int .u64 t_1.Now, .int .u64 t_1.Next, .slice A_3 t_1.Rows.length c_4]⟩]) (ps := []) (by kernel_rfl) trivial ?_
        refine GoO.regionEnd ?_
        refine GoO.inLoop ?_
        exact GoO.sub (ks := [0, 1, 5]) (hk := [0]) (bk := [0]) (by kernel_rfl) (by kernel_rfl) (by kernel_rfl) (ih0 (wi64 (i_6 + 1)))
    · refine GoO.exit' c58_12e rfl ?_
      refine GoO.seq' c58_23e ?_
      refine GoO.region' (is := [0]) c58_24e (by kernel_rfl) ?_
      refine GoO.exec (is := [0]) (hs := [.p]) (rest := []) (ks := [4]) (env' := [(4, .int .i64 (-1))]) (H' := [⟨1, b_2, [.int .u64 t_1.Now, .int .u64 t_1.Next, .slice A_3 t_1.Rows.length c_4]⟩]) (ps := []) (by kernel_rfl) trivial ?_
      refine GoO.regionEnd ?_
      exact GoO.ret' (h := c58_25e) (hs := []) (ps := []) (hk := []) (bk := []) Try.func58 () (by kernel_rfl) trivial (by kernel_rfl) (by kernel_rfl)
theorem tontineref15_Table_find_ok (n : Nat) (t_1 : T_tontineref15_Table) (id_5 : Int) (b_2 : Nat) (A_3 : Option Addr) (c_4 : Nat) :
    Meets Try.prog 58 [.pointer (some ⟨b_2, 0, none⟩), .int .u64 id_5] 2 [] [⟨1, b_2, [.int .u64 t_1.Now, .int .u64 t_1.Next, .slice A_3 t_1.Rows.length c_4]⟩] [Ow 2 kT_tontineref15_Row A_3 c_4 t_1.Rows] (tontineref15_Table_find.f n t_1 id_5) (tontineref15_Table_find.R b_2 A_3 c_4) := by
  refine Meets.of (c := c58_0) (n := 26) Try.func58 (by kernel_rfl) (by kernel_rfl) (by kernel_rfl) fun w0 S0 => ?_
  unfold tontineref15_Table_find.f
  show GoO (tontineref15_Table_find.cx b_2 A_3 c_4 w0 S0) [(0, .pointer (some ⟨b_2, 0, none⟩)), (1, .int .u64 id_5)] [⟨1, b_2, [.int .u64 t_1.Now, .int .u64 t_1.Next, .slice A_3 t_1.Rows.length c_4]⟩] [Ow 2 kT_tontineref15_Row A_3 c_4 t_1.Rows] [.code c58_0] _
  refine GoO.seq' c58_0e ?_
  refine GoO.region' (is := [0]) c58_1e (by kernel_rfl) ?_
  refine GoO.exec (is := [0]) (hs := [.p]) (rest := []) (ks := [0, 1]) (env' := [(0, .pointer (some ⟨b_2, 0, none⟩)), (1, .int .u64 id_5)]) (H' := [⟨1, b_2, [.int .u64 t_1.Now, .int .u64 t_1.Next, .slice A_3 t_1.Rows.length c_4]⟩]) (ps := []) (by kernel_rfl) trivial ?_
  refine GoO.regionEnd ?_
  refine GoO.seq' c58_2e ?_
  refine GoO.seq' c58_3e ?_
  refine GoO.region' (is := [0]) c58_4e (by kernel_rfl) ?_
  refine GoO.exec (is := [0]) (hs := [.p]) (rest := []) (ks := [0, 1, 5]) (env' := [(0, .pointer (some ⟨b_2, 0, none⟩)), (1, .int .u64 id_5), (5, .int .i64 0)]) (H' := [⟨1, b_2, [.int .u64 t_1.Now, .int .u64 t_1.Next, .slice A_3 t_1.Rows.length c_4]⟩]) (ps := []) (by kernel_rfl) trivial ?_
  refine GoO.regionEnd ?_
  refine GoO.block' c58_5e ?_
  refine GoO.loop' c58_6e ?_
  exact GoO.sub (ks := [0, 1, 5]) (hk := [0]) (bk := [0]) (by kernel_rfl) (by kernel_rfl) (by kernel_rfl) (tontineref15_Table_find_l0_ok n t_1 id_5 b_2 A_3 c_4 w0 S0 n 0)

/-! (*tontine/tontineref15.Table).Begin -/
noncomputable def c46_0 : Code := bodyOf Try.f46
noncomputable def c46_1 : Code := cdL c46_0
noncomputable def c46_2 : Code := cdR c46_0
noncomputable def c46_3 : Code := cdL c46_2
noncomputable def c46_4 : Code := cdR c46_2
noncomputable def c46_5 : Code := cdL c46_4
noncomputable def c46_6 : Code := cdL c46_5
noncomputable def c46_7 : Code := cdR c46_5
noncomputable def c46_8 : Code := cdL c46_7
noncomputable def c46_9 : Code := cdL c46_8
noncomputable def c46_10 : Code := cdR c46_8
noncomputable def c46_11 : Code := cdR c46_7
noncomputable def c46_12 : Code := cdR c46_4
noncomputable def c46_13 : Code := cdL c46_12
noncomputable def c46_14 : Code := cdR c46_12
noncomputable def c46_15 : Code := cdL c46_14
noncomputable def c46_16 : Code := cdL c46_15
noncomputable def c46_17 : Code := cdR c46_15
noncomputable def c46_18 : Code := cdL c46_17
noncomputable def c46_19 : Code := cdL c46_18
noncomputable def c46_20 : Code := cdR c46_18
noncomputable def c46_21 : Code := cdR c46_17
noncomputable def c46_22 : Code := cdR c46_14
noncomputable def c46_23 : Code := cdL c46_22
noncomputable def c46_24 : Code := cdL c46_23
noncomputable def c46_25 : Code := cdR c46_23
noncomputable def c46_26 : Code := cdL c46_25
noncomputable def c46_27 : Code := cdL c46_26
noncomputable def c46_28 : Code := cdR c46_26
noncomputable def c46_29 : Code := cdR c46_25
noncomputable def c46_30 : Code := cdR c46_22
noncomputable def c46_31 : Code := cdL c46_30
noncomputable def c46_32 : Code := cdR c46_30
noncomputable def r46_1 : Array Oper := cdO c46_1
noncomputable def r46_3 : Array Oper := cdO c46_3
noncomputable def r46_6 : Array Oper := cdO c46_6
noncomputable def r46_9 : Array Oper := cdO c46_9
noncomputable def r46_13 : Array Oper := cdO c46_13
noncomputable def r46_16 : Array Oper := cdO c46_16
noncomputable def r46_19 : Array Oper := cdO c46_19
noncomputable def r46_24 : Array Oper := cdO c46_24
noncomputable def r46_27 : Array Oper := cdO c46_27
noncomputable def r46_31 : Array Oper := cdO c46_31
theorem c46_0e : c46_0 = .seq c46_1 c46_2 := by kernel_rfl
theorem c46_1e : c46_1 = .region 0 r46_1 false := by kernel_rfl
theorem c46_2e : c46_2 = .seq c46_3 c46_4 := by kernel_rfl
theorem c46_3e : c46_3 = .region 1 r46_3 false := by kernel_rfl
theorem c46_4e : c46_4 = .seq c46_5 c46_12 := by kernel_rfl
theorem c46_5e : c46_5 = .seq c46_6 c46_7 := by kernel_rfl
theorem c46_6e : c46_6 = .region 2 r46_6 false := by kernel_rfl
theorem c46_7e : c46_7 = .cond (cdC c46_7) c46_8 c46_11 := by kernel_rfl
theorem c46_8e : c46_8 = .seq c46_9 c46_10 := by kernel_rfl
theorem c46_9e : c46_9 = .region 3 r46_9 false := by kernel_rfl
theorem c46_10e : c46_10 = .ret := by kernel_rfl
theorem c46_11e : c46_11 = .skip := by kernel_rfl
theorem c46_12e : c46_12 = .seq c46_13 c46_14 := by kernel_rfl
theorem c46_13e : c46_13 = .region 4 r46_13 true := by kernel_rfl
theorem c46_14e : c46_14 = .seq c46_15 c46_22 := by kernel_rfl
theorem c46_15e : c46_15 = .seq c46_16 c46_17 := by kernel_rfl
theorem c46_16e : c46_16 = .region 5 r46_16 false := by kernel_rfl
theorem c46_17e : c46_17 = .cond (cdC c46_17) c46_18 c46_21 := by kernel_rfl
theorem c46_18e : c46_18 = .seq c46_19 c46_20 := by kernel_rfl
theorem c46_19e : c46_19 = .region 6 r46_19 false := by kernel_rfl
theorem c46_20e : c46_20 = .ret := by kernel_rfl
theorem c46_21e : c46_21 = .skip := by kernel_rfl
theorem c46_22e : c46_22 = .seq c46_23 c46_30 := by kernel_rfl
theorem c46_23e : c46_23 = .seq c46_24 c46_25 := by kernel_rfl
theorem c46_24e : c46_24 = .region 7 r46_24 false := by kernel_rfl
theorem c46_25e : c46_25 = .cond (cdC c46_25) c46_26 c46_29 := by kernel_rfl
theorem c46_26e : c46_26 = .seq c46_27 c46_28 := by kernel_rfl
theorem c46_27e : c46_27 = .region 8 r46_27 false := by kernel_rfl
theorem c46_28e : c46_28 = .ret := by kernel_rfl
theorem c46_29e : c46_29 = .skip := by kernel_rfl
theorem c46_30e : c46_30 = .seq c46_31 c46_32 := by kernel_rfl
theorem c46_31e : c46_31 = .region 9 r46_31 false := by kernel_rfl
theorem c46_32e : c46_32 = .ret := by kernel_rfl
noncomputable def tontineref15_Table_Begin.R (b_2 : Nat) (A_3 : Option Addr) (c_4 : Nat) : Pst (T_api_Reply × Bool × T_tontineref15_Table) where
  ε := Option Addr × Nat
  v := fun r x => .tuple ⟨[.agg ⟨[.int .i64 r.1.Err, .int .u64 r.1.Num, .int .u64 r.1.Extra]⟩, .bool r.2.1]⟩
  H := fun r x => [⟨1, b_2, [.int .u64 r.2.2.Now, .int .u64 r.2.2.Next, .slice x.1 r.2.2.Rows.length x.2]⟩]
  B := fun r x => [Ow 2 kT_tontineref15_Row x.1 x.2 r.2.2.Rows]
noncomputable def tontineref15_Table_Begin.cx (b_2 : Nat) (A_3 : Option Addr) (c_4 : Nat) (w0 : World) (S0 : Fam) : Cx (T_api_Reply × Bool × T_tontineref15_Table) := ⟨Try.prog, 46, Try.f46, 65, w0, S0, [1, 2], 2, tontineref15_Table_Begin.R b_2 A_3 c_4⟩
theorem tontineref15_Table_Begin_j0_ok (n : Nat) (t_1 : T_tontineref15_Table) (seq_6 : Int) (r_8 : Int) (b_2 : Nat) (A_3 : Option Addr) (c_4 : Nat) (b_7 : Nat) (w0 : World) (S0 : Fam) (b_13 : Bool) :
    GoO (tontineref15_Table_Begin.cx b_2 A_3 c_4 w0 S0) [(0, .pointer (some ⟨b_2, 0, none⟩)), (2, .int .u64 seq_6), (6, .pointer (some ⟨b_7, 0, none⟩)), (8, .int .i64 r_8), (39, .bool b_13)] [⟨1, b_2, [.int .u64 t_1.Now, .int .u64 t_1.Next, .slice A_3 (t_1.Rows.set r_8.toNat (⟨(rdL t_1.Rows r_8).Id, t_1.Now, (rdL t_1.Rows r_8).Seq, (⟨(rdL t_1.Rows r_8).Reply.Err, (rdL t_1.Rows r_8).Reply.Num, (rdL t_1.Rows r_8).Reply.Extra⟩ : T_api_Reply)⟩ : T_tontineref15_Row)).length c_4]⟩, ⟨40, b_7, [.int .i64 0, .int .u64 0, .int .u64 0]⟩] [Ow 2 kT_tontineref15_Row A_3 c_4 (t_1.Rows.set r_8.toNat (⟨(rdL t_1.Rows r_8).Id, t_1.Now, (rdL t_1.Rows r_8).Seq, (⟨(rdL t_1.Rows r_8).Reply.Err, (rdL t_1.Rows r_8).Reply.Num, (rdL t_1.Rows r_8).Reply.Extra⟩ : T_api_Reply)⟩ : T_tontineref15_Row))] [.code c46_17, .code c46_22] (tontineref15_Table_Begin.j0 n t_1 seq_6 r_8 b_13) := by
  unfold tontineref15_Table_Begin.j0
  refine GoO.ite' c46_17e (by kernel_rfl) (fun h14 => ?_) (fun h14 => ?_)
  · refine GoO.seq' c46_18e ?_
    refine GoO.region' (is := [0, 1, 2, 3, 4, 5, 6, 7, 8, 9]) c46_19e (by kernel_rfl) ?_
    refine GoO.exec (is := [0, 1, 2, 3, 4]) (hs := [.p, .p, .p, .b 0, .p]) (rest := [5, 6, 7, 8, 9]) (ks := [6, 43, 44]) (env' := [(6, .pointer (some ⟨b_7, 0, none⟩)), (43, .slice A_3 (t_1.Rows.set r_8.toNat (⟨(rdL t_1.Rows r_8).Id, t_1.Now, (rdL t_1.Rows r_8).Seq, (⟨(rdL t_1.Rows r_8).Reply.Err, (rdL t_1.Rows r_8).Reply.Num, (rdL t_1.Rows r_8).Reply.Extra⟩ : T_api_Reply)⟩ : T_tontineref15_Row)).length c_4), (44, .int .i64 r_8)]) (H' := [⟨1, b_2, [.int .u64 t_1.Now, .int .u64 t_1.Next, .slice A_3 (t_1.Rows.set r_8.toNat (⟨(rdL t_1.Rows r_8).Id, t_1.Now, (rdL t_1.Rows r_8).Seq, (⟨(rdL t_1.Rows r_8).Reply.Err, (rdL t_1.Rows r_8).Reply.Num, (rdL t_1.Rows r_8).Reply.Extra⟩ : T_api_Reply)⟩ : T_tontineref15_Row)).length c_4]⟩, ⟨40, b_7, [.int .i64 0, .int .u64 0, .int .u64 0]⟩]) (ps := [b_2 = b_2]) (by kernel_rfl) (And.intro rfl trivial) ?_
    refine GoO.guard (fun h15 => ?_)
    refine OpTo.go (GoO.idx (kk := .i64) (e := 100) (K := kT_tontineref15_Row) (A := A_3) (c := c_4) (xs := t_1.Rows.set r_8.toNat (⟨(rdL t_1.Rows r_8).Id, t_1.Now, (rdL t_1.Rows r_8).Seq, (⟨(rdL t_1.Rows r_8).Reply.Err, (rdL t_1.Rows r_8).Reply.Num, (rdL t_1.Rows r_8).Reply.Extra⟩ : T_api_Reply)⟩ : T_tontineref15_Row)) (iv := r_8) (j := 0) rfl (by kernel_rfl) (by kernel_rfl) (by kernel_rfl) (by kernel_rfl) rfl Reads.own rfl h15.1 h15.2 (by decide) rfl ?_)
    refine OpTo.go (GoO.fldE (K := kT_tontineref15_Row) (A := A_3) (c := c_4) (xs := t_1.Rows.set r_8.toNat (⟨(rdL t_1.Rows r_8).Id, t_1.Now, (rdL t_1.Rows r_8).Seq, (⟨(rdL t_1.Rows r_8).Reply.Err, (rdL t_1.Rows r_8).Reply.Num, (rdL t_1.Rows r_8).Reply.Extra⟩ : T_api_Reply)⟩ : T_tontineref15_Row)) (iN := r_8.toNat) (off := 0) (n := 3) (j := 0) rfl (by kernel_rfl) (by kernel_rfl) rfl Reads.own (by first | exact idx_lt h15.1 h15.2 | (simp only [List.length_set]; exact idx_lt h15.1 h15.2)) (by decide) rfl ?_)
    refine OpTo.go (GoO.ldE' (K := kT_tontineref15_Row) (A := A_3) (c := c_4) (xs := t_1.Rows.set r_8.toNat (⟨(rdL t_1.Rows r_8).Id, t_1.Now, (rdL t_1.Rows r_8).Seq, (⟨(rdL t_1.Rows r_8).Reply.Err, (rdL t_1.Rows r_8).Reply.Num, (rdL t_1.Rows r_8).Reply.Extra⟩ : T_api_Reply)⟩ : T_tontineref15_Row)) (iN := r_8.toNat) (off := 3) (j := 0) rfl (by kernel_rfl) rfl Reads.own (by first | exact idx_lt h15.1 h15.2 | (simp only [List.length_set]; exact idx_lt h15.1 h15.2)) (by decide) (Opn.flat _ _ _ _ _) (v := fun _ => .agg ⟨[.int .i64 ((rdL (t_1.Rows.set r_8.toNat (⟨(rdL t_1.Rows r_8).Id, t_1.Now, (rdL t_1.Rows r_8).Seq, (⟨(rdL t_1.Rows r_8).Reply.Err, (rdL t_1.Rows r_8).Reply.Num, (rdL t_1.Rows r_8).Reply.Extra⟩ : T_api_Reply)⟩ : T_tontineref15_Row)) r_8).Reply.Err), .int .u64 ((rdL (t_1.Rows.set r_8.toNat (⟨(rdL t_1.Rows r_8).Id, t_1.Now, (rdL t_1.Rows r_8).Seq, (⟨(rdL t_1.Rows r_8).Reply.Err, (rdL t_1.Rows r_8).Reply.Num, (rdL t_1.Rows r_8).Reply.Extra⟩ : T_api_Reply)⟩ : T_tontineref15_Row)) r_8).Reply.Num), .int .u64 ((rdL (t_1.Rows.set r_8.toNat (⟨(rdL t_1.Rows r_8).Id, t_1.Now, (rdL t_1.Rows r_8).Seq, (⟨(rdL t_1.Rows r_8).Reply.Err, (rdL t_1.Rows r_8).Reply.Num, (rdL t_1.Rows r_8).Reply.Extra⟩ : T_api_Reply)⟩ : T_tontineref15_Row)) r_8).Reply.Extra)]⟩) (fun _ => by kernel_rfl) _ (fun _ => rfl) (fun _ => ?_))
    refine GoO.exec (is := [8, 9]) (hs := [.b 1, .p]) (rest := []) (ks := [6, 7]) (env' := [(6, .pointer (some ⟨b_7, 0, none⟩)), (7, .bool false)]) (H' := [⟨1, b_2, [.int .u64 t_1.Now, .int .u64 t_1.Next, .slice A_3 (t_1.Rows.set r_8.toNat (⟨(rdL t_1.Rows r_8).Id, t_1.Now, (rdL t_1.Rows r_8).Seq, (⟨(rdL t_1.Rows r_8).Reply.Err, (rdL t_1.Rows r_8).Reply.Num, (rdL t_1.Rows r_8).Reply.Extra⟩ : T_api_Reply)⟩ : T_tontineref15_Row)).length c_4]⟩, ⟨40, b_7, [.int .i64 ((rdL (t_1.Rows.set r_8.toNat (⟨(rdL t_1.Rows r_8).Id, t_1.Now, (rdL t_1.Rows r_8).Seq, (⟨(rdL t_1.Rows r_8).Reply.Err, (rdL t_1.Rows r_8).Reply.Num, (rdL t_1.Rows r_8).Reply.Extra⟩ : T_api_Reply)⟩ : T_tontineref15_Row)) r_8).Reply.Err), .int .u64 ((rdL (t_1.Rows.set r_8.toNat (⟨(rdL t_1.Rows r_8).Id, t_1.Now, (rdL t_1.Rows r_8).Seq, (⟨(rdL t_1.Rows r_8).Reply.Err, (rdL t_1.Rows r_8).Reply.Num, (rdL t_1.Rows r_8).Reply.Extra⟩ : T_api_Reply)⟩ : T_tontineref15_Row)) r_8).Reply.Num), .int .u64 ((rdL (t_1.Rows.set r_8.toNat (⟨(rdL t_1.Rows r_8).Id, t_1.Now, (rdL t_1.Rows r_8).Seq, (⟨(rdL t_1.Rows r_8).Reply.Err, (rdL t_1.Rows r_8).Reply.Num, (rdL t_1.Rows r_8).Reply.Extra⟩ : T_api_Reply)⟩ : T_tontineref15_Row)) r_8).Reply.Extra)]⟩]) (ps := [b_7 = b_7]) (by kernel_rfl) (And.intro rfl trivial) ?_
    refine GoO.regionEnd ?_
    exact GoO.ret' (h := c46_20e) (hs := [1]) (ps := [b_7 = b_7]) (hk := [0]) (bk := [0]) Try.func46 (⟨A_3, c_4⟩ : Option Addr × Nat) (by kernel_rfl) (And.intro rfl trivial) (by kernel_rfl) (by kernel_rfl)
  · refine GoO.skip' c46_21e ?_
    refine GoO.seq' c46_22e ?_
    refine GoO.seq' c46_23e ?_
    refine GoO.region' (is := [0, 1, 2, 3, 4, 5, 6, 7, 8, 9, 10, 11, 12, 13, 14]) c46_24e (by kernel_rfl) ?_
    refine GoO.exec (is := [0, 1, 2]) (hs := [.p, .p, .p]) (rest := [3, 4, 5, 6, 7, 8, 9, 10, 11, 12, 13, 14]) (ks := [0, 2, 6, 8, 50]) (env' := [(0, .pointer (some ⟨b_2, 0, none⟩)), (2, .int .u64 seq_6), (6, .pointer (some ⟨b_7, 0, none⟩)), (8, .int .i64 r_8), (50, .bool (seq_6 == 0))]) (H' := [⟨1, b_2, [.int .u64 t_1.Now, .int .u64 t_1.Next, .slice A_3 (t_1.Rows.set r_8.toNat (⟨(rdL t_1.Rows r_8).Id, t_1.Now, (rdL t_1.Rows r_8).Seq, (⟨(rdL t_1.Rows r_8).Reply.Err, (rdL t_1.Rows r_8).Reply.Num, (rdL t_1.Rows r_8).Reply.Extra⟩ : T_api_Reply)⟩ : T_tontineref15_Row)).length c_4]⟩, ⟨40, b_7, [.int .i64 0, .int .u64 0, .int .u64 0]⟩]) (ps := []) (by kernel_rfl) trivial ?_
    refine GoO.bsplit (t := 50) (by kernel_rfl) (fun h16 => ?_) (fun h16 => ?_)
    · refine GoO.exec (is := [3, 4, 5, 6, 7, 8, 9, 10, 11, 12, 13, 14]) (hs := [.p, .p, .p, .p, .p, .p, .p, .p, .p, .p, .p, .p]) (rest := []) (ks := [6, 62]) (env' := [(6, .pointer (some ⟨b_7, 0, none⟩)), (62, .bool true)]) (H' := [⟨1, b_2, [.int .u64 t_1.Now, .int .u64 t_1.Next, .slice A_3 (t_1.Rows.set r_8.toNat (⟨(rdL t_1.Rows r_8).Id, t_1.Now, (rdL t_1.Rows r_8).Seq, (⟨(rdL t_1.Rows r_8).Reply.Err, (rdL t_1.Rows r_8).Reply.Num, (rdL t_1.Rows r_8).Reply.Extra⟩ : T_api_Reply)⟩ : T_tontineref15_Row)).length c_4]⟩, ⟨40, b_7, [.int .i64 0, .int .u64 0, .int .u64 0]⟩]) (ps := []) (by kernel_rfl) trivial ?_
      refine GoO.regionEnd ?_
      refine GoO.condT c46_25e (by kernel_rfl) ?_
      refine GoO.seq' c46_26e ?_
      refine GoO.region' (is := [0, 1, 2]) c46_27e (by kernel_rfl) ?_
      refine GoO.exec (is := [0, 1, 2]) (hs := [.p, .b 1, .p]) (rest := []) (ks := [6, 7]) (env' := [(6, .pointer (some ⟨b_7, 0, none⟩)), (7, .bool false)]) (H' := [⟨1, b_2, [.int .u64 t_1.Now, .int .u64 t_1.Next, .slice A_3 (t_1.Rows.set r_8.toNat (⟨(rdL t_1.Rows r_8).Id, t_1.Now, (rdL t_1.Rows r_8).Seq, (⟨(rdL t_1.Rows r_8).Reply.Err, (rdL t_1.Rows r_8).Reply.Num, (rdL t_1.Rows r_8).Reply.Extra⟩ : T_api_Reply)⟩ : T_tontineref15_Row)).length c_4]⟩, ⟨40, b_7, [.int .i64 41, .int .u64 0, .int .u64 0]⟩]) (ps := [b_7 = b_7]) (by kernel_rfl) (And.intro rfl trivial) ?_
      refine GoO.regionEnd ?_
      exact GoO.ret' (h := c46_28e) (hs := [1]) (ps := [b_7 = b_7]) (hk := [0]) (bk := [0]) Try.func46 (⟨A_3, c_4⟩ : Option Addr × Nat) (by kernel_rfl) (And.intro rfl trivial) (by kernel_rfl) (by kernel_rfl)
    · refine GoO.exec (is := [3, 4, 5, 6, 7, 8, 9]) (hs := [.p, .p, .p, .p, .p, .b 0, .p]) (rest := [10, 11, 12, 13, 14]) (ks := [6, 50, 52, 56, 57]) (env' := [(6, .pointer (some ⟨b_7, 0, none⟩)), (50, .bool false), (52, .int .u64 (wu64 (seq_6 - 1))), (56, .slice A_3 (t_1.Rows.set r_8.toNat (⟨(rdL t_1.Rows r_8).Id, t_1.Now, (rdL t_1.Rows r_8).Seq, (⟨(rdL t_1.Rows r_8).Reply.Err, (rdL t_1.Rows r_8).Reply.Num, (rdL t_1.Rows r_8).Reply.Extra⟩ : T_api_Reply)⟩ : T_tontineref15_Row)).length c_4), (57, .int .i64 r_8)]) (H' := [⟨1, b_2, [.int .u64 t_1.Now, .int .u64 t_1.Next, .slice A_3 (t_1.Rows.set r_8.toNat (⟨(rdL t_1.Rows r_8).Id, t_1.Now, (rdL t_1.Rows r_8).Seq, (⟨(rdL t_1.Rows r_8).Reply.Err, (rdL t_1.Rows r_8).Reply.Num, (rdL t_1.Rows r_8).Reply.Extra⟩ : T_api_Reply)⟩ : T_tontineref15_Row)).length c_4]⟩, ⟨40, b_7, [.int .i64 0, .int .u64 0, .int .u64 0]⟩]) (ps := [b_2 = b_2]) (by kernel_rfl) (And.intro rfl trivial) ?_
      refine GoO.guard (fun h17 => ?_)
      refine OpTo.go (GoO.idx (kk := .i64) (e := 100) (K := kT_tontineref15_Row) (A := A_3) (c := c_4) (xs := t_1.Rows.set r_8.toNat (⟨(rdL t_1.Rows r_8).Id, t_1.Now, (rdL t_1.Rows r_8).Seq, (⟨(rdL t_1.Rows r_8).Reply.Err, (rdL t_1.Rows r_8).Reply.Num, (rdL t_1.Rows r_8).Reply.Extra⟩ : T_api_Reply)⟩ : T_tontineref15_Row)) (iv := r_8) (j := 0) rfl (by kernel_rfl) (by kernel_rfl) (by kernel_rfl) (by kernel_rfl) rfl Reads.own rfl h17.1 h17.2 (by decide) rfl ?_)
      refine OpTo.go (GoO.fldE (K := kT_tontineref15_Row) (A := A_3) (c := c_4) (xs := t_1.Rows.set r_8.toNat (⟨(rdL t_1.Rows r_8).Id, t_1.Now, (rdL t_1.Rows r_8).Seq, (⟨(rdL t_1.Rows r_8).Reply.Err, (rdL t_1.Rows r_8).Reply.Num, (rdL t_1.Rows r_8).Reply.Extra⟩ : T_api_Reply)⟩ : T_tontineref15_Row)) (iN := r_8.toNat) (off := 0) (n := 2) (j := 0) rfl (by kernel_rfl) (by kernel_rfl) rfl Reads.own (by first | exact idx_lt h17.1 h17.2 | (simp only [List.length_set]; exact idx_lt h17.1 h17.2)) (by decide) rfl ?_)
      refine OpTo.go (GoO.ldE' (K := kT_tontineref15_Row) (A := A_3) (c := c_4) (xs := t_1.Rows.set r_8.toNat (⟨(rdL t_1.Rows r_8).Id, t_1.Now, (rdL t_1.Rows r_8).Seq, (⟨(rdL t_1.Rows r_8).Reply.Err, (rdL t_1.Rows r_8).Reply.Num, (rdL t_1.Rows r_8).Reply.Extra⟩ : T_api_Reply)⟩ : T_tontineref15_Row)) (iN := r_8.toNat) (off := 2) (j := 0) rfl (by kernel_rfl) rfl Reads.own (by first | exact idx_lt h17.1 h17.2 | (simp only [List.length_set]; exact idx_lt h17.1 h17.2)) (by decide) (Opn.flat _ _ _ _ _) (v := fun _ => .int .u64 ((rdL (t_1.Rows.set r_8.toNat (⟨(rdL t_1.Rows r_8).Id, t_1.Now, (rdL t_1.Rows r_8).Seq, (⟨(rdL t_1.Rows r_8).Reply.Err, (rdL t_1.Rows r_8).Reply.Num, (rdL t_1.Rows r_8).Reply.Extra⟩ : T_api_Reply)⟩ : T_tontineref15_Row)) r_8).Seq)) (fun _ => by kernel_rfl) _ (fun _ => rfl) (fun _ => ?_))
      refine GoO.exec (is := [13, 14]) (hs := [.p, .p]) (rest := []) (ks := [6, 62]) (env' := [(6, .pointer (some ⟨b_7, 0, none⟩)), (62, .bool ((wu64 (seq_6 - 1)) != ((rdL (t_1.Rows.set r_8.toNat (⟨(rdL t_1.Rows r_8).Id, t_1.Now, (rdL t_1.Rows r_8).Seq, (⟨(rdL t_1.Rows r_8).Reply.Err, (rdL t_1.Rows r_8).Reply.Num, (rdL t_1.Rows r_8).Reply.Extra⟩ : T_api_Reply)⟩ : T_tontineref15_Row)) r_8).Seq)))]) (H' := [⟨1, b_2, [.int .u64 t_1.Now, .int .u64 t_1.Next, .slice A_3 (t_1.Rows.set r_8.toNat (⟨(rdL t_1.Rows r_8).Id, t_1.Now, (rdL t_1.Rows r_8).Seq, (⟨(rdL t_1.Rows r_8).Reply.Err, (rdL t_1.Rows r_8).Reply.Num, (rdL t_1.Rows r_8).Reply.Extra⟩ : T_api_Reply)⟩ : T_tontineref15_Row)).length c_4]⟩, ⟨40, b_7, [.int .i64 0, .int .u64 0, .int .u64 0]⟩]) (ps := []) (by kernel_rfl) trivial ?_
      refine GoO.regionEnd ?_
      refine GoO.ite' c46_25e (by kernel_rfl) (fun h18 => ?_) (fun h18 => ?_)
      · refine GoO.seq' c46_26e ?_
        refine GoO.region' (is := [0, 1, 2]) c46_27e (by kernel_rfl) ?_
        refine GoO.exec (is := [0, 1, 2]) (hs := [.p, .b 1, .p]) (rest := []) (ks := [6, 7]) (env' := [(6, .pointer (some ⟨b_7, 0, none⟩)), (7, .bool false)]) (H' := [⟨1, b_2, [.int .u64 t_1.Now, .int .u64 t_1.Next, .slice A_3 (t_1.Rows.set r_8.toNat (⟨(rdL t_1.Rows r_8).Id, t_1.Now, (rdL t_1.Rows r_8).Seq, (⟨(rdL t_1.Rows r_8).Reply.Err, (rdL t_1.Rows r_8).Reply.Num, (rdL t_1.Rows r_8).Reply.Extra⟩ : T_api_Reply)⟩ : T_tontineref15_Row)).length c_4]⟩, ⟨40, b_7, [.int .i64 41, .int .u64 0, .int .u64 0]⟩]) (ps := [b_7 = b_7]) (by kernel_rfl) (And.intro rfl trivial) ?_
        refine GoO.regionEnd ?_
        exact GoO.ret' (h := c46_28e) (hs := [1]) (ps := [b_7 = b_7]) (hk := [0]) (bk := [0]) Try.func46 (⟨A_3, c_4⟩ : Option Addr × Nat) (by kernel_rfl) (And.intro rfl trivial) (by kernel_rfl) (by kernel_rfl)
      · refine GoO.skip' c46_29e ?_
        refine GoO.seq' c46_30e ?_
        refine GoO.region' (is := [0, 1, 2]) c46_31e (by kernel_rfl) ?_
        refine GoO.exec (is := [0, 1, 2]) (hs := [.p, .b 1, .p]) (rest := []) (ks := [6, 7]) (env' := [(6, .pointer (some ⟨b_7, 0, none⟩)), (7, .bool true)]) (H' := [⟨1, b_2, [.int .u64 t_1.Now, .int .u64 t_1.Next, .slice A_3 (t_1.Rows.set r_8.toNat (⟨(rdL t_1.Rows r_8).Id, t_1.Now, (rdL t_1.Rows r_8).Seq, (⟨(rdL t_1.Rows r_8).Reply.Err, (rdL t_1.Rows r_8).Reply.Num, (rdL t_1.Rows r_8).Reply.Extra⟩ : T_api_Reply)⟩ : T_tontineref15_Row)).length c_4]⟩, ⟨40, b_7, [.int .i64 0, .int .u64 0, .int .u64 0]⟩]) (ps := [b_7 = b_7]) (by kernel_rfl) (And.intro rfl trivial) ?_
        refine GoO.regionEnd ?_
        exact GoO.ret' (h := c46_32e) (hs := [1]) (ps := [b_7 = b_7]) (hk := [0]) (bk := [0]) Try.func46 (⟨A_3, c_4⟩ : Option Addr × Nat) (by kernel_rfl) (And.intro rfl trivial) (by kernel_rfl) (by kernel_rfl)
theorem tontineref15_Table_Begin_ok (n : Nat) (t_1 : T_tontineref15_Table) (id_5 : Int) (seq_6 : Int) (b_2 : Nat) (A_3 : Option Addr) (c_4 : Nat) :
    Meets Try.prog 46 [.pointer (some ⟨b_2, 0, none⟩), .int .u64 id_5, .int .u64 seq_6] 2 [1, 2] [⟨1, b_2, [.int .u64 t_1.Now, .int .u64 t_1.Next, .slice A_3 t_1.Rows.length c_4]⟩] [Ow 2 kT_tontineref15_Row A_3 c_4 t_1.Rows] (tontineref15_Table_Begin.f n t_1 id_5 seq_6) (tontineref15_Table_Begin.R b_2 A_3 c_4) := by
  refine Meets.of (c := c46_0) (n := 65) Try.func46 (by kernel_rfl) (by kernel_rfl) (by kernel_rfl) fun w0 S0 => ?_
  unfold tontineref15_Table_Begin.f
  show GoO (tontineref15_Table_Begin.cx b_2 A_3 c_4 w0 S0) [(0, .pointer (some ⟨b_2, 0, none⟩)), (1, .int .u64 id_5), (2, .int .u64 seq_6)] [⟨1, b_2, [.int .u64 t_1.Now, .int .u64 t_1.Next, .slice A_3 t_1.Rows.length c_4]⟩] [Ow 2 kT_tontineref15_Row A_3 c_4 t_1.Rows] [.code c46_0] _
  refine GoO.seq' c46_0e ?_
  refine GoO.region' (is := [0, 1]) c46_1e (by kernel_rfl) ?_
  refine OpTo.go (GoO.new rfl 40 (cs := [.int .i64 0, .int .u64 0, .int .u64 0]) (by kernel_rfl) _ (fun _ => rfl) (fun b_7 => ?_))
  refine GoO.exec (is := [1]) (hs := [.p]) (rest := []) (ks := [0, 1, 2, 6]) (env' := [(0, .pointer (some ⟨b_2, 0, none⟩)), (1, .int .u64 id_5), (2, .int .u64 seq_6), (6, .pointer (some ⟨b_7, 0, none⟩))]) (H' := [⟨40, b_7, [.int .i64 0, .int .u64 0, .int .u64 0]⟩, ⟨1, b_2, [.int .u64 t_1.Now, .int .u64 t_1.Next, .slice A_3 t_1.Rows.length c_4]⟩]) (ps := []) (by kernel_rfl) trivial ?_
  refine GoO.regionEnd ?_
  refine GoO.seq' c46_2e ?_
  refine GoO.region' (is := [0, 1, 2, 3]) c46_3e (by kernel_rfl) ?_
  refine GoO.exec (is := [0, 1]) (hs := [.p, .p]) (rest := [2, 3]) (ks := [0, 2, 6, 9, 10]) (env' := [(0, .pointer (some ⟨b_2, 0, none⟩)), (2, .int .u64 seq_6), (6, .pointer (some ⟨b_7, 0, none⟩)), (9, .pointer (some ⟨b_2, 0, none⟩)), (10, .int .u64 id_5)]) (H' := [⟨40, b_7, [.int .i64 0, .int .u64 0, .int .u64 0]⟩, ⟨1, b_2, [.int .u64 t_1.Now, .int .u64 t_1.Next, .slice A_3 t_1.Rows.length c_4]⟩]) (ps := []) (by kernel_rfl) trivial ?_
  refine OpTo.go (GoO.call rfl (by kernel_rfl) (by kernel_rfl) (tontineref15_Table_find_ok n t_1 id_5 b_2 A_3 c_4) [[0], [1], [2]] [] [(1, 1)] [(2, 0)] (hks := [0, 1]) (bks := [0]) (by kernel_rfl) (by kernel_rfl) (by kernel_rfl) (.inl rfl) rfl rfl (by kernel_rfl) (by kernel_rfl) _ (fun _ _ => rfl) _ _ (fun _ _ => rfl) (fun _ _ => rfl) (fun _ _ => by kernel_rfl) (fun _ _ => by kernel_rfl) (fun r_8 x_19 => ?_))
  refine GoO.shape (env' := [(0, .pointer (some ⟨b_2, 0, none⟩)), (2, .int .u64 seq_6), (6, .pointer (some ⟨b_7, 0, none⟩)), (9, .pointer (some ⟨b_2, 0, none⟩)), (10, .int .u64 id_5), (11, .int .i64 r_8)]) (H' := [⟨40, b_7, [.int .i64 0, .int .u64 0, .int .u64 0]⟩, ⟨1, b_2, [.int .u64 t_1.Now, .int .u64 t_1.Next, .slice A_3 t_1.Rows.length c_4]⟩]) (B' := [Ow 2 kT_tontineref15_Row A_3 c_4 t_1.Rows]) (ks := [0, 2, 6, 9, 10, 11]) (by kernel_rfl) (by kernel_rfl) (by kernel_rfl) ?_
  refine GoO.exec (is := [3]) (hs := [.p]) (rest := []) (ks := [0, 2, 6, 8]) (env' := [(0, .pointer (some ⟨b_2, 0, none⟩)), (2, .int .u64 seq_6), (6, .pointer (some ⟨b_7, 0, none⟩)), (8, .int .i64 r_8)]) (H' := [⟨40, b_7, [.int .i64 0, .int .u64 0, .int .u64 0]⟩, ⟨1, b_2, [.int .u64 t_1.Now, .int .u64 t_1.Next, .slice A_3 t_1.Rows.length c_4]⟩]) (ps := []) (by kernel_rfl) trivial ?_
  refine GoO.regionEnd ?_
  refine GoO.seq' c46_4e ?_
  refine GoO.seq' c46_5e ?_
  refine GoO.region' (is := [0, 1]) c46_6e (by kernel_rfl) ?_
  refine GoO.exec (is := [0, 1]) (hs := [.p, .p]) (rest := []) (ks := [0, 2, 6, 8, 13]) (env' := [(0, .pointer (some ⟨b_2, 0, none⟩)), (2, .int .u64 seq_6), (6, .pointer (some ⟨b_7, 0, none⟩)), (8, .int .i64 r_8), (13, .bool (decide (r_8 < 0)))]) (H' := [⟨40, b_7, [.int .i64 0, .int .u64 0, .int .u64 0]⟩, ⟨1, b_2, [.int .u64 t_1.Now, .int .u64 t_1.Next, .slice A_3 t_1.Rows.length c_4]⟩]) (ps := []) (by kernel_rfl) trivial ?_
  refine GoO.regionEnd ?_
  refine GoO.ite' c46_7e (by kernel_rfl) (fun h9 => ?_) (fun h9 => ?_)
  · refine GoO.seq' c46_8e ?_
    refine GoO.region' (is := [0, 1, 2]) c46_9e (by kernel_rfl) ?_
    refine GoO.exec (is := [0, 1, 2]) (hs := [.p, .b 0, .p]) (rest := []) (ks := [6, 7]) (env' := [(6, .pointer (some ⟨b_7, 0, none⟩)), (7, .bool false)]) (H' := [⟨40, b_7, [.int .i64 40, .int .u64 0, .int .u64 0]⟩, ⟨1, b_2, [.int .u64 t_1.Now, .int .u64 t_1.Next, .slice A_3 t_1.Rows.length c_4]⟩]) (ps := [b_7 = b_7]) (by kernel_rfl) (And.intro rfl trivial) ?_
    refine GoO.regionEnd ?_
    exact GoO.ret' (h := c46_10e) (hs := [0]) (ps := [b_7 = b_7]) (hk := [1]) (bk := [0]) Try.func46 (⟨A_3, c_4⟩ : Option Addr × Nat) (by kernel_rfl) (And.intro rfl trivial) (by kernel_rfl) (by kernel_rfl)
  · refine GoO.skip' c46_11e ?_
    refine GoO.seq' c46_12e ?_
    refine GoO.draw c46_13e (by kernel_rfl) [9, 10, 11] [⟨1, b_2, [.int .u64 t_1.Now, .int .u64 t_1.Next, .slice A_3 t_1.Rows.length c_4]⟩] [] (n := 12) (by kernel_rfl) ?_
    simp only [List.replicate]
    refine GoF.take [0, 1, 2, 3, 4, 5, 6, 7, 8] [.p, .p, .p, .b 0, .p, .p, .p, .p, .b 0] (ks := [0, 2, 6, 8, 18, 19, 23]) (fu := 3) (li := [true, true, true, true, true, true, true, true, true, false, false, false]) (env' := [(0, .pointer (some ⟨b_2, 0, none⟩)), (2, .int .u64 seq_6), (6, .pointer (some ⟨b_7, 0, none⟩)), (8, .int .i64 r_8), (18, .slice A_3 t_1.Rows.length c_4), (19, .int .i64 r_8), (23, .int .u64 t_1.Now)]) (ps := [b_2 = b_2, b_2 = b_2]) (hk := [1]) (bk := []) (by kernel_rfl) (And.intro rfl (And.intro rfl trivial)) rfl rfl ?_
    refine GoF.guard (fun h10 => ?_)
    refine OpTo.goE (i := 9) (by kernel_rfl) rfl (GoO.idx (kk := .i64) (e := 100) (K := kT_tontineref15_Row) (A := A_3) (c := c_4) (xs := t_1.Rows) (iv := r_8) (j := 0) rfl (by kernel_rfl) (by kernel_rfl) (by kernel_rfl) (by kernel_rfl) rfl Reads.own rfl h10.1 h10.2 (by decide) rfl ?_)
    refine OpTo.goE (i := 10) (by kernel_rfl) rfl (GoO.fldE (K := kT_tontineref15_Row) (A := A_3) (c := c_4) (xs := t_1.Rows) (iN := r_8.toNat) (off := 0) (n := 1) (j := 0) rfl (by kernel_rfl) (by kernel_rfl) rfl Reads.own (by first | exact idx_lt h10.1 h10.2 | (simp only [List.length_set]; exact idx_lt h10.1 h10.2)) (by decide) rfl ?_)
    refine OpTo.goE (i := 11) (by kernel_rfl) rfl (GoO.stE (K := kT_tontineref15_Row) (A := A_3) (c := c_4) (xs := t_1.Rows) (iN := r_8.toNat) (off := 1) (tg := 2) (j := 0) (v := .int .u64 t_1.Now) rfl (by kernel_rfl) (by kernel_rfl) rfl (by first | exact idx_lt h10.1 h10.2 | (simp only [List.length_set]; exact idx_lt h10.1 h10.2)) (by decide) (by kernel_rfl) (by kernel_rfl) (by kernel_rfl) ((⟨(rdL t_1.Rows r_8).Id, t_1.Now, (rdL t_1.Rows r_8).Seq, (⟨(rdL t_1.Rows r_8).Reply.Err, (rdL t_1.Rows r_8).Reply.Num, (rdL t_1.Rows r_8).Reply.Extra⟩ : T_api_Reply)⟩ : T_tontineref15_Row)) (fun w S cs _ hr => ⟨_, by subst hr; exact stored_flat rfl, rfl⟩) rfl ?_)
    refine GoF.reval (t := 18) (v := .slice A_3 t_1.Rows.length c_4) (v' := .slice A_3 (t_1.Rows.set r_8.toNat (⟨(rdL t_1.Rows r_8).Id, t_1.Now, (rdL t_1.Rows r_8).Seq, (⟨(rdL t_1.Rows r_8).Reply.Err, (rdL t_1.Rows r_8).Reply.Num, (rdL t_1.Rows r_8).Reply.Extra⟩ : T_api_Reply)⟩ : T_tontineref15_Row)).length c_4) (by kernel_rfl) (by simp) ?_
    refine GoF.rebox (j := 1) (t := 1) (b := b_2) (cs := [.int .u64 t_1.Now, .int .u64 t_1.Next, .slice A_3 t_1.Rows.length c_4]) (cs' := [.int .u64 t_1.Now, .int .u64 t_1.Next, .slice A_3 (t_1.Rows.set r_8.toNat (⟨(rdL t_1.Rows r_8).Id, t_1.Now, (rdL t_1.Rows r_8).Seq, (⟨(rdL t_1.Rows r_8).Reply.Err, (rdL t_1.Rows r_8).Reply.Num, (rdL t_1.Rows r_8).Reply.Extra⟩ : T_api_Reply)⟩ : T_tontineref15_Row)).length c_4]) (by kernel_rfl) (by simp) ?_
    refine GoF.done (by kernel_rfl) ?_
    refine GoO.seq' c46_14e ?_
    refine GoO.seq' c46_15e ?_
    refine GoO.region' (is := [0, 1, 2, 3, 4, 5, 6, 7, 8, 9, 10, 11, 12, 13]) c46_16e (by kernel_rfl) ?_
    refine GoO.exec (is := [0, 1, 2]) (hs := [.p, .p, .p]) (rest := [3, 4, 5, 6, 7, 8, 9, 10, 11, 12, 13]) (ks := [0, 2, 6, 8, 28]) (env' := [(0, .pointer (some ⟨b_2, 0, none⟩)), (2, .int .u64 seq_6), (6, .pointer (some ⟨b_7, 0, none⟩)), (8, .int .i64 r_8), (28, .bool (seq_6 != 0))]) (H' := [⟨40, b_7, [.int .i64 0, .int .u64 0, .int .u64 0]⟩, ⟨1, b_2, [.int .u64 t_1.Now, .int .u64 t_1.Next, .slice A_3 (t_1.Rows.set r_8.toNat (⟨(rdL t_1.Rows r_8).Id, t_1.Now, (rdL t_1.Rows r_8).Seq, (⟨(rdL t_1.Rows r_8).Reply.Err, (rdL t_1.Rows r_8).Reply.Num, (rdL t_1.Rows r_8).Reply.Extra⟩ : T_api_Reply)⟩ : T_tontineref15_Row)).length c_4]⟩]) (ps := []) (by kernel_rfl) trivial ?_
    refine GoO.bsplit (t := 28) (by kernel_rfl) (fun h11 => ?_) (fun h11 => ?_)
    · refine GoO.exec (is := [3, 4, 5, 6, 7, 8]) (hs := [.p, .p, .p, .p, .b 1, .p]) (rest := [9, 10, 11, 12, 13]) (ks := [0, 2, 6, 8, 28, 29, 33, 34]) (env' := [(0, .pointer (some ⟨b_2, 0, none⟩)), (2, .int .u64 seq_6), (6, .pointer (some ⟨b_7, 0, none⟩)), (8, .int .i64 r_8), (28, .bool true), (29, .int .u64 seq_6), (33, .slice A_3 (t_1.Rows.set r_8.toNat (⟨(rdL t_1.Rows r_8).Id, t_1.Now, (rdL t_1.Rows r_8).Seq, (⟨(rdL t_1.Rows r_8).Reply.Err, (rdL t_1.Rows r_8).Reply.Num, (rdL t_1.Rows r_8).Reply.Extra⟩ : T_api_Reply)⟩ : T_tontineref15_Row)).length c_4), (34, .int .i64 r_8)]) (H' := [⟨40, b_7, [.int .i64 0, .int .u64 0, .int .u64 0]⟩, ⟨1, b_2, [.int .u64 t_1.Now, .int .u64 t_1.Next, .slice A_3 (t_1.Rows.set r_8.toNat (⟨(rdL t_1.Rows r_8).Id, t_1.Now, (rdL t_1.Rows r_8).Seq, (⟨(rdL t_1.Rows r_8).Reply.Err, (rdL t_1.Rows r_8).Reply.Num, (rdL t_1.Rows r_8).Reply.Extra⟩ : T_api_Reply)⟩ : T_tontineref15_Row)).length c_4]⟩]) (ps := [b_2 = b_2]) (by kernel_rfl) (And.intro rfl trivial) ?_
      refine GoO.guard (fun h12 => ?_)
      refine OpTo.go (GoO.idx (kk := .i64) (e := 100) (K := kT_tontineref15_Row) (A := A_3) (c := c_4) (xs := t_1.Rows.set r_8.toNat (⟨(rdL t_1.Rows r_8).Id, t_1.Now, (rdL t_1.Rows r_8).Seq, (⟨(rdL t_1.Rows r_8).Reply.Err, (rdL t_1.Rows r_8).Reply.Num, (rdL t_1.Rows r_8).Reply.Extra⟩ : T_api_Reply)⟩ : T_tontineref15_Row)) (iv := r_8) (j := 0) rfl (by kernel_rfl) (by kernel_rfl) (by kernel_rfl) (by kernel_rfl) rfl Reads.own rfl h12.1 h12.2 (by decide) rfl ?_)
      refine OpTo.go (GoO.fldE (K := kT_tontineref15_Row) (A := A_3) (c := c_4) (xs := t_1.Rows.set r_8.toNat (⟨(rdL t_1.Rows r_8).Id, t_1.Now, (rdL t_1.Rows r_8).Seq, (⟨(rdL t_1.Rows r_8).Reply.Err, (rdL t_1.Rows r_8).Reply.Num, (rdL t_1.Rows r_8).Reply.Extra⟩ : T_api_Reply)⟩ : T_tontineref15_Row)) (iN := r_8.toNat) (off := 0) (n := 2) (j := 0) rfl (by kernel_rfl) (by kernel_rfl) rfl Reads.own (by first | exact idx_lt h12.1 h12.2 | (simp only [List.length_set]; exact idx_lt h12.1 h12.2)) (by decide) rfl ?_)
      refine OpTo.go (GoO.ldE' (K := kT_tontineref15_Row) (A := A_3) (c := c_4) (xs := t_1.Rows.set r_8.toNat (⟨(rdL t_1.Rows r_8).Id, t_1.Now, (rdL t_1.Rows r_8).Seq, (⟨(rdL t_1.Rows r_8).Reply.Err, (rdL t_1.Rows r_8).Reply.Num, (rdL t_1.Rows r_8).Reply.Extra⟩ : T_api_Reply)⟩ : T_tontineref15_Row)) (iN := r_8.toNat) (off := 2) (j := 0) rfl (by kernel_rfl) rfl Reads.own (by first | exact idx_lt h12.1 h12.2 | (simp only [List.length_set]; exact idx_lt h12.1 h12.2)) (by decide) (Opn.flat _ _ _ _ _) (v := fun _ => .int .u64 ((rdL (t_1.Rows.set r_8.toNat (⟨(rdL t_1.Rows r_8).Id, t_1.Now, (rdL t_1.Rows r_8).Seq, (⟨(rdL t_1.Rows r_8).Reply.Err, (rdL t_1.Rows r_8).Reply.Num, (rdL t_1.Rows r_8).Reply.Extra⟩ : T_api_Reply)⟩ : T_tontineref15_Row)) r_8).Seq)) (fun _ => by kernel_rfl) _ (fun _ => rfl) (fun _ => ?_))
      refine GoO.exec (is := [12, 13]) (hs := [.p, .p]) (rest := []) (ks := [0, 2, 6, 8, 39]) (env' := [(0, .pointer (some ⟨b_2, 0, none⟩)), (2, .int .u64 seq_6), (6, .pointer (some ⟨b_7, 0, none⟩)), (8, .int .i64 r_8), (39, .bool (seq_6 == ((rdL (t_1.Rows.set r_8.toNat (⟨(rdL t_1.Rows r_8).Id, t_1.Now, (rdL t_1.Rows r_8).Seq, (⟨(rdL t_1.Rows r_8).Reply.Err, (rdL t_1.Rows r_8).Reply.Num, (rdL t_1.Rows r_8).Reply.Extra⟩ : T_api_Reply)⟩ : T_tontineref15_Row)) r_8).Seq)))]) (H' := [⟨40, b_7, [.int .i64 0, .int .u64 0, .int .u64 0]⟩, ⟨1, b_2, [.int .u64 t_1.Now, .int .u64 t_1.Next, .slice A_3 (t_1.Rows.set r_8.toNat (⟨(rdL t_1.Rows r_8).Id, t_1.Now, (rdL t_1.Rows r_8).Seq, (⟨(rdL t_1.Rows r_8).Reply.Err, (rdL t_1.Rows r_8).Reply.Num, (rdL t_1.Rows r_8).Reply.Extra⟩ : T_api_Reply)⟩ : T_tontineref15_Row)).length c_4]⟩]) (ps := []) (by kernel_rfl) trivial ?_
      refine GoO.regionEnd ?_
      exact GoO.sub (ks := [0, 2, 6, 8, 39]) (hk := [1, 0]) (bk := [0]) (by kernel_rfl) (by kernel_rfl) (by kernel_rfl) (tontineref15_Table_Begin_j0_ok n t_1 seq_6 r_8 b_2 A_3 c_4 b_7 w0 S0 (seq_6 == ((rdL (t_1.Rows.set r_8.toNat (⟨(rdL t_1.Rows r_8).Id, t_1.Now, (rdL t_1.Rows r_8).Seq, (⟨(rdL t_1.Rows r_8).Reply.Err, (rdL t_1.Rows r_8).Reply.Num, (rdL t_1.Rows r_8).Reply.Extra⟩ : T_api_Reply)⟩ : T_tontineref15_Row)) r_8).Seq)))
    · refine GoO.exec (is := [3, 4, 5, 6, 7, 8, 9, 10, 11, 12, 13]) (hs := [.p, .p, .p, .p, .p, .p, .p, .p, .p, .p, .p]) (rest := []) (ks := [0, 2, 6, 8, 39]) (env' := [(0, .pointer (some ⟨b_2, 0, none⟩)), (2, .int .u64 seq_6), (6, .pointer (some ⟨b_7, 0, none⟩)), (8, .int .i64 r_8), (39, .bool false)]) (H' := [⟨40, b_7, [.int .i64 0, .int .u64 0, .int .u64 0]⟩, ⟨1, b_2, [.int .u64 t_1.Now, .int .u64 t_1.Next, .slice A_3 (t_1.Rows.set r_8.toNat (⟨(rdL t_1.Rows r_8).Id, t_1.Now, (rdL t_1.Rows r_8).Seq, (⟨(rdL t_1.Rows r_8).Reply.Err, (rdL t_1.Rows r_8).Reply.Num, (rdL t_1.Rows r_8).Reply.Extra⟩ : T_api_Reply)⟩ : T_tontineref15_Row)).length c_4]⟩]) (ps := []) (by kernel_rfl) trivial ?_
      refine GoO.regionEnd ?_
      exact GoO.sub (ks := [0, 2, 6, 8, 39]) (hk := [1, 0]) (bk := [0]) (by kernel_rfl) (by kernel_rfl) (by kernel_rfl) (tontineref15_Table_Begin_j0_ok n t_1 seq_6 r_8 b_2 A_3 c_4 b_7 w0 S0 false)

/-! (*tontine/tontineref15.Table).End -/
noncomputable def c47_0 : Code := bodyOf Try.f47
noncomputable def c47_1 : Code := cdL c47_0
noncomputable def c47_2 : Code := cdR c47_0
noncomputable def c47_3 : Code := cdL c47_2
noncomputable def c47_4 : Code := cdR c47_2
noncomputable def c47_5 : Code := cdL c47_4
noncomputable def c47_6 : Code := cdL c47_5
noncomputable def c47_7 : Code := cdR c47_5
noncomputable def c47_8 : Code := cdL c47_7
noncomputable def c47_9 : Code := cdL c47_8
noncomputable def c47_10 : Code := cdR c47_8
noncomputable def c47_11 : Code := cdR c47_7
noncomputable def c47_12 : Code := cdR c47_4
noncomputable def c47_13 : Code := cdL c47_12
noncomputable def c47_14 : Code := cdR c47_12
noncomputable def c47_15 : Code := cdL c47_14
noncomputable def c47_16 : Code := cdR c47_14
noncomputable def c47_17 : Code := cdL c47_16
noncomputable def c47_18 : Code := cdR c47_16
noncomputable def r47_1 : Array Oper := cdO c47_1
noncomputable def r47_3 : Array Oper := cdO c47_3
noncomputable def r47_6 : Array Oper := cdO c47_6
noncomputable def r47_9 : Array Oper := cdO c47_9
noncomputable def r47_13 : Array Oper := cdO c47_13
noncomputable def r47_15 : Array Oper := cdO c47_15
noncomputable def r47_17 : Array Oper := cdO c47_17
theorem c47_0e : c47_0 = .seq c47_1 c47_2 := by kernel_rfl
theorem c47_1e : c47_1 = .region 0 r47_1 false := by kernel_rfl
theorem c47_2e : c47_2 = .seq c47_3 c47_4 := by kernel_rfl
theorem c47_3e : c47_3 = .region 1 r47_3 false := by kernel_rfl
theorem c47_4e : c47_4 = .seq c47_5 c47_12 := by kernel_rfl
theorem c47_5e : c47_5 = .seq c47_6 c47_7 := by kernel_rfl
theorem c47_6e : c47_6 = .region 2 r47_6 false := by kernel_rfl
theorem c47_7e : c47_7 = .cond (cdC c47_7) c47_8 c47_11 := by kernel_rfl
theorem c47_8e : c47_8 = .seq c47_9 c47_10 := by kernel_rfl
theorem c47_9e : c47_9 = .region 3 r47_9 false := by kernel_rfl
theorem c47_10e : c47_10 = .ret := by kernel_rfl
theorem c47_11e : c47_11 = .skip := by kernel_rfl
theorem c47_12e : c47_12 = .seq c47_13 c47_14 := by kernel_rfl
theorem c47_13e : c47_13 = .region 4 r47_13 false := by kernel_rfl
theorem c47_14e : c47_14 = .seq c47_15 c47_16 := by kernel_rfl
theorem c47_15e : c47_15 = .region 5 r47_15 true := by kernel_rfl
theorem c47_16e : c47_16 = .seq c47_17 c47_18 := by kernel_rfl
theorem c47_17e : c47_17 = .region 6 r47_17 false := by kernel_rfl
theorem c47_18e : c47_18 = .ret := by kernel_rfl
noncomputable def tontineref15_Table_End.R (b_2 : Nat) (A_3 : Option Addr) (c_4 : Nat) : Pst (Bool × T_tontineref15_Table) where
  ε := Option Addr × Nat
  v := fun r x => .bool r.1
  H := fun r x => [⟨1, b_2, [.int .u64 r.2.Now, .int .u64 r.2.Next, .slice x.1 r.2.Rows.length x.2]⟩]
  B := fun r x => [Ow 2 kT_tontineref15_Row x.1 x.2 r.2.Rows]
noncomputable def tontineref15_Table_End.cx (b_2 : Nat) (A_3 : Option Addr) (c_4 : Nat) (w0 : World) (S0 : Fam) : Cx (Bool × T_tontineref15_Table) := ⟨Try.prog, 47, Try.f47, 48, w0, S0, [1, 2], 2, tontineref15_Table_End.R b_2 A_3 c_4⟩
theorem tontineref15_Table_End_j0_ok (n : Nat) (t_1 : T_tontineref15_Table) (seq_6 : Int) (y_7 : T_api_Reply) (r_9 : Int) (b_2 : Nat) (A_3 : Option Addr) (c_4 : Nat) (b_8 : Nat) (w0 : World) (S0 : Fam) (b_13 : Bool) :
    GoO (tontineref15_Table_End.cx b_2 A_3 c_4 w0 S0) [(0, .pointer (some ⟨b_2, 0, none⟩)), (2, .int .u64 seq_6), (7, .pointer (some ⟨b_8, 0, none⟩)), (9, .int .i64 r_9), (31, .bool b_13)] [⟨1, b_2, [.int .u64 t_1.Now, .int .u64 t_1.Next, .slice A_3 t_1.Rows.length c_4]⟩, ⟨40, b_8, [.int .i64 y_7.Err, .int .u64 y_7.Num, .int .u64 y_7.Extra]⟩] [Ow 2 kT_tontineref15_Row A_3 c_4 t_1.Rows] [.code c47_7, .code c47_12] (tontineref15_Table_End.j0 n t_1 seq_6 y_7 r_9 b_13) := by
  unfold tontineref15_Table_End.j0
  refine GoO.ite' c47_7e (by kernel_rfl) (fun h14 => ?_) (fun h14 => ?_)
  · refine GoO.seq' c47_8e ?_
    refine GoO.region' (is := [0]) c47_9e (by kernel_rfl) ?_
    refine GoO.exec (is := [0]) (hs := [.p]) (rest := []) (ks := [8]) (env' := [(8, .bool false)]) (H' := [⟨1, b_2, [.int .u64 t_1.Now, .int .u64 t_1.Next, .slice A_3 t_1.Rows.length c_4]⟩, ⟨40, b_8, [.int .i64 y_7.Err, .int .u64 y_7.Num, .int .u64 y_7.Extra]⟩]) (ps := []) (by kernel_rfl) trivial ?_
    refine GoO.regionEnd ?_
    exact GoO.ret' (h := c47_10e) (hs := []) (ps := []) (hk := [0]) (bk := [0]) Try.func47 (⟨A_3, c_4⟩ : Option Addr × Nat) (by kernel_rfl) trivial (by kernel_rfl) (by kernel_rfl)
  · refine GoO.skip' c47_11e ?_
    refine GoO.seq' c47_12e ?_
    refine GoO.region' (is := [0, 1, 2, 3, 4, 5, 6, 7, 8]) c47_13e (by kernel_rfl) ?_
    refine GoO.exec (is := [0, 1, 2, 3, 4, 5]) (hs := [.p, .p, .p, .b 0, .p, .p]) (rest := [6, 7, 8]) (ks := [0, 7, 9, 35, 36, 37]) (env' := [(0, .pointer (some ⟨b_2, 0, none⟩)), (7, .pointer (some ⟨b_8, 0, none⟩)), (9, .int .i64 r_9), (35, .slice A_3 t_1.Rows.length c_4), (36, .int .i64 r_9), (37, .int .u64 seq_6)]) (H' := [⟨1, b_2, [.int .u64 t_1.Now, .int .u64 t_1.Next, .slice A_3 t_1.Rows.length c_4]⟩, ⟨40, b_8, [.int .i64 y_7.Err, .int .u64 y_7.Num, .int .u64 y_7.Extra]⟩]) (ps := [b_2 = b_2]) (by kernel_rfl) (And.intro rfl trivial) ?_
    refine GoO.guard (fun h15 => ?_)
    refine OpTo.go (GoO.idx (kk := .i64) (e := 100) (K := kT_tontineref15_Row) (A := A_3) (c := c_4) (xs := t_1.Rows) (iv := r_9) (j := 0) rfl (by kernel_rfl) (by kernel_rfl) (by kernel_rfl) (by kernel_rfl) rfl Reads.own rfl h15.1 h15.2 (by decide) rfl ?_)
    refine OpTo.go (GoO.fldE (K := kT_tontineref15_Row) (A := A_3) (c := c_4) (xs := t_1.Rows) (iN := r_9.toNat) (off := 0) (n := 2) (j := 0) rfl (by kernel_rfl) (by kernel_rfl) rfl Reads.own (by first | exact idx_lt h15.1 h15.2 | (simp only [List.length_set]; exact idx_lt h15.1 h15.2)) (by decide) rfl ?_)
    refine OpTo.go (GoO.stE (K := kT_tontineref15_Row) (A := A_3) (c := c_4) (xs := t_1.Rows) (iN := r_9.toNat) (off := 2) (tg := 2) (j := 0) (v := .int .u64 seq_6) rfl (by kernel_rfl) (by kernel_rfl) rfl (by first | exact idx_lt h15.1 h15.2 | (simp only [List.length_set]; exact idx_lt h15.1 h15.2)) (by decide) (by kernel_rfl) (by kernel_rfl) (by kernel_rfl) ((⟨(rdL t_1.Rows r_9).Id, (rdL t_1.Rows r_9).Used, seq_6, (⟨(rdL t_1.Rows r_9).Reply.Err, (rdL t_1.Rows r_9).Reply.Num, (rdL t_1.Rows r_9).Reply.Extra⟩ : T_api_Reply)⟩ : T_tontineref15_Row)) (fun w S cs _ hr => ⟨_, by subst hr; exact stored_flat rfl, rfl⟩) rfl ?_)
    refine GoO.reval (t := 35) (v := .slice A_3 t_1.Rows.length c_4) (v' := .slice A_3 (t_1.Rows.set r_9.toNat (⟨(rdL t_1.Rows r_9).Id, (rdL t_1.Rows r_9).Used, seq_6, (⟨(rdL t_1.Rows r_9).Reply.Err, (rdL t_1.Rows r_9).Reply.Num, (rdL t_1.Rows r_9).Reply.Extra⟩ : T_api_Reply)⟩ : T_tontineref15_Row)).length c_4) (by kernel_rfl) (by simp) ?_
    refine GoO.rebox (j := 0) (t := 1) (b := b_2) (cs := [.int .u64 t_1.Now, .int .u64 t_1.Next, .slice A_3 t_1.Rows.length c_4]) (cs' := [.int .u64 t_1.Now, .int .u64 t_1.Next, .slice A_3 (t_1.Rows.set r_9.toNat (⟨(rdL t_1.Rows r_9).Id, (rdL t_1.Rows r_9).Used, seq_6, (⟨(rdL t_1.Rows r_9).Reply.Err, (rdL t_1.Rows r_9).Reply.Num, (rdL t_1.Rows r_9).Reply.Extra⟩ : T_api_Reply)⟩ : T_tontineref15_Row)).length c_4]) (by kernel_rfl) (by simp) ?_
    refine GoO.regionEnd ?_
    refine GoO.seq' c47_14e ?_
    refine GoO.draw c47_15e (by kernel_rfl) [6, 7, 8] [⟨1, b_2, [.int .u64 t_1.Now, .int .u64 t_1.Next, .slice A_3 (t_1.Rows.set r_9.toNat (⟨(rdL t_1.Rows r_9).Id, (rdL t_1.Rows r_9).Used, seq_6, (⟨(rdL t_1.Rows r_9).Reply.Err, (rdL t_1.Rows r_9).Reply.Num, (rdL t_1.Rows r_9).Reply.Extra⟩ : T_api_Reply)⟩ : T_tontineref15_Row)).length c_4]⟩, ⟨40, b_8, [.int .i64 y_7.Err, .int .u64 y_7.Num, .int .u64 y_7.Extra]⟩] [] (n := 9) (by kernel_rfl) ?_
    simp only [List.replicate]
    refine GoF.take [0, 1, 2, 3, 4, 5] [.p, .p, .p, .b 0, .p, .b 1] (ks := [43, 44, 45]) (fu := 3) (li := [true, true, true, true, true, true, false, false, false]) (env' := [(43, .slice A_3 (t_1.Rows.set r_9.toNat (⟨(rdL t_1.Rows r_9).Id, (rdL t_1.Rows r_9).Used, seq_6, (⟨(rdL t_1.Rows r_9).Reply.Err, (rdL t_1.Rows r_9).Reply.Num, (rdL t_1.Rows r_9).Reply.Extra⟩ : T_api_Reply)⟩ : T_tontineref15_Row)).length c_4), (44, .int .i64 r_9), (45, .agg ⟨[.int .i64 y_7.Err, .int .u64 y_7.Num, .int .u64 y_7.Extra]⟩)]) (ps := [b_2 = b_2, b_8 = b_8]) (hk := [0, 1]) (bk := []) (by kernel_rfl) (And.intro rfl (And.intro rfl trivial)) rfl rfl ?_
    refine GoF.guard (fun h16 => ?_)
    refine OpTo.goE (i := 6) (by kernel_rfl) rfl (GoO.idx (kk := .i64) (e := 100) (K := kT_tontineref15_Row) (A := A_3) (c := c_4) (xs := t_1.Rows.set r_9.toNat (⟨(rdL t_1.Rows r_9).Id, (rdL t_1.Rows r_9).Used, seq_6, (⟨(rdL t_1.Rows r_9).Reply.Err, (rdL t_1.Rows r_9).Reply.Num, (rdL t_1.Rows r_9).Reply.Extra⟩ : T_api_Reply)⟩ : T_tontineref15_Row)) (iv := r_9) (j := 0) rfl (by kernel_rfl) (by kernel_rfl) (by kernel_rfl) (by kernel_rfl) rfl Reads.own rfl h16.1 h16.2 (by decide) rfl ?_)
    refine OpTo.goE (i := 7) (by kernel_rfl) rfl (GoO.fldE (K := kT_tontineref15_Row) (A := A_3) (c := c_4) (xs := t_1.Rows.set r_9.toNat (⟨(rdL t_1.Rows r_9).Id, (rdL t_1.Rows r_9).Used, seq_6, (⟨(rdL t_1.Rows r_9).Reply.Err, (rdL t_1.Rows r_9).Reply.Num, (rdL t_1.Rows r_9).Reply.Extra⟩ : T_api_Reply)⟩ : T_tontineref15_Row)) (iN := r_9.toNat) (off := 0) (n := 3) (j := 0) rfl (by kernel_rfl) (by kernel_rfl) rfl Reads.own (by first | exact idx_lt h16.1 h16.2 | (simp only [List.length_set]; exact idx_lt h16.1 h16.2)) (by decide) rfl ?_)
    refine OpTo.goE (i := 8) (by kernel_rfl) rfl (GoO.stE (K := kT_tontineref15_Row) (A := A_3) (c := c_4) (xs := t_1.Rows.set r_9.toNat (⟨(rdL t_1.Rows r_9).Id, (rdL t_1.Rows r_9).Used, seq_6, (⟨(rdL t_1.Rows r_9).Reply.Err, (rdL t_1.Rows r_9).Reply.Num, (rdL t_1.Rows r_9).Reply.Extra⟩ : T_api_Reply)⟩ : T_tontineref15_Row)) (iN := r_9.toNat) (off := 3) (tg := 2) (j := 0) (v := .agg ⟨[.int .i64 y_7.Err, .int .u64 y_7.Num, .int .u64 y_7.Extra]⟩) rfl (by kernel_rfl) (by kernel_rfl) rfl (by first | exact idx_lt h16.1 h16.2 | (simp only [List.length_set]; exact idx_lt h16.1 h16.2)) (by decide) (by kernel_rfl) (by kernel_rfl) (by kernel_rfl) ((⟨(rdL (t_1.Rows.set r_9.toNat (⟨(rdL t_1.Rows r_9).Id, (rdL t_1.Rows r_9).Used, seq_6, (⟨(rdL t_1.Rows r_9).Reply.Err, (rdL t_1.Rows r_9).Reply.Num, (rdL t_1.Rows r_9).Reply.Extra⟩ : T_api_Reply)⟩ : T_tontineref15_Row)) r_9).Id, (rdL (t_1.Rows.set r_9.toNat (⟨(rdL t_1.Rows r_9).Id, (rdL t_1.Rows r_9).Used, seq_6, (⟨(rdL t_1.Rows r_9).Reply.Err, (rdL t_1.Rows r_9).Reply.Num, (rdL t_1.Rows r_9).Reply.Extra⟩ : T_api_Reply)⟩ : T_tontineref15_Row)) r_9).Used, (rdL (t_1.Rows.set r_9.toNat (⟨(rdL t_1.Rows r_9).Id, (rdL t_1.Rows r_9).Used, seq_6, (⟨(rdL t_1.Rows r_9).Reply.Err, (rdL t_1.Rows r_9).Reply.Num, (rdL t_1.Rows r_9).Reply.Extra⟩ : T_api_Reply)⟩ : T_tontineref15_Row)) r_9).Seq, y_7⟩ : T_tontineref15_Row)) (fun w S cs _ hr => ⟨_, by subst hr; exact stored_flat rfl, rfl⟩) rfl ?_)
    refine GoF.reval (t := 43) (v := .slice A_3 (t_1.Rows.set r_9.toNat (⟨(rdL t_1.Rows r_9).Id, (rdL t_1.Rows r_9).Used, seq_6, (⟨(rdL t_1.Rows r_9).Reply.Err, (rdL t_1.Rows r_9).Reply.Num, (rdL t_1.Rows r_9).Reply.Extra⟩ : T_api_Reply)⟩ : T_tontineref15_Row)).length c_4) (v' := .slice A_3 ((t_1.Rows.set r_9.toNat (⟨(rdL t_1.Rows r_9).Id, (rdL t_1.Rows r_9).Used, seq_6, (⟨(rdL t_1.Rows r_9).Reply.Err, (rdL t_1.Rows r_9).Reply.Num, (rdL t_1.Rows r_9).Reply.Extra⟩ : T_api_Reply)⟩ : T_tontineref15_Row)).set r_9.toNat (⟨(rdL (t_1.Rows.set r_9.toNat (⟨(rdL t_1.Rows r_9).Id, (rdL t_1.Rows r_9).Used, seq_6, (⟨(rdL t_1.Rows r_9).Reply.Err, (rdL t_1.Rows r_9).Reply.Num, (rdL t_1.Rows r_9).Reply.Extra⟩ : T_api_Reply)⟩ : T_tontineref15_Row)) r_9).Id, (rdL (t_1.Rows.set r_9.toNat (⟨(rdL t_1.Rows r_9).Id, (rdL t_1.Rows r_9).Used, seq_6, (⟨(rdL t_1.Rows r_9).Reply.Err, (rdL t_1.Rows r_9).Reply.Num, (rdL t_1.Rows r_9).Reply.Extra⟩ : T_api_Reply)⟩ : T_tontineref15_Row)) r_9).Used, (rdL (t_1.Rows.set r_9.toNat (⟨(rdL t_1.Rows r_9).Id, (rdL t_1.Rows r_9).Used, seq_6, (⟨(rdL t_1.Rows r_9).Reply.Err, (rdL t_1.Rows r_9).Reply.Num, (rdL t_1.Rows r_9).Reply.Extra⟩ : T_api_Reply)⟩ : T_tontineref15_Row)) r_9).Seq, y_7⟩ : T_tontineref15_Row)).length c_4) (by kernel_rfl) (by simp) ?_
    refine GoF.rebox (j := 0) (t := 1) (b := b_2) (cs := [.int .u64 t_1.Now, .int .u64 t_1.Next, .slice A_3 (t_1.Rows.set r_9.toNat (⟨(rdL t_1.Rows r_9).Id, (rdL t_1.Rows r_9).Used, seq_6, (⟨(rdL t_1.Rows r_9).Reply.Err, (rdL t_1.Rows r_9).Reply.Num, (rdL t_1.Rows r_9).Reply.Extra⟩ : T_api_Reply)⟩ : T_tontineref15_Row)).length c_4]) (cs' := [.int .u64 t_1.Now, .int .u64 t_1.Next, .slice A_3 ((t_1.Rows.set r_9.toNat (⟨(rdL t_1.Rows r_9).Id, (rdL t_1.Rows r_9).Used, seq_6, (⟨(rdL t_1.Rows r_9).Reply.Err, (rdL t_1.Rows r_9).Reply.Num, (rdL t_1.Rows r_9).Reply.Extra⟩ : T_api_Reply)⟩ : T_tontineref15_Row)).set r_9.toNat (⟨(rdL (t_1.Rows.set r_9.toNat (⟨(rdL t_1.Rows r_9).Id, (rdL t_1.Rows r_9).Used, seq_6, (⟨(rdL t_1.Rows r_9).Reply.Err, (rdL t_1.Rows r_9).Reply.Num, (rdL t_1.Rows r_9).Reply.Extra⟩ : T_api_Reply)⟩ : T_tontineref15_Row)) r_9).Id, (rdL (t_1.Rows.set r_9.toNat (⟨(rdL t_1.Rows r_9).Id, (rdL t_1.Rows r_9).Used, seq_6, (⟨(rdL t_1.Rows r_9).Reply.Err, (rdL t_1.Rows r_9).Reply.Num, (rdL t_1.Rows r_9).Reply.Extra⟩ : T_api_Reply)⟩ : T_tontineref15_Row)) r_9).Used, (rdL (t_1.Rows.set r_9.toNat (⟨(rdL t_1.Rows r_9).Id, (rdL t_1.Rows r_9).Used, seq_6, (⟨(rdL t_1.Rows r_9).Reply.Err, (rdL t_1.Rows r_9).Reply.Num, (rdL t_1.Rows r_9).Reply.Extra⟩ : T_api_Reply)⟩ : T_tontineref15_Row)) r_9).Seq, y_7⟩ : T_tontineref15_Row)).length c_4]) (by kernel_rfl) (by simp) ?_
    refine GoF.done (by kernel_rfl) ?_
    refine GoO.seq' c47_16e ?_
    refine GoO.region' (is := [0]) c47_17e (by kernel_rfl) ?_
    refine GoO.exec (is := [0]) (hs := [.p]) (rest := []) (ks := [8]) (env' := [(8, .bool true)]) (H' := [⟨1, b_2, [.int .u64 t_1.Now, .int .u64 t_1.Next, .slice A_3 ((t_1.Rows.set r_9.toNat (⟨(rdL t_1.Rows r_9).Id, (rdL t_1.Rows r_9).Used, seq_6, (⟨(rdL t_1.Rows r_9).Reply.Err, (rdL t_1.Rows r_9).Reply.Num, (rdL t_1.Rows r_9).Reply.Extra⟩ : T_api_Reply)⟩ : T_tontineref15_Row)).set r_9.toNat (⟨(rdL (t_1.Rows.set r_9.toNat (⟨(rdL t_1.Rows r_9).Id, (rdL t_1.Rows r_9).Used, seq_6, (⟨(rdL t_1.Rows r_9).Reply.Err, (rdL t_1.Rows r_9).Reply.Num, (rdL t_1.Rows r_9).Reply.Extra⟩ : T_api_Reply)⟩ : T_tontineref15_Row)) r_9).Id, (rdL (t_1.Rows.set r_9.toNat (⟨(rdL t_1.Rows r_9).Id, (rdL t_1.Rows r_9).Used, seq_6, (⟨(rdL t_1.Rows r_9).Reply.Err, (rdL t_1.Rows r_9).Reply.Num, (rdL t_1.Rows r_9).Reply.Extra⟩ : T_api_Reply)⟩ : T_tontineref15_Row)) r_9).Used, (rdL (t_1.Rows.set r_9.toNat (⟨(rdL t_1.Rows r_9).Id, (rdL t_1.Rows r_9).Used, seq_6, (⟨(rdL t_1.Rows r_9).Reply.Err, (rdL t_1.Rows r_9).Reply.Num, (rdL t_1.Rows r_9).Reply.Extra⟩ : T_api_Reply)⟩ : T_tontineref15_Row)) r_9).Seq, y_7⟩ : T_tontineref15_Row)).length c_4]⟩, ⟨40, b_8, [.int .i64 y_7.Err, .int .u64 y_7.Num, .int .u64 y_7.Extra]⟩]) (ps := []) (by kernel_rfl) trivial ?_
    refine GoO.regionEnd ?_
    exact GoO.ret' (h := c47_18e) (hs := []) (ps := []) (hk := [0]) (bk := [0]) Try.func47 (⟨A_3, c_4⟩ : Option Addr × Nat) (by kernel_rfl) trivial (by kernel_rfl) (by kernel_rfl)
theorem tontineref15_Table_End_ok (n : Nat) (t_1 : T_tontineref15_Table) (id_5 : Int) (seq_6 : Int) (y_7 : T_api_Reply) (b_2 : Nat) (A_3 : Option Addr) (c_4 : Nat) :
    Meets Try.prog 47 [.pointer (some ⟨b_2, 0, none⟩), .int .u64 id_5, .int .u64 seq_6, .agg ⟨[.int .i64 y_7.Err, .int .u64 y_7.Num, .int .u64 y_7.Extra]⟩] 2 [1, 2] [⟨1, b_2, [.int .u64 t_1.Now, .int .u64 t_1.Next, .slice A_3 t_1.Rows.length c_4]⟩] [Ow 2 kT_tontineref15_Row A_3 c_4 t_1.Rows] (tontineref15_Table_End.f n t_1 id_5 seq_6 y_7) (tontineref15_Table_End.R b_2 A_3 c_4) := by
  refine Meets.of (c := c47_0) (n := 48) Try.func47 (by kernel_rfl) (by kernel_rfl) (by kernel_rfl) fun w0 S0 => ?_
  unfold tontineref15_Table_End.f
  show GoO (tontineref15_Table_End.cx b_2 A_3 c_4 w0 S0) [(0, .pointer (some ⟨b_2, 0, none⟩)), (1, .int .u64 id_5), (2, .int .u64 seq_6), (3, .agg ⟨[.int .i64 y_7.Err, .int .u64 y_7.Num, .int .u64 y_7.Extra]⟩)] [⟨1, b_2, [.int .u64 t_1.Now, .int .u64 t_1.Next, .slice A_3 t_1.Rows.length c_4]⟩] [Ow 2 kT_tontineref15_Row A_3 c_4 t_1.Rows] [.code c47_0] _
  refine GoO.seq' c47_0e ?_
  refine GoO.region' (is := [0, 1]) c47_1e (by kernel_rfl) ?_
  refine OpTo.go (GoO.new rfl 40 (cs := [.int .i64 y_7.Err, .int .u64 y_7.Num, .int .u64 y_7.Extra]) (by kernel_rfl) _ (fun _ => rfl) (fun b_8 => ?_))
  refine GoO.exec (is := [1]) (hs := [.p]) (rest := []) (ks := [0, 1, 2, 7]) (env' := [(0, .pointer (some ⟨b_2, 0, none⟩)), (1, .int .u64 id_5), (2, .int .u64 seq_6), (7, .pointer (some ⟨b_8, 0, none⟩))]) (H' := [⟨40, b_8, [.int .i64 y_7.Err, .int .u64 y_7.Num, .int .u64 y_7.Extra]⟩, ⟨1, b_2, [.int .u64 t_1.Now, .int .u64 t_1.Next, .slice A_3 t_1.Rows.length c_4]⟩]) (ps := []) (by kernel_rfl) trivial ?_
  refine GoO.regionEnd ?_
  refine GoO.seq' c47_2e ?_
  refine GoO.region' (is := [0, 1, 2, 3]) c47_3e (by kernel_rfl) ?_
  refine GoO.exec (is := [0, 1]) (hs := [.p, .p]) (rest := [2, 3]) (ks := [0, 2, 7, 10, 11]) (env' := [(0, .pointer (some ⟨b_2, 0, none⟩)), (2, .int .u64 seq_6), (7, .pointer (some ⟨b_8, 0, none⟩)), (10, .pointer (some ⟨b_2, 0, none⟩)), (11, .int .u64 id_5)]) (H' := [⟨40, b_8, [.int .i64 y_7.Err, .int .u64 y_7.Num, .int .u64 y_7.Extra]⟩, ⟨1, b_2, [.int .u64 t_1.Now, .int .u64 t_1.Next, .slice A_3 t_1.Rows.length c_4]⟩]) (ps := []) (by kernel_rfl) trivial ?_
  refine OpTo.go (GoO.call rfl (by kernel_rfl) (by kernel_rfl) (tontineref15_Table_find_ok n t_1 id_5 b_2 A_3 c_4) [[0], [1], [2]] [] [(1, 1)] [(2, 0)] (hks := [0, 1]) (bks := [0]) (by kernel_rfl) (by kernel_rfl) (by kernel_rfl) (.inl rfl) rfl rfl (by kernel_rfl) (by kernel_rfl) _ (fun _ _ => rfl) _ _ (fun _ _ => rfl) (fun _ _ => rfl) (fun _ _ => by kernel_rfl) (fun _ _ => by kernel_rfl) (fun r_9 x_17 => ?_))
  refine GoO.shape (env' := [(0, .pointer (some ⟨b_2, 0, none⟩)), (2, .int .u64 seq_6), (7, .pointer (some ⟨b_8, 0, none⟩)), (10, .pointer (some ⟨b_2, 0, none⟩)), (11, .int .u64 id_5), (12, .int .i64 r_9)]) (H' := [⟨40, b_8, [.int .i64 y_7.Err, .int .u64 y_7.Num, .int .u64 y_7.Extra]⟩, ⟨1, b_2, [.int .u64 t_1.Now, .int .u64 t_1.Next, .slice A_3 t_1.Rows.length c_4]⟩]) (B' := [Ow 2 kT_tontineref15_Row A_3 c_4 t_1.Rows]) (ks := [0, 2, 7, 10, 11, 12]) (by kernel_rfl) (by kernel_rfl) (by kernel_rfl) ?_
  refine GoO.exec (is := [3]) (hs := [.p]) (rest := []) (ks := [0, 2, 7, 9]) (env' := [(0, .pointer (some ⟨b_2, 0, none⟩)), (2, .int .u64 seq_6), (7, .pointer (some ⟨b_8, 0, none⟩)), (9, .int .i64 r_9)]) (H' := [⟨40, b_8, [.int .i64 y_7.Err, .int .u64 y_7.Num, .int .u64 y_7.Extra]⟩, ⟨1, b_2, [.int .u64 t_1.Now, .int .u64 t_1.Next, .slice A_3 t_1.Rows.length c_4]⟩]) (ps := []) (by kernel_rfl) trivial ?_
  refine GoO.regionEnd ?_
  refine GoO.seq' c47_4e ?_
  refine GoO.seq' c47_5e ?_
  refine GoO.region' (is := [0, 1, 2, 3, 4, 5, 6, 7, 8, 9, 10, 11, 12, 13, 14, 15, 16, 17, 18]) c47_6e (by kernel_rfl) ?_
  refine GoO.exec (is := [0, 1, 2]) (hs := [.p, .p, .p]) (rest := [3, 4, 5, 6, 7, 8, 9, 10, 11, 12, 13, 14, 15, 16, 17, 18]) (ks := [0, 2, 7, 9, 15]) (env' := [(0, .pointer (some ⟨b_2, 0, none⟩)), (2, .int .u64 seq_6), (7, .pointer (some ⟨b_8, 0, none⟩)), (9, .int .i64 r_9), (15, .bool (decide (r_9 < 0)))]) (H' := [⟨40, b_8, [.int .i64 y_7.Err, .int .u64 y_7.Num, .int .u64 y_7.Extra]⟩, ⟨1, b_2, [.int .u64 t_1.Now, .int .u64 t_1.Next, .slice A_3 t_1.Rows.length c_4]⟩]) (ps := []) (by kernel_rfl) trivial ?_
  refine GoO.bsplit (t := 15) (by kernel_rfl) (fun h10 => ?_) (fun h10 => ?_)
  · refine GoO.exec (is := [3, 4, 5, 6, 7, 8, 9, 10, 11, 12, 13, 14, 15, 16, 17, 18]) (hs := [.p, .p, .p, .p, .p, .p, .p, .p, .p, .p, .p, .p, .p, .p, .p, .p]) (rest := []) (ks := [0, 2, 7, 9, 31]) (env' := [(0, .pointer (some ⟨b_2, 0, none⟩)), (2, .int .u64 seq_6), (7, .pointer (some ⟨b_8, 0, none⟩)), (9, .int .i64 r_9), (31, .bool true)]) (H' := [⟨40, b_8, [.int .i64 y_7.Err, .int .u64 y_7.Num, .int .u64 y_7.Extra]⟩, ⟨1, b_2, [.int .u64 t_1.Now, .int .u64 t_1.Next, .slice A_3 t_1.Rows.length c_4]⟩]) (ps := []) (by kernel_rfl) trivial ?_
    refine GoO.regionEnd ?_
    exact GoO.sub (ks := [0, 2, 7, 9, 31]) (hk := [1, 0]) (bk := [0]) (by kernel_rfl) (by kernel_rfl) (by kernel_rfl) (tontineref15_Table_End_j0_ok n t_1 seq_6 y_7 r_9 b_2 A_3 c_4 b_8 w0 S0 true)
  · refine GoO.exec (is := [3, 4, 5, 6]) (hs := [.p, .p, .p, .p]) (rest := [7, 8, 9, 10, 11, 12, 13, 14, 15, 16, 17, 18]) (ks := [0, 2, 7, 9, 19]) (env' := [(0, .pointer (some ⟨b_2, 0, none⟩)), (2, .int .u64 seq_6), (7, .pointer (some ⟨b_8, 0, none⟩)), (9, .int .i64 r_9), (19, .bool (seq_6 == 0))]) (H' := [⟨40, b_8, [.int .i64 y_7.Err, .int .u64 y_7.Num, .int .u64 y_7.Extra]⟩, ⟨1, b_2, [.int .u64 t_1.Now, .int .u64 t_1.Next, .slice A_3 t_1.Rows.length c_4]⟩]) (ps := []) (by kernel_rfl) trivial ?_
    refine GoO.bsplit (t := 19) (by kernel_rfl) (fun h11 => ?_) (fun h11 => ?_)
    · refine GoO.exec (is := [7, 8, 9, 10, 11, 12, 13, 14, 15, 16, 17, 18]) (hs := [.p, .p, .p, .p, .p, .p, .p, .p, .p, .p, .p, .p]) (rest := []) (ks := [0, 2, 7, 9, 31]) (env' := [(0, .pointer (some ⟨b_2, 0, none⟩)), (2, .int .u64 seq_6), (7, .pointer (some ⟨b_8, 0, none⟩)), (9, .int .i64 r_9), (31, .bool true)]) (H' := [⟨40, b_8, [.int .i64 y_7.Err, .int .u64 y_7.Num, .int .u64 y_7.Extra]⟩, ⟨1, b_2, [.int .u64 t_1.Now, .int .u64 t_1.Next, .slice A_3 t_1.Rows.length c_4]⟩]) (ps := []) (by kernel_rfl) trivial ?_
      refine GoO.regionEnd ?_
      exact GoO.sub (ks := [0, 2, 7, 9, 31]) (hk := [1, 0]) (bk := [0]) (by kernel_rfl) (by kernel_rfl) (by kernel_rfl) (tontineref15_Table_End_j0_ok n t_1 seq_6 y_7 r_9 b_2 A_3 c_4 b_8 w0 S0 true)
    · refine GoO.exec (is := [7, 8, 9, 10, 11, 12, 13]) (hs := [.p, .p, .p, .p, .p, .b 1, .p]) (rest := [14, 15, 16, 17, 18]) (ks := [0, 2, 7, 9, 19, 21, 25, 26]) (env' := [(0, .pointer (some ⟨b_2, 0, none⟩)), (2, .int .u64 seq_6), (7, .pointer (some ⟨b_8, 0, none⟩)), (9, .int .i64 r_9), (19, .bool false), (21, .int .u64 (wu64 (seq_6 - 1))), (25, .slice A_3 t_1.Rows.length c_4), (26, .int .i64 r_9)]) (H' := [⟨40, b_8, [.int .i64 y_7.Err, .int .u64 y_7.Num, .int .u64 y_7.Extra]⟩, ⟨1, b_2, [.int .u64 t_1.Now, .int .u64 t_1.Next, .slice A_3 t_1.Rows.length c_4]⟩]) (ps := [b_2 = b_2]) (by kernel_rfl) (And.intro rfl trivial) ?_
      refine GoO.guard (fun h12 => ?_)
      refine OpTo.go (GoO.idx (kk := .i64) (e := 100) (K := kT_tontineref15_Row) (A := A_3) (c := c_4) (xs := t_1.Rows) (iv := r_9) (j := 0) rfl (by kernel_rfl) (by kernel_rfl) (by kernel_rfl) (by kernel_rfl) rfl Reads.own rfl h12.1 h12.2 (by decide) rfl ?_)
      refine OpTo.go (GoO.fldE (K := kT_tontineref15_Row) (A := A_3) (c := c_4) (xs := t_1.Rows) (iN := r_9.toNat) (off := 0) (n := 2) (j := 0) rfl (by kernel_rfl) (by kernel_rfl) rfl Reads.own (by first | exact idx_lt h12.1 h12.2 | (simp only [List.length_set]; exact idx_lt h12.1 h12.2)) (by decide) rfl ?_)
      refine OpTo.go (GoO.ldE' (K := kT_tontineref15_Row) (A := A_3) (c := c_4) (xs := t_1.Rows) (iN := r_9.toNat) (off := 2) (j := 0) rfl (by kernel_rfl) rfl Reads.own (by first | exact idx_lt h12.1 h12.2 | (simp only [List.length_set]; exact idx_lt h12.1 h12.2)) (by decide) (Opn.flat _ _ _ _ _) (v := fun _ => .int .u64 ((rdL t_1.Rows r_9).Seq)) (fun _ => by kernel_rfl) _ (fun _ => rfl) (fun _ => ?_))
      refine GoO.exec (is := [17, 18]) (hs := [.p, .p]) (rest := []) (ks := [0, 2, 7, 9, 31]) (env' := [(0, .pointer (some ⟨b_2, 0, none⟩)), (2, .int .u64 seq_6), (7, .pointer (some ⟨b_8, 0, none⟩)), (9, .int .i64 r_9), (31, .bool ((wu64 (seq_6 - 1)) != ((rdL t_1.Rows r_9).Seq)))]) (H' := [⟨40, b_8, [.int .i64 y_7.Err, .int .u64 y_7.Num, .int .u64 y_7.Extra]⟩, ⟨1, b_2, [.int .u64 t_1.Now, .int .u64 t_1.Next, .slice A_3 t_1.Rows.length c_4]⟩]) (ps := []) (by kernel_rfl) trivial ?_
      refine GoO.regionEnd ?_
      exact GoO.sub (ks := [0, 2, 7, 9, 31]) (hk := [1, 0]) (bk := [0]) (by kernel_rfl) (by kernel_rfl) (by kernel_rfl) (tontineref15_Table_End_j0_ok n t_1 seq_6 y_7 r_9 b_2 A_3 c_4 b_8 w0 S0 ((wu64 (seq_6 - 1)) != ((rdL t_1.Rows r_9).Seq)))

/-! tontine/tontinelaw15.both -/
noncomputable def c27_0 : Code := bodyOf Try.f27
noncomputable def c27_1 : Code := cdL c27_0
noncomputable def c27_2 : Code := cdR c27_0
noncomputable def c27_3 : Code := cdL c27_2
noncomputable def c27_4 : Code := cdL c27_3
noncomputable def c27_5 : Code := cdR c27_3
noncomputable def c27_6 : Code := cdL c27_5
noncomputable def c27_7 : Code := cdL c27_6
noncomputable def c27_8 : Code := cdR c27_6
noncomputable def c27_9 : Code := cdL c27_8
noncomputable def c27_10 : Code := cdL c27_9
noncomputable def c27_11 : Code := cdR c27_9
noncomputable def c27_12 : Code := cdR c27_8
noncomputable def c27_13 : Code := cdL c27_12
noncomputable def c27_14 : Code := cdR c27_12
noncomputable def c27_15 : Code := cdL c27_14
noncomputable def c27_16 : Code := cdL c27_15
noncomputable def c27_17 : Code := cdR c27_15
noncomputable def c27_18 : Code := cdL c27_17
noncomputable def c27_19 : Code := cdR c27_17
noncomputable def c27_20 : Code := cdL c27_19
noncomputable def c27_21 : Code := cdR c27_19
noncomputable def c27_22 : Code := cdR c27_14
noncomputable def c27_23 : Code := cdL c27_22
noncomputable def c27_24 : Code := cdR c27_22
noncomputable def c27_25 : Code := cdL c27_24
noncomputable def c27_26 : Code := cdL c27_25
noncomputable def c27_27 : Code := cdR c27_25
noncomputable def c27_28 : Code := cdL c27_27
noncomputable def c27_29 : Code := cdR c27_27
noncomputable def c27_30 : Code := cdL c27_29
noncomputable def c27_31 : Code := cdR c27_29
noncomputable def c27_32 : Code := cdR c27_24
noncomputable def c27_33 : Code := cdL c27_32
noncomputable def c27_34 : Code := cdR c27_32
noncomputable def c27_35 : Code := cdR c27_2
noncomputable def c27_36 : Code := cdL c27_35
noncomputable def c27_37 : Code := cdR c27_35
noncomputable def r27_1 : Array Oper := cdO c27_1
noncomputable def r27_4 : Array Oper := cdO c27_4
noncomputable def r27_7 : Array Oper := cdO c27_7
noncomputable def r27_10 : Array Oper := cdO c27_10
noncomputable def r27_11 : Array Oper := cdO c27_11
noncomputable def r27_13 : Array Oper := cdO c27_13
noncomputable def r27_16 : Array Oper := cdO c27_16
noncomputable def r27_18 : Array Oper := cdO c27_18
noncomputable def r27_20 : Array Oper := cdO c27_20
noncomputable def r27_23 : Array Oper := cdO c27_23
noncomputable def r27_26 : Array Oper := cdO c27_26
noncomputable def r27_28 : Array Oper := cdO c27_28
noncomputable def r27_30 : Array Oper := cdO c27_30
noncomputable def r27_33 : Array Oper := cdO c27_33
noncomputable def r27_36 : Array Oper := cdO c27_36
theorem c27_0e : c27_0 = .seq c27_1 c27_2 := by kernel_rfl
theorem c27_1e : c27_1 = .region 0 r27_1 false := by kernel_rfl
theorem c27_2e : c27_2 = .seq c27_3 c27_35 := by kernel_rfl
theorem c27_3e : c27_3 = .seq c27_4 c27_5 := by kernel_rfl
theorem c27_4e : c27_4 = .region 1 r27_4 false := by kernel_rfl
theorem c27_5e : c27_5 = .block 0 c27_6 := by kernel_rfl
theorem c27_6e : c27_6 = .seq c27_7 c27_8 := by kernel_rfl
theorem c27_7e : c27_7 = .region 3 r27_7 false := by kernel_rfl
theorem c27_8e : c27_8 = .cond (cdC c27_8) c27_9 c27_12 := by kernel_rfl
theorem c27_9e : c27_9 = .seq c27_10 c27_11 := by kernel_rfl
theorem c27_10e : c27_10 = .region 4 r27_10 false := by kernel_rfl
theorem c27_11e : c27_11 = .region 5 r27_11 false := by kernel_rfl
theorem c27_12e : c27_12 = .seq c27_13 c27_14 := by kernel_rfl
theorem c27_13e : c27_13 = .region 6 r27_13 false := by kernel_rfl
theorem c27_14e : c27_14 = .cond (cdC c27_14) c27_15 c27_22 := by kernel_rfl
theorem c27_15e : c27_15 = .seq c27_16 c27_17 := by kernel_rfl
theorem c27_16e : c27_16 = .region 7 r27_16 false := by kernel_rfl
theorem c27_17e : c27_17 = .seq c27_18 c27_19 := by kernel_rfl
theorem c27_18e : c27_18 = .region 8 r27_18 false := by kernel_rfl
theorem c27_19e : c27_19 = .seq c27_20 c27_21 := by kernel_rfl
theorem c27_20e : c27_20 = .region 9 r27_20 false := by kernel_rfl
theorem c27_21e : c27_21 = .ret := by kernel_rfl
theorem c27_22e : c27_22 = .seq c27_23 c27_24 := by kernel_rfl
theorem c27_23e : c27_23 = .region 10 r27_23 false := by kernel_rfl
theorem c27_24e : c27_24 = .cond (cdC c27_24) c27_25 c27_32 := by kernel_rfl
theorem c27_25e : c27_25 = .seq c27_26 c27_27 := by kernel_rfl
theorem c27_26e : c27_26 = .region 11 r27_26 false := by kernel_rfl
theorem c27_27e : c27_27 = .seq c27_28 c27_29 := by kernel_rfl
theorem c27_28e : c27_28 = .region 12 r27_28 false := by kernel_rfl
theorem c27_29e : c27_29 = .seq c27_30 c27_31 := by kernel_rfl
theorem c27_30e : c27_30 = .region 13 r27_30 false := by kernel_rfl
theorem c27_31e : c27_31 = .ret := by kernel_rfl
theorem c27_32e : c27_32 = .seq c27_33 c27_34 := by kernel_rfl
theorem c27_33e : c27_33 = .region 2 r27_33 true := by kernel_rfl
theorem c27_34e : c27_34 = .ret := by kernel_rfl
theorem c27_35e : c27_35 = .seq c27_36 c27_37 := by kernel_rfl
theorem c27_36e : c27_36 = .region 14 r27_36 false := by kernel_rfl
theorem c27_37e : c27_37 = .ret := by kernel_rfl
noncomputable def tontinelaw15_both.R (b_2 : Nat) (A_3 : Option Addr) (c_4 : Nat) (b_6 : Nat) (A_7 : Option Addr) (c_8 : Nat) : Pst (Bool × T_session_Table × T_tontineref15_Table) where
  ε := Option Addr × Nat × Option Addr × Nat
  v := fun r x => .bool r.1
  H := fun r x => [⟨1, b_2, [.int .u64 r.2.1.now, .int .u64 r.2.1.next, .slice x.1 r.2.1.rows.length x.2.1]⟩, ⟨3, b_6, [.int .u64 r.2.2.Now, .int .u64 r.2.2.Next, .slice x.2.2.1 r.2.2.Rows.length x.2.2.2]⟩]
  B := fun r x => [Ow 2 kT_session_Row x.1 x.2.1 r.2.1.rows, Ow 4 kT_tontineref15_Row x.2.2.1 x.2.2.2 r.2.2.Rows]
noncomputable def tontinelaw15_both.cx (b_2 : Nat) (A_3 : Option Addr) (c_4 : Nat) (b_6 : Nat) (A_7 : Option Addr) (c_8 : Nat) (w0 : World) (S0 : Fam) : Cx (Bool × T_session_Table × T_tontineref15_Table) := ⟨Try.prog, 27, Try.f27, 92, w0, S0, [1, 2, 3, 4], 4, tontinelaw15_both.R b_2 A_3 c_4 b_6 A_7 c_8⟩
end Go.GL
