import Derived.Test.YtciohdgjlcaokaaKindsT3
import Derived.Test.YtciohdgjlcaokaaProg
set_option linter.unusedVariables false
set_option linter.unusedSimpArgs false
set_option maxRecDepth 100000
namespace Go.GL
open Go Go.Proofs

/-! tontine/session.New -/
noncomputable def c15_0 : Code := bodyOf Try.f15
noncomputable def c15_1 : Code := cdL c15_0
noncomputable def c15_2 : Code := cdR c15_0
noncomputable def c15_3 : Code := cdL c15_2
noncomputable def c15_4 : Code := cdR c15_2
noncomputable def r15_1 : Array Oper := cdO c15_1
noncomputable def r15_3 : Array Oper := cdO c15_3
theorem c15_0e : c15_0 = .seq c15_1 c15_2 := by kernel_rfl
theorem c15_1e : c15_1 = .region 0 r15_1 false := by kernel_rfl
theorem c15_2e : c15_2 = .seq c15_3 c15_4 := by kernel_rfl
theorem c15_3e : c15_3 = .region 1 r15_3 false := by kernel_rfl
theorem c15_4e : c15_4 = .ret := by kernel_rfl
noncomputable def session_New.R : Pst T_session_Table where
  ε := Nat × Option Addr × Nat
  v := fun r x => .pointer (some ⟨x.1, 0, none⟩)
  H := fun r x => [⟨1, x.1, [.int .u64 r.now, .int .u64 r.next, .slice x.2.1 r.rows.length x.2.2]⟩]
  B := fun r x => [Ow 2 kT_session_Row x.2.1 x.2.2 r.rows]
noncomputable def session_New.cx (w0 : World) (S0 : Fam) : Cx T_session_Table := ⟨Try.prog, 15, Try.f15, 3, w0, S0, [], 0, session_New.R⟩
theorem session_New_ok (n : Nat) :
    Meets Try.prog 15 [] 0 [] [] [] (session_New.f n) (session_New.R) := by
  refine Meets.of (c := c15_0) (n := 3) Try.func15 (by kernel_rfl) (by kernel_rfl) (by kernel_rfl) fun w0 S0 => ?_
  unfold session_New.f
  show GoO (session_New.cx w0 S0) [] [] [] [.code c15_0] _
  refine GoO.seq' c15_0e ?_
  refine GoO.region' (is := [0]) c15_1e (by kernel_rfl) ?_
  refine GoO.exec (is := [0]) (hs := [.p]) (rest := []) (ks := []) (env' := []) (H' := []) (ps := []) (by kernel_rfl) trivial ?_
  refine GoO.regionEnd ?_
  refine GoO.seq' c15_2e ?_
  refine GoO.region' (is := [0, 1, 2]) c15_3e (by kernel_rfl) ?_
  refine GoO.exec (is := [0]) (hs := [.p]) (rest := [1, 2]) (ks := [1]) (env' := [(1, .agg ⟨[.int .u64 0, .int .u64 1, .slice none ([] : List T_session_Row).length 0]⟩)]) (H' := []) (ps := []) (by kernel_rfl) trivial ?_
  refine OpTo.go (GoO.new rfl 40 (cs := [.int .u64 0, .int .u64 1, .slice none ([] : List T_session_Row).length 0]) (by kernel_rfl) _ (fun _ => rfl) (fun b_1 => ?_))
  refine GoO.exec (is := [2]) (hs := [.p]) (rest := []) (ks := [0]) (env' := [(0, .pointer (some ⟨b_1, 0, none⟩))]) (H' := [⟨40, b_1, [.int .u64 0, .int .u64 1, .slice none ([] : List T_session_Row).length 0]⟩]) (ps := []) (by kernel_rfl) trivial ?_
  refine GoO.regionEnd ?_
  refine GoO.nilOwn kT_session_Row 2 ?_
  refine GoO.retagB (t := 40) (u := 1) (j := 0) (hk := []) (bk := [0]) rfl rfl rfl rfl rfl rfl (by kernel_rfl) (by kernel_rfl) ?_
  exact GoO.ret' (h := c15_4e) (hs := []) (ps := []) (hk := [0]) (bk := [0]) Try.func15 (⟨b_1, none, 0⟩ : Nat × Option Addr × Nat) (by kernel_rfl) trivial (by kernel_rfl) (by kernel_rfl)

/-! (*tontine/session.Table).Register -/
noncomputable def c17_0 : Code := bodyOf Try.f17
noncomputable def c17_1 : Code := cdL c17_0
noncomputable def c17_2 : Code := cdR c17_0
noncomputable def c17_3 : Code := cdL c17_2
noncomputable def c17_4 : Code := cdL c17_3
noncomputable def c17_5 : Code := cdR c17_3
noncomputable def c17_6 : Code := cdL c17_5
noncomputable def c17_7 : Code := cdL c17_6
noncomputable def c17_8 : Code := cdR c17_6
noncomputable def c17_9 : Code := cdR c17_5
noncomputable def c17_10 : Code := cdR c17_2
noncomputable def c17_11 : Code := cdL c17_10
noncomputable def c17_12 : Code := cdR c17_10
noncomputable def c17_13 : Code := cdL c17_12
noncomputable def c17_14 : Code := cdR c17_12
noncomputable def c17_15 : Code := cdL c17_14
noncomputable def c17_16 : Code := cdR c17_14
noncomputable def r17_1 : Array Oper := cdO c17_1
noncomputable def r17_4 : Array Oper := cdO c17_4
noncomputable def r17_7 : Array Oper := cdO c17_7
noncomputable def r17_11 : Array Oper := cdO c17_11
noncomputable def r17_13 : Array Oper := cdO c17_13
noncomputable def r17_15 : Array Oper := cdO c17_15
theorem c17_0e : c17_0 = .seq c17_1 c17_2 := by kernel_rfl
theorem c17_1e : c17_1 = .region 0 r17_1 false := by kernel_rfl
theorem c17_2e : c17_2 = .seq c17_3 c17_10 := by kernel_rfl
theorem c17_3e : c17_3 = .seq c17_4 c17_5 := by kernel_rfl
theorem c17_4e : c17_4 = .region 1 r17_4 false := by kernel_rfl
theorem c17_5e : c17_5 = .cond (cdC c17_5) c17_6 c17_9 := by kernel_rfl
theorem c17_6e : c17_6 = .seq c17_7 c17_8 := by kernel_rfl
theorem c17_7e : c17_7 = .region 2 r17_7 false := by kernel_rfl
theorem c17_8e : c17_8 = .ret := by kernel_rfl
theorem c17_9e : c17_9 = .skip := by kernel_rfl
theorem c17_10e : c17_10 = .seq c17_11 c17_12 := by kernel_rfl
theorem c17_11e : c17_11 = .region 3 r17_11 true := by kernel_rfl
theorem c17_12e : c17_12 = .seq c17_13 c17_14 := by kernel_rfl
theorem c17_13e : c17_13 = .region 4 r17_13 false := by kernel_rfl
theorem c17_14e : c17_14 = .seq c17_15 c17_16 := by kernel_rfl
theorem c17_15e : c17_15 = .region 5 r17_15 false := by kernel_rfl
theorem c17_16e : c17_16 = .ret := by kernel_rfl
noncomputable def session_Table_Register.R (b_2 : Nat) (A_3 : Option Addr) (c_4 : Nat) : Pst (Int × Int × T_session_Table) where
  ε := Option Addr × Nat
  v := fun r x => .tuple ⟨[.int .u64 r.1, .int .i64 r.2.1]⟩
  H := fun r x => [⟨1, b_2, [.int .u64 r.2.2.now, .int .u64 r.2.2.next, .slice x.1 r.2.2.rows.length x.2]⟩]
  B := fun r x => [Ow 2 kT_session_Row x.1 x.2 r.2.2.rows]
noncomputable def session_Table_Register.cx (b_2 : Nat) (A_3 : Option Addr) (c_4 : Nat) (w0 : World) (S0 : Fam) : Cx (Int × Int × T_session_Table) := ⟨Try.prog, 17, Try.f17, 51, w0, S0, [1, 2], 2, session_Table_Register.R b_2 A_3 c_4⟩
theorem session_Table_Register_j0_ok (n : Nat) (t_1 : T_session_Table) (b_2 : Nat) (A_3 : Option Addr) (c_4 : Nat) (w0 : World) (S0 : Fam) (b_6 : Bool) :
    GoO (session_Table_Register.cx b_2 A_3 c_4 w0 S0) [(0, .pointer (some ⟨b_2, 0, none⟩)), (20, .bool b_6)] [⟨1, b_2, [.int .u64 t_1.now, .int .u64 t_1.next, .slice A_3 t_1.rows.length c_4]⟩] [Ow 2 kT_session_Row A_3 c_4 t_1.rows] [.code c17_5, .code c17_10] (session_Table_Register.j0 n t_1 b_6) := by
  unfold session_Table_Register.j0
  refine GoO.ite' c17_5e (by kernel_rfl) (fun h7 => ?_) (fun h7 => ?_)
  · refine GoO.seq' c17_6e ?_
    refine GoO.region' (is := [0, 1]) c17_7e (by kernel_rfl) ?_
    refine GoO.exec (is := [0, 1]) (hs := [.p, .p]) (rest := []) (ks := [2, 3]) (env' := [(2, .int .u64 0), (3, .int .i64 11)]) (H' := [⟨1, b_2, [.int .u64 t_1.now, .int .u64 t_1.next, .slice A_3 t_1.rows.length c_4]⟩]) (ps := []) (by kernel_rfl) trivial ?_
    refine GoO.regionEnd ?_
    exact GoO.ret' (h := c17_8e) (hs := []) (ps := []) (hk := [0]) (bk := [0]) Try.func17 (⟨A_3, c_4⟩ : Option Addr × Nat) (by kernel_rfl) trivial (by kernel_rfl) (by kernel_rfl)
  · refine GoO.skip' c17_9e ?_
    refine GoO.seq' c17_10e ?_
    refine GoO.draw c17_11e (by kernel_rfl) [16, 17, 18] [⟨1, b_2, [.int .u64 t_1.now, .int .u64 t_1.next, .slice A_3 t_1.rows.length c_4]⟩] [] (n := 19) (by kernel_rfl) ?_
    simp only [List.replicate]
    refine GoF.take [0, 1, 2, 3, 4, 5, 6, 7, 8, 9, 10, 11, 12, 13] [.p, .p, .p, .p, .b 0, .p, .p, .p, .b 0, .p, .p, .p, .b 0, .p] (ks := [0, 21, 25, 34]) (fu := 5) (li := [true, true, true, true, true, true, true, true, true, true, true, true, true, true, false, false, false, false, false]) (env' := [(0, .pointer (some ⟨b_2, 0, none⟩)), (21, .pointer (some ⟨b_2, 0, none⟩)), (25, .slice A_3 t_1.rows.length c_4), (34, .agg ⟨[.int .u64 t_1.next, .int .u64 t_1.now, .int .u64 0, .int .i64 0, .int .u64 0, .int .u64 0]⟩)]) (ps := [b_2 = b_2, b_2 = b_2, b_2 = b_2]) (hk := [0]) (bk := []) (by kernel_rfl) (And.intro rfl (And.intro rfl (And.intro rfl trivial))) rfl rfl ?_
    refine OpTo.goF (i := 14) (by kernel_rfl) (hk := [0]) (bk := []) (GoO.lit (e := 87) (K := kT_session_Row) rfl (by kernel_rfl) (by kernel_rfl) (cs := [.int .u64 t_1.next, .int .u64 t_1.now, .int .u64 0, .int .i64 0, .int .u64 0, .int .u64 0]) (by kernel_rfl) [(⟨t_1.next, t_1.now, 0, (⟨0, 0, 0⟩ : T_api_Reply)⟩ : T_session_Row)] (by kernel_rfl) (by kernel_rfl) (fun w S hB => ⟨[.int .u64 t_1.next, .int .u64 t_1.now, .int .u64 0, .int .i64 0, .int .u64 0, .int .u64 0], _, rfl, rfl, rfl⟩) 40 _ (fun _ _ => rfl) (fun A_8 c_9 => ⟨rfl, rfl, ?_⟩))
    refine GoF.guard (fun h10 => ?_)
    refine OpTo.goF (i := 15) (by kernel_rfl) (hk := [0]) (bk := []) (GoO.appW (e := 87) (K := kT_session_Row) (A := A_3) (c := c_4) (tg := 2) (bytes := 48) (zs := [.int .u64 0, .int .u64 0, .int .u64 0, .int .i64 0, .int .u64 0, .int .u64 0]) (xs := t_1.rows) (ys := [(⟨t_1.next, t_1.now, 0, (⟨0, 0, 0⟩ : T_api_Reply)⟩ : T_session_Row)]) (xv := .slice A_8 [(⟨t_1.next, t_1.now, 0, (⟨0, 0, 0⟩ : T_api_Reply)⟩ : T_session_Row)].length c_9) (j := 1) (bk := [0]) rfl (by kernel_rfl) (by kernel_rfl) (by kernel_rfl) (by kernel_rfl) rfl (by kernel_rfl) rfl (fun w S hB => SrcIs.row (Reads.own w S (hB _ (List.mem_of_getElem? (i := 0) rfl)))) h10 rfl rfl rfl rfl _ (fun _ _ => rfl) (fun A_11 c_12 => ⟨rfl, rfl, ?_⟩))
    refine GoF.fin1 (i := 16) (hint := .p) (ps := []) (hk := []) (bk := []) (by kernel_rfl) rfl trivial (.inl rfl) ?_
    refine GoF.fin1 (i := 17) (hint := .p) (ps := []) (hk := []) (bk := []) (by kernel_rfl) rfl trivial (.inl rfl) ?_
    refine GoF.fin1 (i := 18) (hint := .b 0) (ps := [b_2 = b_2]) (hk := []) (bk := []) (by kernel_rfl) rfl (And.intro rfl trivial) (.inl rfl) ?_
    refine GoF.done (by kernel_rfl) ?_
    refine GoO.seq' c17_12e ?_
    refine GoO.region' (is := [0, 1, 2, 3, 4, 5, 6, 7]) c17_13e (by kernel_rfl) ?_
    refine GoO.exec (is := [0, 1, 2, 3, 4, 5, 6, 7]) (hs := [.p, .p, .p, .b 0, .p, .p, .p, .b 0]) (rest := []) (ks := [0]) (env' := [(0, .pointer (some ⟨b_2, 0, none⟩))]) (H' := [⟨1, b_2, [.int .u64 t_1.now, .int .u64 (wu64 (t_1.next + 1)), .slice A_11 (t_1.rows ++ [(⟨t_1.next, t_1.now, 0, (⟨0, 0, 0⟩ : T_api_Reply)⟩ : T_session_Row)]).length c_12]⟩]) (ps := [b_2 = b_2, b_2 = b_2]) (by kernel_rfl) (And.intro rfl (And.intro rfl trivial)) ?_
    refine GoO.regionEnd ?_
    refine GoO.seq' c17_14e ?_
    refine GoO.region' (is := [0, 1, 2, 3, 4, 5, 6]) c17_15e (by kernel_rfl) ?_
    refine GoO.exec (is := [0, 1, 2, 3, 4, 5, 6]) (hs := [.p, .p, .p, .b 0, .p, .p, .p]) (rest := []) (ks := [2, 3]) (env' := [(2, .int .u64 (wu64 ((wu64 (t_1.next + 1)) - 1))), (3, .int .i64 0)]) (H' := [⟨1, b_2, [.int .u64 t_1.now, .int .u64 (wu64 (t_1.next + 1)), .slice A_11 (t_1.rows ++ [(⟨t_1.next, t_1.now, 0, (⟨0, 0, 0⟩ : T_api_Reply)⟩ : T_session_Row)]).length c_12]⟩]) (ps := [b_2 = b_2]) (by kernel_rfl) (And.intro rfl trivial) ?_
    refine GoO.regionEnd ?_
    exact GoO.ret' (h := c17_16e) (hs := []) (ps := []) (hk := [0]) (bk := [0]) Try.func17 (⟨A_11, c_12⟩ : Option Addr × Nat) (by kernel_rfl) trivial (by kernel_rfl) (by kernel_rfl)
theorem session_Table_Register_ok (n : Nat) (t_1 : T_session_Table) (b_2 : Nat) (A_3 : Option Addr) (c_4 : Nat) :
    Meets Try.prog 17 [.pointer (some ⟨b_2, 0, none⟩)] 2 [1, 2] [⟨1, b_2, [.int .u64 t_1.now, .int .u64 t_1.next, .slice A_3 t_1.rows.length c_4]⟩] [Ow 2 kT_session_Row A_3 c_4 t_1.rows] (session_Table_Register.f n t_1) (session_Table_Register.R b_2 A_3 c_4) := by
  refine Meets.of (c := c17_0) (n := 51) Try.func17 (by kernel_rfl) (by kernel_rfl) (by kernel_rfl) fun w0 S0 => ?_
  unfold session_Table_Register.f
  show GoO (session_Table_Register.cx b_2 A_3 c_4 w0 S0) [(0, .pointer (some ⟨b_2, 0, none⟩))] [⟨1, b_2, [.int .u64 t_1.now, .int .u64 t_1.next, .slice A_3 t_1.rows.length c_4]⟩] [Ow 2 kT_session_Row A_3 c_4 t_1.rows] [.code c17_0] _
  refine GoO.seq' c17_0e ?_
  refine GoO.region' (is := [0, 1]) c17_1e (by kernel_rfl) ?_
  refine GoO.exec (is := [0, 1]) (hs := [.p, .p]) (rest := []) (ks := [0]) (env' := [(0, .pointer (some ⟨b_2, 0, none⟩))]) (H' := [⟨1, b_2, [.int .u64 t_1.now, .int .u64 t_1.next, .slice A_3 t_1.rows.length c_4]⟩]) (ps := []) (by kernel_rfl) trivial ?_
  refine GoO.regionEnd ?_
  refine GoO.seq' c17_2e ?_
  refine GoO.seq' c17_3e ?_
  refine GoO.region' (is := [0, 1, 2, 3, 4, 5, 6, 7, 8, 9, 10, 11, 12, 13, 14, 15, 16]) c17_4e (by kernel_rfl) ?_
  refine GoO.exec (is := [0, 1, 2, 3, 4, 5, 6, 7, 8, 9, 10]) (hs := [.p, .p, .p, .p, .p, .p, .b 0, .p, .p, .p, .p]) (rest := [11, 12, 13, 14, 15, 16]) (ks := [0, 14]) (env' := [(0, .pointer (some ⟨b_2, 0, none⟩)), (14, .bool (decide ((t_1.rows.length : Int) ≥ 16)))]) (H' := [⟨1, b_2, [.int .u64 t_1.now, .int .u64 t_1.next, .slice A_3 t_1.rows.length c_4]⟩]) (ps := [b_2 = b_2]) (by kernel_rfl) (And.intro rfl trivial) ?_
  refine GoO.bsplit (t := 14) (by kernel_rfl) (fun h5 => ?_) (fun h5 => ?_)
  · refine GoO.exec (is := [11, 12, 13, 14, 15, 16]) (hs := [.p, .p, .p, .p, .p, .p]) (rest := []) (ks := [0, 20]) (env' := [(0, .pointer (some ⟨b_2, 0, none⟩)), (20, .bool true)]) (H' := [⟨1, b_2, [.int .u64 t_1.now, .int .u64 t_1.next, .slice A_3 t_1.rows.length c_4]⟩]) (ps := []) (by kernel_rfl) trivial ?_
    refine GoO.regionEnd ?_
    exact GoO.sub (ks := [0, 20]) (hk := [0]) (bk := [0]) (by kernel_rfl) (by kernel_rfl) (by kernel_rfl) (session_Table_Register_j0_ok n t_1 b_2 A_3 c_4 w0 S0 true)
  · refine GoO.exec (is := [11, 12, 13, 14, 15, 16]) (hs := [.p, .p, .p, .b 0, .p, .p]) (rest := []) (ks := [0, 20]) (env' := [(0, .pointer (some ⟨b_2, 0, none⟩)), (20, .bool (t_1.next == 18446744073709551615))]) (H' := [⟨1, b_2, [.int .u64 t_1.now, .int .u64 t_1.next, .slice A_3 t_1.rows.length c_4]⟩]) (ps := [b_2 = b_2]) (by kernel_rfl) (And.intro rfl trivial) ?_
    refine GoO.regionEnd ?_
    exact GoO.sub (ks := [0, 20]) (hk := [0]) (bk := [0]) (by kernel_rfl) (by kernel_rfl) (by kernel_rfl) (session_Table_Register_j0_ok n t_1 b_2 A_3 c_4 w0 S0 (t_1.next == 18446744073709551615))

/-! (*tontine/session.Table).find -/
noncomputable def c37_0 : Code := bodyOf Try.f37
noncomputable def c37_1 : Code := cdL c37_0
noncomputable def c37_2 : Code := cdR c37_0
noncomputable def c37_3 : Code := cdL c37_2
noncomputable def c37_4 : Code := cdL c37_3
noncomputable def c37_5 : Code := cdR c37_3
noncomputable def c37_6 : Code := cdL c37_5
noncomputable def c37_7 : Code := cdL c37_6
noncomputable def c37_8 : Code := cdR c37_6
noncomputable def c37_9 : Code := cdL c37_8
noncomputable def c37_10 : Code := cdL c37_9
noncomputable def c37_11 : Code := cdL c37_10
noncomputable def c37_12 : Code := cdR c37_10
noncomputable def c37_13 : Code := cdL c37_12
noncomputable def c37_14 : Code := cdL c37_13
noncomputable def c37_15 : Code := cdR c37_13
noncomputable def c37_16 : Code := cdR c37_12
noncomputable def c37_17 : Code := cdL c37_16
noncomputable def c37_18 : Code := cdL c37_17
noncomputable def c37_19 : Code := cdL c37_18
noncomputable def c37_20 : Code := cdR c37_18
noncomputable def c37_21 : Code := cdL c37_20
noncomputable def c37_22 : Code := cdR c37_20
noncomputable def c37_23 : Code := cdL c37_22
noncomputable def c37_24 : Code := cdL c37_23
noncomputable def c37_25 : Code := cdR c37_23
noncomputable def c37_26 : Code := cdR c37_22
noncomputable def c37_27 : Code := cdR c37_16
noncomputable def c37_29 : Code := cdR c37_2
noncomputable def c37_30 : Code := cdL c37_29
noncomputable def c37_31 : Code := cdR c37_29
noncomputable def c37_28 : Code := cdR c37_5
noncomputable def r37_1 : Array Oper := cdO c37_1
noncomputable def r37_4 : Array Oper := cdO c37_4
noncomputable def r37_7 : Array Oper := cdO c37_7
noncomputable def r37_11 : Array Oper := cdO c37_11
noncomputable def r37_19 : Array Oper := cdO c37_19
noncomputable def r37_21 : Array Oper := cdO c37_21
noncomputable def r37_24 : Array Oper := cdO c37_24
noncomputable def r37_27 : Array Oper := cdO c37_27
noncomputable def r37_30 : Array Oper := cdO c37_30
theorem c37_0e : c37_0 = .seq c37_1 c37_2 := by kernel_rfl
theorem c37_1e : c37_1 = .region 0 r37_1 false := by kernel_rfl
theorem c37_2e : c37_2 = .seq c37_3 c37_29 := by kernel_rfl
theorem c37_3e : c37_3 = .seq c37_4 c37_5 := by kernel_rfl
theorem c37_4e : c37_4 = .region 1 r37_4 false := by kernel_rfl
theorem c37_5e : c37_5 = .cond (cdC c37_5) c37_6 c37_28 := by kernel_rfl
theorem c37_6e : c37_6 = .seq c37_7 c37_8 := by kernel_rfl
theorem c37_7e : c37_7 = .region 2 r37_7 false := by kernel_rfl
theorem c37_8e : c37_8 = .block 0 c37_9 := by kernel_rfl
theorem c37_9e : c37_9 = .loop c37_10 := by kernel_rfl
theorem c37_10e : c37_10 = .seq c37_11 c37_12 := by kernel_rfl
theorem c37_11e : c37_11 = .region 3 r37_11 false := by kernel_rfl
theorem c37_12e : c37_12 = .seq c37_13 c37_16 := by kernel_rfl
theorem c37_13e : c37_13 = .cond (cdC c37_13) c37_14 c37_15 := by kernel_rfl
theorem c37_14e : c37_14 = .skip := by kernel_rfl
theorem c37_15e : c37_15 = .exit 0 := by kernel_rfl
theorem c37_16e : c37_16 = .seq c37_17 c37_27 := by kernel_rfl
theorem c37_17e : c37_17 = .block 1 c37_18 := by kernel_rfl
theorem c37_18e : c37_18 = .seq c37_19 c37_20 := by kernel_rfl
theorem c37_19e : c37_19 = .region 4 r37_19 false := by kernel_rfl
theorem c37_20e : c37_20 = .seq c37_21 c37_22 := by kernel_rfl
theorem c37_21e : c37_21 = .region 5 r37_21 false := by kernel_rfl
theorem c37_22e : c37_22 = .cond (cdC c37_22) c37_23 c37_26 := by kernel_rfl
theorem c37_23e : c37_23 = .seq c37_24 c37_25 := by kernel_rfl
theorem c37_24e : c37_24 = .region 6 r37_24 false := by kernel_rfl
theorem c37_25e : c37_25 = .ret := by kernel_rfl
theorem c37_26e : c37_26 = .skip := by kernel_rfl
theorem c37_27e : c37_27 = .region 7 r37_27 false := by kernel_rfl
theorem c37_29e : c37_29 = .seq c37_30 c37_31 := by kernel_rfl
theorem c37_30e : c37_30 = .region 8 r37_30 false := by kernel_rfl
theorem c37_31e : c37_31 = .ret := by kernel_rfl
theorem c37_28e : c37_28 = .skip := by kernel_rfl
noncomputable def session_Table_find.R (b_2 : Nat) (A_3 : Option Addr) (c_4 : Nat) : Pst Int where
  ε := Unit
  v := fun r x => .int .i64 r
  H := fun r x => []
  B := fun r x => []
noncomputable def session_Table_find.cx (b_2 : Nat) (A_3 : Option Addr) (c_4 : Nat) (w0 : World) (S0 : Fam) : Cx Int := ⟨Try.prog, 37, Try.f37, 25, w0, S0, [], 2, session_Table_find.R b_2 A_3 c_4⟩
theorem session_Table_find_l0_ok (n : Nat) (t_1 : T_session_Table) (id_5 : Int) (b_2 : Nat) (A_3 : Option Addr) (c_4 : Nat) (w0 : World) (S0 : Fam) :
    ∀ (k : Nat) (x_6 : Int), GoO (session_Table_find.cx b_2 A_3 c_4 w0 S0) [(1, .int .u64 id_5), (12, .slice A_3 t_1.rows.length c_4), (13, .int .i64 (t_1.rows.length : Int)), (14, .int .i64 x_6)] [⟨1, b_2, [.int .u64 t_1.now, .int .u64 t_1.next, .slice A_3 t_1.rows.length c_4]⟩] [Ow 2 kT_session_Row A_3 c_4 t_1.rows] [.code c37_10, .inLoop c37_10, .inBlock 0, .code c37_29] (session_Table_find.l0 n t_1 id_5 k x_6) := by
  intro k
  induction k with
  | zero => intros; rw [session_Table_find.l0.eq_1]; exact GoO.stop
  | succ k ih0 =>
    intro x_6
    rw [session_Table_find.l0.eq_2]
    refine GoO.seq' c37_10e ?_
    refine GoO.region' (is := [0]) c37_11e (by kernel_rfl) ?_
    refine GoO.exec (is := [0]) (hs := [.p]) (rest := []) (ks := [1, 12, 13, 14, 15]) (env' := [(1, .int .u64 id_5), (12, .slice A_3 t_1.rows.length c_4), (13, .int .i64 (t_1.rows.length : Int)), (14, .int .i64 x_6), (15, .bool (decide (x_6 < (t_1.rows.length : Int))))]) (H' := [⟨1, b_2, [.int .u64 t_1.now, .int .u64 t_1.next, .slice A_3 t_1.rows.length c_4]⟩]) (ps := []) (by kernel_rfl) trivial ?_
    refine GoO.regionEnd ?_
    refine GoO.seq' c37_12e ?_
    refine GoO.ite' c37_13e (by kernel_rfl) (fun h7 => ?_) (fun h7 => ?_)
    · refine GoO.skip' c37_14e ?_
      refine GoO.seq' c37_16e ?_
      refine GoO.block' c37_17e ?_
      refine GoO.seq' c37_18e ?_
      refine GoO.region' (is := [0, 1, 2, 3, 4, 5]) c37_19e (by kernel_rfl) ?_
      refine GoO.exec (is := [0]) (hs := [.p]) (rest := [1, 2, 3, 4, 5]) (ks := [1, 12, 13, 14, 16]) (env' := [(1, .int .u64 id_5), (12, .slice A_3 t_1.rows.length c_4), (13, .int .i64 (t_1.rows.length : Int)), (14, .int .i64 x_6), (16, .int .i64 x_6)]) (H' := [⟨1, b_2, [.int .u64 t_1.now, .int .u64 t_1.next, .slice A_3 t_1.rows.length c_4]⟩]) (ps := []) (by kernel_rfl) trivial ?_
      refine GoO.guard (fun h8 => ?_)
      refine OpTo.go (GoO.idx (kk := .i64) (e := 87) (K := kT_session_Row) (A := A_3) (c := c_4) (xs := t_1.rows) (iv := x_6) (j := 0) rfl (by kernel_rfl) (by kernel_rfl) (by kernel_rfl) (by kernel_rfl) rfl Reads.own rfl h8.1 h8.2 (by decide) rfl ?_)
      refine OpTo.go (GoO.ldE' (K := kT_session_Row) (A := A_3) (c := c_4) (xs := t_1.rows) (iN := x_6.toNat) (off := 0) (j := 0) rfl (by kernel_rfl) rfl Reads.own (by first | exact idx_lt h8.1 h8.2 | (simp only [List.length_set]; exact idx_lt h8.1 h8.2)) (by decide) (Opn.flat _ _ _ _ _) (v := fun _ => .agg ⟨[.int .u64 ((rdL t_1.rows x_6).Id), .int .u64 ((rdL t_1.rows x_6).Used), .int .u64 ((rdL t_1.rows x_6).Seq), .int .i64 ((rdL t_1.rows x_6).Reply.Err), .int .u64 ((rdL t_1.rows x_6).Reply.Num), .int .u64 ((rdL t_1.rows x_6).Reply.Extra)]⟩) (fun _ => by kernel_rfl) _ (fun _ => rfl) (fun _ => ?_))
      refine OpTo.go (GoO.new rfl 40 (cs := [.int .u64 0, .int .u64 0, .int .u64 0, .int .i64 0, .int .u64 0, .int .u64 0]) (by kernel_rfl) _ (fun _ => rfl) (fun b_9 => ?_))
      refine GoO.exec (is := [4, 5]) (hs := [.p, .b 0]) (rest := []) (ks := [1, 5, 6, 12, 13, 14]) (env' := [(1, .int .u64 id_5), (5, .int .i64 x_6), (6, .pointer (some ⟨b_9, 0, none⟩)), (12, .slice A_3 t_1.rows.length c_4), (13, .int .i64 (t_1.rows.length : Int)), (14, .int .i64 x_6)]) (H' := [⟨40, b_9, [.int .u64 ((rdL t_1.rows x_6).Id), .int .u64 ((rdL t_1.rows x_6).Used), .int .u64 ((rdL t_1.rows x_6).Seq), .int .i64 ((rdL t_1.rows x_6).Reply.Err), .int .u64 ((rdL t_1.rows x_6).Reply.Num), .int .u64 ((rdL t_1.rows x_6).Reply.Extra)]⟩, ⟨1, b_2, [.int .u64 t_1.now, .int .u64 t_1.next, .slice A_3 t_1.rows.length c_4]⟩]) (ps := [b_9 = b_9]) (by kernel_rfl) (And.intro rfl trivial) ?_
      refine GoO.regionEnd ?_
      refine GoO.seq' c37_20e ?_
      refine GoO.region' (is := [0, 1, 2, 3]) c37_21e (by kernel_rfl) ?_
      refine GoO.exec (is := [0, 1, 2, 3]) (hs := [.p, .b 0, .p, .p]) (rest := []) (ks := [1, 5, 12, 13, 14, 22]) (env' := [(1, .int .u64 id_5), (5, .int .i64 x_6), (12, .slice A_3 t_1.rows.length c_4), (13, .int .i64 (t_1.rows.length : Int)), (14, .int .i64 x_6), (22, .bool (((rdL t_1.rows x_6).Id) == id_5))]) (H' := [⟨40, b_9, [.int .u64 ((rdL t_1.rows x_6).Id), .int .u64 ((rdL t_1.rows x_6).Used), .int .u64 ((rdL t_1.rows x_6).Seq), .int .i64 ((rdL t_1.rows x_6).Reply.Err), .int .u64 ((rdL t_1.rows x_6).Reply.Num), .int .u64 ((rdL t_1.rows x_6).Reply.Extra)]⟩, ⟨1, b_2, [.int .u64 t_1.now, .int .u64 t_1.next, .slice A_3 t_1.rows.length c_4]⟩]) (ps := [b_9 = b_9]) (by kernel_rfl) (And.intro rfl trivial) ?_
      refine GoO.regionEnd ?_
      refine GoO.ite' c37_22e (by kernel_rfl) (fun h10 => ?_) (fun h10 => ?_)
      · refine GoO.seq' c37_23e ?_
        refine GoO.region' (is := [0, 1]) c37_24e (by kernel_rfl) ?_
        refine GoO.exec (is := [0, 1]) (hs := [.p, .p]) (rest := []) (ks := [4]) (env' := [(4, .int .i64 x_6)]) (H' := [⟨40, b_9, [.int .u64 ((rdL t_1.rows x_6).Id), .int .u64 ((rdL t_1.rows x_6).Used), .int .u64 ((rdL t_1.rows x_6).Seq), .int .i64 ((rdL t_1.rows x_6).Reply.Err), .int .u64 ((rdL t_1.rows x_6).Reply.Num), .int .u64 ((rdL t_1.rows x_6).Reply.Extra)]⟩, ⟨1, b_2, [.int .u64 t_1.now, .int .u64 t_1.next, .slice A_3 t_1.rows.length c_4]⟩]) (ps := []) (by kernel_rfl) trivial ?_
        refine GoO.regionEnd ?_
        exact GoO.ret' (h := c37_25e) (hs := []) (ps := []) (hk := []) (bk := []) Try.func37 () (by kernel_rfl) trivial (by kernel_rfl) (by kernel_rfl)
      · refine GoO.skip' c37_26e ?_
        refine GoO.inBlock ?_
        refine GoO.region' (is := [0, 1]) c37_27e (by kernel_rfl) ?_
        refine GoO.exec (is := [0, 1]) (hs := [.p, .p]) (rest := []) (ks := [1, 12, 13, 14]) (env' := [(1, .int .u64 id_5), (12, .slice A_3 t_1.rows.length c_4), (13, .int .i64 (t_1.rows.length : Int)), (14, .int .i64 (wi64 (x_6 + 1)))]) (H' := [⟨40, b_9, [.int .u64 ((rdL t_1.rows x_6).Id), .int .u64 ((rdL t_1.rows x_6).Used), .int .u64 ((rdL t_1.rows x_6).Seq), .int .i64 ((rdL t_1.rows x_6).Reply.Err), .int .u64 ((rdL t_1.rows x_6).Reply.Num), .int .u64 ((rdL t_1.rows x_6).Reply.Extra)]⟩, ⟨1, b_2, [.int .u64 t_1.now, .int .u64 t_1.next, .slice A_3 t_1.rows.length c_4]⟩]) (ps := []) (by kernel_rfl) trivial ?_
        refine GoO.regionEnd ?_
        refine GoO.inLoop ?_
        exact GoO.sub (ks := [1, 12, 13, 14]) (hk := [1]) (bk := [0]) (by kernel_rfl) (by kernel_rfl) (by kernel_rfl) (ih0 (wi64 (x_6 + 1)))
    · refine GoO.exit' c37_15e rfl ?_
      refine GoO.seq' c37_29e ?_
      refine GoO.region' (is := [0]) c37_30e (by kernel_rfl) ?_
      refine GoO.exec (is := [0]) (hs := [.p]) (rest := []) (ks := [4]) (env' := [(4, .int .i64 (-1))]) (H' := [⟨1, b_2, [.int .u64 t_1.now, .int .u64 t_1.next, .slice A_3 t_1.rows.length c_4]⟩]) (ps := []) (by kernel_rfl) trivial ?_
      refine GoO.regionEnd ?_
      exact GoO.ret' (h := c37_31e) (hs := []) (ps := []) (hk := []) (bk := []) Try.func37 () (by kernel_rfl) trivial (by kernel_rfl) (by kernel_rfl)
theorem session_Table_find_ok (n : Nat) (t_1 : T_session_Table) (id_5 : Int) (b_2 : Nat) (A_3 : Option Addr) (c_4 : Nat) :
    Meets Try.prog 37 [.pointer (some ⟨b_2, 0, none⟩), .int .u64 id_5] 2 [] [⟨1, b_2, [.int .u64 t_1.now, .int .u64 t_1.next, .slice A_3 t_1.rows.length c_4]⟩] [Ow 2 kT_session_Row A_3 c_4 t_1.rows] (session_Table_find.f n t_1 id_5) (session_Table_find.R b_2 A_3 c_4) := by
  refine Meets.of (c := c37_0) (n := 25) Try.func37 (by kernel_rfl) (by kernel_rfl) (by kernel_rfl) fun w0 S0 => ?_
  unfold session_Table_find.f
  show GoO (session_Table_find.cx b_2 A_3 c_4 w0 S0) [(0, .pointer (some ⟨b_2, 0, none⟩)), (1, .int .u64 id_5)] [⟨1, b_2, [.int .u64 t_1.now, .int .u64 t_1.next, .slice A_3 t_1.rows.length c_4]⟩] [Ow 2 kT_session_Row A_3 c_4 t_1.rows] [.code c37_0] _
  refine GoO.seq' c37_0e ?_
  refine GoO.region' (is := [0]) c37_1e (by kernel_rfl) ?_
  refine GoO.exec (is := [0]) (hs := [.p]) (rest := []) (ks := [0, 1]) (env' := [(0, .pointer (some ⟨b_2, 0, none⟩)), (1, .int .u64 id_5)]) (H' := [⟨1, b_2, [.int .u64 t_1.now, .int .u64 t_1.next, .slice A_3 t_1.rows.length c_4]⟩]) (ps := []) (by kernel_rfl) trivial ?_
  refine GoO.regionEnd ?_
  refine GoO.seq' c37_2e ?_
  refine GoO.seq' c37_3e ?_
  refine GoO.region' (is := [0, 1]) c37_4e (by kernel_rfl) ?_
  refine GoO.exec (is := [0, 1]) (hs := [.p, .p]) (rest := []) (ks := [0, 1, 8]) (env' := [(0, .pointer (some ⟨b_2, 0, none⟩)), (1, .int .u64 id_5), (8, .bool true)]) (H' := [⟨1, b_2, [.int .u64 t_1.now, .int .u64 t_1.next, .slice A_3 t_1.rows.length c_4]⟩]) (ps := []) (by kernel_rfl) trivial ?_
  refine GoO.regionEnd ?_
  refine GoO.condT c37_5e (by kernel_rfl) ?_
  refine GoO.seq' c37_6e ?_
  refine GoO.region' (is := [0, 1, 2, 3, 4, 5]) c37_7e (by kernel_rfl) ?_
  refine GoO.exec (is := [0, 1, 2, 3, 4, 5]) (hs := [.p, .p, .p, .b 0, .p, .p]) (rest := []) (ks := [1, 12, 13, 14]) (env' := [(1, .int .u64 id_5), (12, .slice A_3 t_1.rows.length c_4), (13, .int .i64 (t_1.rows.length : Int)), (14, .int .i64 0)]) (H' := [⟨1, b_2, [.int .u64 t_1.now, .int .u64 t_1.next, .slice A_3 t_1.rows.length c_4]⟩]) (ps := [b_2 = b_2]) (by kernel_rfl) (And.intro rfl trivial) ?_
  refine GoO.regionEnd ?_
  refine GoO.block' c37_8e ?_
  refine GoO.loop' c37_9e ?_
  exact GoO.sub (ks := [1, 12, 13, 14]) (hk := [0]) (bk := [0]) (by kernel_rfl) (by kernel_rfl) (by kernel_rfl) (session_Table_find_l0_ok n t_1 id_5 b_2 A_3 c_4 w0 S0 n 0)

/-! (*tontine/session.Table).Begin -/
noncomputable def c18_0 : Code := bodyOf Try.f18
noncomputable def c18_1 : Code := cdL c18_0
noncomputable def c18_2 : Code := cdR c18_0
noncomputable def c18_3 : Code := cdL c18_2
noncomputable def c18_4 : Code := cdR c18_2
noncomputable def c18_5 : Code := cdL c18_4
noncomputable def c18_6 : Code := cdL c18_5
noncomputable def c18_7 : Code := cdR c18_5
noncomputable def c18_8 : Code := cdL c18_7
noncomputable def c18_9 : Code := cdL c18_8
noncomputable def c18_10 : Code := cdR c18_8
noncomputable def c18_11 : Code := cdR c18_7
noncomputable def c18_12 : Code := cdR c18_4
noncomputable def c18_13 : Code := cdL c18_12
noncomputable def c18_14 : Code := cdR c18_12
noncomputable def c18_15 : Code := cdL c18_14
noncomputable def c18_16 : Code := cdR c18_14
noncomputable def c18_17 : Code := cdL c18_16
noncomputable def c18_18 : Code := cdL c18_17
noncomputable def c18_19 : Code := cdL c18_18
noncomputable def c18_20 : Code := cdR c18_18
noncomputable def c18_21 : Code := cdL c18_20
noncomputable def c18_22 : Code := cdL c18_21
noncomputable def c18_23 : Code := cdR c18_21
noncomputable def c18_24 : Code := cdR c18_20
noncomputable def c18_25 : Code := cdL c18_24
noncomputable def c18_26 : Code := cdR c18_24
noncomputable def c18_27 : Code := cdL c18_26
noncomputable def c18_28 : Code := cdL c18_27
noncomputable def c18_29 : Code := cdR c18_27
noncomputable def c18_30 : Code := cdR c18_26
noncomputable def c18_31 : Code := cdR c18_16
noncomputable def c18_32 : Code := cdL c18_31
noncomputable def c18_33 : Code := cdR c18_31
noncomputable def r18_1 : Array Oper := cdO c18_1
noncomputable def r18_3 : Array Oper := cdO c18_3
noncomputable def r18_6 : Array Oper := cdO c18_6
noncomputable def r18_9 : Array Oper := cdO c18_9
noncomputable def r18_13 : Array Oper := cdO c18_13
noncomputable def r18_15 : Array Oper := cdO c18_15
noncomputable def r18_19 : Array Oper := cdO c18_19
noncomputable def r18_22 : Array Oper := cdO c18_22
noncomputable def r18_25 : Array Oper := cdO c18_25
noncomputable def r18_28 : Array Oper := cdO c18_28
noncomputable def r18_32 : Array Oper := cdO c18_32
theorem c18_0e : c18_0 = .seq c18_1 c18_2 := by kernel_rfl
theorem c18_1e : c18_1 = .region 0 r18_1 false := by kernel_rfl
theorem c18_2e : c18_2 = .seq c18_3 c18_4 := by kernel_rfl
theorem c18_3e : c18_3 = .region 1 r18_3 false := by kernel_rfl
theorem c18_4e : c18_4 = .seq c18_5 c18_12 := by kernel_rfl
theorem c18_5e : c18_5 = .seq c18_6 c18_7 := by kernel_rfl
theorem c18_6e : c18_6 = .region 2 r18_6 false := by kernel_rfl
theorem c18_7e : c18_7 = .cond (cdC c18_7) c18_8 c18_11 := by kernel_rfl
theorem c18_8e : c18_8 = .seq c18_9 c18_10 := by kernel_rfl
theorem c18_9e : c18_9 = .region 3 r18_9 false := by kernel_rfl
theorem c18_10e : c18_10 = .ret := by kernel_rfl
theorem c18_11e : c18_11 = .skip := by kernel_rfl
theorem c18_12e : c18_12 = .seq c18_13 c18_14 := by kernel_rfl
theorem c18_13e : c18_13 = .region 4 r18_13 false := by kernel_rfl
theorem c18_14e : c18_14 = .seq c18_15 c18_16 := by kernel_rfl
theorem c18_15e : c18_15 = .region 5 r18_15 false := by kernel_rfl
theorem c18_16e : c18_16 = .seq c18_17 c18_31 := by kernel_rfl
theorem c18_17e : c18_17 = .block 0 c18_18 := by kernel_rfl
theorem c18_18e : c18_18 = .seq c18_19 c18_20 := by kernel_rfl
theorem c18_19e : c18_19 = .region 6 r18_19 false := by kernel_rfl
theorem c18_20e : c18_20 = .cond (cdC c18_20) c18_21 c18_24 := by kernel_rfl
theorem c18_21e : c18_21 = .seq c18_22 c18_23 := by kernel_rfl
theorem c18_22e : c18_22 = .region 7 r18_22 false := by kernel_rfl
theorem c18_23e : c18_23 = .ret := by kernel_rfl
theorem c18_24e : c18_24 = .seq c18_25 c18_26 := by kernel_rfl
theorem c18_25e : c18_25 = .region 8 r18_25 false := by kernel_rfl
theorem c18_26e : c18_26 = .cond (cdC c18_26) c18_27 c18_30 := by kernel_rfl
theorem c18_27e : c18_27 = .seq c18_28 c18_29 := by kernel_rfl
theorem c18_28e : c18_28 = .region 9 r18_28 false := by kernel_rfl
theorem c18_29e : c18_29 = .ret := by kernel_rfl
theorem c18_30e : c18_30 = .skip := by kernel_rfl
theorem c18_31e : c18_31 = .seq c18_32 c18_33 := by kernel_rfl
theorem c18_32e : c18_32 = .region 10 r18_32 false := by kernel_rfl
theorem c18_33e : c18_33 = .ret := by kernel_rfl
noncomputable def session_Table_Begin.R (b_2 : Nat) (A_3 : Option Addr) (c_4 : Nat) : Pst (T_api_Reply × Bool × T_session_Table) where
  ε := Option Addr × Nat
  v := fun r x => .tuple ⟨[.agg ⟨[.int .i64 r.1.Err, .int .u64 r.1.Num, .int .u64 r.1.Extra]⟩, .bool r.2.1]⟩
  H := fun r x => [⟨1, b_2, [.int .u64 r.2.2.now, .int .u64 r.2.2.next, .slice x.1 r.2.2.rows.length x.2]⟩]
  B := fun r x => [Ow 2 kT_session_Row x.1 x.2 r.2.2.rows]
noncomputable def session_Table_Begin.cx (b_2 : Nat) (A_3 : Option Addr) (c_4 : Nat) (w0 : World) (S0 : Fam) : Cx (T_api_Reply × Bool × T_session_Table) := ⟨Try.prog, 18, Try.f18, 58, w0, S0, [1, 2], 2, session_Table_Begin.R b_2 A_3 c_4⟩
theorem session_Table_Begin_j0_ok (n : Nat) (t_1 : T_session_Table) (seq_6 : Int) (r_8 : Int) (b_2 : Nat) (A_3 : Option Addr) (c_4 : Nat) (b_7 : Nat) (w0 : World) (S0 : Fam) (b_12 : Bool) :
    GoO (session_Table_Begin.cx b_2 A_3 c_4 w0 S0) [(2, .int .u64 seq_6), (6, .pointer (some ⟨b_7, 0, none⟩)), (9, elemP A_3 r_8.toNat 6 0), (29, .bool b_12)] [⟨40, b_7, [.int .i64 0, .int .u64 0, .int .u64 0]⟩, ⟨1, b_2, [.int .u64 t_1.now, .int .u64 t_1.next, .slice A_3 (t_1.rows.set r_8.toNat (⟨(rdL t_1.rows r_8).Id, t_1.now, (rdL t_1.rows r_8).Seq, (⟨(rdL t_1.rows r_8).Reply.Err, (rdL t_1.rows r_8).Reply.Num, (rdL t_1.rows r_8).Reply.Extra⟩ : T_api_Reply)⟩ : T_session_Row)).length c_4]⟩] [Ow 2 kT_session_Row A_3 c_4 (t_1.rows.set r_8.toNat (⟨(rdL t_1.rows r_8).Id, t_1.now, (rdL t_1.rows r_8).Seq, (⟨(rdL t_1.rows r_8).Reply.Err, (rdL t_1.rows r_8).Reply.Num, (rdL t_1.rows r_8).Reply.Extra⟩ : T_api_Reply)⟩ : T_session_Row))] [.code c18_20, .inBlock 0, .code c18_31] (session_Table_Begin.j0 n t_1 seq_6 r_8 b_12) := by
  unfold session_Table_Begin.j0
  refine GoO.ite' c18_20e (by kernel_rfl) (fun h13 => ?_) (fun h13 => ?_)
  · refine GoO.seq' c18_21e ?_
    refine GoO.region' (is := [0, 1, 2, 3, 4, 5]) c18_22e (by kernel_rfl) ?_
    refine GoO.exec (is := [0]) (hs := [.p]) (rest := [1, 2, 3, 4, 5]) (ks := [6, 40]) (env' := [(6, .pointer (some ⟨b_7, 0, none⟩)), (40, elemP A_3 r_8.toNat 6 0)]) (H' := [⟨40, b_7, [.int .i64 0, .int .u64 0, .int .u64 0]⟩, ⟨1, b_2, [.int .u64 t_1.now, .int .u64 t_1.next, .slice A_3 (t_1.rows.set r_8.toNat (⟨(rdL t_1.rows r_8).Id, t_1.now, (rdL t_1.rows r_8).Seq, (⟨(rdL t_1.rows r_8).Reply.Err, (rdL t_1.rows r_8).Reply.Num, (rdL t_1.rows r_8).Reply.Extra⟩ : T_api_Reply)⟩ : T_session_Row)).length c_4]⟩]) (ps := []) (by kernel_rfl) trivial ?_
    refine GoO.guard (fun h14 => ?_)
    refine OpTo.go (GoO.nilE (K := kT_session_Row) (A := A_3) (c := c_4) (xs := t_1.rows.set r_8.toNat (⟨(rdL t_1.rows r_8).Id, t_1.now, (rdL t_1.rows r_8).Seq, (⟨(rdL t_1.rows r_8).Reply.Err, (rdL t_1.rows r_8).Reply.Num, (rdL t_1.rows r_8).Reply.Extra⟩ : T_api_Reply)⟩ : T_session_Row)) (iN := r_8.toNat) (off := 0) (j := 0) rfl (by kernel_rfl) rfl Reads.own h14 (by decide) rfl ?_)
    refine GoO.guard (fun h15 => ?_)
    refine OpTo.go (GoO.fldE (K := kT_session_Row) (A := A_3) (c := c_4) (xs := t_1.rows.set r_8.toNat (⟨(rdL t_1.rows r_8).Id, t_1.now, (rdL t_1.rows r_8).Seq, (⟨(rdL t_1.rows r_8).Reply.Err, (rdL t_1.rows r_8).Reply.Num, (rdL t_1.rows r_8).Reply.Extra⟩ : T_api_Reply)⟩ : T_session_Row)) (iN := r_8.toNat) (off := 0) (n := 3) (j := 0) rfl (by kernel_rfl) (by kernel_rfl) rfl Reads.own h15 (by decide) rfl ?_)
    refine GoO.guard (fun h16 => ?_)
    refine OpTo.go (GoO.ldE' (K := kT_session_Row) (A := A_3) (c := c_4) (xs := t_1.rows.set r_8.toNat (⟨(rdL t_1.rows r_8).Id, t_1.now, (rdL t_1.rows r_8).Seq, (⟨(rdL t_1.rows r_8).Reply.Err, (rdL t_1.rows r_8).Reply.Num, (rdL t_1.rows r_8).Reply.Extra⟩ : T_api_Reply)⟩ : T_session_Row)) (iN := r_8.toNat) (off := 3) (j := 0) rfl (by kernel_rfl) rfl Reads.own h16 (by decide) (Opn.flat _ _ _ _ _) (v := fun _ => .agg ⟨[.int .i64 ((rdL (t_1.rows.set r_8.toNat (⟨(rdL t_1.rows r_8).Id, t_1.now, (rdL t_1.rows r_8).Seq, (⟨(rdL t_1.rows r_8).Reply.Err, (rdL t_1.rows r_8).Reply.Num, (rdL t_1.rows r_8).Reply.Extra⟩ : T_api_Reply)⟩ : T_session_Row)) r_8).Reply.Err), .int .u64 ((rdL (t_1.rows.set r_8.toNat (⟨(rdL t_1.rows r_8).Id, t_1.now, (rdL t_1.rows r_8).Seq, (⟨(rdL t_1.rows r_8).Reply.Err, (rdL t_1.rows r_8).Reply.Num, (rdL t_1.rows r_8).Reply.Extra⟩ : T_api_Reply)⟩ : T_session_Row)) r_8).Reply.Num), .int .u64 ((rdL (t_1.rows.set r_8.toNat (⟨(rdL t_1.rows r_8).Id, t_1.now, (rdL t_1.rows r_8).Seq, (⟨(rdL t_1.rows r_8).Reply.Err, (rdL t_1.rows r_8).Reply.Num, (rdL t_1.rows r_8).Reply.Extra⟩ : T_api_Reply)⟩ : T_session_Row)) r_8).Reply.Extra)]⟩) (fun _ => by kernel_rfl) _ (fun _ => rfl) (fun _ => ?_))
    refine GoO.exec (is := [4, 5]) (hs := [.b 0, .p]) (rest := []) (ks := [6, 7]) (env' := [(6, .pointer (some ⟨b_7, 0, none⟩)), (7, .bool false)]) (H' := [⟨40, b_7, [.int .i64 ((rdL (t_1.rows.set r_8.toNat (⟨(rdL t_1.rows r_8).Id, t_1.now, (rdL t_1.rows r_8).Seq, (⟨(rdL t_1.rows r_8).Reply.Err, (rdL t_1.rows r_8).Reply.Num, (rdL t_1.rows r_8).Reply.Extra⟩ : T_api_Reply)⟩ : T_session_Row)) r_8).Reply.Err), .int .u64 ((rdL (t_1.rows.set r_8.toNat (⟨(rdL t_1.rows r_8).Id, t_1.now, (rdL t_1.rows r_8).Seq, (⟨(rdL t_1.rows r_8).Reply.Err, (rdL t_1.rows r_8).Reply.Num, (rdL t_1.rows r_8).Reply.Extra⟩ : T_api_Reply)⟩ : T_session_Row)) r_8).Reply.Num), .int .u64 ((rdL (t_1.rows.set r_8.toNat (⟨(rdL t_1.rows r_8).Id, t_1.now, (rdL t_1.rows r_8).Seq, (⟨(rdL t_1.rows r_8).Reply.Err, (rdL t_1.rows r_8).Reply.Num, (rdL t_1.rows r_8).Reply.Extra⟩ : T_api_Reply)⟩ : T_session_Row)) r_8).Reply.Extra)]⟩, ⟨1, b_2, [.int .u64 t_1.now, .int .u64 t_1.next, .slice A_3 (t_1.rows.set r_8.toNat (⟨(rdL t_1.rows r_8).Id, t_1.now, (rdL t_1.rows r_8).Seq, (⟨(rdL t_1.rows r_8).Reply.Err, (rdL t_1.rows r_8).Reply.Num, (rdL t_1.rows r_8).Reply.Extra⟩ : T_api_Reply)⟩ : T_session_Row)).length c_4]⟩]) (ps := [b_7 = b_7]) (by kernel_rfl) (And.intro rfl trivial) ?_
    refine GoO.regionEnd ?_
    exact GoO.ret' (h := c18_23e) (hs := [0]) (ps := [b_7 = b_7]) (hk := [1]) (bk := [0]) Try.func18 (⟨A_3, c_4⟩ : Option Addr × Nat) (by kernel_rfl) (And.intro rfl trivial) (by kernel_rfl) (by kernel_rfl)
  · refine GoO.seq' c18_24e ?_
    refine GoO.region' (is := [0, 1, 2, 3, 4, 5, 6, 7, 8, 9, 10, 11]) c18_25e (by kernel_rfl) ?_
    refine GoO.exec (is := [0, 1]) (hs := [.p, .p]) (rest := [2, 3, 4, 5, 6, 7, 8, 9, 10, 11]) (ks := [2, 6, 45, 46]) (env' := [(2, .int .u64 seq_6), (6, .pointer (some ⟨b_7, 0, none⟩)), (45, .int .u64 seq_6), (46, elemP A_3 r_8.toNat 6 0)]) (H' := [⟨40, b_7, [.int .i64 0, .int .u64 0, .int .u64 0]⟩, ⟨1, b_2, [.int .u64 t_1.now, .int .u64 t_1.next, .slice A_3 (t_1.rows.set r_8.toNat (⟨(rdL t_1.rows r_8).Id, t_1.now, (rdL t_1.rows r_8).Seq, (⟨(rdL t_1.rows r_8).Reply.Err, (rdL t_1.rows r_8).Reply.Num, (rdL t_1.rows r_8).Reply.Extra⟩ : T_api_Reply)⟩ : T_session_Row)).length c_4]⟩]) (ps := []) (by kernel_rfl) trivial ?_
    refine GoO.guard (fun h17 => ?_)
    refine OpTo.go (GoO.nilE (K := kT_session_Row) (A := A_3) (c := c_4) (xs := t_1.rows.set r_8.toNat (⟨(rdL t_1.rows r_8).Id, t_1.now, (rdL t_1.rows r_8).Seq, (⟨(rdL t_1.rows r_8).Reply.Err, (rdL t_1.rows r_8).Reply.Num, (rdL t_1.rows r_8).Reply.Extra⟩ : T_api_Reply)⟩ : T_session_Row)) (iN := r_8.toNat) (off := 0) (j := 0) rfl (by kernel_rfl) rfl Reads.own h17 (by decide) rfl ?_)
    refine GoO.guard (fun h18 => ?_)
    refine OpTo.go (GoO.fldE (K := kT_session_Row) (A := A_3) (c := c_4) (xs := t_1.rows.set r_8.toNat (⟨(rdL t_1.rows r_8).Id, t_1.now, (rdL t_1.rows r_8).Seq, (⟨(rdL t_1.rows r_8).Reply.Err, (rdL t_1.rows r_8).Reply.Num, (rdL t_1.rows r_8).Reply.Extra⟩ : T_api_Reply)⟩ : T_session_Row)) (iN := r_8.toNat) (off := 0) (n := 2) (j := 0) rfl (by kernel_rfl) (by kernel_rfl) rfl Reads.own h18 (by decide) rfl ?_)
    refine GoO.guard (fun h19 => ?_)
    refine OpTo.go (GoO.ldE' (K := kT_session_Row) (A := A_3) (c := c_4) (xs := t_1.rows.set r_8.toNat (⟨(rdL t_1.rows r_8).Id, t_1.now, (rdL t_1.rows r_8).Seq, (⟨(rdL t_1.rows r_8).Reply.Err, (rdL t_1.rows r_8).Reply.Num, (rdL t_1.rows r_8).Reply.Extra⟩ : T_api_Reply)⟩ : T_session_Row)) (iN := r_8.toNat) (off := 2) (j := 0) rfl (by kernel_rfl) rfl Reads.own h19 (by decide) (Opn.flat _ _ _ _ _) (v := fun _ => .int .u64 ((rdL (t_1.rows.set r_8.toNat (⟨(rdL t_1.rows r_8).Id, t_1.now, (rdL t_1.rows r_8).Seq, (⟨(rdL t_1.rows r_8).Reply.Err, (rdL t_1.rows r_8).Reply.Num, (rdL t_1.rows r_8).Reply.Extra⟩ : T_api_Reply)⟩ : T_session_Row)) r_8).Seq)) (fun _ => by kernel_rfl) _ (fun _ => rfl) (fun _ => ?_))
    refine GoO.exec (is := [5, 6, 7]) (hs := [.p, .p, .p]) (rest := [8, 9, 10, 11]) (ks := [2, 6, 52]) (env' := [(2, .int .u64 seq_6), (6, .pointer (some ⟨b_7, 0, none⟩)), (52, .bool (seq_6 != (wu64 (((rdL (t_1.rows.set r_8.toNat (⟨(rdL t_1.rows r_8).Id, t_1.now, (rdL t_1.rows r_8).Seq, (⟨(rdL t_1.rows r_8).Reply.Err, (rdL t_1.rows r_8).Reply.Num, (rdL t_1.rows r_8).Reply.Extra⟩ : T_api_Reply)⟩ : T_session_Row)) r_8).Seq) + 1))))]) (H' := [⟨40, b_7, [.int .i64 0, .int .u64 0, .int .u64 0]⟩, ⟨1, b_2, [.int .u64 t_1.now, .int .u64 t_1.next, .slice A_3 (t_1.rows.set r_8.toNat (⟨(rdL t_1.rows r_8).Id, t_1.now, (rdL t_1.rows r_8).Seq, (⟨(rdL t_1.rows r_8).Reply.Err, (rdL t_1.rows r_8).Reply.Num, (rdL t_1.rows r_8).Reply.Extra⟩ : T_api_Reply)⟩ : T_session_Row)).length c_4]⟩]) (ps := []) (by kernel_rfl) trivial ?_
    refine GoO.bsplit (t := 52) (by kernel_rfl) (fun h20 => ?_) (fun h20 => ?_)
    · refine GoO.exec (is := [8, 9, 10, 11]) (hs := [.p, .p, .p, .p]) (rest := []) (ks := [6, 44]) (env' := [(6, .pointer (some ⟨b_7, 0, none⟩)), (44, .bool true)]) (H' := [⟨40, b_7, [.int .i64 0, .int .u64 0, .int .u64 0]⟩, ⟨1, b_2, [.int .u64 t_1.now, .int .u64 t_1.next, .slice A_3 (t_1.rows.set r_8.toNat (⟨(rdL t_1.rows r_8).Id, t_1.now, (rdL t_1.rows r_8).Seq, (⟨(rdL t_1.rows r_8).Reply.Err, (rdL t_1.rows r_8).Reply.Num, (rdL t_1.rows r_8).Reply.Extra⟩ : T_api_Reply)⟩ : T_session_Row)).length c_4]⟩]) (ps := []) (by kernel_rfl) trivial ?_
      refine GoO.regionEnd ?_
      refine GoO.condT c18_26e (by kernel_rfl) ?_
      refine GoO.seq' c18_27e ?_
      refine GoO.region' (is := [0, 1, 2]) c18_28e (by kernel_rfl) ?_
      refine GoO.exec (is := [0, 1, 2]) (hs := [.p, .b 0, .p]) (rest := []) (ks := [6, 7]) (env' := [(6, .pointer (some ⟨b_7, 0, none⟩)), (7, .bool false)]) (H' := [⟨40, b_7, [.int .i64 41, .int .u64 0, .int .u64 0]⟩, ⟨1, b_2, [.int .u64 t_1.now, .int .u64 t_1.next, .slice A_3 (t_1.rows.set r_8.toNat (⟨(rdL t_1.rows r_8).Id, t_1.now, (rdL t_1.rows r_8).Seq, (⟨(rdL t_1.rows r_8).Reply.Err, (rdL t_1.rows r_8).Reply.Num, (rdL t_1.rows r_8).Reply.Extra⟩ : T_api_Reply)⟩ : T_session_Row)).length c_4]⟩]) (ps := [b_7 = b_7]) (by kernel_rfl) (And.intro rfl trivial) ?_
      refine GoO.regionEnd ?_
      exact GoO.ret' (h := c18_29e) (hs := [0]) (ps := [b_7 = b_7]) (hk := [1]) (bk := [0]) Try.func18 (⟨A_3, c_4⟩ : Option Addr × Nat) (by kernel_rfl) (And.intro rfl trivial) (by kernel_rfl) (by kernel_rfl)
    · refine GoO.exec (is := [8, 9, 10, 11]) (hs := [.p, .p, .p, .p]) (rest := []) (ks := [6, 44]) (env' := [(6, .pointer (some ⟨b_7, 0, none⟩)), (44, .bool (seq_6 == 0))]) (H' := [⟨40, b_7, [.int .i64 0, .int .u64 0, .int .u64 0]⟩, ⟨1, b_2, [.int .u64 t_1.now, .int .u64 t_1.next, .slice A_3 (t_1.rows.set r_8.toNat (⟨(rdL t_1.rows r_8).Id, t_1.now, (rdL t_1.rows r_8).Seq, (⟨(rdL t_1.rows r_8).Reply.Err, (rdL t_1.rows r_8).Reply.Num, (rdL t_1.rows r_8).Reply.Extra⟩ : T_api_Reply)⟩ : T_session_Row)).length c_4]⟩]) (ps := []) (by kernel_rfl) trivial ?_
      refine GoO.regionEnd ?_
      refine GoO.ite' c18_26e (by kernel_rfl) (fun h21 => ?_) (fun h21 => ?_)
      · refine GoO.seq' c18_27e ?_
        refine GoO.region' (is := [0, 1, 2]) c18_28e (by kernel_rfl) ?_
        refine GoO.exec (is := [0, 1, 2]) (hs := [.p, .b 0, .p]) (rest := []) (ks := [6, 7]) (env' := [(6, .pointer (some ⟨b_7, 0, none⟩)), (7, .bool false)]) (H' := [⟨40, b_7, [.int .i64 41, .int .u64 0, .int .u64 0]⟩, ⟨1, b_2, [.int .u64 t_1.now, .int .u64 t_1.next, .slice A_3 (t_1.rows.set r_8.toNat (⟨(rdL t_1.rows r_8).Id, t_1.now, (rdL t_1.rows r_8).Seq, (⟨(rdL t_1.rows r_8).Reply.Err, (rdL t_1.rows r_8).Reply.Num, (rdL t_1.rows r_8).Reply.Extra⟩ : T_api_Reply)⟩ : T_session_Row)).length c_4]⟩]) (ps := [b_7 = b_7]) (by kernel_rfl) (And.intro rfl trivial) ?_
        refine GoO.regionEnd ?_
        exact GoO.ret' (h := c18_29e) (hs := [0]) (ps := [b_7 = b_7]) (hk := [1]) (bk := [0]) Try.func18 (⟨A_3, c_4⟩ : Option Addr × Nat) (by kernel_rfl) (And.intro rfl trivial) (by kernel_rfl) (by kernel_rfl)
      · refine GoO.skip' c18_30e ?_
        refine GoO.inBlock ?_
        refine GoO.seq' c18_31e ?_
        refine GoO.region' (is := [0, 1, 2]) c18_32e (by kernel_rfl) ?_
        refine GoO.exec (is := [0, 1, 2]) (hs := [.p, .b 0, .p]) (rest := []) (ks := [6, 7]) (env' := [(6, .pointer (some ⟨b_7, 0, none⟩)), (7, .bool true)]) (H' := [⟨40, b_7, [.int .i64 0, .int .u64 0, .int .u64 0]⟩, ⟨1, b_2, [.int .u64 t_1.now, .int .u64 t_1.next, .slice A_3 (t_1.rows.set r_8.toNat (⟨(rdL t_1.rows r_8).Id, t_1.now, (rdL t_1.rows r_8).Seq, (⟨(rdL t_1.rows r_8).Reply.Err, (rdL t_1.rows r_8).Reply.Num, (rdL t_1.rows r_8).Reply.Extra⟩ : T_api_Reply)⟩ : T_session_Row)).length c_4]⟩]) (ps := [b_7 = b_7]) (by kernel_rfl) (And.intro rfl trivial) ?_
        refine GoO.regionEnd ?_
        exact GoO.ret' (h := c18_33e) (hs := [0]) (ps := [b_7 = b_7]) (hk := [1]) (bk := [0]) Try.func18 (⟨A_3, c_4⟩ : Option Addr × Nat) (by kernel_rfl) (And.intro rfl trivial) (by kernel_rfl) (by kernel_rfl)
theorem session_Table_Begin_ok (n : Nat) (t_1 : T_session_Table) (id_5 : Int) (seq_6 : Int) (b_2 : Nat) (A_3 : Option Addr) (c_4 : Nat) :
    Meets Try.prog 18 [.pointer (some ⟨b_2, 0, none⟩), .int .u64 id_5, .int .u64 seq_6] 2 [1, 2] [⟨1, b_2, [.int .u64 t_1.now, .int .u64 t_1.next, .slice A_3 t_1.rows.length c_4]⟩] [Ow 2 kT_session_Row A_3 c_4 t_1.rows] (session_Table_Begin.f n t_1 id_5 seq_6) (session_Table_Begin.R b_2 A_3 c_4) := by
  refine Meets.of (c := c18_0) (n := 58) Try.func18 (by kernel_rfl) (by kernel_rfl) (by kernel_rfl) fun w0 S0 => ?_
  unfold session_Table_Begin.f
  show GoO (session_Table_Begin.cx b_2 A_3 c_4 w0 S0) [(0, .pointer (some ⟨b_2, 0, none⟩)), (1, .int .u64 id_5), (2, .int .u64 seq_6)] [⟨1, b_2, [.int .u64 t_1.now, .int .u64 t_1.next, .slice A_3 t_1.rows.length c_4]⟩] [Ow 2 kT_session_Row A_3 c_4 t_1.rows] [.code c18_0] _
  refine GoO.seq' c18_0e ?_
  refine GoO.region' (is := [0, 1]) c18_1e (by kernel_rfl) ?_
  refine OpTo.go (GoO.new rfl 40 (cs := [.int .i64 0, .int .u64 0, .int .u64 0]) (by kernel_rfl) _ (fun _ => rfl) (fun b_7 => ?_))
  refine GoO.exec (is := [1]) (hs := [.p]) (rest := []) (ks := [0, 1, 2, 6]) (env' := [(0, .pointer (some ⟨b_2, 0, none⟩)), (1, .int .u64 id_5), (2, .int .u64 seq_6), (6, .pointer (some ⟨b_7, 0, none⟩))]) (H' := [⟨40, b_7, [.int .i64 0, .int .u64 0, .int .u64 0]⟩, ⟨1, b_2, [.int .u64 t_1.now, .int .u64 t_1.next, .slice A_3 t_1.rows.length c_4]⟩]) (ps := []) (by kernel_rfl) trivial ?_
  refine GoO.regionEnd ?_
  refine GoO.seq' c18_2e ?_
  refine GoO.region' (is := [0, 1, 2, 3]) c18_3e (by kernel_rfl) ?_
  refine GoO.exec (is := [0, 1]) (hs := [.p, .p]) (rest := [2, 3]) (ks := [0, 2, 6, 10, 11]) (env' := [(0, .pointer (some ⟨b_2, 0, none⟩)), (2, .int .u64 seq_6), (6, .pointer (some ⟨b_7, 0, none⟩)), (10, .pointer (some ⟨b_2, 0, none⟩)), (11, .int .u64 id_5)]) (H' := [⟨40, b_7, [.int .i64 0, .int .u64 0, .int .u64 0]⟩, ⟨1, b_2, [.int .u64 t_1.now, .int .u64 t_1.next, .slice A_3 t_1.rows.length c_4]⟩]) (ps := []) (by kernel_rfl) trivial ?_
  refine OpTo.go (GoO.call rfl (by kernel_rfl) (by kernel_rfl) (session_Table_find_ok n t_1 id_5 b_2 A_3 c_4) [[0], [1], [2]] [] [(1, 1)] [(2, 0)] (hks := [0, 1]) (bks := [0]) (by kernel_rfl) (by kernel_rfl) (by kernel_rfl) (.inl rfl) rfl rfl (by kernel_rfl) (by kernel_rfl) _ (fun _ _ => rfl) _ _ (fun _ _ => rfl) (fun _ _ => rfl) (fun _ _ => by kernel_rfl) (fun _ _ => by kernel_rfl) (fun r_8 x_22 => ?_))
  refine GoO.shape (env' := [(0, .pointer (some ⟨b_2, 0, none⟩)), (2, .int .u64 seq_6), (6, .pointer (some ⟨b_7, 0, none⟩)), (10, .pointer (some ⟨b_2, 0, none⟩)), (11, .int .u64 id_5), (12, .int .i64 r_8)]) (H' := [⟨40, b_7, [.int .i64 0, .int .u64 0, .int .u64 0]⟩, ⟨1, b_2, [.int .u64 t_1.now, .int .u64 t_1.next, .slice A_3 t_1.rows.length c_4]⟩]) (B' := [Ow 2 kT_session_Row A_3 c_4 t_1.rows]) (ks := [0, 2, 6, 10, 11, 12]) (by kernel_rfl) (by kernel_rfl) (by kernel_rfl) ?_
  refine GoO.exec (is := [3]) (hs := [.p]) (rest := []) (ks := [0, 2, 6, 8]) (env' := [(0, .pointer (some ⟨b_2, 0, none⟩)), (2, .int .u64 seq_6), (6, .pointer (some ⟨b_7, 0, none⟩)), (8, .int .i64 r_8)]) (H' := [⟨40, b_7, [.int .i64 0, .int .u64 0, .int .u64 0]⟩, ⟨1, b_2, [.int .u64 t_1.now, .int .u64 t_1.next, .slice A_3 t_1.rows.length c_4]⟩]) (ps := []) (by kernel_rfl) trivial ?_
  refine GoO.regionEnd ?_
  refine GoO.seq' c18_4e ?_
  refine GoO.seq' c18_5e ?_
  refine GoO.region' (is := [0, 1]) c18_6e (by kernel_rfl) ?_
  refine GoO.exec (is := [0, 1]) (hs := [.p, .p]) (rest := []) (ks := [0, 2, 6, 8, 14]) (env' := [(0, .pointer (some ⟨b_2, 0, none⟩)), (2, .int .u64 seq_6), (6, .pointer (some ⟨b_7, 0, none⟩)), (8, .int .i64 r_8), (14, .bool (decide (r_8 < 0)))]) (H' := [⟨40, b_7, [.int .i64 0, .int .u64 0, .int .u64 0]⟩, ⟨1, b_2, [.int .u64 t_1.now, .int .u64 t_1.next, .slice A_3 t_1.rows.length c_4]⟩]) (ps := []) (by kernel_rfl) trivial ?_
  refine GoO.regionEnd ?_
  refine GoO.ite' c18_7e (by kernel_rfl) (fun h9 => ?_) (fun h9 => ?_)
  · refine GoO.seq' c18_8e ?_
    refine GoO.region' (is := [0, 1, 2]) c18_9e (by kernel_rfl) ?_
    refine GoO.exec (is := [0, 1, 2]) (hs := [.p, .b 0, .p]) (rest := []) (ks := [6, 7]) (env' := [(6, .pointer (some ⟨b_7, 0, none⟩)), (7, .bool false)]) (H' := [⟨40, b_7, [.int .i64 40, .int .u64 0, .int .u64 0]⟩, ⟨1, b_2, [.int .u64 t_1.now, .int .u64 t_1.next, .slice A_3 t_1.rows.length c_4]⟩]) (ps := [b_7 = b_7]) (by kernel_rfl) (And.intro rfl trivial) ?_
    refine GoO.regionEnd ?_
    exact GoO.ret' (h := c18_10e) (hs := [0]) (ps := [b_7 = b_7]) (hk := [1]) (bk := [0]) Try.func18 (⟨A_3, c_4⟩ : Option Addr × Nat) (by kernel_rfl) (And.intro rfl trivial) (by kernel_rfl) (by kernel_rfl)
  · refine GoO.skip' c18_11e ?_
    refine GoO.seq' c18_12e ?_
    refine GoO.region' (is := [0, 1, 2, 3, 4, 5, 6]) c18_13e (by kernel_rfl) ?_
    refine GoO.exec (is := [0, 1, 2, 3, 4]) (hs := [.p, .p, .p, .b 1, .p]) (rest := [5, 6]) (ks := [0, 2, 6, 19, 20]) (env' := [(0, .pointer (some ⟨b_2, 0, none⟩)), (2, .int .u64 seq_6), (6, .pointer (some ⟨b_7, 0, none⟩)), (19, .slice A_3 t_1.rows.length c_4), (20, .int .i64 r_8)]) (H' := [⟨40, b_7, [.int .i64 0, .int .u64 0, .int .u64 0]⟩, ⟨1, b_2, [.int .u64 t_1.now, .int .u64 t_1.next, .slice A_3 t_1.rows.length c_4]⟩]) (ps := [b_2 = b_2]) (by kernel_rfl) (And.intro rfl trivial) ?_
    refine GoO.guard (fun h10 => ?_)
    refine OpTo.go (GoO.idx (kk := .i64) (e := 87) (K := kT_session_Row) (A := A_3) (c := c_4) (xs := t_1.rows) (iv := r_8) (j := 0) rfl (by kernel_rfl) (by kernel_rfl) (by kernel_rfl) (by kernel_rfl) rfl Reads.own rfl h10.1 h10.2 (by decide) rfl ?_)
    refine GoO.exec (is := [6]) (hs := [.p]) (rest := []) (ks := [0, 2, 6, 9]) (env' := [(0, .pointer (some ⟨b_2, 0, none⟩)), (2, .int .u64 seq_6), (6, .pointer (some ⟨b_7, 0, none⟩)), (9, elemP A_3 r_8.toNat 6 0)]) (H' := [⟨40, b_7, [.int .i64 0, .int .u64 0, .int .u64 0]⟩, ⟨1, b_2, [.int .u64 t_1.now, .int .u64 t_1.next, .slice A_3 t_1.rows.length c_4]⟩]) (ps := []) (by kernel_rfl) trivial ?_
    refine GoO.regionEnd ?_
    refine GoO.seq' c18_14e ?_
    refine GoO.region' (is := [0, 1, 2, 3, 4, 5, 6, 7]) c18_15e (by kernel_rfl) ?_
    refine GoO.exec (is := [0, 1, 2, 3, 4]) (hs := [.p, .p, .p, .p, .b 1]) (rest := [5, 6, 7]) (ks := [2, 6, 9, 22, 26]) (env' := [(2, .int .u64 seq_6), (6, .pointer (some ⟨b_7, 0, none⟩)), (9, elemP A_3 r_8.toNat 6 0), (22, elemP A_3 r_8.toNat 6 0), (26, .int .u64 t_1.now)]) (H' := [⟨40, b_7, [.int .i64 0, .int .u64 0, .int .u64 0]⟩, ⟨1, b_2, [.int .u64 t_1.now, .int .u64 t_1.next, .slice A_3 t_1.rows.length c_4]⟩]) (ps := [b_2 = b_2]) (by kernel_rfl) (And.intro rfl trivial) ?_
    refine OpTo.go (GoO.nilE (K := kT_session_Row) (A := A_3) (c := c_4) (xs := t_1.rows) (iN := r_8.toNat) (off := 0) (j := 0) rfl (by kernel_rfl) rfl Reads.own (by first | exact idx_lt h10.1 h10.2 | (simp only [List.length_set]; exact idx_lt h10.1 h10.2)) (by decide) rfl ?_)
    refine OpTo.go (GoO.fldE (K := kT_session_Row) (A := A_3) (c := c_4) (xs := t_1.rows) (iN := r_8.toNat) (off := 0) (n := 1) (j := 0) rfl (by kernel_rfl) (by kernel_rfl) rfl Reads.own (by first | exact idx_lt h10.1 h10.2 | (simp only [List.length_set]; exact idx_lt h10.1 h10.2)) (by decide) rfl ?_)
    refine OpTo.go (GoO.stE (K := kT_session_Row) (A := A_3) (c := c_4) (xs := t_1.rows) (iN := r_8.toNat) (off := 1) (tg := 2) (j := 0) (v := .int .u64 t_1.now) rfl (by kernel_rfl) (by kernel_rfl) rfl (by first | exact idx_lt h10.1 h10.2 | (simp only [List.length_set]; exact idx_lt h10.1 h10.2)) (by decide) (by kernel_rfl) (by kernel_rfl) (by kernel_rfl) ((⟨(rdL t_1.rows r_8).Id, t_1.now, (rdL t_1.rows r_8).Seq, (⟨(rdL t_1.rows r_8).Reply.Err, (rdL t_1.rows r_8).Reply.Num, (rdL t_1.rows r_8).Reply.Extra⟩ : T_api_Reply)⟩ : T_session_Row)) (fun w S cs _ hr => ⟨_, by subst hr; exact stored_flat rfl, rfl⟩) rfl ?_)
    refine GoO.rebox (j := 1) (t := 1) (b := b_2) (cs := [.int .u64 t_1.now, .int .u64 t_1.next, .slice A_3 t_1.rows.length c_4]) (cs' := [.int .u64 t_1.now, .int .u64 t_1.next, .slice A_3 (t_1.rows.set r_8.toNat (⟨(rdL t_1.rows r_8).Id, t_1.now, (rdL t_1.rows r_8).Seq, (⟨(rdL t_1.rows r_8).Reply.Err, (rdL t_1.rows r_8).Reply.Num, (rdL t_1.rows r_8).Reply.Extra⟩ : T_api_Reply)⟩ : T_session_Row)).length c_4]) (by kernel_rfl) (by simp) ?_
    refine GoO.regionEnd ?_
    refine GoO.seq' c18_16e ?_
    refine GoO.block' c18_17e ?_
    refine GoO.seq' c18_18e ?_
    refine GoO.region' (is := [0, 1, 2, 3, 4, 5, 6, 7, 8, 9, 10]) c18_19e (by kernel_rfl) ?_
    refine GoO.exec (is := [0, 1]) (hs := [.p, .p]) (rest := [2, 3, 4, 5, 6, 7, 8, 9, 10]) (ks := [2, 6, 9, 30, 31]) (env' := [(2, .int .u64 seq_6), (6, .pointer (some ⟨b_7, 0, none⟩)), (9, elemP A_3 r_8.toNat 6 0), (30, .int .u64 seq_6), (31, elemP A_3 r_8.toNat 6 0)]) (H' := [⟨40, b_7, [.int .i64 0, .int .u64 0, .int .u64 0]⟩, ⟨1, b_2, [.int .u64 t_1.now, .int .u64 t_1.next, .slice A_3 (t_1.rows.set r_8.toNat (⟨(rdL t_1.rows r_8).Id, t_1.now, (rdL t_1.rows r_8).Seq, (⟨(rdL t_1.rows r_8).Reply.Err, (rdL t_1.rows r_8).Reply.Num, (rdL t_1.rows r_8).Reply.Extra⟩ : T_api_Reply)⟩ : T_session_Row)).length c_4]⟩]) (ps := []) (by kernel_rfl) trivial ?_
    refine OpTo.go (GoO.nilE (K := kT_session_Row) (A := A_3) (c := c_4) (xs := t_1.rows.set r_8.toNat (⟨(rdL t_1.rows r_8).Id, t_1.now, (rdL t_1.rows r_8).Seq, (⟨(rdL t_1.rows r_8).Reply.Err, (rdL t_1.rows r_8).Reply.Num, (rdL t_1.rows r_8).Reply.Extra⟩ : T_api_Reply)⟩ : T_session_Row)) (iN := r_8.toNat) (off := 0) (j := 0) rfl (by kernel_rfl) rfl Reads.own (by first | exact idx_lt h10.1 h10.2 | (simp only [List.length_set]; exact idx_lt h10.1 h10.2)) (by decide) rfl ?_)
    refine OpTo.go (GoO.fldE (K := kT_session_Row) (A := A_3) (c := c_4) (xs := t_1.rows.set r_8.toNat (⟨(rdL t_1.rows r_8).Id, t_1.now, (rdL t_1.rows r_8).Seq, (⟨(rdL t_1.rows r_8).Reply.Err, (rdL t_1.rows r_8).Reply.Num, (rdL t_1.rows r_8).Reply.Extra⟩ : T_api_Reply)⟩ : T_session_Row)) (iN := r_8.toNat) (off := 0) (n := 2) (j := 0) rfl (by kernel_rfl) (by kernel_rfl) rfl Reads.own (by first | exact idx_lt h10.1 h10.2 | (simp only [List.length_set]; exact idx_lt h10.1 h10.2)) (by decide) rfl ?_)
    refine OpTo.go (GoO.ldE' (K := kT_session_Row) (A := A_3) (c := c_4) (xs := t_1.rows.set r_8.toNat (⟨(rdL t_1.rows r_8).Id, t_1.now, (rdL t_1.rows r_8).Seq, (⟨(rdL t_1.rows r_8).Reply.Err, (rdL t_1.rows r_8).Reply.Num, (rdL t_1.rows r_8).Reply.Extra⟩ : T_api_Reply)⟩ : T_session_Row)) (iN := r_8.toNat) (off := 2) (j := 0) rfl (by kernel_rfl) rfl Reads.own (by first | exact idx_lt h10.1 h10.2 | (simp only [List.length_set]; exact idx_lt h10.1 h10.2)) (by decide) (Opn.flat _ _ _ _ _) (v := fun _ => .int .u64 ((rdL (t_1.rows.set r_8.toNat (⟨(rdL t_1.rows r_8).Id, t_1.now, (rdL t_1.rows r_8).Seq, (⟨(rdL t_1.rows r_8).Reply.Err, (rdL t_1.rows r_8).Reply.Num, (rdL t_1.rows r_8).Reply.Extra⟩ : T_api_Reply)⟩ : T_session_Row)) r_8).Seq)) (fun _ => by kernel_rfl) _ (fun _ => rfl) (fun _ => ?_))
    refine GoO.exec (is := [5, 6]) (hs := [.p, .p]) (rest := [7, 8, 9, 10]) (ks := [2, 6, 9, 36]) (env' := [(2, .int .u64 seq_6), (6, .pointer (some ⟨b_7, 0, none⟩)), (9, elemP A_3 r_8.toNat 6 0), (36, .bool (seq_6 == ((rdL (t_1.rows.set r_8.toNat (⟨(rdL t_1.rows r_8).Id, t_1.now, (rdL t_1.rows r_8).Seq, (⟨(rdL t_1.rows r_8).Reply.Err, (rdL t_1.rows r_8).Reply.Num, (rdL t_1.rows r_8).Reply.Extra⟩ : T_api_Reply)⟩ : T_session_Row)) r_8).Seq)))]) (H' := [⟨40, b_7, [.int .i64 0, .int .u64 0, .int .u64 0]⟩, ⟨1, b_2, [.int .u64 t_1.now, .int .u64 t_1.next, .slice A_3 (t_1.rows.set r_8.toNat (⟨(rdL t_1.rows r_8).Id, t_1.now, (rdL t_1.rows r_8).Seq, (⟨(rdL t_1.rows r_8).Reply.Err, (rdL t_1.rows r_8).Reply.Num, (rdL t_1.rows r_8).Reply.Extra⟩ : T_api_Reply)⟩ : T_session_Row)).length c_4]⟩]) (ps := []) (by kernel_rfl) trivial ?_
    refine GoO.bsplit (t := 36) (by kernel_rfl) (fun h11 => ?_) (fun h11 => ?_)
    · refine GoO.exec (is := [7, 8, 9, 10]) (hs := [.p, .p, .p, .p]) (rest := []) (ks := [2, 6, 9, 29]) (env' := [(2, .int .u64 seq_6), (6, .pointer (some ⟨b_7, 0, none⟩)), (9, elemP A_3 r_8.toNat 6 0), (29, .bool (decide (seq_6 > 0)))]) (H' := [⟨40, b_7, [.int .i64 0, .int .u64 0, .int .u64 0]⟩, ⟨1, b_2, [.int .u64 t_1.now, .int .u64 t_1.next, .slice A_3 (t_1.rows.set r_8.toNat (⟨(rdL t_1.rows r_8).Id, t_1.now, (rdL t_1.rows r_8).Seq, (⟨(rdL t_1.rows r_8).Reply.Err, (rdL t_1.rows r_8).Reply.Num, (rdL t_1.rows r_8).Reply.Extra⟩ : T_api_Reply)⟩ : T_session_Row)).length c_4]⟩]) (ps := []) (by kernel_rfl) trivial ?_
      refine GoO.regionEnd ?_
      exact GoO.sub (ks := [2, 6, 9, 29]) (hk := [0, 1]) (bk := [0]) (by kernel_rfl) (by kernel_rfl) (by kernel_rfl) (session_Table_Begin_j0_ok n t_1 seq_6 r_8 b_2 A_3 c_4 b_7 w0 S0 (decide (seq_6 > 0)))
    · refine GoO.exec (is := [7, 8, 9, 10]) (hs := [.p, .p, .p, .p]) (rest := []) (ks := [2, 6, 9, 29]) (env' := [(2, .int .u64 seq_6), (6, .pointer (some ⟨b_7, 0, none⟩)), (9, elemP A_3 r_8.toNat 6 0), (29, .bool false)]) (H' := [⟨40, b_7, [.int .i64 0, .int .u64 0, .int .u64 0]⟩, ⟨1, b_2, [.int .u64 t_1.now, .int .u64 t_1.next, .slice A_3 (t_1.rows.set r_8.toNat (⟨(rdL t_1.rows r_8).Id, t_1.now, (rdL t_1.rows r_8).Seq, (⟨(rdL t_1.rows r_8).Reply.Err, (rdL t_1.rows r_8).Reply.Num, (rdL t_1.rows r_8).Reply.Extra⟩ : T_api_Reply)⟩ : T_session_Row)).length c_4]⟩]) (ps := []) (by kernel_rfl) trivial ?_
      refine GoO.regionEnd ?_
      exact GoO.sub (ks := [2, 6, 9, 29]) (hk := [0, 1]) (bk := [0]) (by kernel_rfl) (by kernel_rfl) (by kernel_rfl) (session_Table_Begin_j0_ok n t_1 seq_6 r_8 b_2 A_3 c_4 b_7 w0 S0 false)

/-! (*tontine/session.Table).End -/
noncomputable def c19_0 : Code := bodyOf Try.f19
noncomputable def c19_1 : Code := cdL c19_0
noncomputable def c19_2 : Code := cdR c19_0
noncomputable def c19_3 : Code := cdL c19_2
noncomputable def c19_4 : Code := cdR c19_2
noncomputable def c19_5 : Code := cdL c19_4
noncomputable def c19_6 : Code := cdL c19_5
noncomputable def c19_7 : Code := cdR c19_5
noncomputable def c19_8 : Code := cdL c19_7
noncomputable def c19_9 : Code := cdL c19_8
noncomputable def c19_10 : Code := cdR c19_8
noncomputable def c19_11 : Code := cdR c19_7
noncomputable def c19_12 : Code := cdR c19_4
noncomputable def c19_13 : Code := cdL c19_12
noncomputable def c19_14 : Code := cdR c19_12
noncomputable def c19_15 : Code := cdL c19_14
noncomputable def c19_16 : Code := cdR c19_14
noncomputable def r19_1 : Array Oper := cdO c19_1
noncomputable def r19_3 : Array Oper := cdO c19_3
noncomputable def r19_6 : Array Oper := cdO c19_6
noncomputable def r19_9 : Array Oper := cdO c19_9
noncomputable def r19_13 : Array Oper := cdO c19_13
noncomputable def r19_15 : Array Oper := cdO c19_15
theorem c19_0e : c19_0 = .seq c19_1 c19_2 := by kernel_rfl
theorem c19_1e : c19_1 = .region 0 r19_1 false := by kernel_rfl
theorem c19_2e : c19_2 = .seq c19_3 c19_4 := by kernel_rfl
theorem c19_3e : c19_3 = .region 1 r19_3 false := by kernel_rfl
theorem c19_4e : c19_4 = .seq c19_5 c19_12 := by kernel_rfl
theorem c19_5e : c19_5 = .seq c19_6 c19_7 := by kernel_rfl
theorem c19_6e : c19_6 = .region 2 r19_6 false := by kernel_rfl
theorem c19_7e : c19_7 = .cond (cdC c19_7) c19_8 c19_11 := by kernel_rfl
theorem c19_8e : c19_8 = .seq c19_9 c19_10 := by kernel_rfl
theorem c19_9e : c19_9 = .region 3 r19_9 false := by kernel_rfl
theorem c19_10e : c19_10 = .ret := by kernel_rfl
theorem c19_11e : c19_11 = .skip := by kernel_rfl
theorem c19_12e : c19_12 = .seq c19_13 c19_14 := by kernel_rfl
theorem c19_13e : c19_13 = .region 4 r19_13 true := by kernel_rfl
theorem c19_14e : c19_14 = .seq c19_15 c19_16 := by kernel_rfl
theorem c19_15e : c19_15 = .region 5 r19_15 false := by kernel_rfl
theorem c19_16e : c19_16 = .ret := by kernel_rfl
noncomputable def session_Table_End.R (b_2 : Nat) (A_3 : Option Addr) (c_4 : Nat) : Pst (Bool × T_session_Table) where
  ε := Option Addr × Nat
  v := fun r x => .bool r.1
  H := fun r x => [⟨1, b_2, [.int .u64 r.2.now, .int .u64 r.2.next, .slice x.1 r.2.rows.length x.2]⟩]
  B := fun r x => [Ow 2 kT_session_Row x.1 x.2 r.2.rows]
noncomputable def session_Table_End.cx (b_2 : Nat) (A_3 : Option Addr) (c_4 : Nat) (w0 : World) (S0 : Fam) : Cx (Bool × T_session_Table) := ⟨Try.prog, 19, Try.f19, 48, w0, S0, [1, 2], 2, session_Table_End.R b_2 A_3 c_4⟩
theorem session_Table_End_j0_ok (n : Nat) (t_1 : T_session_Table) (seq_6 : Int) (y_7 : T_api_Reply) (r_9 : Int) (b_2 : Nat) (A_3 : Option Addr) (c_4 : Nat) (b_8 : Nat) (w0 : World) (S0 : Fam) (b_13 : Bool) :
    GoO (session_Table_End.cx b_2 A_3 c_4 w0 S0) [(0, .pointer (some ⟨b_2, 0, none⟩)), (2, .int .u64 seq_6), (7, .pointer (some ⟨b_8, 0, none⟩)), (9, .int .i64 r_9), (31, .bool b_13)] [⟨1, b_2, [.int .u64 t_1.now, .int .u64 t_1.next, .slice A_3 t_1.rows.length c_4]⟩, ⟨40, b_8, [.int .i64 y_7.Err, .int .u64 y_7.Num, .int .u64 y_7.Extra]⟩] [Ow 2 kT_session_Row A_3 c_4 t_1.rows] [.code c19_7, .code c19_12] (session_Table_End.j0 n t_1 seq_6 y_7 r_9 b_13) := by
  unfold session_Table_End.j0
  refine GoO.ite' c19_7e (by kernel_rfl) (fun h14 => ?_) (fun h14 => ?_)
  · refine GoO.seq' c19_8e ?_
    refine GoO.region' (is := [0]) c19_9e (by kernel_rfl) ?_
    refine GoO.exec (is := [0]) (hs := [.p]) (rest := []) (ks := [8]) (env' := [(8, .bool false)]) (H' := [⟨1, b_2, [.int .u64 t_1.now, .int .u64 t_1.next, .slice A_3 t_1.rows.length c_4]⟩, ⟨40, b_8, [.int .i64 y_7.Err, .int .u64 y_7.Num, .int .u64 y_7.Extra]⟩]) (ps := []) (by kernel_rfl) trivial ?_
    refine GoO.regionEnd ?_
    exact GoO.ret' (h := c19_10e) (hs := []) (ps := []) (hk := [0]) (bk := [0]) Try.func19 (⟨A_3, c_4⟩ : Option Addr × Nat) (by kernel_rfl) trivial (by kernel_rfl) (by kernel_rfl)
  · refine GoO.skip' c19_11e ?_
    refine GoO.seq' c19_12e ?_
    refine GoO.draw c19_13e (by kernel_rfl) [15, 16, 17] [⟨1, b_2, [.int .u64 t_1.now, .int .u64 t_1.next, .slice A_3 t_1.rows.length c_4]⟩, ⟨40, b_8, [.int .i64 y_7.Err, .int .u64 y_7.Num, .int .u64 y_7.Extra]⟩] [] (n := 18) (by kernel_rfl) ?_
    simp only [List.replicate]
    refine GoF.take [0, 1, 2, 3, 4, 5, 6, 7, 8, 9, 10, 11] [.p, .p, .p, .b 0, .p, .p, .p, .p, .b 0, .p, .p, .b 1] (ks := [35, 36, 40, 41, 42, 43]) (fu := 6) (li := [true, true, true, true, true, true, true, true, true, true, true, true, false, false, false, false, false, false]) (env' := [(35, .slice A_3 t_1.rows.length c_4), (36, .int .i64 r_9), (40, .slice A_3 t_1.rows.length c_4), (41, .int .i64 r_9), (42, .int .u64 seq_6), (43, .agg ⟨[.int .i64 y_7.Err, .int .u64 y_7.Num, .int .u64 y_7.Extra]⟩)]) (ps := [b_2 = b_2, b_2 = b_2, b_8 = b_8]) (hk := [0, 1]) (bk := []) (by kernel_rfl) (And.intro rfl (And.intro rfl (And.intro rfl trivial))) rfl rfl ?_
    refine GoF.guard (fun h15 => ?_)
    refine OpTo.goF (i := 12) (by kernel_rfl) (hk := [0, 1]) (bk := []) (GoO.idx (kk := .i64) (e := 87) (K := kT_session_Row) (A := A_3) (c := c_4) (xs := t_1.rows) (iv := r_9) (j := 0) rfl (by kernel_rfl) (by kernel_rfl) (by kernel_rfl) (by kernel_rfl) rfl Reads.own rfl h15.1 h15.2 (by decide) rfl ⟨rfl, rfl, ?_⟩)
    refine OpTo.goF (i := 13) (by kernel_rfl) (hk := [0, 1]) (bk := []) (GoO.fldE (K := kT_session_Row) (A := A_3) (c := c_4) (xs := t_1.rows) (iN := r_9.toNat) (off := 0) (n := 2) (j := 0) rfl (by kernel_rfl) (by kernel_rfl) rfl Reads.own (by first | exact idx_lt h15.1 h15.2 | (simp only [List.length_set]; exact idx_lt h15.1 h15.2)) (by decide) rfl ⟨rfl, rfl, ?_⟩)
    refine OpTo.goF (i := 14) (by kernel_rfl) (hk := [0, 1]) (bk := []) (GoO.stE (K := kT_session_Row) (A := A_3) (c := c_4) (xs := t_1.rows) (iN := r_9.toNat) (off := 2) (tg := 2) (j := 0) (v := .int .u64 seq_6) rfl (by kernel_rfl) (by kernel_rfl) rfl (by first | exact idx_lt h15.1 h15.2 | (simp only [List.length_set]; exact idx_lt h15.1 h15.2)) (by decide) (by kernel_rfl) (by kernel_rfl) (by kernel_rfl) ((⟨(rdL t_1.rows r_9).Id, (rdL t_1.rows r_9).Used, seq_6, (⟨(rdL t_1.rows r_9).Reply.Err, (rdL t_1.rows r_9).Reply.Num, (rdL t_1.rows r_9).Reply.Extra⟩ : T_api_Reply)⟩ : T_session_Row)) (fun w S cs _ hr => ⟨_, by subst hr; exact stored_flat rfl, rfl⟩) rfl ⟨rfl, rfl, ?_⟩)
    refine GoF.reval (t := 35) (v := .slice A_3 t_1.rows.length c_4) (v' := .slice A_3 (t_1.rows.set r_9.toNat (⟨(rdL t_1.rows r_9).Id, (rdL t_1.rows r_9).Used, seq_6, (⟨(rdL t_1.rows r_9).Reply.Err, (rdL t_1.rows r_9).Reply.Num, (rdL t_1.rows r_9).Reply.Extra⟩ : T_api_Reply)⟩ : T_session_Row)).length c_4) (by kernel_rfl) (by simp) ?_
    refine GoF.reval (t := 40) (v := .slice A_3 t_1.rows.length c_4) (v' := .slice A_3 (t_1.rows.set r_9.toNat (⟨(rdL t_1.rows r_9).Id, (rdL t_1.rows r_9).Used, seq_6, (⟨(rdL t_1.rows r_9).Reply.Err, (rdL t_1.rows r_9).Reply.Num, (rdL t_1.rows r_9).Reply.Extra⟩ : T_api_Reply)⟩ : T_session_Row)).length c_4) (by kernel_rfl) (by simp) ?_
    refine GoF.rebox (j := 0) (t := 1) (b := b_2) (cs := [.int .u64 t_1.now, .int .u64 t_1.next, .slice A_3 t_1.rows.length c_4]) (cs' := [.int .u64 t_1.now, .int .u64 t_1.next, .slice A_3 (t_1.rows.set r_9.toNat (⟨(rdL t_1.rows r_9).Id, (rdL t_1.rows r_9).Used, seq_6, (⟨(rdL t_1.rows r_9).Reply.Err, (rdL t_1.rows r_9).Reply.Num, (rdL t_1.rows r_9).Reply.Extra⟩ : T_api_Reply)⟩ : T_session_Row)).length c_4]) (by kernel_rfl) (by simp) ?_
    refine GoF.guard (fun h16 => ?_)
    refine OpTo.goE (i := 15) (by kernel_rfl) rfl (GoO.idx (kk := .i64) (e := 87) (K := kT_session_Row) (A := A_3) (c := c_4) (xs := t_1.rows.set r_9.toNat (⟨(rdL t_1.rows r_9).Id, (rdL t_1.rows r_9).Used, seq_6, (⟨(rdL t_1.rows r_9).Reply.Err, (rdL t_1.rows r_9).Reply.Num, (rdL t_1.rows r_9).Reply.Extra⟩ : T_api_Reply)⟩ : T_session_Row)) (iv := r_9) (j := 0) rfl (by kernel_rfl) (by kernel_rfl) (by kernel_rfl) (by kernel_rfl) rfl Reads.own rfl h16.1 h16.2 (by decide) rfl ?_)
    refine OpTo.goE (i := 16) (by kernel_rfl) rfl (GoO.fldE (K := kT_session_Row) (A := A_3) (c := c_4) (xs := t_1.rows.set r_9.toNat (⟨(rdL t_1.rows r_9).Id, (rdL t_1.rows r_9).Used, seq_6, (⟨(rdL t_1.rows r_9).Reply.Err, (rdL t_1.rows r_9).Reply.Num, (rdL t_1.rows r_9).Reply.Extra⟩ : T_api_Reply)⟩ : T_session_Row)) (iN := r_9.toNat) (off := 0) (n := 3) (j := 0) rfl (by kernel_rfl) (by kernel_rfl) rfl Reads.own (by first | exact idx_lt h16.1 h16.2 | (simp only [List.length_set]; exact idx_lt h16.1 h16.2)) (by decide) rfl ?_)
    refine OpTo.goE (i := 17) (by kernel_rfl) rfl (GoO.stE (K := kT_session_Row) (A := A_3) (c := c_4) (xs := t_1.rows.set r_9.toNat (⟨(rdL t_1.rows r_9).Id, (rdL t_1.rows r_9).Used, seq_6, (⟨(rdL t_1.rows r_9).Reply.Err, (rdL t_1.rows r_9).Reply.Num, (rdL t_1.rows r_9).Reply.Extra⟩ : T_api_Reply)⟩ : T_session_Row)) (iN := r_9.toNat) (off := 3) (tg := 2) (j := 0) (v := .agg ⟨[.int .i64 y_7.Err, .int .u64 y_7.Num, .int .u64 y_7.Extra]⟩) rfl (by kernel_rfl) (by kernel_rfl) rfl (by first | exact idx_lt h16.1 h16.2 | (simp only [List.length_set]; exact idx_lt h16.1 h16.2)) (by decide) (by kernel_rfl) (by kernel_rfl) (by kernel_rfl) ((⟨(rdL (t_1.rows.set r_9.toNat (⟨(rdL t_1.rows r_9).Id, (rdL t_1.rows r_9).Used, seq_6, (⟨(rdL t_1.rows r_9).Reply.Err, (rdL t_1.rows r_9).Reply.Num, (rdL t_1.rows r_9).Reply.Extra⟩ : T_api_Reply)⟩ : T_session_Row)) r_9).Id, (rdL (t_1.rows.set r_9.toNat (⟨(rdL t_1.rows r_9).Id, (rdL t_1.rows r_9).Used, seq_6, (⟨(rdL t_1.rows r_9).Reply.Err, (rdL t_1.rows r_9).Reply.Num, (rdL t_1.rows r_9).Reply.Extra⟩ : T_api_Reply)⟩ : T_session_Row)) r_9).Used, (rdL (t_1.rows.set r_9.toNat (⟨(rdL t_1.rows r_9).Id, (rdL t_1.rows r_9).Used, seq_6, (⟨(rdL t_1.rows r_9).Reply.Err, (rdL t_1.rows r_9).Reply.Num, (rdL t_1.rows r_9).Reply.Extra⟩ : T_api_Reply)⟩ : T_session_Row)) r_9).Seq, y_7⟩ : T_session_Row)) (fun w S cs _ hr => ⟨_, by subst hr; exact stored_flat rfl, rfl⟩) rfl ?_)
    refine GoF.reval (t := 35) (v := .slice A_3 (t_1.rows.set r_9.toNat (⟨(rdL t_1.rows r_9).Id, (rdL t_1.rows r_9).Used, seq_6, (⟨(rdL t_1.rows r_9).Reply.Err, (rdL t_1.rows r_9).Reply.Num, (rdL t_1.rows r_9).Reply.Extra⟩ : T_api_Reply)⟩ : T_session_Row)).length c_4) (v' := .slice A_3 ((t_1.rows.set r_9.toNat (⟨(rdL t_1.rows r_9).Id, (rdL t_1.rows r_9).Used, seq_6, (⟨(rdL t_1.rows r_9).Reply.Err, (rdL t_1.rows r_9).Reply.Num, (rdL t_1.rows r_9).Reply.Extra⟩ : T_api_Reply)⟩ : T_session_Row)).set r_9.toNat (⟨(rdL (t_1.rows.set r_9.toNat (⟨(rdL t_1.rows r_9).Id, (rdL t_1.rows r_9).Used, seq_6, (⟨(rdL t_1.rows r_9).Reply.Err, (rdL t_1.rows r_9).Reply.Num, (rdL t_1.rows r_9).Reply.Extra⟩ : T_api_Reply)⟩ : T_session_Row)) r_9).Id, (rdL (t_1.rows.set r_9.toNat (⟨(rdL t_1.rows r_9).Id, (rdL t_1.rows r_9).Used, seq_6, (⟨(rdL t_1.rows r_9).Reply.Err, (rdL t_1.rows r_9).Reply.Num, (rdL t_1.rows r_9).Reply.Extra⟩ : T_api_Reply)⟩ : T_session_Row)) r_9).Used, (rdL (t_1.rows.set r_9.toNat (⟨(rdL t_1.rows r_9).Id, (rdL t_1.rows r_9).Used, seq_6, (⟨(rdL t_1.rows r_9).Reply.Err, (rdL t_1.rows r_9).Reply.Num, (rdL t_1.rows r_9).Reply.Extra⟩ : T_api_Reply)⟩ : T_session_Row)) r_9).Seq, y_7⟩ : T_session_Row)).length c_4) (by kernel_rfl) (by simp) ?_
    refine GoF.reval (t := 40) (v := .slice A_3 (t_1.rows.set r_9.toNat (⟨(rdL t_1.rows r_9).Id, (rdL t_1.rows r_9).Used, seq_6, (⟨(rdL t_1.rows r_9).Reply.Err, (rdL t_1.rows r_9).Reply.Num, (rdL t_1.rows r_9).Reply.Extra⟩ : T_api_Reply)⟩ : T_session_Row)).length c_4) (v' := .slice A_3 ((t_1.rows.set r_9.toNat (⟨(rdL t_1.rows r_9).Id, (rdL t_1.rows r_9).Used, seq_6, (⟨(rdL t_1.rows r_9).Reply.Err, (rdL t_1.rows r_9).Reply.Num, (rdL t_1.rows r_9).Reply.Extra⟩ : T_api_Reply)⟩ : T_session_Row)).set r_9.toNat (⟨(rdL (t_1.rows.set r_9.toNat (⟨(rdL t_1.rows r_9).Id, (rdL t_1.rows r_9).Used, seq_6, (⟨(rdL t_1.rows r_9).Reply.Err, (rdL t_1.rows r_9).Reply.Num, (rdL t_1.rows r_9).Reply.Extra⟩ : T_api_Reply)⟩ : T_session_Row)) r_9).Id, (rdL (t_1.rows.set r_9.toNat (⟨(rdL t_1.rows r_9).Id, (rdL t_1.rows r_9).Used, seq_6, (⟨(rdL t_1.rows r_9).Reply.Err, (rdL t_1.rows r_9).Reply.Num, (rdL t_1.rows r_9).Reply.Extra⟩ : T_api_Reply)⟩ : T_session_Row)) r_9).Used, (rdL (t_1.rows.set r_9.toNat (⟨(rdL t_1.rows r_9).Id, (rdL t_1.rows r_9).Used, seq_6, (⟨(rdL t_1.rows r_9).Reply.Err, (rdL t_1.rows r_9).Reply.Num, (rdL t_1.rows r_9).Reply.Extra⟩ : T_api_Reply)⟩ : T_session_Row)) r_9).Seq, y_7⟩ : T_session_Row)).length c_4) (by kernel_rfl) (by simp) ?_
    refine GoF.rebox (j := 0) (t := 1) (b := b_2) (cs := [.int .u64 t_1.now, .int .u64 t_1.next, .slice A_3 (t_1.rows.set r_9.toNat (⟨(rdL t_1.rows r_9).Id, (rdL t_1.rows r_9).Used, seq_6, (⟨(rdL t_1.rows r_9).Reply.Err, (rdL t_1.rows r_9).Reply.Num, (rdL t_1.rows r_9).Reply.Extra⟩ : T_api_Reply)⟩ : T_session_Row)).length c_4]) (cs' := [.int .u64 t_1.now, .int .u64 t_1.next, .slice A_3 ((t_1.rows.set r_9.toNat (⟨(rdL t_1.rows r_9).Id, (rdL t_1.rows r_9).Used, seq_6, (⟨(rdL t_1.rows r_9).Reply.Err, (rdL t_1.rows r_9).Reply.Num, (rdL t_1.rows r_9).Reply.Extra⟩ : T_api_Reply)⟩ : T_session_Row)).set r_9.toNat (⟨(rdL (t_1.rows.set r_9.toNat (⟨(rdL t_1.rows r_9).Id, (rdL t_1.rows r_9).Used, seq_6, (⟨(rdL t_1.rows r_9).Reply.Err, (rdL t_1.rows r_9).Reply.Num, (rdL t_1.rows r_9).Reply.Extra⟩ : T_api_Reply)⟩ : T_session_Row)) r_9).Id, (rdL (t_1.rows.set r_9.toNat (⟨(rdL t_1.rows r_9).Id, (rdL t_1.rows r_9).Used, seq_6, (⟨(rdL t_1.rows r_9).Reply.Err, (rdL t_1.rows r_9).Reply.Num, (rdL t_1.rows r_9).Reply.Extra⟩ : T_api_Reply)⟩ : T_session_Row)) r_9).Used, (rdL (t_1.rows.set r_9.toNat (⟨(rdL t_1.rows r_9).Id, (rdL t_1.rows r_9).Used, seq_6, (⟨(rdL t_1.rows r_9).Reply.Err, (rdL t_1.rows r_9).Reply.Num, (rdL t_1.rows r_9).Reply.Extra⟩ : T_api_Reply)⟩ : T_session_Row)) r_9).Seq, y_7⟩ : T_session_Row)).length c_4]) (by kernel_rfl) (by simp) ?_
    refine GoF.done (by kernel_rfl) ?_
    refine GoO.seq' c19_14e ?_
    refine GoO.region' (is := [0]) c19_15e (by kernel_rfl) ?_
    refine GoO.exec (is := [0]) (hs := [.p]) (rest := []) (ks := [8]) (env' := [(8, .bool true)]) (H' := [⟨1, b_2, [.int .u64 t_1.now, .int .u64 t_1.next, .slice A_3 ((t_1.rows.set r_9.toNat (⟨(rdL t_1.rows r_9).Id, (rdL t_1.rows r_9).Used, seq_6, (⟨(rdL t_1.rows r_9).Reply.Err, (rdL t_1.rows r_9).Reply.Num, (rdL t_1.rows r_9).Reply.Extra⟩ : T_api_Reply)⟩ : T_session_Row)).set r_9.toNat (⟨(rdL (t_1.rows.set r_9.toNat (⟨(rdL t_1.rows r_9).Id, (rdL t_1.rows r_9).Used, seq_6, (⟨(rdL t_1.rows r_9).Reply.Err, (rdL t_1.rows r_9).Reply.Num, (rdL t_1.rows r_9).Reply.Extra⟩ : T_api_Reply)⟩ : T_session_Row)) r_9).Id, (rdL (t_1.rows.set r_9.toNat (⟨(rdL t_1.rows r_9).Id, (rdL t_1.rows r_9).Used, seq_6, (⟨(rdL t_1.rows r_9).Reply.Err, (rdL t_1.rows r_9).Reply.Num, (rdL t_1.rows r_9).Reply.Extra⟩ : T_api_Reply)⟩ : T_session_Row)) r_9).Used, (rdL (t_1.rows.set r_9.toNat (⟨(rdL t_1.rows r_9).Id, (rdL t_1.rows r_9).Used, seq_6, (⟨(rdL t_1.rows r_9).Reply.Err, (rdL t_1.rows r_9).Reply.Num, (rdL t_1.rows r_9).Reply.Extra⟩ : T_api_Reply)⟩ : T_session_Row)) r_9).Seq, y_7⟩ : T_session_Row)).length c_4]⟩, ⟨40, b_8, [.int .i64 y_7.Err, .int .u64 y_7.Num, .int .u64 y_7.Extra]⟩]) (ps := []) (by kernel_rfl) trivial ?_
    refine GoO.regionEnd ?_
    exact GoO.ret' (h := c19_16e) (hs := []) (ps := []) (hk := [0]) (bk := [0]) Try.func19 (⟨A_3, c_4⟩ : Option Addr × Nat) (by kernel_rfl) trivial (by kernel_rfl) (by kernel_rfl)
theorem session_Table_End_ok (n : Nat) (t_1 : T_session_Table) (id_5 : Int) (seq_6 : Int) (y_7 : T_api_Reply) (b_2 : Nat) (A_3 : Option Addr) (c_4 : Nat) :
    Meets Try.prog 19 [.pointer (some ⟨b_2, 0, none⟩), .int .u64 id_5, .int .u64 seq_6, .agg ⟨[.int .i64 y_7.Err, .int .u64 y_7.Num, .int .u64 y_7.Extra]⟩] 2 [1, 2] [⟨1, b_2, [.int .u64 t_1.now, .int .u64 t_1.next, .slice A_3 t_1.rows.length c_4]⟩] [Ow 2 kT_session_Row A_3 c_4 t_1.rows] (session_Table_End.f n t_1 id_5 seq_6 y_7) (session_Table_End.R b_2 A_3 c_4) := by
  refine Meets.of (c := c19_0) (n := 48) Try.func19 (by kernel_rfl) (by kernel_rfl) (by kernel_rfl) fun w0 S0 => ?_
  unfold session_Table_End.f
  show GoO (session_Table_End.cx b_2 A_3 c_4 w0 S0) [(0, .pointer (some ⟨b_2, 0, none⟩)), (1, .int .u64 id_5), (2, .int .u64 seq_6), (3, .agg ⟨[.int .i64 y_7.Err, .int .u64 y_7.Num, .int .u64 y_7.Extra]⟩)] [⟨1, b_2, [.int .u64 t_1.now, .int .u64 t_1.next, .slice A_3 t_1.rows.length c_4]⟩] [Ow 2 kT_session_Row A_3 c_4 t_1.rows] [.code c19_0] _
  refine GoO.seq' c19_0e ?_
  refine GoO.region' (is := [0, 1]) c19_1e (by kernel_rfl) ?_
  refine OpTo.go (GoO.new rfl 40 (cs := [.int .i64 y_7.Err, .int .u64 y_7.Num, .int .u64 y_7.Extra]) (by kernel_rfl) _ (fun _ => rfl) (fun b_8 => ?_))
  refine GoO.exec (is := [1]) (hs := [.p]) (rest := []) (ks := [0, 1, 2, 7]) (env' := [(0, .pointer (some ⟨b_2, 0, none⟩)), (1, .int .u64 id_5), (2, .int .u64 seq_6), (7, .pointer (some ⟨b_8, 0, none⟩))]) (H' := [⟨40, b_8, [.int .i64 y_7.Err, .int .u64 y_7.Num, .int .u64 y_7.Extra]⟩, ⟨1, b_2, [.int .u64 t_1.now, .int .u64 t_1.next, .slice A_3 t_1.rows.length c_4]⟩]) (ps := []) (by kernel_rfl) trivial ?_
  refine GoO.regionEnd ?_
  refine GoO.seq' c19_2e ?_
  refine GoO.region' (is := [0, 1, 2, 3]) c19_3e (by kernel_rfl) ?_
  refine GoO.exec (is := [0, 1]) (hs := [.p, .p]) (rest := [2, 3]) (ks := [0, 2, 7, 10, 11]) (env' := [(0, .pointer (some ⟨b_2, 0, none⟩)), (2, .int .u64 seq_6), (7, .pointer (some ⟨b_8, 0, none⟩)), (10, .pointer (some ⟨b_2, 0, none⟩)), (11, .int .u64 id_5)]) (H' := [⟨40, b_8, [.int .i64 y_7.Err, .int .u64 y_7.Num, .int .u64 y_7.Extra]⟩, ⟨1, b_2, [.int .u64 t_1.now, .int .u64 t_1.next, .slice A_3 t_1.rows.length c_4]⟩]) (ps := []) (by kernel_rfl) trivial ?_
  refine OpTo.go (GoO.call rfl (by kernel_rfl) (by kernel_rfl) (session_Table_find_ok n t_1 id_5 b_2 A_3 c_4) [[0], [1], [2]] [] [(1, 1)] [(2, 0)] (hks := [0, 1]) (bks := [0]) (by kernel_rfl) (by kernel_rfl) (by kernel_rfl) (.inl rfl) rfl rfl (by kernel_rfl) (by kernel_rfl) _ (fun _ _ => rfl) _ _ (fun _ _ => rfl) (fun _ _ => rfl) (fun _ _ => by kernel_rfl) (fun _ _ => by kernel_rfl) (fun r_9 x_17 => ?_))
  refine GoO.shape (env' := [(0, .pointer (some ⟨b_2, 0, none⟩)), (2, .int .u64 seq_6), (7, .pointer (some ⟨b_8, 0, none⟩)), (10, .pointer (some ⟨b_2, 0, none⟩)), (11, .int .u64 id_5), (12, .int .i64 r_9)]) (H' := [⟨40, b_8, [.int .i64 y_7.Err, .int .u64 y_7.Num, .int .u64 y_7.Extra]⟩, ⟨1, b_2, [.int .u64 t_1.now, .int .u64 t_1.next, .slice A_3 t_1.rows.length c_4]⟩]) (B' := [Ow 2 kT_session_Row A_3 c_4 t_1.rows]) (ks := [0, 2, 7, 10, 11, 12]) (by kernel_rfl) (by kernel_rfl) (by kernel_rfl) ?_
  refine GoO.exec (is := [3]) (hs := [.p]) (rest := []) (ks := [0, 2, 7, 9]) (env' := [(0, .pointer (some ⟨b_2, 0, none⟩)), (2, .int .u64 seq_6), (7, .pointer (some ⟨b_8, 0, none⟩)), (9, .int .i64 r_9)]) (H' := [⟨40, b_8, [.int .i64 y_7.Err, .int .u64 y_7.Num, .int .u64 y_7.Extra]⟩, ⟨1, b_2, [.int .u64 t_1.now, .int .u64 t_1.next, .slice A_3 t_1.rows.length c_4]⟩]) (ps := []) (by kernel_rfl) trivial ?_
  refine GoO.regionEnd ?_
  refine GoO.seq' c19_4e ?_
  refine GoO.seq' c19_5e ?_
  refine GoO.region' (is := [0, 1, 2, 3, 4, 5, 6, 7, 8, 9, 10, 11, 12, 13, 14, 15, 16, 17, 18]) c19_6e (by kernel_rfl) ?_
  refine GoO.exec (is := [0, 1, 2]) (hs := [.p, .p, .p]) (rest := [3, 4, 5, 6, 7, 8, 9, 10, 11, 12, 13, 14, 15, 16, 17, 18]) (ks := [0, 2, 7, 9, 15]) (env' := [(0, .pointer (some ⟨b_2, 0, none⟩)), (2, .int .u64 seq_6), (7, .pointer (some ⟨b_8, 0, none⟩)), (9, .int .i64 r_9), (15, .bool (decide (r_9 < 0)))]) (H' := [⟨40, b_8, [.int .i64 y_7.Err, .int .u64 y_7.Num, .int .u64 y_7.Extra]⟩, ⟨1, b_2, [.int .u64 t_1.now, .int .u64 t_1.next, .slice A_3 t_1.rows.length c_4]⟩]) (ps := []) (by kernel_rfl) trivial ?_
  refine GoO.bsplit (t := 15) (by kernel_rfl) (fun h10 => ?_) (fun h10 => ?_)
  · refine GoO.exec (is := [3, 4, 5, 6, 7, 8, 9, 10, 11, 12, 13, 14, 15, 16, 17, 18]) (hs := [.p, .p, .p, .p, .p, .p, .p, .p, .p, .p, .p, .p, .p, .p, .p, .p]) (rest := []) (ks := [0, 2, 7, 9, 31]) (env' := [(0, .pointer (some ⟨b_2, 0, none⟩)), (2, .int .u64 seq_6), (7, .pointer (some ⟨b_8, 0, none⟩)), (9, .int .i64 r_9), (31, .bool true)]) (H' := [⟨40, b_8, [.int .i64 y_7.Err, .int .u64 y_7.Num, .int .u64 y_7.Extra]⟩, ⟨1, b_2, [.int .u64 t_1.now, .int .u64 t_1.next, .slice A_3 t_1.rows.length c_4]⟩]) (ps := []) (by kernel_rfl) trivial ?_
    refine GoO.regionEnd ?_
    exact GoO.sub (ks := [0, 2, 7, 9, 31]) (hk := [1, 0]) (bk := [0]) (by kernel_rfl) (by kernel_rfl) (by kernel_rfl) (session_Table_End_j0_ok n t_1 seq_6 y_7 r_9 b_2 A_3 c_4 b_8 w0 S0 true)
  · refine GoO.exec (is := [3, 4, 5, 6]) (hs := [.p, .p, .p, .p]) (rest := [7, 8, 9, 10, 11, 12, 13, 14, 15, 16, 17, 18]) (ks := [0, 2, 7, 9, 19]) (env' := [(0, .pointer (some ⟨b_2, 0, none⟩)), (2, .int .u64 seq_6), (7, .pointer (some ⟨b_8, 0, none⟩)), (9, .int .i64 r_9), (19, .bool (seq_6 == 0))]) (H' := [⟨40, b_8, [.int .i64 y_7.Err, .int .u64 y_7.Num, .int .u64 y_7.Extra]⟩, ⟨1, b_2, [.int .u64 t_1.now, .int .u64 t_1.next, .slice A_3 t_1.rows.length c_4]⟩]) (ps := []) (by kernel_rfl) trivial ?_
    refine GoO.bsplit (t := 19) (by kernel_rfl) (fun h11 => ?_) (fun h11 => ?_)
    · refine GoO.exec (is := [7, 8, 9, 10, 11, 12, 13, 14, 15, 16, 17, 18]) (hs := [.p, .p, .p, .p, .p, .p, .p, .p, .p, .p, .p, .p]) (rest := []) (ks := [0, 2, 7, 9, 31]) (env' := [(0, .pointer (some ⟨b_2, 0, none⟩)), (2, .int .u64 seq_6), (7, .pointer (some ⟨b_8, 0, none⟩)), (9, .int .i64 r_9), (31, .bool true)]) (H' := [⟨40, b_8, [.int .i64 y_7.Err, .int .u64 y_7.Num, .int .u64 y_7.Extra]⟩, ⟨1, b_2, [.int .u64 t_1.now, .int .u64 t_1.next, .slice A_3 t_1.rows.length c_4]⟩]) (ps := []) (by kernel_rfl) trivial ?_
      refine GoO.regionEnd ?_
      exact GoO.sub (ks := [0, 2, 7, 9, 31]) (hk := [1, 0]) (bk := [0]) (by kernel_rfl) (by kernel_rfl) (by kernel_rfl) (session_Table_End_j0_ok n t_1 seq_6 y_7 r_9 b_2 A_3 c_4 b_8 w0 S0 true)
    · refine GoO.exec (is := [7, 8, 9, 10, 11, 12]) (hs := [.p, .p, .p, .p, .b 1, .p]) (rest := [13, 14, 15, 16, 17, 18]) (ks := [0, 2, 7, 9, 19, 20, 24, 25]) (env' := [(0, .pointer (some ⟨b_2, 0, none⟩)), (2, .int .u64 seq_6), (7, .pointer (some ⟨b_8, 0, none⟩)), (9, .int .i64 r_9), (19, .bool false), (20, .int .u64 seq_6), (24, .slice A_3 t_1.rows.length c_4), (25, .int .i64 r_9)]) (H' := [⟨40, b_8, [.int .i64 y_7.Err, .int .u64 y_7.Num, .int .u64 y_7.Extra]⟩, ⟨1, b_2, [.int .u64 t_1.now, .int .u64 t_1.next, .slice A_3 t_1.rows.length c_4]⟩]) (ps := [b_2 = b_2]) (by kernel_rfl) (And.intro rfl trivial) ?_
      refine GoO.guard (fun h12 => ?_)
      refine OpTo.go (GoO.idx (kk := .i64) (e := 87) (K := kT_session_Row) (A := A_3) (c := c_4) (xs := t_1.rows) (iv := r_9) (j := 0) rfl (by kernel_rfl) (by kernel_rfl) (by kernel_rfl) (by kernel_rfl) rfl Reads.own rfl h12.1 h12.2 (by decide) rfl ?_)
      refine OpTo.go (GoO.fldE (K := kT_session_Row) (A := A_3) (c := c_4) (xs := t_1.rows) (iN := r_9.toNat) (off := 0) (n := 2) (j := 0) rfl (by kernel_rfl) (by kernel_rfl) rfl Reads.own (by first | exact idx_lt h12.1 h12.2 | (simp only [List.length_set]; exact idx_lt h12.1 h12.2)) (by decide) rfl ?_)
      refine OpTo.go (GoO.ldE' (K := kT_session_Row) (A := A_3) (c := c_4) (xs := t_1.rows) (iN := r_9.toNat) (off := 2) (j := 0) rfl (by kernel_rfl) rfl Reads.own (by first | exact idx_lt h12.1 h12.2 | (simp only [List.length_set]; exact idx_lt h12.1 h12.2)) (by decide) (Opn.flat _ _ _ _ _) (v := fun _ => .int .u64 ((rdL t_1.rows r_9).Seq)) (fun _ => by kernel_rfl) _ (fun _ => rfl) (fun _ => ?_))
      refine GoO.exec (is := [16, 17, 18]) (hs := [.p, .p, .p]) (rest := []) (ks := [0, 2, 7, 9, 31]) (env' := [(0, .pointer (some ⟨b_2, 0, none⟩)), (2, .int .u64 seq_6), (7, .pointer (some ⟨b_8, 0, none⟩)), (9, .int .i64 r_9), (31, .bool (seq_6 != (wu64 (((rdL t_1.rows r_9).Seq) + 1))))]) (H' := [⟨40, b_8, [.int .i64 y_7.Err, .int .u64 y_7.Num, .int .u64 y_7.Extra]⟩, ⟨1, b_2, [.int .u64 t_1.now, .int .u64 t_1.next, .slice A_3 t_1.rows.length c_4]⟩]) (ps := []) (by kernel_rfl) trivial ?_
      refine GoO.regionEnd ?_
      exact GoO.sub (ks := [0, 2, 7, 9, 31]) (hk := [1, 0]) (bk := [0]) (by kernel_rfl) (by kernel_rfl) (by kernel_rfl) (session_Table_End_j0_ok n t_1 seq_6 y_7 r_9 b_2 A_3 c_4 b_8 w0 S0 (seq_6 != (wu64 (((rdL t_1.rows r_9).Seq) + 1))))

/-! tontine/tontinelaw15.begun -/
noncomputable def c14_0 : Code := bodyOf Try.f14
noncomputable def c14_1 : Code := cdL c14_0
noncomputable def c14_2 : Code := cdR c14_0
noncomputable def c14_3 : Code := cdL c14_2
noncomputable def c14_4 : Code := cdR c14_2
noncomputable def c14_5 : Code := cdL c14_4
noncomputable def c14_6 : Code := cdR c14_4
noncomputable def c14_7 : Code := cdL c14_6
noncomputable def c14_8 : Code := cdR c14_6
noncomputable def c14_9 : Code := cdL c14_8
noncomputable def c14_10 : Code := cdR c14_8
noncomputable def c14_11 : Code := cdL c14_10
noncomputable def c14_12 : Code := cdR c14_10
noncomputable def c14_13 : Code := cdL c14_12
noncomputable def c14_14 : Code := cdR c14_12
noncomputable def c14_15 : Code := cdL c14_14
noncomputable def c14_16 : Code := cdR c14_14
noncomputable def r14_1 : Array Oper := cdO c14_1
noncomputable def r14_3 : Array Oper := cdO c14_3
noncomputable def r14_5 : Array Oper := cdO c14_5
noncomputable def r14_7 : Array Oper := cdO c14_7
noncomputable def r14_9 : Array Oper := cdO c14_9
noncomputable def r14_11 : Array Oper := cdO c14_11
noncomputable def r14_13 : Array Oper := cdO c14_13
noncomputable def r14_15 : Array Oper := cdO c14_15
theorem c14_0e : c14_0 = .seq c14_1 c14_2 := by kernel_rfl
theorem c14_1e : c14_1 = .region 0 r14_1 false := by kernel_rfl
theorem c14_2e : c14_2 = .seq c14_3 c14_4 := by kernel_rfl
theorem c14_3e : c14_3 = .region 1 r14_3 false := by kernel_rfl
theorem c14_4e : c14_4 = .seq c14_5 c14_6 := by kernel_rfl
theorem c14_5e : c14_5 = .region 2 r14_5 false := by kernel_rfl
theorem c14_6e : c14_6 = .seq c14_7 c14_8 := by kernel_rfl
theorem c14_7e : c14_7 = .region 3 r14_7 false := by kernel_rfl
theorem c14_8e : c14_8 = .seq c14_9 c14_10 := by kernel_rfl
theorem c14_9e : c14_9 = .region 4 r14_9 false := by kernel_rfl
theorem c14_10e : c14_10 = .seq c14_11 c14_12 := by kernel_rfl
theorem c14_11e : c14_11 = .region 5 r14_11 false := by kernel_rfl
theorem c14_12e : c14_12 = .seq c14_13 c14_14 := by kernel_rfl
theorem c14_13e : c14_13 = .region 6 r14_13 false := by kernel_rfl
theorem c14_14e : c14_14 = .seq c14_15 c14_16 := by kernel_rfl
theorem c14_15e : c14_15 = .region 7 r14_15 false := by kernel_rfl
theorem c14_16e : c14_16 = .ret := by kernel_rfl
noncomputable def tontinelaw15_begun.R : Pst Bool where
  ε := Unit
  v := fun r x => .bool r
  H := fun r x => []
  B := fun r x => []
noncomputable def tontinelaw15_begun.cx (w0 : World) (S0 : Fam) : Cx Bool := ⟨Try.prog, 14, Try.f14, 64, w0, S0, [], 0, tontinelaw15_begun.R⟩
theorem tontinelaw15_begun_ok (n : Nat) :
    Meets Try.prog 14 [] 0 [] [] [] (tontinelaw15_begun.f n) (tontinelaw15_begun.R) := by
  refine Meets.of (c := c14_0) (n := 64) Try.func14 (by kernel_rfl) (by kernel_rfl) (by kernel_rfl) fun w0 S0 => ?_
  unfold tontinelaw15_begun.f
  show GoO (tontinelaw15_begun.cx w0 S0) [] [] [] [.code c14_0] _
  refine GoO.seq' c14_0e ?_
  refine GoO.region' (is := [0]) c14_1e (by kernel_rfl) ?_
  refine GoO.exec (is := [0]) (hs := [.p]) (rest := []) (ks := []) (env' := []) (H' := []) (ps := []) (by kernel_rfl) trivial ?_
  refine GoO.regionEnd ?_
  refine GoO.seq' c14_2e ?_
  refine GoO.region' (is := [0, 1]) c14_3e (by kernel_rfl) ?_
  refine OpTo.go (GoO.call rfl (by kernel_rfl) (by kernel_rfl) (session_New_ok n) [[0]] [(40, 1), (41, 2)] [] [] (hks := []) (bks := []) (by kernel_rfl) (by kernel_rfl) (by kernel_rfl) (.inl rfl) rfl rfl (by kernel_rfl) (by kernel_rfl) _ (fun _ _ => rfl) _ _ (fun _ _ => rfl) (fun _ _ => rfl) (fun _ _ => by kernel_rfl) (fun _ _ => by kernel_rfl) (fun r_1 x_34 => ?_))
  obtain ⟨b_2, A_3, c_4⟩ := x_34
  refine GoO.shape (env' := [(11, .pointer (some ⟨b_2, 0, none⟩))]) (H' := [⟨40, b_2, [.int .u64 r_1.now, .int .u64 r_1.next, .slice A_3 r_1.rows.length c_4]⟩]) (B' := [Ow 41 kT_session_Row A_3 c_4 r_1.rows]) (ks := [11]) (by kernel_rfl) (by kernel_rfl) (by kernel_rfl) ?_
  refine GoO.exec (is := [1]) (hs := [.p]) (rest := []) (ks := [1]) (env' := [(1, .pointer (some ⟨b_2, 0, none⟩))]) (H' := [⟨40, b_2, [.int .u64 r_1.now, .int .u64 r_1.next, .slice A_3 r_1.rows.length c_4]⟩]) (ps := []) (by kernel_rfl) trivial ?_
  refine GoO.regionEnd ?_
  refine GoO.seq' c14_4e ?_
  refine GoO.region' (is := [0, 1, 2, 3, 4, 5, 6]) c14_5e (by kernel_rfl) ?_
  refine GoO.exec (is := [0]) (hs := [.p]) (rest := [1, 2, 3, 4, 5, 6]) (ks := [1, 13]) (env' := [(1, .pointer (some ⟨b_2, 0, none⟩)), (13, .pointer (some ⟨b_2, 0, none⟩))]) (H' := [⟨40, b_2, [.int .u64 r_1.now, .int .u64 r_1.next, .slice A_3 r_1.rows.length c_4]⟩]) (ps := []) (by kernel_rfl) trivial ?_
  refine OpTo.go (GoO.call rfl (by kernel_rfl) (by kernel_rfl) (session_Table_Register_ok n r_1 b_2 A_3 c_4) [[0], [40], [41]] [(40, 1), (41, 2)] [(1, 0)] [(2, 0)] (hks := []) (bks := []) (by kernel_rfl) (by kernel_rfl) (by kernel_rfl) (.inl rfl) rfl rfl (by kernel_rfl) (by kernel_rfl) _ (fun _ _ => rfl) _ _ (fun _ _ => rfl) (fun _ _ => rfl) (fun _ _ => by kernel_rfl) (fun _ _ => by kernel_rfl) (fun r_5 x_33 => ?_))
  obtain ⟨A_6, c_7⟩ := x_33
  refine GoO.shape (env' := [(1, .pointer (some ⟨b_2, 0, none⟩)), (13, .pointer (some ⟨b_2, 0, none⟩)), (14, .tuple ⟨[.int .u64 r_5.1, .int .i64 r_5.2.1]⟩)]) (H' := [⟨40, b_2, [.int .u64 r_5.2.2.now, .int .u64 r_5.2.2.next, .slice A_6 r_5.2.2.rows.length c_7]⟩]) (B' := [Ow 41 kT_session_Row A_6 c_7 r_5.2.2.rows]) (ks := [1, 13, 14]) (by kernel_rfl) (by kernel_rfl) (by kernel_rfl) ?_
  refine GoO.exec (is := [2, 3, 4, 5, 6]) (hs := [.p, .p, .p, .p, .p]) (rest := []) (ks := [1, 2, 3]) (env' := [(1, .pointer (some ⟨b_2, 0, none⟩)), (2, .int .u64 r_5.1), (3, .int .i64 r_5.2.1)]) (H' := [⟨40, b_2, [.int .u64 r_5.2.2.now, .int .u64 r_5.2.2.next, .slice A_6 r_5.2.2.rows.length c_7]⟩]) (ps := []) (by kernel_rfl) trivial ?_
  refine GoO.regionEnd ?_
  refine GoO.seq' c14_6e ?_
  refine GoO.region' (is := [0, 1, 2, 3, 4, 5, 6, 7, 8]) c14_7e (by kernel_rfl) ?_
  refine GoO.exec (is := [0, 1]) (hs := [.p, .p]) (rest := [2, 3, 4, 5, 6, 7, 8]) (ks := [1, 2, 3, 18, 19]) (env' := [(1, .pointer (some ⟨b_2, 0, none⟩)), (2, .int .u64 r_5.1), (3, .int .i64 r_5.2.1), (18, .pointer (some ⟨b_2, 0, none⟩)), (19, .int .u64 r_5.1)]) (H' := [⟨40, b_2, [.int .u64 r_5.2.2.now, .int .u64 r_5.2.2.next, .slice A_6 r_5.2.2.rows.length c_7]⟩]) (ps := []) (by kernel_rfl) trivial ?_
  refine OpTo.go (GoO.call rfl (by kernel_rfl) (by kernel_rfl) (session_Table_Begin_ok n r_5.2.2 r_5.1 1 b_2 A_6 c_7) [[0], [40], [41]] [(40, 1), (41, 2)] [(1, 0)] [(2, 0)] (hks := []) (bks := []) (by kernel_rfl) (by kernel_rfl) (by kernel_rfl) (.inl rfl) rfl rfl (by kernel_rfl) (by kernel_rfl) _ (fun _ _ => rfl) _ _ (fun _ _ => rfl) (fun _ _ => rfl) (fun _ _ => by kernel_rfl) (fun _ _ => by kernel_rfl) (fun r_8 x_32 => ?_))
  obtain ⟨A_9, c_10⟩ := x_32
  refine GoO.shape (env' := [(1, .pointer (some ⟨b_2, 0, none⟩)), (2, .int .u64 r_5.1), (3, .int .i64 r_5.2.1), (18, .pointer (some ⟨b_2, 0, none⟩)), (19, .int .u64 r_5.1), (20, .tuple ⟨[.agg ⟨[.int .i64 r_8.1.Err, .int .u64 r_8.1.Num, .int .u64 r_8.1.Extra]⟩, .bool r_8.2.1]⟩)]) (H' := [⟨40, b_2, [.int .u64 r_8.2.2.now, .int .u64 r_8.2.2.next, .slice A_9 r_8.2.2.rows.length c_10]⟩]) (B' := [Ow 41 kT_session_Row A_9 c_10 r_8.2.2.rows]) (ks := [1, 2, 3, 18, 19, 20]) (by kernel_rfl) (by kernel_rfl) (by kernel_rfl) ?_
  refine GoO.exec (is := [3, 4, 5]) (hs := [.p, .p, .p]) (rest := [6, 7, 8]) (ks := [1, 2, 3, 21, 22]) (env' := [(1, .pointer (some ⟨b_2, 0, none⟩)), (2, .int .u64 r_5.1), (3, .int .i64 r_5.2.1), (21, .agg ⟨[.int .i64 r_8.1.Err, .int .u64 r_8.1.Num, .int .u64 r_8.1.Extra]⟩), (22, .bool r_8.2.1)]) (H' := [⟨40, b_2, [.int .u64 r_8.2.2.now, .int .u64 r_8.2.2.next, .slice A_9 r_8.2.2.rows.length c_10]⟩]) (ps := []) (by kernel_rfl) trivial ?_
  refine OpTo.go (GoO.new rfl 42 (cs := [.int .i64 0, .int .u64 0, .int .u64 0]) (by kernel_rfl) _ (fun _ => rfl) (fun b_11 => ?_))
  refine GoO.exec (is := [7, 8]) (hs := [.b 0, .p]) (rest := []) (ks := [1, 2, 3, 5]) (env' := [(1, .pointer (some ⟨b_2, 0, none⟩)), (2, .int .u64 r_5.1), (3, .int .i64 r_5.2.1), (5, .bool r_8.2.1)]) (H' := [⟨42, b_11, [.int .i64 r_8.1.Err, .int .u64 r_8.1.Num, .int .u64 r_8.1.Extra]⟩, ⟨40, b_2, [.int .u64 r_8.2.2.now, .int .u64 r_8.2.2.next, .slice A_9 r_8.2.2.rows.length c_10]⟩]) (ps := [b_11 = b_11]) (by kernel_rfl) (And.intro rfl trivial) ?_
  refine GoO.regionEnd ?_
  refine GoO.seq' c14_8e ?_
  refine GoO.region' (is := [0, 1, 2, 3, 4]) c14_9e (by kernel_rfl) ?_
  refine GoO.exec (is := [0, 1, 2]) (hs := [.p, .p, .p]) (rest := [3, 4]) (ks := [1, 2, 3, 5, 23, 24, 25]) (env' := [(1, .pointer (some ⟨b_2, 0, none⟩)), (2, .int .u64 r_5.1), (3, .int .i64 r_5.2.1), (5, .bool r_8.2.1), (23, .pointer (some ⟨b_2, 0, none⟩)), (24, .int .u64 r_5.1), (25, .agg ⟨[.int .i64 0, .int .u64 7, .int .u64 0]⟩)]) (H' := [⟨42, b_11, [.int .i64 r_8.1.Err, .int .u64 r_8.1.Num, .int .u64 r_8.1.Extra]⟩, ⟨40, b_2, [.int .u64 r_8.2.2.now, .int .u64 r_8.2.2.next, .slice A_9 r_8.2.2.rows.length c_10]⟩]) (ps := []) (by kernel_rfl) trivial ?_
  refine OpTo.go (GoO.call rfl (by kernel_rfl) (by kernel_rfl) (session_Table_End_ok n r_8.2.2 r_5.1 1 (⟨0, 7, 0⟩ : T_api_Reply) b_2 A_9 c_10) [[0], [40], [41]] [(40, 1), (41, 2)] [(1, 1)] [(2, 0)] (hks := [0]) (bks := []) (by kernel_rfl) (by kernel_rfl) (by kernel_rfl) (.inl rfl) rfl rfl (by kernel_rfl) (by kernel_rfl) _ (fun _ _ => rfl) _ _ (fun _ _ => rfl) (fun _ _ => rfl) (fun _ _ => by kernel_rfl) (fun _ _ => by kernel_rfl) (fun r_12 x_31 => ?_))
  obtain ⟨A_13, c_14⟩ := x_31
  refine GoO.shape (env' := [(1, .pointer (some ⟨b_2, 0, none⟩)), (2, .int .u64 r_5.1), (3, .int .i64 r_5.2.1), (5, .bool r_8.2.1), (23, .pointer (some ⟨b_2, 0, none⟩)), (24, .int .u64 r_5.1), (25, .agg ⟨[.int .i64 0, .int .u64 7, .int .u64 0]⟩), (26, .bool r_12.1)]) (H' := [⟨40, b_2, [.int .u64 r_12.2.now, .int .u64 r_12.2.next, .slice A_13 r_12.2.rows.length c_14]⟩, ⟨42, b_11, [.int .i64 r_8.1.Err, .int .u64 r_8.1.Num, .int .u64 r_8.1.Extra]⟩]) (B' := [Ow 41 kT_session_Row A_13 c_14 r_12.2.rows]) (ks := [1, 2, 3, 5, 23, 24, 25, 26]) (by kernel_rfl) (by kernel_rfl) (by kernel_rfl) ?_
  refine GoO.exec (is := [4]) (hs := [.p]) (rest := []) (ks := [1, 2, 3, 5, 6]) (env' := [(1, .pointer (some ⟨b_2, 0, none⟩)), (2, .int .u64 r_5.1), (3, .int .i64 r_5.2.1), (5, .bool r_8.2.1), (6, .bool r_12.1)]) (H' := [⟨40, b_2, [.int .u64 r_12.2.now, .int .u64 r_12.2.next, .slice A_13 r_12.2.rows.length c_14]⟩, ⟨42, b_11, [.int .i64 r_8.1.Err, .int .u64 r_8.1.Num, .int .u64 r_8.1.Extra]⟩]) (ps := []) (by kernel_rfl) trivial ?_
  refine GoO.regionEnd ?_
  refine GoO.seq' c14_10e ?_
  refine GoO.region' (is := [0, 1, 2, 3, 4, 5, 6, 7, 8]) c14_11e (by kernel_rfl) ?_
  refine GoO.exec (is := [0, 1]) (hs := [.p, .p]) (rest := [2, 3, 4, 5, 6, 7, 8]) (ks := [1, 2, 3, 5, 6, 28, 29]) (env' := [(1, .pointer (some ⟨b_2, 0, none⟩)), (2, .int .u64 r_5.1), (3, .int .i64 r_5.2.1), (5, .bool r_8.2.1), (6, .bool r_12.1), (28, .pointer (some ⟨b_2, 0, none⟩)), (29, .int .u64 r_5.1)]) (H' := [⟨40, b_2, [.int .u64 r_12.2.now, .int .u64 r_12.2.next, .slice A_13 r_12.2.rows.length c_14]⟩, ⟨42, b_11, [.int .i64 r_8.1.Err, .int .u64 r_8.1.Num, .int .u64 r_8.1.Extra]⟩]) (ps := []) (by kernel_rfl) trivial ?_
  refine OpTo.go (GoO.call rfl (by kernel_rfl) (by kernel_rfl) (session_Table_Begin_ok n r_12.2 r_5.1 1 b_2 A_13 c_14) [[0], [40], [41]] [(40, 1), (41, 2)] [(1, 0)] [(2, 0)] (hks := [1]) (bks := []) (by kernel_rfl) (by kernel_rfl) (by kernel_rfl) (.inl rfl) rfl rfl (by kernel_rfl) (by kernel_rfl) _ (fun _ _ => rfl) _ _ (fun _ _ => rfl) (fun _ _ => rfl) (fun _ _ => by kernel_rfl) (fun _ _ => by kernel_rfl) (fun r_15 x_30 => ?_))
  obtain ⟨A_16, c_17⟩ := x_30
  refine GoO.shape (env' := [(1, .pointer (some ⟨b_2, 0, none⟩)), (2, .int .u64 r_5.1), (3, .int .i64 r_5.2.1), (5, .bool r_8.2.1), (6, .bool r_12.1), (28, .pointer (some ⟨b_2, 0, none⟩)), (29, .int .u64 r_5.1), (30, .tuple ⟨[.agg ⟨[.int .i64 r_15.1.Err, .int .u64 r_15.1.Num, .int .u64 r_15.1.Extra]⟩, .bool r_15.2.1]⟩)]) (H' := [⟨40, b_2, [.int .u64 r_15.2.2.now, .int .u64 r_15.2.2.next, .slice A_16 r_15.2.2.rows.length c_17]⟩, ⟨42, b_11, [.int .i64 r_8.1.Err, .int .u64 r_8.1.Num, .int .u64 r_8.1.Extra]⟩]) (B' := [Ow 41 kT_session_Row A_16 c_17 r_15.2.2.rows]) (ks := [1, 2, 3, 5, 6, 28, 29, 30]) (by kernel_rfl) (by kernel_rfl) (by kernel_rfl) ?_
  refine GoO.exec (is := [3, 4, 5]) (hs := [.p, .p, .p]) (rest := [6, 7, 8]) (ks := [1, 2, 3, 5, 6, 31, 32]) (env' := [(1, .pointer (some ⟨b_2, 0, none⟩)), (2, .int .u64 r_5.1), (3, .int .i64 r_5.2.1), (5, .bool r_8.2.1), (6, .bool r_12.1), (31, .agg ⟨[.int .i64 r_15.1.Err, .int .u64 r_15.1.Num, .int .u64 r_15.1.Extra]⟩), (32, .bool r_15.2.1)]) (H' := [⟨40, b_2, [.int .u64 r_15.2.2.now, .int .u64 r_15.2.2.next, .slice A_16 r_15.2.2.rows.length c_17]⟩, ⟨42, b_11, [.int .i64 r_8.1.Err, .int .u64 r_8.1.Num, .int .u64 r_8.1.Extra]⟩]) (ps := []) (by kernel_rfl) trivial ?_
  refine OpTo.go (GoO.new rfl 43 (cs := [.int .i64 0, .int .u64 0, .int .u64 0]) (by kernel_rfl) _ (fun _ => rfl) (fun b_18 => ?_))
  refine GoO.exec (is := [7, 8]) (hs := [.b 0, .p]) (rest := []) (ks := [1, 2, 3, 5, 6, 7, 8]) (env' := [(1, .pointer (some ⟨b_2, 0, none⟩)), (2, .int .u64 r_5.1), (3, .int .i64 r_5.2.1), (5, .bool r_8.2.1), (6, .bool r_12.1), (7, .pointer (some ⟨b_18, 0, none⟩)), (8, .bool r_15.2.1)]) (H' := [⟨43, b_18, [.int .i64 r_15.1.Err, .int .u64 r_15.1.Num, .int .u64 r_15.1.Extra]⟩, ⟨40, b_2, [.int .u64 r_15.2.2.now, .int .u64 r_15.2.2.next, .slice A_16 r_15.2.2.rows.length c_17]⟩, ⟨42, b_11, [.int .i64 r_8.1.Err, .int .u64 r_8.1.Num, .int .u64 r_8.1.Extra]⟩]) (ps := [b_18 = b_18]) (by kernel_rfl) (And.intro rfl trivial) ?_
  refine GoO.regionEnd ?_
  refine GoO.seq' c14_12e ?_
  refine GoO.region' (is := [0, 1, 2, 3, 4, 5, 6, 7]) c14_13e (by kernel_rfl) ?_
  refine GoO.exec (is := [0]) (hs := [.p]) (rest := [1, 2, 3, 4, 5, 6, 7]) (ks := [2, 3, 5, 6, 7, 8, 34]) (env' := [(2, .int .u64 r_5.1), (3, .int .i64 r_5.2.1), (5, .bool r_8.2.1), (6, .bool r_12.1), (7, .pointer (some ⟨b_18, 0, none⟩)), (8, .bool r_15.2.1), (34, .pointer (some ⟨b_2, 0, none⟩))]) (H' := [⟨43, b_18, [.int .i64 r_15.1.Err, .int .u64 r_15.1.Num, .int .u64 r_15.1.Extra]⟩, ⟨40, b_2, [.int .u64 r_15.2.2.now, .int .u64 r_15.2.2.next, .slice A_16 r_15.2.2.rows.length c_17]⟩, ⟨42, b_11, [.int .i64 r_8.1.Err, .int .u64 r_8.1.Num, .int .u64 r_8.1.Extra]⟩]) (ps := []) (by kernel_rfl) trivial ?_
  refine OpTo.go (GoO.call rfl (by kernel_rfl) (by kernel_rfl) (session_Table_Begin_ok n r_15.2.2 9 1 b_2 A_16 c_17) [[0], [40], [41]] [(40, 1), (41, 2)] [(1, 1)] [(2, 0)] (hks := [0, 2]) (bks := []) (by kernel_rfl) (by kernel_rfl) (by kernel_rfl) (.inl rfl) rfl rfl (by kernel_rfl) (by kernel_rfl) _ (fun _ _ => rfl) _ _ (fun _ _ => rfl) (fun _ _ => rfl) (fun _ _ => by kernel_rfl) (fun _ _ => by kernel_rfl) (fun r_19 x_29 => ?_))
  obtain ⟨A_20, c_21⟩ := x_29
  refine GoO.shape (env' := [(2, .int .u64 r_5.1), (3, .int .i64 r_5.2.1), (5, .bool r_8.2.1), (6, .bool r_12.1), (7, .pointer (some ⟨b_18, 0, none⟩)), (8, .bool r_15.2.1), (34, .pointer (some ⟨b_2, 0, none⟩)), (35, .tuple ⟨[.agg ⟨[.int .i64 r_19.1.Err, .int .u64 r_19.1.Num, .int .u64 r_19.1.Extra]⟩, .bool r_19.2.1]⟩)]) (H' := [⟨40, b_2, [.int .u64 r_19.2.2.now, .int .u64 r_19.2.2.next, .slice A_20 r_19.2.2.rows.length c_21]⟩, ⟨43, b_18, [.int .i64 r_15.1.Err, .int .u64 r_15.1.Num, .int .u64 r_15.1.Extra]⟩, ⟨42, b_11, [.int .i64 r_8.1.Err, .int .u64 r_8.1.Num, .int .u64 r_8.1.Extra]⟩]) (B' := [Ow 41 kT_session_Row A_20 c_21 r_19.2.2.rows]) (ks := [2, 3, 5, 6, 7, 8, 34, 35]) (by kernel_rfl) (by kernel_rfl) (by kernel_rfl) ?_
  refine GoO.exec (is := [2, 3, 4]) (hs := [.p, .p, .p]) (rest := [5, 6, 7]) (ks := [2, 3, 5, 6, 7, 8, 36, 37]) (env' := [(2, .int .u64 r_5.1), (3, .int .i64 r_5.2.1), (5, .bool r_8.2.1), (6, .bool r_12.1), (7, .pointer (some ⟨b_18, 0, none⟩)), (8, .bool r_15.2.1), (36, .agg ⟨[.int .i64 r_19.1.Err, .int .u64 r_19.1.Num, .int .u64 r_19.1.Extra]⟩), (37, .bool r_19.2.1)]) (H' := [⟨40, b_2, [.int .u64 r_19.2.2.now, .int .u64 r_19.2.2.next, .slice A_20 r_19.2.2.rows.length c_21]⟩, ⟨43, b_18, [.int .i64 r_15.1.Err, .int .u64 r_15.1.Num, .int .u64 r_15.1.Extra]⟩, ⟨42, b_11, [.int .i64 r_8.1.Err, .int .u64 r_8.1.Num, .int .u64 r_8.1.Extra]⟩]) (ps := []) (by kernel_rfl) trivial ?_
  refine OpTo.go (GoO.new rfl 44 (cs := [.int .i64 0, .int .u64 0, .int .u64 0]) (by kernel_rfl) _ (fun _ => rfl) (fun b_22 => ?_))
  refine GoO.exec (is := [6, 7]) (hs := [.b 0, .p]) (rest := []) (ks := [2, 3, 5, 6, 7, 8, 9]) (env' := [(2, .int .u64 r_5.1), (3, .int .i64 r_5.2.1), (5, .bool r_8.2.1), (6, .bool r_12.1), (7, .pointer (some ⟨b_18, 0, none⟩)), (8, .bool r_15.2.1), (9, .pointer (some ⟨b_22, 0, none⟩))]) (H' := [⟨44, b_22, [.int .i64 r_19.1.Err, .int .u64 r_19.1.Num, .int .u64 r_19.1.Extra]⟩, ⟨40, b_2, [.int .u64 r_19.2.2.now, .int .u64 r_19.2.2.next, .slice A_20 r_19.2.2.rows.length c_21]⟩, ⟨43, b_18, [.int .i64 r_15.1.Err, .int .u64 r_15.1.Num, .int .u64 r_15.1.Extra]⟩, ⟨42, b_11, [.int .i64 r_8.1.Err, .int .u64 r_8.1.Num, .int .u64 r_8.1.Extra]⟩]) (ps := [b_22 = b_22]) (by kernel_rfl) (And.intro rfl trivial) ?_
  refine GoO.regionEnd ?_
  refine GoO.seq' c14_14e ?_
  refine GoO.region' (is := [0, 1, 2, 3, 4, 5, 6, 7, 8, 9, 10, 11, 12, 13, 14, 15, 16, 17, 18, 19, 20, 21, 22, 23, 24, 25, 26]) c14_15e (by kernel_rfl) ?_
  refine GoO.exec (is := [0, 1, 2]) (hs := [.p, .p, .p]) (rest := [3, 4, 5, 6, 7, 8, 9, 10, 11, 12, 13, 14, 15, 16, 17, 18, 19, 20, 21, 22, 23, 24, 25, 26]) (ks := [2, 5, 6, 7, 8, 9, 40]) (env' := [(2, .int .u64 r_5.1), (5, .bool r_8.2.1), (6, .bool r_12.1), (7, .pointer (some ⟨b_18, 0, none⟩)), (8, .bool r_15.2.1), (9, .pointer (some ⟨b_22, 0, none⟩)), (40, .bool (r_5.2.1 == 0))]) (H' := [⟨44, b_22, [.int .i64 r_19.1.Err, .int .u64 r_19.1.Num, .int .u64 r_19.1.Extra]⟩, ⟨40, b_2, [.int .u64 r_19.2.2.now, .int .u64 r_19.2.2.next, .slice A_20 r_19.2.2.rows.length c_21]⟩, ⟨43, b_18, [.int .i64 r_15.1.Err, .int .u64 r_15.1.Num, .int .u64 r_15.1.Extra]⟩, ⟨42, b_11, [.int .i64 r_8.1.Err, .int .u64 r_8.1.Num, .int .u64 r_8.1.Extra]⟩]) (ps := []) (by kernel_rfl) trivial ?_
  refine GoO.bsplit (t := 40) (by kernel_rfl) (fun h23 => ?_) (fun h23 => ?_)
  · refine GoO.exec (is := [3, 4, 5, 6]) (hs := [.p, .p, .p, .p]) (rest := [7, 8, 9, 10, 11, 12, 13, 14, 15, 16, 17, 18, 19, 20, 21, 22, 23, 24, 25, 26]) (ks := [5, 6, 7, 8, 9, 44]) (env' := [(5, .bool r_8.2.1), (6, .bool r_12.1), (7, .pointer (some ⟨b_18, 0, none⟩)), (8, .bool r_15.2.1), (9, .pointer (some ⟨b_22, 0, none⟩)), (44, .bool (r_5.1 == 1))]) (H' := [⟨44, b_22, [.int .i64 r_19.1.Err, .int .u64 r_19.1.Num, .int .u64 r_19.1.Extra]⟩, ⟨40, b_2, [.int .u64 r_19.2.2.now, .int .u64 r_19.2.2.next, .slice A_20 r_19.2.2.rows.length c_21]⟩, ⟨43, b_18, [.int .i64 r_15.1.Err, .int .u64 r_15.1.Num, .int .u64 r_15.1.Extra]⟩, ⟨42, b_11, [.int .i64 r_8.1.Err, .int .u64 r_8.1.Num, .int .u64 r_8.1.Extra]⟩]) (ps := []) (by kernel_rfl) trivial ?_
    refine GoO.bsplit (t := 44) (by kernel_rfl) (fun h24 => ?_) (fun h24 => ?_)
    · refine GoO.exec (is := [7, 8, 9]) (hs := [.p, .p, .p]) (rest := [10, 11, 12, 13, 14, 15, 16, 17, 18, 19, 20, 21, 22, 23, 24, 25, 26]) (ks := [6, 7, 8, 9, 47]) (env' := [(6, .bool r_12.1), (7, .pointer (some ⟨b_18, 0, none⟩)), (8, .bool r_15.2.1), (9, .pointer (some ⟨b_22, 0, none⟩)), (47, .bool r_8.2.1)]) (H' := [⟨44, b_22, [.int .i64 r_19.1.Err, .int .u64 r_19.1.Num, .int .u64 r_19.1.Extra]⟩, ⟨40, b_2, [.int .u64 r_19.2.2.now, .int .u64 r_19.2.2.next, .slice A_20 r_19.2.2.rows.length c_21]⟩, ⟨43, b_18, [.int .i64 r_15.1.Err, .int .u64 r_15.1.Num, .int .u64 r_15.1.Extra]⟩, ⟨42, b_11, [.int .i64 r_8.1.Err, .int .u64 r_8.1.Num, .int .u64 r_8.1.Extra]⟩]) (ps := []) (by kernel_rfl) trivial ?_
      refine GoO.bsplit (t := 47) (by kernel_rfl) (fun h25 => ?_) (fun h25 => ?_)
      · refine GoO.exec (is := [10, 11, 12]) (hs := [.p, .p, .p]) (rest := [13, 14, 15, 16, 17, 18, 19, 20, 21, 22, 23, 24, 25, 26]) (ks := [7, 8, 9, 50]) (env' := [(7, .pointer (some ⟨b_18, 0, none⟩)), (8, .bool r_15.2.1), (9, .pointer (some ⟨b_22, 0, none⟩)), (50, .bool r_12.1)]) (H' := [⟨44, b_22, [.int .i64 r_19.1.Err, .int .u64 r_19.1.Num, .int .u64 r_19.1.Extra]⟩, ⟨40, b_2, [.int .u64 r_19.2.2.now, .int .u64 r_19.2.2.next, .slice A_20 r_19.2.2.rows.length c_21]⟩, ⟨43, b_18, [.int .i64 r_15.1.Err, .int .u64 r_15.1.Num, .int .u64 r_15.1.Extra]⟩, ⟨42, b_11, [.int .i64 r_8.1.Err, .int .u64 r_8.1.Num, .int .u64 r_8.1.Extra]⟩]) (ps := []) (by kernel_rfl) trivial ?_
        refine GoO.bsplit (t := 50) (by kernel_rfl) (fun h26 => ?_) (fun h26 => ?_)
        · refine GoO.exec (is := [13, 14, 15, 16]) (hs := [.p, .p, .p, .p]) (rest := [17, 18, 19, 20, 21, 22, 23, 24, 25, 26]) (ks := [7, 9, 54]) (env' := [(7, .pointer (some ⟨b_18, 0, none⟩)), (9, .pointer (some ⟨b_22, 0, none⟩)), (54, .bool (!r_15.2.1))]) (H' := [⟨44, b_22, [.int .i64 r_19.1.Err, .int .u64 r_19.1.Num, .int .u64 r_19.1.Extra]⟩, ⟨40, b_2, [.int .u64 r_19.2.2.now, .int .u64 r_19.2.2.next, .slice A_20 r_19.2.2.rows.length c_21]⟩, ⟨43, b_18, [.int .i64 r_15.1.Err, .int .u64 r_15.1.Num, .int .u64 r_15.1.Extra]⟩, ⟨42, b_11, [.int .i64 r_8.1.Err, .int .u64 r_8.1.Num, .int .u64 r_8.1.Extra]⟩]) (ps := []) (by kernel_rfl) trivial ?_
          refine GoO.bsplit (t := 54) (by kernel_rfl) (fun h27 => ?_) (fun h27 => ?_)
          · refine GoO.exec (is := [17, 18, 19, 20, 21]) (hs := [.p, .b 2, .p, .p, .p]) (rest := [22, 23, 24, 25, 26]) (ks := [9, 59]) (env' := [(9, .pointer (some ⟨b_22, 0, none⟩)), (59, .bool (r_15.1.Num == 7))]) (H' := [⟨44, b_22, [.int .i64 r_19.1.Err, .int .u64 r_19.1.Num, .int .u64 r_19.1.Extra]⟩, ⟨40, b_2, [.int .u64 r_19.2.2.now, .int .u64 r_19.2.2.next, .slice A_20 r_19.2.2.rows.length c_21]⟩, ⟨43, b_18, [.int .i64 r_15.1.Err, .int .u64 r_15.1.Num, .int .u64 r_15.1.Extra]⟩, ⟨42, b_11, [.int .i64 r_8.1.Err, .int .u64 r_8.1.Num, .int .u64 r_8.1.Extra]⟩]) (ps := [b_18 = b_18]) (by kernel_rfl) (And.intro rfl trivial) ?_
            refine GoO.bsplit (t := 59) (by kernel_rfl) (fun h28 => ?_) (fun h28 => ?_)
            · refine GoO.exec (is := [22, 23, 24, 25, 26]) (hs := [.p, .b 0, .p, .p, .p]) (rest := []) (ks := [0]) (env' := [(0, .bool (r_19.1.Err == 40))]) (H' := [⟨44, b_22, [.int .i64 r_19.1.Err, .int .u64 r_19.1.Num, .int .u64 r_19.1.Extra]⟩, ⟨40, b_2, [.int .u64 r_19.2.2.now, .int .u64 r_19.2.2.next, .slice A_20 r_19.2.2.rows.length c_21]⟩, ⟨43, b_18, [.int .i64 r_15.1.Err, .int .u64 r_15.1.Num, .int .u64 r_15.1.Extra]⟩, ⟨42, b_11, [.int .i64 r_8.1.Err, .int .u64 r_8.1.Num, .int .u64 r_8.1.Extra]⟩]) (ps := [b_22 = b_22]) (by kernel_rfl) (And.intro rfl trivial) ?_
              refine GoO.regionEnd ?_
              exact GoO.ret' (h := c14_16e) (hs := []) (ps := []) (hk := []) (bk := []) Try.func14 () (by kernel_rfl) trivial (by kernel_rfl) (by kernel_rfl)
            · refine GoO.exec (is := [22, 23, 24, 25, 26]) (hs := [.p, .p, .p, .p, .p]) (rest := []) (ks := [0]) (env' := [(0, .bool false)]) (H' := [⟨44, b_22, [.int .i64 r_19.1.Err, .int .u64 r_19.1.Num, .int .u64 r_19.1.Extra]⟩, ⟨40, b_2, [.int .u64 r_19.2.2.now, .int .u64 r_19.2.2.next, .slice A_20 r_19.2.2.rows.length c_21]⟩, ⟨43, b_18, [.int .i64 r_15.1.Err, .int .u64 r_15.1.Num, .int .u64 r_15.1.Extra]⟩, ⟨42, b_11, [.int .i64 r_8.1.Err, .int .u64 r_8.1.Num, .int .u64 r_8.1.Extra]⟩]) (ps := []) (by kernel_rfl) trivial ?_
              refine GoO.regionEnd ?_
              exact GoO.ret' (h := c14_16e) (hs := []) (ps := []) (hk := []) (bk := []) Try.func14 () (by kernel_rfl) trivial (by kernel_rfl) (by kernel_rfl)
          · refine GoO.exec (is := [17, 18, 19, 20, 21, 22, 23, 24, 25, 26]) (hs := [.p, .p, .p, .p, .p, .p, .p, .p, .p, .p]) (rest := []) (ks := [0]) (env' := [(0, .bool false)]) (H' := [⟨44, b_22, [.int .i64 r_19.1.Err, .int .u64 r_19.1.Num, .int .u64 r_19.1.Extra]⟩, ⟨40, b_2, [.int .u64 r_19.2.2.now, .int .u64 r_19.2.2.next, .slice A_20 r_19.2.2.rows.length c_21]⟩, ⟨43, b_18, [.int .i64 r_15.1.Err, .int .u64 r_15.1.Num, .int .u64 r_15.1.Extra]⟩, ⟨42, b_11, [.int .i64 r_8.1.Err, .int .u64 r_8.1.Num, .int .u64 r_8.1.Extra]⟩]) (ps := []) (by kernel_rfl) trivial ?_
            refine GoO.regionEnd ?_
            exact GoO.ret' (h := c14_16e) (hs := []) (ps := []) (hk := []) (bk := []) Try.func14 () (by kernel_rfl) trivial (by kernel_rfl) (by kernel_rfl)
        · refine GoO.exec (is := [13, 14, 15, 16, 17, 18, 19, 20, 21, 22, 23, 24, 25, 26]) (hs := [.p, .p, .p, .p, .p, .p, .p, .p, .p, .p, .p, .p, .p, .p]) (rest := []) (ks := [0]) (env' := [(0, .bool false)]) (H' := [⟨44, b_22, [.int .i64 r_19.1.Err, .int .u64 r_19.1.Num, .int .u64 r_19.1.Extra]⟩, ⟨40, b_2, [.int .u64 r_19.2.2.now, .int .u64 r_19.2.2.next, .slice A_20 r_19.2.2.rows.length c_21]⟩, ⟨43, b_18, [.int .i64 r_15.1.Err, .int .u64 r_15.1.Num, .int .u64 r_15.1.Extra]⟩, ⟨42, b_11, [.int .i64 r_8.1.Err, .int .u64 r_8.1.Num, .int .u64 r_8.1.Extra]⟩]) (ps := []) (by kernel_rfl) trivial ?_
          refine GoO.regionEnd ?_
          exact GoO.ret' (h := c14_16e) (hs := []) (ps := []) (hk := []) (bk := []) Try.func14 () (by kernel_rfl) trivial (by kernel_rfl) (by kernel_rfl)
      · refine GoO.exec (is := [10, 11, 12, 13, 14, 15, 16, 17, 18, 19, 20, 21, 22, 23, 24, 25, 26]) (hs := [.p, .p, .p, .p, .p, .p, .p, .p, .p, .p, .p, .p, .p, .p, .p, .p, .p]) (rest := []) (ks := [0]) (env' := [(0, .bool false)]) (H' := [⟨44, b_22, [.int .i64 r_19.1.Err, .int .u64 r_19.1.Num, .int .u64 r_19.1.Extra]⟩, ⟨40, b_2, [.int .u64 r_19.2.2.now, .int .u64 r_19.2.2.next, .slice A_20 r_19.2.2.rows.length c_21]⟩, ⟨43, b_18, [.int .i64 r_15.1.Err, .int .u64 r_15.1.Num, .int .u64 r_15.1.Extra]⟩, ⟨42, b_11, [.int .i64 r_8.1.Err, .int .u64 r_8.1.Num, .int .u64 r_8.1.Extra]⟩]) (ps := []) (by kernel_rfl) trivial ?_
        refine GoO.regionEnd ?_
        exact GoO.ret' (h := c14_16e) (hs := []) (ps := []) (hk := []) (bk := []) Try.func14 () (by kernel_rfl) trivial (by kernel_rfl) (by kernel_rfl)
    · refine GoO.exec (is := [7, 8, 9, 10, 11, 12, 13, 14, 15, 16, 17, 18, 19, 20, 21, 22, 23, 24, 25, 26]) (hs := [.p, .p, .p, .p, .p, .p, .p, .p, .p, .p, .p, .p, .p, .p, .p, .p, .p, .p, .p, .p]) (rest := []) (ks := [0]) (env' := [(0, .bool false)]) (H' := [⟨44, b_22, [.int .i64 r_19.1.Err, .int .u64 r_19.1.Num, .int .u64 r_19.1.Extra]⟩, ⟨40, b_2, [.int .u64 r_19.2.2.now, .int .u64 r_19.2.2.next, .slice A_20 r_19.2.2.rows.length c_21]⟩, ⟨43, b_18, [.int .i64 r_15.1.Err, .int .u64 r_15.1.Num, .int .u64 r_15.1.Extra]⟩, ⟨42, b_11, [.int .i64 r_8.1.Err, .int .u64 r_8.1.Num, .int .u64 r_8.1.Extra]⟩]) (ps := []) (by kernel_rfl) trivial ?_
      refine GoO.regionEnd ?_
      exact GoO.ret' (h := c14_16e) (hs := []) (ps := []) (hk := []) (bk := []) Try.func14 () (by kernel_rfl) trivial (by kernel_rfl) (by kernel_rfl)
  · refine GoO.exec (is := [3, 4, 5, 6, 7, 8, 9, 10, 11, 12, 13, 14, 15, 16, 17, 18, 19, 20, 21, 22, 23, 24, 25, 26]) (hs := [.p, .p, .p, .p, .p, .p, .p, .p, .p, .p, .p, .p, .p, .p, .p, .p, .p, .p, .p, .p, .p, .p, .p, .p]) (rest := []) (ks := [0]) (env' := [(0, .bool false)]) (H' := [⟨44, b_22, [.int .i64 r_19.1.Err, .int .u64 r_19.1.Num, .int .u64 r_19.1.Extra]⟩, ⟨40, b_2, [.int .u64 r_19.2.2.now, .int .u64 r_19.2.2.next, .slice A_20 r_19.2.2.rows.length c_21]⟩, ⟨43, b_18, [.int .i64 r_15.1.Err, .int .u64 r_15.1.Num, .int .u64 r_15.1.Extra]⟩, ⟨42, b_11, [.int .i64 r_8.1.Err, .int .u64 r_8.1.Num, .int .u64 r_8.1.Extra]⟩]) (ps := []) (by kernel_rfl) trivial ?_
    refine GoO.regionEnd ?_
    exact GoO.ret' (h := c14_16e) (hs := []) (ps := []) (hk := []) (bk := []) Try.func14 () (by kernel_rfl) trivial (by kernel_rfl) (by kernel_rfl)

/-! (*tontine/session.Table).Clock -/
noncomputable def c16_0 : Code := bodyOf Try.f16
noncomputable def c16_1 : Code := cdL c16_0
noncomputable def c16_2 : Code := cdL c16_1
noncomputable def c16_3 : Code := cdR c16_1
noncomputable def c16_4 : Code := cdL c16_3
noncomputable def c16_5 : Code := cdR c16_3
noncomputable def c16_6 : Code := cdR c16_0
noncomputable def c16_7 : Code := cdL c16_6
noncomputable def c16_8 : Code := cdR c16_6
noncomputable def c16_9 : Code := cdL c16_8
noncomputable def c16_10 : Code := cdR c16_8
noncomputable def c16_11 : Code := cdL c16_10
noncomputable def c16_12 : Code := cdL c16_11
noncomputable def c16_13 : Code := cdR c16_11
noncomputable def c16_14 : Code := cdL c16_13
noncomputable def c16_15 : Code := cdL c16_14
noncomputable def c16_16 : Code := cdL c16_15
noncomputable def c16_17 : Code := cdR c16_15
noncomputable def c16_18 : Code := cdL c16_17
noncomputable def c16_19 : Code := cdL c16_18
noncomputable def c16_20 : Code := cdR c16_18
noncomputable def c16_21 : Code := cdR c16_17
noncomputable def c16_22 : Code := cdL c16_21
noncomputable def c16_23 : Code := cdL c16_22
noncomputable def c16_24 : Code := cdL c16_23
noncomputable def c16_25 : Code := cdR c16_23
noncomputable def c16_26 : Code := cdL c16_25
noncomputable def c16_27 : Code := cdR c16_25
noncomputable def c16_28 : Code := cdL c16_27
noncomputable def c16_29 : Code := cdR c16_27
noncomputable def c16_30 : Code := cdR c16_21
noncomputable def c16_31 : Code := cdR c16_10
noncomputable def r16_2 : Array Oper := cdO c16_2
noncomputable def r16_7 : Array Oper := cdO c16_7
noncomputable def r16_9 : Array Oper := cdO c16_9
noncomputable def r16_12 : Array Oper := cdO c16_12
noncomputable def r16_16 : Array Oper := cdO c16_16
noncomputable def r16_24 : Array Oper := cdO c16_24
noncomputable def r16_26 : Array Oper := cdO c16_26
noncomputable def r16_28 : Array Oper := cdO c16_28
noncomputable def r16_30 : Array Oper := cdO c16_30
noncomputable def r16_31 : Array Oper := cdO c16_31
theorem c16_0e : c16_0 = .seq c16_1 c16_6 := by kernel_rfl
theorem c16_1e : c16_1 = .seq c16_2 c16_3 := by kernel_rfl
theorem c16_2e : c16_2 = .region 0 r16_2 false := by kernel_rfl
theorem c16_3e : c16_3 = .cond (cdC c16_3) c16_4 c16_5 := by kernel_rfl
theorem c16_4e : c16_4 = .ret := by kernel_rfl
theorem c16_5e : c16_5 = .skip := by kernel_rfl
theorem c16_6e : c16_6 = .seq c16_7 c16_8 := by kernel_rfl
theorem c16_7e : c16_7 = .region 1 r16_7 false := by kernel_rfl
theorem c16_8e : c16_8 = .seq c16_9 c16_10 := by kernel_rfl
theorem c16_9e : c16_9 = .region 2 r16_9 false := by kernel_rfl
theorem c16_10e : c16_10 = .seq c16_11 c16_31 := by kernel_rfl
theorem c16_11e : c16_11 = .seq c16_12 c16_13 := by kernel_rfl
theorem c16_12e : c16_12 = .region 3 r16_12 false := by kernel_rfl
theorem c16_13e : c16_13 = .block 0 c16_14 := by kernel_rfl
theorem c16_14e : c16_14 = .loop c16_15 := by kernel_rfl
theorem c16_15e : c16_15 = .seq c16_16 c16_17 := by kernel_rfl
theorem c16_16e : c16_16 = .region 4 r16_16 false := by kernel_rfl
theorem c16_17e : c16_17 = .seq c16_18 c16_21 := by kernel_rfl
theorem c16_18e : c16_18 = .cond (cdC c16_18) c16_19 c16_20 := by kernel_rfl
theorem c16_19e : c16_19 = .skip := by kernel_rfl
theorem c16_20e : c16_20 = .exit 0 := by kernel_rfl
theorem c16_21e : c16_21 = .seq c16_22 c16_30 := by kernel_rfl
theorem c16_22e : c16_22 = .block 1 c16_23 := by kernel_rfl
theorem c16_23e : c16_23 = .seq c16_24 c16_25 := by kernel_rfl
theorem c16_24e : c16_24 = .region 5 r16_24 false := by kernel_rfl
theorem c16_25e : c16_25 = .seq c16_26 c16_27 := by kernel_rfl
theorem c16_26e : c16_26 = .region 6 r16_26 false := by kernel_rfl
theorem c16_27e : c16_27 = .cond (cdC c16_27) c16_28 c16_29 := by kernel_rfl
theorem c16_28e : c16_28 = .region 7 r16_28 false := by kernel_rfl
theorem c16_29e : c16_29 = .skip := by kernel_rfl
theorem c16_30e : c16_30 = .region 8 r16_30 false := by kernel_rfl
theorem c16_31e : c16_31 = .region 9 r16_31 false := by kernel_rfl
noncomputable def session_Table_Clock.R (b_2 : Nat) (A_3 : Option Addr) (c_4 : Nat) : Pst T_session_Table where
  ε := Option Addr × Nat
  v := fun r x => .tuple ⟨[]⟩
  H := fun r x => [⟨1, b_2, [.int .u64 r.now, .int .u64 r.next, .slice x.1 r.rows.length x.2]⟩]
  B := fun r x => [Ow 2 kT_session_Row x.1 x.2 r.rows]
noncomputable def session_Table_Clock.cx (b_2 : Nat) (A_3 : Option Addr) (c_4 : Nat) (w0 : World) (S0 : Fam) : Cx T_session_Table := ⟨Try.prog, 16, Try.f16, 44, w0, S0, [1, 2], 2, session_Table_Clock.R b_2 A_3 c_4⟩
theorem session_Table_Clock_l0_ok (n : Nat) (t_1 : T_session_Table) (now_5 : Int) (b_2 : Nat) (A_3 : Option Addr) (c_4 : Nat) (w0 : World) (S0 : Fam) :
    ∀ (k : Nat) (l_7 : (List T_session_Row)) (x_10 : Int) (A_8 : Option Addr) (c_9 : Nat), GoO (session_Table_Clock.cx b_2 A_3 c_4 w0 S0) [(0, .pointer (some ⟨b_2, 0, none⟩)), (1, .int .u64 now_5), (4, .slice A_8 l_7.length c_9), (24, .slice A_3 t_1.rows.length c_4), (25, .int .i64 (t_1.rows.length : Int)), (26, .int .i64 x_10)] [⟨1, b_2, [.int .u64 now_5, .int .u64 t_1.next, .slice A_3 t_1.rows.length c_4]⟩] [Ow 2 kT_session_Row A_3 c_4 t_1.rows, Ow 42 kT_session_Row A_8 c_9 l_7] [.code c16_15, .inLoop c16_15, .inBlock 0, .code c16_31] (session_Table_Clock.l0 n t_1 now_5 k l_7 x_10) := by
  intro k
  induction k with
  | zero => intros; rw [session_Table_Clock.l0.eq_1]; exact GoO.stop
  | succ k ih0 =>
    intro l_7 x_10 A_8 c_9
    rw [session_Table_Clock.l0.eq_2]
    refine GoO.seq' c16_15e ?_
    refine GoO.region' (is := [0]) c16_16e (by kernel_rfl) ?_
    refine GoO.exec (is := [0]) (hs := [.p]) (rest := []) (ks := [0, 1, 4, 24, 25, 26, 27]) (env' := [(0, .pointer (some ⟨b_2, 0, none⟩)), (1, .int .u64 now_5), (4, .slice A_8 l_7.length c_9), (24, .slice A_3 t_1.rows.length c_4), (25, .int .i64 (t_1.rows.length : Int)), (26, .int .i64 x_10), (27, .bool (decide (x_10 < (t_1.rows.length : Int))))]) (H' := [⟨1, b_2, [.int .u64 now_5, .int .u64 t_1.next, .slice A_3 t_1.rows.length c_4]⟩]) (ps := []) (by kernel_rfl) trivial ?_
    refine GoO.regionEnd ?_
    refine GoO.seq' c16_17e ?_
    refine GoO.ite' c16_18e (by kernel_rfl) (fun h11 => ?_) (fun h11 => ?_)
    · refine GoO.skip' c16_19e ?_
      refine GoO.seq' c16_21e ?_
      refine GoO.block' c16_22e ?_
      refine GoO.seq' c16_23e ?_
      refine GoO.region' (is := [0, 1, 2, 3]) c16_24e (by kernel_rfl) ?_
      refine GoO.guard (fun h12 => ?_)
      refine OpTo.go (GoO.idx (kk := .i64) (e := 87) (K := kT_session_Row) (A := A_3) (c := c_4) (xs := t_1.rows) (iv := x_10) (j := 0) rfl (by kernel_rfl) (by kernel_rfl) (by kernel_rfl) (by kernel_rfl) rfl Reads.own rfl h12.1 h12.2 (by decide) rfl ?_)
      refine OpTo.go (GoO.ldE' (K := kT_session_Row) (A := A_3) (c := c_4) (xs := t_1.rows) (iN := x_10.toNat) (off := 0) (j := 0) rfl (by kernel_rfl) rfl Reads.own (by first | exact idx_lt h12.1 h12.2 | (simp only [List.length_set]; exact idx_lt h12.1 h12.2)) (by decide) (Opn.flat _ _ _ _ _) (v := fun _ => .agg ⟨[.int .u64 ((rdL t_1.rows x_10).Id), .int .u64 ((rdL t_1.rows x_10).Used), .int .u64 ((rdL t_1.rows x_10).Seq), .int .i64 ((rdL t_1.rows x_10).Reply.Err), .int .u64 ((rdL t_1.rows x_10).Reply.Num), .int .u64 ((rdL t_1.rows x_10).Reply.Extra)]⟩) (fun _ => by kernel_rfl) _ (fun _ => rfl) (fun _ => ?_))
      refine OpTo.go (GoO.new rfl 40 (cs := [.int .u64 0, .int .u64 0, .int .u64 0, .int .i64 0, .int .u64 0, .int .u64 0]) (by kernel_rfl) _ (fun _ => rfl) (fun b_13 => ?_))
      refine GoO.exec (is := [3]) (hs := [.b 0]) (rest := []) (ks := [0, 1, 4, 6, 24, 25, 26]) (env' := [(0, .pointer (some ⟨b_2, 0, none⟩)), (1, .int .u64 now_5), (4, .slice A_8 l_7.length c_9), (6, .pointer (some ⟨b_13, 0, none⟩)), (24, .slice A_3 t_1.rows.length c_4), (25, .int .i64 (t_1.rows.length : Int)), (26, .int .i64 x_10)]) (H' := [⟨40, b_13, [.int .u64 ((rdL t_1.rows x_10).Id), .int .u64 ((rdL t_1.rows x_10).Used), .int .u64 ((rdL t_1.rows x_10).Seq), .int .i64 ((rdL t_1.rows x_10).Reply.Err), .int .u64 ((rdL t_1.rows x_10).Reply.Num), .int .u64 ((rdL t_1.rows x_10).Reply.Extra)]⟩, ⟨1, b_2, [.int .u64 now_5, .int .u64 t_1.next, .slice A_3 t_1.rows.length c_4]⟩]) (ps := [b_13 = b_13]) (by kernel_rfl) (And.intro rfl trivial) ?_
      refine GoO.regionEnd ?_
      refine GoO.seq' c16_25e ?_
      refine GoO.region' (is := [0, 1, 2, 3, 4]) c16_26e (by kernel_rfl) ?_
      refine GoO.exec (is := [0, 1, 2, 3, 4]) (hs := [.p, .p, .b 0, .p, .p]) (rest := []) (ks := [0, 1, 4, 6, 24, 25, 26, 34]) (env' := [(0, .pointer (some ⟨b_2, 0, none⟩)), (1, .int .u64 now_5), (4, .slice A_8 l_7.length c_9), (6, .pointer (some ⟨b_13, 0, none⟩)), (24, .slice A_3 t_1.rows.length c_4), (25, .int .i64 (t_1.rows.length : Int)), (26, .int .i64 x_10), (34, .bool (decide ((wu64 (now_5 - ((rdL t_1.rows x_10).Used))) ≤ 1000)))]) (H' := [⟨40, b_13, [.int .u64 ((rdL t_1.rows x_10).Id), .int .u64 ((rdL t_1.rows x_10).Used), .int .u64 ((rdL t_1.rows x_10).Seq), .int .i64 ((rdL t_1.rows x_10).Reply.Err), .int .u64 ((rdL t_1.rows x_10).Reply.Num), .int .u64 ((rdL t_1.rows x_10).Reply.Extra)]⟩, ⟨1, b_2, [.int .u64 now_5, .int .u64 t_1.next, .slice A_3 t_1.rows.length c_4]⟩]) (ps := [b_13 = b_13]) (by kernel_rfl) (And.intro rfl trivial) ?_
      refine GoO.regionEnd ?_
      refine GoO.ite' c16_27e (by kernel_rfl) (fun h14 => ?_) (fun h14 => ?_)
      · refine GoO.region' (is := [0, 1, 2, 3, 4]) c16_28e (by kernel_rfl) ?_
        refine GoO.exec (is := [0, 1]) (hs := [.p, .b 0]) (rest := [2, 3, 4]) (ks := [0, 1, 24, 25, 26, 35, 36]) (env' := [(0, .pointer (some ⟨b_2, 0, none⟩)), (1, .int .u64 now_5), (24, .slice A_3 t_1.rows.length c_4), (25, .int .i64 (t_1.rows.length : Int)), (26, .int .i64 x_10), (35, .slice A_8 l_7.length c_9), (36, .agg ⟨[.int .u64 ((rdL t_1.rows x_10).Id), .int .u64 ((rdL t_1.rows x_10).Used), .int .u64 ((rdL t_1.rows x_10).Seq), .int .i64 ((rdL t_1.rows x_10).Reply.Err), .int .u64 ((rdL t_1.rows x_10).Reply.Num), .int .u64 ((rdL t_1.rows x_10).Reply.Extra)]⟩)]) (H' := [⟨40, b_13, [.int .u64 ((rdL t_1.rows x_10).Id), .int .u64 ((rdL t_1.rows x_10).Used), .int .u64 ((rdL t_1.rows x_10).Seq), .int .i64 ((rdL t_1.rows x_10).Reply.Err), .int .u64 ((rdL t_1.rows x_10).Reply.Num), .int .u64 ((rdL t_1.rows x_10).Reply.Extra)]⟩, ⟨1, b_2, [.int .u64 now_5, .int .u64 t_1.next, .slice A_3 t_1.rows.length c_4]⟩]) (ps := [b_13 = b_13]) (by kernel_rfl) (And.intro rfl trivial) ?_
        refine OpTo.go (GoO.lit (e := 87) (K := kT_session_Row) rfl (by kernel_rfl) (by kernel_rfl) (cs := [.int .u64 ((rdL t_1.rows x_10).Id), .int .u64 ((rdL t_1.rows x_10).Used), .int .u64 ((rdL t_1.rows x_10).Seq), .int .i64 ((rdL t_1.rows x_10).Reply.Err), .int .u64 ((rdL t_1.rows x_10).Reply.Num), .int .u64 ((rdL t_1.rows x_10).Reply.Extra)]) (by kernel_rfl) [(⟨(rdL t_1.rows x_10).Id, (rdL t_1.rows x_10).Used, (rdL t_1.rows x_10).Seq, (⟨(rdL t_1.rows x_10).Reply.Err, (rdL t_1.rows x_10).Reply.Num, (rdL t_1.rows x_10).Reply.Extra⟩ : T_api_Reply)⟩ : T_session_Row)] (by kernel_rfl) (by kernel_rfl) (fun w S hB => ⟨[.int .u64 ((rdL t_1.rows x_10).Id), .int .u64 ((rdL t_1.rows x_10).Used), .int .u64 ((rdL t_1.rows x_10).Seq), .int .i64 ((rdL t_1.rows x_10).Reply.Err), .int .u64 ((rdL t_1.rows x_10).Reply.Num), .int .u64 ((rdL t_1.rows x_10).Reply.Extra)], _, rfl, rfl, rfl⟩) 41 _ (fun _ _ => rfl) (fun A_15 c_16 => ?_))
        refine GoO.guard (fun h17 => ?_)
        refine OpTo.go (GoO.appW (e := 87) (K := kT_session_Row) (A := A_8) (c := c_9) (tg := 42) (bytes := 48) (zs := [.int .u64 0, .int .u64 0, .int .u64 0, .int .i64 0, .int .u64 0, .int .u64 0]) (xs := l_7) (ys := [(⟨(rdL t_1.rows x_10).Id, (rdL t_1.rows x_10).Used, (rdL t_1.rows x_10).Seq, (⟨(rdL t_1.rows x_10).Reply.Err, (rdL t_1.rows x_10).Reply.Num, (rdL t_1.rows x_10).Reply.Extra⟩ : T_api_Reply)⟩ : T_session_Row)]) (xv := .slice A_15 [(⟨(rdL t_1.rows x_10).Id, (rdL t_1.rows x_10).Used, (rdL t_1.rows x_10).Seq, (⟨(rdL t_1.rows x_10).Reply.Err, (rdL t_1.rows x_10).Reply.Num, (rdL t_1.rows x_10).Reply.Extra⟩ : T_api_Reply)⟩ : T_session_Row)].length c_16) (j := 2) (bk := [0, 1]) rfl (by kernel_rfl) (by kernel_rfl) (by kernel_rfl) (by kernel_rfl) rfl (by kernel_rfl) rfl (fun w S hB => SrcIs.row (Reads.own w S (hB _ (List.mem_of_getElem? (i := 0) rfl)))) h17 rfl rfl rfl rfl _ (fun _ _ => rfl) (fun A_18 c_19 => ?_))
        refine GoO.exec (is := [4]) (hs := [.p]) (rest := []) (ks := [0, 1, 4, 24, 25, 26]) (env' := [(0, .pointer (some ⟨b_2, 0, none⟩)), (1, .int .u64 now_5), (4, .slice A_18 (l_7 ++ [(⟨(rdL t_1.rows x_10).Id, (rdL t_1.rows x_10).Used, (rdL t_1.rows x_10).Seq, (⟨(rdL t_1.rows x_10).Reply.Err, (rdL t_1.rows x_10).Reply.Num, (rdL t_1.rows x_10).Reply.Extra⟩ : T_api_Reply)⟩ : T_session_Row)]).length c_19), (24, .slice A_3 t_1.rows.length c_4), (25, .int .i64 (t_1.rows.length : Int)), (26, .int .i64 x_10)]) (H' := [⟨40, b_13, [.int .u64 ((rdL t_1.rows x_10).Id), .int .u64 ((rdL t_1.rows x_10).Used), .int .u64 ((rdL t_1.rows x_10).Seq), .int .i64 ((rdL t_1.rows x_10).Reply.Err), .int .u64 ((rdL t_1.rows x_10).Reply.Num), .int .u64 ((rdL t_1.rows x_10).Reply.Extra)]⟩, ⟨1, b_2, [.int .u64 now_5, .int .u64 t_1.next, .slice A_3 t_1.rows.length c_4]⟩]) (ps := []) (by kernel_rfl) trivial ?_
        refine GoO.regionEnd ?_
        refine GoO.inBlock ?_
        refine GoO.region' (is := [0, 1]) c16_30e (by kernel_rfl) ?_
        refine GoO.exec (is := [0, 1]) (hs := [.p, .p]) (rest := []) (ks := [0, 1, 4, 24, 25, 26]) (env' := [(0, .pointer (some ⟨b_2, 0, none⟩)), (1, .int .u64 now_5), (4, .slice A_18 (l_7 ++ [(⟨(rdL t_1.rows x_10).Id, (rdL t_1.rows x_10).Used, (rdL t_1.rows x_10).Seq, (⟨(rdL t_1.rows x_10).Reply.Err, (rdL t_1.rows x_10).Reply.Num, (rdL t_1.rows x_10).Reply.Extra⟩ : T_api_Reply)⟩ : T_session_Row)]).length c_19), (24, .slice A_3 t_1.rows.length c_4), (25, .int .i64 (t_1.rows.length : Int)), (26, .int .i64 (wi64 (x_10 + 1)))]) (H' := [⟨40, b_13, [.int .u64 ((rdL t_1.rows x_10).Id), .int .u64 ((rdL t_1.rows x_10).Used), .int .u64 ((rdL t_1.rows x_10).Seq), .int .i64 ((rdL t_1.rows x_10).Reply.Err), .int .u64 ((rdL t_1.rows x_10).Reply.Num), .int .u64 ((rdL t_1.rows x_10).Reply.Extra)]⟩, ⟨1, b_2, [.int .u64 now_5, .int .u64 t_1.next, .slice A_3 t_1.rows.length c_4]⟩]) (ps := []) (by kernel_rfl) trivial ?_
        refine GoO.regionEnd ?_
        refine GoO.inLoop ?_
        exact GoO.sub (ks := [0, 1, 4, 24, 25, 26]) (hk := [1]) (bk := [2, 0]) (by kernel_rfl) (by kernel_rfl) (by kernel_rfl) (ih0 (l_7 ++ [(⟨(rdL t_1.rows x_10).Id, (rdL t_1.rows x_10).Used, (rdL t_1.rows x_10).Seq, (⟨(rdL t_1.rows x_10).Reply.Err, (rdL t_1.rows x_10).Reply.Num, (rdL t_1.rows x_10).Reply.Extra⟩ : T_api_Reply)⟩ : T_session_Row)]) (wi64 (x_10 + 1)) A_18 c_19)
      · refine GoO.skip' c16_29e ?_
        refine GoO.inBlock ?_
        refine GoO.region' (is := [0, 1]) c16_30e (by kernel_rfl) ?_
        refine GoO.exec (is := [0, 1]) (hs := [.p, .p]) (rest := []) (ks := [0, 1, 4, 24, 25, 26]) (env' := [(0, .pointer (some ⟨b_2, 0, none⟩)), (1, .int .u64 now_5), (4, .slice A_8 l_7.length c_9), (24, .slice A_3 t_1.rows.length c_4), (25, .int .i64 (t_1.rows.length : Int)), (26, .int .i64 (wi64 (x_10 + 1)))]) (H' := [⟨40, b_13, [.int .u64 ((rdL t_1.rows x_10).Id), .int .u64 ((rdL t_1.rows x_10).Used), .int .u64 ((rdL t_1.rows x_10).Seq), .int .i64 ((rdL t_1.rows x_10).Reply.Err), .int .u64 ((rdL t_1.rows x_10).Reply.Num), .int .u64 ((rdL t_1.rows x_10).Reply.Extra)]⟩, ⟨1, b_2, [.int .u64 now_5, .int .u64 t_1.next, .slice A_3 t_1.rows.length c_4]⟩]) (ps := []) (by kernel_rfl) trivial ?_
        refine GoO.regionEnd ?_
        refine GoO.inLoop ?_
        exact GoO.sub (ks := [0, 1, 4, 24, 25, 26]) (hk := [1]) (bk := [0, 1]) (by kernel_rfl) (by kernel_rfl) (by kernel_rfl) (ih0 l_7 (wi64 (x_10 + 1)) A_8 c_9)
    · refine GoO.exit' c16_20e rfl ?_
      refine GoO.region' (is := [0, 1, 2, 3, 4]) c16_31e (by kernel_rfl) ?_
      refine GoO.exec (is := [0, 1, 2, 3, 4]) (hs := [.p, .p, .p, .p, .b 0]) (rest := []) (ks := []) (env' := []) (H' := [⟨1, b_2, [.int .u64 now_5, .int .u64 t_1.next, .slice A_8 l_7.length c_9]⟩]) (ps := [b_2 = b_2]) (by kernel_rfl) (And.intro rfl trivial) ?_
      refine GoO.regionEnd ?_
      refine GoO.sub (ks := []) (env' := []) (hk := [0]) (bk := [1]) (by kernel_rfl) rfl rfl ?_
      refine GoO.retag (t := 42) (u := 2) (j := 0) (hk := [0]) (bk := []) rfl rfl rfl rfl rfl rfl (by kernel_rfl) (by kernel_rfl) ?_
      exact GoO.fin (hs := []) (ps := []) (hk := [0]) (bk := [0]) Try.func16 (⟨A_8, c_9⟩ : Option Addr × Nat) (by kernel_rfl) trivial (by kernel_rfl) (by kernel_rfl)
theorem session_Table_Clock_ok (n : Nat) (t_1 : T_session_Table) (now_5 : Int) (b_2 : Nat) (A_3 : Option Addr) (c_4 : Nat) :
    Meets Try.prog 16 [.pointer (some ⟨b_2, 0, none⟩), .int .u64 now_5] 2 [1, 2] [⟨1, b_2, [.int .u64 t_1.now, .int .u64 t_1.next, .slice A_3 t_1.rows.length c_4]⟩] [Ow 2 kT_session_Row A_3 c_4 t_1.rows] (session_Table_Clock.f n t_1 now_5) (session_Table_Clock.R b_2 A_3 c_4) := by
  refine Meets.of (c := c16_0) (n := 44) Try.func16 (by kernel_rfl) (by kernel_rfl) (by kernel_rfl) fun w0 S0 => ?_
  unfold session_Table_Clock.f
  show GoO (session_Table_Clock.cx b_2 A_3 c_4 w0 S0) [(0, .pointer (some ⟨b_2, 0, none⟩)), (1, .int .u64 now_5)] [⟨1, b_2, [.int .u64 t_1.now, .int .u64 t_1.next, .slice A_3 t_1.rows.length c_4]⟩] [Ow 2 kT_session_Row A_3 c_4 t_1.rows] [.code c16_0] _
  refine GoO.seq' c16_0e ?_
  refine GoO.seq' c16_1e ?_
  refine GoO.region' (is := [0, 1, 2, 3, 4, 5, 6, 7, 8, 9]) c16_2e (by kernel_rfl) ?_
  refine GoO.exec (is := [0, 1, 2, 3, 4, 5, 6, 7, 8, 9]) (hs := [.p, .p, .p, .p, .p, .p, .p, .b 0, .p, .p]) (rest := []) (ks := [0, 1, 16]) (env' := [(0, .pointer (some ⟨b_2, 0, none⟩)), (1, .int .u64 now_5), (16, .bool (decide (now_5 ≤ t_1.now)))]) (H' := [⟨1, b_2, [.int .u64 t_1.now, .int .u64 t_1.next, .slice A_3 t_1.rows.length c_4]⟩]) (ps := [b_2 = b_2]) (by kernel_rfl) (And.intro rfl trivial) ?_
  refine GoO.regionEnd ?_
  refine GoO.ite' c16_3e (by kernel_rfl) (fun h6 => ?_) (fun h6 => ?_)
  · exact GoO.ret' (h := c16_4e) (hs := []) (ps := []) (hk := [0]) (bk := [0]) Try.func16 (⟨A_3, c_4⟩ : Option Addr × Nat) (by kernel_rfl) trivial (by kernel_rfl) (by kernel_rfl)
  · refine GoO.skip' c16_5e ?_
    refine GoO.seq' c16_6e ?_
    refine GoO.region' (is := [0, 1, 2, 3, 4]) c16_7e (by kernel_rfl) ?_
    refine GoO.exec (is := [0, 1, 2, 3, 4]) (hs := [.p, .p, .p, .p, .b 0]) (rest := []) (ks := [0, 1]) (env' := [(0, .pointer (some ⟨b_2, 0, none⟩)), (1, .int .u64 now_5)]) (H' := [⟨1, b_2, [.int .u64 now_5, .int .u64 t_1.next, .slice A_3 t_1.rows.length c_4]⟩]) (ps := [b_2 = b_2]) (by kernel_rfl) (And.intro rfl trivial) ?_
    refine GoO.regionEnd ?_
    refine GoO.seq' c16_8e ?_
    refine GoO.region' (is := [0]) c16_9e (by kernel_rfl) ?_
    refine GoO.exec (is := [0]) (hs := [.p]) (rest := []) (ks := [0, 1, 4]) (env' := [(0, .pointer (some ⟨b_2, 0, none⟩)), (1, .int .u64 now_5), (4, .slice none ([] : List T_session_Row).length 0)]) (H' := [⟨1, b_2, [.int .u64 now_5, .int .u64 t_1.next, .slice A_3 t_1.rows.length c_4]⟩]) (ps := []) (by kernel_rfl) trivial ?_
    refine GoO.regionEnd ?_
    refine GoO.seq' c16_10e ?_
    refine GoO.seq' c16_11e ?_
    refine GoO.region' (is := [0, 1, 2, 3, 4, 5]) c16_12e (by kernel_rfl) ?_
    refine GoO.exec (is := [0, 1, 2, 3, 4, 5]) (hs := [.p, .p, .p, .b 0, .p, .p]) (rest := []) (ks := [0, 1, 4, 24, 25, 26]) (env' := [(0, .pointer (some ⟨b_2, 0, none⟩)), (1, .int .u64 now_5), (4, .slice none ([] : List T_session_Row).length 0), (24, .slice A_3 t_1.rows.length c_4), (25, .int .i64 (t_1.rows.length : Int)), (26, .int .i64 0)]) (H' := [⟨1, b_2, [.int .u64 now_5, .int .u64 t_1.next, .slice A_3 t_1.rows.length c_4]⟩]) (ps := [b_2 = b_2]) (by kernel_rfl) (And.intro rfl trivial) ?_
    refine GoO.regionEnd ?_
    refine GoO.block' c16_13e ?_
    refine GoO.loop' c16_14e ?_
    refine GoO.nilOwn kT_session_Row 42 ?_
    exact GoO.sub (ks := [0, 1, 4, 24, 25, 26]) (hk := [0]) (bk := [1, 0]) (by kernel_rfl) (by kernel_rfl) (by kernel_rfl) (session_Table_Clock_l0_ok n t_1 now_5 b_2 A_3 c_4 w0 S0 n ([] : List T_session_Row) 0 none 0)

/-! (*tontine/pack.Writer).Num -/
noncomputable def c38_0 : Code := bodyOf Try.f38
noncomputable def c38_1 : Code := cdL c38_0
noncomputable def c38_2 : Code := cdR c38_0
noncomputable def c38_3 : Code := cdL c38_2
noncomputable def c38_4 : Code := cdL c38_3
noncomputable def c38_5 : Code := cdR c38_3
noncomputable def c38_9 : Code := cdR c38_5
noncomputable def c38_10 : Code := cdR c38_2
noncomputable def c38_11 : Code := cdL c38_10
noncomputable def c38_12 : Code := cdR c38_10
noncomputable def c38_13 : Code := cdL c38_12
noncomputable def c38_14 : Code := cdL c38_13
noncomputable def c38_15 : Code := cdR c38_13
noncomputable def c38_16 : Code := cdL c38_15
noncomputable def c38_17 : Code := cdL c38_16
noncomputable def c38_18 : Code := cdL c38_17
noncomputable def c38_19 : Code := cdL c38_18
noncomputable def c38_20 : Code := cdR c38_18
noncomputable def c38_21 : Code := cdL c38_20
noncomputable def c38_22 : Code := cdR c38_20
noncomputable def c38_23 : Code := cdR c38_17
noncomputable def c38_24 : Code := cdL c38_23
noncomputable def c38_25 : Code := cdL c38_24
noncomputable def c38_26 : Code := cdR c38_23
noncomputable def c38_27 : Code := cdR c38_12
noncomputable def c38_28 : Code := cdL c38_27
noncomputable def c38_29 : Code := cdR c38_27
noncomputable def c38_30 : Code := cdL c38_29
noncomputable def c38_31 : Code := cdL c38_30
noncomputable def c38_32 : Code := cdR c38_30
noncomputable def c38_33 : Code := cdL c38_32
noncomputable def c38_34 : Code := cdL c38_33
noncomputable def c38_35 : Code := cdL c38_34
noncomputable def c38_36 : Code := cdL c38_35
noncomputable def c38_37 : Code := cdR c38_35
noncomputable def c38_38 : Code := cdL c38_37
noncomputable def c38_39 : Code := cdR c38_37
noncomputable def c38_40 : Code := cdR c38_34
noncomputable def c38_41 : Code := cdL c38_40
noncomputable def c38_42 : Code := cdL c38_41
noncomputable def c38_43 : Code := cdR c38_40
noncomputable def c38_44 : Code := cdR c38_29
noncomputable def c38_45 : Code := cdL c38_44
noncomputable def c38_46 : Code := cdR c38_44
noncomputable def c38_6 : Code := cdL c38_5
noncomputable def r38_1 : Array Oper := cdO c38_1
noncomputable def r38_4 : Array Oper := cdO c38_4
noncomputable def r38_11 : Array Oper := cdO c38_11
noncomputable def r38_14 : Array Oper := cdO c38_14
noncomputable def r38_19 : Array Oper := cdO c38_19
noncomputable def r38_25 : Array Oper := cdO c38_25
noncomputable def r38_26 : Array Oper := cdO c38_26
noncomputable def r38_28 : Array Oper := cdO c38_28
noncomputable def r38_31 : Array Oper := cdO c38_31
noncomputable def r38_36 : Array Oper := cdO c38_36
noncomputable def r38_42 : Array Oper := cdO c38_42
noncomputable def r38_43 : Array Oper := cdO c38_43
noncomputable def r38_45 : Array Oper := cdO c38_45
theorem c38_0e : c38_0 = .seq c38_1 c38_2 := by kernel_rfl
theorem c38_1e : c38_1 = .region 0 r38_1 false := by kernel_rfl
theorem c38_2e : c38_2 = .seq c38_3 c38_10 := by kernel_rfl
theorem c38_3e : c38_3 = .seq c38_4 c38_5 := by kernel_rfl
theorem c38_4e : c38_4 = .region 1 r38_4 false := by kernel_rfl
theorem c38_5e : c38_5 = .cond (cdC c38_5) c38_6 c38_9 := by kernel_rfl
theorem c38_9e : c38_9 = .skip := by kernel_rfl
theorem c38_10e : c38_10 = .seq c38_11 c38_12 := by kernel_rfl
theorem c38_11e : c38_11 = .region 3 r38_11 false := by kernel_rfl
theorem c38_12e : c38_12 = .seq c38_13 c38_27 := by kernel_rfl
theorem c38_13e : c38_13 = .seq c38_14 c38_15 := by kernel_rfl
theorem c38_14e : c38_14 = .region 4 r38_14 false := by kernel_rfl
theorem c38_15e : c38_15 = .block 0 c38_16 := by kernel_rfl
theorem c38_16e : c38_16 = .loop c38_17 := by kernel_rfl
theorem c38_17e : c38_17 = .seq c38_18 c38_23 := by kernel_rfl
theorem c38_18e : c38_18 = .seq c38_19 c38_20 := by kernel_rfl
theorem c38_19e : c38_19 = .region 5 r38_19 false := by kernel_rfl
theorem c38_20e : c38_20 = .cond (cdC c38_20) c38_21 c38_22 := by kernel_rfl
theorem c38_21e : c38_21 = .skip := by kernel_rfl
theorem c38_22e : c38_22 = .exit 0 := by kernel_rfl
theorem c38_23e : c38_23 = .seq c38_24 c38_26 := by kernel_rfl
theorem c38_24e : c38_24 = .block 1 c38_25 := by kernel_rfl
theorem c38_25e : c38_25 = .region 7 r38_25 false := by kernel_rfl
theorem c38_26e : c38_26 = .region 6 r38_26 false := by kernel_rfl
theorem c38_27e : c38_27 = .seq c38_28 c38_29 := by kernel_rfl
theorem c38_28e : c38_28 = .region 8 r38_28 false := by kernel_rfl
theorem c38_29e : c38_29 = .seq c38_30 c38_44 := by kernel_rfl
theorem c38_30e : c38_30 = .seq c38_31 c38_32 := by kernel_rfl
theorem c38_31e : c38_31 = .region 9 r38_31 false := by kernel_rfl
theorem c38_32e : c38_32 = .block 2 c38_33 := by kernel_rfl
theorem c38_33e : c38_33 = .loop c38_34 := by kernel_rfl
theorem c38_34e : c38_34 = .seq c38_35 c38_40 := by kernel_rfl
theorem c38_35e : c38_35 = .seq c38_36 c38_37 := by kernel_rfl
theorem c38_36e : c38_36 = .region 10 r38_36 false := by kernel_rfl
theorem c38_37e : c38_37 = .cond (cdC c38_37) c38_38 c38_39 := by kernel_rfl
theorem c38_38e : c38_38 = .skip := by kernel_rfl
theorem c38_39e : c38_39 = .exit 2 := by kernel_rfl
theorem c38_40e : c38_40 = .seq c38_41 c38_43 := by kernel_rfl
theorem c38_41e : c38_41 = .block 3 c38_42 := by kernel_rfl
theorem c38_42e : c38_42 = .region 12 r38_42 true := by kernel_rfl
theorem c38_43e : c38_43 = .region 11 r38_43 false := by kernel_rfl
theorem c38_44e : c38_44 = .seq c38_45 c38_46 := by kernel_rfl
theorem c38_45e : c38_45 = .region 13 r38_45 false := by kernel_rfl
theorem c38_46e : c38_46 = .ret := by kernel_rfl
noncomputable def pack_Writer_Num.R (b_2 : Nat) (A_3 : Option Addr) (c_4 : Nat) : Pst T_pack_Writer where
  ε := Option Addr × Nat
  v := fun r x => .pointer (some ⟨b_2, 0, none⟩)
  H := fun r x => [⟨1, b_2, [.slice x.1 r.b.length x.2]⟩]
  B := fun r x => [Ow 2 Kd.u8 x.1 x.2 r.b]
noncomputable def pack_Writer_Num.cx (b_2 : Nat) (A_3 : Option Addr) (c_4 : Nat) (w0 : World) (S0 : Fam) : Cx T_pack_Writer := ⟨Try.prog, 38, Try.f38, 49, w0, S0, [1, 2], 2, pack_Writer_Num.R b_2 A_3 c_4⟩
theorem pack_Writer_Num_l1_ok (n : Nat) (x_5 : Int) (b_2 : Nat) (A_3 : Option Addr) (c_4 : Nat) (w0 : World) (S0 : Fam) :
    ∀ (k : Nat) (f_14 : (List UInt8)) (i_17 : Int) (A_15 : Option Addr) (c_16 : Nat), GoO (pack_Writer_Num.cx b_2 A_3 c_4 w0 S0) [(0, .pointer (some ⟨b_2, 0, none⟩)), (1, .int .u64 x_5), (7, .int .i64 i_17)] [⟨1, b_2, [.slice A_15 f_14.length c_16]⟩] [Ow 2 Kd.u8 A_15 c_16 f_14] [.code c38_34, .inLoop c38_34, .inBlock 2, .code c38_44] (pack_Writer_Num.l1 n x_5 k f_14 i_17) := by
  intro k
  induction k with
  | zero => intros; rw [pack_Writer_Num.l1.eq_1]; exact GoO.stop
  | succ k ih1 =>
    intro f_14 i_17 A_15 c_16
    rw [pack_Writer_Num.l1.eq_2]
    refine GoO.seq' c38_34e ?_
    refine GoO.seq' c38_35e ?_
    refine GoO.region' (is := [0, 1]) c38_36e (by kernel_rfl) ?_
    refine GoO.exec (is := [0, 1]) (hs := [.p, .p]) (rest := []) (ks := [0, 1, 7, 31]) (env' := [(0, .pointer (some ⟨b_2, 0, none⟩)), (1, .int .u64 x_5), (7, .int .i64 i_17), (31, .bool (decide (i_17 ≥ 0)))]) (H' := [⟨1, b_2, [.slice A_15 f_14.length c_16]⟩]) (ps := []) (by kernel_rfl) trivial ?_
    refine GoO.regionEnd ?_
    refine GoO.ite' c38_37e (by kernel_rfl) (fun h18 => ?_) (fun h18 => ?_)
    · refine GoO.skip' c38_38e ?_
      refine GoO.seq' c38_40e ?_
      refine GoO.block' c38_41e ?_
      refine GoO.draw c38_42e (by kernel_rfl) [12, 13, 14] [⟨1, b_2, [.slice A_15 f_14.length c_16]⟩] [] (n := 15) (by kernel_rfl) ?_
      simp only [List.replicate]
      refine GoF.guard (fun h19 => ?_)
      refine GoF.take [0, 1, 2, 3, 4, 5, 6, 7, 8, 9] [.p, .p, .p, .p, .b 0, .p, .p, .p, .p, .p] (ks := [0, 1, 7, 34, 38, 43]) (fu := 5) (li := [true, true, true, true, true, true, true, true, true, true, false, false, false, false, false]) (env' := [(0, .pointer (some ⟨b_2, 0, none⟩)), (1, .int .u64 x_5), (7, .int .i64 i_17), (34, .pointer (some ⟨b_2, 0, none⟩)), (38, .slice A_15 f_14.length c_16), (43, .int .u8 (wu8 (shR .u64 x_5 (wi64 (8 * i_17)))))]) (ps := [b_2 = b_2, (0 : Int) ≤ (wi64 (8 * i_17))]) (hk := [0]) (bk := []) (by kernel_rfl) (And.intro rfl (And.intro h19 trivial)) rfl rfl ?_
      refine OpTo.goF (i := 10) (by kernel_rfl) (hk := [0]) (bk := []) (GoO.lit (e := 5) (K := Kd.u8) rfl (by kernel_rfl) (by kernel_rfl) (cs := [.int .u8 (wu8 (shR .u64 x_5 (wi64 (8 * i_17))))]) (by kernel_rfl) [u8of (shR .u64 x_5 (wi64 (8 * i_17)))] (by kernel_rfl) (by kernel_rfl) (fun w S hB => ⟨[.int .u8 (wu8 (shR .u64 x_5 (wi64 (8 * i_17))))], _, rfl, (congrArg (fun v => [v]) (u8cell _)), rfl⟩) 41 _ (fun _ _ => rfl) (fun A_20 c_21 => ⟨rfl, rfl, ?_⟩))
      refine GoF.guard (fun h22 => ?_)
      refine OpTo.goF (i := 11) (by kernel_rfl) (hk := [0]) (bk := []) (GoO.appW (e := 5) (K := Kd.u8) (A := A_15) (c := c_16) (tg := 2) (bytes := 1) (zs := [.int .u8 0]) (xs := f_14) (ys := [u8of (shR .u64 x_5 (wi64 (8 * i_17)))]) (xv := .slice A_20 [u8of (shR .u64 x_5 (wi64 (8 * i_17)))].length c_21) (j := 1) (bk := [0]) rfl (by kernel_rfl) (by kernel_rfl) (by kernel_rfl) (by kernel_rfl) rfl (by kernel_rfl) rfl (fun w S hB => SrcIs.row (Reads.own w S (hB _ (List.mem_of_getElem? (i := 0) rfl)))) h22 rfl rfl rfl rfl _ (fun _ _ => rfl) (fun A_23 c_24 => ⟨rfl, rfl, ?_⟩))
      refine GoF.fin1 (i := 12) (hint := .p) (ps := []) (hk := []) (bk := []) (by kernel_rfl) rfl trivial (.inl rfl) ?_
      refine GoF.fin1 (i := 13) (hint := .p) (ps := []) (hk := []) (bk := []) (by kernel_rfl) rfl trivial (.inl rfl) ?_
      refine GoF.fin1 (i := 14) (hint := .b 0) (ps := [b_2 = b_2]) (hk := []) (bk := []) (by kernel_rfl) rfl (And.intro rfl trivial) (.inl rfl) ?_
      refine GoF.done (by kernel_rfl) ?_
      refine GoO.inBlock ?_
      refine GoO.region' (is := [0, 1, 2]) c38_43e (by kernel_rfl) ?_
      refine GoO.exec (is := [0, 1, 2]) (hs := [.p, .p, .p]) (rest := []) (ks := [0, 1, 7]) (env' := [(0, .pointer (some ⟨b_2, 0, none⟩)), (1, .int .u64 x_5), (7, .int .i64 (wi64 (i_17 - 1)))]) (H' := [⟨1, b_2, [.slice A_23 (f_14 ++ [u8of (shR .u64 x_5 (wi64 (8 * i_17)))]).length c_24]⟩]) (ps := []) (by kernel_rfl) trivial ?_
      refine GoO.regionEnd ?_
      refine GoO.inLoop ?_
      exact GoO.sub (ks := [0, 1, 7]) (hk := [0]) (bk := [0]) (by kernel_rfl) (by kernel_rfl) (by kernel_rfl) (ih1 (f_14 ++ [u8of (shR .u64 x_5 (wi64 (8 * i_17)))]) (wi64 (i_17 - 1)) A_23 c_24)
    · refine GoO.exit' c38_39e rfl ?_
      refine GoO.seq' c38_44e ?_
      refine GoO.region' (is := [0, 1]) c38_45e (by kernel_rfl) ?_
      refine GoO.exec (is := [0, 1]) (hs := [.p, .p]) (rest := []) (ks := [4]) (env' := [(4, .pointer (some ⟨b_2, 0, none⟩))]) (H' := [⟨1, b_2, [.slice A_15 f_14.length c_16]⟩]) (ps := []) (by kernel_rfl) trivial ?_
      refine GoO.regionEnd ?_
      exact GoO.ret' (h := c38_46e) (hs := []) (ps := []) (hk := [0]) (bk := [0]) Try.func38 (⟨A_15, c_16⟩ : Option Addr × Nat) (by kernel_rfl) trivial (by kernel_rfl) (by kernel_rfl)
theorem pack_Writer_Num_l0_ok (n : Nat) (w_1 : T_pack_Writer) (x_5 : Int) (b_2 : Nat) (A_3 : Option Addr) (c_4 : Nat) (w0 : World) (S0 : Fam) :
    ∀ (k : Nat) (n_6 : Int) (y_7 : Int), GoO (pack_Writer_Num.cx b_2 A_3 c_4 w0 S0) [(0, .pointer (some ⟨b_2, 0, none⟩)), (1, .int .u64 x_5), (5, .int .i64 n_6), (6, .int .u64 y_7)] [⟨1, b_2, [.slice A_3 w_1.b.length c_4]⟩] [Ow 2 Kd.u8 A_3 c_4 w_1.b] [.code c38_17, .inLoop c38_17, .inBlock 0, .code c38_27] (pack_Writer_Num.l0 n w_1 x_5 k n_6 y_7) := by
  intro k
  induction k with
  | zero => intros; rw [pack_Writer_Num.l0.eq_1]; exact GoO.stop
  | succ k ih0 =>
    intro n_6 y_7
    rw [pack_Writer_Num.l0.eq_2]
    refine GoO.seq' c38_17e ?_
    refine GoO.seq' c38_18e ?_
    refine GoO.region' (is := [0, 1]) c38_19e (by kernel_rfl) ?_
    refine GoO.exec (is := [0, 1]) (hs := [.p, .p]) (rest := []) (ks := [0, 1, 5, 6, 12]) (env' := [(0, .pointer (some ⟨b_2, 0, none⟩)), (1, .int .u64 x_5), (5, .int .i64 n_6), (6, .int .u64 y_7), (12, .bool (decide (y_7 > 0)))]) (H' := [⟨1, b_2, [.slice A_3 w_1.b.length c_4]⟩]) (ps := []) (by kernel_rfl) trivial ?_
    refine GoO.regionEnd ?_
    refine GoO.ite' c38_20e (by kernel_rfl) (fun h8 => ?_) (fun h8 => ?_)
    · refine GoO.skip' c38_21e ?_
      refine GoO.seq' c38_23e ?_
      refine GoO.block' c38_24e ?_
      refine GoO.region' (is := [0, 1, 2]) c38_25e (by kernel_rfl) ?_
      refine GoO.exec (is := [0, 1, 2]) (hs := [.p, .p, .p]) (rest := []) (ks := [0, 1, 5, 6]) (env' := [(0, .pointer (some ⟨b_2, 0, none⟩)), (1, .int .u64 x_5), (5, .int .i64 (wi64 (n_6 + 1))), (6, .int .u64 y_7)]) (H' := [⟨1, b_2, [.slice A_3 w_1.b.length c_4]⟩]) (ps := []) (by kernel_rfl) trivial ?_
      refine GoO.regionEnd ?_
      refine GoO.inBlock ?_
      refine GoO.region' (is := [0, 1, 2]) c38_26e (by kernel_rfl) ?_
      refine GoO.exec (is := [0, 1, 2]) (hs := [.p, .p, .p]) (rest := []) (ks := [0, 1, 5, 6]) (env' := [(0, .pointer (some ⟨b_2, 0, none⟩)), (1, .int .u64 x_5), (5, .int .i64 (wi64 (n_6 + 1))), (6, .int .u64 (shR .u64 y_7 8))]) (H' := [⟨1, b_2, [.slice A_3 w_1.b.length c_4]⟩]) (ps := [(0 : Int) ≤ 8]) (by kernel_rfl) (And.intro (by decide) trivial) ?_
      refine GoO.regionEnd ?_
      refine GoO.inLoop ?_
      exact GoO.sub (ks := [0, 1, 5, 6]) (hk := [0]) (bk := [0]) (by kernel_rfl) (by kernel_rfl) (by kernel_rfl) (ih0 (wi64 (n_6 + 1)) (shR .u64 y_7 8))
    · refine GoO.exit' c38_22e rfl ?_
      refine GoO.seq' c38_27e ?_
      refine GoO.region' (is := [0, 1, 2, 3, 4, 5, 6, 7, 8, 9, 10, 11]) c38_28e (by kernel_rfl) ?_
      refine GoO.exec (is := [0, 1, 2, 3, 4, 5, 6]) (hs := [.p, .p, .p, .p, .b 0, .p, .p]) (rest := [7, 8, 9, 10, 11]) (ks := [0, 1, 5, 17, 21, 23]) (env' := [(0, .pointer (some ⟨b_2, 0, none⟩)), (1, .int .u64 x_5), (5, .int .i64 n_6), (17, .pointer (some ⟨b_2, 0, none⟩)), (21, .slice A_3 w_1.b.length c_4), (23, .int .u8 (wu8 n_6))]) (H' := [⟨1, b_2, [.slice A_3 w_1.b.length c_4]⟩]) (ps := [b_2 = b_2]) (by kernel_rfl) (And.intro rfl trivial) ?_
      refine OpTo.go (GoO.lit (e := 5) (K := Kd.u8) rfl (by kernel_rfl) (by kernel_rfl) (cs := [.int .u8 (wu8 n_6)]) (by kernel_rfl) [u8of n_6] (by kernel_rfl) (by kernel_rfl) (fun w S hB => ⟨[.int .u8 (wu8 n_6)], _, rfl, (congrArg (fun v => [v]) (u8cell _)), rfl⟩) 40 _ (fun _ _ => rfl) (fun A_9 c_10 => ?_))
      refine GoO.guard (fun h11 => ?_)
      refine OpTo.go (GoO.appW (e := 5) (K := Kd.u8) (A := A_3) (c := c_4) (tg := 2) (bytes := 1) (zs := [.int .u8 0]) (xs := w_1.b) (ys := [u8of n_6]) (xv := .slice A_9 [u8of n_6].length c_10) (j := 1) (bk := [0]) rfl (by kernel_rfl) (by kernel_rfl) (by kernel_rfl) (by kernel_rfl) rfl (by kernel_rfl) rfl (fun w S hB => SrcIs.row (Reads.own w S (hB _ (List.mem_of_getElem? (i := 0) rfl)))) h11 rfl rfl rfl rfl _ (fun _ _ => rfl) (fun A_12 c_13 => ?_))
      refine GoO.exec (is := [9, 10, 11]) (hs := [.p, .p, .b 0]) (rest := []) (ks := [0, 1, 5]) (env' := [(0, .pointer (some ⟨b_2, 0, none⟩)), (1, .int .u64 x_5), (5, .int .i64 n_6)]) (H' := [⟨1, b_2, [.slice A_12 (w_1.b ++ [u8of n_6]).length c_13]⟩]) (ps := [b_2 = b_2]) (by kernel_rfl) (And.intro rfl trivial) ?_
      refine GoO.regionEnd ?_
      refine GoO.seq' c38_29e ?_
      refine GoO.seq' c38_30e ?_
      refine GoO.region' (is := [0, 1, 2]) c38_31e (by kernel_rfl) ?_
      refine GoO.exec (is := [0, 1, 2]) (hs := [.p, .p, .p]) (rest := []) (ks := [0, 1, 7]) (env' := [(0, .pointer (some ⟨b_2, 0, none⟩)), (1, .int .u64 x_5), (7, .int .i64 (wi64 (n_6 - 1)))]) (H' := [⟨1, b_2, [.slice A_12 (w_1.b ++ [u8of n_6]).length c_13]⟩]) (ps := []) (by kernel_rfl) trivial ?_
      refine GoO.regionEnd ?_
      refine GoO.block' c38_32e ?_
      refine GoO.loop' c38_33e ?_
      exact GoO.sub (ks := [0, 1, 7]) (hk := [0]) (bk := [0]) (by kernel_rfl) (by kernel_rfl) (by kernel_rfl) (pack_Writer_Num_l1_ok n x_5 b_2 A_3 c_4 w0 S0 n (w_1.b ++ [u8of n_6]) (wi64 (n_6 - 1)) A_12 c_13)
theorem pack_Writer_Num_ok (n : Nat) (w_1 : T_pack_Writer) (x_5 : Int) (b_2 : Nat) (A_3 : Option Addr) (c_4 : Nat) :
    Meets Try.prog 38 [.pointer (some ⟨b_2, 0, none⟩), .int .u64 x_5] 2 [1, 2] [⟨1, b_2, [.slice A_3 w_1.b.length c_4]⟩] [Ow 2 Kd.u8 A_3 c_4 w_1.b] (pack_Writer_Num.f n w_1 x_5) (pack_Writer_Num.R b_2 A_3 c_4) := by
  refine Meets.of (c := c38_0) (n := 49) Try.func38 (by kernel_rfl) (by kernel_rfl) (by kernel_rfl) fun w0 S0 => ?_
  unfold pack_Writer_Num.f
  show GoO (pack_Writer_Num.cx b_2 A_3 c_4 w0 S0) [(0, .pointer (some ⟨b_2, 0, none⟩)), (1, .int .u64 x_5)] [⟨1, b_2, [.slice A_3 w_1.b.length c_4]⟩] [Ow 2 Kd.u8 A_3 c_4 w_1.b] [.code c38_0] _
  refine GoO.seq' c38_0e ?_
  refine GoO.region' (is := [0]) c38_1e (by kernel_rfl) ?_
  refine GoO.exec (is := [0]) (hs := [.p]) (rest := []) (ks := [0, 1]) (env' := [(0, .pointer (some ⟨b_2, 0, none⟩)), (1, .int .u64 x_5)]) (H' := [⟨1, b_2, [.slice A_3 w_1.b.length c_4]⟩]) (ps := []) (by kernel_rfl) trivial ?_
  refine GoO.regionEnd ?_
  refine GoO.seq' c38_2e ?_
  refine GoO.seq' c38_3e ?_
  refine GoO.region' (is := [0, 1]) c38_4e (by kernel_rfl) ?_
  refine GoO.exec (is := [0, 1]) (hs := [.p, .p]) (rest := []) (ks := [0, 1, 9]) (env' := [(0, .pointer (some ⟨b_2, 0, none⟩)), (1, .int .u64 x_5), (9, .bool false)]) (H' := [⟨1, b_2, [.slice A_3 w_1.b.length c_4]⟩]) (ps := []) (by kernel_rfl) trivial ?_
  refine GoO.regionEnd ?_
  refine GoO.condF c38_5e (by kernel_rfl) ?_
  refine GoO.skip' c38_9e ?_
  refine GoO.seq' c38_10e ?_
  refine GoO.region' (is := [0]) c38_11e (by kernel_rfl) ?_
  refine GoO.exec (is := [0]) (hs := [.p]) (rest := []) (ks := [0, 1, 5]) (env' := [(0, .pointer (some ⟨b_2, 0, none⟩)), (1, .int .u64 x_5), (5, .int .i64 0)]) (H' := [⟨1, b_2, [.slice A_3 w_1.b.length c_4]⟩]) (ps := []) (by kernel_rfl) trivial ?_
  refine GoO.regionEnd ?_
  refine GoO.seq' c38_12e ?_
  refine GoO.seq' c38_13e ?_
  refine GoO.region' (is := [0, 1]) c38_14e (by kernel_rfl) ?_
  refine GoO.exec (is := [0, 1]) (hs := [.p, .p]) (rest := []) (ks := [0, 1, 5, 6]) (env' := [(0, .pointer (some ⟨b_2, 0, none⟩)), (1, .int .u64 x_5), (5, .int .i64 0), (6, .int .u64 x_5)]) (H' := [⟨1, b_2, [.slice A_3 w_1.b.length c_4]⟩]) (ps := []) (by kernel_rfl) trivial ?_
  refine GoO.regionEnd ?_
  refine GoO.block' c38_15e ?_
  refine GoO.loop' c38_16e ?_
  exact GoO.sub (ks := [0, 1, 5, 6]) (hk := [0]) (bk := [0]) (by kernel_rfl) (by kernel_rfl) (by kernel_rfl) (pack_Writer_Num_l0_ok n w_1 x_5 b_2 A_3 c_4 w0 S0 n 0 x_5)

/-! (*tontine/session.Table).Write -/
noncomputable def c25_0 : Code := bodyOf Try.f25
noncomputable def c25_1 : Code := cdL c25_0
noncomputable def c25_2 : Code := cdL c25_1
noncomputable def c25_3 : Code := cdR c25_1
noncomputable def c25_5 : Code := cdR c25_3
noncomputable def c25_6 : Code := cdR c25_0
noncomputable def c25_7 : Code := cdL c25_6
noncomputable def c25_8 : Code := cdR c25_6
noncomputable def c25_9 : Code := cdL c25_8
noncomputable def c25_10 : Code := cdR c25_8
noncomputable def c25_11 : Code := cdL c25_10
noncomputable def c25_12 : Code := cdL c25_11
noncomputable def c25_13 : Code := cdL c25_12
noncomputable def c25_14 : Code := cdR c25_12
noncomputable def c25_15 : Code := cdL c25_14
noncomputable def c25_16 : Code := cdL c25_15
noncomputable def c25_17 : Code := cdR c25_15
noncomputable def c25_18 : Code := cdR c25_14
noncomputable def c25_19 : Code := cdL c25_18
noncomputable def c25_20 : Code := cdL c25_19
noncomputable def c25_21 : Code := cdL c25_20
noncomputable def c25_22 : Code := cdR c25_20
noncomputable def c25_23 : Code := cdR c25_18
noncomputable def c25_4 : Code := cdL c25_3
noncomputable def r25_2 : Array Oper := cdO c25_2
noncomputable def r25_7 : Array Oper := cdO c25_7
noncomputable def r25_9 : Array Oper := cdO c25_9
noncomputable def r25_13 : Array Oper := cdO c25_13
noncomputable def r25_21 : Array Oper := cdO c25_21
noncomputable def r25_22 : Array Oper := cdO c25_22
noncomputable def r25_23 : Array Oper := cdO c25_23
theorem c25_0e : c25_0 = .seq c25_1 c25_6 := by kernel_rfl
theorem c25_1e : c25_1 = .seq c25_2 c25_3 := by kernel_rfl
theorem c25_2e : c25_2 = .region 0 r25_2 false := by kernel_rfl
theorem c25_3e : c25_3 = .cond (cdC c25_3) c25_4 c25_5 := by kernel_rfl
theorem c25_5e : c25_5 = .skip := by kernel_rfl
theorem c25_6e : c25_6 = .seq c25_7 c25_8 := by kernel_rfl
theorem c25_7e : c25_7 = .region 1 r25_7 true := by kernel_rfl
theorem c25_8e : c25_8 = .seq c25_9 c25_10 := by kernel_rfl
theorem c25_9e : c25_9 = .region 2 r25_9 false := by kernel_rfl
theorem c25_10e : c25_10 = .block 0 c25_11 := by kernel_rfl
theorem c25_11e : c25_11 = .loop c25_12 := by kernel_rfl
theorem c25_12e : c25_12 = .seq c25_13 c25_14 := by kernel_rfl
theorem c25_13e : c25_13 = .region 3 r25_13 false := by kernel_rfl
theorem c25_14e : c25_14 = .seq c25_15 c25_18 := by kernel_rfl
theorem c25_15e : c25_15 = .cond (cdC c25_15) c25_16 c25_17 := by kernel_rfl
theorem c25_16e : c25_16 = .skip := by kernel_rfl
theorem c25_17e : c25_17 = .exit 0 := by kernel_rfl
theorem c25_18e : c25_18 = .seq c25_19 c25_23 := by kernel_rfl
theorem c25_19e : c25_19 = .block 1 c25_20 := by kernel_rfl
theorem c25_20e : c25_20 = .seq c25_21 c25_22 := by kernel_rfl
theorem c25_21e : c25_21 = .region 4 r25_21 false := by kernel_rfl
theorem c25_22e : c25_22 = .region 5 r25_22 true := by kernel_rfl
theorem c25_23e : c25_23 = .region 6 r25_23 false := by kernel_rfl
theorem c25_4e : c25_4 = .ret := by kernel_rfl
noncomputable def session_Table_Write.R (b_2 : Nat) (A_3 : Option Addr) (c_4 : Nat) (b_6 : Nat) (A_7 : Option Addr) (c_8 : Nat) : Pst T_pack_Writer where
  ε := Option Addr × Nat
  v := fun r x => .tuple ⟨[]⟩
  H := fun r x => [⟨3, b_6, [.slice x.1 r.b.length x.2]⟩]
  B := fun r x => [Ow 4 Kd.u8 x.1 x.2 r.b]
noncomputable def session_Table_Write.cx (b_2 : Nat) (A_3 : Option Addr) (c_4 : Nat) (b_6 : Nat) (A_7 : Option Addr) (c_8 : Nat) (w0 : World) (S0 : Fam) : Cx T_pack_Writer := ⟨Try.prog, 25, Try.f25, 59, w0, S0, [3, 4], 4, session_Table_Write.R b_2 A_3 c_4 b_6 A_7 c_8⟩
theorem session_Table_Write_l0_ok (n : Nat) (t_1 : T_session_Table) (b_2 : Nat) (A_3 : Option Addr) (c_4 : Nat) (b_6 : Nat) (A_7 : Option Addr) (c_8 : Nat) (w0 : World) (S0 : Fam) :
    ∀ (k : Nat) (f_18 : (List UInt8)) (x_21 : Int) (A_19 : Option Addr) (c_20 : Nat), GoO (session_Table_Write.cx b_2 A_3 c_4 b_6 A_7 c_8 w0 S0) [(1, .pointer (some ⟨b_6, 0, none⟩)), (29, .slice A_3 t_1.rows.length c_4), (30, .int .i64 (t_1.rows.length : Int)), (31, .int .i64 x_21)] [⟨3, b_6, [.slice A_19 f_18.length c_20]⟩, ⟨1, b_2, [.int .u64 t_1.now, .int .u64 t_1.next, .slice A_3 t_1.rows.length c_4]⟩] [Ow 4 Kd.u8 A_19 c_20 f_18, Ow 2 kT_session_Row A_3 c_4 t_1.rows] [.code c25_12, .inLoop c25_12, .inBlock 0] (session_Table_Write.l0 n t_1 k f_18 x_21) := by
  intro k
  induction k with
  | zero => intros; rw [session_Table_Write.l0.eq_1]; exact GoO.stop
  | succ k ih0 =>
    intro f_18 x_21 A_19 c_20
    rw [session_Table_Write.l0.eq_2]
    refine GoO.seq' c25_12e ?_
    refine GoO.region' (is := [0]) c25_13e (by kernel_rfl) ?_
    refine GoO.exec (is := [0]) (hs := [.p]) (rest := []) (ks := [1, 29, 30, 31, 32]) (env' := [(1, .pointer (some ⟨b_6, 0, none⟩)), (29, .slice A_3 t_1.rows.length c_4), (30, .int .i64 (t_1.rows.length : Int)), (31, .int .i64 x_21), (32, .bool (decide (x_21 < (t_1.rows.length : Int))))]) (H' := [⟨3, b_6, [.slice A_19 f_18.length c_20]⟩, ⟨1, b_2, [.int .u64 t_1.now, .int .u64 t_1.next, .slice A_3 t_1.rows.length c_4]⟩]) (ps := []) (by kernel_rfl) trivial ?_
    refine GoO.regionEnd ?_
    refine GoO.seq' c25_14e ?_
    refine GoO.ite' c25_15e (by kernel_rfl) (fun h22 => ?_) (fun h22 => ?_)
    · refine GoO.skip' c25_16e ?_
      refine GoO.seq' c25_18e ?_
      refine GoO.block' c25_19e ?_
      refine GoO.seq' c25_20e ?_
      refine GoO.region' (is := [0, 1, 2, 3]) c25_21e (by kernel_rfl) ?_
      refine GoO.guard (fun h23 => ?_)
      refine OpTo.go (GoO.idx (kk := .i64) (e := 87) (K := kT_session_Row) (A := A_3) (c := c_4) (xs := t_1.rows) (iv := x_21) (j := 1) rfl (by kernel_rfl) (by kernel_rfl) (by kernel_rfl) (by kernel_rfl) rfl Reads.own rfl h23.1 h23.2 (by decide) rfl ?_)
      refine OpTo.go (GoO.ldE' (K := kT_session_Row) (A := A_3) (c := c_4) (xs := t_1.rows) (iN := x_21.toNat) (off := 0) (j := 1) rfl (by kernel_rfl) rfl Reads.own (by first | exact idx_lt h23.1 h23.2 | (simp only [List.length_set]; exact idx_lt h23.1 h23.2)) (by decide) (Opn.flat _ _ _ _ _) (v := fun _ => .agg ⟨[.int .u64 ((rdL t_1.rows x_21).Id), .int .u64 ((rdL t_1.rows x_21).Used), .int .u64 ((rdL t_1.rows x_21).Seq), .int .i64 ((rdL t_1.rows x_21).Reply.Err), .int .u64 ((rdL t_1.rows x_21).Reply.Num), .int .u64 ((rdL t_1.rows x_21).Reply.Extra)]⟩) (fun _ => by kernel_rfl) _ (fun _ => rfl) (fun _ => ?_))
      refine OpTo.go (GoO.new rfl 40 (cs := [.int .u64 0, .int .u64 0, .int .u64 0, .int .i64 0, .int .u64 0, .int .u64 0]) (by kernel_rfl) _ (fun _ => rfl) (fun b_24 => ?_))
      refine GoO.exec (is := [3]) (hs := [.b 0]) (rest := []) (ks := [1, 5, 29, 30, 31]) (env' := [(1, .pointer (some ⟨b_6, 0, none⟩)), (5, .pointer (some ⟨b_24, 0, none⟩)), (29, .slice A_3 t_1.rows.length c_4), (30, .int .i64 (t_1.rows.length : Int)), (31, .int .i64 x_21)]) (H' := [⟨40, b_24, [.int .u64 ((rdL t_1.rows x_21).Id), .int .u64 ((rdL t_1.rows x_21).Used), .int .u64 ((rdL t_1.rows x_21).Seq), .int .i64 ((rdL t_1.rows x_21).Reply.Err), .int .u64 ((rdL t_1.rows x_21).Reply.Num), .int .u64 ((rdL t_1.rows x_21).Reply.Extra)]⟩, ⟨3, b_6, [.slice A_19 f_18.length c_20]⟩, ⟨1, b_2, [.int .u64 t_1.now, .int .u64 t_1.next, .slice A_3 t_1.rows.length c_4]⟩]) (ps := [b_24 = b_24]) (by kernel_rfl) (And.intro rfl trivial) ?_
      refine GoO.regionEnd ?_
      refine GoO.draw c25_22e (by kernel_rfl) [] [⟨40, b_24, [.int .u64 ((rdL t_1.rows x_21).Id), .int .u64 ((rdL t_1.rows x_21).Used), .int .u64 ((rdL t_1.rows x_21).Seq), .int .i64 ((rdL t_1.rows x_21).Reply.Err), .int .u64 ((rdL t_1.rows x_21).Reply.Num), .int .u64 ((rdL t_1.rows x_21).Reply.Extra)]⟩] [] (n := 23) (by kernel_rfl) ?_
      simp only [List.replicate]
      refine GoF.take [0, 1, 2, 4, 5, 7, 8, 10, 11, 12, 13, 15, 16, 17, 19, 20, 21] [.p, .p, .b 0, .p, .b 0, .p, .b 0, .p, .p, .b 0, .p, .p, .p, .b 0, .p, .p, .b 0] (ks := [1, 29, 30, 31, 35, 37, 40, 43, 48, 52, 56]) (fu := 6) (li := [true, true, true, false, true, true, false, true, true, false, true, true, true, true, false, true, true, true, false, true, true, true, false]) (env' := [(1, .pointer (some ⟨b_6, 0, none⟩)), (29, .slice A_3 t_1.rows.length c_4), (30, .int .i64 (t_1.rows.length : Int)), (31, .int .i64 x_21), (35, .pointer (some ⟨b_6, 0, none⟩)), (37, .int .u64 ((rdL t_1.rows x_21).Id)), (40, .int .u64 ((rdL t_1.rows x_21).Used)), (43, .int .u64 ((rdL t_1.rows x_21).Seq)), (48, .int .u64 (wu64 ((rdL t_1.rows x_21).Reply.Err))), (52, .int .u64 ((rdL t_1.rows x_21).Reply.Num)), (56, .int .u64 ((rdL t_1.rows x_21).Reply.Extra))]) (ps := [b_24 = b_24, b_24 = b_24, b_24 = b_24, b_24 = b_24, b_24 = b_24, b_24 = b_24]) (hk := [0]) (bk := []) (by kernel_rfl) (And.intro rfl (And.intro rfl (And.intro rfl (And.intro rfl (And.intro rfl (And.intro rfl trivial)))))) rfl rfl ?_
      refine OpTo.goF (i := 3) (by kernel_rfl) (hk := [1]) (bk := []) (GoO.call rfl (by kernel_rfl) (by kernel_rfl) (pack_Writer_Num_ok n (⟨f_18⟩ : T_pack_Writer) ((rdL t_1.rows x_21).Id) b_6 A_19 c_20) [[0], [3], [4]] [(3, 1), (4, 2)] [(1, 1)] [(2, 0)] (hks := [0, 2]) (bks := [1]) (by kernel_rfl) (by kernel_rfl) (by kernel_rfl) (.inl rfl) rfl rfl (by kernel_rfl) (by kernel_rfl) _ (fun _ _ => rfl) _ _ (fun _ _ => rfl) (fun _ _ => rfl) (fun _ _ => by kernel_rfl) (fun _ _ => by kernel_rfl) (fun r_25 x_48 => ⟨rfl, rfl, ?_⟩))
      obtain ⟨A_26, c_27⟩ := x_48
      refine GoF.shape (env' := [(1, .pointer (some ⟨b_6, 0, none⟩)), (29, .slice A_3 t_1.rows.length c_4), (30, .int .i64 (t_1.rows.length : Int)), (31, .int .i64 x_21), (35, .pointer (some ⟨b_6, 0, none⟩)), (37, .int .u64 ((rdL t_1.rows x_21).Id)), (38, .pointer (some ⟨b_6, 0, none⟩)), (40, .int .u64 ((rdL t_1.rows x_21).Used)), (43, .int .u64 ((rdL t_1.rows x_21).Seq)), (48, .int .u64 (wu64 ((rdL t_1.rows x_21).Reply.Err))), (52, .int .u64 ((rdL t_1.rows x_21).Reply.Num)), (56, .int .u64 ((rdL t_1.rows x_21).Reply.Extra))]) (H' := [⟨3, b_6, [.slice A_26 r_25.b.length c_27]⟩, ⟨40, b_24, [.int .u64 ((rdL t_1.rows x_21).Id), .int .u64 ((rdL t_1.rows x_21).Used), .int .u64 ((rdL t_1.rows x_21).Seq), .int .i64 ((rdL t_1.rows x_21).Reply.Err), .int .u64 ((rdL t_1.rows x_21).Reply.Num), .int .u64 ((rdL t_1.rows x_21).Reply.Extra)]⟩, ⟨1, b_2, [.int .u64 t_1.now, .int .u64 t_1.next, .slice A_3 t_1.rows.length c_4]⟩]) (B' := [Ow 4 Kd.u8 A_26 c_27 r_25.b, Ow 2 kT_session_Row A_3 c_4 t_1.rows]) (ks := [1, 29, 30, 31, 35, 37, 38, 40, 43, 48, 52, 56]) (by kernel_rfl) (by kernel_rfl) (by kernel_rfl) ?_
      refine OpTo.goF (i := 6) (by kernel_rfl) (hk := [1]) (bk := []) (GoO.call rfl (by kernel_rfl) (by kernel_rfl) (pack_Writer_Num_ok n r_25 ((rdL t_1.rows x_21).Used) b_6 A_26 c_27) [[0], [3], [4]] [(3, 1), (4, 2)] [(1, 0)] [(2, 0)] (hks := [1, 2]) (bks := [1]) (by kernel_rfl) (by kernel_rfl) (by kernel_rfl) (.inl rfl) rfl rfl (by kernel_rfl) (by kernel_rfl) _ (fun _ _ => rfl) _ _ (fun _ _ => rfl) (fun _ _ => rfl) (fun _ _ => by kernel_rfl) (fun _ _ => by kernel_rfl) (fun r_28 x_47 => ⟨rfl, rfl, ?_⟩))
      obtain ⟨A_29, c_30⟩ := x_47
      refine GoF.shape (env' := [(1, .pointer (some ⟨b_6, 0, none⟩)), (29, .slice A_3 t_1.rows.length c_4), (30, .int .i64 (t_1.rows.length : Int)), (31, .int .i64 x_21), (35, .pointer (some ⟨b_6, 0, none⟩)), (37, .int .u64 ((rdL t_1.rows x_21).Id)), (38, .pointer (some ⟨b_6, 0, none⟩)), (40, .int .u64 ((rdL t_1.rows x_21).Used)), (41, .pointer (some ⟨b_6, 0, none⟩)), (43, .int .u64 ((rdL t_1.rows x_21).Seq)), (48, .int .u64 (wu64 ((rdL t_1.rows x_21).Reply.Err))), (52, .int .u64 ((rdL t_1.rows x_21).Reply.Num)), (56, .int .u64 ((rdL t_1.rows x_21).Reply.Extra))]) (H' := [⟨3, b_6, [.slice A_29 r_28.b.length c_30]⟩, ⟨40, b_24, [.int .u64 ((rdL t_1.rows x_21).Id), .int .u64 ((rdL t_1.rows x_21).Used), .int .u64 ((rdL t_1.rows x_21).Seq), .int .i64 ((rdL t_1.rows x_21).Reply.Err), .int .u64 ((rdL t_1.rows x_21).Reply.Num), .int .u64 ((rdL t_1.rows x_21).Reply.Extra)]⟩, ⟨1, b_2, [.int .u64 t_1.now, .int .u64 t_1.next, .slice A_3 t_1.rows.length c_4]⟩]) (B' := [Ow 4 Kd.u8 A_29 c_30 r_28.b, Ow 2 kT_session_Row A_3 c_4 t_1.rows]) (ks := [1, 29, 30, 31, 35, 37, 38, 40, 41, 43, 48, 52, 56]) (by kernel_rfl) (by kernel_rfl) (by kernel_rfl) ?_
      refine OpTo.goF (i := 9) (by kernel_rfl) (hk := [1]) (bk := []) (GoO.call rfl (by kernel_rfl) (by kernel_rfl) (pack_Writer_Num_ok n r_28 ((rdL t_1.rows x_21).Seq) b_6 A_29 c_30) [[0], [3], [4]] [(3, 1), (4, 2)] [(1, 0)] [(2, 0)] (hks := [1, 2]) (bks := [1]) (by kernel_rfl) (by kernel_rfl) (by kernel_rfl) (.inl rfl) rfl rfl (by kernel_rfl) (by kernel_rfl) _ (fun _ _ => rfl) _ _ (fun _ _ => rfl) (fun _ _ => rfl) (fun _ _ => by kernel_rfl) (fun _ _ => by kernel_rfl) (fun r_31 x_46 => ⟨rfl, rfl, ?_⟩))
      obtain ⟨A_32, c_33⟩ := x_46
      refine GoF.shape (env' := [(1, .pointer (some ⟨b_6, 0, none⟩)), (29, .slice A_3 t_1.rows.length c_4), (30, .int .i64 (t_1.rows.length : Int)), (31, .int .i64 x_21), (35, .pointer (some ⟨b_6, 0, none⟩)), (37, .int .u64 ((rdL t_1.rows x_21).Id)), (38, .pointer (some ⟨b_6, 0, none⟩)), (40, .int .u64 ((rdL t_1.rows x_21).Used)), (41, .pointer (some ⟨b_6, 0, none⟩)), (43, .int .u64 ((rdL t_1.rows x_21).Seq)), (44, .pointer (some ⟨b_6, 0, none⟩)), (48, .int .u64 (wu64 ((rdL t_1.rows x_21).Reply.Err))), (52, .int .u64 ((rdL t_1.rows x_21).Reply.Num)), (56, .int .u64 ((rdL t_1.rows x_21).Reply.Extra))]) (H' := [⟨3, b_6, [.slice A_32 r_31.b.length c_33]⟩, ⟨40, b_24, [.int .u64 ((rdL t_1.rows x_21).Id), .int .u64 ((rdL t_1.rows x_21).Used), .int .u64 ((rdL t_1.rows x_21).Seq), .int .i64 ((rdL t_1.rows x_21).Reply.Err), .int .u64 ((rdL t_1.rows x_21).Reply.Num), .int .u64 ((rdL t_1.rows x_21).Reply.Extra)]⟩, ⟨1, b_2, [.int .u64 t_1.now, .int .u64 t_1.next, .slice A_3 t_1.rows.length c_4]⟩]) (B' := [Ow 4 Kd.u8 A_32 c_33 r_31.b, Ow 2 kT_session_Row A_3 c_4 t_1.rows]) (ks := [1, 29, 30, 31, 35, 37, 38, 40, 41, 43, 44, 48, 52, 56]) (by kernel_rfl) (by kernel_rfl) (by kernel_rfl) ?_
      refine OpTo.goF (i := 14) (by kernel_rfl) (hk := [1]) (bk := []) (GoO.call rfl (by kernel_rfl) (by kernel_rfl) (pack_Writer_Num_ok n r_31 (wu64 ((rdL t_1.rows x_21).Reply.Err)) b_6 A_32 c_33) [[0], [3], [4]] [(3, 1), (4, 2)] [(1, 0)] [(2, 0)] (hks := [1, 2]) (bks := [1]) (by kernel_rfl) (by kernel_rfl) (by kernel_rfl) (.inl rfl) rfl rfl (by kernel_rfl) (by kernel_rfl) _ (fun _ _ => rfl) _ _ (fun _ _ => rfl) (fun _ _ => rfl) (fun _ _ => by kernel_rfl) (fun _ _ => by kernel_rfl) (fun r_34 x_45 => ⟨rfl, rfl, ?_⟩))
      obtain ⟨A_35, c_36⟩ := x_45
      refine GoF.shape (env' := [(1, .pointer (some ⟨b_6, 0, none⟩)), (29, .slice A_3 t_1.rows.length c_4), (30, .int .i64 (t_1.rows.length : Int)), (31, .int .i64 x_21), (35, .pointer (some ⟨b_6, 0, none⟩)), (37, .int .u64 ((rdL t_1.rows x_21).Id)), (38, .pointer (some ⟨b_6, 0, none⟩)), (40, .int .u64 ((rdL t_1.rows x_21).Used)), (41, .pointer (some ⟨b_6, 0, none⟩)), (43, .int .u64 ((rdL t_1.rows x_21).Seq)), (44, .pointer (some ⟨b_6, 0, none⟩)), (48, .int .u64 (wu64 ((rdL t_1.rows x_21).Reply.Err))), (49, .pointer (some ⟨b_6, 0, none⟩)), (52, .int .u64 ((rdL t_1.rows x_21).Reply.Num)), (56, .int .u64 ((rdL t_1.rows x_21).Reply.Extra))]) (H' := [⟨3, b_6, [.slice A_35 r_34.b.length c_36]⟩, ⟨40, b_24, [.int .u64 ((rdL t_1.rows x_21).Id), .int .u64 ((rdL t_1.rows x_21).Used), .int .u64 ((rdL t_1.rows x_21).Seq), .int .i64 ((rdL t_1.rows x_21).Reply.Err), .int .u64 ((rdL t_1.rows x_21).Reply.Num), .int .u64 ((rdL t_1.rows x_21).Reply.Extra)]⟩, ⟨1, b_2, [.int .u64 t_1.now, .int .u64 t_1.next, .slice A_3 t_1.rows.length c_4]⟩]) (B' := [Ow 4 Kd.u8 A_35 c_36 r_34.b, Ow 2 kT_session_Row A_3 c_4 t_1.rows]) (ks := [1, 29, 30, 31, 35, 37, 38, 40, 41, 43, 44, 48, 49, 52, 56]) (by kernel_rfl) (by kernel_rfl) (by kernel_rfl) ?_
      refine OpTo.goF (i := 18) (by kernel_rfl) (hk := [1]) (bk := []) (GoO.call rfl (by kernel_rfl) (by kernel_rfl) (pack_Writer_Num_ok n r_34 ((rdL t_1.rows x_21).Reply.Num) b_6 A_35 c_36) [[0], [3], [4]] [(3, 1), (4, 2)] [(1, 0)] [(2, 0)] (hks := [1, 2]) (bks := [1]) (by kernel_rfl) (by kernel_rfl) (by kernel_rfl) (.inl rfl) rfl rfl (by kernel_rfl) (by kernel_rfl) _ (fun _ _ => rfl) _ _ (fun _ _ => rfl) (fun _ _ => rfl) (fun _ _ => by kernel_rfl) (fun _ _ => by kernel_rfl) (fun r_37 x_44 => ⟨rfl, rfl, ?_⟩))
      obtain ⟨A_38, c_39⟩ := x_44
      refine GoF.shape (env' := [(1, .pointer (some ⟨b_6, 0, none⟩)), (29, .slice A_3 t_1.rows.length c_4), (30, .int .i64 (t_1.rows.length : Int)), (31, .int .i64 x_21), (35, .pointer (some ⟨b_6, 0, none⟩)), (37, .int .u64 ((rdL t_1.rows x_21).Id)), (38, .pointer (some ⟨b_6, 0, none⟩)), (40, .int .u64 ((rdL t_1.rows x_21).Used)), (41, .pointer (some ⟨b_6, 0, none⟩)), (43, .int .u64 ((rdL t_1.rows x_21).Seq)), (44, .pointer (some ⟨b_6, 0, none⟩)), (48, .int .u64 (wu64 ((rdL t_1.rows x_21).Reply.Err))), (49, .pointer (some ⟨b_6, 0, none⟩)), (52, .int .u64 ((rdL t_1.rows x_21).Reply.Num)), (53, .pointer (some ⟨b_6, 0, none⟩)), (56, .int .u64 ((rdL t_1.rows x_21).Reply.Extra))]) (H' := [⟨3, b_6, [.slice A_38 r_37.b.length c_39]⟩, ⟨40, b_24, [.int .u64 ((rdL t_1.rows x_21).Id), .int .u64 ((rdL t_1.rows x_21).Used), .int .u64 ((rdL t_1.rows x_21).Seq), .int .i64 ((rdL t_1.rows x_21).Reply.Err), .int .u64 ((rdL t_1.rows x_21).Reply.Num), .int .u64 ((rdL t_1.rows x_21).Reply.Extra)]⟩, ⟨1, b_2, [.int .u64 t_1.now, .int .u64 t_1.next, .slice A_3 t_1.rows.length c_4]⟩]) (B' := [Ow 4 Kd.u8 A_38 c_39 r_37.b, Ow 2 kT_session_Row A_3 c_4 t_1.rows]) (ks := [1, 29, 30, 31, 35, 37, 38, 40, 41, 43, 44, 48, 49, 52, 53, 56]) (by kernel_rfl) (by kernel_rfl) (by kernel_rfl) ?_
      refine OpTo.goF (i := 22) (by kernel_rfl) (hk := [1]) (bk := []) (GoO.call rfl (by kernel_rfl) (by kernel_rfl) (pack_Writer_Num_ok n r_37 ((rdL t_1.rows x_21).Reply.Extra) b_6 A_38 c_39) [[0], [3], [4]] [(3, 1), (4, 2)] [(1, 0)] [(2, 0)] (hks := [1, 2]) (bks := [1]) (by kernel_rfl) (by kernel_rfl) (by kernel_rfl) (.inl rfl) rfl rfl (by kernel_rfl) (by kernel_rfl) _ (fun _ _ => rfl) _ _ (fun _ _ => rfl) (fun _ _ => rfl) (fun _ _ => by kernel_rfl) (fun _ _ => by kernel_rfl) (fun r_40 x_43 => ⟨rfl, rfl, ?_⟩))
      obtain ⟨A_41, c_42⟩ := x_43
      refine GoF.shape (env' := [(1, .pointer (some ⟨b_6, 0, none⟩)), (29, .slice A_3 t_1.rows.length c_4), (30, .int .i64 (t_1.rows.length : Int)), (31, .int .i64 x_21), (35, .pointer (some ⟨b_6, 0, none⟩)), (37, .int .u64 ((rdL t_1.rows x_21).Id)), (38, .pointer (some ⟨b_6, 0, none⟩)), (40, .int .u64 ((rdL t_1.rows x_21).Used)), (41, .pointer (some ⟨b_6, 0, none⟩)), (43, .int .u64 ((rdL t_1.rows x_21).Seq)), (44, .pointer (some ⟨b_6, 0, none⟩)), (48, .int .u64 (wu64 ((rdL t_1.rows x_21).Reply.Err))), (49, .pointer (some ⟨b_6, 0, none⟩)), (52, .int .u64 ((rdL t_1.rows x_21).Reply.Num)), (53, .pointer (some ⟨b_6, 0, none⟩)), (56, .int .u64 ((rdL t_1.rows x_21).Reply.Extra)), (57, .pointer (some ⟨b_6, 0, none⟩))]) (H' := [⟨3, b_6, [.slice A_41 r_40.b.length c_42]⟩, ⟨40, b_24, [.int .u64 ((rdL t_1.rows x_21).Id), .int .u64 ((rdL t_1.rows x_21).Used), .int .u64 ((rdL t_1.rows x_21).Seq), .int .i64 ((rdL t_1.rows x_21).Reply.Err), .int .u64 ((rdL t_1.rows x_21).Reply.Num), .int .u64 ((rdL t_1.rows x_21).Reply.Extra)]⟩, ⟨1, b_2, [.int .u64 t_1.now, .int .u64 t_1.next, .slice A_3 t_1.rows.length c_4]⟩]) (B' := [Ow 4 Kd.u8 A_41 c_42 r_40.b, Ow 2 kT_session_Row A_3 c_4 t_1.rows]) (ks := [1, 29, 30, 31, 35, 37, 38, 40, 41, 43, 44, 48, 49, 52, 53, 56, 57]) (by kernel_rfl) (by kernel_rfl) (by kernel_rfl) ?_
      refine GoF.done (by kernel_rfl) ?_
      refine GoO.inBlock ?_
      refine GoO.region' (is := [0, 1]) c25_23e (by kernel_rfl) ?_
      refine GoO.exec (is := [0, 1]) (hs := [.p, .p]) (rest := []) (ks := [1, 29, 30, 31]) (env' := [(1, .pointer (some ⟨b_6, 0, none⟩)), (29, .slice A_3 t_1.rows.length c_4), (30, .int .i64 (t_1.rows.length : Int)), (31, .int .i64 (wi64 (x_21 + 1)))]) (H' := [⟨3, b_6, [.slice A_41 r_40.b.length c_42]⟩, ⟨40, b_24, [.int .u64 ((rdL t_1.rows x_21).Id), .int .u64 ((rdL t_1.rows x_21).Used), .int .u64 ((rdL t_1.rows x_21).Seq), .int .i64 ((rdL t_1.rows x_21).Reply.Err), .int .u64 ((rdL t_1.rows x_21).Reply.Num), .int .u64 ((rdL t_1.rows x_21).Reply.Extra)]⟩, ⟨1, b_2, [.int .u64 t_1.now, .int .u64 t_1.next, .slice A_3 t_1.rows.length c_4]⟩]) (ps := []) (by kernel_rfl) trivial ?_
      refine GoO.regionEnd ?_
      refine GoO.inLoop ?_
      exact GoO.sub (ks := [1, 29, 30, 31]) (hk := [0, 2]) (bk := [0, 1]) (by kernel_rfl) (by kernel_rfl) (by kernel_rfl) (ih0 r_40.b (wi64 (x_21 + 1)) A_41 c_42)
    · refine GoO.exit' c25_17e rfl ?_
      exact GoO.fin (hs := []) (ps := []) (hk := [0]) (bk := [0]) Try.func25 (⟨A_19, c_20⟩ : Option Addr × Nat) (by kernel_rfl) trivial (by kernel_rfl) (by kernel_rfl)
theorem session_Table_Write_ok (n : Nat) (t_1 : T_session_Table) (w_5 : T_pack_Writer) (b_2 : Nat) (A_3 : Option Addr) (c_4 : Nat) (b_6 : Nat) (A_7 : Option Addr) (c_8 : Nat) :
    Meets Try.prog 25 [.pointer (some ⟨b_2, 0, none⟩), .pointer (some ⟨b_6, 0, none⟩)] 4 [3, 4] [⟨1, b_2, [.int .u64 t_1.now, .int .u64 t_1.next, .slice A_3 t_1.rows.length c_4]⟩, ⟨3, b_6, [.slice A_7 w_5.b.length c_8]⟩] [Ow 2 kT_session_Row A_3 c_4 t_1.rows, Ow 4 Kd.u8 A_7 c_8 w_5.b] (session_Table_Write.f n t_1 w_5) (session_Table_Write.R b_2 A_3 c_4 b_6 A_7 c_8) := by
  refine Meets.of (c := c25_0) (n := 59) Try.func25 (by kernel_rfl) (by kernel_rfl) (by kernel_rfl) fun w0 S0 => ?_
  unfold session_Table_Write.f
  show GoO (session_Table_Write.cx b_2 A_3 c_4 b_6 A_7 c_8 w0 S0) [(0, .pointer (some ⟨b_2, 0, none⟩)), (1, .pointer (some ⟨b_6, 0, none⟩))] [⟨1, b_2, [.int .u64 t_1.now, .int .u64 t_1.next, .slice A_3 t_1.rows.length c_4]⟩, ⟨3, b_6, [.slice A_7 w_5.b.length c_8]⟩] [Ow 2 kT_session_Row A_3 c_4 t_1.rows, Ow 4 Kd.u8 A_7 c_8 w_5.b] [.code c25_0] _
  refine GoO.seq' c25_0e ?_
  refine GoO.seq' c25_1e ?_
  refine GoO.region' (is := [0, 1]) c25_2e (by kernel_rfl) ?_
  refine GoO.exec (is := [0, 1]) (hs := [.p, .p]) (rest := []) (ks := [0, 1, 7]) (env' := [(0, .pointer (some ⟨b_2, 0, none⟩)), (1, .pointer (some ⟨b_6, 0, none⟩)), (7, .bool false)]) (H' := [⟨1, b_2, [.int .u64 t_1.now, .int .u64 t_1.next, .slice A_3 t_1.rows.length c_4]⟩, ⟨3, b_6, [.slice A_7 w_5.b.length c_8]⟩]) (ps := []) (by kernel_rfl) trivial ?_
  refine GoO.regionEnd ?_
  refine GoO.condF c25_3e (by kernel_rfl) ?_
  refine GoO.skip' c25_5e ?_
  refine GoO.seq' c25_6e ?_
  refine GoO.draw c25_7e (by kernel_rfl) [] [⟨1, b_2, [.int .u64 t_1.now, .int .u64 t_1.next, .slice A_3 t_1.rows.length c_4]⟩] [] (n := 18) (by kernel_rfl) ?_
  simp only [List.replicate]
  refine GoF.take [0, 1, 2, 3, 4, 6, 7, 8, 9, 11, 12, 13, 14, 15, 16] [.p, .p, .p, .p, .b 0, .p, .p, .p, .b 0, .p, .p, .p, .b 0, .p, .p] (ks := [0, 1, 8, 12, 17, 24]) (fu := 3) (li := [true, true, true, true, true, false, true, true, true, true, false, true, true, true, true, true, true, false]) (env' := [(0, .pointer (some ⟨b_2, 0, none⟩)), (1, .pointer (some ⟨b_6, 0, none⟩)), (8, .pointer (some ⟨b_6, 0, none⟩)), (12, .int .u64 t_1.now), (17, .int .u64 t_1.next), (24, .int .u64 (wu64 (t_1.rows.length : Int)))]) (ps := [b_2 = b_2, b_2 = b_2, b_2 = b_2]) (hk := [0]) (bk := []) (by kernel_rfl) (And.intro rfl (And.intro rfl (And.intro rfl trivial))) rfl rfl ?_
  refine OpTo.goF (i := 5) (by kernel_rfl) (hk := [1]) (bk := []) (GoO.call rfl (by kernel_rfl) (by kernel_rfl) (pack_Writer_Num_ok n w_5 t_1.now b_6 A_7 c_8) [[0], [3], [4]] [(3, 1), (4, 2)] [(1, 1)] [(2, 1)] (hks := [0]) (bks := [0]) (by kernel_rfl) (by kernel_rfl) (by kernel_rfl) (.inl rfl) rfl rfl (by kernel_rfl) (by kernel_rfl) _ (fun _ _ => rfl) _ _ (fun _ _ => rfl) (fun _ _ => rfl) (fun _ _ => by kernel_rfl) (fun _ _ => by kernel_rfl) (fun r_9 x_51 => ⟨rfl, rfl, ?_⟩))
  obtain ⟨A_10, c_11⟩ := x_51
  refine GoF.shape (env' := [(0, .pointer (some ⟨b_2, 0, none⟩)), (1, .pointer (some ⟨b_6, 0, none⟩)), (8, .pointer (some ⟨b_6, 0, none⟩)), (12, .int .u64 t_1.now), (13, .pointer (some ⟨b_6, 0, none⟩)), (17, .int .u64 t_1.next), (24, .int .u64 (wu64 (t_1.rows.length : Int)))]) (H' := [⟨3, b_6, [.slice A_10 r_9.b.length c_11]⟩, ⟨1, b_2, [.int .u64 t_1.now, .int .u64 t_1.next, .slice A_3 t_1.rows.length c_4]⟩]) (B' := [Ow 4 Kd.u8 A_10 c_11 r_9.b, Ow 2 kT_session_Row A_3 c_4 t_1.rows]) (ks := [0, 1, 8, 12, 13, 17, 24]) (by kernel_rfl) (by kernel_rfl) (by kernel_rfl) ?_
  refine OpTo.goF (i := 10) (by kernel_rfl) (hk := [1]) (bk := []) (GoO.call rfl (by kernel_rfl) (by kernel_rfl) (pack_Writer_Num_ok n r_9 t_1.next b_6 A_10 c_11) [[0], [3], [4]] [(3, 1), (4, 2)] [(1, 0)] [(2, 0)] (hks := [1]) (bks := [1]) (by kernel_rfl) (by kernel_rfl) (by kernel_rfl) (.inl rfl) rfl rfl (by kernel_rfl) (by kernel_rfl) _ (fun _ _ => rfl) _ _ (fun _ _ => rfl) (fun _ _ => rfl) (fun _ _ => by kernel_rfl) (fun _ _ => by kernel_rfl) (fun r_12 x_50 => ⟨rfl, rfl, ?_⟩))
  obtain ⟨A_13, c_14⟩ := x_50
  refine GoF.shape (env' := [(0, .pointer (some ⟨b_2, 0, none⟩)), (1, .pointer (some ⟨b_6, 0, none⟩)), (8, .pointer (some ⟨b_6, 0, none⟩)), (12, .int .u64 t_1.now), (13, .pointer (some ⟨b_6, 0, none⟩)), (17, .int .u64 t_1.next), (18, .pointer (some ⟨b_6, 0, none⟩)), (24, .int .u64 (wu64 (t_1.rows.length : Int)))]) (H' := [⟨3, b_6, [.slice A_13 r_12.b.length c_14]⟩, ⟨1, b_2, [.int .u64 t_1.now, .int .u64 t_1.next, .slice A_3 t_1.rows.length c_4]⟩]) (B' := [Ow 4 Kd.u8 A_13 c_14 r_12.b, Ow 2 kT_session_Row A_3 c_4 t_1.rows]) (ks := [0, 1, 8, 12, 13, 17, 18, 24]) (by kernel_rfl) (by kernel_rfl) (by kernel_rfl) ?_
  refine OpTo.goF (i := 17) (by kernel_rfl) (hk := [1]) (bk := []) (GoO.call rfl (by kernel_rfl) (by kernel_rfl) (pack_Writer_Num_ok n r_12 (wu64 (t_1.rows.length : Int)) b_6 A_13 c_14) [[0], [3], [4]] [(3, 1), (4, 2)] [(1, 0)] [(2, 0)] (hks := [1]) (bks := [1]) (by kernel_rfl) (by kernel_rfl) (by kernel_rfl) (.inl rfl) rfl rfl (by kernel_rfl) (by kernel_rfl) _ (fun _ _ => rfl) _ _ (fun _ _ => rfl) (fun _ _ => rfl) (fun _ _ => by kernel_rfl) (fun _ _ => by kernel_rfl) (fun r_15 x_49 => ⟨rfl, rfl, ?_⟩))
  obtain ⟨A_16, c_17⟩ := x_49
  refine GoF.shape (env' := [(0, .pointer (some ⟨b_2, 0, none⟩)), (1, .pointer (some ⟨b_6, 0, none⟩)), (8, .pointer (some ⟨b_6, 0, none⟩)), (12, .int .u64 t_1.now), (13, .pointer (some ⟨b_6, 0, none⟩)), (17, .int .u64 t_1.next), (18, .pointer (some ⟨b_6, 0, none⟩)), (24, .int .u64 (wu64 (t_1.rows.length : Int))), (25, .pointer (some ⟨b_6, 0, none⟩))]) (H' := [⟨3, b_6, [.slice A_16 r_15.b.length c_17]⟩, ⟨1, b_2, [.int .u64 t_1.now, .int .u64 t_1.next, .slice A_3 t_1.rows.length c_4]⟩]) (B' := [Ow 4 Kd.u8 A_16 c_17 r_15.b, Ow 2 kT_session_Row A_3 c_4 t_1.rows]) (ks := [0, 1, 8, 12, 13, 17, 18, 24, 25]) (by kernel_rfl) (by kernel_rfl) (by kernel_rfl) ?_
  refine GoF.done (by kernel_rfl) ?_
  refine GoO.seq' c25_8e ?_
  refine GoO.region' (is := [0, 1, 2, 3, 4, 5]) c25_9e (by kernel_rfl) ?_
  refine GoO.exec (is := [0, 1, 2, 3, 4, 5]) (hs := [.p, .p, .p, .b 1, .p, .p]) (rest := []) (ks := [1, 29, 30, 31]) (env' := [(1, .pointer (some ⟨b_6, 0, none⟩)), (29, .slice A_3 t_1.rows.length c_4), (30, .int .i64 (t_1.rows.length : Int)), (31, .int .i64 0)]) (H' := [⟨3, b_6, [.slice A_16 r_15.b.length c_17]⟩, ⟨1, b_2, [.int .u64 t_1.now, .int .u64 t_1.next, .slice A_3 t_1.rows.length c_4]⟩]) (ps := [b_2 = b_2]) (by kernel_rfl) (And.intro rfl trivial) ?_
  refine GoO.regionEnd ?_
  refine GoO.block' c25_10e ?_
  refine GoO.loop' c25_11e ?_
  exact GoO.sub (ks := [1, 29, 30, 31]) (hk := [0, 1]) (bk := [0, 1]) (by kernel_rfl) (by kernel_rfl) (by kernel_rfl) (session_Table_Write_l0_ok n t_1 b_2 A_3 c_4 b_6 A_7 c_8 w0 S0 n r_15.b 0 A_16 c_17)

/-! (*tontine/pack.Writer).Bytes -/
noncomputable def c29_0 : Code := bodyOf Try.f29
noncomputable def c29_1 : Code := cdL c29_0
noncomputable def c29_2 : Code := cdR c29_0
noncomputable def c29_3 : Code := cdL c29_2
noncomputable def c29_4 : Code := cdL c29_3
noncomputable def c29_5 : Code := cdR c29_3
noncomputable def c29_9 : Code := cdR c29_5
noncomputable def c29_10 : Code := cdR c29_2
noncomputable def c29_11 : Code := cdL c29_10
noncomputable def c29_12 : Code := cdR c29_10
noncomputable def c29_6 : Code := cdL c29_5
noncomputable def r29_1 : Array Oper := cdO c29_1
noncomputable def r29_4 : Array Oper := cdO c29_4
noncomputable def r29_11 : Array Oper := cdO c29_11
theorem c29_0e : c29_0 = .seq c29_1 c29_2 := by kernel_rfl
theorem c29_1e : c29_1 = .region 0 r29_1 false := by kernel_rfl
theorem c29_2e : c29_2 = .seq c29_3 c29_10 := by kernel_rfl
theorem c29_3e : c29_3 = .seq c29_4 c29_5 := by kernel_rfl
theorem c29_4e : c29_4 = .region 1 r29_4 false := by kernel_rfl
theorem c29_5e : c29_5 = .cond (cdC c29_5) c29_6 c29_9 := by kernel_rfl
theorem c29_9e : c29_9 = .skip := by kernel_rfl
theorem c29_10e : c29_10 = .seq c29_11 c29_12 := by kernel_rfl
theorem c29_11e : c29_11 = .region 3 r29_11 false := by kernel_rfl
theorem c29_12e : c29_12 = .ret := by kernel_rfl
noncomputable def pack_Writer_Bytes.R (b_2 : Nat) (A_3 : Option Addr) (c_4 : Nat) : Pst (List UInt8) where
  ε := Unit
  v := fun r x => .string (bs r)
  H := fun r x => []
  B := fun r x => []
noncomputable def pack_Writer_Bytes.cx (b_2 : Nat) (A_3 : Option Addr) (c_4 : Nat) (w0 : World) (S0 : Fam) : Cx (List UInt8) := ⟨Try.prog, 29, Try.f29, 10, w0, S0, [], 2, pack_Writer_Bytes.R b_2 A_3 c_4⟩
theorem pack_Writer_Bytes_ok (n : Nat) (w_1 : T_pack_Writer) (b_2 : Nat) (A_3 : Option Addr) (c_4 : Nat) :
    Meets Try.prog 29 [.pointer (some ⟨b_2, 0, none⟩)] 2 [] [⟨1, b_2, [.slice A_3 w_1.b.length c_4]⟩] [Ow 2 Kd.u8 A_3 c_4 w_1.b] (pack_Writer_Bytes.f n w_1) (pack_Writer_Bytes.R b_2 A_3 c_4) := by
  refine Meets.of (c := c29_0) (n := 10) Try.func29 (by kernel_rfl) (by kernel_rfl) (by kernel_rfl) fun w0 S0 => ?_
  unfold pack_Writer_Bytes.f
  show GoO (pack_Writer_Bytes.cx b_2 A_3 c_4 w0 S0) [(0, .pointer (some ⟨b_2, 0, none⟩))] [⟨1, b_2, [.slice A_3 w_1.b.length c_4]⟩] [Ow 2 Kd.u8 A_3 c_4 w_1.b] [.code c29_0] _
  refine GoO.seq' c29_0e ?_
  refine GoO.region' (is := [0]) c29_1e (by kernel_rfl) ?_
  refine GoO.exec (is := [0]) (hs := [.p]) (rest := []) (ks := [0]) (env' := [(0, .pointer (some ⟨b_2, 0, none⟩))]) (H' := [⟨1, b_2, [.slice A_3 w_1.b.length c_4]⟩]) (ps := []) (by kernel_rfl) trivial ?_
  refine GoO.regionEnd ?_
  refine GoO.seq' c29_2e ?_
  refine GoO.seq' c29_3e ?_
  refine GoO.region' (is := [0, 1]) c29_4e (by kernel_rfl) ?_
  refine GoO.exec (is := [0, 1]) (hs := [.p, .p]) (rest := []) (ks := [0, 4]) (env' := [(0, .pointer (some ⟨b_2, 0, none⟩)), (4, .bool false)]) (H' := [⟨1, b_2, [.slice A_3 w_1.b.length c_4]⟩]) (ps := []) (by kernel_rfl) trivial ?_
  refine GoO.regionEnd ?_
  refine GoO.condF c29_5e (by kernel_rfl) ?_
  refine GoO.skip' c29_9e ?_
  refine GoO.seq' c29_10e ?_
  refine GoO.region' (is := [0, 1, 2, 3, 4, 5]) c29_11e (by kernel_rfl) ?_
  refine GoO.exec (is := [0, 1, 2, 3]) (hs := [.p, .p, .p, .b 0]) (rest := [4, 5]) (ks := [8]) (env' := [(8, .slice A_3 w_1.b.length c_4)]) (H' := [⟨1, b_2, [.slice A_3 w_1.b.length c_4]⟩]) (ps := [b_2 = b_2]) (by kernel_rfl) (And.intro rfl trivial) ?_
  refine OpTo.go (GoO.toStr (e := 5) (A := A_3) (c := c_4) (xs := w_1.b) (j := 0) rfl (by kernel_rfl) (by kernel_rfl) (by kernel_rfl) (by kernel_rfl) rfl Reads.own rfl rfl ?_)
  refine GoO.exec (is := [5]) (hs := [.p]) (rest := []) (ks := [2]) (env' := [(2, .string (bs w_1.b))]) (H' := [⟨1, b_2, [.slice A_3 w_1.b.length c_4]⟩]) (ps := []) (by kernel_rfl) trivial ?_
  refine GoO.regionEnd ?_
  exact GoO.ret' (h := c29_12e) (hs := []) (ps := []) (hk := []) (bk := []) Try.func29 () (by kernel_rfl) trivial (by kernel_rfl) (by kernel_rfl)

/-! tontine/pack.From -/
noncomputable def c34_0 : Code := bodyOf Try.f34
noncomputable def c34_1 : Code := cdL c34_0
noncomputable def c34_2 : Code := cdR c34_0
noncomputable def c34_3 : Code := cdL c34_2
noncomputable def c34_4 : Code := cdR c34_2
noncomputable def r34_1 : Array Oper := cdO c34_1
noncomputable def r34_3 : Array Oper := cdO c34_3
theorem c34_0e : c34_0 = .seq c34_1 c34_2 := by kernel_rfl
theorem c34_1e : c34_1 = .region 0 r34_1 false := by kernel_rfl
theorem c34_2e : c34_2 = .seq c34_3 c34_4 := by kernel_rfl
theorem c34_3e : c34_3 = .region 1 r34_3 false := by kernel_rfl
theorem c34_4e : c34_4 = .ret := by kernel_rfl
noncomputable def pack_From.R : Pst T_pack_Reader where
  ε := Nat
  v := fun r x => .pointer (some ⟨x, 0, none⟩)
  H := fun r x => [⟨1, x, [.string (bs r.s), .bool r.bad]⟩]
  B := fun r x => []
noncomputable def pack_From.cx (w0 : World) (S0 : Fam) : Cx T_pack_Reader := ⟨Try.prog, 34, Try.f34, 6, w0, S0, [], 0, pack_From.R⟩
theorem pack_From_ok (n : Nat) (s_1 : (List UInt8)) :
    Meets Try.prog 34 [.string (bs s_1)] 0 [] [] [] (pack_From.f n s_1) (pack_From.R) := by
  refine Meets.of (c := c34_0) (n := 6) Try.func34 (by kernel_rfl) (by kernel_rfl) (by kernel_rfl) fun w0 S0 => ?_
  unfold pack_From.f
  show GoO (pack_From.cx w0 S0) [(0, .string (bs s_1))] [] [] [.code c34_0] _
  refine GoO.seq' c34_0e ?_
  refine GoO.region' (is := [0]) c34_1e (by kernel_rfl) ?_
  refine GoO.exec (is := [0]) (hs := [.p]) (rest := []) (ks := [0]) (env' := [(0, .string (bs s_1))]) (H' := []) (ps := []) (by kernel_rfl) trivial ?_
  refine GoO.regionEnd ?_
  refine GoO.seq' c34_2e ?_
  refine GoO.region' (is := [0, 1, 2, 3]) c34_3e (by kernel_rfl) ?_
  refine GoO.exec (is := [0, 1]) (hs := [.p, .p]) (rest := [2, 3]) (ks := [4]) (env' := [(4, .agg ⟨[.string (bs s_1), .bool false]⟩)]) (H' := []) (ps := []) (by kernel_rfl) trivial ?_
  refine OpTo.go (GoO.new rfl 40 (cs := [.string (bs s_1), .bool false]) (by kernel_rfl) _ (fun _ => rfl) (fun b_2 => ?_))
  refine GoO.exec (is := [3]) (hs := [.p]) (rest := []) (ks := [2]) (env' := [(2, .pointer (some ⟨b_2, 0, none⟩))]) (H' := [⟨40, b_2, [.string (bs s_1), .bool false]⟩]) (ps := []) (by kernel_rfl) trivial ?_
  refine GoO.regionEnd ?_
  refine GoO.retagB (t := 40) (u := 1) (j := 0) (hk := []) (bk := []) rfl rfl rfl rfl rfl rfl (by kernel_rfl) (by kernel_rfl) ?_
  exact GoO.ret' (h := c34_4e) (hs := []) (ps := []) (hk := [0]) (bk := []) Try.func34 b_2 (by kernel_rfl) trivial (by kernel_rfl) (by kernel_rfl)

/-! (*tontine/pack.Reader).fail -/
noncomputable def c59_0 : Code := bodyOf Try.f59
noncomputable def c59_1 : Code := cdL c59_0
noncomputable def c59_2 : Code := cdR c59_0
noncomputable def c59_3 : Code := cdL c59_2
noncomputable def c59_4 : Code := cdL c59_3
noncomputable def c59_5 : Code := cdR c59_3
noncomputable def c59_6 : Code := cdL c59_5
noncomputable def c59_8 : Code := cdR c59_2
noncomputable def c59_9 : Code := cdL c59_8
noncomputable def c59_10 : Code := cdR c59_8
noncomputable def c59_7 : Code := cdR c59_5
noncomputable def r59_1 : Array Oper := cdO c59_1
noncomputable def r59_4 : Array Oper := cdO c59_4
noncomputable def r59_6 : Array Oper := cdO c59_6
noncomputable def r59_9 : Array Oper := cdO c59_9
theorem c59_0e : c59_0 = .seq c59_1 c59_2 := by kernel_rfl
theorem c59_1e : c59_1 = .region 0 r59_1 false := by kernel_rfl
theorem c59_2e : c59_2 = .seq c59_3 c59_8 := by kernel_rfl
theorem c59_3e : c59_3 = .seq c59_4 c59_5 := by kernel_rfl
theorem c59_4e : c59_4 = .region 1 r59_4 false := by kernel_rfl
theorem c59_5e : c59_5 = .cond (cdC c59_5) c59_6 c59_7 := by kernel_rfl
theorem c59_6e : c59_6 = .region 2 r59_6 false := by kernel_rfl
theorem c59_8e : c59_8 = .seq c59_9 c59_10 := by kernel_rfl
theorem c59_9e : c59_9 = .region 3 r59_9 false := by kernel_rfl
theorem c59_10e : c59_10 = .ret := by kernel_rfl
theorem c59_7e : c59_7 = .skip := by kernel_rfl
noncomputable def pack_Reader_fail.R (b_2 : Nat) : Pst (Int × T_pack_Reader) where
  ε := Unit
  v := fun r x => .int .u64 r.1
  H := fun r x => [⟨1, b_2, [.string (bs r.2.s), .bool r.2.bad]⟩]
  B := fun r x => []
noncomputable def pack_Reader_fail.cx (b_2 : Nat) (w0 : World) (S0 : Fam) : Cx (Int × T_pack_Reader) := ⟨Try.prog, 59, Try.f59, 11, w0, S0, [1], 1, pack_Reader_fail.R b_2⟩
theorem pack_Reader_fail_ok (n : Nat) (r_1 : T_pack_Reader) (b_2 : Nat) :
    Meets Try.prog 59 [.pointer (some ⟨b_2, 0, none⟩)] 1 [1] [⟨1, b_2, [.string (bs r_1.s), .bool r_1.bad]⟩] [] (pack_Reader_fail.f n r_1) (pack_Reader_fail.R b_2) := by
  refine Meets.of (c := c59_0) (n := 11) Try.func59 (by kernel_rfl) (by kernel_rfl) (by kernel_rfl) fun w0 S0 => ?_
  unfold pack_Reader_fail.f
  show GoO (pack_Reader_fail.cx b_2 w0 S0) [(0, .pointer (some ⟨b_2, 0, none⟩))] [⟨1, b_2, [.string (bs r_1.s), .bool r_1.bad]⟩] [] [.code c59_0] _
  refine GoO.seq' c59_0e ?_
  refine GoO.region' (is := [0]) c59_1e (by kernel_rfl) ?_
  refine GoO.exec (is := [0]) (hs := [.p]) (rest := []) (ks := [0]) (env' := [(0, .pointer (some ⟨b_2, 0, none⟩))]) (H' := [⟨1, b_2, [.string (bs r_1.s), .bool r_1.bad]⟩]) (ps := []) (by kernel_rfl) trivial ?_
  refine GoO.regionEnd ?_
  refine GoO.seq' c59_2e ?_
  refine GoO.seq' c59_3e ?_
  refine GoO.region' (is := [0, 1]) c59_4e (by kernel_rfl) ?_
  refine GoO.exec (is := [0, 1]) (hs := [.p, .p]) (rest := []) (ks := [0, 4]) (env' := [(0, .pointer (some ⟨b_2, 0, none⟩)), (4, .bool true)]) (H' := [⟨1, b_2, [.string (bs r_1.s), .bool r_1.bad]⟩]) (ps := []) (by kernel_rfl) trivial ?_
  refine GoO.regionEnd ?_
  refine GoO.condT c59_5e (by kernel_rfl) ?_
  refine GoO.region' (is := [0, 1, 2, 3, 4, 5, 6, 7]) c59_6e (by kernel_rfl) ?_
  refine GoO.exec (is := [0, 1, 2, 3, 4, 5, 6, 7]) (hs := [.p, .p, .p, .p, .b 0, .p, .p, .b 0]) (rest := []) (ks := []) (env' := []) (H' := [⟨1, b_2, [.string (bs []), .bool true]⟩]) (ps := [b_2 = b_2, b_2 = b_2]) (by kernel_rfl) (And.intro rfl (And.intro rfl trivial)) ?_
  refine GoO.regionEnd ?_
  refine GoO.seq' c59_8e ?_
  refine GoO.region' (is := [0]) c59_9e (by kernel_rfl) ?_
  refine GoO.exec (is := [0]) (hs := [.p]) (rest := []) (ks := [2]) (env' := [(2, .int .u64 0)]) (H' := [⟨1, b_2, [.string (bs []), .bool true]⟩]) (ps := []) (by kernel_rfl) trivial ?_
  refine GoO.regionEnd ?_
  exact GoO.ret' (h := c59_10e) (hs := []) (ps := []) (hk := [0]) (bk := []) Try.func59 () (by kernel_rfl) trivial (by kernel_rfl) (by kernel_rfl)

/-! (*tontine/pack.Reader).Num -/
noncomputable def c49_0 : Code := bodyOf Try.f49
noncomputable def c49_1 : Code := cdL c49_0
noncomputable def c49_2 : Code := cdR c49_0
noncomputable def c49_3 : Code := cdL c49_2
noncomputable def c49_4 : Code := cdL c49_3
noncomputable def c49_5 : Code := cdR c49_3
noncomputable def c49_6 : Code := cdL c49_5
noncomputable def c49_7 : Code := cdL c49_6
noncomputable def c49_8 : Code := cdR c49_6
noncomputable def c49_9 : Code := cdR c49_5
noncomputable def c49_10 : Code := cdR c49_2
noncomputable def c49_11 : Code := cdL c49_10
noncomputable def c49_12 : Code := cdR c49_10
noncomputable def c49_13 : Code := cdL c49_12
noncomputable def c49_14 : Code := cdL c49_13
noncomputable def c49_15 : Code := cdR c49_13
noncomputable def c49_16 : Code := cdL c49_15
noncomputable def c49_17 : Code := cdL c49_16
noncomputable def c49_18 : Code := cdR c49_16
noncomputable def c49_19 : Code := cdR c49_15
noncomputable def c49_20 : Code := cdR c49_12
noncomputable def c49_21 : Code := cdL c49_20
noncomputable def c49_22 : Code := cdR c49_20
noncomputable def c49_23 : Code := cdL c49_22
noncomputable def c49_24 : Code := cdL c49_23
noncomputable def c49_25 : Code := cdR c49_23
noncomputable def c49_26 : Code := cdL c49_25
noncomputable def c49_27 : Code := cdL c49_26
noncomputable def c49_28 : Code := cdL c49_27
noncomputable def c49_29 : Code := cdL c49_28
noncomputable def c49_30 : Code := cdR c49_28
noncomputable def c49_31 : Code := cdL c49_30
noncomputable def c49_32 : Code := cdR c49_30
noncomputable def c49_33 : Code := cdR c49_27
noncomputable def c49_34 : Code := cdL c49_33
noncomputable def c49_35 : Code := cdL c49_34
noncomputable def c49_36 : Code := cdR c49_33
noncomputable def c49_37 : Code := cdR c49_22
noncomputable def c49_38 : Code := cdL c49_37
noncomputable def c49_39 : Code := cdR c49_37
noncomputable def c49_40 : Code := cdL c49_39
noncomputable def c49_41 : Code := cdR c49_39
noncomputable def r49_1 : Array Oper := cdO c49_1
noncomputable def r49_4 : Array Oper := cdO c49_4
noncomputable def r49_7 : Array Oper := cdO c49_7
noncomputable def r49_11 : Array Oper := cdO c49_11
noncomputable def r49_14 : Array Oper := cdO c49_14
noncomputable def r49_17 : Array Oper := cdO c49_17
noncomputable def r49_21 : Array Oper := cdO c49_21
noncomputable def r49_24 : Array Oper := cdO c49_24
noncomputable def r49_29 : Array Oper := cdO c49_29
noncomputable def r49_35 : Array Oper := cdO c49_35
noncomputable def r49_36 : Array Oper := cdO c49_36
noncomputable def r49_38 : Array Oper := cdO c49_38
noncomputable def r49_40 : Array Oper := cdO c49_40
theorem c49_0e : c49_0 = .seq c49_1 c49_2 := by kernel_rfl
theorem c49_1e : c49_1 = .region 0 r49_1 false := by kernel_rfl
theorem c49_2e : c49_2 = .seq c49_3 c49_10 := by kernel_rfl
theorem c49_3e : c49_3 = .seq c49_4 c49_5 := by kernel_rfl
theorem c49_4e : c49_4 = .region 1 r49_4 false := by kernel_rfl
theorem c49_5e : c49_5 = .cond (cdC c49_5) c49_6 c49_9 := by kernel_rfl
theorem c49_6e : c49_6 = .seq c49_7 c49_8 := by kernel_rfl
theorem c49_7e : c49_7 = .region 2 r49_7 false := by kernel_rfl
theorem c49_8e : c49_8 = .ret := by kernel_rfl
theorem c49_9e : c49_9 = .skip := by kernel_rfl
theorem c49_10e : c49_10 = .seq c49_11 c49_12 := by kernel_rfl
theorem c49_11e : c49_11 = .region 3 r49_11 false := by kernel_rfl
theorem c49_12e : c49_12 = .seq c49_13 c49_20 := by kernel_rfl
theorem c49_13e : c49_13 = .seq c49_14 c49_15 := by kernel_rfl
theorem c49_14e : c49_14 = .region 4 r49_14 false := by kernel_rfl
theorem c49_15e : c49_15 = .cond (cdC c49_15) c49_16 c49_19 := by kernel_rfl
theorem c49_16e : c49_16 = .seq c49_17 c49_18 := by kernel_rfl
theorem c49_17e : c49_17 = .region 5 r49_17 false := by kernel_rfl
theorem c49_18e : c49_18 = .ret := by kernel_rfl
theorem c49_19e : c49_19 = .skip := by kernel_rfl
theorem c49_20e : c49_20 = .seq c49_21 c49_22 := by kernel_rfl
theorem c49_21e : c49_21 = .region 6 r49_21 false := by kernel_rfl
theorem c49_22e : c49_22 = .seq c49_23 c49_37 := by kernel_rfl
theorem c49_23e : c49_23 = .seq c49_24 c49_25 := by kernel_rfl
theorem c49_24e : c49_24 = .region 7 r49_24 false := by kernel_rfl
theorem c49_25e : c49_25 = .block 0 c49_26 := by kernel_rfl
theorem c49_26e : c49_26 = .loop c49_27 := by kernel_rfl
theorem c49_27e : c49_27 = .seq c49_28 c49_33 := by kernel_rfl
theorem c49_28e : c49_28 = .seq c49_29 c49_30 := by kernel_rfl
theorem c49_29e : c49_29 = .region 8 r49_29 false := by kernel_rfl
theorem c49_30e : c49_30 = .cond (cdC c49_30) c49_31 c49_32 := by kernel_rfl
theorem c49_31e : c49_31 = .skip := by kernel_rfl
theorem c49_32e : c49_32 = .exit 0 := by kernel_rfl
theorem c49_33e : c49_33 = .seq c49_34 c49_36 := by kernel_rfl
theorem c49_34e : c49_34 = .block 1 c49_35 := by kernel_rfl
theorem c49_35e : c49_35 = .region 10 r49_35 false := by kernel_rfl
theorem c49_36e : c49_36 = .region 9 r49_36 false := by kernel_rfl
theorem c49_37e : c49_37 = .seq c49_38 c49_39 := by kernel_rfl
theorem c49_38e : c49_38 = .region 11 r49_38 false := by kernel_rfl
theorem c49_39e : c49_39 = .seq c49_40 c49_41 := by kernel_rfl
theorem c49_40e : c49_40 = .region 12 r49_40 false := by kernel_rfl
theorem c49_41e : c49_41 = .ret := by kernel_rfl
noncomputable def pack_Reader_Num.R (b_2 : Nat) : Pst (Int × T_pack_Reader) where
  ε := Unit
  v := fun r x => .int .u64 r.1
  H := fun r x => [⟨1, b_2, [.string (bs r.2.s), .bool r.2.bad]⟩]
  B := fun r x => []
noncomputable def pack_Reader_Num.cx (b_2 : Nat) (w0 : World) (S0 : Fam) : Cx (Int × T_pack_Reader) := ⟨Try.prog, 49, Try.f49, 75, w0, S0, [1], 1, pack_Reader_Num.R b_2⟩
theorem pack_Reader_Num_l0_ok (n : Nat) (r_1 : T_pack_Reader) (b_2 : Nat) (w0 : World) (S0 : Fam) :
    ∀ (k : Nat) (x_15 : Int) (i_16 : Int), GoO (pack_Reader_Num.cx b_2 w0 S0) [(0, .pointer (some ⟨b_2, 0, none⟩)), (3, .int .i64 (wi64 ((rdB r_1.s 0).toNat : Int))), (4, .int .u64 x_15), (5, .int .i64 i_16)] [⟨1, b_2, [.string (bs r_1.s), .bool r_1.bad]⟩] [] [.code c49_27, .inLoop c49_27, .inBlock 0, .code c49_37] (pack_Reader_Num.l0 n r_1 k x_15 i_16) := by
  intro k
  induction k with
  | zero => intros; rw [pack_Reader_Num.l0.eq_1]; exact GoO.stop
  | succ k ih0 =>
    intro x_15 i_16
    rw [pack_Reader_Num.l0.eq_2]
    refine GoO.seq' c49_27e ?_
    refine GoO.seq' c49_28e ?_
    refine GoO.region' (is := [0, 1, 2]) c49_29e (by kernel_rfl) ?_
    refine GoO.exec (is := [0, 1, 2]) (hs := [.p, .p, .p]) (rest := []) (ks := [0, 3, 4, 5, 51]) (env' := [(0, .pointer (some ⟨b_2, 0, none⟩)), (3, .int .i64 (wi64 ((rdB r_1.s 0).toNat : Int))), (4, .int .u64 x_15), (5, .int .i64 i_16), (51, .bool (decide (i_16 ≤ (wi64 ((rdB r_1.s 0).toNat : Int)))))]) (H' := [⟨1, b_2, [.string (bs r_1.s), .bool r_1.bad]⟩]) (ps := []) (by kernel_rfl) trivial ?_
    refine GoO.regionEnd ?_
    refine GoO.ite' c49_30e (by kernel_rfl) (fun h17 => ?_) (fun h17 => ?_)
    · refine GoO.skip' c49_31e ?_
      refine GoO.seq' c49_33e ?_
      refine GoO.block' c49_34e ?_
      refine GoO.region' (is := [0, 1, 2, 3, 4, 5, 6, 7, 8, 9, 10]) c49_35e (by kernel_rfl) ?_
      refine GoO.guard (fun h18 => ?_)
      refine GoO.exec (is := [0, 1, 2, 3, 4, 5, 6, 7, 8, 9, 10]) (hs := [.p, .p, .p, .p, .p, .b 0, .p, .p, .p, .p, .p]) (rest := []) (ks := [0, 3, 4, 5]) (env' := [(0, .pointer (some ⟨b_2, 0, none⟩)), (3, .int .i64 (wi64 ((rdB r_1.s 0).toNat : Int))), (4, .int .u64 (bOr .u64 (shL .u64 x_15 8) (wu64 ((rdB r_1.s i_16).toNat : Int)))), (5, .int .i64 i_16)]) (H' := [⟨1, b_2, [.string (bs r_1.s), .bool r_1.bad]⟩]) (ps := [(0 : Int) ≤ 8, b_2 = b_2, (0 : Int) ≤ i_16, i_16 < (r_1.s.length : Int)]) (by kernel_rfl) (And.intro (by decide) (And.intro rfl (And.intro h18.1 (And.intro h18.2 trivial)))) ?_
      refine GoO.regionEnd ?_
      refine GoO.inBlock ?_
      refine GoO.region' (is := [0, 1, 2]) c49_36e (by kernel_rfl) ?_
      refine GoO.exec (is := [0, 1, 2]) (hs := [.p, .p, .p]) (rest := []) (ks := [0, 3, 4, 5]) (env' := [(0, .pointer (some ⟨b_2, 0, none⟩)), (3, .int .i64 (wi64 ((rdB r_1.s 0).toNat : Int))), (4, .int .u64 (bOr .u64 (shL .u64 x_15 8) (wu64 ((rdB r_1.s i_16).toNat : Int)))), (5, .int .i64 (wi64 (i_16 + 1)))]) (H' := [⟨1, b_2, [.string (bs r_1.s), .bool r_1.bad]⟩]) (ps := []) (by kernel_rfl) trivial ?_
      refine GoO.regionEnd ?_
      refine GoO.inLoop ?_
      exact GoO.sub (ks := [0, 3, 4, 5]) (hk := [0]) (bk := []) (by kernel_rfl) (by kernel_rfl) (by kernel_rfl) (ih0 (bOr .u64 (shL .u64 x_15 8) (wu64 ((rdB r_1.s i_16).toNat : Int))) (wi64 (i_16 + 1)))
    · refine GoO.exit' c49_32e rfl ?_
      refine GoO.seq' c49_37e ?_
      refine GoO.region' (is := [0, 1, 2, 3, 4, 5, 6, 7, 8, 9, 10]) c49_38e (by kernel_rfl) ?_
      refine GoO.guard (fun h19 => ?_)
      refine GoO.exec (is := [0, 1, 2, 3, 4, 5, 6, 7, 8, 9, 10]) (hs := [.p, .p, .p, .p, .b 0, .p, .p, .p, .p, .p, .b 0]) (rest := []) (ks := [4]) (env' := [(4, .int .u64 x_15)]) (H' := [⟨1, b_2, [.string (bs (r_1.s.drop (wi64 ((wi64 ((rdB r_1.s 0).toNat : Int)) + 1)).toNat)), .bool r_1.bad]⟩]) (ps := [b_2 = b_2, (0 : Int) ≤ (wi64 ((wi64 ((rdB r_1.s 0).toNat : Int)) + 1)), (wi64 ((wi64 ((rdB r_1.s 0).toNat : Int)) + 1)) ≤ (r_1.s.length : Int), b_2 = b_2]) (by kernel_rfl) (And.intro rfl (And.intro h19.1 (And.intro h19.2 (And.intro rfl trivial)))) ?_
      refine GoO.regionEnd ?_
      refine GoO.seq' c49_39e ?_
      refine GoO.region' (is := [0, 1]) c49_40e (by kernel_rfl) ?_
      refine GoO.exec (is := [0, 1]) (hs := [.p, .p]) (rest := []) (ks := [2]) (env' := [(2, .int .u64 x_15)]) (H' := [⟨1, b_2, [.string (bs (r_1.s.drop (wi64 ((wi64 ((rdB r_1.s 0).toNat : Int)) + 1)).toNat)), .bool r_1.bad]⟩]) (ps := []) (by kernel_rfl) trivial ?_
      refine GoO.regionEnd ?_
      exact GoO.ret' (h := c49_41e) (hs := []) (ps := []) (hk := [0]) (bk := []) Try.func49 () (by kernel_rfl) trivial (by kernel_rfl) (by kernel_rfl)
theorem pack_Reader_Num_j0_ok (n : Nat) (r_1 : T_pack_Reader) (b_2 : Nat) (w0 : World) (S0 : Fam) (b_11 : Bool) :
    GoO (pack_Reader_Num.cx b_2 w0 S0) [(0, .pointer (some ⟨b_2, 0, none⟩)), (3, .int .i64 (wi64 ((rdB r_1.s 0).toNat : Int))), (46, .bool b_11)] [⟨1, b_2, [.string (bs r_1.s), .bool r_1.bad]⟩] [] [.code c49_15, .code c49_20] (pack_Reader_Num.j0 n r_1 b_11) := by
  unfold pack_Reader_Num.j0
  refine GoO.ite' c49_15e (by kernel_rfl) (fun h12 => ?_) (fun h12 => ?_)
  · refine GoO.seq' c49_16e ?_
    refine GoO.region' (is := [0, 1, 2]) c49_17e (by kernel_rfl) ?_
    refine GoO.exec (is := [0]) (hs := [.p]) (rest := [1, 2]) (ks := [47]) (env' := [(47, .pointer (some ⟨b_2, 0, none⟩))]) (H' := [⟨1, b_2, [.string (bs r_1.s), .bool r_1.bad]⟩]) (ps := []) (by kernel_rfl) trivial ?_
    refine OpTo.go (GoO.call rfl (by kernel_rfl) (by kernel_rfl) (pack_Reader_fail_ok n r_1 b_2) [[0], [1]] [(1, 1)] [(1, 0)] [] (hks := []) (bks := []) (by kernel_rfl) (by kernel_rfl) (by kernel_rfl) (.inl rfl) rfl rfl (by kernel_rfl) (by kernel_rfl) _ (fun _ _ => rfl) _ _ (fun _ _ => rfl) (fun _ _ => rfl) (fun _ _ => by kernel_rfl) (fun _ _ => by kernel_rfl) (fun r_13 x_14 => ?_))
    refine GoO.shape (env' := [(47, .pointer (some ⟨b_2, 0, none⟩)), (48, .int .u64 r_13.1)]) (H' := [⟨1, b_2, [.string (bs r_13.2.s), .bool r_13.2.bad]⟩]) (B' := []) (ks := [47, 48]) (by kernel_rfl) (by kernel_rfl) (by kernel_rfl) ?_
    refine GoO.exec (is := [2]) (hs := [.p]) (rest := []) (ks := [2]) (env' := [(2, .int .u64 r_13.1)]) (H' := [⟨1, b_2, [.string (bs r_13.2.s), .bool r_13.2.bad]⟩]) (ps := []) (by kernel_rfl) trivial ?_
    refine GoO.regionEnd ?_
    exact GoO.ret' (h := c49_18e) (hs := []) (ps := []) (hk := [0]) (bk := []) Try.func49 () (by kernel_rfl) trivial (by kernel_rfl) (by kernel_rfl)
  · refine GoO.skip' c49_19e ?_
    refine GoO.seq' c49_20e ?_
    refine GoO.region' (is := [0]) c49_21e (by kernel_rfl) ?_
    refine GoO.exec (is := [0]) (hs := [.p]) (rest := []) (ks := [0, 3, 4]) (env' := [(0, .pointer (some ⟨b_2, 0, none⟩)), (3, .int .i64 (wi64 ((rdB r_1.s 0).toNat : Int))), (4, .int .u64 0)]) (H' := [⟨1, b_2, [.string (bs r_1.s), .bool r_1.bad]⟩]) (ps := []) (by kernel_rfl) trivial ?_
    refine GoO.regionEnd ?_
    refine GoO.seq' c49_22e ?_
    refine GoO.seq' c49_23e ?_
    refine GoO.region' (is := [0]) c49_24e (by kernel_rfl) ?_
    refine GoO.exec (is := [0]) (hs := [.p]) (rest := []) (ks := [0, 3, 4, 5]) (env' := [(0, .pointer (some ⟨b_2, 0, none⟩)), (3, .int .i64 (wi64 ((rdB r_1.s 0).toNat : Int))), (4, .int .u64 0), (5, .int .i64 1)]) (H' := [⟨1, b_2, [.string (bs r_1.s), .bool r_1.bad]⟩]) (ps := []) (by kernel_rfl) trivial ?_
    refine GoO.regionEnd ?_
    refine GoO.block' c49_25e ?_
    refine GoO.loop' c49_26e ?_
    exact GoO.sub (ks := [0, 3, 4, 5]) (hk := [0]) (bk := []) (by kernel_rfl) (by kernel_rfl) (by kernel_rfl) (pack_Reader_Num_l0_ok n r_1 b_2 w0 S0 n 0 1)
theorem pack_Reader_Num_ok (n : Nat) (r_1 : T_pack_Reader) (b_2 : Nat) :
    Meets Try.prog 49 [.pointer (some ⟨b_2, 0, none⟩)] 1 [1] [⟨1, b_2, [.string (bs r_1.s), .bool r_1.bad]⟩] [] (pack_Reader_Num.f n r_1) (pack_Reader_Num.R b_2) := by
  refine Meets.of (c := c49_0) (n := 75) Try.func49 (by kernel_rfl) (by kernel_rfl) (by kernel_rfl) fun w0 S0 => ?_
  unfold pack_Reader_Num.f
  show GoO (pack_Reader_Num.cx b_2 w0 S0) [(0, .pointer (some ⟨b_2, 0, none⟩))] [⟨1, b_2, [.string (bs r_1.s), .bool r_1.bad]⟩] [] [.code c49_0] _
  refine GoO.seq' c49_0e ?_
  refine GoO.region' (is := [0]) c49_1e (by kernel_rfl) ?_
  refine GoO.exec (is := [0]) (hs := [.p]) (rest := []) (ks := [0]) (env' := [(0, .pointer (some ⟨b_2, 0, none⟩))]) (H' := [⟨1, b_2, [.string (bs r_1.s), .bool r_1.bad]⟩]) (ps := []) (by kernel_rfl) trivial ?_
  refine GoO.regionEnd ?_
  refine GoO.seq' c49_2e ?_
  refine GoO.seq' c49_3e ?_
  refine GoO.region' (is := [0, 1, 2, 3, 4, 5, 6, 7, 8]) c49_4e (by kernel_rfl) ?_
  refine GoO.exec (is := [0, 1, 2, 3, 4, 5, 6, 7, 8]) (hs := [.p, .p, .p, .p, .p, .p, .b 0, .p, .p]) (rest := []) (ks := [0, 14]) (env' := [(0, .pointer (some ⟨b_2, 0, none⟩)), (14, .bool (r_1.s == ([] : List UInt8)))]) (H' := [⟨1, b_2, [.string (bs r_1.s), .bool r_1.bad]⟩]) (ps := [b_2 = b_2]) (by kernel_rfl) (And.intro rfl trivial) ?_
  refine GoO.regionEnd ?_
  refine GoO.ite' c49_5e (by kernel_rfl) (fun h3 => ?_) (fun h3 => ?_)
  · refine GoO.seq' c49_6e ?_
    refine GoO.region' (is := [0, 1, 2]) c49_7e (by kernel_rfl) ?_
    refine GoO.exec (is := [0]) (hs := [.p]) (rest := [1, 2]) (ks := [15]) (env' := [(15, .pointer (some ⟨b_2, 0, none⟩))]) (H' := [⟨1, b_2, [.string (bs r_1.s), .bool r_1.bad]⟩]) (ps := []) (by kernel_rfl) trivial ?_
    refine OpTo.go (GoO.call rfl (by kernel_rfl) (by kernel_rfl) (pack_Reader_fail_ok n r_1 b_2) [[0], [1]] [(1, 1)] [(1, 0)] [] (hks := []) (bks := []) (by kernel_rfl) (by kernel_rfl) (by kernel_rfl) (.inl rfl) rfl rfl (by kernel_rfl) (by kernel_rfl) _ (fun _ _ => rfl) _ _ (fun _ _ => rfl) (fun _ _ => rfl) (fun _ _ => by kernel_rfl) (fun _ _ => by kernel_rfl) (fun r_4 x_5 => ?_))
    refine GoO.shape (env' := [(15, .pointer (some ⟨b_2, 0, none⟩)), (16, .int .u64 r_4.1)]) (H' := [⟨1, b_2, [.string (bs r_4.2.s), .bool r_4.2.bad]⟩]) (B' := []) (ks := [15, 16]) (by kernel_rfl) (by kernel_rfl) (by kernel_rfl) ?_
    refine GoO.exec (is := [2]) (hs := [.p]) (rest := []) (ks := [2]) (env' := [(2, .int .u64 r_4.1)]) (H' := [⟨1, b_2, [.string (bs r_4.2.s), .bool r_4.2.bad]⟩]) (ps := []) (by kernel_rfl) trivial ?_
    refine GoO.regionEnd ?_
    exact GoO.ret' (h := c49_8e) (hs := []) (ps := []) (hk := [0]) (bk := []) Try.func49 () (by kernel_rfl) trivial (by kernel_rfl) (by kernel_rfl)
  · refine GoO.skip' c49_9e ?_
    refine GoO.seq' c49_10e ?_
    refine GoO.region' (is := [0, 1, 2, 3, 4, 5, 6]) c49_11e (by kernel_rfl) ?_
    refine GoO.guard (fun h6 => ?_)
    refine GoO.exec (is := [0, 1, 2, 3, 4, 5, 6]) (hs := [.p, .p, .p, .b 0, .p, .p, .p]) (rest := []) (ks := [0, 3]) (env' := [(0, .pointer (some ⟨b_2, 0, none⟩)), (3, .int .i64 (wi64 ((rdB r_1.s 0).toNat : Int)))]) (H' := [⟨1, b_2, [.string (bs r_1.s), .bool r_1.bad]⟩]) (ps := [b_2 = b_2, (0 : Int) ≤ 0, 0 < (r_1.s.length : Int)]) (by kernel_rfl) (And.intro rfl (And.intro h6.1 (And.intro h6.2 trivial))) ?_
    refine GoO.regionEnd ?_
    refine GoO.seq' c49_12e ?_
    refine GoO.seq' c49_13e ?_
    refine GoO.region' (is := [0, 1, 2, 3, 4, 5, 6, 7, 8, 9, 10, 11, 12, 13, 14, 15, 16, 17, 18, 19, 20, 21, 22, 23]) c49_14e (by kernel_rfl) ?_
    refine GoO.exec (is := [0, 1, 2]) (hs := [.p, .p, .p]) (rest := [3, 4, 5, 6, 7, 8, 9, 10, 11, 12, 13, 14, 15, 16, 17, 18, 19, 20, 21, 22, 23]) (ks := [0, 3, 25]) (env' := [(0, .pointer (some ⟨b_2, 0, none⟩)), (3, .int .i64 (wi64 ((rdB r_1.s 0).toNat : Int))), (25, .bool (decide ((wi64 ((rdB r_1.s 0).toNat : Int)) > 8)))]) (H' := [⟨1, b_2, [.string (bs r_1.s), .bool r_1.bad]⟩]) (ps := []) (by kernel_rfl) trivial ?_
    refine GoO.bsplit (t := 25) (by kernel_rfl) (fun h7 => ?_) (fun h7 => ?_)
    · refine GoO.exec (is := [3, 4, 5, 6, 7, 8, 9, 10, 11, 12, 13, 14, 15, 16, 17, 18, 19, 20, 21, 22, 23]) (hs := [.p, .p, .p, .p, .p, .p, .p, .p, .p, .p, .p, .p, .p, .p, .p, .p, .p, .p, .p, .p, .p]) (rest := []) (ks := [0, 3, 46]) (env' := [(0, .pointer (some ⟨b_2, 0, none⟩)), (3, .int .i64 (wi64 ((rdB r_1.s 0).toNat : Int))), (46, .bool true)]) (H' := [⟨1, b_2, [.string (bs r_1.s), .bool r_1.bad]⟩]) (ps := []) (by kernel_rfl) trivial ?_
      refine GoO.regionEnd ?_
      exact GoO.sub (ks := [0, 3, 46]) (hk := [0]) (bk := []) (by kernel_rfl) (by kernel_rfl) (by kernel_rfl) (pack_Reader_Num_j0_ok n r_1 b_2 w0 S0 true)
    · refine GoO.exec (is := [3, 4, 5, 6, 7, 8, 9, 10, 11, 12]) (hs := [.p, .p, .p, .p, .b 0, .p, .p, .p, .p, .p]) (rest := [13, 14, 15, 16, 17, 18, 19, 20, 21, 22, 23]) (ks := [0, 3, 35]) (env' := [(0, .pointer (some ⟨b_2, 0, none⟩)), (3, .int .i64 (wi64 ((rdB r_1.s 0).toNat : Int))), (35, .bool (decide ((wi64 ((rdB r_1.s 0).toNat : Int)) > (wi64 ((r_1.s.length : Int) - 1)))))]) (H' := [⟨1, b_2, [.string (bs r_1.s), .bool r_1.bad]⟩]) (ps := [b_2 = b_2]) (by kernel_rfl) (And.intro rfl trivial) ?_
      refine GoO.bsplit (t := 35) (by kernel_rfl) (fun h8 => ?_) (fun h8 => ?_)
      · refine GoO.exec (is := [13, 14, 15, 16, 17, 18, 19, 20, 21, 22, 23]) (hs := [.p, .p, .p, .p, .p, .p, .p, .p, .p, .p, .p]) (rest := []) (ks := [0, 3, 46]) (env' := [(0, .pointer (some ⟨b_2, 0, none⟩)), (3, .int .i64 (wi64 ((rdB r_1.s 0).toNat : Int))), (46, .bool true)]) (H' := [⟨1, b_2, [.string (bs r_1.s), .bool r_1.bad]⟩]) (ps := []) (by kernel_rfl) trivial ?_
        refine GoO.regionEnd ?_
        exact GoO.sub (ks := [0, 3, 46]) (hk := [0]) (bk := []) (by kernel_rfl) (by kernel_rfl) (by kernel_rfl) (pack_Reader_Num_j0_ok n r_1 b_2 w0 S0 true)
      · refine GoO.exec (is := [13, 14, 15]) (hs := [.p, .p, .p]) (rest := [16, 17, 18, 19, 20, 21, 22, 23]) (ks := [0, 3, 35, 38]) (env' := [(0, .pointer (some ⟨b_2, 0, none⟩)), (3, .int .i64 (wi64 ((rdB r_1.s 0).toNat : Int))), (35, .bool false), (38, .bool (decide ((wi64 ((rdB r_1.s 0).toNat : Int)) > 0)))]) (H' := [⟨1, b_2, [.string (bs r_1.s), .bool r_1.bad]⟩]) (ps := []) (by kernel_rfl) trivial ?_
        refine GoO.bsplit (t := 38) (by kernel_rfl) (fun h9 => ?_) (fun h9 => ?_)
        · refine GoO.guard (fun h10 => ?_)
          refine GoO.exec (is := [16, 17, 18, 19, 20, 21, 22, 23]) (hs := [.p, .p, .p, .b 0, .p, .p, .p, .p]) (rest := []) (ks := [0, 3, 46]) (env' := [(0, .pointer (some ⟨b_2, 0, none⟩)), (3, .int .i64 (wi64 ((rdB r_1.s 0).toNat : Int))), (46, .bool (((rdB r_1.s 1).toNat : Int) == 0))]) (H' := [⟨1, b_2, [.string (bs r_1.s), .bool r_1.bad]⟩]) (ps := [b_2 = b_2, (0 : Int) ≤ 1, 1 < (r_1.s.length : Int)]) (by kernel_rfl) (And.intro rfl (And.intro h10.1 (And.intro h10.2 trivial))) ?_
          refine GoO.regionEnd ?_
          exact GoO.sub (ks := [0, 3, 46]) (hk := [0]) (bk := []) (by kernel_rfl) (by kernel_rfl) (by kernel_rfl) (pack_Reader_Num_j0_ok n r_1 b_2 w0 S0 (((rdB r_1.s 1).toNat : Int) == 0))
        · refine GoO.exec (is := [16, 17, 18, 19, 20, 21, 22, 23]) (hs := [.p, .p, .p, .p, .p, .p, .p, .p]) (rest := []) (ks := [0, 3, 46]) (env' := [(0, .pointer (some ⟨b_2, 0, none⟩)), (3, .int .i64 (wi64 ((rdB r_1.s 0).toNat : Int))), (46, .bool false)]) (H' := [⟨1, b_2, [.string (bs r_1.s), .bool r_1.bad]⟩]) (ps := []) (by kernel_rfl) trivial ?_
          refine GoO.regionEnd ?_
          exact GoO.sub (ks := [0, 3, 46]) (hk := [0]) (bk := []) (by kernel_rfl) (by kernel_rfl) (by kernel_rfl) (pack_Reader_Num_j0_ok n r_1 b_2 w0 S0 false)

/-! (*tontine/pack.Reader).Up -/
noncomputable def c48_0 : Code := bodyOf Try.f48
noncomputable def c48_1 : Code := cdL c48_0
noncomputable def c48_2 : Code := cdR c48_0
noncomputable def c48_3 : Code := cdL c48_2
noncomputable def c48_4 : Code := cdR c48_2
noncomputable def c48_5 : Code := cdL c48_4
noncomputable def c48_6 : Code := cdL c48_5
noncomputable def c48_7 : Code := cdR c48_5
noncomputable def c48_8 : Code := cdL c48_7
noncomputable def c48_9 : Code := cdL c48_8
noncomputable def c48_10 : Code := cdR c48_8
noncomputable def c48_11 : Code := cdR c48_7
noncomputable def c48_12 : Code := cdR c48_4
noncomputable def c48_13 : Code := cdL c48_12
noncomputable def c48_14 : Code := cdR c48_12
noncomputable def r48_1 : Array Oper := cdO c48_1
noncomputable def r48_3 : Array Oper := cdO c48_3
noncomputable def r48_6 : Array Oper := cdO c48_6
noncomputable def r48_9 : Array Oper := cdO c48_9
noncomputable def r48_13 : Array Oper := cdO c48_13
theorem c48_0e : c48_0 = .seq c48_1 c48_2 := by kernel_rfl
theorem c48_1e : c48_1 = .region 0 r48_1 false := by kernel_rfl
theorem c48_2e : c48_2 = .seq c48_3 c48_4 := by kernel_rfl
theorem c48_3e : c48_3 = .region 1 r48_3 false := by kernel_rfl
theorem c48_4e : c48_4 = .seq c48_5 c48_12 := by kernel_rfl
theorem c48_5e : c48_5 = .seq c48_6 c48_7 := by kernel_rfl
theorem c48_6e : c48_6 = .region 2 r48_6 false := by kernel_rfl
theorem c48_7e : c48_7 = .cond (cdC c48_7) c48_8 c48_11 := by kernel_rfl
theorem c48_8e : c48_8 = .seq c48_9 c48_10 := by kernel_rfl
theorem c48_9e : c48_9 = .region 3 r48_9 false := by kernel_rfl
theorem c48_10e : c48_10 = .ret := by kernel_rfl
theorem c48_11e : c48_11 = .skip := by kernel_rfl
theorem c48_12e : c48_12 = .seq c48_13 c48_14 := by kernel_rfl
theorem c48_13e : c48_13 = .region 4 r48_13 false := by kernel_rfl
theorem c48_14e : c48_14 = .ret := by kernel_rfl
noncomputable def pack_Reader_Up.R (b_2 : Nat) : Pst (Int × T_pack_Reader) where
  ε := Unit
  v := fun r x => .int .i64 r.1
  H := fun r x => [⟨1, b_2, [.string (bs r.2.s), .bool r.2.bad]⟩]
  B := fun r x => []
noncomputable def pack_Reader_Up.cx (b_2 : Nat) (w0 : World) (S0 : Fam) : Cx (Int × T_pack_Reader) := ⟨Try.prog, 48, Try.f48, 21, w0, S0, [1], 1, pack_Reader_Up.R b_2⟩
theorem pack_Reader_Up_j0_ok (n : Nat) (r_4 : Int × T_pack_Reader) (b_2 : Nat) (w0 : World) (S0 : Fam) (b_6 : Bool) :
    GoO (pack_Reader_Up.cx b_2 w0 S0) [(0, .pointer (some ⟨b_2, 0, none⟩)), (5, .int .u64 r_4.1), (15, .bool b_6)] [⟨1, b_2, [.string (bs r_4.2.s), .bool r_4.2.bad]⟩] [] [.code c48_7, .code c48_12] (pack_Reader_Up.j0 n r_4 b_6) := by
  unfold pack_Reader_Up.j0
  refine GoO.ite' c48_7e (by kernel_rfl) (fun h7 => ?_) (fun h7 => ?_)
  · refine GoO.seq' c48_8e ?_
    refine GoO.region' (is := [0, 1, 2, 3]) c48_9e (by kernel_rfl) ?_
    refine GoO.exec (is := [0]) (hs := [.p]) (rest := [1, 2, 3]) (ks := [16]) (env' := [(16, .pointer (some ⟨b_2, 0, none⟩))]) (H' := [⟨1, b_2, [.string (bs r_4.2.s), .bool r_4.2.bad]⟩]) (ps := []) (by kernel_rfl) trivial ?_
    refine OpTo.go (GoO.call rfl (by kernel_rfl) (by kernel_rfl) (pack_Reader_fail_ok n r_4.2 b_2) [[0], [1]] [(1, 1)] [(1, 0)] [] (hks := []) (bks := []) (by kernel_rfl) (by kernel_rfl) (by kernel_rfl) (.inl rfl) rfl rfl (by kernel_rfl) (by kernel_rfl) _ (fun _ _ => rfl) _ _ (fun _ _ => rfl) (fun _ _ => rfl) (fun _ _ => by kernel_rfl) (fun _ _ => by kernel_rfl) (fun r_8 x_9 => ?_))
    refine GoO.shape (env' := [(16, .pointer (some ⟨b_2, 0, none⟩)), (17, .int .u64 r_8.1)]) (H' := [⟨1, b_2, [.string (bs r_8.2.s), .bool r_8.2.bad]⟩]) (B' := []) (ks := [16, 17]) (by kernel_rfl) (by kernel_rfl) (by kernel_rfl) ?_
    refine GoO.exec (is := [2, 3]) (hs := [.p, .p]) (rest := []) (ks := [4]) (env' := [(4, .int .i64 (wi64 r_8.1))]) (H' := [⟨1, b_2, [.string (bs r_8.2.s), .bool r_8.2.bad]⟩]) (ps := []) (by kernel_rfl) trivial ?_
    refine GoO.regionEnd ?_
    exact GoO.ret' (h := c48_10e) (hs := []) (ps := []) (hk := [0]) (bk := []) Try.func48 () (by kernel_rfl) trivial (by kernel_rfl) (by kernel_rfl)
  · refine GoO.skip' c48_11e ?_
    refine GoO.seq' c48_12e ?_
    refine GoO.region' (is := [0, 1, 2]) c48_13e (by kernel_rfl) ?_
    refine GoO.exec (is := [0, 1, 2]) (hs := [.p, .p, .p]) (rest := []) (ks := [4]) (env' := [(4, .int .i64 (wi64 r_4.1))]) (H' := [⟨1, b_2, [.string (bs r_4.2.s), .bool r_4.2.bad]⟩]) (ps := []) (by kernel_rfl) trivial ?_
    refine GoO.regionEnd ?_
    exact GoO.ret' (h := c48_14e) (hs := []) (ps := []) (hk := [0]) (bk := []) Try.func48 () (by kernel_rfl) trivial (by kernel_rfl) (by kernel_rfl)
theorem pack_Reader_Up_ok (n : Nat) (r_1 : T_pack_Reader) (limit_3 : Int) (b_2 : Nat) :
    Meets Try.prog 48 [.pointer (some ⟨b_2, 0, none⟩), .int .i64 limit_3] 1 [1] [⟨1, b_2, [.string (bs r_1.s), .bool r_1.bad]⟩] [] (pack_Reader_Up.f n r_1 limit_3) (pack_Reader_Up.R b_2) := by
  refine Meets.of (c := c48_0) (n := 21) Try.func48 (by kernel_rfl) (by kernel_rfl) (by kernel_rfl) fun w0 S0 => ?_
  unfold pack_Reader_Up.f
  show GoO (pack_Reader_Up.cx b_2 w0 S0) [(0, .pointer (some ⟨b_2, 0, none⟩)), (1, .int .i64 limit_3)] [⟨1, b_2, [.string (bs r_1.s), .bool r_1.bad]⟩] [] [.code c48_0] _
  refine GoO.seq' c48_0e ?_
  refine GoO.region' (is := [0]) c48_1e (by kernel_rfl) ?_
  refine GoO.exec (is := [0]) (hs := [.p]) (rest := []) (ks := [0, 1]) (env' := [(0, .pointer (some ⟨b_2, 0, none⟩)), (1, .int .i64 limit_3)]) (H' := [⟨1, b_2, [.string (bs r_1.s), .bool r_1.bad]⟩]) (ps := []) (by kernel_rfl) trivial ?_
  refine GoO.regionEnd ?_
  refine GoO.seq' c48_2e ?_
  refine GoO.region' (is := [0, 1, 2]) c48_3e (by kernel_rfl) ?_
  refine GoO.exec (is := [0]) (hs := [.p]) (rest := [1, 2]) (ks := [0, 1, 6]) (env' := [(0, .pointer (some ⟨b_2, 0, none⟩)), (1, .int .i64 limit_3), (6, .pointer (some ⟨b_2, 0, none⟩))]) (H' := [⟨1, b_2, [.string (bs r_1.s), .bool r_1.bad]⟩]) (ps := []) (by kernel_rfl) trivial ?_
  refine OpTo.go (GoO.call rfl (by kernel_rfl) (by kernel_rfl) (pack_Reader_Num_ok n r_1 b_2) [[0], [1]] [(1, 1)] [(1, 0)] [] (hks := []) (bks := []) (by kernel_rfl) (by kernel_rfl) (by kernel_rfl) (.inl rfl) rfl rfl (by kernel_rfl) (by kernel_rfl) _ (fun _ _ => rfl) _ _ (fun _ _ => rfl) (fun _ _ => rfl) (fun _ _ => by kernel_rfl) (fun _ _ => by kernel_rfl) (fun r_4 x_10 => ?_))
  refine GoO.shape (env' := [(0, .pointer (some ⟨b_2, 0, none⟩)), (1, .int .i64 limit_3), (6, .pointer (some ⟨b_2, 0, none⟩)), (7, .int .u64 r_4.1)]) (H' := [⟨1, b_2, [.string (bs r_4.2.s), .bool r_4.2.bad]⟩]) (B' := []) (ks := [0, 1, 6, 7]) (by kernel_rfl) (by kernel_rfl) (by kernel_rfl) ?_
  refine GoO.exec (is := [2]) (hs := [.p]) (rest := []) (ks := [0, 1, 5]) (env' := [(0, .pointer (some ⟨b_2, 0, none⟩)), (1, .int .i64 limit_3), (5, .int .u64 r_4.1)]) (H' := [⟨1, b_2, [.string (bs r_4.2.s), .bool r_4.2.bad]⟩]) (ps := []) (by kernel_rfl) trivial ?_
  refine GoO.regionEnd ?_
  refine GoO.seq' c48_4e ?_
  refine GoO.seq' c48_5e ?_
  refine GoO.region' (is := [0, 1, 2, 3, 4, 5, 6, 7]) c48_6e (by kernel_rfl) ?_
  refine GoO.exec (is := [0, 1, 2]) (hs := [.p, .p, .p]) (rest := [3, 4, 5, 6, 7]) (ks := [0, 1, 5, 10]) (env' := [(0, .pointer (some ⟨b_2, 0, none⟩)), (1, .int .i64 limit_3), (5, .int .u64 r_4.1), (10, .bool (decide (limit_3 < 0)))]) (H' := [⟨1, b_2, [.string (bs r_4.2.s), .bool r_4.2.bad]⟩]) (ps := []) (by kernel_rfl) trivial ?_
  refine GoO.bsplit (t := 10) (by kernel_rfl) (fun h5 => ?_) (fun h5 => ?_)
  · refine GoO.exec (is := [3, 4, 5, 6, 7]) (hs := [.p, .p, .p, .p, .p]) (rest := []) (ks := [0, 5, 15]) (env' := [(0, .pointer (some ⟨b_2, 0, none⟩)), (5, .int .u64 r_4.1), (15, .bool true)]) (H' := [⟨1, b_2, [.string (bs r_4.2.s), .bool r_4.2.bad]⟩]) (ps := []) (by kernel_rfl) trivial ?_
    refine GoO.regionEnd ?_
    exact GoO.sub (ks := [0, 5, 15]) (hk := [0]) (bk := []) (by kernel_rfl) (by kernel_rfl) (by kernel_rfl) (pack_Reader_Up_j0_ok n r_4 b_2 w0 S0 true)
  · refine GoO.exec (is := [3, 4, 5, 6, 7]) (hs := [.p, .p, .p, .p, .p]) (rest := []) (ks := [0, 5, 15]) (env' := [(0, .pointer (some ⟨b_2, 0, none⟩)), (5, .int .u64 r_4.1), (15, .bool (decide (r_4.1 > (wu64 limit_3))))]) (H' := [⟨1, b_2, [.string (bs r_4.2.s), .bool r_4.2.bad]⟩]) (ps := []) (by kernel_rfl) trivial ?_
    refine GoO.regionEnd ?_
    exact GoO.sub (ks := [0, 5, 15]) (hk := [0]) (bk := []) (by kernel_rfl) (by kernel_rfl) (by kernel_rfl) (pack_Reader_Up_j0_ok n r_4 b_2 w0 S0 (decide (r_4.1 > (wu64 limit_3))))

/-! (*tontine/pack.Reader).Left -/
noncomputable def c57_0 : Code := bodyOf Try.f57
noncomputable def c57_1 : Code := cdL c57_0
noncomputable def c57_2 : Code := cdR c57_0
noncomputable def c57_3 : Code := cdL c57_2
noncomputable def c57_4 : Code := cdL c57_3
noncomputable def c57_5 : Code := cdR c57_3
noncomputable def c57_9 : Code := cdR c57_5
noncomputable def c57_10 : Code := cdR c57_2
noncomputable def c57_11 : Code := cdL c57_10
noncomputable def c57_12 : Code := cdR c57_10
noncomputable def c57_6 : Code := cdL c57_5
noncomputable def r57_1 : Array Oper := cdO c57_1
noncomputable def r57_4 : Array Oper := cdO c57_4
noncomputable def r57_11 : Array Oper := cdO c57_11
theorem c57_0e : c57_0 = .seq c57_1 c57_2 := by kernel_rfl
theorem c57_1e : c57_1 = .region 0 r57_1 false := by kernel_rfl
theorem c57_2e : c57_2 = .seq c57_3 c57_10 := by kernel_rfl
theorem c57_3e : c57_3 = .seq c57_4 c57_5 := by kernel_rfl
theorem c57_4e : c57_4 = .region 1 r57_4 false := by kernel_rfl
theorem c57_5e : c57_5 = .cond (cdC c57_5) c57_6 c57_9 := by kernel_rfl
theorem c57_9e : c57_9 = .skip := by kernel_rfl
theorem c57_10e : c57_10 = .seq c57_11 c57_12 := by kernel_rfl
theorem c57_11e : c57_11 = .region 3 r57_11 true := by kernel_rfl
theorem c57_12e : c57_12 = .ret := by kernel_rfl
noncomputable def pack_Reader_Left.R (b_2 : Nat) : Pst (Int × Bool) where
  ε := Unit
  v := fun r x => .tuple ⟨[.int .i64 r.1, .bool r.2]⟩
  H := fun r x => []
  B := fun r x => []
noncomputable def pack_Reader_Left.cx (b_2 : Nat) (w0 : World) (S0 : Fam) : Cx (Int × Bool) := ⟨Try.prog, 57, Try.f57, 16, w0, S0, [], 1, pack_Reader_Left.R b_2⟩
theorem pack_Reader_Left_ok (n : Nat) (r_1 : T_pack_Reader) (b_2 : Nat) :
    Meets Try.prog 57 [.pointer (some ⟨b_2, 0, none⟩)] 1 [] [⟨1, b_2, [.string (bs r_1.s), .bool r_1.bad]⟩] [] (pack_Reader_Left.f n r_1) (pack_Reader_Left.R b_2) := by
  refine Meets.of (c := c57_0) (n := 16) Try.func57 (by kernel_rfl) (by kernel_rfl) (by kernel_rfl) fun w0 S0 => ?_
  unfold pack_Reader_Left.f
  show GoO (pack_Reader_Left.cx b_2 w0 S0) [(0, .pointer (some ⟨b_2, 0, none⟩))] [⟨1, b_2, [.string (bs r_1.s), .bool r_1.bad]⟩] [] [.code c57_0] _
  refine GoO.seq' c57_0e ?_
  refine GoO.region' (is := [0, 1]) c57_1e (by kernel_rfl) ?_
  refine GoO.exec (is := [0, 1]) (hs := [.p, .p]) (rest := []) (ks := [0]) (env' := [(0, .pointer (some ⟨b_2, 0, none⟩))]) (H' := [⟨1, b_2, [.string (bs r_1.s), .bool r_1.bad]⟩]) (ps := []) (by kernel_rfl) trivial ?_
  refine GoO.regionEnd ?_
  refine GoO.seq' c57_2e ?_
  refine GoO.seq' c57_3e ?_
  refine GoO.region' (is := [0, 1]) c57_4e (by kernel_rfl) ?_
  refine GoO.exec (is := [0, 1]) (hs := [.p, .p]) (rest := []) (ks := [0, 5]) (env' := [(0, .pointer (some ⟨b_2, 0, none⟩)), (5, .bool false)]) (H' := [⟨1, b_2, [.string (bs r_1.s), .bool r_1.bad]⟩]) (ps := []) (by kernel_rfl) trivial ?_
  refine GoO.regionEnd ?_
  refine GoO.condF c57_5e (by kernel_rfl) ?_
  refine GoO.skip' c57_9e ?_
  refine GoO.seq' c57_10e ?_
  refine GoO.draw c57_11e (by kernel_rfl) [11] [⟨1, b_2, [.string (bs r_1.s), .bool r_1.bad]⟩] [] (n := 12) (by kernel_rfl) ?_
  simp only [List.replicate]
  refine GoF.take [0, 1, 2, 3, 4, 5, 6, 7, 8, 9, 10] [.p, .p, .p, .b 0, .p, .p, .p, .p, .b 0, .p, .p] (ks := [2, 15]) (fu := 1) (li := [true, true, true, true, true, true, true, true, true, true, true, false]) (env' := [(2, .int .i64 (r_1.s.length : Int)), (15, .bool (!r_1.bad))]) (ps := [b_2 = b_2, b_2 = b_2]) (hk := [0]) (bk := []) (by kernel_rfl) (And.intro rfl (And.intro rfl trivial)) rfl rfl ?_
  refine GoF.fin1 (i := 11) (hint := .p) (ps := []) (hk := []) (bk := []) (by kernel_rfl) rfl trivial (.inl rfl) ?_
  refine GoF.done (by kernel_rfl) ?_
  exact GoO.ret' (h := c57_12e) (hs := []) (ps := []) (hk := []) (bk := []) Try.func57 () (by kernel_rfl) trivial (by kernel_rfl) (by kernel_rfl)

/-! tontine/session.Read -/
noncomputable def c35_0 : Code := bodyOf Try.f35
noncomputable def c35_1 : Code := cdL c35_0
noncomputable def c35_2 : Code := cdR c35_0
noncomputable def c35_3 : Code := cdL c35_2
noncomputable def c35_4 : Code := cdR c35_2
noncomputable def c35_5 : Code := cdL c35_4
noncomputable def c35_6 : Code := cdR c35_4
noncomputable def c35_7 : Code := cdL c35_6
noncomputable def c35_8 : Code := cdR c35_6
noncomputable def c35_9 : Code := cdL c35_8
noncomputable def c35_10 : Code := cdR c35_8
noncomputable def c35_11 : Code := cdL c35_10
noncomputable def c35_12 : Code := cdL c35_11
noncomputable def c35_13 : Code := cdR c35_11
noncomputable def c35_14 : Code := cdL c35_13
noncomputable def c35_15 : Code := cdL c35_14
noncomputable def c35_16 : Code := cdL c35_15
noncomputable def c35_17 : Code := cdL c35_16
noncomputable def c35_18 : Code := cdR c35_16
noncomputable def c35_19 : Code := cdL c35_18
noncomputable def c35_20 : Code := cdR c35_18
noncomputable def c35_21 : Code := cdR c35_15
noncomputable def c35_22 : Code := cdL c35_21
noncomputable def c35_23 : Code := cdL c35_22
noncomputable def c35_24 : Code := cdL c35_23
noncomputable def c35_25 : Code := cdR c35_23
noncomputable def c35_26 : Code := cdL c35_25
noncomputable def c35_27 : Code := cdR c35_25
noncomputable def c35_28 : Code := cdL c35_27
noncomputable def c35_29 : Code := cdR c35_27
noncomputable def c35_30 : Code := cdL c35_29
noncomputable def c35_31 : Code := cdR c35_29
noncomputable def c35_32 : Code := cdL c35_31
noncomputable def c35_33 : Code := cdR c35_31
noncomputable def c35_34 : Code := cdL c35_33
noncomputable def c35_35 : Code := cdR c35_33
noncomputable def c35_36 : Code := cdL c35_35
noncomputable def c35_37 : Code := cdL c35_36
noncomputable def c35_38 : Code := cdR c35_36
noncomputable def c35_39 : Code := cdL c35_38
noncomputable def c35_40 : Code := cdL c35_39
noncomputable def c35_41 : Code := cdR c35_39
noncomputable def c35_42 : Code := cdR c35_38
noncomputable def c35_43 : Code := cdR c35_35
noncomputable def c35_44 : Code := cdL c35_43
noncomputable def c35_45 : Code := cdR c35_43
noncomputable def c35_46 : Code := cdR c35_21
noncomputable def c35_47 : Code := cdR c35_10
noncomputable def c35_48 : Code := cdL c35_47
noncomputable def c35_49 : Code := cdL c35_48
noncomputable def c35_50 : Code := cdR c35_48
noncomputable def c35_51 : Code := cdL c35_50
noncomputable def c35_52 : Code := cdR c35_50
noncomputable def c35_53 : Code := cdL c35_52
noncomputable def c35_54 : Code := cdL c35_53
noncomputable def c35_55 : Code := cdR c35_53
noncomputable def c35_56 : Code := cdR c35_52
noncomputable def c35_57 : Code := cdR c35_47
noncomputable def c35_58 : Code := cdL c35_57
noncomputable def c35_59 : Code := cdR c35_57
noncomputable def r35_1 : Array Oper := cdO c35_1
noncomputable def r35_3 : Array Oper := cdO c35_3
noncomputable def r35_5 : Array Oper := cdO c35_5
noncomputable def r35_7 : Array Oper := cdO c35_7
noncomputable def r35_9 : Array Oper := cdO c35_9
noncomputable def r35_12 : Array Oper := cdO c35_12
noncomputable def r35_17 : Array Oper := cdO c35_17
noncomputable def r35_24 : Array Oper := cdO c35_24
noncomputable def r35_26 : Array Oper := cdO c35_26
noncomputable def r35_28 : Array Oper := cdO c35_28
noncomputable def r35_30 : Array Oper := cdO c35_30
noncomputable def r35_32 : Array Oper := cdO c35_32
noncomputable def r35_34 : Array Oper := cdO c35_34
noncomputable def r35_37 : Array Oper := cdO c35_37
noncomputable def r35_40 : Array Oper := cdO c35_40
noncomputable def r35_44 : Array Oper := cdO c35_44
noncomputable def r35_45 : Array Oper := cdO c35_45
noncomputable def r35_46 : Array Oper := cdO c35_46
noncomputable def r35_49 : Array Oper := cdO c35_49
noncomputable def r35_51 : Array Oper := cdO c35_51
noncomputable def r35_54 : Array Oper := cdO c35_54
noncomputable def r35_58 : Array Oper := cdO c35_58
theorem c35_0e : c35_0 = .seq c35_1 c35_2 := by kernel_rfl
theorem c35_1e : c35_1 = .region 0 r35_1 false := by kernel_rfl
theorem c35_2e : c35_2 = .seq c35_3 c35_4 := by kernel_rfl
theorem c35_3e : c35_3 = .region 1 r35_3 false := by kernel_rfl
theorem c35_4e : c35_4 = .seq c35_5 c35_6 := by kernel_rfl
theorem c35_5e : c35_5 = .region 2 r35_5 false := by kernel_rfl
theorem c35_6e : c35_6 = .seq c35_7 c35_8 := by kernel_rfl
theorem c35_7e : c35_7 = .region 3 r35_7 false := by kernel_rfl
theorem c35_8e : c35_8 = .seq c35_9 c35_10 := by kernel_rfl
theorem c35_9e : c35_9 = .region 4 r35_9 false := by kernel_rfl
theorem c35_10e : c35_10 = .seq c35_11 c35_47 := by kernel_rfl
theorem c35_11e : c35_11 = .seq c35_12 c35_13 := by kernel_rfl
theorem c35_12e : c35_12 = .region 5 r35_12 false := by kernel_rfl
theorem c35_13e : c35_13 = .block 0 c35_14 := by kernel_rfl
theorem c35_14e : c35_14 = .loop c35_15 := by kernel_rfl
theorem c35_15e : c35_15 = .seq c35_16 c35_21 := by kernel_rfl
theorem c35_16e : c35_16 = .seq c35_17 c35_18 := by kernel_rfl
theorem c35_17e : c35_17 = .region 6 r35_17 false := by kernel_rfl
theorem c35_18e : c35_18 = .cond (cdC c35_18) c35_19 c35_20 := by kernel_rfl
theorem c35_19e : c35_19 = .skip := by kernel_rfl
theorem c35_20e : c35_20 = .exit 0 := by kernel_rfl
theorem c35_21e : c35_21 = .seq c35_22 c35_46 := by kernel_rfl
theorem c35_22e : c35_22 = .block 1 c35_23 := by kernel_rfl
theorem c35_23e : c35_23 = .seq c35_24 c35_25 := by kernel_rfl
theorem c35_24e : c35_24 = .region 8 r35_24 false := by kernel_rfl
theorem c35_25e : c35_25 = .seq c35_26 c35_27 := by kernel_rfl
theorem c35_26e : c35_26 = .region 9 r35_26 false := by kernel_rfl
theorem c35_27e : c35_27 = .seq c35_28 c35_29 := by kernel_rfl
theorem c35_28e : c35_28 = .region 10 r35_28 false := by kernel_rfl
theorem c35_29e : c35_29 = .seq c35_30 c35_31 := by kernel_rfl
theorem c35_30e : c35_30 = .region 11 r35_30 false := by kernel_rfl
theorem c35_31e : c35_31 = .seq c35_32 c35_33 := by kernel_rfl
theorem c35_32e : c35_32 = .region 12 r35_32 false := by kernel_rfl
theorem c35_33e : c35_33 = .seq c35_34 c35_35 := by kernel_rfl
theorem c35_34e : c35_34 = .region 13 r35_34 false := by kernel_rfl
theorem c35_35e : c35_35 = .seq c35_36 c35_43 := by kernel_rfl
theorem c35_36e : c35_36 = .seq c35_37 c35_38 := by kernel_rfl
theorem c35_37e : c35_37 = .region 14 r35_37 true := by kernel_rfl
theorem c35_38e : c35_38 = .cond (cdC c35_38) c35_39 c35_42 := by kernel_rfl
theorem c35_39e : c35_39 = .seq c35_40 c35_41 := by kernel_rfl
theorem c35_40e : c35_40 = .region 15 r35_40 false := by kernel_rfl
theorem c35_41e : c35_41 = .ret := by kernel_rfl
theorem c35_42e : c35_42 = .skip := by kernel_rfl
theorem c35_43e : c35_43 = .seq c35_44 c35_45 := by kernel_rfl
theorem c35_44e : c35_44 = .region 16 r35_44 false := by kernel_rfl
theorem c35_45e : c35_45 = .region 17 r35_45 true := by kernel_rfl
theorem c35_46e : c35_46 = .region 7 r35_46 false := by kernel_rfl
theorem c35_47e : c35_47 = .seq c35_48 c35_57 := by kernel_rfl
theorem c35_48e : c35_48 = .seq c35_49 c35_50 := by kernel_rfl
theorem c35_49e : c35_49 = .region 18 r35_49 false := by kernel_rfl
theorem c35_50e : c35_50 = .seq c35_51 c35_52 := by kernel_rfl
theorem c35_51e : c35_51 = .region 19 r35_51 false := by kernel_rfl
theorem c35_52e : c35_52 = .cond (cdC c35_52) c35_53 c35_56 := by kernel_rfl
theorem c35_53e : c35_53 = .seq c35_54 c35_55 := by kernel_rfl
theorem c35_54e : c35_54 = .region 20 r35_54 false := by kernel_rfl
theorem c35_55e : c35_55 = .ret := by kernel_rfl
theorem c35_56e : c35_56 = .skip := by kernel_rfl
theorem c35_57e : c35_57 = .seq c35_58 c35_59 := by kernel_rfl
theorem c35_58e : c35_58 = .region 21 r35_58 false := by kernel_rfl
theorem c35_59e : c35_59 = .ret := by kernel_rfl
noncomputable def session_Read.R (b_2 : Nat) : Pst (Option T_session_Table × T_pack_Reader) where
  ε := Nat × Option Addr × Nat
  v := fun r x => (match r.1 with | none => Value.pointer none | some _ => Value.pointer (some ⟨x.1, 0, none⟩))
  H := fun r x => [] ++ ((match r.1 with | none => ([] : List Bx) | some o => [⟨2, x.1, [.int .u64 o.now, .int .u64 o.next, .slice x.2.1 o.rows.length x.2.2]⟩]) ++ ([⟨1, b_2, [.string (bs r.2.s), .bool r.2.bad]⟩]))
  B := fun r x => [] ++ ((match r.1 with | none => ([] : List Fct) | some o => [Ow 3 kT_session_Row x.2.1 x.2.2 o.rows]) ++ ([]))
noncomputable def session_Read.cx (b_2 : Nat) (w0 : World) (S0 : Fam) : Cx (Option T_session_Table × T_pack_Reader) := ⟨Try.prog, 35, Try.f35, 107, w0, S0, [1], 1, session_Read.R b_2⟩
theorem session_Read_j0_ok (n : Nat) (L0 : (List UInt8) → Bool → (List T_session_Row) → Int → Int → Option (Option T_session_Table × T_pack_Reader)) (r_4 : Int × T_pack_Reader) (r_5 : Int × T_pack_Reader) (f_7 : (List UInt8)) (f_8 : Bool) (f_9 : (List T_session_Row)) (last_12 : Int) (n_13 : Int) (r_15 : Int × T_pack_Reader) (r_17 : Int × T_pack_Reader) (r_18 : Int × T_pack_Reader) (r_19 : Int × T_pack_Reader) (r_20 : Int × T_pack_Reader) (r_21 : Int × T_pack_Reader) (b_2 : Nat) (b_3 : Nat) (A_10 : Option Addr) (c_11 : Nat) (b_16 : Nat) (w0 : World) (S0 : Fam) (ih0 : ∀ (f_7 : (List UInt8)) (f_8 : Bool) (f_9 : (List T_session_Row)) (last_12 : Int) (n_13 : Int) (A_10 : Option Addr) (c_11 : Nat), GoO (session_Read.cx b_2 w0 S0) [(0, .pointer (some ⟨b_2, 0, none⟩)), (3, .pointer (some ⟨b_3, 0, none⟩)), (4, .int .u64 last_12), (5, .int .i64 n_13)] [⟨1, b_2, [.string (bs f_7), .bool f_8]⟩, ⟨40, b_3, [.int .u64 r_4.1, .int .u64 r_5.1, .slice A_10 f_9.length c_11]⟩] [Ow 43 kT_session_Row A_10 c_11 f_9] [.code c35_15, .inLoop c35_15, .inBlock 0, .code c35_47] (L0 f_7 f_8 f_9 last_12 n_13)) (b_25 : Bool) :
    GoO (session_Read.cx b_2 w0 S0) [(0, .pointer (some ⟨b_2, 0, none⟩)), (3, .pointer (some ⟨b_3, 0, none⟩)), (5, .int .i64 n_13), (6, .pointer (some ⟨b_16, 0, none⟩)), (79, .bool b_25)] [⟨1, b_2, [.string (bs r_21.2.s), .bool r_21.2.bad]⟩, ⟨40, b_3, [.int .u64 r_4.1, .int .u64 r_5.1, .slice A_10 f_9.length c_11]⟩, ⟨41, b_16, [.int .u64 r_15.1, .int .u64 r_17.1, .int .u64 r_18.1, .int .i64 r_19.1, .int .u64 r_20.1, .int .u64 r_21.1]⟩] [Ow 43 kT_session_Row A_10 c_11 f_9] [.code c35_38, .code c35_43, .inBlock 1, .code c35_46, .inLoop c35_15, .inBlock 0, .code c35_47] (session_Read.j0 n L0 f_9 n_13 r_15 r_17 r_18 r_19 r_20 r_21 b_25) := by
  unfold session_Read.j0
  refine GoO.ite' c35_38e (by kernel_rfl) (fun h26 => ?_) (fun h26 => ?_)
  · refine GoO.seq' c35_39e ?_
    refine GoO.region' (is := [0]) c35_40e (by kernel_rfl) ?_
    refine GoO.exec (is := [0]) (hs := [.p]) (rest := []) (ks := [2]) (env' := [(2, .pointer none)]) (H' := [⟨1, b_2, [.string (bs r_21.2.s), .bool r_21.2.bad]⟩, ⟨40, b_3, [.int .u64 r_4.1, .int .u64 r_5.1, .slice A_10 f_9.length c_11]⟩, ⟨41, b_16, [.int .u64 r_15.1, .int .u64 r_17.1, .int .u64 r_18.1, .int .i64 r_19.1, .int .u64 r_20.1, .int .u64 r_21.1]⟩]) (ps := []) (by kernel_rfl) trivial ?_
    refine GoO.regionEnd ?_
    exact GoO.ret' (h := c35_41e) (hs := []) (ps := []) (hk := [0]) (bk := []) Try.func35 (⟨0, none, 0⟩ : Nat × Option Addr × Nat) (by kernel_rfl) trivial (by kernel_rfl) (by kernel_rfl)
  · refine GoO.skip' c35_42e ?_
    refine GoO.seq' c35_43e ?_
    refine GoO.region' (is := [0, 1, 2]) c35_44e (by kernel_rfl) ?_
    refine GoO.exec (is := [0, 1, 2]) (hs := [.p, .b 2, .p]) (rest := []) (ks := [0, 3, 4, 5, 6]) (env' := [(0, .pointer (some ⟨b_2, 0, none⟩)), (3, .pointer (some ⟨b_3, 0, none⟩)), (4, .int .u64 r_15.1), (5, .int .i64 n_13), (6, .pointer (some ⟨b_16, 0, none⟩))]) (H' := [⟨1, b_2, [.string (bs r_21.2.s), .bool r_21.2.bad]⟩, ⟨40, b_3, [.int .u64 r_4.1, .int .u64 r_5.1, .slice A_10 f_9.length c_11]⟩, ⟨41, b_16, [.int .u64 r_15.1, .int .u64 r_17.1, .int .u64 r_18.1, .int .i64 r_19.1, .int .u64 r_20.1, .int .u64 r_21.1]⟩]) (ps := [b_16 = b_16]) (by kernel_rfl) (And.intro rfl trivial) ?_
    refine GoO.regionEnd ?_
    refine GoO.draw c35_45e (by kernel_rfl) [8, 9, 10] [⟨40, b_3, [.int .u64 r_4.1, .int .u64 r_5.1, .slice A_10 f_9.length c_11]⟩, ⟨41, b_16, [.int .u64 r_15.1, .int .u64 r_17.1, .int .u64 r_18.1, .int .i64 r_19.1, .int .u64 r_20.1, .int .u64 r_21.1]⟩] [] (n := 11) (by kernel_rfl) ?_
    simp only [List.replicate]
    refine GoF.take [0, 1, 2, 3, 4, 5] [.p, .p, .p, .p, .b 0, .b 1] (ks := [0, 3, 4, 5, 82, 86, 87]) (fu := 5) (li := [true, true, true, true, true, true, false, false, false, false, false]) (env' := [(0, .pointer (some ⟨b_2, 0, none⟩)), (3, .pointer (some ⟨b_3, 0, none⟩)), (4, .int .u64 r_15.1), (5, .int .i64 n_13), (82, .pointer (some ⟨b_3, 0, none⟩)), (86, .slice A_10 f_9.length c_11), (87, .agg ⟨[.int .u64 r_15.1, .int .u64 r_17.1, .int .u64 r_18.1, .int .i64 r_19.1, .int .u64 r_20.1, .int .u64 r_21.1]⟩)]) (ps := [b_3 = b_3, b_16 = b_16]) (hk := [1, 2]) (bk := []) (by kernel_rfl) (And.intro rfl (And.intro rfl trivial)) rfl rfl ?_
    refine OpTo.goF (i := 6) (by kernel_rfl) (hk := [1, 2]) (bk := []) (GoO.lit (e := 87) (K := kT_session_Row) rfl (by kernel_rfl) (by kernel_rfl) (cs := [.int .u64 r_15.1, .int .u64 r_17.1, .int .u64 r_18.1, .int .i64 r_19.1, .int .u64 r_20.1, .int .u64 r_21.1]) (by kernel_rfl) [(⟨r_15.1, r_17.1, r_18.1, (⟨r_19.1, r_20.1, r_21.1⟩ : T_api_Reply)⟩ : T_session_Row)] (by kernel_rfl) (by kernel_rfl) (fun w S hB => ⟨[.int .u64 r_15.1, .int .u64 r_17.1, .int .u64 r_18.1, .int .i64 r_19.1, .int .u64 r_20.1, .int .u64 r_21.1], _, rfl, rfl, rfl⟩) 42 _ (fun _ _ => rfl) (fun A_27 c_28 => ⟨rfl, rfl, ?_⟩))
    refine GoF.guard (fun h29 => ?_)
    refine OpTo.goF (i := 7) (by kernel_rfl) (hk := [1, 2]) (bk := []) (GoO.appW (e := 87) (K := kT_session_Row) (A := A_10) (c := c_11) (tg := 43) (bytes := 48) (zs := [.int .u64 0, .int .u64 0, .int .u64 0, .int .i64 0, .int .u64 0, .int .u64 0]) (xs := f_9) (ys := [(⟨r_15.1, r_17.1, r_18.1, (⟨r_19.1, r_20.1, r_21.1⟩ : T_api_Reply)⟩ : T_session_Row)]) (xv := .slice A_27 [(⟨r_15.1, r_17.1, r_18.1, (⟨r_19.1, r_20.1, r_21.1⟩ : T_api_Reply)⟩ : T_session_Row)].length c_28) (j := 1) (bk := [0]) rfl (by kernel_rfl) (by kernel_rfl) (by kernel_rfl) (by kernel_rfl) rfl (by kernel_rfl) rfl (fun w S hB => SrcIs.row (Reads.own w S (hB _ (List.mem_of_getElem? (i := 0) rfl)))) h29 rfl rfl rfl rfl _ (fun _ _ => rfl) (fun A_30 c_31 => ⟨rfl, rfl, ?_⟩))
    refine GoF.fin1 (i := 8) (hint := .p) (ps := []) (hk := []) (bk := []) (by kernel_rfl) rfl trivial (.inl rfl) ?_
    refine GoF.fin1 (i := 9) (hint := .p) (ps := []) (hk := []) (bk := []) (by kernel_rfl) rfl trivial (.inl rfl) ?_
    refine GoF.fin1 (i := 10) (hint := .b 1) (ps := [b_3 = b_3]) (hk := []) (bk := []) (by kernel_rfl) rfl (And.intro rfl trivial) (.inl rfl) ?_
    refine GoF.done (by kernel_rfl) ?_
    refine GoO.inBlock ?_
    refine GoO.region' (is := [0, 1, 2]) c35_46e (by kernel_rfl) ?_
    refine GoO.exec (is := [0, 1, 2]) (hs := [.p, .p, .p]) (rest := []) (ks := [0, 3, 4, 5]) (env' := [(0, .pointer (some ⟨b_2, 0, none⟩)), (3, .pointer (some ⟨b_3, 0, none⟩)), (4, .int .u64 r_15.1), (5, .int .i64 (wi64 (n_13 - 1)))]) (H' := [⟨1, b_2, [.string (bs r_21.2.s), .bool r_21.2.bad]⟩, ⟨40, b_3, [.int .u64 r_4.1, .int .u64 r_5.1, .slice A_30 (f_9 ++ [(⟨r_15.1, r_17.1, r_18.1, (⟨r_19.1, r_20.1, r_21.1⟩ : T_api_Reply)⟩ : T_session_Row)]).length c_31]⟩, ⟨41, b_16, [.int .u64 r_15.1, .int .u64 r_17.1, .int .u64 r_18.1, .int .i64 r_19.1, .int .u64 r_20.1, .int .u64 r_21.1]⟩]) (ps := []) (by kernel_rfl) trivial ?_
    refine GoO.regionEnd ?_
    refine GoO.inLoop ?_
    exact GoO.sub (ks := [0, 3, 4, 5]) (hk := [0, 1]) (bk := [0]) (by kernel_rfl) (by kernel_rfl) (by kernel_rfl) (ih0 r_21.2.s r_21.2.bad (f_9 ++ [(⟨r_15.1, r_17.1, r_18.1, (⟨r_19.1, r_20.1, r_21.1⟩ : T_api_Reply)⟩ : T_session_Row)]) r_15.1 (wi64 (n_13 - 1)) A_30 c_31)
theorem session_Read_l0_ok (n : Nat) (r_4 : Int × T_pack_Reader) (r_5 : Int × T_pack_Reader) (b_2 : Nat) (b_3 : Nat) (w0 : World) (S0 : Fam) :
    ∀ (k : Nat) (f_7 : (List UInt8)) (f_8 : Bool) (f_9 : (List T_session_Row)) (last_12 : Int) (n_13 : Int) (A_10 : Option Addr) (c_11 : Nat), GoO (session_Read.cx b_2 w0 S0) [(0, .pointer (some ⟨b_2, 0, none⟩)), (3, .pointer (some ⟨b_3, 0, none⟩)), (4, .int .u64 last_12), (5, .int .i64 n_13)] [⟨1, b_2, [.string (bs f_7), .bool f_8]⟩, ⟨40, b_3, [.int .u64 r_4.1, .int .u64 r_5.1, .slice A_10 f_9.length c_11]⟩] [Ow 43 kT_session_Row A_10 c_11 f_9] [.code c35_15, .inLoop c35_15, .inBlock 0, .code c35_47] (session_Read.l0 n r_4 r_5 k f_7 f_8 f_9 last_12 n_13) := by
  intro k
  induction k with
  | zero => intros; rw [session_Read.l0.eq_1]; exact GoO.stop
  | succ k ih0 =>
    intro f_7 f_8 f_9 last_12 n_13 A_10 c_11
    rw [session_Read.l0.eq_2]
    refine GoO.seq' c35_15e ?_
    refine GoO.seq' c35_16e ?_
    refine GoO.region' (is := [0, 1]) c35_17e (by kernel_rfl) ?_
    refine GoO.exec (is := [0, 1]) (hs := [.p, .p]) (rest := []) (ks := [0, 3, 4, 5, 24]) (env' := [(0, .pointer (some ⟨b_2, 0, none⟩)), (3, .pointer (some ⟨b_3, 0, none⟩)), (4, .int .u64 last_12), (5, .int .i64 n_13), (24, .bool (decide (n_13 > 0)))]) (H' := [⟨1, b_2, [.string (bs f_7), .bool f_8]⟩, ⟨40, b_3, [.int .u64 r_4.1, .int .u64 r_5.1, .slice A_10 f_9.length c_11]⟩]) (ps := []) (by kernel_rfl) trivial ?_
    refine GoO.regionEnd ?_
    refine GoO.ite' c35_18e (by kernel_rfl) (fun h14 => ?_) (fun h14 => ?_)
    · refine GoO.skip' c35_19e ?_
      refine GoO.seq' c35_21e ?_
      refine GoO.block' c35_22e ?_
      refine GoO.seq' c35_23e ?_
      refine GoO.region' (is := [0, 1, 2, 3, 4]) c35_24e (by kernel_rfl) ?_
      refine GoO.exec (is := [0]) (hs := [.p]) (rest := [1, 2, 3, 4]) (ks := [0, 3, 4, 5, 27]) (env' := [(0, .pointer (some ⟨b_2, 0, none⟩)), (3, .pointer (some ⟨b_3, 0, none⟩)), (4, .int .u64 last_12), (5, .int .i64 n_13), (27, .pointer (some ⟨b_2, 0, none⟩))]) (H' := [⟨1, b_2, [.string (bs f_7), .bool f_8]⟩, ⟨40, b_3, [.int .u64 r_4.1, .int .u64 r_5.1, .slice A_10 f_9.length c_11]⟩]) (ps := []) (by kernel_rfl) trivial ?_
      refine OpTo.go (GoO.call rfl (by kernel_rfl) (by kernel_rfl) (pack_Reader_Num_ok n (⟨f_7, f_8⟩ : T_pack_Reader) b_2) [[0], [1]] [(1, 1)] [(1, 0)] [] (hks := [1]) (bks := [0]) (by kernel_rfl) (by kernel_rfl) (by kernel_rfl) (.inl rfl) rfl rfl (by kernel_rfl) (by kernel_rfl) _ (fun _ _ => rfl) _ _ (fun _ _ => rfl) (fun _ _ => rfl) (fun _ _ => by kernel_rfl) (fun _ _ => by kernel_rfl) (fun r_15 x_37 => ?_))
      refine GoO.shape (env' := [(0, .pointer (some ⟨b_2, 0, none⟩)), (3, .pointer (some ⟨b_3, 0, none⟩)), (4, .int .u64 last_12), (5, .int .i64 n_13), (27, .pointer (some ⟨b_2, 0, none⟩)), (28, .int .u64 r_15.1)]) (H' := [⟨1, b_2, [.string (bs r_15.2.s), .bool r_15.2.bad]⟩, ⟨40, b_3, [.int .u64 r_4.1, .int .u64 r_5.1, .slice A_10 f_9.length c_11]⟩]) (B' := [Ow 43 kT_session_Row A_10 c_11 f_9]) (ks := [0, 3, 4, 5, 27, 28]) (by kernel_rfl) (by kernel_rfl) (by kernel_rfl) ?_
      refine GoO.exec (is := [2]) (hs := [.p]) (rest := [3, 4]) (ks := [0, 3, 4, 5, 29]) (env' := [(0, .pointer (some ⟨b_2, 0, none⟩)), (3, .pointer (some ⟨b_3, 0, none⟩)), (4, .int .u64 last_12), (5, .int .i64 n_13), (29, .agg ⟨[.int .u64 r_15.1, .int .u64 0, .int .u64 0, .int .i64 0, .int .u64 0, .int .u64 0]⟩)]) (H' := [⟨1, b_2, [.string (bs r_15.2.s), .bool r_15.2.bad]⟩, ⟨40, b_3, [.int .u64 r_4.1, .int .u64 r_5.1, .slice A_10 f_9.length c_11]⟩]) (ps := []) (by kernel_rfl) trivial ?_
      refine OpTo.go (GoO.new rfl 41 (cs := [.int .u64 0, .int .u64 0, .int .u64 0, .int .i64 0, .int .u64 0, .int .u64 0]) (by kernel_rfl) _ (fun _ => rfl) (fun b_16 => ?_))
      refine GoO.exec (is := [4]) (hs := [.b 0]) (rest := []) (ks := [0, 3, 4, 5, 6]) (env' := [(0, .pointer (some ⟨b_2, 0, none⟩)), (3, .pointer (some ⟨b_3, 0, none⟩)), (4, .int .u64 last_12), (5, .int .i64 n_13), (6, .pointer (some ⟨b_16, 0, none⟩))]) (H' := [⟨41, b_16, [.int .u64 r_15.1, .int .u64 0, .int .u64 0, .int .i64 0, .int .u64 0, .int .u64 0]⟩, ⟨1, b_2, [.string (bs r_15.2.s), .bool r_15.2.bad]⟩, ⟨40, b_3, [.int .u64 r_4.1, .int .u64 r_5.1, .slice A_10 f_9.length c_11]⟩]) (ps := [b_16 = b_16]) (by kernel_rfl) (And.intro rfl trivial) ?_
      refine GoO.regionEnd ?_
      refine GoO.seq' c35_25e ?_
      refine GoO.region' (is := [0, 1, 2, 3]) c35_26e (by kernel_rfl) ?_
      refine GoO.exec (is := [0]) (hs := [.p]) (rest := [1, 2, 3]) (ks := [0, 3, 4, 5, 6, 30]) (env' := [(0, .pointer (some ⟨b_2, 0, none⟩)), (3, .pointer (some ⟨b_3, 0, none⟩)), (4, .int .u64 last_12), (5, .int .i64 n_13), (6, .pointer (some ⟨b_16, 0, none⟩)), (30, .pointer (some ⟨b_2, 0, none⟩))]) (H' := [⟨41, b_16, [.int .u64 r_15.1, .int .u64 0, .int .u64 0, .int .i64 0, .int .u64 0, .int .u64 0]⟩, ⟨1, b_2, [.string (bs r_15.2.s), .bool r_15.2.bad]⟩, ⟨40, b_3, [.int .u64 r_4.1, .int .u64 r_5.1, .slice A_10 f_9.length c_11]⟩]) (ps := []) (by kernel_rfl) trivial ?_
      refine OpTo.go (GoO.call rfl (by kernel_rfl) (by kernel_rfl) (pack_Reader_Num_ok n r_15.2 b_2) [[0], [1]] [(1, 1)] [(1, 1)] [] (hks := [0, 2]) (bks := [0]) (by kernel_rfl) (by kernel_rfl) (by kernel_rfl) (.inl rfl) rfl rfl (by kernel_rfl) (by kernel_rfl) _ (fun _ _ => rfl) _ _ (fun _ _ => rfl) (fun _ _ => rfl) (fun _ _ => by kernel_rfl) (fun _ _ => by kernel_rfl) (fun r_17 x_36 => ?_))
      refine GoO.shape (env' := [(0, .pointer (some ⟨b_2, 0, none⟩)), (3, .pointer (some ⟨b_3, 0, none⟩)), (4, .int .u64 last_12), (5, .int .i64 n_13), (6, .pointer (some ⟨b_16, 0, none⟩)), (30, .pointer (some ⟨b_2, 0, none⟩)), (31, .int .u64 r_17.1)]) (H' := [⟨1, b_2, [.string (bs r_17.2.s), .bool r_17.2.bad]⟩, ⟨41, b_16, [.int .u64 r_15.1, .int .u64 0, .int .u64 0, .int .i64 0, .int .u64 0, .int .u64 0]⟩, ⟨40, b_3, [.int .u64 r_4.1, .int .u64 r_5.1, .slice A_10 f_9.length c_11]⟩]) (B' := [Ow 43 kT_session_Row A_10 c_11 f_9]) (ks := [0, 3, 4, 5, 6, 30, 31]) (by kernel_rfl) (by kernel_rfl) (by kernel_rfl) ?_
      refine GoO.exec (is := [2, 3]) (hs := [.p, .b 1]) (rest := []) (ks := [0, 3, 4, 5, 6]) (env' := [(0, .pointer (some ⟨b_2, 0, none⟩)), (3, .pointer (some ⟨b_3, 0, none⟩)), (4, .int .u64 last_12), (5, .int .i64 n_13), (6, .pointer (some ⟨b_16, 0, none⟩))]) (H' := [⟨1, b_2, [.string (bs r_17.2.s), .bool r_17.2.bad]⟩, ⟨41, b_16, [.int .u64 r_15.1, .int .u64 r_17.1, .int .u64 0, .int .i64 0, .int .u64 0, .int .u64 0]⟩, ⟨40, b_3, [.int .u64 r_4.1, .int .u64 r_5.1, .slice A_10 f_9.length c_11]⟩]) (ps := [b_16 = b_16]) (by kernel_rfl) (And.intro rfl trivial) ?_
      refine GoO.regionEnd ?_
      refine GoO.seq' c35_27e ?_
      refine GoO.region' (is := [0, 1, 2, 3]) c35_28e (by kernel_rfl) ?_
      refine GoO.exec (is := [0]) (hs := [.p]) (rest := [1, 2, 3]) (ks := [0, 3, 4, 5, 6, 33]) (env' := [(0, .pointer (some ⟨b_2, 0, none⟩)), (3, .pointer (some ⟨b_3, 0, none⟩)), (4, .int .u64 last_12), (5, .int .i64 n_13), (6, .pointer (some ⟨b_16, 0, none⟩)), (33, .pointer (some ⟨b_2, 0, none⟩))]) (H' := [⟨1, b_2, [.string (bs r_17.2.s), .bool r_17.2.bad]⟩, ⟨41, b_16, [.int .u64 r_15.1, .int .u64 r_17.1, .int .u64 0, .int .i64 0, .int .u64 0, .int .u64 0]⟩, ⟨40, b_3, [.int .u64 r_4.1, .int .u64 r_5.1, .slice A_10 f_9.length c_11]⟩]) (ps := []) (by kernel_rfl) trivial ?_
      refine OpTo.go (GoO.call rfl (by kernel_rfl) (by kernel_rfl) (pack_Reader_Num_ok n r_17.2 b_2) [[0], [1]] [(1, 1)] [(1, 0)] [] (hks := [1, 2]) (bks := [0]) (by kernel_rfl) (by kernel_rfl) (by kernel_rfl) (.inl rfl) rfl rfl (by kernel_rfl) (by kernel_rfl) _ (fun _ _ => rfl) _ _ (fun _ _ => rfl) (fun _ _ => rfl) (fun _ _ => by kernel_rfl) (fun _ _ => by kernel_rfl) (fun r_18 x_35 => ?_))
      refine GoO.shape (env' := [(0, .pointer (some ⟨b_2, 0, none⟩)), (3, .pointer (some ⟨b_3, 0, none⟩)), (4, .int .u64 last_12), (5, .int .i64 n_13), (6, .pointer (some ⟨b_16, 0, none⟩)), (33, .pointer (some ⟨b_2, 0, none⟩)), (34, .int .u64 r_18.1)]) (H' := [⟨1, b_2, [.string (bs r_18.2.s), .bool r_18.2.bad]⟩, ⟨41, b_16, [.int .u64 r_15.1, .int .u64 r_17.1, .int .u64 0, .int .i64 0, .int .u64 0, .int .u64 0]⟩, ⟨40, b_3, [.int .u64 r_4.1, .int .u64 r_5.1, .slice A_10 f_9.length c_11]⟩]) (B' := [Ow 43 kT_session_Row A_10 c_11 f_9]) (ks := [0, 3, 4, 5, 6, 33, 34]) (by kernel_rfl) (by kernel_rfl) (by kernel_rfl) ?_
      refine GoO.exec (is := [2, 3]) (hs := [.p, .b 1]) (rest := []) (ks := [0, 3, 4, 5, 6]) (env' := [(0, .pointer (some ⟨b_2, 0, none⟩)), (3, .pointer (some ⟨b_3, 0, none⟩)), (4, .int .u64 last_12), (5, .int .i64 n_13), (6, .pointer (some ⟨b_16, 0, none⟩))]) (H' := [⟨1, b_2, [.string (bs r_18.2.s), .bool r_18.2.bad]⟩, ⟨41, b_16, [.int .u64 r_15.1, .int .u64 r_17.1, .int .u64 r_18.1, .int .i64 0, .int .u64 0, .int .u64 0]⟩, ⟨40, b_3, [.int .u64 r_4.1, .int .u64 r_5.1, .slice A_10 f_9.length c_11]⟩]) (ps := [b_16 = b_16]) (by kernel_rfl) (And.intro rfl trivial) ?_
      refine GoO.regionEnd ?_
      refine GoO.seq' c35_29e ?_
      refine GoO.region' (is := [0, 1, 2, 3, 4]) c35_30e (by kernel_rfl) ?_
      refine GoO.exec (is := [0]) (hs := [.p]) (rest := [1, 2, 3, 4]) (ks := [0, 3, 4, 5, 6, 36]) (env' := [(0, .pointer (some ⟨b_2, 0, none⟩)), (3, .pointer (some ⟨b_3, 0, none⟩)), (4, .int .u64 last_12), (5, .int .i64 n_13), (6, .pointer (some ⟨b_16, 0, none⟩)), (36, .pointer (some ⟨b_2, 0, none⟩))]) (H' := [⟨1, b_2, [.string (bs r_18.2.s), .bool r_18.2.bad]⟩, ⟨41, b_16, [.int .u64 r_15.1, .int .u64 r_17.1, .int .u64 r_18.1, .int .i64 0, .int .u64 0, .int .u64 0]⟩, ⟨40, b_3, [.int .u64 r_4.1, .int .u64 r_5.1, .slice A_10 f_9.length c_11]⟩]) (ps := []) (by kernel_rfl) trivial ?_
      refine OpTo.go (GoO.call rfl (by kernel_rfl) (by kernel_rfl) (pack_Reader_Up_ok n r_18.2 52 b_2) [[0], [1]] [(1, 1)] [(1, 0)] [] (hks := [1, 2]) (bks := [0]) (by kernel_rfl) (by kernel_rfl) (by kernel_rfl) (.inl rfl) rfl rfl (by kernel_rfl) (by kernel_rfl) _ (fun _ _ => rfl) _ _ (fun _ _ => rfl) (fun _ _ => rfl) (fun _ _ => by kernel_rfl) (fun _ _ => by kernel_rfl) (fun r_19 x_34 => ?_))
      refine GoO.shape (env' := [(0, .pointer (some ⟨b_2, 0, none⟩)), (3, .pointer (some ⟨b_3, 0, none⟩)), (4, .int .u64 last_12), (5, .int .i64 n_13), (6, .pointer (some ⟨b_16, 0, none⟩)), (36, .pointer (some ⟨b_2, 0, none⟩)), (37, .int .i64 r_19.1)]) (H' := [⟨1, b_2, [.string (bs r_19.2.s), .bool r_19.2.bad]⟩, ⟨41, b_16, [.int .u64 r_15.1, .int .u64 r_17.1, .int .u64 r_18.1, .int .i64 0, .int .u64 0, .int .u64 0]⟩, ⟨40, b_3, [.int .u64 r_4.1, .int .u64 r_5.1, .slice A_10 f_9.length c_11]⟩]) (B' := [Ow 43 kT_session_Row A_10 c_11 f_9]) (ks := [0, 3, 4, 5, 6, 36, 37]) (by kernel_rfl) (by kernel_rfl) (by kernel_rfl) ?_
      refine GoO.exec (is := [2, 3, 4]) (hs := [.p, .p, .b 1]) (rest := []) (ks := [0, 3, 4, 5, 6]) (env' := [(0, .pointer (some ⟨b_2, 0, none⟩)), (3, .pointer (some ⟨b_3, 0, none⟩)), (4, .int .u64 last_12), (5, .int .i64 n_13), (6, .pointer (some ⟨b_16, 0, none⟩))]) (H' := [⟨1, b_2, [.string (bs r_19.2.s), .bool r_19.2.bad]⟩, ⟨41, b_16, [.int .u64 r_15.1, .int .u64 r_17.1, .int .u64 r_18.1, .int .i64 r_19.1, .int .u64 0, .int .u64 0]⟩, ⟨40, b_3, [.int .u64 r_4.1, .int .u64 r_5.1, .slice A_10 f_9.length c_11]⟩]) (ps := [b_16 = b_16]) (by kernel_rfl) (And.intro rfl trivial) ?_
      refine GoO.regionEnd ?_
      refine GoO.seq' c35_31e ?_
      refine GoO.region' (is := [0, 1, 2, 3, 4]) c35_32e (by kernel_rfl) ?_
      refine GoO.exec (is := [0]) (hs := [.p]) (rest := [1, 2, 3, 4]) (ks := [0, 3, 4, 5, 6, 40]) (env' := [(0, .pointer (some ⟨b_2, 0, none⟩)), (3, .pointer (some ⟨b_3, 0, none⟩)), (4, .int .u64 last_12), (5, .int .i64 n_13), (6, .pointer (some ⟨b_16, 0, none⟩)), (40, .pointer (some ⟨b_2, 0, none⟩))]) (H' := [⟨1, b_2, [.string (bs r_19.2.s), .bool r_19.2.bad]⟩, ⟨41, b_16, [.int .u64 r_15.1, .int .u64 r_17.1, .int .u64 r_18.1, .int .i64 r_19.1, .int .u64 0, .int .u64 0]⟩, ⟨40, b_3, [.int .u64 r_4.1, .int .u64 r_5.1, .slice A_10 f_9.length c_11]⟩]) (ps := []) (by kernel_rfl) trivial ?_
      refine OpTo.go (GoO.call rfl (by kernel_rfl) (by kernel_rfl) (pack_Reader_Num_ok n r_19.2 b_2) [[0], [1]] [(1, 1)] [(1, 0)] [] (hks := [1, 2]) (bks := [0]) (by kernel_rfl) (by kernel_rfl) (by kernel_rfl) (.inl rfl) rfl rfl (by kernel_rfl) (by kernel_rfl) _ (fun _ _ => rfl) _ _ (fun _ _ => rfl) (fun _ _ => rfl) (fun _ _ => by kernel_rfl) (fun _ _ => by kernel_rfl) (fun r_20 x_33 => ?_))
      refine GoO.shape (env' := [(0, .pointer (some ⟨b_2, 0, none⟩)), (3, .pointer (some ⟨b_3, 0, none⟩)), (4, .int .u64 last_12), (5, .int .i64 n_13), (6, .pointer (some ⟨b_16, 0, none⟩)), (40, .pointer (some ⟨b_2, 0, none⟩)), (41, .int .u64 r_20.1)]) (H' := [⟨1, b_2, [.string (bs r_20.2.s), .bool r_20.2.bad]⟩, ⟨41, b_16, [.int .u64 r_15.1, .int .u64 r_17.1, .int .u64 r_18.1, .int .i64 r_19.1, .int .u64 0, .int .u64 0]⟩, ⟨40, b_3, [.int .u64 r_4.1, .int .u64 r_5.1, .slice A_10 f_9.length c_11]⟩]) (B' := [Ow 43 kT_session_Row A_10 c_11 f_9]) (ks := [0, 3, 4, 5, 6, 40, 41]) (by kernel_rfl) (by kernel_rfl) (by kernel_rfl) ?_
      refine GoO.exec (is := [2, 3, 4]) (hs := [.p, .p, .b 1]) (rest := []) (ks := [0, 3, 4, 5, 6]) (env' := [(0, .pointer (some ⟨b_2, 0, none⟩)), (3, .pointer (some ⟨b_3, 0, none⟩)), (4, .int .u64 last_12), (5, .int .i64 n_13), (6, .pointer (some ⟨b_16, 0, none⟩))]) (H' := [⟨1, b_2, [.string (bs r_20.2.s), .bool r_20.2.bad]⟩, ⟨41, b_16, [.int .u64 r_15.1, .int .u64 r_17.1, .int .u64 r_18.1, .int .i64 r_19.1, .int .u64 r_20.1, .int .u64 0]⟩, ⟨40, b_3, [.int .u64 r_4.1, .int .u64 r_5.1, .slice A_10 f_9.length c_11]⟩]) (ps := [b_16 = b_16]) (by kernel_rfl) (And.intro rfl trivial) ?_
      refine GoO.regionEnd ?_
      refine GoO.seq' c35_33e ?_
      refine GoO.region' (is := [0, 1, 2, 3, 4]) c35_34e (by kernel_rfl) ?_
      refine GoO.exec (is := [0]) (hs := [.p]) (rest := [1, 2, 3, 4]) (ks := [0, 3, 4, 5, 6, 44]) (env' := [(0, .pointer (some ⟨b_2, 0, none⟩)), (3, .pointer (some ⟨b_3, 0, none⟩)), (4, .int .u64 last_12), (5, .int .i64 n_13), (6, .pointer (some ⟨b_16, 0, none⟩)), (44, .pointer (some ⟨b_2, 0, none⟩))]) (H' := [⟨1, b_2, [.string (bs r_20.2.s), .bool r_20.2.bad]⟩, ⟨41, b_16, [.int .u64 r_15.1, .int .u64 r_17.1, .int .u64 r_18.1, .int .i64 r_19.1, .int .u64 r_20.1, .int .u64 0]⟩, ⟨40, b_3, [.int .u64 r_4.1, .int .u64 r_5.1, .slice A_10 f_9.length c_11]⟩]) (ps := []) (by kernel_rfl) trivial ?_
      refine OpTo.go (GoO.call rfl (by kernel_rfl) (by kernel_rfl) (pack_Reader_Num_ok n r_20.2 b_2) [[0], [1]] [(1, 1)] [(1, 0)] [] (hks := [1, 2]) (bks := [0]) (by kernel_rfl) (by kernel_rfl) (by kernel_rfl) (.inl rfl) rfl rfl (by kernel_rfl) (by kernel_rfl) _ (fun _ _ => rfl) _ _ (fun _ _ => rfl) (fun _ _ => rfl) (fun _ _ => by kernel_rfl) (fun _ _ => by kernel_rfl) (fun r_21 x_32 => ?_))
      refine GoO.shape (env' := [(0, .pointer (some ⟨b_2, 0, none⟩)), (3, .pointer (some ⟨b_3, 0, none⟩)), (4, .int .u64 last_12), (5, .int .i64 n_13), (6, .pointer (some ⟨b_16, 0, none⟩)), (44, .pointer (some ⟨b_2, 0, none⟩)), (45, .int .u64 r_21.1)]) (H' := [⟨1, b_2, [.string (bs r_21.2.s), .bool r_21.2.bad]⟩, ⟨41, b_16, [.int .u64 r_15.1, .int .u64 r_17.1, .int .u64 r_18.1, .int .i64 r_19.1, .int .u64 r_20.1, .int .u64 0]⟩, ⟨40, b_3, [.int .u64 r_4.1, .int .u64 r_5.1, .slice A_10 f_9.length c_11]⟩]) (B' := [Ow 43 kT_session_Row A_10 c_11 f_9]) (ks := [0, 3, 4, 5, 6, 44, 45]) (by kernel_rfl) (by kernel_rfl) (by kernel_rfl) ?_
      refine GoO.exec (is := [2, 3, 4]) (hs := [.p, .p, .b 1]) (rest := []) (ks := [0, 3, 4, 5, 6]) (env' := [(0, .pointer (some ⟨b_2, 0, none⟩)), (3, .pointer (some ⟨b_3, 0, none⟩)), (4, .int .u64 last_12), (5, .int .i64 n_13), (6, .pointer (some ⟨b_16, 0, none⟩))]) (H' := [⟨1, b_2, [.string (bs r_21.2.s), .bool r_21.2.bad]⟩, ⟨41, b_16, [.int .u64 r_15.1, .int .u64 r_17.1, .int .u64 r_18.1, .int .i64 r_19.1, .int .u64 r_20.1, .int .u64 r_21.1]⟩, ⟨40, b_3, [.int .u64 r_4.1, .int .u64 r_5.1, .slice A_10 f_9.length c_11]⟩]) (ps := [b_16 = b_16]) (by kernel_rfl) (And.intro rfl trivial) ?_
      refine GoO.regionEnd ?_
      refine GoO.seq' c35_35e ?_
      refine GoO.seq' c35_36e ?_
      refine GoO.draw c35_37e (by kernel_rfl) [] [⟨41, b_16, [.int .u64 r_15.1, .int .u64 r_17.1, .int .u64 r_18.1, .int .i64 r_19.1, .int .u64 r_20.1, .int .u64 r_21.1]⟩, ⟨40, b_3, [.int .u64 r_4.1, .int .u64 r_5.1, .slice A_10 f_9.length c_11]⟩] [] (n := 32) (by kernel_rfl) ?_
      simp only [List.replicate]
      refine GoF.take [0, 1, 2, 3, 4] [.p, .b 0, .p, .p, .p] (ks := [0, 3, 5, 6, 52]) (fu := 27) (li := [true, true, true, true, true, false, false, false, false, false, false, false, false, false, false, false, false, false, false, false, false, false, false, false, false, false, false, false, false, false, false, false]) (env' := [(0, .pointer (some ⟨b_2, 0, none⟩)), (3, .pointer (some ⟨b_3, 0, none⟩)), (5, .int .i64 n_13), (6, .pointer (some ⟨b_16, 0, none⟩)), (52, .bool (decide (r_15.1 ≤ last_12)))]) (ps := [b_16 = b_16]) (hk := [1, 2]) (bk := []) (by kernel_rfl) (And.intro rfl trivial) rfl rfl ?_
      refine GoF.bsplit (t := 52) (by kernel_rfl) (fun h22 => ?_) (fun h22 => ?_)
      · refine GoF.take [5, 6, 7, 8, 9, 10, 11, 12, 13, 14, 15, 16, 17, 18, 19, 20, 21, 22, 23, 24, 25, 26, 27, 28, 29, 30, 31] [.p, .p, .p, .p, .p, .p, .p, .p, .p, .p, .p, .p, .p, .p, .p, .p, .p, .p, .p, .p, .p, .p, .p, .p, .p, .p, .p] (ks := [0, 3, 5, 6, 79]) (fu := 0) (li := [true, true, true, true, true, true, true, true, true, true, true, true, true, true, true, true, true, true, true, true, true, true, true, true, true, true, true, true, true, true, true, true]) (env' := [(0, .pointer (some ⟨b_2, 0, none⟩)), (3, .pointer (some ⟨b_3, 0, none⟩)), (5, .int .i64 n_13), (6, .pointer (some ⟨b_16, 0, none⟩)), (79, .bool true)]) (ps := []) (hk := [1, 2]) (bk := []) (by kernel_rfl) trivial rfl rfl ?_
        refine GoF.done (by kernel_rfl) ?_
        exact GoO.sub (ks := [0, 3, 5, 6, 79]) (hk := [0, 2, 1]) (bk := [0]) (by kernel_rfl) (by kernel_rfl) (by kernel_rfl) (session_Read_j0_ok n (session_Read.l0 n r_4 r_5 k) r_4 r_5 f_7 f_8 f_9 last_12 n_13 r_15 r_17 r_18 r_19 r_20 r_21 b_2 b_3 A_10 c_11 b_16 w0 S0 ih0 true)
      · refine GoF.take [5, 6, 7, 8, 9, 10, 11, 12, 13] [.p, .b 0, .p, .p, .p, .b 1, .p, .p, .p] (ks := [0, 3, 5, 6, 61]) (fu := 18) (li := [true, true, true, true, true, true, true, true, true, true, true, true, true, true, false, false, false, false, false, false, false, false, false, false, false, false, false, false, false, false, false, false]) (env' := [(0, .pointer (some ⟨b_2, 0, none⟩)), (3, .pointer (some ⟨b_3, 0, none⟩)), (5, .int .i64 n_13), (6, .pointer (some ⟨b_16, 0, none⟩)), (61, .bool (decide (r_15.1 ≥ r_5.1)))]) (ps := [b_16 = b_16, b_3 = b_3]) (hk := [1, 2]) (bk := []) (by kernel_rfl) (And.intro rfl (And.intro rfl trivial)) rfl rfl ?_
        refine GoF.bsplit (t := 61) (by kernel_rfl) (fun h23 => ?_) (fun h23 => ?_)
        · refine GoF.take [14, 15, 16, 17, 18, 19, 20, 21, 22, 23, 24, 25, 26, 27, 28, 29, 30, 31] [.p, .p, .p, .p, .p, .p, .p, .p, .p, .p, .p, .p, .p, .p, .p, .p, .p, .p] (ks := [0, 3, 5, 6, 79]) (fu := 0) (li := [true, true, true, true, true, true, true, true, true, true, true, true, true, true, true, true, true, true, true, true, true, true, true, true, true, true, true, true, true, true, true, true]) (env' := [(0, .pointer (some ⟨b_2, 0, none⟩)), (3, .pointer (some ⟨b_3, 0, none⟩)), (5, .int .i64 n_13), (6, .pointer (some ⟨b_16, 0, none⟩)), (79, .bool true)]) (ps := []) (hk := [1, 2]) (bk := []) (by kernel_rfl) trivial rfl rfl ?_
          refine GoF.done (by kernel_rfl) ?_
          exact GoO.sub (ks := [0, 3, 5, 6, 79]) (hk := [0, 2, 1]) (bk := [0]) (by kernel_rfl) (by kernel_rfl) (by kernel_rfl) (session_Read_j0_ok n (session_Read.l0 n r_4 r_5 k) r_4 r_5 f_7 f_8 f_9 last_12 n_13 r_15 r_17 r_18 r_19 r_20 r_21 b_2 b_3 A_10 c_11 b_16 w0 S0 ih0 true)
        · refine GoF.take [14, 15, 16, 17, 18, 19, 20, 21, 22] [.p, .b 0, .p, .p, .p, .b 1, .p, .p, .p] (ks := [0, 3, 5, 6, 70]) (fu := 9) (li := [true, true, true, true, true, true, true, true, true, true, true, true, true, true, true, true, true, true, true, true, true, true, true, false, false, false, false, false, false, false, false, false]) (env' := [(0, .pointer (some ⟨b_2, 0, none⟩)), (3, .pointer (some ⟨b_3, 0, none⟩)), (5, .int .i64 n_13), (6, .pointer (some ⟨b_16, 0, none⟩)), (70, .bool (decide (r_17.1 > r_4.1)))]) (ps := [b_16 = b_16, b_3 = b_3]) (hk := [1, 2]) (bk := []) (by kernel_rfl) (And.intro rfl (And.intro rfl trivial)) rfl rfl ?_
          refine GoF.bsplit (t := 70) (by kernel_rfl) (fun h24 => ?_) (fun h24 => ?_)
          · refine GoF.take [23, 24, 25, 26, 27, 28, 29, 30, 31] [.p, .p, .p, .p, .p, .p, .p, .p, .p] (ks := [0, 3, 5, 6, 79]) (fu := 0) (li := [true, true, true, true, true, true, true, true, true, true, true, true, true, true, true, true, true, true, true, true, true, true, true, true, true, true, true, true, true, true, true, true]) (env' := [(0, .pointer (some ⟨b_2, 0, none⟩)), (3, .pointer (some ⟨b_3, 0, none⟩)), (5, .int .i64 n_13), (6, .pointer (some ⟨b_16, 0, none⟩)), (79, .bool true)]) (ps := []) (hk := [1, 2]) (bk := []) (by kernel_rfl) trivial rfl rfl ?_
            refine GoF.done (by kernel_rfl) ?_
            exact GoO.sub (ks := [0, 3, 5, 6, 79]) (hk := [0, 2, 1]) (bk := [0]) (by kernel_rfl) (by kernel_rfl) (by kernel_rfl) (session_Read_j0_ok n (session_Read.l0 n r_4 r_5 k) r_4 r_5 f_7 f_8 f_9 last_12 n_13 r_15 r_17 r_18 r_19 r_20 r_21 b_2 b_3 A_10 c_11 b_16 w0 S0 ih0 true)
          · refine GoF.take [23, 24, 25, 26, 27, 28, 29, 30, 31] [.p, .p, .p, .b 1, .p, .b 0, .p, .p, .p] (ks := [0, 3, 5, 6, 79]) (fu := 0) (li := [true, true, true, true, true, true, true, true, true, true, true, true, true, true, true, true, true, true, true, true, true, true, true, true, true, true, true, true, true, true, true, true]) (env' := [(0, .pointer (some ⟨b_2, 0, none⟩)), (3, .pointer (some ⟨b_3, 0, none⟩)), (5, .int .i64 n_13), (6, .pointer (some ⟨b_16, 0, none⟩)), (79, .bool (decide ((wu64 (r_4.1 - r_17.1)) > 1000)))]) (ps := [b_3 = b_3, b_16 = b_16]) (hk := [1, 2]) (bk := []) (by kernel_rfl) (And.intro rfl (And.intro rfl trivial)) rfl rfl ?_
            refine GoF.done (by kernel_rfl) ?_
            exact GoO.sub (ks := [0, 3, 5, 6, 79]) (hk := [0, 2, 1]) (bk := [0]) (by kernel_rfl) (by kernel_rfl) (by kernel_rfl) (session_Read_j0_ok n (session_Read.l0 n r_4 r_5 k) r_4 r_5 f_7 f_8 f_9 last_12 n_13 r_15 r_17 r_18 r_19 r_20 r_21 b_2 b_3 A_10 c_11 b_16 w0 S0 ih0 (decide ((wu64 (r_4.1 - r_17.1)) > 1000)))
    · refine GoO.exit' c35_20e rfl ?_
      refine GoO.seq' c35_47e ?_
      refine GoO.seq' c35_48e ?_
      refine GoO.region' (is := [0, 1, 2, 3, 4, 5, 6]) c35_49e (by kernel_rfl) ?_
      refine GoO.exec (is := [0]) (hs := [.p]) (rest := [1, 2, 3, 4, 5, 6]) (ks := [3, 93]) (env' := [(3, .pointer (some ⟨b_3, 0, none⟩)), (93, .pointer (some ⟨b_2, 0, none⟩))]) (H' := [⟨1, b_2, [.string (bs f_7), .bool f_8]⟩, ⟨40, b_3, [.int .u64 r_4.1, .int .u64 r_5.1, .slice A_10 f_9.length c_11]⟩]) (ps := []) (by kernel_rfl) trivial ?_
      refine OpTo.go (GoO.call rfl (by kernel_rfl) (by kernel_rfl) (pack_Reader_Left_ok n (⟨f_7, f_8⟩ : T_pack_Reader) b_2) [[0], [1]] [] [(1, 0)] [] (hks := [0, 1]) (bks := [0]) (by kernel_rfl) (by kernel_rfl) (by kernel_rfl) (.inl rfl) rfl rfl (by kernel_rfl) (by kernel_rfl) _ (fun _ _ => rfl) _ _ (fun _ _ => rfl) (fun _ _ => rfl) (fun _ _ => by kernel_rfl) (fun _ _ => by kernel_rfl) (fun r_38 x_41 => ?_))
      refine GoO.shape (env' := [(3, .pointer (some ⟨b_3, 0, none⟩)), (93, .pointer (some ⟨b_2, 0, none⟩)), (94, .tuple ⟨[.int .i64 r_38.1, .bool r_38.2]⟩)]) (H' := [⟨1, b_2, [.string (bs f_7), .bool f_8]⟩, ⟨40, b_3, [.int .u64 r_4.1, .int .u64 r_5.1, .slice A_10 f_9.length c_11]⟩]) (B' := [Ow 43 kT_session_Row A_10 c_11 f_9]) (ks := [3, 93, 94]) (by kernel_rfl) (by kernel_rfl) (by kernel_rfl) ?_
      refine GoO.exec (is := [2, 3, 4, 5, 6]) (hs := [.p, .p, .p, .p, .p]) (rest := []) (ks := [3, 8]) (env' := [(3, .pointer (some ⟨b_3, 0, none⟩)), (8, .bool r_38.2)]) (H' := [⟨1, b_2, [.string (bs f_7), .bool f_8]⟩, ⟨40, b_3, [.int .u64 r_4.1, .int .u64 r_5.1, .slice A_10 f_9.length c_11]⟩]) (ps := []) (by kernel_rfl) trivial ?_
      refine GoO.regionEnd ?_
      refine GoO.seq' c35_50e ?_
      refine GoO.region' (is := [0, 1, 2, 3, 4, 5, 6, 7, 8]) c35_51e (by kernel_rfl) ?_
      refine GoO.exec (is := [0, 1, 2]) (hs := [.p, .p, .p]) (rest := [3, 4, 5, 6, 7, 8]) (ks := [3, 99]) (env' := [(3, .pointer (some ⟨b_3, 0, none⟩)), (99, .bool (!r_38.2))]) (H' := [⟨1, b_2, [.string (bs f_7), .bool f_8]⟩, ⟨40, b_3, [.int .u64 r_4.1, .int .u64 r_5.1, .slice A_10 f_9.length c_11]⟩]) (ps := []) (by kernel_rfl) trivial ?_
      refine GoO.bsplit (t := 99) (by kernel_rfl) (fun h39 => ?_) (fun h39 => ?_)
      · refine GoO.exec (is := [3, 4, 5, 6, 7, 8]) (hs := [.p, .p, .p, .p, .p, .p]) (rest := []) (ks := [3, 105]) (env' := [(3, .pointer (some ⟨b_3, 0, none⟩)), (105, .bool true)]) (H' := [⟨1, b_2, [.string (bs f_7), .bool f_8]⟩, ⟨40, b_3, [.int .u64 r_4.1, .int .u64 r_5.1, .slice A_10 f_9.length c_11]⟩]) (ps := []) (by kernel_rfl) trivial ?_
        refine GoO.regionEnd ?_
        refine GoO.condT c35_52e (by kernel_rfl) ?_
        refine GoO.seq' c35_53e ?_
        refine GoO.region' (is := [0]) c35_54e (by kernel_rfl) ?_
        refine GoO.exec (is := [0]) (hs := [.p]) (rest := []) (ks := [2]) (env' := [(2, .pointer none)]) (H' := [⟨1, b_2, [.string (bs f_7), .bool f_8]⟩, ⟨40, b_3, [.int .u64 r_4.1, .int .u64 r_5.1, .slice A_10 f_9.length c_11]⟩]) (ps := []) (by kernel_rfl) trivial ?_
        refine GoO.regionEnd ?_
        exact GoO.ret' (h := c35_55e) (hs := []) (ps := []) (hk := [0]) (bk := []) Try.func35 (⟨0, none, 0⟩ : Nat × Option Addr × Nat) (by kernel_rfl) trivial (by kernel_rfl) (by kernel_rfl)
      · refine GoO.exec (is := [3, 4, 5, 6, 7, 8]) (hs := [.p, .p, .p, .b 1, .p, .p]) (rest := []) (ks := [3, 105]) (env' := [(3, .pointer (some ⟨b_3, 0, none⟩)), (105, .bool (r_5.1 == 0))]) (H' := [⟨1, b_2, [.string (bs f_7), .bool f_8]⟩, ⟨40, b_3, [.int .u64 r_4.1, .int .u64 r_5.1, .slice A_10 f_9.length c_11]⟩]) (ps := [b_3 = b_3]) (by kernel_rfl) (And.intro rfl trivial) ?_
        refine GoO.regionEnd ?_
        refine GoO.ite' c35_52e (by kernel_rfl) (fun h40 => ?_) (fun h40 => ?_)
        · refine GoO.seq' c35_53e ?_
          refine GoO.region' (is := [0]) c35_54e (by kernel_rfl) ?_
          refine GoO.exec (is := [0]) (hs := [.p]) (rest := []) (ks := [2]) (env' := [(2, .pointer none)]) (H' := [⟨1, b_2, [.string (bs f_7), .bool f_8]⟩, ⟨40, b_3, [.int .u64 r_4.1, .int .u64 r_5.1, .slice A_10 f_9.length c_11]⟩]) (ps := []) (by kernel_rfl) trivial ?_
          refine GoO.regionEnd ?_
          exact GoO.ret' (h := c35_55e) (hs := []) (ps := []) (hk := [0]) (bk := []) Try.func35 (⟨0, none, 0⟩ : Nat × Option Addr × Nat) (by kernel_rfl) trivial (by kernel_rfl) (by kernel_rfl)
        · refine GoO.skip' c35_56e ?_
          refine GoO.seq' c35_57e ?_
          refine GoO.region' (is := [0, 1]) c35_58e (by kernel_rfl) ?_
          refine GoO.exec (is := [0, 1]) (hs := [.p, .p]) (rest := []) (ks := [2]) (env' := [(2, .pointer (some ⟨b_3, 0, none⟩))]) (H' := [⟨1, b_2, [.string (bs f_7), .bool f_8]⟩, ⟨40, b_3, [.int .u64 r_4.1, .int .u64 r_5.1, .slice A_10 f_9.length c_11]⟩]) (ps := []) (by kernel_rfl) trivial ?_
          refine GoO.regionEnd ?_
          refine GoO.retag (t := 43) (u := 3) (j := 0) (hk := [0, 1]) (bk := []) rfl rfl rfl rfl rfl rfl (by kernel_rfl) (by kernel_rfl) ?_
          refine GoO.retagB (t := 40) (u := 2) (j := 1) (hk := [0]) (bk := [0]) rfl rfl rfl rfl rfl rfl (by kernel_rfl) (by kernel_rfl) ?_
          exact GoO.ret' (h := c35_59e) (hs := []) (ps := []) (hk := [0, 1]) (bk := [0]) Try.func35 (⟨b_3, A_10, c_11⟩ : Nat × Option Addr × Nat) (by kernel_rfl) trivial (by kernel_rfl) (by kernel_rfl)
end Go.GL
