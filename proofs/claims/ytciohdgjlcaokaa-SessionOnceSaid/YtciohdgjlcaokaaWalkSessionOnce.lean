import Derived.Test.YtciohdgjlcaokaaKindsT4
import Derived.Test.YtciohdgjlcaokaaProg
set_option linter.unusedVariables false
set_option linter.unusedSimpArgs false
set_option maxRecDepth 100000
namespace Go.GL
open Go Go.Proofs

theorem ky27_dec (a b : Int) : decide (a = b) = (a == b) := by rw [Bool.eq_iff_iff]; simp

noncomputable def ky27 : Ky Try.prog 28 Int where
  enc := fun k => .int .u64 k
  eq := fun a b w => by
    have h : eqV Try.prog 2 28 (.int .u64 a) (.int .u64 b) = some (a == b) := by kernel_rfl
    rw [ky27_dec a b]; exact eqV_ok 9998 2 28 _ _ _ h w
  chk := fun a e w => by kernel_rfl
  td := (Try.prog.underlying 28).getD default
  und := by kernel_rfl
  now := fun a b => .inr (by rw [ky27_dec a b]; kernel_rfl)
  same := fun a => by simp [Instr.sameBits]

theorem ky26_dec (a b : T_tontinelaw15_one) : decide (a = b) = ((a.id == b.id) && ((a.seq == b.seq) && true)) := by cases a; cases b; rw [Bool.eq_iff_iff]; simp

noncomputable def ky26 : Ky Try.prog 38 T_tontinelaw15_one where
  enc := fun k => .agg ⟨[.int .u64 k.id, .int .u64 k.seq]⟩
  eq := fun a b w => by
    have h : eqV Try.prog 2 38 (.agg ⟨[.int .u64 a.id, .int .u64 a.seq]⟩) (.agg ⟨[.int .u64 b.id, .int .u64 b.seq]⟩) = some ((a.id == b.id) && ((a.seq == b.seq) && true)) := by kernel_rfl
    rw [ky26_dec a b]; exact eqV_ok 9998 2 38 _ _ _ h w
  chk := fun a e w => by kernel_rfl
  td := (Try.prog.underlying 38).getD default
  und := by kernel_rfl
  now := fun a b => .inl (by kernel_rfl)
  same := fun a => by simp [Instr.sameBits]

/-! tontine/session.New -/
noncomputable def c15_0 : Code := bodyOf Try.f15
noncomputable def c15_1 : Code := cdL c15_0
noncomputable def c15_2 : Code := cdR c15_0
noncomputable def c15_3 : Code := cdL c15_2
noncomputable def c15_4 : Code := cdR c15_2
noncomputable def r15_1 : Array Oper := cdO c15_1
noncomputable def r15_3 : Array Oper := cdO c15_3
theorem c15_0e : c15_0 = .seq c15_1 c15_2 := by kernel_rfl
theorem c15_1e : c15_1 = .region 0 r15_1 false := by kernel_rfl
theorem c15_2e : c15_2 = .seq c15_3 c15_4 := by kernel_rfl
theorem c15_3e : c15_3 = .region 1 r15_3 false := by kernel_rfl
theorem c15_4e : c15_4 = .ret := by kernel_rfl
noncomputable def session_New.R : Pst T_session_Table where
  ε := Nat × Option Addr × Nat
  v := fun r x => .pointer (some ⟨x.1, 0, none⟩)
  H := fun r x => [⟨1, x.1, [.int .u64 r.now, .int .u64 r.next, .slice x.2.1 r.rows.length x.2.2]⟩]
  B := fun r x => [Ow 2 kT_session_Row x.2.1 x.2.2 r.rows]
noncomputable def session_New.cx (w0 : World) (S0 : Fam) : Cx T_session_Table := ⟨Try.prog, 15, Try.f15, 3, w0, S0, [], 0, session_New.R⟩
theorem session_New_ok (n : Nat) :
    Meets Try.prog 15 [] 0 [] [] [] (session_New.f n) (session_New.R) := by
  refine Meets.of (c := c15_0) (n := 3) Try.func15 (by kernel_rfl) (by kernel_rfl) (by kernel_rfl) fun w0 S0 => ?_
  unfold session_New.f
  show GoO (session_New.cx w0 S0) [] [] [] [.code c15_0] _
  refine GoO.seq' c15_0e ?_
  refine GoO.region' (is := [0]) c15_1e (by kernel_rfl) ?_
  refine GoO.exec (is := [0]) (hs := [.p]) (rest := []) (ks := []) (env' := []) (H' := []) (ps := []) (by kernel_rfl) trivial ?_
  refine GoO.regionEnd ?_
  refine GoO.seq' c15_2e ?_
  refine GoO.region' (is := [0, 1, 2]) c15_3e (by kernel_rfl) ?_
  refine GoO.exec (is := [0]) (hs := [.p]) (rest := [1, 2]) (ks := [1]) (env' := [(1, .agg ⟨[.int .u64 0, .int .u64 1, .slice none ([] : List T_session_Row).length 0]⟩)]) (H' := []) (ps := []) (by kernel_rfl) trivial ?_
  refine OpTo.go (GoO.new rfl 40 (cs := [.int .u64 0, .int .u64 1, .slice none ([] : List T_session_Row).length 0]) (by kernel_rfl) _ (fun _ => rfl) (fun b_1 => ?_))
  refine GoO.exec (is := [2]) (hs := [.p]) (rest := []) (ks := [0]) (env' := [(0, .pointer (some ⟨b_1, 0, none⟩))]) (H' := [⟨40, b_1, [.int .u64 0, .int .u64 1, .slice none ([] : List T_session_Row).length 0]⟩]) (ps := []) (by kernel_rfl) trivial ?_
  refine GoO.regionEnd ?_
  refine GoO.nilOwn kT_session_Row 2 ?_
  refine GoO.retagB (t := 40) (u := 1) (j := 0) (hk := []) (bk := [0]) rfl rfl rfl rfl rfl rfl (by kernel_rfl) (by kernel_rfl) ?_
  exact GoO.ret' (h := c15_4e) (hs := []) (ps := []) (hk := [0]) (bk := [0]) Try.func15 (⟨b_1, none, 0⟩ : Nat × Option Addr × Nat) (by kernel_rfl) trivial (by kernel_rfl) (by kernel_rfl)

/-! (*tontine/session.Table).Register -/
noncomputable def c17_0 : Code := bodyOf Try.f17
noncomputable def c17_1 : Code := cdL c17_0
noncomputable def c17_2 : Code := cdR c17_0
noncomputable def c17_3 : Code := cdL c17_2
noncomputable def c17_4 : Code := cdL c17_3
noncomputable def c17_5 : Code := cdR c17_3
noncomputable def c17_6 : Code := cdL c17_5
noncomputable def c17_7 : Code := cdL c17_6
noncomputable def c17_8 : Code := cdR c17_6
noncomputable def c17_9 : Code := cdR c17_5
noncomputable def c17_10 : Code := cdR c17_2
noncomputable def c17_11 : Code := cdL c17_10
noncomputable def c17_12 : Code := cdR c17_10
noncomputable def c17_13 : Code := cdL c17_12
noncomputable def c17_14 : Code := cdR c17_12
noncomputable def c17_15 : Code := cdL c17_14
noncomputable def c17_16 : Code := cdR c17_14
noncomputable def r17_1 : Array Oper := cdO c17_1
noncomputable def r17_4 : Array Oper := cdO c17_4
noncomputable def r17_7 : Array Oper := cdO c17_7
noncomputable def r17_11 : Array Oper := cdO c17_11
noncomputable def r17_13 : Array Oper := cdO c17_13
noncomputable def r17_15 : Array Oper := cdO c17_15
theorem c17_0e : c17_0 = .seq c17_1 c17_2 := by kernel_rfl
theorem c17_1e : c17_1 = .region 0 r17_1 false := by kernel_rfl
theorem c17_2e : c17_2 = .seq c17_3 c17_10 := by kernel_rfl
theorem c17_3e : c17_3 = .seq c17_4 c17_5 := by kernel_rfl
theorem c17_4e : c17_4 = .region 1 r17_4 false := by kernel_rfl
theorem c17_5e : c17_5 = .cond (cdC c17_5) c17_6 c17_9 := by kernel_rfl
theorem c17_6e : c17_6 = .seq c17_7 c17_8 := by kernel_rfl
theorem c17_7e : c17_7 = .region 2 r17_7 false := by kernel_rfl
theorem c17_8e : c17_8 = .ret := by kernel_rfl
theorem c17_9e : c17_9 = .skip := by kernel_rfl
theorem c17_10e : c17_10 = .seq c17_11 c17_12 := by kernel_rfl
theorem c17_11e : c17_11 = .region 3 r17_11 true := by kernel_rfl
theorem c17_12e : c17_12 = .seq c17_13 c17_14 := by kernel_rfl
theorem c17_13e : c17_13 = .region 4 r17_13 false := by kernel_rfl
theorem c17_14e : c17_14 = .seq c17_15 c17_16 := by kernel_rfl
theorem c17_15e : c17_15 = .region 5 r17_15 false := by kernel_rfl
theorem c17_16e : c17_16 = .ret := by kernel_rfl
noncomputable def session_Table_Register.R (b_2 : Nat) (A_3 : Option Addr) (c_4 : Nat) : Pst (Int × Int × T_session_Table) where
  ε := Option Addr × Nat
  v := fun r x => .tuple ⟨[.int .u64 r.1, .int .i64 r.2.1]⟩
  H := fun r x => [⟨1, b_2, [.int .u64 r.2.2.now, .int .u64 r.2.2.next, .slice x.1 r.2.2.rows.length x.2]⟩]
  B := fun r x => [Ow 2 kT_session_Row x.1 x.2 r.2.2.rows]
noncomputable def session_Table_Register.cx (b_2 : Nat) (A_3 : Option Addr) (c_4 : Nat) (w0 : World) (S0 : Fam) : Cx (Int × Int × T_session_Table) := ⟨Try.prog, 17, Try.f17, 51, w0, S0, [1, 2], 2, session_Table_Register.R b_2 A_3 c_4⟩
theorem session_Table_Register_j0_ok (n : Nat) (t_1 : T_session_Table) (b_2 : Nat) (A_3 : Option Addr) (c_4 : Nat) (w0 : World) (S0 : Fam) (b_6 : Bool) :
    GoO (session_Table_Register.cx b_2 A_3 c_4 w0 S0) [(0, .pointer (some ⟨b_2, 0, none⟩)), (20, .bool b_6)] [⟨1, b_2, [.int .u64 t_1.now, .int .u64 t_1.next, .slice A_3 t_1.rows.length c_4]⟩] [Ow 2 kT_session_Row A_3 c_4 t_1.rows] [.code c17_5, .code c17_10] (session_Table_Register.j0 n t_1 b_6) := by
  unfold session_Table_Register.j0
  refine GoO.ite' c17_5e (by kernel_rfl) (fun h7 => ?_) (fun h7 => ?_)
  · refine GoO.seq' c17_6e ?_
    refine GoO.region' (is := [0, 1]) c17_7e (by kernel_rfl) ?_
    refine GoO.exec (is := [0, 1]) (hs := [.p, .p]) (rest := []) (ks := [2, 3]) (env' := [(2, .int .u64 0), (3, .int .i64 11)]) (H' := [⟨1, b_2, [.int .u64 t_1.now, .int .u64 t_1.next, .slice A_3 t_1.rows.length c_4]⟩]) (ps := []) (by kernel_rfl) trivial ?_
    refine GoO.regionEnd ?_
    exact GoO.ret' (h := c17_8e) (hs := []) (ps := []) (hk := [0]) (bk := [0]) Try.func17 (⟨A_3, c_4⟩ : Option Addr × Nat) (by kernel_rfl) trivial (by kernel_rfl) (by kernel_rfl)
  · refine GoO.skip' c17_9e ?_
    refine GoO.seq' c17_10e ?_
    refine GoO.draw c17_11e (by kernel_rfl) [16, 17, 18] [⟨1, b_2, [.int .u64 t_1.now, .int .u64 t_1.next, .slice A_3 t_1.rows.length c_4]⟩] [] (n := 19) (by kernel_rfl) ?_
    simp only [List.replicate]
    refine GoF.take [0, 1, 2, 3, 4, 5, 6, 7, 8, 9, 10, 11, 12, 13] [.p, .p, .p, .p, .b 0, .p, .p, .p, .b 0, .p, .p, .p, .b 0, .p] (ks := [0, 21, 25, 34]) (fu := 5) (li := [true, true, true, true, true, true, true, true, true, true, true, true, true, true, false, false, false, false, false]) (env' := [(0, .pointer (some ⟨b_2, 0, none⟩)), (21, .pointer (some ⟨b_2, 0, none⟩)), (25, .slice A_3 t_1.rows.length c_4), (34, .agg ⟨[.int .u64 t_1.next, .int .u64 t_1.now, .int .u64 0, .int .i64 0, .int .u64 0, .int .u64 0]⟩)]) (ps := [b_2 = b_2, b_2 = b_2, b_2 = b_2]) (hk := [0]) (bk := []) (by kernel_rfl) (And.intro rfl (And.intro rfl (And.intro rfl trivial))) rfl rfl ?_
    refine OpTo.goF (i := 14) (by kernel_rfl) (hk := [0]) (bk := []) (GoO.lit (e := 87) (K := kT_session_Row) rfl (by kernel_rfl) (by kernel_rfl) (cs := [.int .u64 t_1.next, .int .u64 t_1.now, .int .u64 0, .int .i64 0, .int .u64 0, .int .u64 0]) (by kernel_rfl) [(⟨t_1.next, t_1.now, 0, (⟨0, 0, 0⟩ : T_api_Reply)⟩ : T_session_Row)] (by kernel_rfl) (by kernel_rfl) (fun w S hB => ⟨[.int .u64 t_1.next, .int .u64 t_1.now, .int .u64 0, .int .i64 0, .int .u64 0, .int .u64 0], _, rfl, rfl, rfl⟩) 40 _ (fun _ _ => rfl) (fun A_8 c_9 => ⟨rfl, rfl, ?_⟩))
    refine GoF.guard (fun h10 => ?_)
    refine OpTo.goF (i := 15) (by kernel_rfl) (hk := [0]) (bk := []) (GoO.appW (e := 87) (K := kT_session_Row) (A := A_3) (c := c_4) (tg := 2) (bytes := 48) (zs := [.int .u64 0, .int .u64 0, .int .u64 0, .int .i64 0, .int .u64 0, .int .u64 0]) (xs := t_1.rows) (ys := [(⟨t_1.next, t_1.now, 0, (⟨0, 0, 0⟩ : T_api_Reply)⟩ : T_session_Row)]) (xv := .slice A_8 [(⟨t_1.next, t_1.now, 0, (⟨0, 0, 0⟩ : T_api_Reply)⟩ : T_session_Row)].length c_9) (j := 1) (bk := [0]) rfl (by kernel_rfl) (by kernel_rfl) (by kernel_rfl) (by kernel_rfl) rfl (by kernel_rfl) rfl (fun w S hB => SrcIs.row (Reads.own w S (hB _ (List.mem_of_getElem? (i := 0) rfl)))) h10 rfl rfl rfl rfl _ (fun _ _ => rfl) (fun A_11 c_12 => ⟨rfl, rfl, ?_⟩))
    refine GoF.fin1 (i := 16) (hint := .p) (ps := []) (hk := []) (bk := []) (by kernel_rfl) rfl trivial (.inl rfl) ?_
    refine GoF.fin1 (i := 17) (hint := .p) (ps := []) (hk := []) (bk := []) (by kernel_rfl) rfl trivial (.inl rfl) ?_
    refine GoF.fin1 (i := 18) (hint := .b 0) (ps := [b_2 = b_2]) (hk := []) (bk := []) (by kernel_rfl) rfl (And.intro rfl trivial) (.inl rfl) ?_
    refine GoF.done (by kernel_rfl) ?_
    refine GoO.seq' c17_12e ?_
    refine GoO.region' (is := [0, 1, 2, 3, 4, 5, 6, 7]) c17_13e (by kernel_rfl) ?_
    refine GoO.exec (is := [0, 1, 2, 3, 4, 5, 6, 7]) (hs := [.p, .p, .p, .b 0, .p, .p, .p, .b 0]) (rest := []) (ks := [0]) (env' := [(0, .pointer (some ⟨b_2, 0, none⟩))]) (H' := [⟨1, b_2, [.int .u64 t_1.now, .int .u64 (wu64 (t_1.next + 1)), .slice A_11 (t_1.rows ++ [(⟨t_1.next, t_1.now, 0, (⟨0, 0, 0⟩ : T_api_Reply)⟩ : T_session_Row)]).length c_12]⟩]) (ps := [b_2 = b_2, b_2 = b_2]) (by kernel_rfl) (And.intro rfl (And.intro rfl trivial)) ?_
    refine GoO.regionEnd ?_
    refine GoO.seq' c17_14e ?_
    refine GoO.region' (is := [0, 1, 2, 3, 4, 5, 6]) c17_15e (by kernel_rfl) ?_
    refine GoO.exec (is := [0, 1, 2, 3, 4, 5, 6]) (hs := [.p, .p, .p, .b 0, .p, .p, .p]) (rest := []) (ks := [2, 3]) (env' := [(2, .int .u64 (wu64 ((wu64 (t_1.next + 1)) - 1))), (3, .int .i64 0)]) (H' := [⟨1, b_2, [.int .u64 t_1.now, .int .u64 (wu64 (t_1.next + 1)), .slice A_11 (t_1.rows ++ [(⟨t_1.next, t_1.now, 0, (⟨0, 0, 0⟩ : T_api_Reply)⟩ : T_session_Row)]).length c_12]⟩]) (ps := [b_2 = b_2]) (by kernel_rfl) (And.intro rfl trivial) ?_
    refine GoO.regionEnd ?_
    exact GoO.ret' (h := c17_16e) (hs := []) (ps := []) (hk := [0]) (bk := [0]) Try.func17 (⟨A_11, c_12⟩ : Option Addr × Nat) (by kernel_rfl) trivial (by kernel_rfl) (by kernel_rfl)
theorem session_Table_Register_ok (n : Nat) (t_1 : T_session_Table) (b_2 : Nat) (A_3 : Option Addr) (c_4 : Nat) :
    Meets Try.prog 17 [.pointer (some ⟨b_2, 0, none⟩)] 2 [1, 2] [⟨1, b_2, [.int .u64 t_1.now, .int .u64 t_1.next, .slice A_3 t_1.rows.length c_4]⟩] [Ow 2 kT_session_Row A_3 c_4 t_1.rows] (session_Table_Register.f n t_1) (session_Table_Register.R b_2 A_3 c_4) := by
  refine Meets.of (c := c17_0) (n := 51) Try.func17 (by kernel_rfl) (by kernel_rfl) (by kernel_rfl) fun w0 S0 => ?_
  unfold session_Table_Register.f
  show GoO (session_Table_Register.cx b_2 A_3 c_4 w0 S0) [(0, .pointer (some ⟨b_2, 0, none⟩))] [⟨1, b_2, [.int .u64 t_1.now, .int .u64 t_1.next, .slice A_3 t_1.rows.length c_4]⟩] [Ow 2 kT_session_Row A_3 c_4 t_1.rows] [.code c17_0] _
  refine GoO.seq' c17_0e ?_
  refine GoO.region' (is := [0, 1]) c17_1e (by kernel_rfl) ?_
  refine GoO.exec (is := [0, 1]) (hs := [.p, .p]) (rest := []) (ks := [0]) (env' := [(0, .pointer (some ⟨b_2, 0, none⟩))]) (H' := [⟨1, b_2, [.int .u64 t_1.now, .int .u64 t_1.next, .slice A_3 t_1.rows.length c_4]⟩]) (ps := []) (by kernel_rfl) trivial ?_
  refine GoO.regionEnd ?_
  refine GoO.seq' c17_2e ?_
  refine GoO.seq' c17_3e ?_
  refine GoO.region' (is := [0, 1, 2, 3, 4, 5, 6, 7, 8, 9, 10, 11, 12, 13, 14, 15, 16]) c17_4e (by kernel_rfl) ?_
  refine GoO.exec (is := [0, 1, 2, 3, 4, 5, 6, 7, 8, 9, 10]) (hs := [.p, .p, .p, .p, .p, .p, .b 0, .p, .p, .p, .p]) (rest := [11, 12, 13, 14, 15, 16]) (ks := [0, 14]) (env' := [(0, .pointer (some ⟨b_2, 0, none⟩)), (14, .bool (decide ((t_1.rows.length : Int) ≥ 16)))]) (H' := [⟨1, b_2, [.int .u64 t_1.now, .int .u64 t_1.next, .slice A_3 t_1.rows.length c_4]⟩]) (ps := [b_2 = b_2]) (by kernel_rfl) (And.intro rfl trivial) ?_
  refine GoO.bsplit (t := 14) (by kernel_rfl) (fun h5 => ?_) (fun h5 => ?_)
  · refine GoO.exec (is := [11, 12, 13, 14, 15, 16]) (hs := [.p, .p, .p, .p, .p, .p]) (rest := []) (ks := [0, 20]) (env' := [(0, .pointer (some ⟨b_2, 0, none⟩)), (20, .bool true)]) (H' := [⟨1, b_2, [.int .u64 t_1.now, .int .u64 t_1.next, .slice A_3 t_1.rows.length c_4]⟩]) (ps := []) (by kernel_rfl) trivial ?_
    refine GoO.regionEnd ?_
    exact GoO.sub (ks := [0, 20]) (hk := [0]) (bk := [0]) (by kernel_rfl) (by kernel_rfl) (by kernel_rfl) (session_Table_Register_j0_ok n t_1 b_2 A_3 c_4 w0 S0 true)
  · refine GoO.exec (is := [11, 12, 13, 14, 15, 16]) (hs := [.p, .p, .p, .b 0, .p, .p]) (rest := []) (ks := [0, 20]) (env' := [(0, .pointer (some ⟨b_2, 0, none⟩)), (20, .bool (t_1.next == 18446744073709551615))]) (H' := [⟨1, b_2, [.int .u64 t_1.now, .int .u64 t_1.next, .slice A_3 t_1.rows.length c_4]⟩]) (ps := [b_2 = b_2]) (by kernel_rfl) (And.intro rfl trivial) ?_
    refine GoO.regionEnd ?_
    exact GoO.sub (ks := [0, 20]) (hk := [0]) (bk := [0]) (by kernel_rfl) (by kernel_rfl) (by kernel_rfl) (session_Table_Register_j0_ok n t_1 b_2 A_3 c_4 w0 S0 (t_1.next == 18446744073709551615))

/-! (*tontine/session.Table).find -/
noncomputable def c37_0 : Code := bodyOf Try.f37
noncomputable def c37_1 : Code := cdL c37_0
noncomputable def c37_2 : Code := cdR c37_0
noncomputable def c37_3 : Code := cdL c37_2
noncomputable def c37_4 : Code := cdL c37_3
noncomputable def c37_5 : Code := cdR c37_3
noncomputable def c37_6 : Code := cdL c37_5
noncomputable def c37_7 : Code := cdL c37_6
noncomputable def c37_8 : Code := cdR c37_6
noncomputable def c37_9 : Code := cdL c37_8
noncomputable def c37_10 : Code := cdL c37_9
noncomputable def c37_11 : Code := cdL c37_10
noncomputable def c37_12 : Code := cdR c37_10
noncomputable def c37_13 : Code := cdL c37_12
noncomputable def c37_14 : Code := cdL c37_13
noncomputable def c37_15 : Code := cdR c37_13
noncomputable def c37_16 : Code := cdR c37_12
noncomputable def c37_17 : Code := cdL c37_16
noncomputable def c37_18 : Code := cdL c37_17
noncomputable def c37_19 : Code := cdL c37_18
noncomputable def c37_20 : Code := cdR c37_18
noncomputable def c37_21 : Code := cdL c37_20
noncomputable def c37_22 : Code := cdR c37_20
noncomputable def c37_23 : Code := cdL c37_22
noncomputable def c37_24 : Code := cdL c37_23
noncomputable def c37_25 : Code := cdR c37_23
noncomputable def c37_26 : Code := cdR c37_22
noncomputable def c37_27 : Code := cdR c37_16
noncomputable def c37_29 : Code := cdR c37_2
noncomputable def c37_30 : Code := cdL c37_29
noncomputable def c37_31 : Code := cdR c37_29
noncomputable def c37_28 : Code := cdR c37_5
noncomputable def r37_1 : Array Oper := cdO c37_1
noncomputable def r37_4 : Array Oper := cdO c37_4
noncomputable def r37_7 : Array Oper := cdO c37_7
noncomputable def r37_11 : Array Oper := cdO c37_11
noncomputable def r37_19 : Array Oper := cdO c37_19
noncomputable def r37_21 : Array Oper := cdO c37_21
noncomputable def r37_24 : Array Oper := cdO c37_24
noncomputable def r37_27 : Array Oper := cdO c37_27
noncomputable def r37_30 : Array Oper := cdO c37_30
theorem c37_0e : c37_0 = .seq c37_1 c37_2 := by kernel_rfl
theorem c37_1e : c37_1 = .region 0 r37_1 false := by kernel_rfl
theorem c37_2e : c37_2 = .seq c37_3 c37_29 := by kernel_rfl
theorem c37_3e : c37_3 = .seq c37_4 c37_5 := by kernel_rfl
theorem c37_4e : c37_4 = .region 1 r37_4 false := by kernel_rfl
theorem c37_5e : c37_5 = .cond (cdC c37_5) c37_6 c37_28 := by kernel_rfl
theorem c37_6e : c37_6 = .seq c37_7 c37_8 := by kernel_rfl
theorem c37_7e : c37_7 = .region 2 r37_7 false := by kernel_rfl
theorem c37_8e : c37_8 = .block 0 c37_9 := by kernel_rfl
theorem c37_9e : c37_9 = .loop c37_10 := by kernel_rfl
theorem c37_10e : c37_10 = .seq c37_11 c37_12 := by kernel_rfl
theorem c37_11e : c37_11 = .region 3 r37_11 false := by kernel_rfl
theorem c37_12e : c37_12 = .seq c37_13 c37_16 := by kernel_rfl
theorem c37_13e : c37_13 = .cond (cdC c37_13) c37_14 c37_15 := by kernel_rfl
theorem c37_14e : c37_14 = .skip := by kernel_rfl
theorem c37_15e : c37_15 = .exit 0 := by kernel_rfl
theorem c37_16e : c37_16 = .seq c37_17 c37_27 := by kernel_rfl
theorem c37_17e : c37_17 = .block 1 c37_18 := by kernel_rfl
theorem c37_18e : c37_18 = .seq c37_19 c37_20 := by kernel_rfl
theorem c37_19e : c37_19 = .region 4 r37_19 false := by kernel_rfl
theorem c37_20e : c37_20 = .seq c37_21 c37_22 := by kernel_rfl
theorem c37_21e : c37_21 = .region 5 r37_21 false := by kernel_rfl
theorem c37_22e : c37_22 = .cond (cdC c37_22) c37_23 c37_26 := by kernel_rfl
theorem c37_23e : c37_23 = .seq c37_24 c37_25 := by kernel_rfl
theorem c37_24e : c37_24 = .region 6 r37_24 false := by kernel_rfl
theorem c37_25e : c37_25 = .ret := by kernel_rfl
theorem c37_26e : c37_26 = .skip := by kernel_rfl
theorem c37_27e : c37_27 = .region 7 r37_27 false := by kernel_rfl
theorem c37_29e : c37_29 = .seq c37_30 c37_31 := by kernel_rfl
theorem c37_30e : c37_30 = .region 8 r37_30 false := by kernel_rfl
theorem c37_31e : c37_31 = .ret := by kernel_rfl
theorem c37_28e : c37_28 = .skip := by kernel_rfl
noncomputable def session_Table_find.R (b_2 : Nat) (A_3 : Option Addr) (c_4 : Nat) : Pst Int where
  ε := Unit
  v := fun r x => .int .i64 r
  H := fun r x => []
  B := fun r x => []
noncomputable def session_Table_find.cx (b_2 : Nat) (A_3 : Option Addr) (c_4 : Nat) (w0 : World) (S0 : Fam) : Cx Int := ⟨Try.prog, 37, Try.f37, 25, w0, S0, [], 2, session_Table_find.R b_2 A_3 c_4⟩
theorem session_Table_find_l0_ok (n : Nat) (t_1 : T_session_Table) (id_5 : Int) (b_2 : Nat) (A_3 : Option Addr) (c_4 : Nat) (w0 : World) (S0 : Fam) :
    ∀ (k : Nat) (x_6 : Int), GoO (session_Table_find.cx b_2 A_3 c_4 w0 S0) [(1, .int .u64 id_5), (12, .slice A_3 t_1.rows.length c_4), (13, .int .i64 (t_1.rows.length : Int)), (14, .int .i64 x_6)] [⟨1, b_2, [.int .u64 t_1.now, .int .u64 t_1.next, .slice A_3 t_1.rows.length c_4]⟩] [Ow 2 kT_session_Row A_3 c_4 t_1.rows] [.code c37_10, .inLoop c37_10, .inBlock 0, .code c37_29] (session_Table_find.l0 n t_1 id_5 k x_6) := by
  intro k
  induction k with
  | zero => intros; rw [session_Table_find.l0.eq_1]; exact GoO.stop
  | succ k ih0 =>
    intro x_6
    rw [session_Table_find.l0.eq_2]
    refine GoO.seq' c37_10e ?_
    refine GoO.region' (is := [0]) c37_11e (by kernel_rfl) ?_
    refine GoO.exec (is := [0]) (hs := [.p]) (rest := []) (ks := [1, 12, 13, 14, 15]) (env' := [(1, .int .u64 id_5), (12, .slice A_3 t_1.rows.length c_4), (13, .int .i64 (t_1.rows.length : Int)), (14, .int .i64 x_6), (15, .bool (decide (x_6 < (t_1.rows.length : Int))))]) (H' := [⟨1, b_2, [.int .u64 t_1.now, .int .u64 t_1.next, .slice A_3 t_1.rows.length c_4]⟩]) (ps := []) (by kernel_rfl) trivial ?_
    refine GoO.regionEnd ?_
    refine GoO.seq' c37_12e ?_
    refine GoO.ite' c37_13e (by kernel_rfl) (fun h7 => ?_) (fun h7 => ?_)
    · refine GoO.skip' c37_14e ?_
      refine GoO.seq' c37_16e ?_
      refine GoO.block' c37_17e ?_
      refine GoO.seq' c37_18e ?_
      refine GoO.region' (is := [0, 1, 2, 3, 4, 5]) c37_19e (by kernel_rfl) ?_
      refine GoO.exec (is := [0]) (hs := [.p]) (rest := [1, 2, 3, 4, 5]) (ks := [1, 12, 13, 14, 16]) (env' := [(1, .int .u64 id_5), (12, .slice A_3 t_1.rows.length c_4), (13, .int .i64 (t_1.rows.length : Int)), (14, .int .i64 x_6), (16, .int .i64 x_6)]) (H' := [⟨1, b_2, [.int .u64 t_1.now, .int .u64 t_1.next, .slice A_3 t_1.rows.length c_4]⟩]) (ps := []) (by kernel_rfl) trivial ?_
      refine GoO.guard (fun h8 => ?_)
      refine OpTo.go (GoO.idx (kk := .i64) (e := 87) (K := kT_session_Row) (A := A_3) (c := c_4) (xs := t_1.rows) (iv := x_6) (j := 0) rfl (by kernel_rfl) (by kernel_rfl) (by kernel_rfl) (by kernel_rfl) rfl Reads.own rfl h8.1 h8.2 (by decide) rfl ?_)
      refine OpTo.go (GoO.ldE' (K := kT_session_Row) (A := A_3) (c := c_4) (xs := t_1.rows) (iN := x_6.toNat) (off := 0) (j := 0) rfl (by kernel_rfl) rfl Reads.own (by first | exact idx_lt h8.1 h8.2 | (simp only [List.length_set]; exact idx_lt h8.1 h8.2)) (by decide) (Opn.flat _ _ _ _ _) (v := fun _ => .agg ⟨[.int .u64 ((rdL t_1.rows x_6).Id), .int .u64 ((rdL t_1.rows x_6).Used), .int .u64 ((rdL t_1.rows x_6).Seq), .int .i64 ((rdL t_1.rows x_6).Reply.Err), .int .u64 ((rdL t_1.rows x_6).Reply.Num), .int .u64 ((rdL t_1.rows x_6).Reply.Extra)]⟩) (fun _ => by kernel_rfl) _ (fun _ => rfl) (fun _ => ?_))
      refine OpTo.go (GoO.new rfl 40 (cs := [.int .u64 0, .int .u64 0, .int .u64 0, .int .i64 0, .int .u64 0, .int .u64 0]) (by kernel_rfl) _ (fun _ => rfl) (fun b_9 => ?_))
      refine GoO.exec (is := [4, 5]) (hs := [.p, .b 0]) (rest := []) (ks := [1, 5, 6, 12, 13, 14]) (env' := [(1, .int .u64 id_5), (5, .int .i64 x_6), (6, .pointer (some ⟨b_9, 0, none⟩)), (12, .slice A_3 t_1.rows.length c_4), (13, .int .i64 (t_1.rows.length : Int)), (14, .int .i64 x_6)]) (H' := [⟨40, b_9, [.int .u64 ((rdL t_1.rows x_6).Id), .int .u64 ((rdL t_1.rows x_6).Used), .int .u64 ((rdL t_1.rows x_6).Seq), .int .i64 ((rdL t_1.rows x_6).Reply.Err), .int .u64 ((rdL t_1.rows x_6).Reply.Num), .int .u64 ((rdL t_1.rows x_6).Reply.Extra)]⟩, ⟨1, b_2, [.int .u64 t_1.now, .int .u64 t_1.next, .slice A_3 t_1.rows.length c_4]⟩]) (ps := [b_9 = b_9]) (by kernel_rfl) (And.intro rfl trivial) ?_
      refine GoO.regionEnd ?_
      refine GoO.seq' c37_20e ?_
      refine GoO.region' (is := [0, 1, 2, 3]) c37_21e (by kernel_rfl) ?_
      refine GoO.exec (is := [0, 1, 2, 3]) (hs := [.p, .b 0, .p, .p]) (rest := []) (ks := [1, 5, 12, 13, 14, 22]) (env' := [(1, .int .u64 id_5), (5, .int .i64 x_6), (12, .slice A_3 t_1.rows.length c_4), (13, .int .i64 (t_1.rows.length : Int)), (14, .int .i64 x_6), (22, .bool (((rdL t_1.rows x_6).Id) == id_5))]) (H' := [⟨40, b_9, [.int .u64 ((rdL t_1.rows x_6).Id), .int .u64 ((rdL t_1.rows x_6).Used), .int .u64 ((rdL t_1.rows x_6).Seq), .int .i64 ((rdL t_1.rows x_6).Reply.Err), .int .u64 ((rdL t_1.rows x_6).Reply.Num), .int .u64 ((rdL t_1.rows x_6).Reply.Extra)]⟩, ⟨1, b_2, [.int .u64 t_1.now, .int .u64 t_1.next, .slice A_3 t_1.rows.length c_4]⟩]) (ps := [b_9 = b_9]) (by kernel_rfl) (And.intro rfl trivial) ?_
      refine GoO.regionEnd ?_
      refine GoO.ite' c37_22e (by kernel_rfl) (fun h10 => ?_) (fun h10 => ?_)
      · refine GoO.seq' c37_23e ?_
        refine GoO.region' (is := [0, 1]) c37_24e (by kernel_rfl) ?_
        refine GoO.exec (is := [0, 1]) (hs := [.p, .p]) (rest := []) (ks := [4]) (env' := [(4, .int .i64 x_6)]) (H' := [⟨40, b_9, [.int .u64 ((rdL t_1.rows x_6).Id), .int .u64 ((rdL t_1.rows x_6).Used), .int .u64 ((rdL t_1.rows x_6).Seq), .int .i64 ((rdL t_1.rows x_6).Reply.Err), .int .u64 ((rdL t_1.rows x_6).Reply.Num), .int .u64 ((rdL t_1.rows x_6).Reply.Extra)]⟩, ⟨1, b_2, [.int .u64 t_1.now, .int .u64 t_1.next, .slice A_3 t_1.rows.length c_4]⟩]) (ps := []) (by kernel_rfl) trivial ?_
        refine GoO.regionEnd ?_
        exact GoO.ret' (h := c37_25e) (hs := []) (ps := []) (hk := []) (bk := []) Try.func37 () (by kernel_rfl) trivial (by kernel_rfl) (by kernel_rfl)
      · refine GoO.skip' c37_26e ?_
        refine GoO.inBlock ?_
        refine GoO.region' (is := [0, 1]) c37_27e (by kernel_rfl) ?_
        refine GoO.exec (is := [0, 1]) (hs := [.p, .p]) (rest := []) (ks := [1, 12, 13, 14]) (env' := [(1, .int .u64 id_5), (12, .slice A_3 t_1.rows.length c_4), (13, .int .i64 (t_1.rows.length : Int)), (14, .int .i64 (wi64 (x_6 + 1)))]) (H' := [⟨40, b_9, [.int .u64 ((rdL t_1.rows x_6).Id), .int .u64 ((rdL t_1.rows x_6).Used), .int .u64 ((rdL t_1.rows x_6).Seq), .int .i64 ((rdL t_1.rows x_6).Reply.Err), .int .u64 ((rdL t_1.rows x_6).Reply.Num), .int .u64 ((rdL t_1.rows x_6).Reply.Extra)]⟩, ⟨1, b_2, [.int .u64 t_1.now, .int .u64 t_1.next, .slice A_3 t_1.rows.length c_4]⟩]) (ps := []) (by kernel_rfl) trivial ?_
        refine GoO.regionEnd ?_
        refine GoO.inLoop ?_
        exact GoO.sub (ks := [1, 12, 13, 14]) (hk := [1]) (bk := [0]) (by kernel_rfl) (by kernel_rfl) (by kernel_rfl) (ih0 (wi64 (x_6 + 1)))
    · refine GoO.exit' c37_15e rfl ?_
      refine GoO.seq' c37_29e ?_
      refine GoO.region' (is := [0]) c37_30e (by kernel_rfl) ?_
      refine GoO.exec (is := [0]) (hs := [.p]) (rest := []) (ks := [4]) (env' := [(4, .int .i64 (-1))]) (H' := [⟨1, b_2, [.int .u64 t_1.now, .int .u64 t_1.next, .slice A_3 t_1.rows.length c_4]⟩]) (ps := []) (by kernel_rfl) trivial ?_
      refine GoO.regionEnd ?_
      exact GoO.ret' (h := c37_31e) (hs := []) (ps := []) (hk := []) (bk := []) Try.func37 () (by kernel_rfl) trivial (by kernel_rfl) (by kernel_rfl)
theorem session_Table_find_ok (n : Nat) (t_1 : T_session_Table) (id_5 : Int) (b_2 : Nat) (A_3 : Option Addr) (c_4 : Nat) :
    Meets Try.prog 37 [.pointer (some ⟨b_2, 0, none⟩), .int .u64 id_5] 2 [] [⟨1, b_2, [.int .u64 t_1.now, .int .u64 t_1.next, .slice A_3 t_1.rows.length c_4]⟩] [Ow 2 kT_session_Row A_3 c_4 t_1.rows] (session_Table_find.f n t_1 id_5) (session_Table_find.R b_2 A_3 c_4) := by
  refine Meets.of (c := c37_0) (n := 25) Try.func37 (by kernel_rfl) (by kernel_rfl) (by kernel_rfl) fun w0 S0 => ?_
  unfold session_Table_find.f
  show GoO (session_Table_find.cx b_2 A_3 c_4 w0 S0) [(0, .pointer (some ⟨b_2, 0, none⟩)), (1, .int .u64 id_5)] [⟨1, b_2, [.int .u64 t_1.now, .int .u64 t_1.next, .slice A_3 t_1.rows.length c_4]⟩] [Ow 2 kT_session_Row A_3 c_4 t_1.rows] [.code c37_0] _
  refine GoO.seq' c37_0e ?_
  refine GoO.region' (is := [0]) c37_1e (by kernel_rfl) ?_
  refine GoO.exec (is := [0]) (hs := [.p]) (rest := []) (ks := [0, 1]) (env' := [(0, .pointer (some ⟨b_2, 0, none⟩)), (1, .int .u64 id_5)]) (H' := [⟨1, b_2, [.int .u64 t_1.now, .int .u64 t_1.next, .slice A_3 t_1.rows.length c_4]⟩]) (ps := []) (by kernel_rfl) trivial ?_
  refine GoO.regionEnd ?_
  refine GoO.seq' c37_2e ?_
  refine GoO.seq' c37_3e ?_
  refine GoO.region' (is := [0, 1]) c37_4e (by kernel_rfl) ?_
  refine GoO.exec (is := [0, 1]) (hs := [.p, .p]) (rest := []) (ks := [0, 1, 8]) (env' := [(0, .pointer (some ⟨b_2, 0, none⟩)), (1, .int .u64 id_5), (8, .bool true)]) (H' := [⟨1, b_2, [.int .u64 t_1.now, .int .u64 t_1.next, .slice A_3 t_1.rows.length c_4]⟩]) (ps := []) (by kernel_rfl) trivial ?_
  refine GoO.regionEnd ?_
  refine GoO.condT c37_5e (by kernel_rfl) ?_
  refine GoO.seq' c37_6e ?_
  refine GoO.region' (is := [0, 1, 2, 3, 4, 5]) c37_7e (by kernel_rfl) ?_
  refine GoO.exec (is := [0, 1, 2, 3, 4, 5]) (hs := [.p, .p, .p, .b 0, .p, .p]) (rest := []) (ks := [1, 12, 13, 14]) (env' := [(1, .int .u64 id_5), (12, .slice A_3 t_1.rows.length c_4), (13, .int .i64 (t_1.rows.length : Int)), (14, .int .i64 0)]) (H' := [⟨1, b_2, [.int .u64 t_1.now, .int .u64 t_1.next, .slice A_3 t_1.rows.length c_4]⟩]) (ps := [b_2 = b_2]) (by kernel_rfl) (And.intro rfl trivial) ?_
  refine GoO.regionEnd ?_
  refine GoO.block' c37_8e ?_
  refine GoO.loop' c37_9e ?_
  exact GoO.sub (ks := [1, 12, 13, 14]) (hk := [0]) (bk := [0]) (by kernel_rfl) (by kernel_rfl) (by kernel_rfl) (session_Table_find_l0_ok n t_1 id_5 b_2 A_3 c_4 w0 S0 n 0)

/-! (*tontine/session.Table).Begin -/
noncomputable def c18_0 : Code := bodyOf Try.f18
noncomputable def c18_1 : Code := cdL c18_0
noncomputable def c18_2 : Code := cdR c18_0
noncomputable def c18_3 : Code := cdL c18_2
noncomputable def c18_4 : Code := cdR c18_2
noncomputable def c18_5 : Code := cdL c18_4
noncomputable def c18_6 : Code := cdL c18_5
noncomputable def c18_7 : Code := cdR c18_5
noncomputable def c18_8 : Code := cdL c18_7
noncomputable def c18_9 : Code := cdL c18_8
noncomputable def c18_10 : Code := cdR c18_8
noncomputable def c18_11 : Code := cdR c18_7
noncomputable def c18_12 : Code := cdR c18_4
noncomputable def c18_13 : Code := cdL c18_12
noncomputable def c18_14 : Code := cdR c18_12
noncomputable def c18_15 : Code := cdL c18_14
noncomputable def c18_16 : Code := cdR c18_14
noncomputable def c18_17 : Code := cdL c18_16
noncomputable def c18_18 : Code := cdL c18_17
noncomputable def c18_19 : Code := cdL c18_18
noncomputable def c18_20 : Code := cdR c18_18
noncomputable def c18_21 : Code := cdL c18_20
noncomputable def c18_22 : Code := cdL c18_21
noncomputable def c18_23 : Code := cdR c18_21
noncomputable def c18_24 : Code := cdR c18_20
noncomputable def c18_25 : Code := cdL c18_24
noncomputable def c18_26 : Code := cdR c18_24
noncomputable def c18_27 : Code := cdL c18_26
noncomputable def c18_28 : Code := cdL c18_27
noncomputable def c18_29 : Code := cdR c18_27
noncomputable def c18_30 : Code := cdR c18_26
noncomputable def c18_31 : Code := cdR c18_16
noncomputable def c18_32 : Code := cdL c18_31
noncomputable def c18_33 : Code := cdR c18_31
noncomputable def r18_1 : Array Oper := cdO c18_1
noncomputable def r18_3 : Array Oper := cdO c18_3
noncomputable def r18_6 : Array Oper := cdO c18_6
noncomputable def r18_9 : Array Oper := cdO c18_9
noncomputable def r18_13 : Array Oper := cdO c18_13
noncomputable def r18_15 : Array Oper := cdO c18_15
noncomputable def r18_19 : Array Oper := cdO c18_19
noncomputable def r18_22 : Array Oper := cdO c18_22
noncomputable def r18_25 : Array Oper := cdO c18_25
noncomputable def r18_28 : Array Oper := cdO c18_28
noncomputable def r18_32 : Array Oper := cdO c18_32
theorem c18_0e : c18_0 = .seq c18_1 c18_2 := by kernel_rfl
theorem c18_1e : c18_1 = .region 0 r18_1 false := by kernel_rfl
theorem c18_2e : c18_2 = .seq c18_3 c18_4 := by kernel_rfl
theorem c18_3e : c18_3 = .region 1 r18_3 false := by kernel_rfl
theorem c18_4e : c18_4 = .seq c18_5 c18_12 := by kernel_rfl
theorem c18_5e : c18_5 = .seq c18_6 c18_7 := by kernel_rfl
theorem c18_6e : c18_6 = .region 2 r18_6 false := by kernel_rfl
theorem c18_7e : c18_7 = .cond (cdC c18_7) c18_8 c18_11 := by kernel_rfl
theorem c18_8e : c18_8 = .seq c18_9 c18_10 := by kernel_rfl
theorem c18_9e : c18_9 = .region 3 r18_9 false := by kernel_rfl
theorem c18_10e : c18_10 = .ret := by kernel_rfl
theorem c18_11e : c18_11 = .skip := by kernel_rfl
theorem c18_12e : c18_12 = .seq c18_13 c18_14 := by kernel_rfl
theorem c18_13e : c18_13 = .region 4 r18_13 false := by kernel_rfl
theorem c18_14e : c18_14 = .seq c18_15 c18_16 := by kernel_rfl
theorem c18_15e : c18_15 = .region 5 r18_15 false := by kernel_rfl
theorem c18_16e : c18_16 = .seq c18_17 c18_31 := by kernel_rfl
theorem c18_17e : c18_17 = .block 0 c18_18 := by kernel_rfl
theorem c18_18e : c18_18 = .seq c18_19 c18_20 := by kernel_rfl
theorem c18_19e : c18_19 = .region 6 r18_19 false := by kernel_rfl
theorem c18_20e : c18_20 = .cond (cdC c18_20) c18_21 c18_24 := by kernel_rfl
theorem c18_21e : c18_21 = .seq c18_22 c18_23 := by kernel_rfl
theorem c18_22e : c18_22 = .region 7 r18_22 false := by kernel_rfl
theorem c18_23e : c18_23 = .ret := by kernel_rfl
theorem c18_24e : c18_24 = .seq c18_25 c18_26 := by kernel_rfl
theorem c18_25e : c18_25 = .region 8 r18_25 false := by kernel_rfl
theorem c18_26e : c18_26 = .cond (cdC c18_26) c18_27 c18_30 := by kernel_rfl
theorem c18_27e : c18_27 = .seq c18_28 c18_29 := by kernel_rfl
theorem c18_28e : c18_28 = .region 9 r18_28 false := by kernel_rfl
theorem c18_29e : c18_29 = .ret := by kernel_rfl
theorem c18_30e : c18_30 = .skip := by kernel_rfl
theorem c18_31e : c18_31 = .seq c18_32 c18_33 := by kernel_rfl
theorem c18_32e : c18_32 = .region 10 r18_32 false := by kernel_rfl
theorem c18_33e : c18_33 = .ret := by kernel_rfl
noncomputable def session_Table_Begin.R (b_2 : Nat) (A_3 : Option Addr) (c_4 : Nat) : Pst (T_api_Reply × Bool × T_session_Table) where
  ε := Option Addr × Nat
  v := fun r x => .tuple ⟨[.agg ⟨[.int .i64 r.1.Err, .int .u64 r.1.Num, .int .u64 r.1.Extra]⟩, .bool r.2.1]⟩
  H := fun r x => [⟨1, b_2, [.int .u64 r.2.2.now, .int .u64 r.2.2.next, .slice x.1 r.2.2.rows.length x.2]⟩]
  B := fun r x => [Ow 2 kT_session_Row x.1 x.2 r.2.2.rows]
noncomputable def session_Table_Begin.cx (b_2 : Nat) (A_3 : Option Addr) (c_4 : Nat) (w0 : World) (S0 : Fam) : Cx (T_api_Reply × Bool × T_session_Table) := ⟨Try.prog, 18, Try.f18, 58, w0, S0, [1, 2], 2, session_Table_Begin.R b_2 A_3 c_4⟩
theorem session_Table_Begin_j0_ok (n : Nat) (t_1 : T_session_Table) (seq_6 : Int) (r_8 : Int) (b_2 : Nat) (A_3 : Option Addr) (c_4 : Nat) (b_7 : Nat) (w0 : World) (S0 : Fam) (b_12 : Bool) :
    GoO (session_Table_Begin.cx b_2 A_3 c_4 w0 S0) [(2, .int .u64 seq_6), (6, .pointer (some ⟨b_7, 0, none⟩)), (9, elemP A_3 r_8.toNat 6 0), (29, .bool b_12)] [⟨40, b_7, [.int .i64 0, .int .u64 0, .int .u64 0]⟩, ⟨1, b_2, [.int .u64 t_1.now, .int .u64 t_1.next, .slice A_3 (t_1.rows.set r_8.toNat (⟨(rdL t_1.rows r_8).Id, t_1.now, (rdL t_1.rows r_8).Seq, (⟨(rdL t_1.rows r_8).Reply.Err, (rdL t_1.rows r_8).Reply.Num, (rdL t_1.rows r_8).Reply.Extra⟩ : T_api_Reply)⟩ : T_session_Row)).length c_4]⟩] [Ow 2 kT_session_Row A_3 c_4 (t_1.rows.set r_8.toNat (⟨(rdL t_1.rows r_8).Id, t_1.now, (rdL t_1.rows r_8).Seq, (⟨(rdL t_1.rows r_8).Reply.Err, (rdL t_1.rows r_8).Reply.Num, (rdL t_1.rows r_8).Reply.Extra⟩ : T_api_Reply)⟩ : T_session_Row))] [.code c18_20, .inBlock 0, .code c18_31] (session_Table_Begin.j0 n t_1 seq_6 r_8 b_12) := by
  unfold session_Table_Begin.j0
  refine GoO.ite' c18_20e (by kernel_rfl) (fun h13 => ?_) (fun h13 => ?_)
  · refine GoO.seq' c18_21e ?_
    refine GoO.region' (is := [0, 1, 2, 3, 4, 5]) c18_22e (by kernel_rfl) ?_
    refine GoO.exec (is := [0]) (hs := [.p]) (rest := [1, 2, 3, 4, 5]) (ks := [6, 40]) (env' := [(6, .pointer (some ⟨b_7, 0, none⟩)), (40, elemP A_3 r_8.toNat 6 0)]) (H' := [⟨40, b_7, [.int .i64 0, .int .u64 0, .int .u64 0]⟩, ⟨1, b_2, [.int .u64 t_1.now, .int .u64 t_1.next, .slice A_3 (t_1.rows.set r_8.toNat (⟨(rdL t_1.rows r_8).Id, t_1.now, (rdL t_1.rows r_8).Seq, (⟨(rdL t_1.rows r_8).Reply.Err, (rdL t_1.rows r_8).Reply.Num, (rdL t_1.rows r_8).Reply.Extra⟩ : T_api_Reply)⟩ : T_session_Row)).length c_4]⟩]) (ps := []) (by kernel_rfl) trivial ?_
    refine GoO.guard (fun h14 => ?_)
    refine OpTo.go (GoO.nilE (K := kT_session_Row) (A := A_3) (c := c_4) (xs := t_1.rows.set r_8.toNat (⟨(rdL t_1.rows r_8).Id, t_1.now, (rdL t_1.rows r_8).Seq, (⟨(rdL t_1.rows r_8).Reply.Err, (rdL t_1.rows r_8).Reply.Num, (rdL t_1.rows r_8).Reply.Extra⟩ : T_api_Reply)⟩ : T_session_Row)) (iN := r_8.toNat) (off := 0) (j := 0) rfl (by kernel_rfl) rfl Reads.own h14 (by decide) rfl ?_)
    refine GoO.guard (fun h15 => ?_)
    refine OpTo.go (GoO.fldE (K := kT_session_Row) (A := A_3) (c := c_4) (xs := t_1.rows.set r_8.toNat (⟨(rdL t_1.rows r_8).Id, t_1.now, (rdL t_1.rows r_8).Seq, (⟨(rdL t_1.rows r_8).Reply.Err, (rdL t_1.rows r_8).Reply.Num, (rdL t_1.rows r_8).Reply.Extra⟩ : T_api_Reply)⟩ : T_session_Row)) (iN := r_8.toNat) (off := 0) (n := 3) (j := 0) rfl (by kernel_rfl) (by kernel_rfl) rfl Reads.own h15 (by decide) rfl ?_)
    refine GoO.guard (fun h16 => ?_)
    refine OpTo.go (GoO.ldE' (K := kT_session_Row) (A := A_3) (c := c_4) (xs := t_1.rows.set r_8.toNat (⟨(rdL t_1.rows r_8).Id, t_1.now, (rdL t_1.rows r_8).Seq, (⟨(rdL t_1.rows r_8).Reply.Err, (rdL t_1.rows r_8).Reply.Num, (rdL t_1.rows r_8).Reply.Extra⟩ : T_api_Reply)⟩ : T_session_Row)) (iN := r_8.toNat) (off := 3) (j := 0) rfl (by kernel_rfl) rfl Reads.own h16 (by decide) (Opn.flat _ _ _ _ _) (v := fun _ => .agg ⟨[.int .i64 ((rdL (t_1.rows.set r_8.toNat (⟨(rdL t_1.rows r_8).Id, t_1.now, (rdL t_1.rows r_8).Seq, (⟨(rdL t_1.rows r_8).Reply.Err, (rdL t_1.rows r_8).Reply.Num, (rdL t_1.rows r_8).Reply.Extra⟩ : T_api_Reply)⟩ : T_session_Row)) r_8).Reply.Err), .int .u64 ((rdL (t_1.rows.set r_8.toNat (⟨(rdL t_1.rows r_8).Id, t_1.now, (rdL t_1.rows r_8).Seq, (⟨(rdL t_1.rows r_8).Reply.Err, (rdL t_1.rows r_8).Reply.Num, (rdL t_1.rows r_8).Reply.Extra⟩ : T_api_Reply)⟩ : T_session_Row)) r_8).Reply.Num), .int .u64 ((rdL (t_1.rows.set r_8.toNat (⟨(rdL t_1.rows r_8).Id, t_1.now, (rdL t_1.rows r_8).Seq, (⟨(rdL t_1.rows r_8).Reply.Err, (rdL t_1.rows r_8).Reply.Num, (rdL t_1.rows r_8).Reply.Extra⟩ : T_api_Reply)⟩ : T_session_Row)) r_8).Reply.Extra)]⟩) (fun _ => by kernel_rfl) _ (fun _ => rfl) (fun _ => ?_))
    refine GoO.exec (is := [4, 5]) (hs := [.b 0, .p]) (rest := []) (ks := [6, 7]) (env' := [(6, .pointer (some ⟨b_7, 0, none⟩)), (7, .bool false)]) (H' := [⟨40, b_7, [.int .i64 ((rdL (t_1.rows.set r_8.toNat (⟨(rdL t_1.rows r_8).Id, t_1.now, (rdL t_1.rows r_8).Seq, (⟨(rdL t_1.rows r_8).Reply.Err, (rdL t_1.rows r_8).Reply.Num, (rdL t_1.rows r_8).Reply.Extra⟩ : T_api_Reply)⟩ : T_session_Row)) r_8).Reply.Err), .int .u64 ((rdL (t_1.rows.set r_8.toNat (⟨(rdL t_1.rows r_8).Id, t_1.now, (rdL t_1.rows r_8).Seq, (⟨(rdL t_1.rows r_8).Reply.Err, (rdL t_1.rows r_8).Reply.Num, (rdL t_1.rows r_8).Reply.Extra⟩ : T_api_Reply)⟩ : T_session_Row)) r_8).Reply.Num), .int .u64 ((rdL (t_1.rows.set r_8.toNat (⟨(rdL t_1.rows r_8).Id, t_1.now, (rdL t_1.rows r_8).Seq, (⟨(rdL t_1.rows r_8).Reply.Err, (rdL t_1.rows r_8).Reply.Num, (rdL t_1.rows r_8).Reply.Extra⟩ : T_api_Reply)⟩ : T_session_Row)) r_8).Reply.Extra)]⟩, ⟨1, b_2, [.int .u64 t_1.now, .int .u64 t_1.next, .slice A_3 (t_1.rows.set r_8.toNat (⟨(rdL t_1.rows r_8).Id, t_1.now, (rdL t_1.rows r_8).Seq, (⟨(rdL t_1.rows r_8).Reply.Err, (rdL t_1.rows r_8).Reply.Num, (rdL t_1.rows r_8).Reply.Extra⟩ : T_api_Reply)⟩ : T_session_Row)).length c_4]⟩]) (ps := [b_7 = b_7]) (by kernel_rfl) (And.intro rfl trivial) ?_
    refine GoO.regionEnd ?_
    exact GoO.ret' (h := c18_23e) (hs := [0]) (ps := [b_7 = b_7]) (hk := [1]) (bk := [0]) Try.func18 (⟨A_3, c_4⟩ : Option Addr × Nat) (by kernel_rfl) (And.intro rfl trivial) (by kernel_rfl) (by kernel_rfl)
  · refine GoO.seq' c18_24e ?_
    refine GoO.region' (is := [0, 1, 2, 3, 4, 5, 6, 7, 8, 9, 10, 11]) c18_25e (by kernel_rfl) ?_
    refine GoO.exec (is := [0, 1]) (hs := [.p, .p]) (rest := [2, 3, 4, 5, 6, 7, 8, 9, 10, 11]) (ks := [2, 6, 45, 46]) (env' := [(2, .int .u64 seq_6), (6, .pointer (some ⟨b_7, 0, none⟩)), (45, .int .u64 seq_6), (46, elemP A_3 r_8.toNat 6 0)]) (H' := [⟨40, b_7, [.int .i64 0, .int .u64 0, .int .u64 0]⟩, ⟨1, b_2, [.int .u64 t_1.now, .int .u64 t_1.next, .slice A_3 (t_1.rows.set r_8.toNat (⟨(rdL t_1.rows r_8).Id, t_1.now, (rdL t_1.rows r_8).Seq, (⟨(rdL t_1.rows r_8).Reply.Err, (rdL t_1.rows r_8).Reply.Num, (rdL t_1.rows r_8).Reply.Extra⟩ : T_api_Reply)⟩ : T_session_Row)).length c_4]⟩]) (ps := []) (by kernel_rfl) trivial ?_
    refine GoO.guard (fun h17 => ?_)
    refine OpTo.go (GoO.nilE (K := kT_session_Row) (A := A_3) (c := c_4) (xs := t_1.rows.set r_8.toNat (⟨(rdL t_1.rows r_8).Id, t_1.now, (rdL t_1.rows r_8).Seq, (⟨(rdL t_1.rows r_8).Reply.Err, (rdL t_1.rows r_8).Reply.Num, (rdL t_1.rows r_8).Reply.Extra⟩ : T_api_Reply)⟩ : T_session_Row)) (iN := r_8.toNat) (off := 0) (j := 0) rfl (by kernel_rfl) rfl Reads.own h17 (by decide) rfl ?_)
    refine GoO.guard (fun h18 => ?_)
    refine OpTo.go (GoO.fldE (K := kT_session_Row) (A := A_3) (c := c_4) (xs := t_1.rows.set r_8.toNat (⟨(rdL t_1.rows r_8).Id, t_1.now, (rdL t_1.rows r_8).Seq, (⟨(rdL t_1.rows r_8).Reply.Err, (rdL t_1.rows r_8).Reply.Num, (rdL t_1.rows r_8).Reply.Extra⟩ : T_api_Reply)⟩ : T_session_Row)) (iN := r_8.toNat) (off := 0) (n := 2) (j := 0) rfl (by kernel_rfl) (by kernel_rfl) rfl Reads.own h18 (by decide) rfl ?_)
    refine GoO.guard (fun h19 => ?_)
    refine OpTo.go (GoO.ldE' (K := kT_session_Row) (A := A_3) (c := c_4) (xs := t_1.rows.set r_8.toNat (⟨(rdL t_1.rows r_8).Id, t_1.now, (rdL t_1.rows r_8).Seq, (⟨(rdL t_1.rows r_8).Reply.Err, (rdL t_1.rows r_8).Reply.Num, (rdL t_1.rows r_8).Reply.Extra⟩ : T_api_Reply)⟩ : T_session_Row)) (iN := r_8.toNat) (off := 2) (j := 0) rfl (by kernel_rfl) rfl Reads.own h19 (by decide) (Opn.flat _ _ _ _ _) (v := fun _ => .int .u64 ((rdL (t_1.rows.set r_8.toNat (⟨(rdL t_1.rows r_8).Id, t_1.now, (rdL t_1.rows r_8).Seq, (⟨(rdL t_1.rows r_8).Reply.Err, (rdL t_1.rows r_8).Reply.Num, (rdL t_1.rows r_8).Reply.Extra⟩ : T_api_Reply)⟩ : T_session_Row)) r_8).Seq)) (fun _ => by kernel_rfl) _ (fun _ => rfl) (fun _ => ?_))
    refine GoO.exec (is := [5, 6, 7]) (hs := [.p, .p, .p]) (rest := [8, 9, 10, 11]) (ks := [2, 6, 52]) (env' := [(2, .int .u64 seq_6), (6, .pointer (some ⟨b_7, 0, none⟩)), (52, .bool (seq_6 != (wu64 (((rdL (t_1.rows.set r_8.toNat (⟨(rdL t_1.rows r_8).Id, t_1.now, (rdL t_1.rows r_8).Seq, (⟨(rdL t_1.rows r_8).Reply.Err, (rdL t_1.rows r_8).Reply.Num, (rdL t_1.rows r_8).Reply.Extra⟩ : T_api_Reply)⟩ : T_session_Row)) r_8).Seq) + 1))))]) (H' := [⟨40, b_7, [.int .i64 0, .int .u64 0, .int .u64 0]⟩, ⟨1, b_2, [.int .u64 t_1.now, .int .u64 t_1.next, .slice A_3 (t_1.rows.set r_8.toNat (⟨(rdL t_1.rows r_8).Id, t_1.now, (rdL t_1.rows r_8).Seq, (⟨(rdL t_1.rows r_8).Reply.Err, (rdL t_1.rows r_8).Reply.Num, (rdL t_1.rows r_8).Reply.Extra⟩ : T_api_Reply)⟩ : T_session_Row)).length c_4]⟩]) (ps := []) (by kernel_rfl) trivial ?_
    refine GoO.bsplit (t := 52) (by kernel_rfl) (fun h20 => ?_) (fun h20 => ?_)
    · refine GoO.exec (is := [8, 9, 10, 11]) (hs := [.p, .p, .p, .p]) (rest := []) (ks := [6, 44]) (env' := [(6, .pointer (some ⟨b_7, 0, none⟩)), (44, .bool true)]) (H' := [⟨40, b_7, [.int .i64 0, .int .u64 0, .int .u64 0]⟩, ⟨1, b_2, [.int .u64 t_1.now, .int .u64 t_1.next, .slice A_3 (t_1.rows.set r_8.toNat (⟨(rdL t_1.rows r_8).Id, t_1.now, (rdL t_1.rows r_8).Seq, (⟨(rdL t_1.rows r_8).Reply.Err, (rdL t_1.rows r_8).Reply.Num, (rdL t_1.rows r_8).Reply.Extra⟩ : T_api_Reply)⟩ : T_session_Row)).length c_4]⟩]) (ps := []) (by kernel_rfl) trivial ?_
      refine GoO.regionEnd ?_
      refine GoO.condT c18_26e (by kernel_rfl) ?_
      refine GoO.seq' c18_27e ?_
      refine GoO.region' (is := [0, 1, 2]) c18_28e (by kernel_rfl) ?_
      refine GoO.exec (is := [0, 1, 2]) (hs := [.p, .b 0, .p]) (rest := []) (ks := [6, 7]) (env' := [(6, .pointer (some ⟨b_7, 0, none⟩)), (7, .bool false)]) (H' := [⟨40, b_7, [.int .i64 41, .int .u64 0, .int .u64 0]⟩, ⟨1, b_2, [.int .u64 t_1.now, .int .u64 t_1.next, .slice A_3 (t_1.rows.set r_8.toNat (⟨(rdL t_1.rows r_8).Id, t_1.now, (rdL t_1.rows r_8).Seq, (⟨(rdL t_1.rows r_8).Reply.Err, (rdL t_1.rows r_8).Reply.Num, (rdL t_1.rows r_8).Reply.Extra⟩ : T_api_Reply)⟩ : T_session_Row)).length c_4]⟩]) (ps := [b_7 = b_7]) (by kernel_rfl) (And.intro rfl trivial) ?_
      refine GoO.regionEnd ?_
      exact GoO.ret' (h := c18_29e) (hs := [0]) (ps := [b_7 = b_7]) (hk := [1]) (bk := [0]) Try.func18 (⟨A_3, c_4⟩ : Option Addr × Nat) (by kernel_rfl) (And.intro rfl trivial) (by kernel_rfl) (by kernel_rfl)
    · refine GoO.exec (is := [8, 9, 10, 11]) (hs := [.p, .p, .p, .p]) (rest := []) (ks := [6, 44]) (env' := [(6, .pointer (some ⟨b_7, 0, none⟩)), (44, .bool (seq_6 == 0))]) (H' := [⟨40, b_7, [.int .i64 0, .int .u64 0, .int .u64 0]⟩, ⟨1, b_2, [.int .u64 t_1.now, .int .u64 t_1.next, .slice A_3 (t_1.rows.set r_8.toNat (⟨(rdL t_1.rows r_8).Id, t_1.now, (rdL t_1.rows r_8).Seq, (⟨(rdL t_1.rows r_8).Reply.Err, (rdL t_1.rows r_8).Reply.Num, (rdL t_1.rows r_8).Reply.Extra⟩ : T_api_Reply)⟩ : T_session_Row)).length c_4]⟩]) (ps := []) (by kernel_rfl) trivial ?_
      refine GoO.regionEnd ?_
      refine GoO.ite' c18_26e (by kernel_rfl) (fun h21 => ?_) (fun h21 => ?_)
      · refine GoO.seq' c18_27e ?_
        refine GoO.region' (is := [0, 1, 2]) c18_28e (by kernel_rfl) ?_
        refine GoO.exec (is := [0, 1, 2]) (hs := [.p, .b 0, .p]) (rest := []) (ks := [6, 7]) (env' := [(6, .pointer (some ⟨b_7, 0, none⟩)), (7, .bool false)]) (H' := [⟨40, b_7, [.int .i64 41, .int .u64 0, .int .u64 0]⟩, ⟨1, b_2, [.int .u64 t_1.now, .int .u64 t_1.next, .slice A_3 (t_1.rows.set r_8.toNat (⟨(rdL t_1.rows r_8).Id, t_1.now, (rdL t_1.rows r_8).Seq, (⟨(rdL t_1.rows r_8).Reply.Err, (rdL t_1.rows r_8).Reply.Num, (rdL t_1.rows r_8).Reply.Extra⟩ : T_api_Reply)⟩ : T_session_Row)).length c_4]⟩]) (ps := [b_7 = b_7]) (by kernel_rfl) (And.intro rfl trivial) ?_
        refine GoO.regionEnd ?_
        exact GoO.ret' (h := c18_29e) (hs := [0]) (ps := [b_7 = b_7]) (hk := [1]) (bk := [0]) Try.func18 (⟨A_3, c_4⟩ : Option Addr × Nat) (by kernel_rfl) (And.intro rfl trivial) (by kernel_rfl) (by kernel_rfl)
      · refine GoO.skip' c18_30e ?_
        refine GoO.inBlock ?_
        refine GoO.seq' c18_31e ?_
        refine GoO.region' (is := [0, 1, 2]) c18_32e (by kernel_rfl) ?_
        refine GoO.exec (is := [0, 1, 2]) (hs := [.p, .b 0, .p]) (rest := []) (ks := [6, 7]) (env' := [(6, .pointer (some ⟨b_7, 0, none⟩)), (7, .bool true)]) (H' := [⟨40, b_7, [.int .i64 0, .int .u64 0, .int .u64 0]⟩, ⟨1, b_2, [.int .u64 t_1.now, .int .u64 t_1.next, .slice A_3 (t_1.rows.set r_8.toNat (⟨(rdL t_1.rows r_8).Id, t_1.now, (rdL t_1.rows r_8).Seq, (⟨(rdL t_1.rows r_8).Reply.Err, (rdL t_1.rows r_8).Reply.Num, (rdL t_1.rows r_8).Reply.Extra⟩ : T_api_Reply)⟩ : T_session_Row)).length c_4]⟩]) (ps := [b_7 = b_7]) (by kernel_rfl) (And.intro rfl trivial) ?_
        refine GoO.regionEnd ?_
        exact GoO.ret' (h := c18_33e) (hs := [0]) (ps := [b_7 = b_7]) (hk := [1]) (bk := [0]) Try.func18 (⟨A_3, c_4⟩ : Option Addr × Nat) (by kernel_rfl) (And.intro rfl trivial) (by kernel_rfl) (by kernel_rfl)
theorem session_Table_Begin_ok (n : Nat) (t_1 : T_session_Table) (id_5 : Int) (seq_6 : Int) (b_2 : Nat) (A_3 : Option Addr) (c_4 : Nat) :
    Meets Try.prog 18 [.pointer (some ⟨b_2, 0, none⟩), .int .u64 id_5, .int .u64 seq_6] 2 [1, 2] [⟨1, b_2, [.int .u64 t_1.now, .int .u64 t_1.next, .slice A_3 t_1.rows.length c_4]⟩] [Ow 2 kT_session_Row A_3 c_4 t_1.rows] (session_Table_Begin.f n t_1 id_5 seq_6) (session_Table_Begin.R b_2 A_3 c_4) := by
  refine Meets.of (c := c18_0) (n := 58) Try.func18 (by kernel_rfl) (by kernel_rfl) (by kernel_rfl) fun w0 S0 => ?_
  unfold session_Table_Begin.f
  show GoO (session_Table_Begin.cx b_2 A_3 c_4 w0 S0) [(0, .pointer (some ⟨b_2, 0, none⟩)), (1, .int .u64 id_5), (2, .int .u64 seq_6)] [⟨1, b_2, [.int .u64 t_1.now, .int .u64 t_1.next, .slice A_3 t_1.rows.length c_4]⟩] [Ow 2 kT_session_Row A_3 c_4 t_1.rows] [.code c18_0] _
  refine GoO.seq' c18_0e ?_
  refine GoO.region' (is := [0, 1]) c18_1e (by kernel_rfl) ?_
  refine OpTo.go (GoO.new rfl 40 (cs := [.int .i64 0, .int .u64 0, .int .u64 0]) (by kernel_rfl) _ (fun _ => rfl) (fun b_7 => ?_))
  refine GoO.exec (is := [1]) (hs := [.p]) (rest := []) (ks := [0, 1, 2, 6]) (env' := [(0, .pointer (some ⟨b_2, 0, none⟩)), (1, .int .u64 id_5), (2, .int .u64 seq_6), (6, .pointer (some ⟨b_7, 0, none⟩))]) (H' := [⟨40, b_7, [.int .i64 0, .int .u64 0, .int .u64 0]⟩, ⟨1, b_2, [.int .u64 t_1.now, .int .u64 t_1.next, .slice A_3 t_1.rows.length c_4]⟩]) (ps := []) (by kernel_rfl) trivial ?_
  refine GoO.regionEnd ?_
  refine GoO.seq' c18_2e ?_
  refine GoO.region' (is := [0, 1, 2, 3]) c18_3e (by kernel_rfl) ?_
  refine GoO.exec (is := [0, 1]) (hs := [.p, .p]) (rest := [2, 3]) (ks := [0, 2, 6, 10, 11]) (env' := [(0, .pointer (some ⟨b_2, 0, none⟩)), (2, .int .u64 seq_6), (6, .pointer (some ⟨b_7, 0, none⟩)), (10, .pointer (some ⟨b_2, 0, none⟩)), (11, .int .u64 id_5)]) (H' := [⟨40, b_7, [.int .i64 0, .int .u64 0, .int .u64 0]⟩, ⟨1, b_2, [.int .u64 t_1.now, .int .u64 t_1.next, .slice A_3 t_1.rows.length c_4]⟩]) (ps := []) (by kernel_rfl) trivial ?_
  refine OpTo.go (GoO.call rfl (by kernel_rfl) (by kernel_rfl) (session_Table_find_ok n t_1 id_5 b_2 A_3 c_4) [[0], [1], [2]] [] [(1, 1)] [(2, 0)] (hks := [0, 1]) (bks := [0]) (by kernel_rfl) (by kernel_rfl) (by kernel_rfl) (.inl rfl) rfl rfl (by kernel_rfl) (by kernel_rfl) _ (fun _ _ => rfl) _ _ (fun _ _ => rfl) (fun _ _ => rfl) (fun _ _ => by kernel_rfl) (fun _ _ => by kernel_rfl) (fun r_8 x_22 => ?_))
  refine GoO.shape (env' := [(0, .pointer (some ⟨b_2, 0, none⟩)), (2, .int .u64 seq_6), (6, .pointer (some ⟨b_7, 0, none⟩)), (10, .pointer (some ⟨b_2, 0, none⟩)), (11, .int .u64 id_5), (12, .int .i64 r_8)]) (H' := [⟨40, b_7, [.int .i64 0, .int .u64 0, .int .u64 0]⟩, ⟨1, b_2, [.int .u64 t_1.now, .int .u64 t_1.next, .slice A_3 t_1.rows.length c_4]⟩]) (B' := [Ow 2 kT_session_Row A_3 c_4 t_1.rows]) (ks := [0, 2, 6, 10, 11, 12]) (by kernel_rfl) (by kernel_rfl) (by kernel_rfl) ?_
  refine GoO.exec (is := [3]) (hs := [.p]) (rest := []) (ks := [0, 2, 6, 8]) (env' := [(0, .pointer (some ⟨b_2, 0, none⟩)), (2, .int .u64 seq_6), (6, .pointer (some ⟨b_7, 0, none⟩)), (8, .int .i64 r_8)]) (H' := [⟨40, b_7, [.int .i64 0, .int .u64 0, .int .u64 0]⟩, ⟨1, b_2, [.int .u64 t_1.now, .int .u64 t_1.next, .slice A_3 t_1.rows.length c_4]⟩]) (ps := []) (by kernel_rfl) trivial ?_
  refine GoO.regionEnd ?_
  refine GoO.seq' c18_4e ?_
  refine GoO.seq' c18_5e ?_
  refine GoO.region' (is := [0, 1]) c18_6e (by kernel_rfl) ?_
  refine GoO.exec (is := [0, 1]) (hs := [.p, .p]) (rest := []) (ks := [0, 2, 6, 8, 14]) (env' := [(0, .pointer (some ⟨b_2, 0, none⟩)), (2, .int .u64 seq_6), (6, .pointer (some ⟨b_7, 0, none⟩)), (8, .int .i64 r_8), (14, .bool (decide (r_8 < 0)))]) (H' := [⟨40, b_7, [.int .i64 0, .int .u64 0, .int .u64 0]⟩, ⟨1, b_2, [.int .u64 t_1.now, .int .u64 t_1.next, .slice A_3 t_1.rows.length c_4]⟩]) (ps := []) (by kernel_rfl) trivial ?_
  refine GoO.regionEnd ?_
  refine GoO.ite' c18_7e (by kernel_rfl) (fun h9 => ?_) (fun h9 => ?_)
  · refine GoO.seq' c18_8e ?_
    refine GoO.region' (is := [0, 1, 2]) c18_9e (by kernel_rfl) ?_
    refine GoO.exec (is := [0, 1, 2]) (hs := [.p, .b 0, .p]) (rest := []) (ks := [6, 7]) (env' := [(6, .pointer (some ⟨b_7, 0, none⟩)), (7, .bool false)]) (H' := [⟨40, b_7, [.int .i64 40, .int .u64 0, .int .u64 0]⟩, ⟨1, b_2, [.int .u64 t_1.now, .int .u64 t_1.next, .slice A_3 t_1.rows.length c_4]⟩]) (ps := [b_7 = b_7]) (by kernel_rfl) (And.intro rfl trivial) ?_
    refine GoO.regionEnd ?_
    exact GoO.ret' (h := c18_10e) (hs := [0]) (ps := [b_7 = b_7]) (hk := [1]) (bk := [0]) Try.func18 (⟨A_3, c_4⟩ : Option Addr × Nat) (by kernel_rfl) (And.intro rfl trivial) (by kernel_rfl) (by kernel_rfl)
  · refine GoO.skip' c18_11e ?_
    refine GoO.seq' c18_12e ?_
    refine GoO.region' (is := [0, 1, 2, 3, 4, 5, 6]) c18_13e (by kernel_rfl) ?_
    refine GoO.exec (is := [0, 1, 2, 3, 4]) (hs := [.p, .p, .p, .b 1, .p]) (rest := [5, 6]) (ks := [0, 2, 6, 19, 20]) (env' := [(0, .pointer (some ⟨b_2, 0, none⟩)), (2, .int .u64 seq_6), (6, .pointer (some ⟨b_7, 0, none⟩)), (19, .slice A_3 t_1.rows.length c_4), (20, .int .i64 r_8)]) (H' := [⟨40, b_7, [.int .i64 0, .int .u64 0, .int .u64 0]⟩, ⟨1, b_2, [.int .u64 t_1.now, .int .u64 t_1.next, .slice A_3 t_1.rows.length c_4]⟩]) (ps := [b_2 = b_2]) (by kernel_rfl) (And.intro rfl trivial) ?_
    refine GoO.guard (fun h10 => ?_)
    refine OpTo.go (GoO.idx (kk := .i64) (e := 87) (K := kT_session_Row) (A := A_3) (c := c_4) (xs := t_1.rows) (iv := r_8) (j := 0) rfl (by kernel_rfl) (by kernel_rfl) (by kernel_rfl) (by kernel_rfl) rfl Reads.own rfl h10.1 h10.2 (by decide) rfl ?_)
    refine GoO.exec (is := [6]) (hs := [.p]) (rest := []) (ks := [0, 2, 6, 9]) (env' := [(0, .pointer (some ⟨b_2, 0, none⟩)), (2, .int .u64 seq_6), (6, .pointer (some ⟨b_7, 0, none⟩)), (9, elemP A_3 r_8.toNat 6 0)]) (H' := [⟨40, b_7, [.int .i64 0, .int .u64 0, .int .u64 0]⟩, ⟨1, b_2, [.int .u64 t_1.now, .int .u64 t_1.next, .slice A_3 t_1.rows.length c_4]⟩]) (ps := []) (by kernel_rfl) trivial ?_
    refine GoO.regionEnd ?_
    refine GoO.seq' c18_14e ?_
    refine GoO.region' (is := [0, 1, 2, 3, 4, 5, 6, 7]) c18_15e (by kernel_rfl) ?_
    refine GoO.exec (is := [0, 1, 2, 3, 4]) (hs := [.p, .p, .p, .p, .b 1]) (rest := [5, 6, 7]) (ks := [2, 6, 9, 22, 26]) (env' := [(2, .int .u64 seq_6), (6, .pointer (some ⟨b_7, 0, none⟩)), (9, elemP A_3 r_8.toNat 6 0), (22, elemP A_3 r_8.toNat 6 0), (26, .int .u64 t_1.now)]) (H' := [⟨40, b_7, [.int .i64 0, .int .u64 0, .int .u64 0]⟩, ⟨1, b_2, [.int .u64 t_1.now, .int .u64 t_1.next, .slice A_3 t_1.rows.length c_4]⟩]) (ps := [b_2 = b_2]) (by kernel_rfl) (And.intro rfl trivial) ?_
    refine OpTo.go (GoO.nilE (K := kT_session_Row) (A := A_3) (c := c_4) (xs := t_1.rows) (iN := r_8.toNat) (off := 0) (j := 0) rfl (by kernel_rfl) rfl Reads.own (by first | exact idx_lt h10.1 h10.2 | (simp only [List.length_set]; exact idx_lt h10.1 h10.2)) (by decide) rfl ?_)
    refine OpTo.go (GoO.fldE (K := kT_session_Row) (A := A_3) (c := c_4) (xs := t_1.rows) (iN := r_8.toNat) (off := 0) (n := 1) (j := 0) rfl (by kernel_rfl) (by kernel_rfl) rfl Reads.own (by first | exact idx_lt h10.1 h10.2 | (simp only [List.length_set]; exact idx_lt h10.1 h10.2)) (by decide) rfl ?_)
    refine OpTo.go (GoO.stE (K := kT_session_Row) (A := A_3) (c := c_4) (xs := t_1.rows) (iN := r_8.toNat) (off := 1) (tg := 2) (j := 0) (v := .int .u64 t_1.now) rfl (by kernel_rfl) (by kernel_rfl) rfl (by first | exact idx_lt h10.1 h10.2 | (simp only [List.length_set]; exact idx_lt h10.1 h10.2)) (by decide) (by kernel_rfl) (by kernel_rfl) (by kernel_rfl) ((⟨(rdL t_1.rows r_8).Id, t_1.now, (rdL t_1.rows r_8).Seq, (⟨(rdL t_1.rows r_8).Reply.Err, (rdL t_1.rows r_8).Reply.Num, (rdL t_1.rows r_8).Reply.Extra⟩ : T_api_Reply)⟩ : T_session_Row)) (fun w S cs _ hr => ⟨_, by subst hr; exact stored_flat rfl, rfl⟩) rfl ?_)
    refine GoO.rebox (j := 1) (t := 1) (b := b_2) (cs := [.int .u64 t_1.now, .int .u64 t_1.next, .slice A_3 t_1.rows.length c_4]) (cs' := [.int .u64 t_1.now, .int .u64 t_1.next, .slice A_3 (t_1.rows.set r_8.toNat (⟨(rdL t_1.rows r_8).Id, t_1.now, (rdL t_1.rows r_8).Seq, (⟨(rdL t_1.rows r_8).Reply.Err, (rdL t_1.rows r_8).Reply.Num, (rdL t_1.rows r_8).Reply.Extra⟩ : T_api_Reply)⟩ : T_session_Row)).length c_4]) (by kernel_rfl) (by simp) ?_
    refine GoO.regionEnd ?_
    refine GoO.seq' c18_16e ?_
    refine GoO.block' c18_17e ?_
    refine GoO.seq' c18_18e ?_
    refine GoO.region' (is := [0, 1, 2, 3, 4, 5, 6, 7, 8, 9, 10]) c18_19e (by kernel_rfl) ?_
    refine GoO.exec (is := [0, 1]) (hs := [.p, .p]) (rest := [2, 3, 4, 5, 6, 7, 8, 9, 10]) (ks := [2, 6, 9, 30, 31]) (env' := [(2, .int .u64 seq_6), (6, .pointer (some ⟨b_7, 0, none⟩)), (9, elemP A_3 r_8.toNat 6 0), (30, .int .u64 seq_6), (31, elemP A_3 r_8.toNat 6 0)]) (H' := [⟨40, b_7, [.int .i64 0, .int .u64 0, .int .u64 0]⟩, ⟨1, b_2, [.int .u64 t_1.now, .int .u64 t_1.next, .slice A_3 (t_1.rows.set r_8.toNat (⟨(rdL t_1.rows r_8).Id, t_1.now, (rdL t_1.rows r_8).Seq, (⟨(rdL t_1.rows r_8).Reply.Err, (rdL t_1.rows r_8).Reply.Num, (rdL t_1.rows r_8).Reply.Extra⟩ : T_api_Reply)⟩ : T_session_Row)).length c_4]⟩]) (ps := []) (by kernel_rfl) trivial ?_
    refine OpTo.go (GoO.nilE (K := kT_session_Row) (A := A_3) (c := c_4) (xs := t_1.rows.set r_8.toNat (⟨(rdL t_1.rows r_8).Id, t_1.now, (rdL t_1.rows r_8).Seq, (⟨(rdL t_1.rows r_8).Reply.Err, (rdL t_1.rows r_8).Reply.Num, (rdL t_1.rows r_8).Reply.Extra⟩ : T_api_Reply)⟩ : T_session_Row)) (iN := r_8.toNat) (off := 0) (j := 0) rfl (by kernel_rfl) rfl Reads.own (by first | exact idx_lt h10.1 h10.2 | (simp only [List.length_set]; exact idx_lt h10.1 h10.2)) (by decide) rfl ?_)
    refine OpTo.go (GoO.fldE (K := kT_session_Row) (A := A_3) (c := c_4) (xs := t_1.rows.set r_8.toNat (⟨(rdL t_1.rows r_8).Id, t_1.now, (rdL t_1.rows r_8).Seq, (⟨(rdL t_1.rows r_8).Reply.Err, (rdL t_1.rows r_8).Reply.Num, (rdL t_1.rows r_8).Reply.Extra⟩ : T_api_Reply)⟩ : T_session_Row)) (iN := r_8.toNat) (off := 0) (n := 2) (j := 0) rfl (by kernel_rfl) (by kernel_rfl) rfl Reads.own (by first | exact idx_lt h10.1 h10.2 | (simp only [List.length_set]; exact idx_lt h10.1 h10.2)) (by decide) rfl ?_)
    refine OpTo.go (GoO.ldE' (K := kT_session_Row) (A := A_3) (c := c_4) (xs := t_1.rows.set r_8.toNat (⟨(rdL t_1.rows r_8).Id, t_1.now, (rdL t_1.rows r_8).Seq, (⟨(rdL t_1.rows r_8).Reply.Err, (rdL t_1.rows r_8).Reply.Num, (rdL t_1.rows r_8).Reply.Extra⟩ : T_api_Reply)⟩ : T_session_Row)) (iN := r_8.toNat) (off := 2) (j := 0) rfl (by kernel_rfl) rfl Reads.own (by first | exact idx_lt h10.1 h10.2 | (simp only [List.length_set]; exact idx_lt h10.1 h10.2)) (by decide) (Opn.flat _ _ _ _ _) (v := fun _ => .int .u64 ((rdL (t_1.rows.set r_8.toNat (⟨(rdL t_1.rows r_8).Id, t_1.now, (rdL t_1.rows r_8).Seq, (⟨(rdL t_1.rows r_8).Reply.Err, (rdL t_1.rows r_8).Reply.Num, (rdL t_1.rows r_8).Reply.Extra⟩ : T_api_Reply)⟩ : T_session_Row)) r_8).Seq)) (fun _ => by kernel_rfl) _ (fun _ => rfl) (fun _ => ?_))
    refine GoO.exec (is := [5, 6]) (hs := [.p, .p]) (rest := [7, 8, 9, 10]) (ks := [2, 6, 9, 36]) (env' := [(2, .int .u64 seq_6), (6, .pointer (some ⟨b_7, 0, none⟩)), (9, elemP A_3 r_8.toNat 6 0), (36, .bool (seq_6 == ((rdL (t_1.rows.set r_8.toNat (⟨(rdL t_1.rows r_8).Id, t_1.now, (rdL t_1.rows r_8).Seq, (⟨(rdL t_1.rows r_8).Reply.Err, (rdL t_1.rows r_8).Reply.Num, (rdL t_1.rows r_8).Reply.Extra⟩ : T_api_Reply)⟩ : T_session_Row)) r_8).Seq)))]) (H' := [⟨40, b_7, [.int .i64 0, .int .u64 0, .int .u64 0]⟩, ⟨1, b_2, [.int .u64 t_1.now, .int .u64 t_1.next, .slice A_3 (t_1.rows.set r_8.toNat (⟨(rdL t_1.rows r_8).Id, t_1.now, (rdL t_1.rows r_8).Seq, (⟨(rdL t_1.rows r_8).Reply.Err, (rdL t_1.rows r_8).Reply.Num, (rdL t_1.rows r_8).Reply.Extra⟩ : T_api_Reply)⟩ : T_session_Row)).length c_4]⟩]) (ps := []) (by kernel_rfl) trivial ?_
    refine GoO.bsplit (t := 36) (by kernel_rfl) (fun h11 => ?_) (fun h11 => ?_)
    · refine GoO.exec (is := [7, 8, 9, 10]) (hs := [.p, .p, .p, .p]) (rest := []) (ks := [2, 6, 9, 29]) (env' := [(2, .int .u64 seq_6), (6, .pointer (some ⟨b_7, 0, none⟩)), (9, elemP A_3 r_8.toNat 6 0), (29, .bool (decide (seq_6 > 0)))]) (H' := [⟨40, b_7, [.int .i64 0, .int .u64 0, .int .u64 0]⟩, ⟨1, b_2, [.int .u64 t_1.now, .int .u64 t_1.next, .slice A_3 (t_1.rows.set r_8.toNat (⟨(rdL t_1.rows r_8).Id, t_1.now, (rdL t_1.rows r_8).Seq, (⟨(rdL t_1.rows r_8).Reply.Err, (rdL t_1.rows r_8).Reply.Num, (rdL t_1.rows r_8).Reply.Extra⟩ : T_api_Reply)⟩ : T_session_Row)).length c_4]⟩]) (ps := []) (by kernel_rfl) trivial ?_
      refine GoO.regionEnd ?_
      exact GoO.sub (ks := [2, 6, 9, 29]) (hk := [0, 1]) (bk := [0]) (by kernel_rfl) (by kernel_rfl) (by kernel_rfl) (session_Table_Begin_j0_ok n t_1 seq_6 r_8 b_2 A_3 c_4 b_7 w0 S0 (decide (seq_6 > 0)))
    · refine GoO.exec (is := [7, 8, 9, 10]) (hs := [.p, .p, .p, .p]) (rest := []) (ks := [2, 6, 9, 29]) (env' := [(2, .int .u64 seq_6), (6, .pointer (some ⟨b_7, 0, none⟩)), (9, elemP A_3 r_8.toNat 6 0), (29, .bool false)]) (H' := [⟨40, b_7, [.int .i64 0, .int .u64 0, .int .u64 0]⟩, ⟨1, b_2, [.int .u64 t_1.now, .int .u64 t_1.next, .slice A_3 (t_1.rows.set r_8.toNat (⟨(rdL t_1.rows r_8).Id, t_1.now, (rdL t_1.rows r_8).Seq, (⟨(rdL t_1.rows r_8).Reply.Err, (rdL t_1.rows r_8).Reply.Num, (rdL t_1.rows r_8).Reply.Extra⟩ : T_api_Reply)⟩ : T_session_Row)).length c_4]⟩]) (ps := []) (by kernel_rfl) trivial ?_
      refine GoO.regionEnd ?_
      exact GoO.sub (ks := [2, 6, 9, 29]) (hk := [0, 1]) (bk := [0]) (by kernel_rfl) (by kernel_rfl) (by kernel_rfl) (session_Table_Begin_j0_ok n t_1 seq_6 r_8 b_2 A_3 c_4 b_7 w0 S0 false)

/-! (*tontine/session.Table).End -/
noncomputable def c19_0 : Code := bodyOf Try.f19
noncomputable def c19_1 : Code := cdL c19_0
noncomputable def c19_2 : Code := cdR c19_0
noncomputable def c19_3 : Code := cdL c19_2
noncomputable def c19_4 : Code := cdR c19_2
noncomputable def c19_5 : Code := cdL c19_4
noncomputable def c19_6 : Code := cdL c19_5
noncomputable def c19_7 : Code := cdR c19_5
noncomputable def c19_8 : Code := cdL c19_7
noncomputable def c19_9 : Code := cdL c19_8
noncomputable def c19_10 : Code := cdR c19_8
noncomputable def c19_11 : Code := cdR c19_7
noncomputable def c19_12 : Code := cdR c19_4
noncomputable def c19_13 : Code := cdL c19_12
noncomputable def c19_14 : Code := cdR c19_12
noncomputable def c19_15 : Code := cdL c19_14
noncomputable def c19_16 : Code := cdR c19_14
noncomputable def r19_1 : Array Oper := cdO c19_1
noncomputable def r19_3 : Array Oper := cdO c19_3
noncomputable def r19_6 : Array Oper := cdO c19_6
noncomputable def r19_9 : Array Oper := cdO c19_9
noncomputable def r19_13 : Array Oper := cdO c19_13
noncomputable def r19_15 : Array Oper := cdO c19_15
theorem c19_0e : c19_0 = .seq c19_1 c19_2 := by kernel_rfl
theorem c19_1e : c19_1 = .region 0 r19_1 false := by kernel_rfl
theorem c19_2e : c19_2 = .seq c19_3 c19_4 := by kernel_rfl
theorem c19_3e : c19_3 = .region 1 r19_3 false := by kernel_rfl
theorem c19_4e : c19_4 = .seq c19_5 c19_12 := by kernel_rfl
theorem c19_5e : c19_5 = .seq c19_6 c19_7 := by kernel_rfl
theorem c19_6e : c19_6 = .region 2 r19_6 false := by kernel_rfl
theorem c19_7e : c19_7 = .cond (cdC c19_7) c19_8 c19_11 := by kernel_rfl
theorem c19_8e : c19_8 = .seq c19_9 c19_10 := by kernel_rfl
theorem c19_9e : c19_9 = .region 3 r19_9 false := by kernel_rfl
theorem c19_10e : c19_10 = .ret := by kernel_rfl
theorem c19_11e : c19_11 = .skip := by kernel_rfl
theorem c19_12e : c19_12 = .seq c19_13 c19_14 := by kernel_rfl
theorem c19_13e : c19_13 = .region 4 r19_13 true := by kernel_rfl
theorem c19_14e : c19_14 = .seq c19_15 c19_16 := by kernel_rfl
theorem c19_15e : c19_15 = .region 5 r19_15 false := by kernel_rfl
theorem c19_16e : c19_16 = .ret := by kernel_rfl
noncomputable def session_Table_End.R (b_2 : Nat) (A_3 : Option Addr) (c_4 : Nat) : Pst (Bool × T_session_Table) where
  ε := Option Addr × Nat
  v := fun r x => .bool r.1
  H := fun r x => [⟨1, b_2, [.int .u64 r.2.now, .int .u64 r.2.next, .slice x.1 r.2.rows.length x.2]⟩]
  B := fun r x => [Ow 2 kT_session_Row x.1 x.2 r.2.rows]
noncomputable def session_Table_End.cx (b_2 : Nat) (A_3 : Option Addr) (c_4 : Nat) (w0 : World) (S0 : Fam) : Cx (Bool × T_session_Table) := ⟨Try.prog, 19, Try.f19, 48, w0, S0, [1, 2], 2, session_Table_End.R b_2 A_3 c_4⟩
theorem session_Table_End_j0_ok (n : Nat) (t_1 : T_session_Table) (seq_6 : Int) (y_7 : T_api_Reply) (r_9 : Int) (b_2 : Nat) (A_3 : Option Addr) (c_4 : Nat) (b_8 : Nat) (w0 : World) (S0 : Fam) (b_13 : Bool) :
    GoO (session_Table_End.cx b_2 A_3 c_4 w0 S0) [(0, .pointer (some ⟨b_2, 0, none⟩)), (2, .int .u64 seq_6), (7, .pointer (some ⟨b_8, 0, none⟩)), (9, .int .i64 r_9), (31, .bool b_13)] [⟨1, b_2, [.int .u64 t_1.now, .int .u64 t_1.next, .slice A_3 t_1.rows.length c_4]⟩, ⟨40, b_8, [.int .i64 y_7.Err, .int .u64 y_7.Num, .int .u64 y_7.Extra]⟩] [Ow 2 kT_session_Row A_3 c_4 t_1.rows] [.code c19_7, .code c19_12] (session_Table_End.j0 n t_1 seq_6 y_7 r_9 b_13) := by
  unfold session_Table_End.j0
  refine GoO.ite' c19_7e (by kernel_rfl) (fun h14 => ?_) (fun h14 => ?_)
  · refine GoO.seq' c19_8e ?_
    refine GoO.region' (is := [0]) c19_9e (by kernel_rfl) ?_
    refine GoO.exec (is := [0]) (hs := [.p]) (rest := []) (ks := [8]) (env' := [(8, .bool false)]) (H' := [⟨1, b_2, [.int .u64 t_1.now, .int .u64 t_1.next, .slice A_3 t_1.rows.length c_4]⟩, ⟨40, b_8, [.int .i64 y_7.Err, .int .u64 y_7.Num, .int .u64 y_7.Extra]⟩]) (ps := []) (by kernel_rfl) trivial ?_
    refine GoO.regionEnd ?_
    exact GoO.ret' (h := c19_10e) (hs := []) (ps := []) (hk := [0]) (bk := [0]) Try.func19 (⟨A_3, c_4⟩ : Option Addr × Nat) (by kernel_rfl) trivial (by kernel_rfl) (by kernel_rfl)
  · refine GoO.skip' c19_11e ?_
    refine GoO.seq' c19_12e ?_
    refine GoO.draw c19_13e (by kernel_rfl) [15, 16, 17] [⟨1, b_2, [.int .u64 t_1.now, .int .u64 t_1.next, .slice A_3 t_1.rows.length c_4]⟩, ⟨40, b_8, [.int .i64 y_7.Err, .int .u64 y_7.Num, .int .u64 y_7.Extra]⟩] [] (n := 18) (by kernel_rfl) ?_
    simp only [List.replicate]
    refine GoF.take [0, 1, 2, 3, 4, 5, 6, 7, 8, 9, 10, 11] [.p, .p, .p, .b 0, .p, .p, .p, .p, .b 0, .p, .p, .b 1] (ks := [35, 36, 40, 41, 42, 43]) (fu := 6) (li := [true, true, true, true, true, true, true, true, true, true, true, true, false, false, false, false, false, false]) (env' := [(35, .slice A_3 t_1.rows.length c_4), (36, .int .i64 r_9), (40, .slice A_3 t_1.rows.length c_4), (41, .int .i64 r_9), (42, .int .u64 seq_6), (43, .agg ⟨[.int .i64 y_7.Err, .int .u64 y_7.Num, .int .u64 y_7.Extra]⟩)]) (ps := [b_2 = b_2, b_2 = b_2, b_8 = b_8]) (hk := [0, 1]) (bk := []) (by kernel_rfl) (And.intro rfl (And.intro rfl (And.intro rfl trivial))) rfl rfl ?_
    refine GoF.guard (fun h15 => ?_)
    refine OpTo.goF (i := 12) (by kernel_rfl) (hk := [0, 1]) (bk := []) (GoO.idx (kk := .i64) (e := 87) (K := kT_session_Row) (A := A_3) (c := c_4) (xs := t_1.rows) (iv := r_9) (j := 0) rfl (by kernel_rfl) (by kernel_rfl) (by kernel_rfl) (by kernel_rfl) rfl Reads.own rfl h15.1 h15.2 (by decide) rfl ⟨rfl, rfl, ?_⟩)
    refine OpTo.goF (i := 13) (by kernel_rfl) (hk := [0, 1]) (bk := []) (GoO.fldE (K := kT_session_Row) (A := A_3) (c := c_4) (xs := t_1.rows) (iN := r_9.toNat) (off := 0) (n := 2) (j := 0) rfl (by kernel_rfl) (by kernel_rfl) rfl Reads.own (by first | exact idx_lt h15.1 h15.2 | (simp only [List.length_set]; exact idx_lt h15.1 h15.2)) (by decide) rfl ⟨rfl, rfl, ?_⟩)
    refine OpTo.goF (i := 14) (by kernel_rfl) (hk := [0, 1]) (bk := []) (GoO.stE (K := kT_session_Row) (A := A_3) (c := c_4) (xs := t_1.rows) (iN := r_9.toNat) (off := 2) (tg := 2) (j := 0) (v := .int .u64 seq_6) rfl (by kernel_rfl) (by kernel_rfl) rfl (by first | exact idx_lt h15.1 h15.2 | (simp only [List.length_set]; exact idx_lt h15.1 h15.2)) (by decide) (by kernel_rfl) (by kernel_rfl) (by kernel_rfl) ((⟨(rdL t_1.rows r_9).Id, (rdL t_1.rows r_9).Used, seq_6, (⟨(rdL t_1.rows r_9).Reply.Err, (rdL t_1.rows r_9).Reply.Num, (rdL t_1.rows r_9).Reply.Extra⟩ : T_api_Reply)⟩ : T_session_Row)) (fun w S cs _ hr => ⟨_, by subst hr; exact stored_flat rfl, rfl⟩) rfl ⟨rfl, rfl, ?_⟩)
    refine GoF.reval (t := 35) (v := .slice A_3 t_1.rows.length c_4) (v' := .slice A_3 (t_1.rows.set r_9.toNat (⟨(rdL t_1.rows r_9).Id, (rdL t_1.rows r_9).Used, seq_6, (⟨(rdL t_1.rows r_9).Reply.Err, (rdL t_1.rows r_9).Reply.Num, (rdL t_1.rows r_9).Reply.Extra⟩ : T_api_Reply)⟩ : T_session_Row)).length c_4) (by kernel_rfl) (by simp) ?_
    refine GoF.reval (t := 40) (v := .slice A_3 t_1.rows.length c_4) (v' := .slice A_3 (t_1.rows.set r_9.toNat (⟨(rdL t_1.rows r_9).Id, (rdL t_1.rows r_9).Used, seq_6, (⟨(rdL t_1.rows r_9).Reply.Err, (rdL t_1.rows r_9).Reply.Num, (rdL t_1.rows r_9).Reply.Extra⟩ : T_api_Reply)⟩ : T_session_Row)).length c_4) (by kernel_rfl) (by simp) ?_
    refine GoF.rebox (j := 0) (t := 1) (b := b_2) (cs := [.int .u64 t_1.now, .int .u64 t_1.next, .slice A_3 t_1.rows.length c_4]) (cs' := [.int .u64 t_1.now, .int .u64 t_1.next, .slice A_3 (t_1.rows.set r_9.toNat (⟨(rdL t_1.rows r_9).Id, (rdL t_1.rows r_9).Used, seq_6, (⟨(rdL t_1.rows r_9).Reply.Err, (rdL t_1.rows r_9).Reply.Num, (rdL t_1.rows r_9).Reply.Extra⟩ : T_api_Reply)⟩ : T_session_Row)).length c_4]) (by kernel_rfl) (by simp) ?_
    refine GoF.guard (fun h16 => ?_)
    refine OpTo.goE (i := 15) (by kernel_rfl) rfl (GoO.idx (kk := .i64) (e := 87) (K := kT_session_Row) (A := A_3) (c := c_4) (xs := t_1.rows.set r_9.toNat (⟨(rdL t_1.rows r_9).Id, (rdL t_1.rows r_9).Used, seq_6, (⟨(rdL t_1.rows r_9).Reply.Err, (rdL t_1.rows r_9).Reply.Num, (rdL t_1.rows r_9).Reply.Extra⟩ : T_api_Reply)⟩ : T_session_Row)) (iv := r_9) (j := 0) rfl (by kernel_rfl) (by kernel_rfl) (by kernel_rfl) (by kernel_rfl) rfl Reads.own rfl h16.1 h16.2 (by decide) rfl ?_)
    refine OpTo.goE (i := 16) (by kernel_rfl) rfl (GoO.fldE (K := kT_session_Row) (A := A_3) (c := c_4) (xs := t_1.rows.set r_9.toNat (⟨(rdL t_1.rows r_9).Id, (rdL t_1.rows r_9).Used, seq_6, (⟨(rdL t_1.rows r_9).Reply.Err, (rdL t_1.rows r_9).Reply.Num, (rdL t_1.rows r_9).Reply.Extra⟩ : T_api_Reply)⟩ : T_session_Row)) (iN := r_9.toNat) (off := 0) (n := 3) (j := 0) rfl (by kernel_rfl) (by kernel_rfl) rfl Reads.own (by first | exact idx_lt h16.1 h16.2 | (simp only [List.length_set]; exact idx_lt h16.1 h16.2)) (by decide) rfl ?_)
    refine OpTo.goE (i := 17) (by kernel_rfl) rfl (GoO.stE (K := kT_session_Row) (A := A_3) (c := c_4) (xs := t_1.rows.set r_9.toNat (⟨(rdL t_1.rows r_9).Id, (rdL t_1.rows r_9).Used, seq_6, (⟨(rdL t_1.rows r_9).Reply.Err, (rdL t_1.rows r_9).Reply.Num, (rdL t_1.rows r_9).Reply.Extra⟩ : T_api_Reply)⟩ : T_session_Row)) (iN := r_9.toNat) (off := 3) (tg := 2) (j := 0) (v := .agg ⟨[.int .i64 y_7.Err, .int .u64 y_7.Num, .int .u64 y_7.Extra]⟩) rfl (by kernel_rfl) (by kernel_rfl) rfl (by first | exact idx_lt h16.1 h16.2 | (simp only [List.length_set]; exact idx_lt h16.1 h16.2)) (by decide) (by kernel_rfl) (by kernel_rfl) (by kernel_rfl) ((⟨(rdL (t_1.rows.set r_9.toNat (⟨(rdL t_1.rows r_9).Id, (rdL t_1.rows r_9).Used, seq_6, (⟨(rdL t_1.rows r_9).Reply.Err, (rdL t_1.rows r_9).Reply.Num, (rdL t_1.rows r_9).Reply.Extra⟩ : T_api_Reply)⟩ : T_session_Row)) r_9).Id, (rdL (t_1.rows.set r_9.toNat (⟨(rdL t_1.rows r_9).Id, (rdL t_1.rows r_9).Used, seq_6, (⟨(rdL t_1.rows r_9).Reply.Err, (rdL t_1.rows r_9).Reply.Num, (rdL t_1.rows r_9).Reply.Extra⟩ : T_api_Reply)⟩ : T_session_Row)) r_9).Used, (rdL (t_1.rows.set r_9.toNat (⟨(rdL t_1.rows r_9).Id, (rdL t_1.rows r_9).Used, seq_6, (⟨(rdL t_1.rows r_9).Reply.Err, (rdL t_1.rows r_9).Reply.Num, (rdL t_1.rows r_9).Reply.Extra⟩ : T_api_Reply)⟩ : T_session_Row)) r_9).Seq, y_7⟩ : T_session_Row)) (fun w S cs _ hr => ⟨_, by subst hr; exact stored_flat rfl, rfl⟩) rfl ?_)
    refine GoF.reval (t := 35) (v := .slice A_3 (t_1.rows.set r_9.toNat (⟨(rdL t_1.rows r_9).Id, (rdL t_1.rows r_9).Used, seq_6, (⟨(rdL t_1.rows r_9).Reply.Err, (rdL t_1.rows r_9).Reply.Num, (rdL t_1.rows r_9).Reply.Extra⟩ : T_api_Reply)⟩ : T_session_Row)).length c_4) (v' := .slice A_3 ((t_1.rows.set r_9.toNat (⟨(rdL t_1.rows r_9).Id, (rdL t_1.rows r_9).Used, seq_6, (⟨(rdL t_1.rows r_9).Reply.Err, (rdL t_1.rows r_9).Reply.Num, (rdL t_1.rows r_9).Reply.Extra⟩ : T_api_Reply)⟩ : T_session_Row)).set r_9.toNat (⟨(rdL (t_1.rows.set r_9.toNat (⟨(rdL t_1.rows r_9).Id, (rdL t_1.rows r_9).Used, seq_6, (⟨(rdL t_1.rows r_9).Reply.Err, (rdL t_1.rows r_9).Reply.Num, (rdL t_1.rows r_9).Reply.Extra⟩ : T_api_Reply)⟩ : T_session_Row)) r_9).Id, (rdL (t_1.rows.set r_9.toNat (⟨(rdL t_1.rows r_9).Id, (rdL t_1.rows r_9).Used, seq_6, (⟨(rdL t_1.rows r_9).Reply.Err, (rdL t_1.rows r_9).Reply.Num, (rdL t_1.rows r_9).Reply.Extra⟩ : T_api_Reply)⟩ : T_session_Row)) r_9).Used, (rdL (t_1.rows.set r_9.toNat (⟨(rdL t_1.rows r_9).Id, (rdL t_1.rows r_9).Used, seq_6, (⟨(rdL t_1.rows r_9).Reply.Err, (rdL t_1.rows r_9).Reply.Num, (rdL t_1.rows r_9).Reply.Extra⟩ : T_api_Reply)⟩ : T_session_Row)) r_9).Seq, y_7⟩ : T_session_Row)).length c_4) (by kernel_rfl) (by simp) ?_
    refine GoF.reval (t := 40) (v := .slice A_3 (t_1.rows.set r_9.toNat (⟨(rdL t_1.rows r_9).Id, (rdL t_1.rows r_9).Used, seq_6, (⟨(rdL t_1.rows r_9).Reply.Err, (rdL t_1.rows r_9).Reply.Num, (rdL t_1.rows r_9).Reply.Extra⟩ : T_api_Reply)⟩ : T_session_Row)).length c_4) (v' := .slice A_3 ((t_1.rows.set r_9.toNat (⟨(rdL t_1.rows r_9).Id, (rdL t_1.rows r_9).Used, seq_6, (⟨(rdL t_1.rows r_9).Reply.Err, (rdL t_1.rows r_9).Reply.Num, (rdL t_1.rows r_9).Reply.Extra⟩ : T_api_Reply)⟩ : T_session_Row)).set r_9.toNat (⟨(rdL (t_1.rows.set r_9.toNat (⟨(rdL t_1.rows r_9).Id, (rdL t_1.rows r_9).Used, seq_6, (⟨(rdL t_1.rows r_9).Reply.Err, (rdL t_1.rows r_9).Reply.Num, (rdL t_1.rows r_9).Reply.Extra⟩ : T_api_Reply)⟩ : T_session_Row)) r_9).Id, (rdL (t_1.rows.set r_9.toNat (⟨(rdL t_1.rows r_9).Id, (rdL t_1.rows r_9).Used, seq_6, (⟨(rdL t_1.rows r_9).Reply.Err, (rdL t_1.rows r_9).Reply.Num, (rdL t_1.rows r_9).Reply.Extra⟩ : T_api_Reply)⟩ : T_session_Row)) r_9).Used, (rdL (t_1.rows.set r_9.toNat (⟨(rdL t_1.rows r_9).Id, (rdL t_1.rows r_9).Used, seq_6, (⟨(rdL t_1.rows r_9).Reply.Err, (rdL t_1.rows r_9).Reply.Num, (rdL t_1.rows r_9).Reply.Extra⟩ : T_api_Reply)⟩ : T_session_Row)) r_9).Seq, y_7⟩ : T_session_Row)).length c_4) (by kernel_rfl) (by simp) ?_
    refine GoF.rebox (j := 0) (t := 1) (b := b_2) (cs := [.int .u64 t_1.now, .int .u64 t_1.next, .slice A_3 (t_1.rows.set r_9.toNat (⟨(rdL t_1.rows r_9).Id, (rdL t_1.rows r_9).Used, seq_6, (⟨(rdL t_1.rows r_9).Reply.Err, (rdL t_1.rows r_9).Reply.Num, (rdL t_1.rows r_9).Reply.Extra⟩ : T_api_Reply)⟩ : T_session_Row)).length c_4]) (cs' := [.int .u64 t_1.now, .int .u64 t_1.next, .slice A_3 ((t_1.rows.set r_9.toNat (⟨(rdL t_1.rows r_9).Id, (rdL t_1.rows r_9).Used, seq_6, (⟨(rdL t_1.rows r_9).Reply.Err, (rdL t_1.rows r_9).Reply.Num, (rdL t_1.rows r_9).Reply.Extra⟩ : T_api_Reply)⟩ : T_session_Row)).set r_9.toNat (⟨(rdL (t_1.rows.set r_9.toNat (⟨(rdL t_1.rows r_9).Id, (rdL t_1.rows r_9).Used, seq_6, (⟨(rdL t_1.rows r_9).Reply.Err, (rdL t_1.rows r_9).Reply.Num, (rdL t_1.rows r_9).Reply.Extra⟩ : T_api_Reply)⟩ : T_session_Row)) r_9).Id, (rdL (t_1.rows.set r_9.toNat (⟨(rdL t_1.rows r_9).Id, (rdL t_1.rows r_9).Used, seq_6, (⟨(rdL t_1.rows r_9).Reply.Err, (rdL t_1.rows r_9).Reply.Num, (rdL t_1.rows r_9).Reply.Extra⟩ : T_api_Reply)⟩ : T_session_Row)) r_9).Used, (rdL (t_1.rows.set r_9.toNat (⟨(rdL t_1.rows r_9).Id, (rdL t_1.rows r_9).Used, seq_6, (⟨(rdL t_1.rows r_9).Reply.Err, (rdL t_1.rows r_9).Reply.Num, (rdL t_1.rows r_9).Reply.Extra⟩ : T_api_Reply)⟩ : T_session_Row)) r_9).Seq, y_7⟩ : T_session_Row)).length c_4]) (by kernel_rfl) (by simp) ?_
    refine GoF.done (by kernel_rfl) ?_
    refine GoO.seq' c19_14e ?_
    refine GoO.region' (is := [0]) c19_15e (by kernel_rfl) ?_
    refine GoO.exec (is := [0]) (hs := [.p]) (rest := []) (ks := [8]) (env' := [(8, .bool true)]) (H' := [⟨1, b_2, [.int .u64 t_1.now, .int .u64 t_1.next, .slice A_3 ((t_1.rows.set r_9.toNat (⟨(rdL t_1.rows r_9).Id, (rdL t_1.rows r_9).Used, seq_6, (⟨(rdL t_1.rows r_9).Reply.Err, (rdL t_1.rows r_9).Reply.Num, (rdL t_1.rows r_9).Reply.Extra⟩ : T_api_Reply)⟩ : T_session_Row)).set r_9.toNat (⟨(rdL (t_1.rows.set r_9.toNat (⟨(rdL t_1.rows r_9).Id, (rdL t_1.rows r_9).Used, seq_6, (⟨(rdL t_1.rows r_9).Reply.Err, (rdL t_1.rows r_9).Reply.Num, (rdL t_1.rows r_9).Reply.Extra⟩ : T_api_Reply)⟩ : T_session_Row)) r_9).Id, (rdL (t_1.rows.set r_9.toNat (⟨(rdL t_1.rows r_9).Id, (rdL t_1.rows r_9).Used, seq_6, (⟨(rdL t_1.rows r_9).Reply.Err, (rdL t_1.rows r_9).Reply.Num, (rdL t_1.rows r_9).Reply.Extra⟩ : T_api_Reply)⟩ : T_session_Row)) r_9).Used, (rdL (t_1.rows.set r_9.toNat (⟨(rdL t_1.rows r_9).Id, (rdL t_1.rows r_9).Used, seq_6, (⟨(rdL t_1.rows r_9).Reply.Err, (rdL t_1.rows r_9).Reply.Num, (rdL t_1.rows r_9).Reply.Extra⟩ : T_api_Reply)⟩ : T_session_Row)) r_9).Seq, y_7⟩ : T_session_Row)).length c_4]⟩, ⟨40, b_8, [.int .i64 y_7.Err, .int .u64 y_7.Num, .int .u64 y_7.Extra]⟩]) (ps := []) (by kernel_rfl) trivial ?_
    refine GoO.regionEnd ?_
    exact GoO.ret' (h := c19_16e) (hs := []) (ps := []) (hk := [0]) (bk := [0]) Try.func19 (⟨A_3, c_4⟩ : Option Addr × Nat) (by kernel_rfl) trivial (by kernel_rfl) (by kernel_rfl)
theorem session_Table_End_ok (n : Nat) (t_1 : T_session_Table) (id_5 : Int) (seq_6 : Int) (y_7 : T_api_Reply) (b_2 : Nat) (A_3 : Option Addr) (c_4 : Nat) :
    Meets Try.prog 19 [.pointer (some ⟨b_2, 0, none⟩), .int .u64 id_5, .int .u64 seq_6, .agg ⟨[.int .i64 y_7.Err, .int .u64 y_7.Num, .int .u64 y_7.Extra]⟩] 2 [1, 2] [⟨1, b_2, [.int .u64 t_1.now, .int .u64 t_1.next, .slice A_3 t_1.rows.length c_4]⟩] [Ow 2 kT_session_Row A_3 c_4 t_1.rows] (session_Table_End.f n t_1 id_5 seq_6 y_7) (session_Table_End.R b_2 A_3 c_4) := by
  refine Meets.of (c := c19_0) (n := 48) Try.func19 (by kernel_rfl) (by kernel_rfl) (by kernel_rfl) fun w0 S0 => ?_
  unfold session_Table_End.f
  show GoO (session_Table_End.cx b_2 A_3 c_4 w0 S0) [(0, .pointer (some ⟨b_2, 0, none⟩)), (1, .int .u64 id_5), (2, .int .u64 seq_6), (3, .agg ⟨[.int .i64 y_7.Err, .int .u64 y_7.Num, .int .u64 y_7.Extra]⟩)] [⟨1, b_2, [.int .u64 t_1.now, .int .u64 t_1.next, .slice A_3 t_1.rows.length c_4]⟩] [Ow 2 kT_session_Row A_3 c_4 t_1.rows] [.code c19_0] _
  refine GoO.seq' c19_0e ?_
  refine GoO.region' (is := [0, 1]) c19_1e (by kernel_rfl) ?_
  refine OpTo.go (GoO.new rfl 40 (cs := [.int .i64 y_7.Err, .int .u64 y_7.Num, .int .u64 y_7.Extra]) (by kernel_rfl) _ (fun _ => rfl) (fun b_8 => ?_))
  refine GoO.exec (is := [1]) (hs := [.p]) (rest := []) (ks := [0, 1, 2, 7]) (env' := [(0, .pointer (some ⟨b_2, 0, none⟩)), (1, .int .u64 id_5), (2, .int .u64 seq_6), (7, .pointer (some ⟨b_8, 0, none⟩))]) (H' := [⟨40, b_8, [.int .i64 y_7.Err, .int .u64 y_7.Num, .int .u64 y_7.Extra]⟩, ⟨1, b_2, [.int .u64 t_1.now, .int .u64 t_1.next, .slice A_3 t_1.rows.length c_4]⟩]) (ps := []) (by kernel_rfl) trivial ?_
  refine GoO.regionEnd ?_
  refine GoO.seq' c19_2e ?_
  refine GoO.region' (is := [0, 1, 2, 3]) c19_3e (by kernel_rfl) ?_
  refine GoO.exec (is := [0, 1]) (hs := [.p, .p]) (rest := [2, 3]) (ks := [0, 2, 7, 10, 11]) (env' := [(0, .pointer (some ⟨b_2, 0, none⟩)), (2, .int .u64 seq_6), (7, .pointer (some ⟨b_8, 0, none⟩)), (10, .pointer (some ⟨b_2, 0, none⟩)), (11, .int .u64 id_5)]) (H' := [⟨40, b_8, [.int .i64 y_7.Err, .int .u64 y_7.Num, .int .u64 y_7.Extra]⟩, ⟨1, b_2, [.int .u64 t_1.now, .int .u64 t_1.next, .slice A_3 t_1.rows.length c_4]⟩]) (ps := []) (by kernel_rfl) trivial ?_
  refine OpTo.go (GoO.call rfl (by kernel_rfl) (by kernel_rfl) (session_Table_find_ok n t_1 id_5 b_2 A_3 c_4) [[0], [1], [2]] [] [(1, 1)] [(2, 0)] (hks := [0, 1]) (bks := [0]) (by kernel_rfl) (by kernel_rfl) (by kernel_rfl) (.inl rfl) rfl rfl (by kernel_rfl) (by kernel_rfl) _ (fun _ _ => rfl) _ _ (fun _ _ => rfl) (fun _ _ => rfl) (fun _ _ => by kernel_rfl) (fun _ _ => by kernel_rfl) (fun r_9 x_17 => ?_))
  refine GoO.shape (env' := [(0, .pointer (some ⟨b_2, 0, none⟩)), (2, .int .u64 seq_6), (7, .pointer (some ⟨b_8, 0, none⟩)), (10, .pointer (some ⟨b_2, 0, none⟩)), (11, .int .u64 id_5), (12, .int .i64 r_9)]) (H' := [⟨40, b_8, [.int .i64 y_7.Err, .int .u64 y_7.Num, .int .u64 y_7.Extra]⟩, ⟨1, b_2, [.int .u64 t_1.now, .int .u64 t_1.next, .slice A_3 t_1.rows.length c_4]⟩]) (B' := [Ow 2 kT_session_Row A_3 c_4 t_1.rows]) (ks := [0, 2, 7, 10, 11, 12]) (by kernel_rfl) (by kernel_rfl) (by kernel_rfl) ?_
  refine GoO.exec (is := [3]) (hs := [.p]) (rest := []) (ks := [0, 2, 7, 9]) (env' := [(0, .pointer (some ⟨b_2, 0, none⟩)), (2, .int .u64 seq_6), (7, .pointer (some ⟨b_8, 0, none⟩)), (9, .int .i64 r_9)]) (H' := [⟨40, b_8, [.int .i64 y_7.Err, .int .u64 y_7.Num, .int .u64 y_7.Extra]⟩, ⟨1, b_2, [.int .u64 t_1.now, .int .u64 t_1.next, .slice A_3 t_1.rows.length c_4]⟩]) (ps := []) (by kernel_rfl) trivial ?_
  refine GoO.regionEnd ?_
  refine GoO.seq' c19_4e ?_
  refine GoO.seq' c19_5e ?_
  refine GoO.region' (is := [0, 1, 2, 3, 4, 5, 6, 7, 8, 9, 10, 11, 12, 13, 14, 15, 16, 17, 18]) c19_6e (by kernel_rfl) ?_
  refine GoO.exec (is := [0, 1, 2]) (hs := [.p, .p, .p]) (rest := [3, 4, 5, 6, 7, 8, 9, 10, 11, 12, 13, 14, 15, 16, 17, 18]) (ks := [0, 2, 7, 9, 15]) (env' := [(0, .pointer (some ⟨b_2, 0, none⟩)), (2, .int .u64 seq_6), (7, .pointer (some ⟨b_8, 0, none⟩)), (9, .int .i64 r_9), (15, .bool (decide (r_9 < 0)))]) (H' := [⟨40, b_8, [.int .i64 y_7.Err, .int .u64 y_7.Num, .int .u64 y_7.Extra]⟩, ⟨1, b_2, [.int .u64 t_1.now, .int .u64 t_1.next, .slice A_3 t_1.rows.length c_4]⟩]) (ps := []) (by kernel_rfl) trivial ?_
  refine GoO.bsplit (t := 15) (by kernel_rfl) (fun h10 => ?_) (fun h10 => ?_)
  · refine GoO.exec (is := [3, 4, 5, 6, 7, 8, 9, 10, 11, 12, 13, 14, 15, 16, 17, 18]) (hs := [.p, .p, .p, .p, .p, .p, .p, .p, .p, .p, .p, .p, .p, .p, .p, .p]) (rest := []) (ks := [0, 2, 7, 9, 31]) (env' := [(0, .pointer (some ⟨b_2, 0, none⟩)), (2, .int .u64 seq_6), (7, .pointer (some ⟨b_8, 0, none⟩)), (9, .int .i64 r_9), (31, .bool true)]) (H' := [⟨40, b_8, [.int .i64 y_7.Err, .int .u64 y_7.Num, .int .u64 y_7.Extra]⟩, ⟨1, b_2, [.int .u64 t_1.now, .int .u64 t_1.next, .slice A_3 t_1.rows.length c_4]⟩]) (ps := []) (by kernel_rfl) trivial ?_
    refine GoO.regionEnd ?_
    exact GoO.sub (ks := [0, 2, 7, 9, 31]) (hk := [1, 0]) (bk := [0]) (by kernel_rfl) (by kernel_rfl) (by kernel_rfl) (session_Table_End_j0_ok n t_1 seq_6 y_7 r_9 b_2 A_3 c_4 b_8 w0 S0 true)
  · refine GoO.exec (is := [3, 4, 5, 6]) (hs := [.p, .p, .p, .p]) (rest := [7, 8, 9, 10, 11, 12, 13, 14, 15, 16, 17, 18]) (ks := [0, 2, 7, 9, 19]) (env' := [(0, .pointer (some ⟨b_2, 0, none⟩)), (2, .int .u64 seq_6), (7, .pointer (some ⟨b_8, 0, none⟩)), (9, .int .i64 r_9), (19, .bool (seq_6 == 0))]) (H' := [⟨40, b_8, [.int .i64 y_7.Err, .int .u64 y_7.Num, .int .u64 y_7.Extra]⟩, ⟨1, b_2, [.int .u64 t_1.now, .int .u64 t_1.next, .slice A_3 t_1.rows.length c_4]⟩]) (ps := []) (by kernel_rfl) trivial ?_
    refine GoO.bsplit (t := 19) (by kernel_rfl) (fun h11 => ?_) (fun h11 => ?_)
    · refine GoO.exec (is := [7, 8, 9, 10, 11, 12, 13, 14, 15, 16, 17, 18]) (hs := [.p, .p, .p, .p, .p, .p, .p, .p, .p, .p, .p, .p]) (rest := []) (ks := [0, 2, 7, 9, 31]) (env' := [(0, .pointer (some ⟨b_2, 0, none⟩)), (2, .int .u64 seq_6), (7, .pointer (some ⟨b_8, 0, none⟩)), (9, .int .i64 r_9), (31, .bool true)]) (H' := [⟨40, b_8, [.int .i64 y_7.Err, .int .u64 y_7.Num, .int .u64 y_7.Extra]⟩, ⟨1, b_2, [.int .u64 t_1.now, .int .u64 t_1.next, .slice A_3 t_1.rows.length c_4]⟩]) (ps := []) (by kernel_rfl) trivial ?_
      refine GoO.regionEnd ?_
      exact GoO.sub (ks := [0, 2, 7, 9, 31]) (hk := [1, 0]) (bk := [0]) (by kernel_rfl) (by kernel_rfl) (by kernel_rfl) (session_Table_End_j0_ok n t_1 seq_6 y_7 r_9 b_2 A_3 c_4 b_8 w0 S0 true)
    · refine GoO.exec (is := [7, 8, 9, 10, 11, 12]) (hs := [.p, .p, .p, .p, .b 1, .p]) (rest := [13, 14, 15, 16, 17, 18]) (ks := [0, 2, 7, 9, 19, 20, 24, 25]) (env' := [(0, .pointer (some ⟨b_2, 0, none⟩)), (2, .int .u64 seq_6), (7, .pointer (some ⟨b_8, 0, none⟩)), (9, .int .i64 r_9), (19, .bool false), (20, .int .u64 seq_6), (24, .slice A_3 t_1.rows.length c_4), (25, .int .i64 r_9)]) (H' := [⟨40, b_8, [.int .i64 y_7.Err, .int .u64 y_7.Num, .int .u64 y_7.Extra]⟩, ⟨1, b_2, [.int .u64 t_1.now, .int .u64 t_1.next, .slice A_3 t_1.rows.length c_4]⟩]) (ps := [b_2 = b_2]) (by kernel_rfl) (And.intro rfl trivial) ?_
      refine GoO.guard (fun h12 => ?_)
      refine OpTo.go (GoO.idx (kk := .i64) (e := 87) (K := kT_session_Row) (A := A_3) (c := c_4) (xs := t_1.rows) (iv := r_9) (j := 0) rfl (by kernel_rfl) (by kernel_rfl) (by kernel_rfl) (by kernel_rfl) rfl Reads.own rfl h12.1 h12.2 (by decide) rfl ?_)
      refine OpTo.go (GoO.fldE (K := kT_session_Row) (A := A_3) (c := c_4) (xs := t_1.rows) (iN := r_9.toNat) (off := 0) (n := 2) (j := 0) rfl (by kernel_rfl) (by kernel_rfl) rfl Reads.own (by first | exact idx_lt h12.1 h12.2 | (simp only [List.length_set]; exact idx_lt h12.1 h12.2)) (by decide) rfl ?_)
      refine OpTo.go (GoO.ldE' (K := kT_session_Row) (A := A_3) (c := c_4) (xs := t_1.rows) (iN := r_9.toNat) (off := 2) (j := 0) rfl (by kernel_rfl) rfl Reads.own (by first | exact idx_lt h12.1 h12.2 | (simp only [List.length_set]; exact idx_lt h12.1 h12.2)) (by decide) (Opn.flat _ _ _ _ _) (v := fun _ => .int .u64 ((rdL t_1.rows r_9).Seq)) (fun _ => by kernel_rfl) _ (fun _ => rfl) (fun _ => ?_))
      refine GoO.exec (is := [16, 17, 18]) (hs := [.p, .p, .p]) (rest := []) (ks := [0, 2, 7, 9, 31]) (env' := [(0, .pointer (some ⟨b_2, 0, none⟩)), (2, .int .u64 seq_6), (7, .pointer (some ⟨b_8, 0, none⟩)), (9, .int .i64 r_9), (31, .bool (seq_6 != (wu64 (((rdL t_1.rows r_9).Seq) + 1))))]) (H' := [⟨40, b_8, [.int .i64 y_7.Err, .int .u64 y_7.Num, .int .u64 y_7.Extra]⟩, ⟨1, b_2, [.int .u64 t_1.now, .int .u64 t_1.next, .slice A_3 t_1.rows.length c_4]⟩]) (ps := []) (by kernel_rfl) trivial ?_
      refine GoO.regionEnd ?_
      exact GoO.sub (ks := [0, 2, 7, 9, 31]) (hk := [1, 0]) (bk := [0]) (by kernel_rfl) (by kernel_rfl) (by kernel_rfl) (session_Table_End_j0_ok n t_1 seq_6 y_7 r_9 b_2 A_3 c_4 b_8 w0 S0 (seq_6 != (wu64 (((rdL t_1.rows r_9).Seq) + 1))))

/-! tontine/tontinelaw15.begun -/
noncomputable def c14_0 : Code := bodyOf Try.f14
noncomputable def c14_1 : Code := cdL c14_0
noncomputable def c14_2 : Code := cdR c14_0
noncomputable def c14_3 : Code := cdL c14_2
noncomputable def c14_4 : Code := cdR c14_2
noncomputable def c14_5 : Code := cdL c14_4
noncomputable def c14_6 : Code := cdR c14_4
noncomputable def c14_7 : Code := cdL c14_6
noncomputable def c14_8 : Code := cdR c14_6
noncomputable def c14_9 : Code := cdL c14_8
noncomputable def c14_10 : Code := cdR c14_8
noncomputable def c14_11 : Code := cdL c14_10
noncomputable def c14_12 : Code := cdR c14_10
noncomputable def c14_13 : Code := cdL c14_12
noncomputable def c14_14 : Code := cdR c14_12
noncomputable def c14_15 : Code := cdL c14_14
noncomputable def c14_16 : Code := cdR c14_14
noncomputable def r14_1 : Array Oper := cdO c14_1
noncomputable def r14_3 : Array Oper := cdO c14_3
noncomputable def r14_5 : Array Oper := cdO c14_5
noncomputable def r14_7 : Array Oper := cdO c14_7
noncomputable def r14_9 : Array Oper := cdO c14_9
noncomputable def r14_11 : Array Oper := cdO c14_11
noncomputable def r14_13 : Array Oper := cdO c14_13
noncomputable def r14_15 : Array Oper := cdO c14_15
theorem c14_0e : c14_0 = .seq c14_1 c14_2 := by kernel_rfl
theorem c14_1e : c14_1 = .region 0 r14_1 false := by kernel_rfl
theorem c14_2e : c14_2 = .seq c14_3 c14_4 := by kernel_rfl
theorem c14_3e : c14_3 = .region 1 r14_3 false := by kernel_rfl
theorem c14_4e : c14_4 = .seq c14_5 c14_6 := by kernel_rfl
theorem c14_5e : c14_5 = .region 2 r14_5 false := by kernel_rfl
theorem c14_6e : c14_6 = .seq c14_7 c14_8 := by kernel_rfl
theorem c14_7e : c14_7 = .region 3 r14_7 false := by kernel_rfl
theorem c14_8e : c14_8 = .seq c14_9 c14_10 := by kernel_rfl
theorem c14_9e : c14_9 = .region 4 r14_9 false := by kernel_rfl
theorem c14_10e : c14_10 = .seq c14_11 c14_12 := by kernel_rfl
theorem c14_11e : c14_11 = .region 5 r14_11 false := by kernel_rfl
theorem c14_12e : c14_12 = .seq c14_13 c14_14 := by kernel_rfl
theorem c14_13e : c14_13 = .region 6 r14_13 false := by kernel_rfl
theorem c14_14e : c14_14 = .seq c14_15 c14_16 := by kernel_rfl
theorem c14_15e : c14_15 = .region 7 r14_15 false := by kernel_rfl
theorem c14_16e : c14_16 = .ret := by kernel_rfl
noncomputable def tontinelaw15_begun.R : Pst Bool where
  ε := Unit
  v := fun r x => .bool r
  H := fun r x => []
  B := fun r x => []
noncomputable def tontinelaw15_begun.cx (w0 : World) (S0 : Fam) : Cx Bool := ⟨Try.prog, 14, Try.f14, 64, w0, S0, [], 0, tontinelaw15_begun.R⟩
theorem tontinelaw15_begun_ok (n : Nat) :
    Meets Try.prog 14 [] 0 [] [] [] (tontinelaw15_begun.f n) (tontinelaw15_begun.R) := by
  refine Meets.of (c := c14_0) (n := 64) Try.func14 (by kernel_rfl) (by kernel_rfl) (by kernel_rfl) fun w0 S0 => ?_
  unfold tontinelaw15_begun.f
  show GoO (tontinelaw15_begun.cx w0 S0) [] [] [] [.code c14_0] _
  refine GoO.seq' c14_0e ?_
  refine GoO.region' (is := [0]) c14_1e (by kernel_rfl) ?_
  refine GoO.exec (is := [0]) (hs := [.p]) (rest := []) (ks := []) (env' := []) (H' := []) (ps := []) (by kernel_rfl) trivial ?_
  refine GoO.regionEnd ?_
  refine GoO.seq' c14_2e ?_
  refine GoO.region' (is := [0, 1]) c14_3e (by kernel_rfl) ?_
  refine OpTo.go (GoO.call rfl (by kernel_rfl) (by kernel_rfl) (session_New_ok n) [[0]] [(40, 1), (41, 2)] [] [] (hks := []) (bks := []) (by kernel_rfl) (by kernel_rfl) (by kernel_rfl) (.inl rfl) rfl rfl (by kernel_rfl) (by kernel_rfl) _ (fun _ _ => rfl) _ _ (fun _ _ => rfl) (fun _ _ => rfl) (fun _ _ => by kernel_rfl) (fun _ _ => by kernel_rfl) (fun r_1 x_34 => ?_))
  obtain ⟨b_2, A_3, c_4⟩ := x_34
  refine GoO.shape (env' := [(11, .pointer (some ⟨b_2, 0, none⟩))]) (H' := [⟨40, b_2, [.int .u64 r_1.now, .int .u64 r_1.next, .slice A_3 r_1.rows.length c_4]⟩]) (B' := [Ow 41 kT_session_Row A_3 c_4 r_1.rows]) (ks := [11]) (by kernel_rfl) (by kernel_rfl) (by kernel_rfl) ?_
  refine GoO.exec (is := [1]) (hs := [.p]) (rest := []) (ks := [1]) (env' := [(1, .pointer (some ⟨b_2, 0, none⟩))]) (H' := [⟨40, b_2, [.int .u64 r_1.now, .int .u64 r_1.next, .slice A_3 r_1.rows.length c_4]⟩]) (ps := []) (by kernel_rfl) trivial ?_
  refine GoO.regionEnd ?_
  refine GoO.seq' c14_4e ?_
  refine GoO.region' (is := [0, 1, 2, 3, 4, 5, 6]) c14_5e (by kernel_rfl) ?_
  refine GoO.exec (is := [0]) (hs := [.p]) (rest := [1, 2, 3, 4, 5, 6]) (ks := [1, 13]) (env' := [(1, .pointer (some ⟨b_2, 0, none⟩)), (13, .pointer (some ⟨b_2, 0, none⟩))]) (H' := [⟨40, b_2, [.int .u64 r_1.now, .int .u64 r_1.next, .slice A_3 r_1.rows.length c_4]⟩]) (ps := []) (by kernel_rfl) trivial ?_
  refine OpTo.go (GoO.call rfl (by kernel_rfl) (by kernel_rfl) (session_Table_Register_ok n r_1 b_2 A_3 c_4) [[0], [40], [41]] [(40, 1), (41, 2)] [(1, 0)] [(2, 0)] (hks := []) (bks := []) (by kernel_rfl) (by kernel_rfl) (by kernel_rfl) (.inl rfl) rfl rfl (by kernel_rfl) (by kernel_rfl) _ (fun _ _ => rfl) _ _ (fun _ _ => rfl) (fun _ _ => rfl) (fun _ _ => by kernel_rfl) (fun _ _ => by kernel_rfl) (fun r_5 x_33 => ?_))
  obtain ⟨A_6, c_7⟩ := x_33
  refine GoO.shape (env' := [(1, .pointer (some ⟨b_2, 0, none⟩)), (13, .pointer (some ⟨b_2, 0, none⟩)), (14, .tuple ⟨[.int .u64 r_5.1, .int .i64 r_5.2.1]⟩)]) (H' := [⟨40, b_2, [.int .u64 r_5.2.2.now, .int .u64 r_5.2.2.next, .slice A_6 r_5.2.2.rows.length c_7]⟩]) (B' := [Ow 41 kT_session_Row A_6 c_7 r_5.2.2.rows]) (ks := [1, 13, 14]) (by kernel_rfl) (by kernel_rfl) (by kernel_rfl) ?_
  refine GoO.exec (is := [2, 3, 4, 5, 6]) (hs := [.p, .p, .p, .p, .p]) (rest := []) (ks := [1, 2, 3]) (env' := [(1, .pointer (some ⟨b_2, 0, none⟩)), (2, .int .u64 r_5.1), (3, .int .i64 r_5.2.1)]) (H' := [⟨40, b_2, [.int .u64 r_5.2.2.now, .int .u64 r_5.2.2.next, .slice A_6 r_5.2.2.rows.length c_7]⟩]) (ps := []) (by kernel_rfl) trivial ?_
  refine GoO.regionEnd ?_
  refine GoO.seq' c14_6e ?_
  refine GoO.region' (is := [0, 1, 2, 3, 4, 5, 6, 7, 8]) c14_7e (by kernel_rfl) ?_
  refine GoO.exec (is := [0, 1]) (hs := [.p, .p]) (rest := [2, 3, 4, 5, 6, 7, 8]) (ks := [1, 2, 3, 18, 19]) (env' := [(1, .pointer (some ⟨b_2, 0, none⟩)), (2, .int .u64 r_5.1), (3, .int .i64 r_5.2.1), (18, .pointer (some ⟨b_2, 0, none⟩)), (19, .int .u64 r_5.1)]) (H' := [⟨40, b_2, [.int .u64 r_5.2.2.now, .int .u64 r_5.2.2.next, .slice A_6 r_5.2.2.rows.length c_7]⟩]) (ps := []) (by kernel_rfl) trivial ?_
  refine OpTo.go (GoO.call rfl (by kernel_rfl) (by kernel_rfl) (session_Table_Begin_ok n r_5.2.2 r_5.1 1 b_2 A_6 c_7) [[0], [40], [41]] [(40, 1), (41, 2)] [(1, 0)] [(2, 0)] (hks := []) (bks := []) (by kernel_rfl) (by kernel_rfl) (by kernel_rfl) (.inl rfl) rfl rfl (by kernel_rfl) (by kernel_rfl) _ (fun _ _ => rfl) _ _ (fun _ _ => rfl) (fun _ _ => rfl) (fun _ _ => by kernel_rfl) (fun _ _ => by kernel_rfl) (fun r_8 x_32 => ?_))
  obtain ⟨A_9, c_10⟩ := x_32
  refine GoO.shape (env' := [(1, .pointer (some ⟨b_2, 0, none⟩)), (2, .int .u64 r_5.1), (3, .int .i64 r_5.2.1), (18, .pointer (some ⟨b_2, 0, none⟩)), (19, .int .u64 r_5.1), (20, .tuple ⟨[.agg ⟨[.int .i64 r_8.1.Err, .int .u64 r_8.1.Num, .int .u64 r_8.1.Extra]⟩, .bool r_8.2.1]⟩)]) (H' := [⟨40, b_2, [.int .u64 r_8.2.2.now, .int .u64 r_8.2.2.next, .slice A_9 r_8.2.2.rows.length c_10]⟩]) (B' := [Ow 41 kT_session_Row A_9 c_10 r_8.2.2.rows]) (ks := [1, 2, 3, 18, 19, 20]) (by kernel_rfl) (by kernel_rfl) (by kernel_rfl) ?_
  refine GoO.exec (is := [3, 4, 5]) (hs := [.p, .p, .p]) (rest := [6, 7, 8]) (ks := [1, 2, 3, 21, 22]) (env' := [(1, .pointer (some ⟨b_2, 0, none⟩)), (2, .int .u64 r_5.1), (3, .int .i64 r_5.2.1), (21, .agg ⟨[.int .i64 r_8.1.Err, .int .u64 r_8.1.Num, .int .u64 r_8.1.Extra]⟩), (22, .bool r_8.2.1)]) (H' := [⟨40, b_2, [.int .u64 r_8.2.2.now, .int .u64 r_8.2.2.next, .slice A_9 r_8.2.2.rows.length c_10]⟩]) (ps := []) (by kernel_rfl) trivial ?_
  refine OpTo.go (GoO.new rfl 42 (cs := [.int .i64 0, .int .u64 0, .int .u64 0]) (by kernel_rfl) _ (fun _ => rfl) (fun b_11 => ?_))
  refine GoO.exec (is := [7, 8]) (hs := [.b 0, .p]) (rest := []) (ks := [1, 2, 3, 5]) (env' := [(1, .pointer (some ⟨b_2, 0, none⟩)), (2, .int .u64 r_5.1), (3, .int .i64 r_5.2.1), (5, .bool r_8.2.1)]) (H' := [⟨42, b_11, [.int .i64 r_8.1.Err, .int .u64 r_8.1.Num, .int .u64 r_8.1.Extra]⟩, ⟨40, b_2, [.int .u64 r_8.2.2.now, .int .u64 r_8.2.2.next, .slice A_9 r_8.2.2.rows.length c_10]⟩]) (ps := [b_11 = b_11]) (by kernel_rfl) (And.intro rfl trivial) ?_
  refine GoO.regionEnd ?_
  refine GoO.seq' c14_8e ?_
  refine GoO.region' (is := [0, 1, 2, 3, 4]) c14_9e (by kernel_rfl) ?_
  refine GoO.exec (is := [0, 1, 2]) (hs := [.p, .p, .p]) (rest := [3, 4]) (ks := [1, 2, 3, 5, 23, 24, 25]) (env' := [(1, .pointer (some ⟨b_2, 0, none⟩)), (2, .int .u64 r_5.1), (3, .int .i64 r_5.2.1), (5, .bool r_8.2.1), (23, .pointer (some ⟨b_2, 0, none⟩)), (24, .int .u64 r_5.1), (25, .agg ⟨[.int .i64 0, .int .u64 7, .int .u64 0]⟩)]) (H' := [⟨42, b_11, [.int .i64 r_8.1.Err, .int .u64 r_8.1.Num, .int .u64 r_8.1.Extra]⟩, ⟨40, b_2, [.int .u64 r_8.2.2.now, .int .u64 r_8.2.2.next, .slice A_9 r_8.2.2.rows.length c_10]⟩]) (ps := []) (by kernel_rfl) trivial ?_
  refine OpTo.go (GoO.call rfl (by kernel_rfl) (by kernel_rfl) (session_Table_End_ok n r_8.2.2 r_5.1 1 (⟨0, 7, 0⟩ : T_api_Reply) b_2 A_9 c_10) [[0], [40], [41]] [(40, 1), (41, 2)] [(1, 1)] [(2, 0)] (hks := [0]) (bks := []) (by kernel_rfl) (by kernel_rfl) (by kernel_rfl) (.inl rfl) rfl rfl (by kernel_rfl) (by kernel_rfl) _ (fun _ _ => rfl) _ _ (fun _ _ => rfl) (fun _ _ => rfl) (fun _ _ => by kernel_rfl) (fun _ _ => by kernel_rfl) (fun r_12 x_31 => ?_))
  obtain ⟨A_13, c_14⟩ := x_31
  refine GoO.shape (env' := [(1, .pointer (some ⟨b_2, 0, none⟩)), (2, .int .u64 r_5.1), (3, .int .i64 r_5.2.1), (5, .bool r_8.2.1), (23, .pointer (some ⟨b_2, 0, none⟩)), (24, .int .u64 r_5.1), (25, .agg ⟨[.int .i64 0, .int .u64 7, .int .u64 0]⟩), (26, .bool r_12.1)]) (H' := [⟨40, b_2, [.int .u64 r_12.2.now, .int .u64 r_12.2.next, .slice A_13 r_12.2.rows.length c_14]⟩, ⟨42, b_11, [.int .i64 r_8.1.Err, .int .u64 r_8.1.Num, .int .u64 r_8.1.Extra]⟩]) (B' := [Ow 41 kT_session_Row A_13 c_14 r_12.2.rows]) (ks := [1, 2, 3, 5, 23, 24, 25, 26]) (by kernel_rfl) (by kernel_rfl) (by kernel_rfl) ?_
  refine GoO.exec (is := [4]) (hs := [.p]) (rest := []) (ks := [1, 2, 3, 5, 6]) (env' := [(1, .pointer (some ⟨b_2, 0, none⟩)), (2, .int .u64 r_5.1), (3, .int .i64 r_5.2.1), (5, .bool r_8.2.1), (6, .bool r_12.1)]) (H' := [⟨40, b_2, [.int .u64 r_12.2.now, .int .u64 r_12.2.next, .slice A_13 r_12.2.rows.length c_14]⟩, ⟨42, b_11, [.int .i64 r_8.1.Err, .int .u64 r_8.1.Num, .int .u64 r_8.1.Extra]⟩]) (ps := []) (by kernel_rfl) trivial ?_
  refine GoO.regionEnd ?_
  refine GoO.seq' c14_10e ?_
  refine GoO.region' (is := [0, 1, 2, 3, 4, 5, 6, 7, 8]) c14_11e (by kernel_rfl) ?_
  refine GoO.exec (is := [0, 1]) (hs := [.p, .p]) (rest := [2, 3, 4, 5, 6, 7, 8]) (ks := [1, 2, 3, 5, 6, 28, 29]) (env' := [(1, .pointer (some ⟨b_2, 0, none⟩)), (2, .int .u64 r_5.1), (3, .int .i64 r_5.2.1), (5, .bool r_8.2.1), (6, .bool r_12.1), (28, .pointer (some ⟨b_2, 0, none⟩)), (29, .int .u64 r_5.1)]) (H' := [⟨40, b_2, [.int .u64 r_12.2.now, .int .u64 r_12.2.next, .slice A_13 r_12.2.rows.length c_14]⟩, ⟨42, b_11, [.int .i64 r_8.1.Err, .int .u64 r_8.1.Num, .int .u64 r_8.1.Extra]⟩]) (ps := []) (by kernel_rfl) trivial ?_
  refine OpTo.go (GoO.call rfl (by kernel_rfl) (by kernel_rfl) (session_Table_Begin_ok n r_12.2 r_5.1 1 b_2 A_13 c_14) [[0], [40], [41]] [(40, 1), (41, 2)] [(1, 0)] [(2, 0)] (hks := [1]) (bks := []) (by kernel_rfl) (by kernel_rfl) (by kernel_rfl) (.inl rfl) rfl rfl (by kernel_rfl) (by kernel_rfl) _ (fun _ _ => rfl) _ _ (fun _ _ => rfl) (fun _ _ => rfl) (fun _ _ => by kernel_rfl) (fun _ _ => by kernel_rfl) (fun r_15 x_30 => ?_))
  obtain ⟨A_16, c_17⟩ := x_30
  refine GoO.shape (env' := [(1, .pointer (some ⟨b_2, 0, none⟩)), (2, .int .u64 r_5.1), (3, .int .i64 r_5.2.1), (5, .bool r_8.2.1), (6, .bool r_12.1), (28, .pointer (some ⟨b_2, 0, none⟩)), (29, .int .u64 r_5.1), (30, .tuple ⟨[.agg ⟨[.int .i64 r_15.1.Err, .int .u64 r_15.1.Num, .int .u64 r_15.1.Extra]⟩, .bool r_15.2.1]⟩)]) (H' := [⟨40, b_2, [.int .u64 r_15.2.2.now, .int .u64 r_15.2.2.next, .slice A_16 r_15.2.2.rows.length c_17]⟩, ⟨42, b_11, [.int .i64 r_8.1.Err, .int .u64 r_8.1.Num, .int .u64 r_8.1.Extra]⟩]) (B' := [Ow 41 kT_session_Row A_16 c_17 r_15.2.2.rows]) (ks := [1, 2, 3, 5, 6, 28, 29, 30]) (by kernel_rfl) (by kernel_rfl) (by kernel_rfl) ?_
  refine GoO.exec (is := [3, 4, 5]) (hs := [.p, .p, .p]) (rest := [6, 7, 8]) (ks := [1, 2, 3, 5, 6, 31, 32]) (env' := [(1, .pointer (some ⟨b_2, 0, none⟩)), (2, .int .u64 r_5.1), (3, .int .i64 r_5.2.1), (5, .bool r_8.2.1), (6, .bool r_12.1), (31, .agg ⟨[.int .i64 r_15.1.Err, .int .u64 r_15.1.Num, .int .u64 r_15.1.Extra]⟩), (32, .bool r_15.2.1)]) (H' := [⟨40, b_2, [.int .u64 r_15.2.2.now, .int .u64 r_15.2.2.next, .slice A_16 r_15.2.2.rows.length c_17]⟩, ⟨42, b_11, [.int .i64 r_8.1.Err, .int .u64 r_8.1.Num, .int .u64 r_8.1.Extra]⟩]) (ps := []) (by kernel_rfl) trivial ?_
  refine OpTo.go (GoO.new rfl 43 (cs := [.int .i64 0, .int .u64 0, .int .u64 0]) (by kernel_rfl) _ (fun _ => rfl) (fun b_18 => ?_))
  refine GoO.exec (is := [7, 8]) (hs := [.b 0, .p]) (rest := []) (ks := [1, 2, 3, 5, 6, 7, 8]) (env' := [(1, .pointer (some ⟨b_2, 0, none⟩)), (2, .int .u64 r_5.1), (3, .int .i64 r_5.2.1), (5, .bool r_8.2.1), (6, .bool r_12.1), (7, .pointer (some ⟨b_18, 0, none⟩)), (8, .bool r_15.2.1)]) (H' := [⟨43, b_18, [.int .i64 r_15.1.Err, .int .u64 r_15.1.Num, .int .u64 r_15.1.Extra]⟩, ⟨40, b_2, [.int .u64 r_15.2.2.now, .int .u64 r_15.2.2.next, .slice A_16 r_15.2.2.rows.length c_17]⟩, ⟨42, b_11, [.int .i64 r_8.1.Err, .int .u64 r_8.1.Num, .int .u64 r_8.1.Extra]⟩]) (ps := [b_18 = b_18]) (by kernel_rfl) (And.intro rfl trivial) ?_
  refine GoO.regionEnd ?_
  refine GoO.seq' c14_12e ?_
  refine GoO.region' (is := [0, 1, 2, 3, 4, 5, 6, 7]) c14_13e (by kernel_rfl) ?_
  refine GoO.exec (is := [0]) (hs := [.p]) (rest := [1, 2, 3, 4, 5, 6, 7]) (ks := [2, 3, 5, 6, 7, 8, 34]) (env' := [(2, .int .u64 r_5.1), (3, .int .i64 r_5.2.1), (5, .bool r_8.2.1), (6, .bool r_12.1), (7, .pointer (some ⟨b_18, 0, none⟩)), (8, .bool r_15.2.1), (34, .pointer (some ⟨b_2, 0, none⟩))]) (H' := [⟨43, b_18, [.int .i64 r_15.1.Err, .int .u64 r_15.1.Num, .int .u64 r_15.1.Extra]⟩, ⟨40, b_2, [.int .u64 r_15.2.2.now, .int .u64 r_15.2.2.next, .slice A_16 r_15.2.2.rows.length c_17]⟩, ⟨42, b_11, [.int .i64 r_8.1.Err, .int .u64 r_8.1.Num, .int .u64 r_8.1.Extra]⟩]) (ps := []) (by kernel_rfl) trivial ?_
  refine OpTo.go (GoO.call rfl (by kernel_rfl) (by kernel_rfl) (session_Table_Begin_ok n r_15.2.2 9 1 b_2 A_16 c_17) [[0], [40], [41]] [(40, 1), (41, 2)] [(1, 1)] [(2, 0)] (hks := [0, 2]) (bks := []) (by kernel_rfl) (by kernel_rfl) (by kernel_rfl) (.inl rfl) rfl rfl (by kernel_rfl) (by kernel_rfl) _ (fun _ _ => rfl) _ _ (fun _ _ => rfl) (fun _ _ => rfl) (fun _ _ => by kernel_rfl) (fun _ _ => by kernel_rfl) (fun r_19 x_29 => ?_))
  obtain ⟨A_20, c_21⟩ := x_29
  refine GoO.shape (env' := [(2, .int .u64 r_5.1), (3, .int .i64 r_5.2.1), (5, .bool r_8.2.1), (6, .bool r_12.1), (7, .pointer (some ⟨b_18, 0, none⟩)), (8, .bool r_15.2.1), (34, .pointer (some ⟨b_2, 0, none⟩)), (35, .tuple ⟨[.agg ⟨[.int .i64 r_19.1.Err, .int .u64 r_19.1.Num, .int .u64 r_19.1.Extra]⟩, .bool r_19.2.1]⟩)]) (H' := [⟨40, b_2, [.int .u64 r_19.2.2.now, .int .u64 r_19.2.2.next, .slice A_20 r_19.2.2.rows.length c_21]⟩, ⟨43, b_18, [.int .i64 r_15.1.Err, .int .u64 r_15.1.Num, .int .u64 r_15.1.Extra]⟩, ⟨42, b_11, [.int .i64 r_8.1.Err, .int .u64 r_8.1.Num, .int .u64 r_8.1.Extra]⟩]) (B' := [Ow 41 kT_session_Row A_20 c_21 r_19.2.2.rows]) (ks := [2, 3, 5, 6, 7, 8, 34, 35]) (by kernel_rfl) (by kernel_rfl) (by kernel_rfl) ?_
  refine GoO.exec (is := [2, 3, 4]) (hs := [.p, .p, .p]) (rest := [5, 6, 7]) (ks := [2, 3, 5, 6, 7, 8, 36, 37]) (env' := [(2, .int .u64 r_5.1), (3, .int .i64 r_5.2.1), (5, .bool r_8.2.1), (6, .bool r_12.1), (7, .pointer (some ⟨b_18, 0, none⟩)), (8, .bool r_15.2.1), (36, .agg ⟨[.int .i64 r_19.1.Err, .int .u64 r_19.1.Num, .int .u64 r_19.1.Extra]⟩), (37, .bool r_19.2.1)]) (H' := [⟨40, b_2, [.int .u64 r_19.2.2.now, .int .u64 r_19.2.2.next, .slice A_20 r_19.2.2.rows.length c_21]⟩, ⟨43, b_18, [.int .i64 r_15.1.Err, .int .u64 r_15.1.Num, .int .u64 r_15.1.Extra]⟩, ⟨42, b_11, [.int .i64 r_8.1.Err, .int .u64 r_8.1.Num, .int .u64 r_8.1.Extra]⟩]) (ps := []) (by kernel_rfl) trivial ?_
  refine OpTo.go (GoO.new rfl 44 (cs := [.int .i64 0, .int .u64 0, .int .u64 0]) (by kernel_rfl) _ (fun _ => rfl) (fun b_22 => ?_))
  refine GoO.exec (is := [6, 7]) (hs := [.b 0, .p]) (rest := []) (ks := [2, 3, 5, 6, 7, 8, 9]) (env' := [(2, .int .u64 r_5.1), (3, .int .i64 r_5.2.1), (5, .bool r_8.2.1), (6, .bool r_12.1), (7, .pointer (some ⟨b_18, 0, none⟩)), (8, .bool r_15.2.1), (9, .pointer (some ⟨b_22, 0, none⟩))]) (H' := [⟨44, b_22, [.int .i64 r_19.1.Err, .int .u64 r_19.1.Num, .int .u64 r_19.1.Extra]⟩, ⟨40, b_2, [.int .u64 r_19.2.2.now, .int .u64 r_19.2.2.next, .slice A_20 r_19.2.2.rows.length c_21]⟩, ⟨43, b_18, [.int .i64 r_15.1.Err, .int .u64 r_15.1.Num, .int .u64 r_15.1.Extra]⟩, ⟨42, b_11, [.int .i64 r_8.1.Err, .int .u64 r_8.1.Num, .int .u64 r_8.1.Extra]⟩]) (ps := [b_22 = b_22]) (by kernel_rfl) (And.intro rfl trivial) ?_
  refine GoO.regionEnd ?_
  refine GoO.seq' c14_14e ?_
  refine GoO.region' (is := [0, 1, 2, 3, 4, 5, 6, 7, 8, 9, 10, 11, 12, 13, 14, 15, 16, 17, 18, 19, 20, 21, 22, 23, 24, 25, 26]) c14_15e (by kernel_rfl) ?_
  refine GoO.exec (is := [0, 1, 2]) (hs := [.p, .p, .p]) (rest := [3, 4, 5, 6, 7, 8, 9, 10, 11, 12, 13, 14, 15, 16, 17, 18, 19, 20, 21, 22, 23, 24, 25, 26]) (ks := [2, 5, 6, 7, 8, 9, 40]) (env' := [(2, .int .u64 r_5.1), (5, .bool r_8.2.1), (6, .bool r_12.1), (7, .pointer (some ⟨b_18, 0, none⟩)), (8, .bool r_15.2.1), (9, .pointer (some ⟨b_22, 0, none⟩)), (40, .bool (r_5.2.1 == 0))]) (H' := [⟨44, b_22, [.int .i64 r_19.1.Err, .int .u64 r_19.1.Num, .int .u64 r_19.1.Extra]⟩, ⟨40, b_2, [.int .u64 r_19.2.2.now, .int .u64 r_19.2.2.next, .slice A_20 r_19.2.2.rows.length c_21]⟩, ⟨43, b_18, [.int .i64 r_15.1.Err, .int .u64 r_15.1.Num, .int .u64 r_15.1.Extra]⟩, ⟨42, b_11, [.int .i64 r_8.1.Err, .int .u64 r_8.1.Num, .int .u64 r_8.1.Extra]⟩]) (ps := []) (by kernel_rfl) trivial ?_
  refine GoO.bsplit (t := 40) (by kernel_rfl) (fun h23 => ?_) (fun h23 => ?_)
  · refine GoO.exec (is := [3, 4, 5, 6]) (hs := [.p, .p, .p, .p]) (rest := [7, 8, 9, 10, 11, 12, 13, 14, 15, 16, 17, 18, 19, 20, 21, 22, 23, 24, 25, 26]) (ks := [5, 6, 7, 8, 9, 44]) (env' := [(5, .bool r_8.2.1), (6, .bool r_12.1), (7, .pointer (some ⟨b_18, 0, none⟩)), (8, .bool r_15.2.1), (9, .pointer (some ⟨b_22, 0, none⟩)), (44, .bool (r_5.1 == 1))]) (H' := [⟨44, b_22, [.int .i64 r_19.1.Err, .int .u64 r_19.1.Num, .int .u64 r_19.1.Extra]⟩, ⟨40, b_2, [.int .u64 r_19.2.2.now, .int .u64 r_19.2.2.next, .slice A_20 r_19.2.2.rows.length c_21]⟩, ⟨43, b_18, [.int .i64 r_15.1.Err, .int .u64 r_15.1.Num, .int .u64 r_15.1.Extra]⟩, ⟨42, b_11, [.int .i64 r_8.1.Err, .int .u64 r_8.1.Num, .int .u64 r_8.1.Extra]⟩]) (ps := []) (by kernel_rfl) trivial ?_
    refine GoO.bsplit (t := 44) (by kernel_rfl) (fun h24 => ?_) (fun h24 => ?_)
    · refine GoO.exec (is := [7, 8, 9]) (hs := [.p, .p, .p]) (rest := [10, 11, 12, 13, 14, 15, 16, 17, 18, 19, 20, 21, 22, 23, 24, 25, 26]) (ks := [6, 7, 8, 9, 47]) (env' := [(6, .bool r_12.1), (7, .pointer (some ⟨b_18, 0, none⟩)), (8, .bool r_15.2.1), (9, .pointer (some ⟨b_22, 0, none⟩)), (47, .bool r_8.2.1)]) (H' := [⟨44, b_22, [.int .i64 r_19.1.Err, .int .u64 r_19.1.Num, .int .u64 r_19.1.Extra]⟩, ⟨40, b_2, [.int .u64 r_19.2.2.now, .int .u64 r_19.2.2.next, .slice A_20 r_19.2.2.rows.length c_21]⟩, ⟨43, b_18, [.int .i64 r_15.1.Err, .int .u64 r_15.1.Num, .int .u64 r_15.1.Extra]⟩, ⟨42, b_11, [.int .i64 r_8.1.Err, .int .u64 r_8.1.Num, .int .u64 r_8.1.Extra]⟩]) (ps := []) (by kernel_rfl) trivial ?_
      refine GoO.bsplit (t := 47) (by kernel_rfl) (fun h25 => ?_) (fun h25 => ?_)
      · refine GoO.exec (is := [10, 11, 12]) (hs := [.p, .p, .p]) (rest := [13, 14, 15, 16, 17, 18, 19, 20, 21, 22, 23, 24, 25, 26]) (ks := [7, 8, 9, 50]) (env' := [(7, .pointer (some ⟨b_18, 0, none⟩)), (8, .bool r_15.2.1), (9, .pointer (some ⟨b_22, 0, none⟩)), (50, .bool r_12.1)]) (H' := [⟨44, b_22, [.int .i64 r_19.1.Err, .int .u64 r_19.1.Num, .int .u64 r_19.1.Extra]⟩, ⟨40, b_2, [.int .u64 r_19.2.2.now, .int .u64 r_19.2.2.next, .slice A_20 r_19.2.2.rows.length c_21]⟩, ⟨43, b_18, [.int .i64 r_15.1.Err, .int .u64 r_15.1.Num, .int .u64 r_15.1.Extra]⟩, ⟨42, b_11, [.int .i64 r_8.1.Err, .int .u64 r_8.1.Num, .int .u64 r_8.1.Extra]⟩]) (ps := []) (by kernel_rfl) trivial ?_
        refine GoO.bsplit (t := 50) (by kernel_rfl) (fun h26 => ?_) (fun h26 => ?_)
        · refine GoO.exec (is := [13, 14, 15, 16]) (hs := [.p, .p, .p, .p]) (rest := [17, 18, 19, 20, 21, 22, 23, 24, 25, 26]) (ks := [7, 9, 54]) (env' := [(7, .pointer (some ⟨b_18, 0, none⟩)), (9, .pointer (some ⟨b_22, 0, none⟩)), (54, .bool (!r_15.2.1))]) (H' := [⟨44, b_22, [.int .i64 r_19.1.Err, .int .u64 r_19.1.Num, .int .u64 r_19.1.Extra]⟩, ⟨40, b_2, [.int .u64 r_19.2.2.now, .int .u64 r_19.2.2.next, .slice A_20 r_19.2.2.rows.length c_21]⟩, ⟨43, b_18, [.int .i64 r_15.1.Err, .int .u64 r_15.1.Num, .int .u64 r_15.1.Extra]⟩, ⟨42, b_11, [.int .i64 r_8.1.Err, .int .u64 r_8.1.Num, .int .u64 r_8.1.Extra]⟩]) (ps := []) (by kernel_rfl) trivial ?_
          refine GoO.bsplit (t := 54) (by kernel_rfl) (fun h27 => ?_) (fun h27 => ?_)
          · refine GoO.exec (is := [17, 18, 19, 20, 21]) (hs := [.p, .b 2, .p, .p, .p]) (rest := [22, 23, 24, 25, 26]) (ks := [9, 59]) (env' := [(9, .pointer (some ⟨b_22, 0, none⟩)), (59, .bool (r_15.1.Num == 7))]) (H' := [⟨44, b_22, [.int .i64 r_19.1.Err, .int .u64 r_19.1.Num, .int .u64 r_19.1.Extra]⟩, ⟨40, b_2, [.int .u64 r_19.2.2.now, .int .u64 r_19.2.2.next, .slice A_20 r_19.2.2.rows.length c_21]⟩, ⟨43, b_18, [.int .i64 r_15.1.Err, .int .u64 r_15.1.Num, .int .u64 r_15.1.Extra]⟩, ⟨42, b_11, [.int .i64 r_8.1.Err, .int .u64 r_8.1.Num, .int .u64 r_8.1.Extra]⟩]) (ps := [b_18 = b_18]) (by kernel_rfl) (And.intro rfl trivial) ?_
            refine GoO.bsplit (t := 59) (by kernel_rfl) (fun h28 => ?_) (fun h28 => ?_)
            · refine GoO.exec (is := [22, 23, 24, 25, 26]) (hs := [.p, .b 0, .p, .p, .p]) (rest := []) (ks := [0]) (env' := [(0, .bool (r_19.1.Err == 40))]) (H' := [⟨44, b_22, [.int .i64 r_19.1.Err, .int .u64 r_19.1.Num, .int .u64 r_19.1.Extra]⟩, ⟨40, b_2, [.int .u64 r_19.2.2.now, .int .u64 r_19.2.2.next, .slice A_20 r_19.2.2.rows.length c_21]⟩, ⟨43, b_18, [.int .i64 r_15.1.Err, .int .u64 r_15.1.Num, .int .u64 r_15.1.Extra]⟩, ⟨42, b_11, [.int .i64 r_8.1.Err, .int .u64 r_8.1.Num, .int .u64 r_8.1.Extra]⟩]) (ps := [b_22 = b_22]) (by kernel_rfl) (And.intro rfl trivial) ?_
              refine GoO.regionEnd ?_
              exact GoO.ret' (h := c14_16e) (hs := []) (ps := []) (hk := []) (bk := []) Try.func14 () (by kernel_rfl) trivial (by kernel_rfl) (by kernel_rfl)
            · refine GoO.exec (is := [22, 23, 24, 25, 26]) (hs := [.p, .p, .p, .p, .p]) (rest := []) (ks := [0]) (env' := [(0, .bool false)]) (H' := [⟨44, b_22, [.int .i64 r_19.1.Err, .int .u64 r_19.1.Num, .int .u64 r_19.1.Extra]⟩, ⟨40, b_2, [.int .u64 r_19.2.2.now, .int .u64 r_19.2.2.next, .slice A_20 r_19.2.2.rows.length c_21]⟩, ⟨43, b_18, [.int .i64 r_15.1.Err, .int .u64 r_15.1.Num, .int .u64 r_15.1.Extra]⟩, ⟨42, b_11, [.int .i64 r_8.1.Err, .int .u64 r_8.1.Num, .int .u64 r_8.1.Extra]⟩]) (ps := []) (by kernel_rfl) trivial ?_
              refine GoO.regionEnd ?_
              exact GoO.ret' (h := c14_16e) (hs := []) (ps := []) (hk := []) (bk := []) Try.func14 () (by kernel_rfl) trivial (by kernel_rfl) (by kernel_rfl)
          · refine GoO.exec (is := [17, 18, 19, 20, 21, 22, 23, 24, 25, 26]) (hs := [.p, .p, .p, .p, .p, .p, .p, .p, .p, .p]) (rest := []) (ks := [0]) (env' := [(0, .bool false)]) (H' := [⟨44, b_22, [.int .i64 r_19.1.Err, .int .u64 r_19.1.Num, .int .u64 r_19.1.Extra]⟩, ⟨40, b_2, [.int .u64 r_19.2.2.now, .int .u64 r_19.2.2.next, .slice A_20 r_19.2.2.rows.length c_21]⟩, ⟨43, b_18, [.int .i64 r_15.1.Err, .int .u64 r_15.1.Num, .int .u64 r_15.1.Extra]⟩, ⟨42, b_11, [.int .i64 r_8.1.Err, .int .u64 r_8.1.Num, .int .u64 r_8.1.Extra]⟩]) (ps := []) (by kernel_rfl) trivial ?_
            refine GoO.regionEnd ?_
            exact GoO.ret' (h := c14_16e) (hs := []) (ps := []) (hk := []) (bk := []) Try.func14 () (by kernel_rfl) trivial (by kernel_rfl) (by kernel_rfl)
        · refine GoO.exec (is := [13, 14, 15, 16, 17, 18, 19, 20, 21, 22, 23, 24, 25, 26]) (hs := [.p, .p, .p, .p, .p, .p, .p, .p, .p, .p, .p, .p, .p, .p]) (rest := []) (ks := [0]) (env' := [(0, .bool false)]) (H' := [⟨44, b_22, [.int .i64 r_19.1.Err, .int .u64 r_19.1.Num, .int .u64 r_19.1.Extra]⟩, ⟨40, b_2, [.int .u64 r_19.2.2.now, .int .u64 r_19.2.2.next, .slice A_20 r_19.2.2.rows.length c_21]⟩, ⟨43, b_18, [.int .i64 r_15.1.Err, .int .u64 r_15.1.Num, .int .u64 r_15.1.Extra]⟩, ⟨42, b_11, [.int .i64 r_8.1.Err, .int .u64 r_8.1.Num, .int .u64 r_8.1.Extra]⟩]) (ps := []) (by kernel_rfl) trivial ?_
          refine GoO.regionEnd ?_
          exact GoO.ret' (h := c14_16e) (hs := []) (ps := []) (hk := []) (bk := []) Try.func14 () (by kernel_rfl) trivial (by kernel_rfl) (by kernel_rfl)
      · refine GoO.exec (is := [10, 11, 12, 13, 14, 15, 16, 17, 18, 19, 20, 21, 22, 23, 24, 25, 26]) (hs := [.p, .p, .p, .p, .p, .p, .p, .p, .p, .p, .p, .p, .p, .p, .p, .p, .p]) (rest := []) (ks := [0]) (env' := [(0, .bool false)]) (H' := [⟨44, b_22, [.int .i64 r_19.1.Err, .int .u64 r_19.1.Num, .int .u64 r_19.1.Extra]⟩, ⟨40, b_2, [.int .u64 r_19.2.2.now, .int .u64 r_19.2.2.next, .slice A_20 r_19.2.2.rows.length c_21]⟩, ⟨43, b_18, [.int .i64 r_15.1.Err, .int .u64 r_15.1.Num, .int .u64 r_15.1.Extra]⟩, ⟨42, b_11, [.int .i64 r_8.1.Err, .int .u64 r_8.1.Num, .int .u64 r_8.1.Extra]⟩]) (ps := []) (by kernel_rfl) trivial ?_
        refine GoO.regionEnd ?_
        exact GoO.ret' (h := c14_16e) (hs := []) (ps := []) (hk := []) (bk := []) Try.func14 () (by kernel_rfl) trivial (by kernel_rfl) (by kernel_rfl)
    · refine GoO.exec (is := [7, 8, 9, 10, 11, 12, 13, 14, 15, 16, 17, 18, 19, 20, 21, 22, 23, 24, 25, 26]) (hs := [.p, .p, .p, .p, .p, .p, .p, .p, .p, .p, .p, .p, .p, .p, .p, .p, .p, .p, .p, .p]) (rest := []) (ks := [0]) (env' := [(0, .bool false)]) (H' := [⟨44, b_22, [.int .i64 r_19.1.Err, .int .u64 r_19.1.Num, .int .u64 r_19.1.Extra]⟩, ⟨40, b_2, [.int .u64 r_19.2.2.now, .int .u64 r_19.2.2.next, .slice A_20 r_19.2.2.rows.length c_21]⟩, ⟨43, b_18, [.int .i64 r_15.1.Err, .int .u64 r_15.1.Num, .int .u64 r_15.1.Extra]⟩, ⟨42, b_11, [.int .i64 r_8.1.Err, .int .u64 r_8.1.Num, .int .u64 r_8.1.Extra]⟩]) (ps := []) (by kernel_rfl) trivial ?_
      refine GoO.regionEnd ?_
      exact GoO.ret' (h := c14_16e) (hs := []) (ps := []) (hk := []) (bk := []) Try.func14 () (by kernel_rfl) trivial (by kernel_rfl) (by kernel_rfl)
  · refine GoO.exec (is := [3, 4, 5, 6, 7, 8, 9, 10, 11, 12, 13, 14, 15, 16, 17, 18, 19, 20, 21, 22, 23, 24, 25, 26]) (hs := [.p, .p, .p, .p, .p, .p, .p, .p, .p, .p, .p, .p, .p, .p, .p, .p, .p, .p, .p, .p, .p, .p, .p, .p]) (rest := []) (ks := [0]) (env' := [(0, .bool false)]) (H' := [⟨44, b_22, [.int .i64 r_19.1.Err, .int .u64 r_19.1.Num, .int .u64 r_19.1.Extra]⟩, ⟨40, b_2, [.int .u64 r_19.2.2.now, .int .u64 r_19.2.2.next, .slice A_20 r_19.2.2.rows.length c_21]⟩, ⟨43, b_18, [.int .i64 r_15.1.Err, .int .u64 r_15.1.Num, .int .u64 r_15.1.Extra]⟩, ⟨42, b_11, [.int .i64 r_8.1.Err, .int .u64 r_8.1.Num, .int .u64 r_8.1.Extra]⟩]) (ps := []) (by kernel_rfl) trivial ?_
    refine GoO.regionEnd ?_
    exact GoO.ret' (h := c14_16e) (hs := []) (ps := []) (hk := []) (bk := []) Try.func14 () (by kernel_rfl) trivial (by kernel_rfl) (by kernel_rfl)

/-! (*tontine/session.Table).Clock -/
noncomputable def c16_0 : Code := bodyOf Try.f16
noncomputable def c16_1 : Code := cdL c16_0
noncomputable def c16_2 : Code := cdL c16_1
noncomputable def c16_3 : Code := cdR c16_1
noncomputable def c16_4 : Code := cdL c16_3
noncomputable def c16_5 : Code := cdR c16_3
noncomputable def c16_6 : Code := cdR c16_0
noncomputable def c16_7 : Code := cdL c16_6
noncomputable def c16_8 : Code := cdR c16_6
noncomputable def c16_9 : Code := cdL c16_8
noncomputable def c16_10 : Code := cdR c16_8
noncomputable def c16_11 : Code := cdL c16_10
noncomputable def c16_12 : Code := cdL c16_11
noncomputable def c16_13 : Code := cdR c16_11
noncomputable def c16_14 : Code := cdL c16_13
noncomputable def c16_15 : Code := cdL c16_14
noncomputable def c16_16 : Code := cdL c16_15
noncomputable def c16_17 : Code := cdR c16_15
noncomputable def c16_18 : Code := cdL c16_17
noncomputable def c16_19 : Code := cdL c16_18
noncomputable def c16_20 : Code := cdR c16_18
noncomputable def c16_21 : Code := cdR c16_17
noncomputable def c16_22 : Code := cdL c16_21
noncomputable def c16_23 : Code := cdL c16_22
noncomputable def c16_24 : Code := cdL c16_23
noncomputable def c16_25 : Code := cdR c16_23
noncomputable def c16_26 : Code := cdL c16_25
noncomputable def c16_27 : Code := cdR c16_25
noncomputable def c16_28 : Code := cdL c16_27
noncomputable def c16_29 : Code := cdR c16_27
noncomputable def c16_30 : Code := cdR c16_21
noncomputable def c16_31 : Code := cdR c16_10
noncomputable def r16_2 : Array Oper := cdO c16_2
noncomputable def r16_7 : Array Oper := cdO c16_7
noncomputable def r16_9 : Array Oper := cdO c16_9
noncomputable def r16_12 : Array Oper := cdO c16_12
noncomputable def r16_16 : Array Oper := cdO c16_16
noncomputable def r16_24 : Array Oper := cdO c16_24
noncomputable def r16_26 : Array Oper := cdO c16_26
noncomputable def r16_28 : Array Oper := cdO c16_28
noncomputable def r16_30 : Array Oper := cdO c16_30
noncomputable def r16_31 : Array Oper := cdO c16_31
theorem c16_0e : c16_0 = .seq c16_1 c16_6 := by kernel_rfl
theorem c16_1e : c16_1 = .seq c16_2 c16_3 := by kernel_rfl
theorem c16_2e : c16_2 = .region 0 r16_2 false := by kernel_rfl
theorem c16_3e : c16_3 = .cond (cdC c16_3) c16_4 c16_5 := by kernel_rfl
theorem c16_4e : c16_4 = .ret := by kernel_rfl
theorem c16_5e : c16_5 = .skip := by kernel_rfl
theorem c16_6e : c16_6 = .seq c16_7 c16_8 := by kernel_rfl
theorem c16_7e : c16_7 = .region 1 r16_7 false := by kernel_rfl
theorem c16_8e : c16_8 = .seq c16_9 c16_10 := by kernel_rfl
theorem c16_9e : c16_9 = .region 2 r16_9 false := by kernel_rfl
theorem c16_10e : c16_10 = .seq c16_11 c16_31 := by kernel_rfl
theorem c16_11e : c16_11 = .seq c16_12 c16_13 := by kernel_rfl
theorem c16_12e : c16_12 = .region 3 r16_12 false := by kernel_rfl
theorem c16_13e : c16_13 = .block 0 c16_14 := by kernel_rfl
theorem c16_14e : c16_14 = .loop c16_15 := by kernel_rfl
theorem c16_15e : c16_15 = .seq c16_16 c16_17 := by kernel_rfl
theorem c16_16e : c16_16 = .region 4 r16_16 false := by kernel_rfl
theorem c16_17e : c16_17 = .seq c16_18 c16_21 := by kernel_rfl
theorem c16_18e : c16_18 = .cond (cdC c16_18) c16_19 c16_20 := by kernel_rfl
theorem c16_19e : c16_19 = .skip := by kernel_rfl
theorem c16_20e : c16_20 = .exit 0 := by kernel_rfl
theorem c16_21e : c16_21 = .seq c16_22 c16_30 := by kernel_rfl
theorem c16_22e : c16_22 = .block 1 c16_23 := by kernel_rfl
theorem c16_23e : c16_23 = .seq c16_24 c16_25 := by kernel_rfl
theorem c16_24e : c16_24 = .region 5 r16_24 false := by kernel_rfl
theorem c16_25e : c16_25 = .seq c16_26 c16_27 := by kernel_rfl
theorem c16_26e : c16_26 = .region 6 r16_26 false := by kernel_rfl
theorem c16_27e : c16_27 = .cond (cdC c16_27) c16_28 c16_29 := by kernel_rfl
theorem c16_28e : c16_28 = .region 7 r16_28 false := by kernel_rfl
theorem c16_29e : c16_29 = .skip := by kernel_rfl
theorem c16_30e : c16_30 = .region 8 r16_30 false := by kernel_rfl
theorem c16_31e : c16_31 = .region 9 r16_31 false := by kernel_rfl
noncomputable def session_Table_Clock.R (b_2 : Nat) (A_3 : Option Addr) (c_4 : Nat) : Pst T_session_Table where
  ε := Option Addr × Nat
  v := fun r x => .tuple ⟨[]⟩
  H := fun r x => [⟨1, b_2, [.int .u64 r.now, .int .u64 r.next, .slice x.1 r.rows.length x.2]⟩]
  B := fun r x => [Ow 2 kT_session_Row x.1 x.2 r.rows]
noncomputable def session_Table_Clock.cx (b_2 : Nat) (A_3 : Option Addr) (c_4 : Nat) (w0 : World) (S0 : Fam) : Cx T_session_Table := ⟨Try.prog, 16, Try.f16, 44, w0, S0, [1, 2], 2, session_Table_Clock.R b_2 A_3 c_4⟩
theorem session_Table_Clock_l0_ok (n : Nat) (t_1 : T_session_Table) (now_5 : Int) (b_2 : Nat) (A_3 : Option Addr) (c_4 : Nat) (w0 : World) (S0 : Fam) :
    ∀ (k : Nat) (l_7 : (List T_session_Row)) (x_10 : Int) (A_8 : Option Addr) (c_9 : Nat), GoO (session_Table_Clock.cx b_2 A_3 c_4 w0 S0) [(0, .pointer (some ⟨b_2, 0, none⟩)), (1, .int .u64 now_5), (4, .slice A_8 l_7.length c_9), (24, .slice A_3 t_1.rows.length c_4), (25, .int .i64 (t_1.rows.length : Int)), (26, .int .i64 x_10)] [⟨1, b_2, [.int .u64 now_5, .int .u64 t_1.next, .slice A_3 t_1.rows.length c_4]⟩] [Ow 2 kT_session_Row A_3 c_4 t_1.rows, Ow 42 kT_session_Row A_8 c_9 l_7] [.code c16_15, .inLoop c16_15, .inBlock 0, .code c16_31] (session_Table_Clock.l0 n t_1 now_5 k l_7 x_10) := by
  intro k
  induction k with
  | zero => intros; rw [session_Table_Clock.l0.eq_1]; exact GoO.stop
  | succ k ih0 =>
    intro l_7 x_10 A_8 c_9
    rw [session_Table_Clock.l0.eq_2]
    refine GoO.seq' c16_15e ?_
    refine GoO.region' (is := [0]) c16_16e (by kernel_rfl) ?_
    refine GoO.exec (is := [0]) (hs := [.p]) (rest := []) (ks := [0, 1, 4, 24, 25, 26, 27]) (env' := [(0, .pointer (some ⟨b_2, 0, none⟩)), (1, .int .u64 now_5), (4, .slice A_8 l_7.length c_9), (24, .slice A_3 t_1.rows.length c_4), (25, .int .i64 (t_1.rows.length : Int)), (26, .int .i64 x_10), (27, .bool (decide (x_10 < (t_1.rows.length : Int))))]) (H' := [⟨1, b_2, [.int .u64 now_5, .int .u64 t_1.next, .slice A_3 t_1.rows.length c_4]⟩]) (ps := []) (by kernel_rfl) trivial ?_
    refine GoO.regionEnd ?_
    refine GoO.seq' c16_17e ?_
    refine GoO.ite' c16_18e (by kernel_rfl) (fun h11 => ?_) (fun h11 => ?_)
    · refine GoO.skip' c16_19e ?_
      refine GoO.seq' c16_21e ?_
      refine GoO.block' c16_22e ?_
      refine GoO.seq' c16_23e ?_
      refine GoO.region' (is := [0, 1, 2, 3]) c16_24e (by kernel_rfl) ?_
      refine GoO.guard (fun h12 => ?_)
      refine OpTo.go (GoO.idx (kk := .i64) (e := 87) (K := kT_session_Row) (A := A_3) (c := c_4) (xs := t_1.rows) (iv := x_10) (j := 0) rfl (by kernel_rfl) (by kernel_rfl) (by kernel_rfl) (by kernel_rfl) rfl Reads.own rfl h12.1 h12.2 (by decide) rfl ?_)
      refine OpTo.go (GoO.ldE' (K := kT_session_Row) (A := A_3) (c := c_4) (xs := t_1.rows) (iN := x_10.toNat) (off := 0) (j := 0) rfl (by kernel_rfl) rfl Reads.own (by first | exact idx_lt h12.1 h12.2 | (simp only [List.length_set]; exact idx_lt h12.1 h12.2)) (by decide) (Opn.flat _ _ _ _ _) (v := fun _ => .agg ⟨[.int .u64 ((rdL t_1.rows x_10).Id), .int .u64 ((rdL t_1.rows x_10).Used), .int .u64 ((rdL t_1.rows x_10).Seq), .int .i64 ((rdL t_1.rows x_10).Reply.Err), .int .u64 ((rdL t_1.rows x_10).Reply.Num), .int .u64 ((rdL t_1.rows x_10).Reply.Extra)]⟩) (fun _ => by kernel_rfl) _ (fun _ => rfl) (fun _ => ?_))
      refine OpTo.go (GoO.new rfl 40 (cs := [.int .u64 0, .int .u64 0, .int .u64 0, .int .i64 0, .int .u64 0, .int .u64 0]) (by kernel_rfl) _ (fun _ => rfl) (fun b_13 => ?_))
      refine GoO.exec (is := [3]) (hs := [.b 0]) (rest := []) (ks := [0, 1, 4, 6, 24, 25, 26]) (env' := [(0, .pointer (some ⟨b_2, 0, none⟩)), (1, .int .u64 now_5), (4, .slice A_8 l_7.length c_9), (6, .pointer (some ⟨b_13, 0, none⟩)), (24, .slice A_3 t_1.rows.length c_4), (25, .int .i64 (t_1.rows.length : Int)), (26, .int .i64 x_10)]) (H' := [⟨40, b_13, [.int .u64 ((rdL t_1.rows x_10).Id), .int .u64 ((rdL t_1.rows x_10).Used), .int .u64 ((rdL t_1.rows x_10).Seq), .int .i64 ((rdL t_1.rows x_10).Reply.Err), .int .u64 ((rdL t_1.rows x_10).Reply.Num), .int .u64 ((rdL t_1.rows x_10).Reply.Extra)]⟩, ⟨1, b_2, [.int .u64 now_5, .int .u64 t_1.next, .slice A_3 t_1.rows.length c_4]⟩]) (ps := [b_13 = b_13]) (by kernel_rfl) (And.intro rfl trivial) ?_
      refine GoO.regionEnd ?_
      refine GoO.seq' c16_25e ?_
      refine GoO.region' (is := [0, 1, 2, 3, 4]) c16_26e (by kernel_rfl) ?_
      refine GoO.exec (is := [0, 1, 2, 3, 4]) (hs := [.p, .p, .b 0, .p, .p]) (rest := []) (ks := [0, 1, 4, 6, 24, 25, 26, 34]) (env' := [(0, .pointer (some ⟨b_2, 0, none⟩)), (1, .int .u64 now_5), (4, .slice A_8 l_7.length c_9), (6, .pointer (some ⟨b_13, 0, none⟩)), (24, .slice A_3 t_1.rows.length c_4), (25, .int .i64 (t_1.rows.length : Int)), (26, .int .i64 x_10), (34, .bool (decide ((wu64 (now_5 - ((rdL t_1.rows x_10).Used))) ≤ 1000)))]) (H' := [⟨40, b_13, [.int .u64 ((rdL t_1.rows x_10).Id), .int .u64 ((rdL t_1.rows x_10).Used), .int .u64 ((rdL t_1.rows x_10).Seq), .int .i64 ((rdL t_1.rows x_10).Reply.Err), .int .u64 ((rdL t_1.rows x_10).Reply.Num), .int .u64 ((rdL t_1.rows x_10).Reply.Extra)]⟩, ⟨1, b_2, [.int .u64 now_5, .int .u64 t_1.next, .slice A_3 t_1.rows.length c_4]⟩]) (ps := [b_13 = b_13]) (by kernel_rfl) (And.intro rfl trivial) ?_
      refine GoO.regionEnd ?_
      refine GoO.ite' c16_27e (by kernel_rfl) (fun h14 => ?_) (fun h14 => ?_)
      · refine GoO.region' (is := [0, 1, 2, 3, 4]) c16_28e (by kernel_rfl) ?_
        refine GoO.exec (is := [0, 1]) (hs := [.p, .b 0]) (rest := [2, 3, 4]) (ks := [0, 1, 24, 25, 26, 35, 36]) (env' := [(0, .pointer (some ⟨b_2, 0, none⟩)), (1, .int .u64 now_5), (24, .slice A_3 t_1.rows.length c_4), (25, .int .i64 (t_1.rows.length : Int)), (26, .int .i64 x_10), (35, .slice A_8 l_7.length c_9), (36, .agg ⟨[.int .u64 ((rdL t_1.rows x_10).Id), .int .u64 ((rdL t_1.rows x_10).Used), .int .u64 ((rdL t_1.rows x_10).Seq), .int .i64 ((rdL t_1.rows x_10).Reply.Err), .int .u64 ((rdL t_1.rows x_10).Reply.Num), .int .u64 ((rdL t_1.rows x_10).Reply.Extra)]⟩)]) (H' := [⟨40, b_13, [.int .u64 ((rdL t_1.rows x_10).Id), .int .u64 ((rdL t_1.rows x_10).Used), .int .u64 ((rdL t_1.rows x_10).Seq), .int .i64 ((rdL t_1.rows x_10).Reply.Err), .int .u64 ((rdL t_1.rows x_10).Reply.Num), .int .u64 ((rdL t_1.rows x_10).Reply.Extra)]⟩, ⟨1, b_2, [.int .u64 now_5, .int .u64 t_1.next, .slice A_3 t_1.rows.length c_4]⟩]) (ps := [b_13 = b_13]) (by kernel_rfl) (And.intro rfl trivial) ?_
        refine OpTo.go (GoO.lit (e := 87) (K := kT_session_Row) rfl (by kernel_rfl) (by kernel_rfl) (cs := [.int .u64 ((rdL t_1.rows x_10).Id), .int .u64 ((rdL t_1.rows x_10).Used), .int .u64 ((rdL t_1.rows x_10).Seq), .int .i64 ((rdL t_1.rows x_10).Reply.Err), .int .u64 ((rdL t_1.rows x_10).Reply.Num), .int .u64 ((rdL t_1.rows x_10).Reply.Extra)]) (by kernel_rfl) [(⟨(rdL t_1.rows x_10).Id, (rdL t_1.rows x_10).Used, (rdL t_1.rows x_10).Seq, (⟨(rdL t_1.rows x_10).Reply.Err, (rdL t_1.rows x_10).Reply.Num, (rdL t_1.rows x_10).Reply.Extra⟩ : T_api_Reply)⟩ : T_session_Row)] (by kernel_rfl) (by kernel_rfl) (fun w S hB => ⟨[.int .u64 ((rdL t_1.rows x_10).Id), .int .u64 ((rdL t_1.rows x_10).Used), .int .u64 ((rdL t_1.rows x_10).Seq), .int .i64 ((rdL t_1.rows x_10).Reply.Err), .int .u64 ((rdL t_1.rows x_10).Reply.Num), .int .u64 ((rdL t_1.rows x_10).Reply.Extra)], _, rfl, rfl, rfl⟩) 41 _ (fun _ _ => rfl) (fun A_15 c_16 => ?_))
        refine GoO.guard (fun h17 => ?_)
        refine OpTo.go (GoO.appW (e := 87) (K := kT_session_Row) (A := A_8) (c := c_9) (tg := 42) (bytes := 48) (zs := [.int .u64 0, .int .u64 0, .int .u64 0, .int .i64 0, .int .u64 0, .int .u64 0]) (xs := l_7) (ys := [(⟨(rdL t_1.rows x_10).Id, (rdL t_1.rows x_10).Used, (rdL t_1.rows x_10).Seq, (⟨(rdL t_1.rows x_10).Reply.Err, (rdL t_1.rows x_10).Reply.Num, (rdL t_1.rows x_10).Reply.Extra⟩ : T_api_Reply)⟩ : T_session_Row)]) (xv := .slice A_15 [(⟨(rdL t_1.rows x_10).Id, (rdL t_1.rows x_10).Used, (rdL t_1.rows x_10).Seq, (⟨(rdL t_1.rows x_10).Reply.Err, (rdL t_1.rows x_10).Reply.Num, (rdL t_1.rows x_10).Reply.Extra⟩ : T_api_Reply)⟩ : T_session_Row)].length c_16) (j := 2) (bk := [0, 1]) rfl (by kernel_rfl) (by kernel_rfl) (by kernel_rfl) (by kernel_rfl) rfl (by kernel_rfl) rfl (fun w S hB => SrcIs.row (Reads.own w S (hB _ (List.mem_of_getElem? (i := 0) rfl)))) h17 rfl rfl rfl rfl _ (fun _ _ => rfl) (fun A_18 c_19 => ?_))
        refine GoO.exec (is := [4]) (hs := [.p]) (rest := []) (ks := [0, 1, 4, 24, 25, 26]) (env' := [(0, .pointer (some ⟨b_2, 0, none⟩)), (1, .int .u64 now_5), (4, .slice A_18 (l_7 ++ [(⟨(rdL t_1.rows x_10).Id, (rdL t_1.rows x_10).Used, (rdL t_1.rows x_10).Seq, (⟨(rdL t_1.rows x_10).Reply.Err, (rdL t_1.rows x_10).Reply.Num, (rdL t_1.rows x_10).Reply.Extra⟩ : T_api_Reply)⟩ : T_session_Row)]).length c_19), (24, .slice A_3 t_1.rows.length c_4), (25, .int .i64 (t_1.rows.length : Int)), (26, .int .i64 x_10)]) (H' := [⟨40, b_13, [.int .u64 ((rdL t_1.rows x_10).Id), .int .u64 ((rdL t_1.rows x_10).Used), .int .u64 ((rdL t_1.rows x_10).Seq), .int .i64 ((rdL t_1.rows x_10).Reply.Err), .int .u64 ((rdL t_1.rows x_10).Reply.Num), .int .u64 ((rdL t_1.rows x_10).Reply.Extra)]⟩, ⟨1, b_2, [.int .u64 now_5, .int .u64 t_1.next, .slice A_3 t_1.rows.length c_4]⟩]) (ps := []) (by kernel_rfl) trivial ?_
        refine GoO.regionEnd ?_
        refine GoO.inBlock ?_
        refine GoO.region' (is := [0, 1]) c16_30e (by kernel_rfl) ?_
        refine GoO.exec (is := [0, 1]) (hs := [.p, .p]) (rest := []) (ks := [0, 1, 4, 24, 25, 26]) (env' := [(0, .pointer (some ⟨b_2, 0, none⟩)), (1, .int .u64 now_5), (4, .slice A_18 (l_7 ++ [(⟨(rdL t_1.rows x_10).Id, (rdL t_1.rows x_10).Used, (rdL t_1.rows x_10).Seq, (⟨(rdL t_1.rows x_10).Reply.Err, (rdL t_1.rows x_10).Reply.Num, (rdL t_1.rows x_10).Reply.Extra⟩ : T_api_Reply)⟩ : T_session_Row)]).length c_19), (24, .slice A_3 t_1.rows.length c_4), (25, .int .i64 (t_1.rows.length : Int)), (26, .int .i64 (wi64 (x_10 + 1)))]) (H' := [⟨40, b_13, [.int .u64 ((rdL t_1.rows x_10).Id), .int .u64 ((rdL t_1.rows x_10).Used), .int .u64 ((rdL t_1.rows x_10).Seq), .int .i64 ((rdL t_1.rows x_10).Reply.Err), .int .u64 ((rdL t_1.rows x_10).Reply.Num), .int .u64 ((rdL t_1.rows x_10).Reply.Extra)]⟩, ⟨1, b_2, [.int .u64 now_5, .int .u64 t_1.next, .slice A_3 t_1.rows.length c_4]⟩]) (ps := []) (by kernel_rfl) trivial ?_
        refine GoO.regionEnd ?_
        refine GoO.inLoop ?_
        exact GoO.sub (ks := [0, 1, 4, 24, 25, 26]) (hk := [1]) (bk := [2, 0]) (by kernel_rfl) (by kernel_rfl) (by kernel_rfl) (ih0 (l_7 ++ [(⟨(rdL t_1.rows x_10).Id, (rdL t_1.rows x_10).Used, (rdL t_1.rows x_10).Seq, (⟨(rdL t_1.rows x_10).Reply.Err, (rdL t_1.rows x_10).Reply.Num, (rdL t_1.rows x_10).Reply.Extra⟩ : T_api_Reply)⟩ : T_session_Row)]) (wi64 (x_10 + 1)) A_18 c_19)
      · refine GoO.skip' c16_29e ?_
        refine GoO.inBlock ?_
        refine GoO.region' (is := [0, 1]) c16_30e (by kernel_rfl) ?_
        refine GoO.exec (is := [0, 1]) (hs := [.p, .p]) (rest := []) (ks := [0, 1, 4, 24, 25, 26]) (env' := [(0, .pointer (some ⟨b_2, 0, none⟩)), (1, .int .u64 now_5), (4, .slice A_8 l_7.length c_9), (24, .slice A_3 t_1.rows.length c_4), (25, .int .i64 (t_1.rows.length : Int)), (26, .int .i64 (wi64 (x_10 + 1)))]) (H' := [⟨40, b_13, [.int .u64 ((rdL t_1.rows x_10).Id), .int .u64 ((rdL t_1.rows x_10).Used), .int .u64 ((rdL t_1.rows x_10).Seq), .int .i64 ((rdL t_1.rows x_10).Reply.Err), .int .u64 ((rdL t_1.rows x_10).Reply.Num), .int .u64 ((rdL t_1.rows x_10).Reply.Extra)]⟩, ⟨1, b_2, [.int .u64 now_5, .int .u64 t_1.next, .slice A_3 t_1.rows.length c_4]⟩]) (ps := []) (by kernel_rfl) trivial ?_
        refine GoO.regionEnd ?_
        refine GoO.inLoop ?_
        exact GoO.sub (ks := [0, 1, 4, 24, 25, 26]) (hk := [1]) (bk := [0, 1]) (by kernel_rfl) (by kernel_rfl) (by kernel_rfl) (ih0 l_7 (wi64 (x_10 + 1)) A_8 c_9)
    · refine GoO.exit' c16_20e rfl ?_
      refine GoO.region' (is := [0, 1, 2, 3, 4]) c16_31e (by kernel_rfl) ?_
      refine GoO.exec (is := [0, 1, 2, 3, 4]) (hs := [.p, .p, .p, .p, .b 0]) (rest := []) (ks := []) (env' := []) (H' := [⟨1, b_2, [.int .u64 now_5, .int .u64 t_1.next, .slice A_8 l_7.length c_9]⟩]) (ps := [b_2 = b_2]) (by kernel_rfl) (And.intro rfl trivial) ?_
      refine GoO.regionEnd ?_
      refine GoO.sub (ks := []) (env' := []) (hk := [0]) (bk := [1]) (by kernel_rfl) rfl rfl ?_
      refine GoO.retag (t := 42) (u := 2) (j := 0) (hk := [0]) (bk := []) rfl rfl rfl rfl rfl rfl (by kernel_rfl) (by kernel_rfl) ?_
      exact GoO.fin (hs := []) (ps := []) (hk := [0]) (bk := [0]) Try.func16 (⟨A_8, c_9⟩ : Option Addr × Nat) (by kernel_rfl) trivial (by kernel_rfl) (by kernel_rfl)
theorem session_Table_Clock_ok (n : Nat) (t_1 : T_session_Table) (now_5 : Int) (b_2 : Nat) (A_3 : Option Addr) (c_4 : Nat) :
    Meets Try.prog 16 [.pointer (some ⟨b_2, 0, none⟩), .int .u64 now_5] 2 [1, 2] [⟨1, b_2, [.int .u64 t_1.now, .int .u64 t_1.next, .slice A_3 t_1.rows.length c_4]⟩] [Ow 2 kT_session_Row A_3 c_4 t_1.rows] (session_Table_Clock.f n t_1 now_5) (session_Table_Clock.R b_2 A_3 c_4) := by
  refine Meets.of (c := c16_0) (n := 44) Try.func16 (by kernel_rfl) (by kernel_rfl) (by kernel_rfl) fun w0 S0 => ?_
  unfold session_Table_Clock.f
  show GoO (session_Table_Clock.cx b_2 A_3 c_4 w0 S0) [(0, .pointer (some ⟨b_2, 0, none⟩)), (1, .int .u64 now_5)] [⟨1, b_2, [.int .u64 t_1.now, .int .u64 t_1.next, .slice A_3 t_1.rows.length c_4]⟩] [Ow 2 kT_session_Row A_3 c_4 t_1.rows] [.code c16_0] _
  refine GoO.seq' c16_0e ?_
  refine GoO.seq' c16_1e ?_
  refine GoO.region' (is := [0, 1, 2, 3, 4, 5, 6, 7, 8, 9]) c16_2e (by kernel_rfl) ?_
  refine GoO.exec (is := [0, 1, 2, 3, 4, 5, 6, 7, 8, 9]) (hs := [.p, .p, .p, .p, .p, .p, .p, .b 0, .p, .p]) (rest := []) (ks := [0, 1, 16]) (env' := [(0, .pointer (some ⟨b_2, 0, none⟩)), (1, .int .u64 now_5), (16, .bool (decide (now_5 ≤ t_1.now)))]) (H' := [⟨1, b_2, [.int .u64 t_1.now, .int .u64 t_1.next, .slice A_3 t_1.rows.length c_4]⟩]) (ps := [b_2 = b_2]) (by kernel_rfl) (And.intro rfl trivial) ?_
  refine GoO.regionEnd ?_
  refine GoO.ite' c16_3e (by kernel_rfl) (fun h6 => ?_) (fun h6 => ?_)
  · exact GoO.ret' (h := c16_4e) (hs := []) (ps := []) (hk := [0]) (bk := [0]) Try.func16 (⟨A_3, c_4⟩ : Option Addr × Nat) (by kernel_rfl) trivial (by kernel_rfl) (by kernel_rfl)
  · refine GoO.skip' c16_5e ?_
    refine GoO.seq' c16_6e ?_
    refine GoO.region' (is := [0, 1, 2, 3, 4]) c16_7e (by kernel_rfl) ?_
    refine GoO.exec (is := [0, 1, 2, 3, 4]) (hs := [.p, .p, .p, .p, .b 0]) (rest := []) (ks := [0, 1]) (env' := [(0, .pointer (some ⟨b_2, 0, none⟩)), (1, .int .u64 now_5)]) (H' := [⟨1, b_2, [.int .u64 now_5, .int .u64 t_1.next, .slice A_3 t_1.rows.length c_4]⟩]) (ps := [b_2 = b_2]) (by kernel_rfl) (And.intro rfl trivial) ?_
    refine GoO.regionEnd ?_
    refine GoO.seq' c16_8e ?_
    refine GoO.region' (is := [0]) c16_9e (by kernel_rfl) ?_
    refine GoO.exec (is := [0]) (hs := [.p]) (rest := []) (ks := [0, 1, 4]) (env' := [(0, .pointer (some ⟨b_2, 0, none⟩)), (1, .int .u64 now_5), (4, .slice none ([] : List T_session_Row).length 0)]) (H' := [⟨1, b_2, [.int .u64 now_5, .int .u64 t_1.next, .slice A_3 t_1.rows.length c_4]⟩]) (ps := []) (by kernel_rfl) trivial ?_
    refine GoO.regionEnd ?_
    refine GoO.seq' c16_10e ?_
    refine GoO.seq' c16_11e ?_
    refine GoO.region' (is := [0, 1, 2, 3, 4, 5]) c16_12e (by kernel_rfl) ?_
    refine GoO.exec (is := [0, 1, 2, 3, 4, 5]) (hs := [.p, .p, .p, .b 0, .p, .p]) (rest := []) (ks := [0, 1, 4, 24, 25, 26]) (env' := [(0, .pointer (some ⟨b_2, 0, none⟩)), (1, .int .u64 now_5), (4, .slice none ([] : List T_session_Row).length 0), (24, .slice A_3 t_1.rows.length c_4), (25, .int .i64 (t_1.rows.length : Int)), (26, .int .i64 0)]) (H' := [⟨1, b_2, [.int .u64 now_5, .int .u64 t_1.next, .slice A_3 t_1.rows.length c_4]⟩]) (ps := [b_2 = b_2]) (by kernel_rfl) (And.intro rfl trivial) ?_
    refine GoO.regionEnd ?_
    refine GoO.block' c16_13e ?_
    refine GoO.loop' c16_14e ?_
    refine GoO.nilOwn kT_session_Row 42 ?_
    exact GoO.sub (ks := [0, 1, 4, 24, 25, 26]) (hk := [0]) (bk := [1, 0]) (by kernel_rfl) (by kernel_rfl) (by kernel_rfl) (session_Table_Clock_l0_ok n t_1 now_5 b_2 A_3 c_4 w0 S0 n ([] : List T_session_Row) 0 none 0)

/-! tontine/tontinelaw15.SessionOnce -/
noncomputable def c3_0 : Code := bodyOf Try.f3
noncomputable def c3_1 : Code := cdL c3_0
noncomputable def c3_2 : Code := cdR c3_0
noncomputable def c3_3 : Code := cdL c3_2
noncomputable def c3_4 : Code := cdL c3_3
noncomputable def c3_5 : Code := cdR c3_3
noncomputable def c3_6 : Code := cdL c3_5
noncomputable def c3_7 : Code := cdL c3_6
noncomputable def c3_8 : Code := cdR c3_6
noncomputable def c3_9 : Code := cdR c3_5
noncomputable def c3_10 : Code := cdR c3_2
noncomputable def c3_11 : Code := cdL c3_10
noncomputable def c3_12 : Code := cdR c3_10
noncomputable def c3_13 : Code := cdL c3_12
noncomputable def c3_14 : Code := cdR c3_12
noncomputable def c3_15 : Code := cdL c3_14
noncomputable def c3_16 : Code := cdR c3_14
noncomputable def c3_17 : Code := cdL c3_16
noncomputable def c3_18 : Code := cdL c3_17
noncomputable def c3_19 : Code := cdR c3_17
noncomputable def c3_20 : Code := cdL c3_19
noncomputable def c3_21 : Code := cdL c3_20
noncomputable def c3_22 : Code := cdL c3_21
noncomputable def c3_23 : Code := cdR c3_21
noncomputable def c3_24 : Code := cdL c3_23
noncomputable def c3_25 : Code := cdL c3_24
noncomputable def c3_26 : Code := cdR c3_24
noncomputable def c3_27 : Code := cdR c3_23
noncomputable def c3_28 : Code := cdL c3_27
noncomputable def c3_29 : Code := cdL c3_28
noncomputable def c3_30 : Code := cdL c3_29
noncomputable def c3_31 : Code := cdR c3_29
noncomputable def c3_32 : Code := cdL c3_31
noncomputable def c3_33 : Code := cdL c3_32
noncomputable def c3_34 : Code := cdR c3_32
noncomputable def c3_35 : Code := cdL c3_34
noncomputable def c3_36 : Code := cdR c3_34
noncomputable def c3_37 : Code := cdR c3_31
noncomputable def c3_38 : Code := cdL c3_37
noncomputable def c3_39 : Code := cdR c3_37
noncomputable def c3_40 : Code := cdL c3_39
noncomputable def c3_41 : Code := cdL c3_40
noncomputable def c3_42 : Code := cdR c3_40
noncomputable def c3_43 : Code := cdL c3_42
noncomputable def c3_44 : Code := cdR c3_42
noncomputable def c3_45 : Code := cdL c3_44
noncomputable def c3_46 : Code := cdR c3_44
noncomputable def c3_47 : Code := cdL c3_46
noncomputable def c3_48 : Code := cdR c3_46
noncomputable def c3_49 : Code := cdL c3_48
noncomputable def c3_50 : Code := cdR c3_48
noncomputable def c3_51 : Code := cdL c3_50
noncomputable def c3_52 : Code := cdR c3_50
noncomputable def c3_53 : Code := cdL c3_52
noncomputable def c3_54 : Code := cdR c3_52
noncomputable def c3_55 : Code := cdL c3_54
noncomputable def c3_56 : Code := cdL c3_55
noncomputable def c3_57 : Code := cdR c3_55
noncomputable def c3_58 : Code := cdL c3_57
noncomputable def c3_59 : Code := cdL c3_58
noncomputable def c3_60 : Code := cdR c3_58
noncomputable def c3_61 : Code := cdR c3_57
noncomputable def c3_62 : Code := cdR c3_54
noncomputable def c3_63 : Code := cdL c3_62
noncomputable def c3_64 : Code := cdR c3_62
noncomputable def c3_65 : Code := cdL c3_64
noncomputable def c3_66 : Code := cdL c3_65
noncomputable def c3_67 : Code := cdR c3_65
noncomputable def c3_68 : Code := cdL c3_67
noncomputable def c3_69 : Code := cdL c3_68
noncomputable def c3_70 : Code := cdR c3_68
noncomputable def c3_71 : Code := cdL c3_70
noncomputable def c3_72 : Code := cdL c3_71
noncomputable def c3_73 : Code := cdR c3_71
noncomputable def c3_74 : Code := cdR c3_70
noncomputable def c3_75 : Code := cdR c3_67
noncomputable def c3_76 : Code := cdR c3_64
noncomputable def c3_77 : Code := cdR c3_27
noncomputable def c3_78 : Code := cdR c3_16
noncomputable def c3_79 : Code := cdL c3_78
noncomputable def c3_80 : Code := cdR c3_78
noncomputable def r3_1 : Array Oper := cdO c3_1
noncomputable def r3_4 : Array Oper := cdO c3_4
noncomputable def r3_7 : Array Oper := cdO c3_7
noncomputable def r3_11 : Array Oper := cdO c3_11
noncomputable def r3_13 : Array Oper := cdO c3_13
noncomputable def r3_15 : Array Oper := cdO c3_15
noncomputable def r3_18 : Array Oper := cdO c3_18
noncomputable def r3_22 : Array Oper := cdO c3_22
noncomputable def r3_30 : Array Oper := cdO c3_30
noncomputable def r3_33 : Array Oper := cdO c3_33
noncomputable def r3_38 : Array Oper := cdO c3_38
noncomputable def r3_41 : Array Oper := cdO c3_41
noncomputable def r3_43 : Array Oper := cdO c3_43
noncomputable def r3_45 : Array Oper := cdO c3_45
noncomputable def r3_47 : Array Oper := cdO c3_47
noncomputable def r3_49 : Array Oper := cdO c3_49
noncomputable def r3_51 : Array Oper := cdO c3_51
noncomputable def r3_53 : Array Oper := cdO c3_53
noncomputable def r3_56 : Array Oper := cdO c3_56
noncomputable def r3_59 : Array Oper := cdO c3_59
noncomputable def r3_63 : Array Oper := cdO c3_63
noncomputable def r3_66 : Array Oper := cdO c3_66
noncomputable def r3_69 : Array Oper := cdO c3_69
noncomputable def r3_72 : Array Oper := cdO c3_72
noncomputable def r3_75 : Array Oper := cdO c3_75
noncomputable def r3_77 : Array Oper := cdO c3_77
noncomputable def r3_79 : Array Oper := cdO c3_79
theorem c3_0e : c3_0 = .seq c3_1 c3_2 := by kernel_rfl
theorem c3_1e : c3_1 = .region 0 r3_1 false := by kernel_rfl
theorem c3_2e : c3_2 = .seq c3_3 c3_10 := by kernel_rfl
theorem c3_3e : c3_3 = .seq c3_4 c3_5 := by kernel_rfl
theorem c3_4e : c3_4 = .region 1 r3_4 false := by kernel_rfl
theorem c3_5e : c3_5 = .cond (cdC c3_5) c3_6 c3_9 := by kernel_rfl
theorem c3_6e : c3_6 = .seq c3_7 c3_8 := by kernel_rfl
theorem c3_7e : c3_7 = .region 2 r3_7 false := by kernel_rfl
theorem c3_8e : c3_8 = .ret := by kernel_rfl
theorem c3_9e : c3_9 = .skip := by kernel_rfl
theorem c3_10e : c3_10 = .seq c3_11 c3_12 := by kernel_rfl
theorem c3_11e : c3_11 = .region 3 r3_11 false := by kernel_rfl
theorem c3_12e : c3_12 = .seq c3_13 c3_14 := by kernel_rfl
theorem c3_13e : c3_13 = .region 4 r3_13 false := by kernel_rfl
theorem c3_14e : c3_14 = .seq c3_15 c3_16 := by kernel_rfl
theorem c3_15e : c3_15 = .region 5 r3_15 false := by kernel_rfl
theorem c3_16e : c3_16 = .seq c3_17 c3_78 := by kernel_rfl
theorem c3_17e : c3_17 = .seq c3_18 c3_19 := by kernel_rfl
theorem c3_18e : c3_18 = .region 6 r3_18 false := by kernel_rfl
theorem c3_19e : c3_19 = .block 0 c3_20 := by kernel_rfl
theorem c3_20e : c3_20 = .loop c3_21 := by kernel_rfl
theorem c3_21e : c3_21 = .seq c3_22 c3_23 := by kernel_rfl
theorem c3_22e : c3_22 = .region 7 r3_22 false := by kernel_rfl
theorem c3_23e : c3_23 = .seq c3_24 c3_27 := by kernel_rfl
theorem c3_24e : c3_24 = .cond (cdC c3_24) c3_25 c3_26 := by kernel_rfl
theorem c3_25e : c3_25 = .skip := by kernel_rfl
theorem c3_26e : c3_26 = .exit 0 := by kernel_rfl
theorem c3_27e : c3_27 = .seq c3_28 c3_77 := by kernel_rfl
theorem c3_28e : c3_28 = .block 1 c3_29 := by kernel_rfl
theorem c3_29e : c3_29 = .seq c3_30 c3_31 := by kernel_rfl
theorem c3_30e : c3_30 = .region 8 r3_30 false := by kernel_rfl
theorem c3_31e : c3_31 = .seq c3_32 c3_37 := by kernel_rfl
theorem c3_32e : c3_32 = .seq c3_33 c3_34 := by kernel_rfl
theorem c3_33e : c3_33 = .region 9 r3_33 false := by kernel_rfl
theorem c3_34e : c3_34 = .cond (cdC c3_34) c3_35 c3_36 := by kernel_rfl
theorem c3_35e : c3_35 = .exit 0 := by kernel_rfl
theorem c3_36e : c3_36 = .skip := by kernel_rfl
theorem c3_37e : c3_37 = .seq c3_38 c3_39 := by kernel_rfl
theorem c3_38e : c3_38 = .region 10 r3_38 false := by kernel_rfl
theorem c3_39e : c3_39 = .block 2 c3_40 := by kernel_rfl
theorem c3_40e : c3_40 = .seq c3_41 c3_42 := by kernel_rfl
theorem c3_41e : c3_41 = .region 21 r3_41 false := by kernel_rfl
theorem c3_42e : c3_42 = .cond (cdC c3_42) c3_43 c3_44 := by kernel_rfl
theorem c3_43e : c3_43 = .region 22 r3_43 false := by kernel_rfl
theorem c3_44e : c3_44 = .seq c3_45 c3_46 := by kernel_rfl
theorem c3_45e : c3_45 = .region 23 r3_45 false := by kernel_rfl
theorem c3_46e : c3_46 = .cond (cdC c3_46) c3_47 c3_48 := by kernel_rfl
theorem c3_47e : c3_47 = .region 24 r3_47 false := by kernel_rfl
theorem c3_48e : c3_48 = .seq c3_49 c3_50 := by kernel_rfl
theorem c3_49e : c3_49 = .region 11 r3_49 false := by kernel_rfl
theorem c3_50e : c3_50 = .seq c3_51 c3_52 := by kernel_rfl
theorem c3_51e : c3_51 = .region 12 r3_51 false := by kernel_rfl
theorem c3_52e : c3_52 = .seq c3_53 c3_54 := by kernel_rfl
theorem c3_53e : c3_53 = .region 13 r3_53 false := by kernel_rfl
theorem c3_54e : c3_54 = .seq c3_55 c3_62 := by kernel_rfl
theorem c3_55e : c3_55 = .seq c3_56 c3_57 := by kernel_rfl
theorem c3_56e : c3_56 = .region 14 r3_56 false := by kernel_rfl
theorem c3_57e : c3_57 = .cond (cdC c3_57) c3_58 c3_61 := by kernel_rfl
theorem c3_58e : c3_58 = .seq c3_59 c3_60 := by kernel_rfl
theorem c3_59e : c3_59 = .region 15 r3_59 false := by kernel_rfl
theorem c3_60e : c3_60 = .ret := by kernel_rfl
theorem c3_61e : c3_61 = .skip := by kernel_rfl
theorem c3_62e : c3_62 = .seq c3_63 c3_64 := by kernel_rfl
theorem c3_63e : c3_63 = .region 16 r3_63 false := by kernel_rfl
theorem c3_64e : c3_64 = .cond (cdC c3_64) c3_65 c3_76 := by kernel_rfl
theorem c3_65e : c3_65 = .seq c3_66 c3_67 := by kernel_rfl
theorem c3_66e : c3_66 = .region 17 r3_66 false := by kernel_rfl
theorem c3_67e : c3_67 = .seq c3_68 c3_75 := by kernel_rfl
theorem c3_68e : c3_68 = .seq c3_69 c3_70 := by kernel_rfl
theorem c3_69e : c3_69 = .region 18 r3_69 false := by kernel_rfl
theorem c3_70e : c3_70 = .cond (cdC c3_70) c3_71 c3_74 := by kernel_rfl
theorem c3_71e : c3_71 = .seq c3_72 c3_73 := by kernel_rfl
theorem c3_72e : c3_72 = .region 19 r3_72 false := by kernel_rfl
theorem c3_73e : c3_73 = .ret := by kernel_rfl
theorem c3_74e : c3_74 = .skip := by kernel_rfl
theorem c3_75e : c3_75 = .region 20 r3_75 true := by kernel_rfl
theorem c3_76e : c3_76 = .skip := by kernel_rfl
theorem c3_77e : c3_77 = .region 25 r3_77 false := by kernel_rfl
theorem c3_78e : c3_78 = .seq c3_79 c3_80 := by kernel_rfl
theorem c3_79e : c3_79 = .region 26 r3_79 false := by kernel_rfl
theorem c3_80e : c3_80 = .ret := by kernel_rfl
noncomputable def tontinelaw15_SessionOnce.R (A_2 : Option Addr) (c_3 : Nat) : Pst Bool where
  ε := Unit
  v := fun r x => .bool r
  H := fun r x => []
  B := fun r x => []
noncomputable def tontinelaw15_SessionOnce.cx (A_2 : Option Addr) (c_3 : Nat) (w0 : World) (S0 : Fam) : Cx Bool := ⟨Try.prog, 3, Try.f3, 113, w0, S0, [], 0, tontinelaw15_SessionOnce.R A_2 c_3⟩
theorem tontinelaw15_SessionOnce_j1_ok (n : Nat) (L0 : Int → Int → (List T_session_Row) → (List (T_tontinelaw15_one × T_api_Reply)) → (List (Int × Int)) → Int → Option Bool) (calls_1 : (List T_tontinelaw15_Call)) (f_14 : Int) (f_15 : Int) (f_16 : (List T_session_Row)) (done_19 : (List (T_tontinelaw15_one × T_api_Reply))) (last_22 : (List (Int × Int))) (x_25 : Int) (r_56 : Bool × T_session_Table) (A_2 : Option Addr) (c_3 : Nat) (b_7 : Nat) (A_17 : Option Addr) (c_18 : Nat) (A_20 : Option Addr) (c_21 : Nat) (A_23 : Option Addr) (c_24 : Nat) (b_28 : Nat) (b_40 : Nat) (A_57 : Option Addr) (c_58 : Nat) (w0 : World) (S0 : Fam) (ih0 : ∀ (f_14 : Int) (f_15 : Int) (f_16 : (List T_session_Row)) (done_19 : (List (T_tontinelaw15_one × T_api_Reply))) (last_22 : (List (Int × Int))) (x_25 : Int) (A_17 : Option Addr) (c_18 : Nat) (A_20 : Option Addr) (c_21 : Nat) (A_23 : Option Addr) (c_24 : Nat), GoO (tontinelaw15_SessionOnce.cx A_2 c_3 w0 S0) [(3, .pointer (some ⟨b_7, 0, none⟩)), (4, .map (mA A_20)), (5, .map (mA A_23)), (18, .slice A_2 calls_1.length c_3), (19, .int .i64 (calls_1.length : Int)), (20, .int .i64 x_25)] [⟨40, b_7, [.int .u64 f_14, .int .u64 f_15, .slice A_17 f_16.length c_18]⟩] [Ow 41 kT_session_Row A_17 c_18 f_16, Mp 42 ky26 (fun v : T_api_Reply => .agg ⟨[.int .i64 v.Err, .int .u64 v.Num, .int .u64 v.Extra]⟩) A_20 c_21 done_19, Mp 43 ky27 (fun v => .int .u64 v) A_23 c_24 last_22, Rd 0 kT_tontinelaw15_Call A_2 c_3 calls_1] [.code c3_21, .inLoop c3_21, .inBlock 0, .code c3_78] (L0 f_14 f_15 f_16 done_19 last_22 x_25)) (b_60 : Bool) :
    GoO (tontinelaw15_SessionOnce.cx A_2 c_3 w0 S0) [(3, .pointer (some ⟨b_7, 0, none⟩)), (4, .map (mA A_20)), (5, .map (mA A_23)), (7, .pointer (some ⟨b_28, 0, none⟩)), (8, .pointer (some ⟨b_40, 0, none⟩)), (18, .slice A_2 calls_1.length c_3), (19, .int .i64 (calls_1.length : Int)), (20, .int .i64 x_25), (92, .bool b_60)] [⟨40, b_7, [.int .u64 r_56.2.now, .int .u64 r_56.2.next, .slice A_57 r_56.2.rows.length c_58]⟩, ⟨44, b_28, [.int .i64 ((rdL calls_1 x_25).Kind), .int .u64 ((rdL calls_1 x_25).Id), .int .u64 ((rdL calls_1 x_25).Seq), .int .i64 0, .int .u64 ((rdL calls_1 x_25).Reply.Num), .int .u64 ((rdL calls_1 x_25).Reply.Extra)]⟩, ⟨45, b_40, [.int .u64 ((rdL calls_1 x_25).Id), .int .u64 ((rdL calls_1 x_25).Seq)]⟩] [Ow 41 kT_session_Row A_57 c_58 r_56.2.rows, Mp 42 ky26 (fun v : T_api_Reply => .agg ⟨[.int .i64 v.Err, .int .u64 v.Num, .int .u64 v.Extra]⟩) A_20 c_21 done_19, Mp 43 ky27 (fun v => .int .u64 v) A_23 c_24 last_22, Rd 0 kT_tontinelaw15_Call A_2 c_3 calls_1] [.code c3_70, .code c3_75, .inBlock 2, .inBlock 1, .code c3_77, .inLoop c3_21, .inBlock 0, .code c3_78] (tontinelaw15_SessionOnce.j1 n L0 calls_1 done_19 last_22 x_25 r_56 b_60) := by
  unfold tontinelaw15_SessionOnce.j1
  refine GoO.ite' c3_70e (by kernel_rfl) (fun h61 => ?_) (fun h61 => ?_)
  · refine GoO.seq' c3_71e ?_
    refine GoO.region' (is := [0]) c3_72e (by kernel_rfl) ?_
    refine GoO.exec (is := [0]) (hs := [.p]) (rest := []) (ks := [2]) (env' := [(2, .bool false)]) (H' := [⟨40, b_7, [.int .u64 r_56.2.now, .int .u64 r_56.2.next, .slice A_57 r_56.2.rows.length c_58]⟩, ⟨44, b_28, [.int .i64 ((rdL calls_1 x_25).Kind), .int .u64 ((rdL calls_1 x_25).Id), .int .u64 ((rdL calls_1 x_25).Seq), .int .i64 0, .int .u64 ((rdL calls_1 x_25).Reply.Num), .int .u64 ((rdL calls_1 x_25).Reply.Extra)]⟩, ⟨45, b_40, [.int .u64 ((rdL calls_1 x_25).Id), .int .u64 ((rdL calls_1 x_25).Seq)]⟩]) (ps := []) (by kernel_rfl) trivial ?_
    refine GoO.regionEnd ?_
    exact GoO.ret' (h := c3_73e) (hs := []) (ps := []) (hk := []) (bk := []) Try.func3 () (by kernel_rfl) trivial (by kernel_rfl) (by kernel_rfl)
  · refine GoO.skip' c3_74e ?_
    refine GoO.draw c3_75e (by kernel_rfl) [10] [⟨44, b_28, [.int .i64 ((rdL calls_1 x_25).Kind), .int .u64 ((rdL calls_1 x_25).Id), .int .u64 ((rdL calls_1 x_25).Seq), .int .i64 0, .int .u64 ((rdL calls_1 x_25).Reply.Num), .int .u64 ((rdL calls_1 x_25).Reply.Extra)]⟩, ⟨45, b_40, [.int .u64 ((rdL calls_1 x_25).Id), .int .u64 ((rdL calls_1 x_25).Seq)]⟩] [] (n := 11) (by kernel_rfl) ?_
    simp only [List.replicate]
    refine GoF.take [0, 1, 2, 3, 4, 5, 6, 7, 8] [.p, .b 1, .p, .p, .b 0, .p, .b 0, .p, .b 0] (ks := [3, 4, 5, 18, 19, 20, 93, 94, 95, 97, 99, 101]) (fu := 2) (li := [true, true, true, true, true, true, true, true, true, false, false]) (env' := [(3, .pointer (some ⟨b_7, 0, none⟩)), (4, .map (mA A_20)), (5, .map (mA A_23)), (18, .slice A_2 calls_1.length c_3), (19, .int .i64 (calls_1.length : Int)), (20, .int .i64 x_25), (93, .map (mA A_20)), (94, .agg ⟨[.int .u64 ((rdL calls_1 x_25).Id), .int .u64 ((rdL calls_1 x_25).Seq)]⟩), (95, .map (mA A_23)), (97, .int .u64 ((rdL calls_1 x_25).Id)), (99, .agg ⟨[.int .i64 0, .int .u64 ((rdL calls_1 x_25).Reply.Num), .int .u64 ((rdL calls_1 x_25).Reply.Extra)]⟩), (101, .int .u64 ((rdL calls_1 x_25).Seq))]) (ps := [b_40 = b_40, b_28 = b_28, b_28 = b_28, b_28 = b_28]) (hk := [1, 2]) (bk := []) (by kernel_rfl) (And.intro rfl (And.intro rfl (And.intro rfl (And.intro rfl trivial)))) rfl rfl ?_
    refine OpTo.goF (i := 9) (by kernel_rfl) (hk := [1, 2]) (bk := []) (GoO.mapUp (vt := 31) (K := ky26) (ev := (fun v : T_api_Reply => .agg ⟨[.int .i64 v.Err, .int .u64 v.Num, .int .u64 v.Extra]⟩)) (A := A_20) (c := c_21) (tg := 42) (l := done_19) (key := (⟨(rdL calls_1 x_25).Id, (rdL calls_1 x_25).Seq⟩ : T_tontinelaw15_one)) (v := (⟨0, (rdL calls_1 x_25).Reply.Num, (rdL calls_1 x_25).Reply.Extra⟩ : T_api_Reply)) (j := 1) rfl (by kernel_rfl) (by kernel_rfl) (by kernel_rfl) (by kernel_rfl) rfl (by kernel_rfl) (by kernel_rfl) (by kernel_rfl) rfl ⟨rfl, rfl, ?_⟩)
    refine OpTo.goE (i := 10) (by kernel_rfl) rfl (GoO.mapUp (vt := 28) (K := ky27) (ev := (fun v => .int .u64 v)) (A := A_23) (c := c_24) (tg := 43) (l := last_22) (key := (rdL calls_1 x_25).Id) (v := (rdL calls_1 x_25).Seq) (j := 2) rfl (by kernel_rfl) (by kernel_rfl) (by kernel_rfl) (by kernel_rfl) rfl (by kernel_rfl) (by kernel_rfl) (by kernel_rfl) rfl ?_)
    refine GoF.done (by kernel_rfl) ?_
    refine GoO.inBlock ?_
    refine GoO.inBlock ?_
    refine GoO.region' (is := [0, 1]) c3_77e (by kernel_rfl) ?_
    refine GoO.exec (is := [0, 1]) (hs := [.p, .p]) (rest := []) (ks := [3, 4, 5, 18, 19, 20]) (env' := [(3, .pointer (some ⟨b_7, 0, none⟩)), (4, .map (mA A_20)), (5, .map (mA A_23)), (18, .slice A_2 calls_1.length c_3), (19, .int .i64 (calls_1.length : Int)), (20, .int .i64 (wi64 (x_25 + 1)))]) (H' := [⟨40, b_7, [.int .u64 r_56.2.now, .int .u64 r_56.2.next, .slice A_57 r_56.2.rows.length c_58]⟩, ⟨44, b_28, [.int .i64 ((rdL calls_1 x_25).Kind), .int .u64 ((rdL calls_1 x_25).Id), .int .u64 ((rdL calls_1 x_25).Seq), .int .i64 0, .int .u64 ((rdL calls_1 x_25).Reply.Num), .int .u64 ((rdL calls_1 x_25).Reply.Extra)]⟩, ⟨45, b_40, [.int .u64 ((rdL calls_1 x_25).Id), .int .u64 ((rdL calls_1 x_25).Seq)]⟩]) (ps := []) (by kernel_rfl) trivial ?_
    refine GoO.regionEnd ?_
    refine GoO.inLoop ?_
    exact GoO.sub (ks := [3, 4, 5, 18, 19, 20]) (hk := [0]) (bk := [0, 1, 2, 3]) (by kernel_rfl) (by kernel_rfl) (by kernel_rfl) (ih0 r_56.2.now r_56.2.next r_56.2.rows (putA (⟨(rdL calls_1 x_25).Id, (rdL calls_1 x_25).Seq⟩ : T_tontinelaw15_one) (⟨0, (rdL calls_1 x_25).Reply.Num, (rdL calls_1 x_25).Reply.Extra⟩ : T_api_Reply) done_19) (putA ((rdL calls_1 x_25).Id) ((rdL calls_1 x_25).Seq) last_22) (wi64 (x_25 + 1)) A_57 c_58 A_20 c_21 A_23 c_24)
theorem tontinelaw15_SessionOnce_j0_ok (n : Nat) (L0 : Int → Int → (List T_session_Row) → (List (T_tontinelaw15_one × T_api_Reply)) → (List (Int × Int)) → Int → Option Bool) (calls_1 : (List T_tontinelaw15_Call)) (f_14 : Int) (f_15 : Int) (f_16 : (List T_session_Row)) (done_19 : (List (T_tontinelaw15_one × T_api_Reply))) (last_22 : (List (Int × Int))) (x_25 : Int) (r_41 : T_api_Reply × Bool × T_session_Table) (A_2 : Option Addr) (c_3 : Nat) (b_7 : Nat) (A_17 : Option Addr) (c_18 : Nat) (A_20 : Option Addr) (c_21 : Nat) (A_23 : Option Addr) (c_24 : Nat) (b_28 : Nat) (b_40 : Nat) (A_42 : Option Addr) (c_43 : Nat) (w0 : World) (S0 : Fam) (ih0 : ∀ (f_14 : Int) (f_15 : Int) (f_16 : (List T_session_Row)) (done_19 : (List (T_tontinelaw15_one × T_api_Reply))) (last_22 : (List (Int × Int))) (x_25 : Int) (A_17 : Option Addr) (c_18 : Nat) (A_20 : Option Addr) (c_21 : Nat) (A_23 : Option Addr) (c_24 : Nat), GoO (tontinelaw15_SessionOnce.cx A_2 c_3 w0 S0) [(3, .pointer (some ⟨b_7, 0, none⟩)), (4, .map (mA A_20)), (5, .map (mA A_23)), (18, .slice A_2 calls_1.length c_3), (19, .int .i64 (calls_1.length : Int)), (20, .int .i64 x_25)] [⟨40, b_7, [.int .u64 f_14, .int .u64 f_15, .slice A_17 f_16.length c_18]⟩] [Ow 41 kT_session_Row A_17 c_18 f_16, Mp 42 ky26 (fun v : T_api_Reply => .agg ⟨[.int .i64 v.Err, .int .u64 v.Num, .int .u64 v.Extra]⟩) A_20 c_21 done_19, Mp 43 ky27 (fun v => .int .u64 v) A_23 c_24 last_22, Rd 0 kT_tontinelaw15_Call A_2 c_3 calls_1] [.code c3_21, .inLoop c3_21, .inBlock 0, .code c3_78] (L0 f_14 f_15 f_16 done_19 last_22 x_25)) (b_53 : Bool) :
    GoO (tontinelaw15_SessionOnce.cx A_2 c_3 w0 S0) [(3, .pointer (some ⟨b_7, 0, none⟩)), (4, .map (mA A_20)), (5, .map (mA A_23)), (7, .pointer (some ⟨b_28, 0, none⟩)), (8, .pointer (some ⟨b_40, 0, none⟩)), (10, .bool r_41.2.1), (18, .slice A_2 calls_1.length c_3), (19, .int .i64 (calls_1.length : Int)), (20, .int .i64 x_25), (70, .bool b_53)] [⟨40, b_7, [.int .u64 r_41.2.2.now, .int .u64 r_41.2.2.next, .slice A_42 r_41.2.2.rows.length c_43]⟩, ⟨44, b_28, [.int .i64 ((rdL calls_1 x_25).Kind), .int .u64 ((rdL calls_1 x_25).Id), .int .u64 ((rdL calls_1 x_25).Seq), .int .i64 ((rdL calls_1 x_25).Reply.Err), .int .u64 ((rdL calls_1 x_25).Reply.Num), .int .u64 ((rdL calls_1 x_25).Reply.Extra)]⟩, ⟨45, b_40, [.int .u64 ((rdL calls_1 x_25).Id), .int .u64 ((rdL calls_1 x_25).Seq)]⟩] [Ow 41 kT_session_Row A_42 c_43 r_41.2.2.rows, Mp 42 ky26 (fun v : T_api_Reply => .agg ⟨[.int .i64 v.Err, .int .u64 v.Num, .int .u64 v.Extra]⟩) A_20 c_21 done_19, Mp 43 ky27 (fun v => .int .u64 v) A_23 c_24 last_22, Rd 0 kT_tontinelaw15_Call A_2 c_3 calls_1] [.code c3_57, .code c3_62, .inBlock 2, .inBlock 1, .code c3_77, .inLoop c3_21, .inBlock 0, .code c3_78] (tontinelaw15_SessionOnce.j0 n L0 calls_1 done_19 last_22 x_25 r_41 b_53) := by
  unfold tontinelaw15_SessionOnce.j0
  refine GoO.ite' c3_57e (by kernel_rfl) (fun h54 => ?_) (fun h54 => ?_)
  · refine GoO.seq' c3_58e ?_
    refine GoO.region' (is := [0]) c3_59e (by kernel_rfl) ?_
    refine GoO.exec (is := [0]) (hs := [.p]) (rest := []) (ks := [2]) (env' := [(2, .bool false)]) (H' := [⟨40, b_7, [.int .u64 r_41.2.2.now, .int .u64 r_41.2.2.next, .slice A_42 r_41.2.2.rows.length c_43]⟩, ⟨44, b_28, [.int .i64 ((rdL calls_1 x_25).Kind), .int .u64 ((rdL calls_1 x_25).Id), .int .u64 ((rdL calls_1 x_25).Seq), .int .i64 ((rdL calls_1 x_25).Reply.Err), .int .u64 ((rdL calls_1 x_25).Reply.Num), .int .u64 ((rdL calls_1 x_25).Reply.Extra)]⟩, ⟨45, b_40, [.int .u64 ((rdL calls_1 x_25).Id), .int .u64 ((rdL calls_1 x_25).Seq)]⟩]) (ps := []) (by kernel_rfl) trivial ?_
    refine GoO.regionEnd ?_
    exact GoO.ret' (h := c3_60e) (hs := []) (ps := []) (hk := []) (bk := []) Try.func3 () (by kernel_rfl) trivial (by kernel_rfl) (by kernel_rfl)
  · refine GoO.skip' c3_61e ?_
    refine GoO.seq' c3_62e ?_
    refine GoO.region' (is := [0]) c3_63e (by kernel_rfl) ?_
    refine GoO.exec (is := [0]) (hs := [.p]) (rest := []) (ks := [3, 4, 5, 7, 8, 18, 19, 20, 71]) (env' := [(3, .pointer (some ⟨b_7, 0, none⟩)), (4, .map (mA A_20)), (5, .map (mA A_23)), (7, .pointer (some ⟨b_28, 0, none⟩)), (8, .pointer (some ⟨b_40, 0, none⟩)), (18, .slice A_2 calls_1.length c_3), (19, .int .i64 (calls_1.length : Int)), (20, .int .i64 x_25), (71, .bool r_41.2.1)]) (H' := [⟨40, b_7, [.int .u64 r_41.2.2.now, .int .u64 r_41.2.2.next, .slice A_42 r_41.2.2.rows.length c_43]⟩, ⟨44, b_28, [.int .i64 ((rdL calls_1 x_25).Kind), .int .u64 ((rdL calls_1 x_25).Id), .int .u64 ((rdL calls_1 x_25).Seq), .int .i64 ((rdL calls_1 x_25).Reply.Err), .int .u64 ((rdL calls_1 x_25).Reply.Num), .int .u64 ((rdL calls_1 x_25).Reply.Extra)]⟩, ⟨45, b_40, [.int .u64 ((rdL calls_1 x_25).Id), .int .u64 ((rdL calls_1 x_25).Seq)]⟩]) (ps := []) (by kernel_rfl) trivial ?_
    refine GoO.regionEnd ?_
    refine GoO.ite' c3_64e (by kernel_rfl) (fun h55 => ?_) (fun h55 => ?_)
    · refine GoO.seq' c3_65e ?_
      refine GoO.region' (is := [0, 1, 2]) c3_66e (by kernel_rfl) ?_
      refine GoO.exec (is := [0, 1, 2]) (hs := [.p, .p, .b 1]) (rest := []) (ks := [3, 4, 5, 7, 8, 18, 19, 20]) (env' := [(3, .pointer (some ⟨b_7, 0, none⟩)), (4, .map (mA A_20)), (5, .map (mA A_23)), (7, .pointer (some ⟨b_28, 0, none⟩)), (8, .pointer (some ⟨b_40, 0, none⟩)), (18, .slice A_2 calls_1.length c_3), (19, .int .i64 (calls_1.length : Int)), (20, .int .i64 x_25)]) (H' := [⟨40, b_7, [.int .u64 r_41.2.2.now, .int .u64 r_41.2.2.next, .slice A_42 r_41.2.2.rows.length c_43]⟩, ⟨44, b_28, [.int .i64 ((rdL calls_1 x_25).Kind), .int .u64 ((rdL calls_1 x_25).Id), .int .u64 ((rdL calls_1 x_25).Seq), .int .i64 0, .int .u64 ((rdL calls_1 x_25).Reply.Num), .int .u64 ((rdL calls_1 x_25).Reply.Extra)]⟩, ⟨45, b_40, [.int .u64 ((rdL calls_1 x_25).Id), .int .u64 ((rdL calls_1 x_25).Seq)]⟩]) (ps := [b_28 = b_28]) (by kernel_rfl) (And.intro rfl trivial) ?_
      refine GoO.regionEnd ?_
      refine GoO.seq' c3_67e ?_
      refine GoO.seq' c3_68e ?_
      refine GoO.region' (is := [0, 1, 2, 3, 4, 5, 6, 7, 8, 9, 10, 11, 12, 13, 14, 15, 16, 17, 18]) c3_69e (by kernel_rfl) ?_
      refine GoO.exec (is := [0, 1, 2, 3, 4, 5, 6]) (hs := [.p, .p, .b 1, .p, .b 1, .p, .b 1]) (rest := [7, 8, 9, 10, 11, 12, 13, 14, 15, 16, 17, 18]) (ks := [3, 4, 5, 7, 8, 18, 19, 20, 74, 76, 78, 80]) (env' := [(3, .pointer (some ⟨b_7, 0, none⟩)), (4, .map (mA A_20)), (5, .map (mA A_23)), (7, .pointer (some ⟨b_28, 0, none⟩)), (8, .pointer (some ⟨b_40, 0, none⟩)), (18, .slice A_2 calls_1.length c_3), (19, .int .i64 (calls_1.length : Int)), (20, .int .i64 x_25), (74, .pointer (some ⟨b_7, 0, none⟩)), (76, .int .u64 ((rdL calls_1 x_25).Id)), (78, .int .u64 ((rdL calls_1 x_25).Seq)), (80, .agg ⟨[.int .i64 0, .int .u64 ((rdL calls_1 x_25).Reply.Num), .int .u64 ((rdL calls_1 x_25).Reply.Extra)]⟩)]) (H' := [⟨40, b_7, [.int .u64 r_41.2.2.now, .int .u64 r_41.2.2.next, .slice A_42 r_41.2.2.rows.length c_43]⟩, ⟨44, b_28, [.int .i64 ((rdL calls_1 x_25).Kind), .int .u64 ((rdL calls_1 x_25).Id), .int .u64 ((rdL calls_1 x_25).Seq), .int .i64 0, .int .u64 ((rdL calls_1 x_25).Reply.Num), .int .u64 ((rdL calls_1 x_25).Reply.Extra)]⟩, ⟨45, b_40, [.int .u64 ((rdL calls_1 x_25).Id), .int .u64 ((rdL calls_1 x_25).Seq)]⟩]) (ps := [b_28 = b_28, b_28 = b_28, b_28 = b_28]) (by kernel_rfl) (And.intro rfl (And.intro rfl (And.intro rfl trivial))) ?_
      refine OpTo.go (GoO.call rfl (by kernel_rfl) (by kernel_rfl) (session_Table_End_ok n r_41.2.2 ((rdL calls_1 x_25).Id) ((rdL calls_1 x_25).Seq) (⟨0, (rdL calls_1 x_25).Reply.Num, (rdL calls_1 x_25).Reply.Extra⟩ : T_api_Reply) b_7 A_42 c_43) [[0], [40], [41]] [(40, 1), (41, 2)] [(1, 0)] [(2, 0)] (hks := [1, 2]) (bks := [1, 2, 3]) (by kernel_rfl) (by kernel_rfl) (by kernel_rfl) (.inl rfl) rfl rfl (by kernel_rfl) (by kernel_rfl) _ (fun _ _ => rfl) _ _ (fun _ _ => rfl) (fun _ _ => rfl) (fun _ _ => by kernel_rfl) (fun _ _ => by kernel_rfl) (fun r_56 x_60 => ?_))
      obtain ⟨A_57, c_58⟩ := x_60
      refine GoO.shape (env' := [(3, .pointer (some ⟨b_7, 0, none⟩)), (4, .map (mA A_20)), (5, .map (mA A_23)), (7, .pointer (some ⟨b_28, 0, none⟩)), (8, .pointer (some ⟨b_40, 0, none⟩)), (18, .slice A_2 calls_1.length c_3), (19, .int .i64 (calls_1.length : Int)), (20, .int .i64 x_25), (74, .pointer (some ⟨b_7, 0, none⟩)), (76, .int .u64 ((rdL calls_1 x_25).Id)), (78, .int .u64 ((rdL calls_1 x_25).Seq)), (80, .agg ⟨[.int .i64 0, .int .u64 ((rdL calls_1 x_25).Reply.Num), .int .u64 ((rdL calls_1 x_25).Reply.Extra)]⟩), (81, .bool r_56.1)]) (H' := [⟨40, b_7, [.int .u64 r_56.2.now, .int .u64 r_56.2.next, .slice A_57 r_56.2.rows.length c_58]⟩, ⟨44, b_28, [.int .i64 ((rdL calls_1 x_25).Kind), .int .u64 ((rdL calls_1 x_25).Id), .int .u64 ((rdL calls_1 x_25).Seq), .int .i64 0, .int .u64 ((rdL calls_1 x_25).Reply.Num), .int .u64 ((rdL calls_1 x_25).Reply.Extra)]⟩, ⟨45, b_40, [.int .u64 ((rdL calls_1 x_25).Id), .int .u64 ((rdL calls_1 x_25).Seq)]⟩]) (B' := [Ow 41 kT_session_Row A_57 c_58 r_56.2.rows, Mp 42 ky26 (fun v : T_api_Reply => .agg ⟨[.int .i64 v.Err, .int .u64 v.Num, .int .u64 v.Extra]⟩) A_20 c_21 done_19, Mp 43 ky27 (fun v => .int .u64 v) A_23 c_24 last_22, Rd 0 kT_tontinelaw15_Call A_2 c_3 calls_1]) (ks := [3, 4, 5, 7, 8, 18, 19, 20, 74, 76, 78, 80, 81]) (by kernel_rfl) (by kernel_rfl) (by kernel_rfl) ?_
      refine GoO.exec (is := [8, 9]) (hs := [.p, .p]) (rest := [10, 11, 12, 13, 14, 15, 16, 17, 18]) (ks := [3, 4, 5, 7, 8, 18, 19, 20, 83]) (env' := [(3, .pointer (some ⟨b_7, 0, none⟩)), (4, .map (mA A_20)), (5, .map (mA A_23)), (7, .pointer (some ⟨b_28, 0, none⟩)), (8, .pointer (some ⟨b_40, 0, none⟩)), (18, .slice A_2 calls_1.length c_3), (19, .int .i64 (calls_1.length : Int)), (20, .int .i64 x_25), (83, .bool (!r_56.1))]) (H' := [⟨40, b_7, [.int .u64 r_56.2.now, .int .u64 r_56.2.next, .slice A_57 r_56.2.rows.length c_58]⟩, ⟨44, b_28, [.int .i64 ((rdL calls_1 x_25).Kind), .int .u64 ((rdL calls_1 x_25).Id), .int .u64 ((rdL calls_1 x_25).Seq), .int .i64 0, .int .u64 ((rdL calls_1 x_25).Reply.Num), .int .u64 ((rdL calls_1 x_25).Reply.Extra)]⟩, ⟨45, b_40, [.int .u64 ((rdL calls_1 x_25).Id), .int .u64 ((rdL calls_1 x_25).Seq)]⟩]) (ps := []) (by kernel_rfl) trivial ?_
      refine GoO.bsplit (t := 83) (by kernel_rfl) (fun h59 => ?_) (fun h59 => ?_)
      · refine GoO.exec (is := [10, 11, 12, 13, 14, 15, 16, 17, 18]) (hs := [.p, .p, .p, .p, .p, .p, .p, .p, .p]) (rest := []) (ks := [3, 4, 5, 7, 8, 18, 19, 20, 92]) (env' := [(3, .pointer (some ⟨b_7, 0, none⟩)), (4, .map (mA A_20)), (5, .map (mA A_23)), (7, .pointer (some ⟨b_28, 0, none⟩)), (8, .pointer (some ⟨b_40, 0, none⟩)), (18, .slice A_2 calls_1.length c_3), (19, .int .i64 (calls_1.length : Int)), (20, .int .i64 x_25), (92, .bool true)]) (H' := [⟨40, b_7, [.int .u64 r_56.2.now, .int .u64 r_56.2.next, .slice A_57 r_56.2.rows.length c_58]⟩, ⟨44, b_28, [.int .i64 ((rdL calls_1 x_25).Kind), .int .u64 ((rdL calls_1 x_25).Id), .int .u64 ((rdL calls_1 x_25).Seq), .int .i64 0, .int .u64 ((rdL calls_1 x_25).Reply.Num), .int .u64 ((rdL calls_1 x_25).Reply.Extra)]⟩, ⟨45, b_40, [.int .u64 ((rdL calls_1 x_25).Id), .int .u64 ((rdL calls_1 x_25).Seq)]⟩]) (ps := []) (by kernel_rfl) trivial ?_
        refine GoO.regionEnd ?_
        exact GoO.sub (ks := [3, 4, 5, 7, 8, 18, 19, 20, 92]) (hk := [0, 1, 2]) (bk := [0, 1, 2, 3]) (by kernel_rfl) (by kernel_rfl) (by kernel_rfl) (tontinelaw15_SessionOnce_j1_ok n L0 calls_1 f_14 f_15 f_16 done_19 last_22 x_25 r_56 A_2 c_3 b_7 A_17 c_18 A_20 c_21 A_23 c_24 b_28 b_40 A_57 c_58 w0 S0 ih0 true)
      · refine GoO.exec (is := [10, 11, 12]) (hs := [.p, .p, .b 1]) (rest := [13, 14, 15, 16, 17, 18]) (ks := [3, 4, 5, 7, 8, 18, 19, 20, 83, 84, 86]) (env' := [(3, .pointer (some ⟨b_7, 0, none⟩)), (4, .map (mA A_20)), (5, .map (mA A_23)), (7, .pointer (some ⟨b_28, 0, none⟩)), (8, .pointer (some ⟨b_40, 0, none⟩)), (18, .slice A_2 calls_1.length c_3), (19, .int .i64 (calls_1.length : Int)), (20, .int .i64 x_25), (83, .bool false), (84, .map (mA A_23)), (86, .int .u64 ((rdL calls_1 x_25).Id))]) (H' := [⟨40, b_7, [.int .u64 r_56.2.now, .int .u64 r_56.2.next, .slice A_57 r_56.2.rows.length c_58]⟩, ⟨44, b_28, [.int .i64 ((rdL calls_1 x_25).Kind), .int .u64 ((rdL calls_1 x_25).Id), .int .u64 ((rdL calls_1 x_25).Seq), .int .i64 0, .int .u64 ((rdL calls_1 x_25).Reply.Num), .int .u64 ((rdL calls_1 x_25).Reply.Extra)]⟩, ⟨45, b_40, [.int .u64 ((rdL calls_1 x_25).Id), .int .u64 ((rdL calls_1 x_25).Seq)]⟩]) (ps := [b_28 = b_28]) (by kernel_rfl) (And.intro rfl trivial) ?_
        refine OpTo.go (GoO.mapLk (vt := 28) (K := ky27) (ev := (fun v => .int .u64 v)) (A := A_23) (c := c_24) (l := last_22) (key := (rdL calls_1 x_25).Id) (j := 2) rfl (by kernel_rfl) (by kernel_rfl) (by kernel_rfl) rfl 0 (fun _ => by kernel_rfl) rfl ?_)
        refine GoO.exec (is := [14, 15, 16, 17, 18]) (hs := [.p, .p, .b 1, .p, .p]) (rest := []) (ks := [3, 4, 5, 7, 8, 18, 19, 20, 92]) (env' := [(3, .pointer (some ⟨b_7, 0, none⟩)), (4, .map (mA A_20)), (5, .map (mA A_23)), (7, .pointer (some ⟨b_28, 0, none⟩)), (8, .pointer (some ⟨b_40, 0, none⟩)), (18, .slice A_2 calls_1.length c_3), (19, .int .i64 (calls_1.length : Int)), (20, .int .i64 x_25), (92, .bool ((wu64 (((getA ((rdL calls_1 x_25).Id) last_22).getD 0) + 1)) != ((rdL calls_1 x_25).Seq)))]) (H' := [⟨40, b_7, [.int .u64 r_56.2.now, .int .u64 r_56.2.next, .slice A_57 r_56.2.rows.length c_58]⟩, ⟨44, b_28, [.int .i64 ((rdL calls_1 x_25).Kind), .int .u64 ((rdL calls_1 x_25).Id), .int .u64 ((rdL calls_1 x_25).Seq), .int .i64 0, .int .u64 ((rdL calls_1 x_25).Reply.Num), .int .u64 ((rdL calls_1 x_25).Reply.Extra)]⟩, ⟨45, b_40, [.int .u64 ((rdL calls_1 x_25).Id), .int .u64 ((rdL calls_1 x_25).Seq)]⟩]) (ps := [b_28 = b_28]) (by kernel_rfl) (And.intro rfl trivial) ?_
        refine GoO.regionEnd ?_
        exact GoO.sub (ks := [3, 4, 5, 7, 8, 18, 19, 20, 92]) (hk := [0, 1, 2]) (bk := [0, 1, 2, 3]) (by kernel_rfl) (by kernel_rfl) (by kernel_rfl) (tontinelaw15_SessionOnce_j1_ok n L0 calls_1 f_14 f_15 f_16 done_19 last_22 x_25 r_56 A_2 c_3 b_7 A_17 c_18 A_20 c_21 A_23 c_24 b_28 b_40 A_57 c_58 w0 S0 ih0 ((wu64 (((getA ((rdL calls_1 x_25).Id) last_22).getD 0) + 1)) != ((rdL calls_1 x_25).Seq)))
    · refine GoO.skip' c3_76e ?_
      refine GoO.inBlock ?_
      refine GoO.inBlock ?_
      refine GoO.region' (is := [0, 1]) c3_77e (by kernel_rfl) ?_
      refine GoO.exec (is := [0, 1]) (hs := [.p, .p]) (rest := []) (ks := [3, 4, 5, 18, 19, 20]) (env' := [(3, .pointer (some ⟨b_7, 0, none⟩)), (4, .map (mA A_20)), (5, .map (mA A_23)), (18, .slice A_2 calls_1.length c_3), (19, .int .i64 (calls_1.length : Int)), (20, .int .i64 (wi64 (x_25 + 1)))]) (H' := [⟨40, b_7, [.int .u64 r_41.2.2.now, .int .u64 r_41.2.2.next, .slice A_42 r_41.2.2.rows.length c_43]⟩, ⟨44, b_28, [.int .i64 ((rdL calls_1 x_25).Kind), .int .u64 ((rdL calls_1 x_25).Id), .int .u64 ((rdL calls_1 x_25).Seq), .int .i64 ((rdL calls_1 x_25).Reply.Err), .int .u64 ((rdL calls_1 x_25).Reply.Num), .int .u64 ((rdL calls_1 x_25).Reply.Extra)]⟩, ⟨45, b_40, [.int .u64 ((rdL calls_1 x_25).Id), .int .u64 ((rdL calls_1 x_25).Seq)]⟩]) (ps := []) (by kernel_rfl) trivial ?_
      refine GoO.regionEnd ?_
      refine GoO.inLoop ?_
      exact GoO.sub (ks := [3, 4, 5, 18, 19, 20]) (hk := [0]) (bk := [0, 1, 2, 3]) (by kernel_rfl) (by kernel_rfl) (by kernel_rfl) (ih0 r_41.2.2.now r_41.2.2.next r_41.2.2.rows done_19 last_22 (wi64 (x_25 + 1)) A_42 c_43 A_20 c_21 A_23 c_24)
theorem tontinelaw15_SessionOnce_j3_ok (n : Nat) (L0 : Int → Int → (List T_session_Row) → (List (T_tontinelaw15_one × T_api_Reply)) → (List (Int × Int)) → Int → Option Bool) (calls_1 : (List T_tontinelaw15_Call)) (f_14 : Int) (f_15 : Int) (f_16 : (List T_session_Row)) (done_19 : (List (T_tontinelaw15_one × T_api_Reply))) (last_22 : (List (Int × Int))) (x_25 : Int) (r_41 : T_api_Reply × Bool × T_session_Table) (A_2 : Option Addr) (c_3 : Nat) (b_7 : Nat) (A_17 : Option Addr) (c_18 : Nat) (A_20 : Option Addr) (c_21 : Nat) (A_23 : Option Addr) (c_24 : Nat) (b_28 : Nat) (b_40 : Nat) (A_42 : Option Addr) (c_43 : Nat) (b_44 : Nat) (b_45 : Nat) (w0 : World) (S0 : Fam) (ih0 : ∀ (f_14 : Int) (f_15 : Int) (f_16 : (List T_session_Row)) (done_19 : (List (T_tontinelaw15_one × T_api_Reply))) (last_22 : (List (Int × Int))) (x_25 : Int) (A_17 : Option Addr) (c_18 : Nat) (A_20 : Option Addr) (c_21 : Nat) (A_23 : Option Addr) (c_24 : Nat), GoO (tontinelaw15_SessionOnce.cx A_2 c_3 w0 S0) [(3, .pointer (some ⟨b_7, 0, none⟩)), (4, .map (mA A_20)), (5, .map (mA A_23)), (18, .slice A_2 calls_1.length c_3), (19, .int .i64 (calls_1.length : Int)), (20, .int .i64 x_25)] [⟨40, b_7, [.int .u64 f_14, .int .u64 f_15, .slice A_17 f_16.length c_18]⟩] [Ow 41 kT_session_Row A_17 c_18 f_16, Mp 42 ky26 (fun v : T_api_Reply => .agg ⟨[.int .i64 v.Err, .int .u64 v.Num, .int .u64 v.Extra]⟩) A_20 c_21 done_19, Mp 43 ky27 (fun v => .int .u64 v) A_23 c_24 last_22, Rd 0 kT_tontinelaw15_Call A_2 c_3 calls_1] [.code c3_21, .inLoop c3_21, .inBlock 0, .code c3_78] (L0 f_14 f_15 f_16 done_19 last_22 x_25)) (b_50 : Bool) :
    GoO (tontinelaw15_SessionOnce.cx A_2 c_3 w0 S0) [(3, .pointer (some ⟨b_7, 0, none⟩)), (4, .map (mA A_20)), (5, .map (mA A_23)), (7, .pointer (some ⟨b_28, 0, none⟩)), (8, .pointer (some ⟨b_40, 0, none⟩)), (9, .pointer (some ⟨b_44, 0, none⟩)), (10, .bool r_41.2.1), (11, .pointer (some ⟨b_45, 0, none⟩)), (12, .bool ((getA (⟨(rdL calls_1 x_25).Id, (rdL calls_1 x_25).Seq⟩ : T_tontinelaw15_one) done_19).isSome)), (18, .slice A_2 calls_1.length c_3), (19, .int .i64 (calls_1.length : Int)), (20, .int .i64 x_25), (53, .bool false), (60, .bool b_50)] [⟨40, b_7, [.int .u64 r_41.2.2.now, .int .u64 r_41.2.2.next, .slice A_42 r_41.2.2.rows.length c_43]⟩, ⟨44, b_28, [.int .i64 ((rdL calls_1 x_25).Kind), .int .u64 ((rdL calls_1 x_25).Id), .int .u64 ((rdL calls_1 x_25).Seq), .int .i64 ((rdL calls_1 x_25).Reply.Err), .int .u64 ((rdL calls_1 x_25).Reply.Num), .int .u64 ((rdL calls_1 x_25).Reply.Extra)]⟩, ⟨45, b_40, [.int .u64 ((rdL calls_1 x_25).Id), .int .u64 ((rdL calls_1 x_25).Seq)]⟩, ⟨46, b_44, [.int .i64 r_41.1.Err, .int .u64 r_41.1.Num, .int .u64 r_41.1.Extra]⟩, ⟨47, b_45, [.int .i64 (((getA (⟨(rdL calls_1 x_25).Id, (rdL calls_1 x_25).Seq⟩ : T_tontinelaw15_one) done_19).getD (⟨0, 0, 0⟩ : T_api_Reply)).Err), .int .u64 (((getA (⟨(rdL calls_1 x_25).Id, (rdL calls_1 x_25).Seq⟩ : T_tontinelaw15_one) done_19).getD (⟨0, 0, 0⟩ : T_api_Reply)).Num), .int .u64 (((getA (⟨(rdL calls_1 x_25).Id, (rdL calls_1 x_25).Seq⟩ : T_tontinelaw15_one) done_19).getD (⟨0, 0, 0⟩ : T_api_Reply)).Extra)]⟩] [Ow 41 kT_session_Row A_42 c_43 r_41.2.2.rows, Mp 42 ky26 (fun v : T_api_Reply => .agg ⟨[.int .i64 v.Err, .int .u64 v.Num, .int .u64 v.Extra]⟩) A_20 c_21 done_19, Mp 43 ky27 (fun v => .int .u64 v) A_23 c_24 last_22, Rd 0 kT_tontinelaw15_Call A_2 c_3 calls_1] [.inRegion r3_56 [12, 13, 14, 15, 16, 17, 18, 19, 20, 21], .code c3_57, .code c3_62, .inBlock 2, .inBlock 1, .code c3_77, .inLoop c3_21, .inBlock 0, .code c3_78] (tontinelaw15_SessionOnce.j3 n L0 calls_1 done_19 last_22 x_25 r_41 b_50) := by
  unfold tontinelaw15_SessionOnce.j3
  refine GoO.exec (is := [12]) (hs := [.p]) (rest := [13, 14, 15, 16, 17, 18, 19, 20, 21]) (ks := [3, 4, 5, 7, 8, 9, 10, 11, 12, 18, 19, 20, 53, 61]) (env' := [(3, .pointer (some ⟨b_7, 0, none⟩)), (4, .map (mA A_20)), (5, .map (mA A_23)), (7, .pointer (some ⟨b_28, 0, none⟩)), (8, .pointer (some ⟨b_40, 0, none⟩)), (9, .pointer (some ⟨b_44, 0, none⟩)), (10, .bool r_41.2.1), (11, .pointer (some ⟨b_45, 0, none⟩)), (12, .bool ((getA (⟨(rdL calls_1 x_25).Id, (rdL calls_1 x_25).Seq⟩ : T_tontinelaw15_one) done_19).isSome)), (18, .slice A_2 calls_1.length c_3), (19, .int .i64 (calls_1.length : Int)), (20, .int .i64 x_25), (53, .bool false), (61, .bool b_50)]) (H' := [⟨40, b_7, [.int .u64 r_41.2.2.now, .int .u64 r_41.2.2.next, .slice A_42 r_41.2.2.rows.length c_43]⟩, ⟨44, b_28, [.int .i64 ((rdL calls_1 x_25).Kind), .int .u64 ((rdL calls_1 x_25).Id), .int .u64 ((rdL calls_1 x_25).Seq), .int .i64 ((rdL calls_1 x_25).Reply.Err), .int .u64 ((rdL calls_1 x_25).Reply.Num), .int .u64 ((rdL calls_1 x_25).Reply.Extra)]⟩, ⟨45, b_40, [.int .u64 ((rdL calls_1 x_25).Id), .int .u64 ((rdL calls_1 x_25).Seq)]⟩, ⟨46, b_44, [.int .i64 r_41.1.Err, .int .u64 r_41.1.Num, .int .u64 r_41.1.Extra]⟩, ⟨47, b_45, [.int .i64 (((getA (⟨(rdL calls_1 x_25).Id, (rdL calls_1 x_25).Seq⟩ : T_tontinelaw15_one) done_19).getD (⟨0, 0, 0⟩ : T_api_Reply)).Err), .int .u64 (((getA (⟨(rdL calls_1 x_25).Id, (rdL calls_1 x_25).Seq⟩ : T_tontinelaw15_one) done_19).getD (⟨0, 0, 0⟩ : T_api_Reply)).Num), .int .u64 (((getA (⟨(rdL calls_1 x_25).Id, (rdL calls_1 x_25).Seq⟩ : T_tontinelaw15_one) done_19).getD (⟨0, 0, 0⟩ : T_api_Reply)).Extra)]⟩]) (ps := []) (by kernel_rfl) trivial ?_
  refine GoO.bsplit (t := 61) (by kernel_rfl) (fun h51 => ?_) (fun h51 => ?_)
  · refine GoO.exec (is := [13, 14, 15]) (hs := [.p, .p, .p]) (rest := [16, 17, 18, 19, 20, 21]) (ks := [3, 4, 5, 7, 8, 9, 10, 11, 18, 19, 20, 53, 61, 64]) (env' := [(3, .pointer (some ⟨b_7, 0, none⟩)), (4, .map (mA A_20)), (5, .map (mA A_23)), (7, .pointer (some ⟨b_28, 0, none⟩)), (8, .pointer (some ⟨b_40, 0, none⟩)), (9, .pointer (some ⟨b_44, 0, none⟩)), (10, .bool r_41.2.1), (11, .pointer (some ⟨b_45, 0, none⟩)), (18, .slice A_2 calls_1.length c_3), (19, .int .i64 (calls_1.length : Int)), (20, .int .i64 x_25), (53, .bool false), (61, .bool true), (64, .bool (!((getA (⟨(rdL calls_1 x_25).Id, (rdL calls_1 x_25).Seq⟩ : T_tontinelaw15_one) done_19).isSome)))]) (H' := [⟨40, b_7, [.int .u64 r_41.2.2.now, .int .u64 r_41.2.2.next, .slice A_42 r_41.2.2.rows.length c_43]⟩, ⟨44, b_28, [.int .i64 ((rdL calls_1 x_25).Kind), .int .u64 ((rdL calls_1 x_25).Id), .int .u64 ((rdL calls_1 x_25).Seq), .int .i64 ((rdL calls_1 x_25).Reply.Err), .int .u64 ((rdL calls_1 x_25).Reply.Num), .int .u64 ((rdL calls_1 x_25).Reply.Extra)]⟩, ⟨45, b_40, [.int .u64 ((rdL calls_1 x_25).Id), .int .u64 ((rdL calls_1 x_25).Seq)]⟩, ⟨46, b_44, [.int .i64 r_41.1.Err, .int .u64 r_41.1.Num, .int .u64 r_41.1.Extra]⟩, ⟨47, b_45, [.int .i64 (((getA (⟨(rdL calls_1 x_25).Id, (rdL calls_1 x_25).Seq⟩ : T_tontinelaw15_one) done_19).getD (⟨0, 0, 0⟩ : T_api_Reply)).Err), .int .u64 (((getA (⟨(rdL calls_1 x_25).Id, (rdL calls_1 x_25).Seq⟩ : T_tontinelaw15_one) done_19).getD (⟨0, 0, 0⟩ : T_api_Reply)).Num), .int .u64 (((getA (⟨(rdL calls_1 x_25).Id, (rdL calls_1 x_25).Seq⟩ : T_tontinelaw15_one) done_19).getD (⟨0, 0, 0⟩ : T_api_Reply)).Extra)]⟩]) (ps := []) (by kernel_rfl) trivial ?_
    refine GoO.bsplit (t := 64) (by kernel_rfl) (fun h52 => ?_) (fun h52 => ?_)
    · refine GoO.exec (is := [16, 17, 18, 19, 20, 21]) (hs := [.p, .p, .p, .p, .p, .p]) (rest := []) (ks := [3, 4, 5, 7, 8, 10, 18, 19, 20, 70]) (env' := [(3, .pointer (some ⟨b_7, 0, none⟩)), (4, .map (mA A_20)), (5, .map (mA A_23)), (7, .pointer (some ⟨b_28, 0, none⟩)), (8, .pointer (some ⟨b_40, 0, none⟩)), (10, .bool r_41.2.1), (18, .slice A_2 calls_1.length c_3), (19, .int .i64 (calls_1.length : Int)), (20, .int .i64 x_25), (70, .bool true)]) (H' := [⟨40, b_7, [.int .u64 r_41.2.2.now, .int .u64 r_41.2.2.next, .slice A_42 r_41.2.2.rows.length c_43]⟩, ⟨44, b_28, [.int .i64 ((rdL calls_1 x_25).Kind), .int .u64 ((rdL calls_1 x_25).Id), .int .u64 ((rdL calls_1 x_25).Seq), .int .i64 ((rdL calls_1 x_25).Reply.Err), .int .u64 ((rdL calls_1 x_25).Reply.Num), .int .u64 ((rdL calls_1 x_25).Reply.Extra)]⟩, ⟨45, b_40, [.int .u64 ((rdL calls_1 x_25).Id), .int .u64 ((rdL calls_1 x_25).Seq)]⟩, ⟨46, b_44, [.int .i64 r_41.1.Err, .int .u64 r_41.1.Num, .int .u64 r_41.1.Extra]⟩, ⟨47, b_45, [.int .i64 (((getA (⟨(rdL calls_1 x_25).Id, (rdL calls_1 x_25).Seq⟩ : T_tontinelaw15_one) done_19).getD (⟨0, 0, 0⟩ : T_api_Reply)).Err), .int .u64 (((getA (⟨(rdL calls_1 x_25).Id, (rdL calls_1 x_25).Seq⟩ : T_tontinelaw15_one) done_19).getD (⟨0, 0, 0⟩ : T_api_Reply)).Num), .int .u64 (((getA (⟨(rdL calls_1 x_25).Id, (rdL calls_1 x_25).Seq⟩ : T_tontinelaw15_one) done_19).getD (⟨0, 0, 0⟩ : T_api_Reply)).Extra)]⟩]) (ps := []) (by kernel_rfl) trivial ?_
      refine GoO.regionEnd ?_
      exact GoO.sub (ks := [3, 4, 5, 7, 8, 10, 18, 19, 20, 70]) (hk := [0, 1, 2]) (bk := [0, 1, 2, 3]) (by kernel_rfl) (by kernel_rfl) (by kernel_rfl) (tontinelaw15_SessionOnce_j0_ok n L0 calls_1 f_14 f_15 f_16 done_19 last_22 x_25 r_41 A_2 c_3 b_7 A_17 c_18 A_20 c_21 A_23 c_24 b_28 b_40 A_42 c_43 w0 S0 ih0 true)
    · refine GoO.exec (is := [16, 17, 18, 19, 20, 21]) (hs := [.b 3, .b 4, .p, .p, .p, .p]) (rest := []) (ks := [3, 4, 5, 7, 8, 10, 18, 19, 20, 70]) (env' := [(3, .pointer (some ⟨b_7, 0, none⟩)), (4, .map (mA A_20)), (5, .map (mA A_23)), (7, .pointer (some ⟨b_28, 0, none⟩)), (8, .pointer (some ⟨b_40, 0, none⟩)), (10, .bool r_41.2.1), (18, .slice A_2 calls_1.length c_3), (19, .int .i64 (calls_1.length : Int)), (20, .int .i64 x_25), (70, .bool (!((r_41.1.Err == (((getA (⟨(rdL calls_1 x_25).Id, (rdL calls_1 x_25).Seq⟩ : T_tontinelaw15_one) done_19).getD (⟨0, 0, 0⟩ : T_api_Reply)).Err)) && ((r_41.1.Num == (((getA (⟨(rdL calls_1 x_25).Id, (rdL calls_1 x_25).Seq⟩ : T_tontinelaw15_one) done_19).getD (⟨0, 0, 0⟩ : T_api_Reply)).Num)) && ((r_41.1.Extra == (((getA (⟨(rdL calls_1 x_25).Id, (rdL calls_1 x_25).Seq⟩ : T_tontinelaw15_one) done_19).getD (⟨0, 0, 0⟩ : T_api_Reply)).Extra)) && true)))))]) (H' := [⟨40, b_7, [.int .u64 r_41.2.2.now, .int .u64 r_41.2.2.next, .slice A_42 r_41.2.2.rows.length c_43]⟩, ⟨44, b_28, [.int .i64 ((rdL calls_1 x_25).Kind), .int .u64 ((rdL calls_1 x_25).Id), .int .u64 ((rdL calls_1 x_25).Seq), .int .i64 ((rdL calls_1 x_25).Reply.Err), .int .u64 ((rdL calls_1 x_25).Reply.Num), .int .u64 ((rdL calls_1 x_25).Reply.Extra)]⟩, ⟨45, b_40, [.int .u64 ((rdL calls_1 x_25).Id), .int .u64 ((rdL calls_1 x_25).Seq)]⟩, ⟨46, b_44, [.int .i64 r_41.1.Err, .int .u64 r_41.1.Num, .int .u64 r_41.1.Extra]⟩, ⟨47, b_45, [.int .i64 (((getA (⟨(rdL calls_1 x_25).Id, (rdL calls_1 x_25).Seq⟩ : T_tontinelaw15_one) done_19).getD (⟨0, 0, 0⟩ : T_api_Reply)).Err), .int .u64 (((getA (⟨(rdL calls_1 x_25).Id, (rdL calls_1 x_25).Seq⟩ : T_tontinelaw15_one) done_19).getD (⟨0, 0, 0⟩ : T_api_Reply)).Num), .int .u64 (((getA (⟨(rdL calls_1 x_25).Id, (rdL calls_1 x_25).Seq⟩ : T_tontinelaw15_one) done_19).getD (⟨0, 0, 0⟩ : T_api_Reply)).Extra)]⟩]) (ps := [b_44 = b_44, b_45 = b_45]) (by kernel_rfl) (And.intro rfl (And.intro rfl trivial)) ?_
      refine GoO.regionEnd ?_
      exact GoO.sub (ks := [3, 4, 5, 7, 8, 10, 18, 19, 20, 70]) (hk := [0, 1, 2]) (bk := [0, 1, 2, 3]) (by kernel_rfl) (by kernel_rfl) (by kernel_rfl) (tontinelaw15_SessionOnce_j0_ok n L0 calls_1 f_14 f_15 f_16 done_19 last_22 x_25 r_41 A_2 c_3 b_7 A_17 c_18 A_20 c_21 A_23 c_24 b_28 b_40 A_42 c_43 w0 S0 ih0 (!((r_41.1.Err == (((getA (⟨(rdL calls_1 x_25).Id, (rdL calls_1 x_25).Seq⟩ : T_tontinelaw15_one) done_19).getD (⟨0, 0, 0⟩ : T_api_Reply)).Err)) && ((r_41.1.Num == (((getA (⟨(rdL calls_1 x_25).Id, (rdL calls_1 x_25).Seq⟩ : T_tontinelaw15_one) done_19).getD (⟨0, 0, 0⟩ : T_api_Reply)).Num)) && ((r_41.1.Extra == (((getA (⟨(rdL calls_1 x_25).Id, (rdL calls_1 x_25).Seq⟩ : T_tontinelaw15_one) done_19).getD (⟨0, 0, 0⟩ : T_api_Reply)).Extra)) && true)))))
  · refine GoO.exec (is := [13, 14, 15, 16, 17, 18, 19, 20, 21]) (hs := [.p, .p, .p, .p, .p, .p, .p, .p, .p]) (rest := []) (ks := [3, 4, 5, 7, 8, 10, 18, 19, 20, 70]) (env' := [(3, .pointer (some ⟨b_7, 0, none⟩)), (4, .map (mA A_20)), (5, .map (mA A_23)), (7, .pointer (some ⟨b_28, 0, none⟩)), (8, .pointer (some ⟨b_40, 0, none⟩)), (10, .bool r_41.2.1), (18, .slice A_2 calls_1.length c_3), (19, .int .i64 (calls_1.length : Int)), (20, .int .i64 x_25), (70, .bool false)]) (H' := [⟨40, b_7, [.int .u64 r_41.2.2.now, .int .u64 r_41.2.2.next, .slice A_42 r_41.2.2.rows.length c_43]⟩, ⟨44, b_28, [.int .i64 ((rdL calls_1 x_25).Kind), .int .u64 ((rdL calls_1 x_25).Id), .int .u64 ((rdL calls_1 x_25).Seq), .int .i64 ((rdL calls_1 x_25).Reply.Err), .int .u64 ((rdL calls_1 x_25).Reply.Num), .int .u64 ((rdL calls_1 x_25).Reply.Extra)]⟩, ⟨45, b_40, [.int .u64 ((rdL calls_1 x_25).Id), .int .u64 ((rdL calls_1 x_25).Seq)]⟩, ⟨46, b_44, [.int .i64 r_41.1.Err, .int .u64 r_41.1.Num, .int .u64 r_41.1.Extra]⟩, ⟨47, b_45, [.int .i64 (((getA (⟨(rdL calls_1 x_25).Id, (rdL calls_1 x_25).Seq⟩ : T_tontinelaw15_one) done_19).getD (⟨0, 0, 0⟩ : T_api_Reply)).Err), .int .u64 (((getA (⟨(rdL calls_1 x_25).Id, (rdL calls_1 x_25).Seq⟩ : T_tontinelaw15_one) done_19).getD (⟨0, 0, 0⟩ : T_api_Reply)).Num), .int .u64 (((getA (⟨(rdL calls_1 x_25).Id, (rdL calls_1 x_25).Seq⟩ : T_tontinelaw15_one) done_19).getD (⟨0, 0, 0⟩ : T_api_Reply)).Extra)]⟩]) (ps := []) (by kernel_rfl) trivial ?_
    refine GoO.regionEnd ?_
    exact GoO.sub (ks := [3, 4, 5, 7, 8, 10, 18, 19, 20, 70]) (hk := [0, 1, 2]) (bk := [0, 1, 2, 3]) (by kernel_rfl) (by kernel_rfl) (by kernel_rfl) (tontinelaw15_SessionOnce_j0_ok n L0 calls_1 f_14 f_15 f_16 done_19 last_22 x_25 r_41 A_2 c_3 b_7 A_17 c_18 A_20 c_21 A_23 c_24 b_28 b_40 A_42 c_43 w0 S0 ih0 false)
theorem tontinelaw15_SessionOnce_j2_ok (n : Nat) (L0 : Int → Int → (List T_session_Row) → (List (T_tontinelaw15_one × T_api_Reply)) → (List (Int × Int)) → Int → Option Bool) (calls_1 : (List T_tontinelaw15_Call)) (f_14 : Int) (f_15 : Int) (f_16 : (List T_session_Row)) (done_19 : (List (T_tontinelaw15_one × T_api_Reply))) (last_22 : (List (Int × Int))) (x_25 : Int) (r_41 : T_api_Reply × Bool × T_session_Table) (A_2 : Option Addr) (c_3 : Nat) (b_7 : Nat) (A_17 : Option Addr) (c_18 : Nat) (A_20 : Option Addr) (c_21 : Nat) (A_23 : Option Addr) (c_24 : Nat) (b_28 : Nat) (b_40 : Nat) (A_42 : Option Addr) (c_43 : Nat) (b_44 : Nat) (b_45 : Nat) (w0 : World) (S0 : Fam) (ih0 : ∀ (f_14 : Int) (f_15 : Int) (f_16 : (List T_session_Row)) (done_19 : (List (T_tontinelaw15_one × T_api_Reply))) (last_22 : (List (Int × Int))) (x_25 : Int) (A_17 : Option Addr) (c_18 : Nat) (A_20 : Option Addr) (c_21 : Nat) (A_23 : Option Addr) (c_24 : Nat), GoO (tontinelaw15_SessionOnce.cx A_2 c_3 w0 S0) [(3, .pointer (some ⟨b_7, 0, none⟩)), (4, .map (mA A_20)), (5, .map (mA A_23)), (18, .slice A_2 calls_1.length c_3), (19, .int .i64 (calls_1.length : Int)), (20, .int .i64 x_25)] [⟨40, b_7, [.int .u64 f_14, .int .u64 f_15, .slice A_17 f_16.length c_18]⟩] [Ow 41 kT_session_Row A_17 c_18 f_16, Mp 42 ky26 (fun v : T_api_Reply => .agg ⟨[.int .i64 v.Err, .int .u64 v.Num, .int .u64 v.Extra]⟩) A_20 c_21 done_19, Mp 43 ky27 (fun v => .int .u64 v) A_23 c_24 last_22, Rd 0 kT_tontinelaw15_Call A_2 c_3 calls_1] [.code c3_21, .inLoop c3_21, .inBlock 0, .code c3_78] (L0 f_14 f_15 f_16 done_19 last_22 x_25)) (b_47 : Bool) :
    GoO (tontinelaw15_SessionOnce.cx A_2 c_3 w0 S0) [(3, .pointer (some ⟨b_7, 0, none⟩)), (4, .map (mA A_20)), (5, .map (mA A_23)), (7, .pointer (some ⟨b_28, 0, none⟩)), (8, .pointer (some ⟨b_40, 0, none⟩)), (9, .pointer (some ⟨b_44, 0, none⟩)), (10, .bool r_41.2.1), (11, .pointer (some ⟨b_45, 0, none⟩)), (12, .bool ((getA (⟨(rdL calls_1 x_25).Id, (rdL calls_1 x_25).Seq⟩ : T_tontinelaw15_one) done_19).isSome)), (18, .slice A_2 calls_1.length c_3), (19, .int .i64 (calls_1.length : Int)), (20, .int .i64 x_25), (52, .bool b_47)] [⟨40, b_7, [.int .u64 r_41.2.2.now, .int .u64 r_41.2.2.next, .slice A_42 r_41.2.2.rows.length c_43]⟩, ⟨44, b_28, [.int .i64 ((rdL calls_1 x_25).Kind), .int .u64 ((rdL calls_1 x_25).Id), .int .u64 ((rdL calls_1 x_25).Seq), .int .i64 ((rdL calls_1 x_25).Reply.Err), .int .u64 ((rdL calls_1 x_25).Reply.Num), .int .u64 ((rdL calls_1 x_25).Reply.Extra)]⟩, ⟨45, b_40, [.int .u64 ((rdL calls_1 x_25).Id), .int .u64 ((rdL calls_1 x_25).Seq)]⟩, ⟨46, b_44, [.int .i64 r_41.1.Err, .int .u64 r_41.1.Num, .int .u64 r_41.1.Extra]⟩, ⟨47, b_45, [.int .i64 (((getA (⟨(rdL calls_1 x_25).Id, (rdL calls_1 x_25).Seq⟩ : T_tontinelaw15_one) done_19).getD (⟨0, 0, 0⟩ : T_api_Reply)).Err), .int .u64 (((getA (⟨(rdL calls_1 x_25).Id, (rdL calls_1 x_25).Seq⟩ : T_tontinelaw15_one) done_19).getD (⟨0, 0, 0⟩ : T_api_Reply)).Num), .int .u64 (((getA (⟨(rdL calls_1 x_25).Id, (rdL calls_1 x_25).Seq⟩ : T_tontinelaw15_one) done_19).getD (⟨0, 0, 0⟩ : T_api_Reply)).Extra)]⟩] [Ow 41 kT_session_Row A_42 c_43 r_41.2.2.rows, Mp 42 ky26 (fun v : T_api_Reply => .agg ⟨[.int .i64 v.Err, .int .u64 v.Num, .int .u64 v.Extra]⟩) A_20 c_21 done_19, Mp 43 ky27 (fun v => .int .u64 v) A_23 c_24 last_22, Rd 0 kT_tontinelaw15_Call A_2 c_3 calls_1] [.inRegion r3_56 [4, 5, 6, 7, 8, 9, 10, 11, 12, 13, 14, 15, 16, 17, 18, 19, 20, 21], .code c3_57, .code c3_62, .inBlock 2, .inBlock 1, .code c3_77, .inLoop c3_21, .inBlock 0, .code c3_78] (tontinelaw15_SessionOnce.j2 n L0 calls_1 done_19 last_22 x_25 r_41 b_47) := by
  unfold tontinelaw15_SessionOnce.j2
  refine GoO.exec (is := [4]) (hs := [.p]) (rest := [5, 6, 7, 8, 9, 10, 11, 12, 13, 14, 15, 16, 17, 18, 19, 20, 21]) (ks := [3, 4, 5, 7, 8, 9, 10, 11, 12, 18, 19, 20, 53]) (env' := [(3, .pointer (some ⟨b_7, 0, none⟩)), (4, .map (mA A_20)), (5, .map (mA A_23)), (7, .pointer (some ⟨b_28, 0, none⟩)), (8, .pointer (some ⟨b_40, 0, none⟩)), (9, .pointer (some ⟨b_44, 0, none⟩)), (10, .bool r_41.2.1), (11, .pointer (some ⟨b_45, 0, none⟩)), (12, .bool ((getA (⟨(rdL calls_1 x_25).Id, (rdL calls_1 x_25).Seq⟩ : T_tontinelaw15_one) done_19).isSome)), (18, .slice A_2 calls_1.length c_3), (19, .int .i64 (calls_1.length : Int)), (20, .int .i64 x_25), (53, .bool b_47)]) (H' := [⟨40, b_7, [.int .u64 r_41.2.2.now, .int .u64 r_41.2.2.next, .slice A_42 r_41.2.2.rows.length c_43]⟩, ⟨44, b_28, [.int .i64 ((rdL calls_1 x_25).Kind), .int .u64 ((rdL calls_1 x_25).Id), .int .u64 ((rdL calls_1 x_25).Seq), .int .i64 ((rdL calls_1 x_25).Reply.Err), .int .u64 ((rdL calls_1 x_25).Reply.Num), .int .u64 ((rdL calls_1 x_25).Reply.Extra)]⟩, ⟨45, b_40, [.int .u64 ((rdL calls_1 x_25).Id), .int .u64 ((rdL calls_1 x_25).Seq)]⟩, ⟨46, b_44, [.int .i64 r_41.1.Err, .int .u64 r_41.1.Num, .int .u64 r_41.1.Extra]⟩, ⟨47, b_45, [.int .i64 (((getA (⟨(rdL calls_1 x_25).Id, (rdL calls_1 x_25).Seq⟩ : T_tontinelaw15_one) done_19).getD (⟨0, 0, 0⟩ : T_api_Reply)).Err), .int .u64 (((getA (⟨(rdL calls_1 x_25).Id, (rdL calls_1 x_25).Seq⟩ : T_tontinelaw15_one) done_19).getD (⟨0, 0, 0⟩ : T_api_Reply)).Num), .int .u64 (((getA (⟨(rdL calls_1 x_25).Id, (rdL calls_1 x_25).Seq⟩ : T_tontinelaw15_one) done_19).getD (⟨0, 0, 0⟩ : T_api_Reply)).Extra)]⟩]) (ps := []) (by kernel_rfl) trivial ?_
  refine GoO.bsplit (t := 53) (by kernel_rfl) (fun h48 => ?_) (fun h48 => ?_)
  · refine GoO.exec (is := [5, 6, 7, 8, 9, 10, 11, 12, 13, 14, 15, 16, 17, 18, 19, 20, 21]) (hs := [.p, .p, .p, .p, .p, .p, .p, .p, .p, .p, .p, .p, .p, .p, .p, .p, .p]) (rest := []) (ks := [3, 4, 5, 7, 8, 10, 18, 19, 20, 70]) (env' := [(3, .pointer (some ⟨b_7, 0, none⟩)), (4, .map (mA A_20)), (5, .map (mA A_23)), (7, .pointer (some ⟨b_28, 0, none⟩)), (8, .pointer (some ⟨b_40, 0, none⟩)), (10, .bool r_41.2.1), (18, .slice A_2 calls_1.length c_3), (19, .int .i64 (calls_1.length : Int)), (20, .int .i64 x_25), (70, .bool true)]) (H' := [⟨40, b_7, [.int .u64 r_41.2.2.now, .int .u64 r_41.2.2.next, .slice A_42 r_41.2.2.rows.length c_43]⟩, ⟨44, b_28, [.int .i64 ((rdL calls_1 x_25).Kind), .int .u64 ((rdL calls_1 x_25).Id), .int .u64 ((rdL calls_1 x_25).Seq), .int .i64 ((rdL calls_1 x_25).Reply.Err), .int .u64 ((rdL calls_1 x_25).Reply.Num), .int .u64 ((rdL calls_1 x_25).Reply.Extra)]⟩, ⟨45, b_40, [.int .u64 ((rdL calls_1 x_25).Id), .int .u64 ((rdL calls_1 x_25).Seq)]⟩, ⟨46, b_44, [.int .i64 r_41.1.Err, .int .u64 r_41.1.Num, .int .u64 r_41.1.Extra]⟩, ⟨47, b_45, [.int .i64 (((getA (⟨(rdL calls_1 x_25).Id, (rdL calls_1 x_25).Seq⟩ : T_tontinelaw15_one) done_19).getD (⟨0, 0, 0⟩ : T_api_Reply)).Err), .int .u64 (((getA (⟨(rdL calls_1 x_25).Id, (rdL calls_1 x_25).Seq⟩ : T_tontinelaw15_one) done_19).getD (⟨0, 0, 0⟩ : T_api_Reply)).Num), .int .u64 (((getA (⟨(rdL calls_1 x_25).Id, (rdL calls_1 x_25).Seq⟩ : T_tontinelaw15_one) done_19).getD (⟨0, 0, 0⟩ : T_api_Reply)).Extra)]⟩]) (ps := []) (by kernel_rfl) trivial ?_
    refine GoO.regionEnd ?_
    exact GoO.sub (ks := [3, 4, 5, 7, 8, 10, 18, 19, 20, 70]) (hk := [0, 1, 2]) (bk := [0, 1, 2, 3]) (by kernel_rfl) (by kernel_rfl) (by kernel_rfl) (tontinelaw15_SessionOnce_j0_ok n L0 calls_1 f_14 f_15 f_16 done_19 last_22 x_25 r_41 A_2 c_3 b_7 A_17 c_18 A_20 c_21 A_23 c_24 b_28 b_40 A_42 c_43 w0 S0 ih0 true)
  · refine GoO.exec (is := [5, 6, 7]) (hs := [.p, .p, .p]) (rest := [8, 9, 10, 11, 12, 13, 14, 15, 16, 17, 18, 19, 20, 21]) (ks := [3, 4, 5, 7, 8, 9, 10, 11, 12, 18, 19, 20, 53, 56]) (env' := [(3, .pointer (some ⟨b_7, 0, none⟩)), (4, .map (mA A_20)), (5, .map (mA A_23)), (7, .pointer (some ⟨b_28, 0, none⟩)), (8, .pointer (some ⟨b_40, 0, none⟩)), (9, .pointer (some ⟨b_44, 0, none⟩)), (10, .bool r_41.2.1), (11, .pointer (some ⟨b_45, 0, none⟩)), (12, .bool ((getA (⟨(rdL calls_1 x_25).Id, (rdL calls_1 x_25).Seq⟩ : T_tontinelaw15_one) done_19).isSome)), (18, .slice A_2 calls_1.length c_3), (19, .int .i64 (calls_1.length : Int)), (20, .int .i64 x_25), (53, .bool false), (56, .bool (!r_41.2.1))]) (H' := [⟨40, b_7, [.int .u64 r_41.2.2.now, .int .u64 r_41.2.2.next, .slice A_42 r_41.2.2.rows.length c_43]⟩, ⟨44, b_28, [.int .i64 ((rdL calls_1 x_25).Kind), .int .u64 ((rdL calls_1 x_25).Id), .int .u64 ((rdL calls_1 x_25).Seq), .int .i64 ((rdL calls_1 x_25).Reply.Err), .int .u64 ((rdL calls_1 x_25).Reply.Num), .int .u64 ((rdL calls_1 x_25).Reply.Extra)]⟩, ⟨45, b_40, [.int .u64 ((rdL calls_1 x_25).Id), .int .u64 ((rdL calls_1 x_25).Seq)]⟩, ⟨46, b_44, [.int .i64 r_41.1.Err, .int .u64 r_41.1.Num, .int .u64 r_41.1.Extra]⟩, ⟨47, b_45, [.int .i64 (((getA (⟨(rdL calls_1 x_25).Id, (rdL calls_1 x_25).Seq⟩ : T_tontinelaw15_one) done_19).getD (⟨0, 0, 0⟩ : T_api_Reply)).Err), .int .u64 (((getA (⟨(rdL calls_1 x_25).Id, (rdL calls_1 x_25).Seq⟩ : T_tontinelaw15_one) done_19).getD (⟨0, 0, 0⟩ : T_api_Reply)).Num), .int .u64 (((getA (⟨(rdL calls_1 x_25).Id, (rdL calls_1 x_25).Seq⟩ : T_tontinelaw15_one) done_19).getD (⟨0, 0, 0⟩ : T_api_Reply)).Extra)]⟩]) (ps := []) (by kernel_rfl) trivial ?_
    refine GoO.bsplit (t := 56) (by kernel_rfl) (fun h49 => ?_) (fun h49 => ?_)
    · refine GoO.exec (is := [8, 9, 10, 11]) (hs := [.p, .b 3, .p, .p]) (rest := [12, 13, 14, 15, 16, 17, 18, 19, 20, 21]) (ks := [3, 4, 5, 7, 8, 9, 10, 11, 12, 18, 19, 20, 53, 60]) (env' := [(3, .pointer (some ⟨b_7, 0, none⟩)), (4, .map (mA A_20)), (5, .map (mA A_23)), (7, .pointer (some ⟨b_28, 0, none⟩)), (8, .pointer (some ⟨b_40, 0, none⟩)), (9, .pointer (some ⟨b_44, 0, none⟩)), (10, .bool r_41.2.1), (11, .pointer (some ⟨b_45, 0, none⟩)), (12, .bool ((getA (⟨(rdL calls_1 x_25).Id, (rdL calls_1 x_25).Seq⟩ : T_tontinelaw15_one) done_19).isSome)), (18, .slice A_2 calls_1.length c_3), (19, .int .i64 (calls_1.length : Int)), (20, .int .i64 x_25), (53, .bool false), (60, .bool (r_41.1.Err == 0))]) (H' := [⟨40, b_7, [.int .u64 r_41.2.2.now, .int .u64 r_41.2.2.next, .slice A_42 r_41.2.2.rows.length c_43]⟩, ⟨44, b_28, [.int .i64 ((rdL calls_1 x_25).Kind), .int .u64 ((rdL calls_1 x_25).Id), .int .u64 ((rdL calls_1 x_25).Seq), .int .i64 ((rdL calls_1 x_25).Reply.Err), .int .u64 ((rdL calls_1 x_25).Reply.Num), .int .u64 ((rdL calls_1 x_25).Reply.Extra)]⟩, ⟨45, b_40, [.int .u64 ((rdL calls_1 x_25).Id), .int .u64 ((rdL calls_1 x_25).Seq)]⟩, ⟨46, b_44, [.int .i64 r_41.1.Err, .int .u64 r_41.1.Num, .int .u64 r_41.1.Extra]⟩, ⟨47, b_45, [.int .i64 (((getA (⟨(rdL calls_1 x_25).Id, (rdL calls_1 x_25).Seq⟩ : T_tontinelaw15_one) done_19).getD (⟨0, 0, 0⟩ : T_api_Reply)).Err), .int .u64 (((getA (⟨(rdL calls_1 x_25).Id, (rdL calls_1 x_25).Seq⟩ : T_tontinelaw15_one) done_19).getD (⟨0, 0, 0⟩ : T_api_Reply)).Num), .int .u64 (((getA (⟨(rdL calls_1 x_25).Id, (rdL calls_1 x_25).Seq⟩ : T_tontinelaw15_one) done_19).getD (⟨0, 0, 0⟩ : T_api_Reply)).Extra)]⟩]) (ps := [b_44 = b_44]) (by kernel_rfl) (And.intro rfl trivial) ?_
      exact GoO.sub (ks := [3, 4, 5, 7, 8, 9, 10, 11, 12, 18, 19, 20, 53, 60]) (hk := [0, 1, 2, 3, 4]) (bk := [0, 1, 2, 3]) (by kernel_rfl) (by kernel_rfl) (by kernel_rfl) (tontinelaw15_SessionOnce_j3_ok n L0 calls_1 f_14 f_15 f_16 done_19 last_22 x_25 r_41 A_2 c_3 b_7 A_17 c_18 A_20 c_21 A_23 c_24 b_28 b_40 A_42 c_43 b_44 b_45 w0 S0 ih0 (r_41.1.Err == 0))
    · refine GoO.exec (is := [8, 9, 10, 11]) (hs := [.p, .p, .p, .p]) (rest := [12, 13, 14, 15, 16, 17, 18, 19, 20, 21]) (ks := [3, 4, 5, 7, 8, 9, 10, 11, 12, 18, 19, 20, 53, 60]) (env' := [(3, .pointer (some ⟨b_7, 0, none⟩)), (4, .map (mA A_20)), (5, .map (mA A_23)), (7, .pointer (some ⟨b_28, 0, none⟩)), (8, .pointer (some ⟨b_40, 0, none⟩)), (9, .pointer (some ⟨b_44, 0, none⟩)), (10, .bool r_41.2.1), (11, .pointer (some ⟨b_45, 0, none⟩)), (12, .bool ((getA (⟨(rdL calls_1 x_25).Id, (rdL calls_1 x_25).Seq⟩ : T_tontinelaw15_one) done_19).isSome)), (18, .slice A_2 calls_1.length c_3), (19, .int .i64 (calls_1.length : Int)), (20, .int .i64 x_25), (53, .bool false), (60, .bool false)]) (H' := [⟨40, b_7, [.int .u64 r_41.2.2.now, .int .u64 r_41.2.2.next, .slice A_42 r_41.2.2.rows.length c_43]⟩, ⟨44, b_28, [.int .i64 ((rdL calls_1 x_25).Kind), .int .u64 ((rdL calls_1 x_25).Id), .int .u64 ((rdL calls_1 x_25).Seq), .int .i64 ((rdL calls_1 x_25).Reply.Err), .int .u64 ((rdL calls_1 x_25).Reply.Num), .int .u64 ((rdL calls_1 x_25).Reply.Extra)]⟩, ⟨45, b_40, [.int .u64 ((rdL calls_1 x_25).Id), .int .u64 ((rdL calls_1 x_25).Seq)]⟩, ⟨46, b_44, [.int .i64 r_41.1.Err, .int .u64 r_41.1.Num, .int .u64 r_41.1.Extra]⟩, ⟨47, b_45, [.int .i64 (((getA (⟨(rdL calls_1 x_25).Id, (rdL calls_1 x_25).Seq⟩ : T_tontinelaw15_one) done_19).getD (⟨0, 0, 0⟩ : T_api_Reply)).Err), .int .u64 (((getA (⟨(rdL calls_1 x_25).Id, (rdL calls_1 x_25).Seq⟩ : T_tontinelaw15_one) done_19).getD (⟨0, 0, 0⟩ : T_api_Reply)).Num), .int .u64 (((getA (⟨(rdL calls_1 x_25).Id, (rdL calls_1 x_25).Seq⟩ : T_tontinelaw15_one) done_19).getD (⟨0, 0, 0⟩ : T_api_Reply)).Extra)]⟩]) (ps := []) (by kernel_rfl) trivial ?_
      exact GoO.sub (ks := [3, 4, 5, 7, 8, 9, 10, 11, 12, 18, 19, 20, 53, 60]) (hk := [0, 1, 2, 3, 4]) (bk := [0, 1, 2, 3]) (by kernel_rfl) (by kernel_rfl) (by kernel_rfl) (tontinelaw15_SessionOnce_j3_ok n L0 calls_1 f_14 f_15 f_16 done_19 last_22 x_25 r_41 A_2 c_3 b_7 A_17 c_18 A_20 c_21 A_23 c_24 b_28 b_40 A_42 c_43 b_44 b_45 w0 S0 ih0 false)
theorem tontinelaw15_SessionOnce_l0_ok (n : Nat) (calls_1 : (List T_tontinelaw15_Call)) (A_2 : Option Addr) (c_3 : Nat) (b_7 : Nat) (w0 : World) (S0 : Fam) :
    ∀ (k : Nat) (f_14 : Int) (f_15 : Int) (f_16 : (List T_session_Row)) (done_19 : (List (T_tontinelaw15_one × T_api_Reply))) (last_22 : (List (Int × Int))) (x_25 : Int) (A_17 : Option Addr) (c_18 : Nat) (A_20 : Option Addr) (c_21 : Nat) (A_23 : Option Addr) (c_24 : Nat), GoO (tontinelaw15_SessionOnce.cx A_2 c_3 w0 S0) [(3, .pointer (some ⟨b_7, 0, none⟩)), (4, .map (mA A_20)), (5, .map (mA A_23)), (18, .slice A_2 calls_1.length c_3), (19, .int .i64 (calls_1.length : Int)), (20, .int .i64 x_25)] [⟨40, b_7, [.int .u64 f_14, .int .u64 f_15, .slice A_17 f_16.length c_18]⟩] [Ow 41 kT_session_Row A_17 c_18 f_16, Mp 42 ky26 (fun v : T_api_Reply => .agg ⟨[.int .i64 v.Err, .int .u64 v.Num, .int .u64 v.Extra]⟩) A_20 c_21 done_19, Mp 43 ky27 (fun v => .int .u64 v) A_23 c_24 last_22, Rd 0 kT_tontinelaw15_Call A_2 c_3 calls_1] [.code c3_21, .inLoop c3_21, .inBlock 0, .code c3_78] (tontinelaw15_SessionOnce.l0 n calls_1 k f_14 f_15 f_16 done_19 last_22 x_25) := by
  intro k
  induction k with
  | zero => intros; rw [tontinelaw15_SessionOnce.l0.eq_1]; exact GoO.stop
  | succ k ih0 =>
    intro f_14 f_15 f_16 done_19 last_22 x_25 A_17 c_18 A_20 c_21 A_23 c_24
    rw [tontinelaw15_SessionOnce.l0.eq_2]
    refine GoO.seq' c3_21e ?_
    refine GoO.region' (is := [0]) c3_22e (by kernel_rfl) ?_
    refine GoO.exec (is := [0]) (hs := [.p]) (rest := []) (ks := [3, 4, 5, 18, 19, 20, 21]) (env' := [(3, .pointer (some ⟨b_7, 0, none⟩)), (4, .map (mA A_20)), (5, .map (mA A_23)), (18, .slice A_2 calls_1.length c_3), (19, .int .i64 (calls_1.length : Int)), (20, .int .i64 x_25), (21, .bool (decide (x_25 < (calls_1.length : Int))))]) (H' := [⟨40, b_7, [.int .u64 f_14, .int .u64 f_15, .slice A_17 f_16.length c_18]⟩]) (ps := []) (by kernel_rfl) trivial ?_
    refine GoO.regionEnd ?_
    refine GoO.seq' c3_23e ?_
    refine GoO.ite' c3_24e (by kernel_rfl) (fun h26 => ?_) (fun h26 => ?_)
    · refine GoO.skip' c3_25e ?_
      refine GoO.seq' c3_27e ?_
      refine GoO.block' c3_28e ?_
      refine GoO.seq' c3_29e ?_
      refine GoO.region' (is := [0, 1, 2, 3, 4, 5]) c3_30e (by kernel_rfl) ?_
      refine GoO.exec (is := [0]) (hs := [.p]) (rest := [1, 2, 3, 4, 5]) (ks := [3, 4, 5, 18, 19, 20, 22]) (env' := [(3, .pointer (some ⟨b_7, 0, none⟩)), (4, .map (mA A_20)), (5, .map (mA A_23)), (18, .slice A_2 calls_1.length c_3), (19, .int .i64 (calls_1.length : Int)), (20, .int .i64 x_25), (22, .int .i64 x_25)]) (H' := [⟨40, b_7, [.int .u64 f_14, .int .u64 f_15, .slice A_17 f_16.length c_18]⟩]) (ps := []) (by kernel_rfl) trivial ?_
      refine GoO.guard (fun h27 => ?_)
      refine OpTo.go (GoO.idx (kk := .i64) (e := 33) (K := kT_tontinelaw15_Call) (A := A_2) (c := c_3) (xs := calls_1) (iv := x_25) (j := 3) rfl (by kernel_rfl) (by kernel_rfl) (by kernel_rfl) (by kernel_rfl) rfl Reads.rd rfl h27.1 h27.2 (by decide) rfl ?_)
      refine OpTo.go (GoO.ldE' (K := kT_tontinelaw15_Call) (A := A_2) (c := c_3) (xs := calls_1) (iN := x_25.toNat) (off := 0) (j := 3) rfl (by kernel_rfl) rfl Reads.rd (by first | exact idx_lt h27.1 h27.2 | (simp only [List.length_set]; exact idx_lt h27.1 h27.2)) (by decide) (Opn.flat _ _ _ _ _) (v := fun _ => .agg ⟨[.int .i64 ((rdL calls_1 x_25).Kind), .int .u64 ((rdL calls_1 x_25).Id), .int .u64 ((rdL calls_1 x_25).Seq), .int .i64 ((rdL calls_1 x_25).Reply.Err), .int .u64 ((rdL calls_1 x_25).Reply.Num), .int .u64 ((rdL calls_1 x_25).Reply.Extra)]⟩) (fun _ => by kernel_rfl) _ (fun _ => rfl) (fun _ => ?_))
      refine OpTo.go (GoO.new rfl 44 (cs := [.int .i64 0, .int .u64 0, .int .u64 0, .int .i64 0, .int .u64 0, .int .u64 0]) (by kernel_rfl) _ (fun _ => rfl) (fun b_28 => ?_))
      refine GoO.exec (is := [4, 5]) (hs := [.p, .b 0]) (rest := []) (ks := [3, 4, 5, 6, 7, 18, 19, 20]) (env' := [(3, .pointer (some ⟨b_7, 0, none⟩)), (4, .map (mA A_20)), (5, .map (mA A_23)), (6, .int .i64 x_25), (7, .pointer (some ⟨b_28, 0, none⟩)), (18, .slice A_2 calls_1.length c_3), (19, .int .i64 (calls_1.length : Int)), (20, .int .i64 x_25)]) (H' := [⟨44, b_28, [.int .i64 ((rdL calls_1 x_25).Kind), .int .u64 ((rdL calls_1 x_25).Id), .int .u64 ((rdL calls_1 x_25).Seq), .int .i64 ((rdL calls_1 x_25).Reply.Err), .int .u64 ((rdL calls_1 x_25).Reply.Num), .int .u64 ((rdL calls_1 x_25).Reply.Extra)]⟩, ⟨40, b_7, [.int .u64 f_14, .int .u64 f_15, .slice A_17 f_16.length c_18]⟩]) (ps := [b_28 = b_28]) (by kernel_rfl) (And.intro rfl trivial) ?_
      refine GoO.regionEnd ?_
      refine GoO.seq' c3_31e ?_
      refine GoO.seq' c3_32e ?_
      refine GoO.region' (is := [0, 1]) c3_33e (by kernel_rfl) ?_
      refine GoO.exec (is := [0, 1]) (hs := [.p, .p]) (rest := []) (ks := [3, 4, 5, 7, 18, 19, 20, 26]) (env' := [(3, .pointer (some ⟨b_7, 0, none⟩)), (4, .map (mA A_20)), (5, .map (mA A_23)), (7, .pointer (some ⟨b_28, 0, none⟩)), (18, .slice A_2 calls_1.length c_3), (19, .int .i64 (calls_1.length : Int)), (20, .int .i64 x_25), (26, .bool (x_25 == 500))]) (H' := [⟨44, b_28, [.int .i64 ((rdL calls_1 x_25).Kind), .int .u64 ((rdL calls_1 x_25).Id), .int .u64 ((rdL calls_1 x_25).Seq), .int .i64 ((rdL calls_1 x_25).Reply.Err), .int .u64 ((rdL calls_1 x_25).Reply.Num), .int .u64 ((rdL calls_1 x_25).Reply.Extra)]⟩, ⟨40, b_7, [.int .u64 f_14, .int .u64 f_15, .slice A_17 f_16.length c_18]⟩]) (ps := []) (by kernel_rfl) trivial ?_
      refine GoO.regionEnd ?_
      refine GoO.ite' c3_34e (by kernel_rfl) (fun h29 => ?_) (fun h29 => ?_)
      · refine GoO.exit' c3_35e rfl ?_
        refine GoO.seq' c3_78e ?_
        refine GoO.region' (is := [0]) c3_79e (by kernel_rfl) ?_
        refine GoO.exec (is := [0]) (hs := [.p]) (rest := []) (ks := [2]) (env' := [(2, .bool true)]) (H' := [⟨44, b_28, [.int .i64 ((rdL calls_1 x_25).Kind), .int .u64 ((rdL calls_1 x_25).Id), .int .u64 ((rdL calls_1 x_25).Seq), .int .i64 ((rdL calls_1 x_25).Reply.Err), .int .u64 ((rdL calls_1 x_25).Reply.Num), .int .u64 ((rdL calls_1 x_25).Reply.Extra)]⟩, ⟨40, b_7, [.int .u64 f_14, .int .u64 f_15, .slice A_17 f_16.length c_18]⟩]) (ps := []) (by kernel_rfl) trivial ?_
        refine GoO.regionEnd ?_
        exact GoO.ret' (h := c3_80e) (hs := []) (ps := []) (hk := []) (bk := []) Try.func3 () (by kernel_rfl) trivial (by kernel_rfl) (by kernel_rfl)
      · refine GoO.skip' c3_36e ?_
        refine GoO.seq' c3_37e ?_
        refine GoO.region' (is := [0, 1]) c3_38e (by kernel_rfl) ?_
        refine GoO.exec (is := [0, 1]) (hs := [.p, .b 0]) (rest := []) (ks := [3, 4, 5, 7, 18, 19, 20, 28]) (env' := [(3, .pointer (some ⟨b_7, 0, none⟩)), (4, .map (mA A_20)), (5, .map (mA A_23)), (7, .pointer (some ⟨b_28, 0, none⟩)), (18, .slice A_2 calls_1.length c_3), (19, .int .i64 (calls_1.length : Int)), (20, .int .i64 x_25), (28, .int .i64 ((rdL calls_1 x_25).Kind))]) (H' := [⟨44, b_28, [.int .i64 ((rdL calls_1 x_25).Kind), .int .u64 ((rdL calls_1 x_25).Id), .int .u64 ((rdL calls_1 x_25).Seq), .int .i64 ((rdL calls_1 x_25).Reply.Err), .int .u64 ((rdL calls_1 x_25).Reply.Num), .int .u64 ((rdL calls_1 x_25).Reply.Extra)]⟩, ⟨40, b_7, [.int .u64 f_14, .int .u64 f_15, .slice A_17 f_16.length c_18]⟩]) (ps := [b_28 = b_28]) (by kernel_rfl) (And.intro rfl trivial) ?_
        refine GoO.regionEnd ?_
        refine GoO.block' c3_39e ?_
        refine GoO.seq' c3_40e ?_
        refine GoO.region' (is := [0, 1]) c3_41e (by kernel_rfl) ?_
        refine GoO.exec (is := [0, 1]) (hs := [.p, .p]) (rest := []) (ks := [3, 4, 5, 7, 18, 19, 20, 28, 102]) (env' := [(3, .pointer (some ⟨b_7, 0, none⟩)), (4, .map (mA A_20)), (5, .map (mA A_23)), (7, .pointer (some ⟨b_28, 0, none⟩)), (18, .slice A_2 calls_1.length c_3), (19, .int .i64 (calls_1.length : Int)), (20, .int .i64 x_25), (28, .int .i64 ((rdL calls_1 x_25).Kind)), (102, .bool (((rdL calls_1 x_25).Kind) == 0))]) (H' := [⟨44, b_28, [.int .i64 ((rdL calls_1 x_25).Kind), .int .u64 ((rdL calls_1 x_25).Id), .int .u64 ((rdL calls_1 x_25).Seq), .int .i64 ((rdL calls_1 x_25).Reply.Err), .int .u64 ((rdL calls_1 x_25).Reply.Num), .int .u64 ((rdL calls_1 x_25).Reply.Extra)]⟩, ⟨40, b_7, [.int .u64 f_14, .int .u64 f_15, .slice A_17 f_16.length c_18]⟩]) (ps := []) (by kernel_rfl) trivial ?_
        refine GoO.regionEnd ?_
        refine GoO.ite' c3_42e (by kernel_rfl) (fun h30 => ?_) (fun h30 => ?_)
        · refine GoO.region' (is := [0, 1, 2, 3]) c3_43e (by kernel_rfl) ?_
          refine GoO.exec (is := [0, 1, 2]) (hs := [.p, .p, .b 0]) (rest := [3]) (ks := [3, 4, 5, 18, 19, 20, 104, 106]) (env' := [(3, .pointer (some ⟨b_7, 0, none⟩)), (4, .map (mA A_20)), (5, .map (mA A_23)), (18, .slice A_2 calls_1.length c_3), (19, .int .i64 (calls_1.length : Int)), (20, .int .i64 x_25), (104, .pointer (some ⟨b_7, 0, none⟩)), (106, .int .u64 ((rdL calls_1 x_25).Id))]) (H' := [⟨44, b_28, [.int .i64 ((rdL calls_1 x_25).Kind), .int .u64 ((rdL calls_1 x_25).Id), .int .u64 ((rdL calls_1 x_25).Seq), .int .i64 ((rdL calls_1 x_25).Reply.Err), .int .u64 ((rdL calls_1 x_25).Reply.Num), .int .u64 ((rdL calls_1 x_25).Reply.Extra)]⟩, ⟨40, b_7, [.int .u64 f_14, .int .u64 f_15, .slice A_17 f_16.length c_18]⟩]) (ps := [b_28 = b_28]) (by kernel_rfl) (And.intro rfl trivial) ?_
          refine OpTo.go (GoO.call rfl (by kernel_rfl) (by kernel_rfl) (session_Table_Clock_ok n (⟨f_14, f_15, f_16⟩ : T_session_Table) ((rdL calls_1 x_25).Id) b_7 A_17 c_18) [[0], [40], [41]] [(40, 1), (41, 2)] [(1, 1)] [(2, 0)] (hks := [0]) (bks := [1, 2, 3]) (by kernel_rfl) (by kernel_rfl) (by kernel_rfl) (.inl rfl) rfl rfl (by kernel_rfl) (by kernel_rfl) _ (fun _ _ => rfl) _ _ (fun _ _ => rfl) (fun _ _ => rfl) (fun _ _ => by kernel_rfl) (fun _ _ => by kernel_rfl) (fun r_31 x_34 => ?_))
          obtain ⟨A_32, c_33⟩ := x_34
          refine GoO.shape (env' := [(3, .pointer (some ⟨b_7, 0, none⟩)), (4, .map (mA A_20)), (5, .map (mA A_23)), (18, .slice A_2 calls_1.length c_3), (19, .int .i64 (calls_1.length : Int)), (20, .int .i64 x_25), (104, .pointer (some ⟨b_7, 0, none⟩)), (106, .int .u64 ((rdL calls_1 x_25).Id)), (107, .tuple ⟨[]⟩)]) (H' := [⟨40, b_7, [.int .u64 r_31.now, .int .u64 r_31.next, .slice A_32 r_31.rows.length c_33]⟩, ⟨44, b_28, [.int .i64 ((rdL calls_1 x_25).Kind), .int .u64 ((rdL calls_1 x_25).Id), .int .u64 ((rdL calls_1 x_25).Seq), .int .i64 ((rdL calls_1 x_25).Reply.Err), .int .u64 ((rdL calls_1 x_25).Reply.Num), .int .u64 ((rdL calls_1 x_25).Reply.Extra)]⟩]) (B' := [Ow 41 kT_session_Row A_32 c_33 r_31.rows, Mp 42 ky26 (fun v : T_api_Reply => .agg ⟨[.int .i64 v.Err, .int .u64 v.Num, .int .u64 v.Extra]⟩) A_20 c_21 done_19, Mp 43 ky27 (fun v => .int .u64 v) A_23 c_24 last_22, Rd 0 kT_tontinelaw15_Call A_2 c_3 calls_1]) (ks := [3, 4, 5, 18, 19, 20, 104, 106, 107]) (by kernel_rfl) (by kernel_rfl) (by kernel_rfl) ?_
          refine GoO.regionEnd ?_
          refine GoO.inBlock ?_
          refine GoO.inBlock ?_
          refine GoO.region' (is := [0, 1]) c3_77e (by kernel_rfl) ?_
          refine GoO.exec (is := [0, 1]) (hs := [.p, .p]) (rest := []) (ks := [3, 4, 5, 18, 19, 20]) (env' := [(3, .pointer (some ⟨b_7, 0, none⟩)), (4, .map (mA A_20)), (5, .map (mA A_23)), (18, .slice A_2 calls_1.length c_3), (19, .int .i64 (calls_1.length : Int)), (20, .int .i64 (wi64 (x_25 + 1)))]) (H' := [⟨40, b_7, [.int .u64 r_31.now, .int .u64 r_31.next, .slice A_32 r_31.rows.length c_33]⟩, ⟨44, b_28, [.int .i64 ((rdL calls_1 x_25).Kind), .int .u64 ((rdL calls_1 x_25).Id), .int .u64 ((rdL calls_1 x_25).Seq), .int .i64 ((rdL calls_1 x_25).Reply.Err), .int .u64 ((rdL calls_1 x_25).Reply.Num), .int .u64 ((rdL calls_1 x_25).Reply.Extra)]⟩]) (ps := []) (by kernel_rfl) trivial ?_
          refine GoO.regionEnd ?_
          refine GoO.inLoop ?_
          exact GoO.sub (ks := [3, 4, 5, 18, 19, 20]) (hk := [0]) (bk := [0, 1, 2, 3]) (by kernel_rfl) (by kernel_rfl) (by kernel_rfl) (ih0 r_31.now r_31.next r_31.rows done_19 last_22 (wi64 (x_25 + 1)) A_32 c_33 A_20 c_21 A_23 c_24)
        · refine GoO.seq' c3_44e ?_
          refine GoO.region' (is := [0, 1]) c3_45e (by kernel_rfl) ?_
          refine GoO.exec (is := [0, 1]) (hs := [.p, .p]) (rest := []) (ks := [3, 4, 5, 7, 18, 19, 20, 108]) (env' := [(3, .pointer (some ⟨b_7, 0, none⟩)), (4, .map (mA A_20)), (5, .map (mA A_23)), (7, .pointer (some ⟨b_28, 0, none⟩)), (18, .slice A_2 calls_1.length c_3), (19, .int .i64 (calls_1.length : Int)), (20, .int .i64 x_25), (108, .bool (((rdL calls_1 x_25).Kind) == 1))]) (H' := [⟨44, b_28, [.int .i64 ((rdL calls_1 x_25).Kind), .int .u64 ((rdL calls_1 x_25).Id), .int .u64 ((rdL calls_1 x_25).Seq), .int .i64 ((rdL calls_1 x_25).Reply.Err), .int .u64 ((rdL calls_1 x_25).Reply.Num), .int .u64 ((rdL calls_1 x_25).Reply.Extra)]⟩, ⟨40, b_7, [.int .u64 f_14, .int .u64 f_15, .slice A_17 f_16.length c_18]⟩]) (ps := []) (by kernel_rfl) trivial ?_
          refine GoO.regionEnd ?_
          refine GoO.ite' c3_46e (by kernel_rfl) (fun h35 => ?_) (fun h35 => ?_)
          · refine GoO.region' (is := [0, 1]) c3_47e (by kernel_rfl) ?_
            refine GoO.exec (is := [0]) (hs := [.p]) (rest := [1]) (ks := [3, 4, 5, 18, 19, 20, 110]) (env' := [(3, .pointer (some ⟨b_7, 0, none⟩)), (4, .map (mA A_20)), (5, .map (mA A_23)), (18, .slice A_2 calls_1.length c_3), (19, .int .i64 (calls_1.length : Int)), (20, .int .i64 x_25), (110, .pointer (some ⟨b_7, 0, none⟩))]) (H' := [⟨44, b_28, [.int .i64 ((rdL calls_1 x_25).Kind), .int .u64 ((rdL calls_1 x_25).Id), .int .u64 ((rdL calls_1 x_25).Seq), .int .i64 ((rdL calls_1 x_25).Reply.Err), .int .u64 ((rdL calls_1 x_25).Reply.Num), .int .u64 ((rdL calls_1 x_25).Reply.Extra)]⟩, ⟨40, b_7, [.int .u64 f_14, .int .u64 f_15, .slice A_17 f_16.length c_18]⟩]) (ps := []) (by kernel_rfl) trivial ?_
            refine OpTo.go (GoO.call rfl (by kernel_rfl) (by kernel_rfl) (session_Table_Register_ok n (⟨f_14, f_15, f_16⟩ : T_session_Table) b_7 A_17 c_18) [[0], [40], [41]] [(40, 1), (41, 2)] [(1, 1)] [(2, 0)] (hks := [0]) (bks := [1, 2, 3]) (by kernel_rfl) (by kernel_rfl) (by kernel_rfl) (.inl rfl) rfl rfl (by kernel_rfl) (by kernel_rfl) _ (fun _ _ => rfl) _ _ (fun _ _ => rfl) (fun _ _ => rfl) (fun _ _ => by kernel_rfl) (fun _ _ => by kernel_rfl) (fun r_36 x_39 => ?_))
            obtain ⟨A_37, c_38⟩ := x_39
            refine GoO.shape (env' := [(3, .pointer (some ⟨b_7, 0, none⟩)), (4, .map (mA A_20)), (5, .map (mA A_23)), (18, .slice A_2 calls_1.length c_3), (19, .int .i64 (calls_1.length : Int)), (20, .int .i64 x_25), (110, .pointer (some ⟨b_7, 0, none⟩)), (111, .tuple ⟨[.int .u64 r_36.1, .int .i64 r_36.2.1]⟩)]) (H' := [⟨40, b_7, [.int .u64 r_36.2.2.now, .int .u64 r_36.2.2.next, .slice A_37 r_36.2.2.rows.length c_38]⟩, ⟨44, b_28, [.int .i64 ((rdL calls_1 x_25).Kind), .int .u64 ((rdL calls_1 x_25).Id), .int .u64 ((rdL calls_1 x_25).Seq), .int .i64 ((rdL calls_1 x_25).Reply.Err), .int .u64 ((rdL calls_1 x_25).Reply.Num), .int .u64 ((rdL calls_1 x_25).Reply.Extra)]⟩]) (B' := [Ow 41 kT_session_Row A_37 c_38 r_36.2.2.rows, Mp 42 ky26 (fun v : T_api_Reply => .agg ⟨[.int .i64 v.Err, .int .u64 v.Num, .int .u64 v.Extra]⟩) A_20 c_21 done_19, Mp 43 ky27 (fun v => .int .u64 v) A_23 c_24 last_22, Rd 0 kT_tontinelaw15_Call A_2 c_3 calls_1]) (ks := [3, 4, 5, 18, 19, 20, 110, 111]) (by kernel_rfl) (by kernel_rfl) (by kernel_rfl) ?_
            refine GoO.regionEnd ?_
            refine GoO.inBlock ?_
            refine GoO.inBlock ?_
            refine GoO.region' (is := [0, 1]) c3_77e (by kernel_rfl) ?_
            refine GoO.exec (is := [0, 1]) (hs := [.p, .p]) (rest := []) (ks := [3, 4, 5, 18, 19, 20]) (env' := [(3, .pointer (some ⟨b_7, 0, none⟩)), (4, .map (mA A_20)), (5, .map (mA A_23)), (18, .slice A_2 calls_1.length c_3), (19, .int .i64 (calls_1.length : Int)), (20, .int .i64 (wi64 (x_25 + 1)))]) (H' := [⟨40, b_7, [.int .u64 r_36.2.2.now, .int .u64 r_36.2.2.next, .slice A_37 r_36.2.2.rows.length c_38]⟩, ⟨44, b_28, [.int .i64 ((rdL calls_1 x_25).Kind), .int .u64 ((rdL calls_1 x_25).Id), .int .u64 ((rdL calls_1 x_25).Seq), .int .i64 ((rdL calls_1 x_25).Reply.Err), .int .u64 ((rdL calls_1 x_25).Reply.Num), .int .u64 ((rdL calls_1 x_25).Reply.Extra)]⟩]) (ps := []) (by kernel_rfl) trivial ?_
            refine GoO.regionEnd ?_
            refine GoO.inLoop ?_
            exact GoO.sub (ks := [3, 4, 5, 18, 19, 20]) (hk := [0]) (bk := [0, 1, 2, 3]) (by kernel_rfl) (by kernel_rfl) (by kernel_rfl) (ih0 r_36.2.2.now r_36.2.2.next r_36.2.2.rows done_19 last_22 (wi64 (x_25 + 1)) A_37 c_38 A_20 c_21 A_23 c_24)
          · refine GoO.seq' c3_48e ?_
            refine GoO.region' (is := [0, 1, 2, 3, 4, 5, 6]) c3_49e (by kernel_rfl) ?_
            refine GoO.exec (is := [0, 1, 2, 3, 4]) (hs := [.p, .b 0, .p, .b 0, .p]) (rest := [5, 6]) (ks := [3, 4, 5, 7, 18, 19, 20, 33]) (env' := [(3, .pointer (some ⟨b_7, 0, none⟩)), (4, .map (mA A_20)), (5, .map (mA A_23)), (7, .pointer (some ⟨b_28, 0, none⟩)), (18, .slice A_2 calls_1.length c_3), (19, .int .i64 (calls_1.length : Int)), (20, .int .i64 x_25), (33, .agg ⟨[.int .u64 ((rdL calls_1 x_25).Id), .int .u64 ((rdL calls_1 x_25).Seq)]⟩)]) (H' := [⟨44, b_28, [.int .i64 ((rdL calls_1 x_25).Kind), .int .u64 ((rdL calls_1 x_25).Id), .int .u64 ((rdL calls_1 x_25).Seq), .int .i64 ((rdL calls_1 x_25).Reply.Err), .int .u64 ((rdL calls_1 x_25).Reply.Num), .int .u64 ((rdL calls_1 x_25).Reply.Extra)]⟩, ⟨40, b_7, [.int .u64 f_14, .int .u64 f_15, .slice A_17 f_16.length c_18]⟩]) (ps := [b_28 = b_28, b_28 = b_28]) (by kernel_rfl) (And.intro rfl (And.intro rfl trivial)) ?_
            refine OpTo.go (GoO.new rfl 45 (cs := [.int .u64 0, .int .u64 0]) (by kernel_rfl) _ (fun _ => rfl) (fun b_40 => ?_))
            refine GoO.exec (is := [6]) (hs := [.b 0]) (rest := []) (ks := [3, 4, 5, 7, 8, 18, 19, 20]) (env' := [(3, .pointer (some ⟨b_7, 0, none⟩)), (4, .map (mA A_20)), (5, .map (mA A_23)), (7, .pointer (some ⟨b_28, 0, none⟩)), (8, .pointer (some ⟨b_40, 0, none⟩)), (18, .slice A_2 calls_1.length c_3), (19, .int .i64 (calls_1.length : Int)), (20, .int .i64 x_25)]) (H' := [⟨45, b_40, [.int .u64 ((rdL calls_1 x_25).Id), .int .u64 ((rdL calls_1 x_25).Seq)]⟩, ⟨44, b_28, [.int .i64 ((rdL calls_1 x_25).Kind), .int .u64 ((rdL calls_1 x_25).Id), .int .u64 ((rdL calls_1 x_25).Seq), .int .i64 ((rdL calls_1 x_25).Reply.Err), .int .u64 ((rdL calls_1 x_25).Reply.Num), .int .u64 ((rdL calls_1 x_25).Reply.Extra)]⟩, ⟨40, b_7, [.int .u64 f_14, .int .u64 f_15, .slice A_17 f_16.length c_18]⟩]) (ps := [b_40 = b_40]) (by kernel_rfl) (And.intro rfl trivial) ?_
            refine GoO.regionEnd ?_
            refine GoO.seq' c3_50e ?_
            refine GoO.region' (is := [0, 1, 2, 3, 4, 5, 6, 7, 8, 9, 10, 11]) c3_51e (by kernel_rfl) ?_
            refine GoO.exec (is := [0, 1, 2, 3, 4]) (hs := [.p, .p, .b 1, .p, .b 1]) (rest := [5, 6, 7, 8, 9, 10, 11]) (ks := [3, 4, 5, 7, 8, 18, 19, 20, 35, 37, 39]) (env' := [(3, .pointer (some ⟨b_7, 0, none⟩)), (4, .map (mA A_20)), (5, .map (mA A_23)), (7, .pointer (some ⟨b_28, 0, none⟩)), (8, .pointer (some ⟨b_40, 0, none⟩)), (18, .slice A_2 calls_1.length c_3), (19, .int .i64 (calls_1.length : Int)), (20, .int .i64 x_25), (35, .pointer (some ⟨b_7, 0, none⟩)), (37, .int .u64 ((rdL calls_1 x_25).Id)), (39, .int .u64 ((rdL calls_1 x_25).Seq))]) (H' := [⟨45, b_40, [.int .u64 ((rdL calls_1 x_25).Id), .int .u64 ((rdL calls_1 x_25).Seq)]⟩, ⟨44, b_28, [.int .i64 ((rdL calls_1 x_25).Kind), .int .u64 ((rdL calls_1 x_25).Id), .int .u64 ((rdL calls_1 x_25).Seq), .int .i64 ((rdL calls_1 x_25).Reply.Err), .int .u64 ((rdL calls_1 x_25).Reply.Num), .int .u64 ((rdL calls_1 x_25).Reply.Extra)]⟩, ⟨40, b_7, [.int .u64 f_14, .int .u64 f_15, .slice A_17 f_16.length c_18]⟩]) (ps := [b_28 = b_28, b_28 = b_28]) (by kernel_rfl) (And.intro rfl (And.intro rfl trivial)) ?_
            refine OpTo.go (GoO.call rfl (by kernel_rfl) (by kernel_rfl) (session_Table_Begin_ok n (⟨f_14, f_15, f_16⟩ : T_session_Table) ((rdL calls_1 x_25).Id) ((rdL calls_1 x_25).Seq) b_7 A_17 c_18) [[0], [40], [41]] [(40, 1), (41, 2)] [(1, 2)] [(2, 0)] (hks := [0, 1]) (bks := [1, 2, 3]) (by kernel_rfl) (by kernel_rfl) (by kernel_rfl) (.inl rfl) rfl rfl (by kernel_rfl) (by kernel_rfl) _ (fun _ _ => rfl) _ _ (fun _ _ => rfl) (fun _ _ => rfl) (fun _ _ => by kernel_rfl) (fun _ _ => by kernel_rfl) (fun r_41 x_62 => ?_))
            obtain ⟨A_42, c_43⟩ := x_62
            refine GoO.shape (env' := [(3, .pointer (some ⟨b_7, 0, none⟩)), (4, .map (mA A_20)), (5, .map (mA A_23)), (7, .pointer (some ⟨b_28, 0, none⟩)), (8, .pointer (some ⟨b_40, 0, none⟩)), (18, .slice A_2 calls_1.length c_3), (19, .int .i64 (calls_1.length : Int)), (20, .int .i64 x_25), (35, .pointer (some ⟨b_7, 0, none⟩)), (37, .int .u64 ((rdL calls_1 x_25).Id)), (39, .int .u64 ((rdL calls_1 x_25).Seq)), (40, .tuple ⟨[.agg ⟨[.int .i64 r_41.1.Err, .int .u64 r_41.1.Num, .int .u64 r_41.1.Extra]⟩, .bool r_41.2.1]⟩)]) (H' := [⟨40, b_7, [.int .u64 r_41.2.2.now, .int .u64 r_41.2.2.next, .slice A_42 r_41.2.2.rows.length c_43]⟩, ⟨45, b_40, [.int .u64 ((rdL calls_1 x_25).Id), .int .u64 ((rdL calls_1 x_25).Seq)]⟩, ⟨44, b_28, [.int .i64 ((rdL calls_1 x_25).Kind), .int .u64 ((rdL calls_1 x_25).Id), .int .u64 ((rdL calls_1 x_25).Seq), .int .i64 ((rdL calls_1 x_25).Reply.Err), .int .u64 ((rdL calls_1 x_25).Reply.Num), .int .u64 ((rdL calls_1 x_25).Reply.Extra)]⟩]) (B' := [Ow 41 kT_session_Row A_42 c_43 r_41.2.2.rows, Mp 42 ky26 (fun v : T_api_Reply => .agg ⟨[.int .i64 v.Err, .int .u64 v.Num, .int .u64 v.Extra]⟩) A_20 c_21 done_19, Mp 43 ky27 (fun v => .int .u64 v) A_23 c_24 last_22, Rd 0 kT_tontinelaw15_Call A_2 c_3 calls_1]) (ks := [3, 4, 5, 7, 8, 18, 19, 20, 35, 37, 39, 40]) (by kernel_rfl) (by kernel_rfl) (by kernel_rfl) ?_
            refine GoO.exec (is := [6, 7, 8]) (hs := [.p, .p, .p]) (rest := [9, 10, 11]) (ks := [3, 4, 5, 7, 8, 18, 19, 20, 41, 42]) (env' := [(3, .pointer (some ⟨b_7, 0, none⟩)), (4, .map (mA A_20)), (5, .map (mA A_23)), (7, .pointer (some ⟨b_28, 0, none⟩)), (8, .pointer (some ⟨b_40, 0, none⟩)), (18, .slice A_2 calls_1.length c_3), (19, .int .i64 (calls_1.length : Int)), (20, .int .i64 x_25), (41, .agg ⟨[.int .i64 r_41.1.Err, .int .u64 r_41.1.Num, .int .u64 r_41.1.Extra]⟩), (42, .bool r_41.2.1)]) (H' := [⟨40, b_7, [.int .u64 r_41.2.2.now, .int .u64 r_41.2.2.next, .slice A_42 r_41.2.2.rows.length c_43]⟩, ⟨45, b_40, [.int .u64 ((rdL calls_1 x_25).Id), .int .u64 ((rdL calls_1 x_25).Seq)]⟩, ⟨44, b_28, [.int .i64 ((rdL calls_1 x_25).Kind), .int .u64 ((rdL calls_1 x_25).Id), .int .u64 ((rdL calls_1 x_25).Seq), .int .i64 ((rdL calls_1 x_25).Reply.Err), .int .u64 ((rdL calls_1 x_25).Reply.Num), .int .u64 ((rdL calls_1 x_25).Reply.Extra)]⟩]) (ps := []) (by kernel_rfl) trivial ?_
            refine OpTo.go (GoO.new rfl 46 (cs := [.int .i64 0, .int .u64 0, .int .u64 0]) (by kernel_rfl) _ (fun _ => rfl) (fun b_44 => ?_))
            refine GoO.exec (is := [10, 11]) (hs := [.b 0, .p]) (rest := []) (ks := [3, 4, 5, 7, 8, 9, 10, 18, 19, 20]) (env' := [(3, .pointer (some ⟨b_7, 0, none⟩)), (4, .map (mA A_20)), (5, .map (mA A_23)), (7, .pointer (some ⟨b_28, 0, none⟩)), (8, .pointer (some ⟨b_40, 0, none⟩)), (9, .pointer (some ⟨b_44, 0, none⟩)), (10, .bool r_41.2.1), (18, .slice A_2 calls_1.length c_3), (19, .int .i64 (calls_1.length : Int)), (20, .int .i64 x_25)]) (H' := [⟨46, b_44, [.int .i64 r_41.1.Err, .int .u64 r_41.1.Num, .int .u64 r_41.1.Extra]⟩, ⟨40, b_7, [.int .u64 r_41.2.2.now, .int .u64 r_41.2.2.next, .slice A_42 r_41.2.2.rows.length c_43]⟩, ⟨45, b_40, [.int .u64 ((rdL calls_1 x_25).Id), .int .u64 ((rdL calls_1 x_25).Seq)]⟩, ⟨44, b_28, [.int .i64 ((rdL calls_1 x_25).Kind), .int .u64 ((rdL calls_1 x_25).Id), .int .u64 ((rdL calls_1 x_25).Seq), .int .i64 ((rdL calls_1 x_25).Reply.Err), .int .u64 ((rdL calls_1 x_25).Reply.Num), .int .u64 ((rdL calls_1 x_25).Reply.Extra)]⟩]) (ps := [b_44 = b_44]) (by kernel_rfl) (And.intro rfl trivial) ?_
            refine GoO.regionEnd ?_
            refine GoO.seq' c3_52e ?_
            refine GoO.region' (is := [0, 1, 2, 3, 4, 5, 6, 7, 8]) c3_53e (by kernel_rfl) ?_
            refine GoO.exec (is := [0, 1]) (hs := [.p, .b 2]) (rest := [2, 3, 4, 5, 6, 7, 8]) (ks := [3, 4, 5, 7, 8, 9, 10, 18, 19, 20, 44, 45]) (env' := [(3, .pointer (some ⟨b_7, 0, none⟩)), (4, .map (mA A_20)), (5, .map (mA A_23)), (7, .pointer (some ⟨b_28, 0, none⟩)), (8, .pointer (some ⟨b_40, 0, none⟩)), (9, .pointer (some ⟨b_44, 0, none⟩)), (10, .bool r_41.2.1), (18, .slice A_2 calls_1.length c_3), (19, .int .i64 (calls_1.length : Int)), (20, .int .i64 x_25), (44, .map (mA A_20)), (45, .agg ⟨[.int .u64 ((rdL calls_1 x_25).Id), .int .u64 ((rdL calls_1 x_25).Seq)]⟩)]) (H' := [⟨46, b_44, [.int .i64 r_41.1.Err, .int .u64 r_41.1.Num, .int .u64 r_41.1.Extra]⟩, ⟨40, b_7, [.int .u64 r_41.2.2.now, .int .u64 r_41.2.2.next, .slice A_42 r_41.2.2.rows.length c_43]⟩, ⟨45, b_40, [.int .u64 ((rdL calls_1 x_25).Id), .int .u64 ((rdL calls_1 x_25).Seq)]⟩, ⟨44, b_28, [.int .i64 ((rdL calls_1 x_25).Kind), .int .u64 ((rdL calls_1 x_25).Id), .int .u64 ((rdL calls_1 x_25).Seq), .int .i64 ((rdL calls_1 x_25).Reply.Err), .int .u64 ((rdL calls_1 x_25).Reply.Num), .int .u64 ((rdL calls_1 x_25).Reply.Extra)]⟩]) (ps := [b_40 = b_40]) (by kernel_rfl) (And.intro rfl trivial) ?_
            refine OpTo.go (GoO.mapLk (vt := 31) (K := ky26) (ev := (fun v : T_api_Reply => .agg ⟨[.int .i64 v.Err, .int .u64 v.Num, .int .u64 v.Extra]⟩)) (A := A_20) (c := c_21) (l := done_19) (key := (⟨(rdL calls_1 x_25).Id, (rdL calls_1 x_25).Seq⟩ : T_tontinelaw15_one)) (j := 1) rfl (by kernel_rfl) (by kernel_rfl) (by kernel_rfl) rfl (⟨0, 0, 0⟩ : T_api_Reply) (fun _ => by kernel_rfl) rfl ?_)
            refine GoO.exec (is := [3, 4, 5]) (hs := [.p, .p, .p]) (rest := [6, 7, 8]) (ks := [3, 4, 5, 7, 8, 9, 10, 18, 19, 20, 47, 48]) (env' := [(3, .pointer (some ⟨b_7, 0, none⟩)), (4, .map (mA A_20)), (5, .map (mA A_23)), (7, .pointer (some ⟨b_28, 0, none⟩)), (8, .pointer (some ⟨b_40, 0, none⟩)), (9, .pointer (some ⟨b_44, 0, none⟩)), (10, .bool r_41.2.1), (18, .slice A_2 calls_1.length c_3), (19, .int .i64 (calls_1.length : Int)), (20, .int .i64 x_25), (47, .agg ⟨[.int .i64 (((getA (⟨(rdL calls_1 x_25).Id, (rdL calls_1 x_25).Seq⟩ : T_tontinelaw15_one) done_19).getD (⟨0, 0, 0⟩ : T_api_Reply)).Err), .int .u64 (((getA (⟨(rdL calls_1 x_25).Id, (rdL calls_1 x_25).Seq⟩ : T_tontinelaw15_one) done_19).getD (⟨0, 0, 0⟩ : T_api_Reply)).Num), .int .u64 (((getA (⟨(rdL calls_1 x_25).Id, (rdL calls_1 x_25).Seq⟩ : T_tontinelaw15_one) done_19).getD (⟨0, 0, 0⟩ : T_api_Reply)).Extra)]⟩), (48, .bool ((getA (⟨(rdL calls_1 x_25).Id, (rdL calls_1 x_25).Seq⟩ : T_tontinelaw15_one) done_19).isSome))]) (H' := [⟨46, b_44, [.int .i64 r_41.1.Err, .int .u64 r_41.1.Num, .int .u64 r_41.1.Extra]⟩, ⟨40, b_7, [.int .u64 r_41.2.2.now, .int .u64 r_41.2.2.next, .slice A_42 r_41.2.2.rows.length c_43]⟩, ⟨45, b_40, [.int .u64 ((rdL calls_1 x_25).Id), .int .u64 ((rdL calls_1 x_25).Seq)]⟩, ⟨44, b_28, [.int .i64 ((rdL calls_1 x_25).Kind), .int .u64 ((rdL calls_1 x_25).Id), .int .u64 ((rdL calls_1 x_25).Seq), .int .i64 ((rdL calls_1 x_25).Reply.Err), .int .u64 ((rdL calls_1 x_25).Reply.Num), .int .u64 ((rdL calls_1 x_25).Reply.Extra)]⟩]) (ps := []) (by kernel_rfl) trivial ?_
            refine OpTo.go (GoO.new rfl 47 (cs := [.int .i64 0, .int .u64 0, .int .u64 0]) (by kernel_rfl) _ (fun _ => rfl) (fun b_45 => ?_))
            refine GoO.exec (is := [7, 8]) (hs := [.b 0, .p]) (rest := []) (ks := [3, 4, 5, 7, 8, 9, 10, 11, 12, 18, 19, 20]) (env' := [(3, .pointer (some ⟨b_7, 0, none⟩)), (4, .map (mA A_20)), (5, .map (mA A_23)), (7, .pointer (some ⟨b_28, 0, none⟩)), (8, .pointer (some ⟨b_40, 0, none⟩)), (9, .pointer (some ⟨b_44, 0, none⟩)), (10, .bool r_41.2.1), (11, .pointer (some ⟨b_45, 0, none⟩)), (12, .bool ((getA (⟨(rdL calls_1 x_25).Id, (rdL calls_1 x_25).Seq⟩ : T_tontinelaw15_one) done_19).isSome)), (18, .slice A_2 calls_1.length c_3), (19, .int .i64 (calls_1.length : Int)), (20, .int .i64 x_25)]) (H' := [⟨47, b_45, [.int .i64 (((getA (⟨(rdL calls_1 x_25).Id, (rdL calls_1 x_25).Seq⟩ : T_tontinelaw15_one) done_19).getD (⟨0, 0, 0⟩ : T_api_Reply)).Err), .int .u64 (((getA (⟨(rdL calls_1 x_25).Id, (rdL calls_1 x_25).Seq⟩ : T_tontinelaw15_one) done_19).getD (⟨0, 0, 0⟩ : T_api_Reply)).Num), .int .u64 (((getA (⟨(rdL calls_1 x_25).Id, (rdL calls_1 x_25).Seq⟩ : T_tontinelaw15_one) done_19).getD (⟨0, 0, 0⟩ : T_api_Reply)).Extra)]⟩, ⟨46, b_44, [.int .i64 r_41.1.Err, .int .u64 r_41.1.Num, .int .u64 r_41.1.Extra]⟩, ⟨40, b_7, [.int .u64 r_41.2.2.now, .int .u64 r_41.2.2.next, .slice A_42 r_41.2.2.rows.length c_43]⟩, ⟨45, b_40, [.int .u64 ((rdL calls_1 x_25).Id), .int .u64 ((rdL calls_1 x_25).Seq)]⟩, ⟨44, b_28, [.int .i64 ((rdL calls_1 x_25).Kind), .int .u64 ((rdL calls_1 x_25).Id), .int .u64 ((rdL calls_1 x_25).Seq), .int .i64 ((rdL calls_1 x_25).Reply.Err), .int .u64 ((rdL calls_1 x_25).Reply.Num), .int .u64 ((rdL calls_1 x_25).Reply.Extra)]⟩]) (ps := [b_45 = b_45]) (by kernel_rfl) (And.intro rfl trivial) ?_
            refine GoO.regionEnd ?_
            refine GoO.seq' c3_54e ?_
            refine GoO.seq' c3_55e ?_
            refine GoO.region' (is := [0, 1, 2, 3, 4, 5, 6, 7, 8, 9, 10, 11, 12, 13, 14, 15, 16, 17, 18, 19, 20, 21]) c3_56e (by kernel_rfl) ?_
            refine GoO.exec (is := [0, 1]) (hs := [.p, .p]) (rest := [2, 3, 4, 5, 6, 7, 8, 9, 10, 11, 12, 13, 14, 15, 16, 17, 18, 19, 20, 21]) (ks := [3, 4, 5, 7, 8, 9, 10, 11, 12, 18, 19, 20, 50]) (env' := [(3, .pointer (some ⟨b_7, 0, none⟩)), (4, .map (mA A_20)), (5, .map (mA A_23)), (7, .pointer (some ⟨b_28, 0, none⟩)), (8, .pointer (some ⟨b_40, 0, none⟩)), (9, .pointer (some ⟨b_44, 0, none⟩)), (10, .bool r_41.2.1), (11, .pointer (some ⟨b_45, 0, none⟩)), (12, .bool ((getA (⟨(rdL calls_1 x_25).Id, (rdL calls_1 x_25).Seq⟩ : T_tontinelaw15_one) done_19).isSome)), (18, .slice A_2 calls_1.length c_3), (19, .int .i64 (calls_1.length : Int)), (20, .int .i64 x_25), (50, .bool r_41.2.1)]) (H' := [⟨47, b_45, [.int .i64 (((getA (⟨(rdL calls_1 x_25).Id, (rdL calls_1 x_25).Seq⟩ : T_tontinelaw15_one) done_19).getD (⟨0, 0, 0⟩ : T_api_Reply)).Err), .int .u64 (((getA (⟨(rdL calls_1 x_25).Id, (rdL calls_1 x_25).Seq⟩ : T_tontinelaw15_one) done_19).getD (⟨0, 0, 0⟩ : T_api_Reply)).Num), .int .u64 (((getA (⟨(rdL calls_1 x_25).Id, (rdL calls_1 x_25).Seq⟩ : T_tontinelaw15_one) done_19).getD (⟨0, 0, 0⟩ : T_api_Reply)).Extra)]⟩, ⟨46, b_44, [.int .i64 r_41.1.Err, .int .u64 r_41.1.Num, .int .u64 r_41.1.Extra]⟩, ⟨40, b_7, [.int .u64 r_41.2.2.now, .int .u64 r_41.2.2.next, .slice A_42 r_41.2.2.rows.length c_43]⟩, ⟨45, b_40, [.int .u64 ((rdL calls_1 x_25).Id), .int .u64 ((rdL calls_1 x_25).Seq)]⟩, ⟨44, b_28, [.int .i64 ((rdL calls_1 x_25).Kind), .int .u64 ((rdL calls_1 x_25).Id), .int .u64 ((rdL calls_1 x_25).Seq), .int .i64 ((rdL calls_1 x_25).Reply.Err), .int .u64 ((rdL calls_1 x_25).Reply.Num), .int .u64 ((rdL calls_1 x_25).Reply.Extra)]⟩]) (ps := []) (by kernel_rfl) trivial ?_
            refine GoO.bsplit (t := 50) (by kernel_rfl) (fun h46 => ?_) (fun h46 => ?_)
            · refine GoO.exec (is := [2, 3]) (hs := [.p, .p]) (rest := [4, 5, 6, 7, 8, 9, 10, 11, 12, 13, 14, 15, 16, 17, 18, 19, 20, 21]) (ks := [3, 4, 5, 7, 8, 9, 10, 11, 12, 18, 19, 20, 52]) (env' := [(3, .pointer (some ⟨b_7, 0, none⟩)), (4, .map (mA A_20)), (5, .map (mA A_23)), (7, .pointer (some ⟨b_28, 0, none⟩)), (8, .pointer (some ⟨b_40, 0, none⟩)), (9, .pointer (some ⟨b_44, 0, none⟩)), (10, .bool r_41.2.1), (11, .pointer (some ⟨b_45, 0, none⟩)), (12, .bool ((getA (⟨(rdL calls_1 x_25).Id, (rdL calls_1 x_25).Seq⟩ : T_tontinelaw15_one) done_19).isSome)), (18, .slice A_2 calls_1.length c_3), (19, .int .i64 (calls_1.length : Int)), (20, .int .i64 x_25), (52, .bool ((getA (⟨(rdL calls_1 x_25).Id, (rdL calls_1 x_25).Seq⟩ : T_tontinelaw15_one) done_19).isSome))]) (H' := [⟨47, b_45, [.int .i64 (((getA (⟨(rdL calls_1 x_25).Id, (rdL calls_1 x_25).Seq⟩ : T_tontinelaw15_one) done_19).getD (⟨0, 0, 0⟩ : T_api_Reply)).Err), .int .u64 (((getA (⟨(rdL calls_1 x_25).Id, (rdL calls_1 x_25).Seq⟩ : T_tontinelaw15_one) done_19).getD (⟨0, 0, 0⟩ : T_api_Reply)).Num), .int .u64 (((getA (⟨(rdL calls_1 x_25).Id, (rdL calls_1 x_25).Seq⟩ : T_tontinelaw15_one) done_19).getD (⟨0, 0, 0⟩ : T_api_Reply)).Extra)]⟩, ⟨46, b_44, [.int .i64 r_41.1.Err, .int .u64 r_41.1.Num, .int .u64 r_41.1.Extra]⟩, ⟨40, b_7, [.int .u64 r_41.2.2.now, .int .u64 r_41.2.2.next, .slice A_42 r_41.2.2.rows.length c_43]⟩, ⟨45, b_40, [.int .u64 ((rdL calls_1 x_25).Id), .int .u64 ((rdL calls_1 x_25).Seq)]⟩, ⟨44, b_28, [.int .i64 ((rdL calls_1 x_25).Kind), .int .u64 ((rdL calls_1 x_25).Id), .int .u64 ((rdL calls_1 x_25).Seq), .int .i64 ((rdL calls_1 x_25).Reply.Err), .int .u64 ((rdL calls_1 x_25).Reply.Num), .int .u64 ((rdL calls_1 x_25).Reply.Extra)]⟩]) (ps := []) (by kernel_rfl) trivial ?_
              exact GoO.sub (ks := [3, 4, 5, 7, 8, 9, 10, 11, 12, 18, 19, 20, 52]) (hk := [2, 4, 3, 1, 0]) (bk := [0, 1, 2, 3]) (by kernel_rfl) (by kernel_rfl) (by kernel_rfl) (tontinelaw15_SessionOnce_j2_ok n (tontinelaw15_SessionOnce.l0 n calls_1 k) calls_1 f_14 f_15 f_16 done_19 last_22 x_25 r_41 A_2 c_3 b_7 A_17 c_18 A_20 c_21 A_23 c_24 b_28 b_40 A_42 c_43 b_44 b_45 w0 S0 ih0 ((getA (⟨(rdL calls_1 x_25).Id, (rdL calls_1 x_25).Seq⟩ : T_tontinelaw15_one) done_19).isSome))
            · refine GoO.exec (is := [2, 3]) (hs := [.p, .p]) (rest := [4, 5, 6, 7, 8, 9, 10, 11, 12, 13, 14, 15, 16, 17, 18, 19, 20, 21]) (ks := [3, 4, 5, 7, 8, 9, 10, 11, 12, 18, 19, 20, 52]) (env' := [(3, .pointer (some ⟨b_7, 0, none⟩)), (4, .map (mA A_20)), (5, .map (mA A_23)), (7, .pointer (some ⟨b_28, 0, none⟩)), (8, .pointer (some ⟨b_40, 0, none⟩)), (9, .pointer (some ⟨b_44, 0, none⟩)), (10, .bool r_41.2.1), (11, .pointer (some ⟨b_45, 0, none⟩)), (12, .bool ((getA (⟨(rdL calls_1 x_25).Id, (rdL calls_1 x_25).Seq⟩ : T_tontinelaw15_one) done_19).isSome)), (18, .slice A_2 calls_1.length c_3), (19, .int .i64 (calls_1.length : Int)), (20, .int .i64 x_25), (52, .bool false)]) (H' := [⟨47, b_45, [.int .i64 (((getA (⟨(rdL calls_1 x_25).Id, (rdL calls_1 x_25).Seq⟩ : T_tontinelaw15_one) done_19).getD (⟨0, 0, 0⟩ : T_api_Reply)).Err), .int .u64 (((getA (⟨(rdL calls_1 x_25).Id, (rdL calls_1 x_25).Seq⟩ : T_tontinelaw15_one) done_19).getD (⟨0, 0, 0⟩ : T_api_Reply)).Num), .int .u64 (((getA (⟨(rdL calls_1 x_25).Id, (rdL calls_1 x_25).Seq⟩ : T_tontinelaw15_one) done_19).getD (⟨0, 0, 0⟩ : T_api_Reply)).Extra)]⟩, ⟨46, b_44, [.int .i64 r_41.1.Err, .int .u64 r_41.1.Num, .int .u64 r_41.1.Extra]⟩, ⟨40, b_7, [.int .u64 r_41.2.2.now, .int .u64 r_41.2.2.next, .slice A_42 r_41.2.2.rows.length c_43]⟩, ⟨45, b_40, [.int .u64 ((rdL calls_1 x_25).Id), .int .u64 ((rdL calls_1 x_25).Seq)]⟩, ⟨44, b_28, [.int .i64 ((rdL calls_1 x_25).Kind), .int .u64 ((rdL calls_1 x_25).Id), .int .u64 ((rdL calls_1 x_25).Seq), .int .i64 ((rdL calls_1 x_25).Reply.Err), .int .u64 ((rdL calls_1 x_25).Reply.Num), .int .u64 ((rdL calls_1 x_25).Reply.Extra)]⟩]) (ps := []) (by kernel_rfl) trivial ?_
              exact GoO.sub (ks := [3, 4, 5, 7, 8, 9, 10, 11, 12, 18, 19, 20, 52]) (hk := [2, 4, 3, 1, 0]) (bk := [0, 1, 2, 3]) (by kernel_rfl) (by kernel_rfl) (by kernel_rfl) (tontinelaw15_SessionOnce_j2_ok n (tontinelaw15_SessionOnce.l0 n calls_1 k) calls_1 f_14 f_15 f_16 done_19 last_22 x_25 r_41 A_2 c_3 b_7 A_17 c_18 A_20 c_21 A_23 c_24 b_28 b_40 A_42 c_43 b_44 b_45 w0 S0 ih0 false)
    · refine GoO.exit' c3_26e rfl ?_
      refine GoO.seq' c3_78e ?_
      refine GoO.region' (is := [0]) c3_79e (by kernel_rfl) ?_
      refine GoO.exec (is := [0]) (hs := [.p]) (rest := []) (ks := [2]) (env' := [(2, .bool true)]) (H' := [⟨40, b_7, [.int .u64 f_14, .int .u64 f_15, .slice A_17 f_16.length c_18]⟩]) (ps := []) (by kernel_rfl) trivial ?_
      refine GoO.regionEnd ?_
      exact GoO.ret' (h := c3_80e) (hs := []) (ps := []) (hk := []) (bk := []) Try.func3 () (by kernel_rfl) trivial (by kernel_rfl) (by kernel_rfl)
theorem tontinelaw15_SessionOnce_ok (n : Nat) (calls_1 : (List T_tontinelaw15_Call)) (A_2 : Option Addr) (c_3 : Nat) :
    Meets Try.prog 3 [.slice A_2 calls_1.length c_3] 0 [] [] [Rd 0 kT_tontinelaw15_Call A_2 c_3 calls_1] (tontinelaw15_SessionOnce.f n calls_1) (tontinelaw15_SessionOnce.R A_2 c_3) := by
  refine Meets.of (c := c3_0) (n := 113) Try.func3 (by kernel_rfl) (by kernel_rfl) (by kernel_rfl) fun w0 S0 => ?_
  unfold tontinelaw15_SessionOnce.f
  show GoO (tontinelaw15_SessionOnce.cx A_2 c_3 w0 S0) [(0, .slice A_2 calls_1.length c_3)] [] [Rd 0 kT_tontinelaw15_Call A_2 c_3 calls_1] [.code c3_0] _
  refine GoO.seq' c3_0e ?_
  refine GoO.region' (is := [0]) c3_1e (by kernel_rfl) ?_
  refine GoO.exec (is := [0]) (hs := [.p]) (rest := []) (ks := [0]) (env' := [(0, .slice A_2 calls_1.length c_3)]) (H' := []) (ps := []) (by kernel_rfl) trivial ?_
  refine GoO.regionEnd ?_
  refine GoO.seq' c3_2e ?_
  refine GoO.seq' c3_3e ?_
  refine GoO.region' (is := [0, 1]) c3_4e (by kernel_rfl) ?_
  refine OpTo.go (GoO.call rfl (by kernel_rfl) (by kernel_rfl) (tontinelaw15_begun_ok n) [[0]] [] [] [] (hks := []) (bks := [0]) (by kernel_rfl) (by kernel_rfl) (by kernel_rfl) (.inl rfl) rfl rfl (by kernel_rfl) (by kernel_rfl) _ (fun _ _ => rfl) _ _ (fun _ _ => rfl) (fun _ _ => rfl) (fun _ _ => by kernel_rfl) (fun _ _ => by kernel_rfl) (fun r_4 x_64 => ?_))
  refine GoO.shape (env' := [(0, .slice A_2 calls_1.length c_3), (13, .bool r_4)]) (H' := []) (B' := [Rd 0 kT_tontinelaw15_Call A_2 c_3 calls_1]) (ks := [0, 13]) (by kernel_rfl) (by kernel_rfl) (by kernel_rfl) ?_
  refine GoO.exec (is := [1]) (hs := [.p]) (rest := []) (ks := [0, 14]) (env' := [(0, .slice A_2 calls_1.length c_3), (14, .bool (!r_4))]) (H' := []) (ps := []) (by kernel_rfl) trivial ?_
  refine GoO.regionEnd ?_
  refine GoO.ite' c3_5e (by kernel_rfl) (fun h5 => ?_) (fun h5 => ?_)
  · refine GoO.seq' c3_6e ?_
    refine GoO.region' (is := [0]) c3_7e (by kernel_rfl) ?_
    refine GoO.exec (is := [0]) (hs := [.p]) (rest := []) (ks := [2]) (env' := [(2, .bool false)]) (H' := []) (ps := []) (by kernel_rfl) trivial ?_
    refine GoO.regionEnd ?_
    exact GoO.ret' (h := c3_8e) (hs := []) (ps := []) (hk := []) (bk := []) Try.func3 () (by kernel_rfl) trivial (by kernel_rfl) (by kernel_rfl)
  · refine GoO.skip' c3_9e ?_
    refine GoO.seq' c3_10e ?_
    refine GoO.region' (is := [0, 1]) c3_11e (by kernel_rfl) ?_
    refine OpTo.go (GoO.call rfl (by kernel_rfl) (by kernel_rfl) (session_New_ok n) [[0]] [(40, 1), (41, 2)] [] [] (hks := []) (bks := [0]) (by kernel_rfl) (by kernel_rfl) (by kernel_rfl) (.inl rfl) rfl rfl (by kernel_rfl) (by kernel_rfl) _ (fun _ _ => rfl) _ _ (fun _ _ => rfl) (fun _ _ => rfl) (fun _ _ => by kernel_rfl) (fun _ _ => by kernel_rfl) (fun r_6 x_63 => ?_))
    obtain ⟨b_7, A_8, c_9⟩ := x_63
    refine GoO.shape (env' := [(0, .slice A_2 calls_1.length c_3), (14, .bool (!r_4)), (15, .pointer (some ⟨b_7, 0, none⟩))]) (H' := [⟨40, b_7, [.int .u64 r_6.now, .int .u64 r_6.next, .slice A_8 r_6.rows.length c_9]⟩]) (B' := [Ow 41 kT_session_Row A_8 c_9 r_6.rows, Rd 0 kT_tontinelaw15_Call A_2 c_3 calls_1]) (ks := [0, 14, 15]) (by kernel_rfl) (by kernel_rfl) (by kernel_rfl) ?_
    refine GoO.exec (is := [1]) (hs := [.p]) (rest := []) (ks := [0, 3]) (env' := [(0, .slice A_2 calls_1.length c_3), (3, .pointer (some ⟨b_7, 0, none⟩))]) (H' := [⟨40, b_7, [.int .u64 r_6.now, .int .u64 r_6.next, .slice A_8 r_6.rows.length c_9]⟩]) (ps := []) (by kernel_rfl) trivial ?_
    refine GoO.regionEnd ?_
    refine GoO.seq' c3_12e ?_
    refine GoO.region' (is := [0, 1]) c3_13e (by kernel_rfl) ?_
    refine OpTo.go (GoO.mkMap rfl 42 ky26 (fun v : T_api_Reply => .agg ⟨[.int .i64 v.Err, .int .u64 v.Num, .int .u64 v.Extra]⟩) _ (fun _ _ => rfl) (fun A_10 c_11 => ?_))
    refine GoO.exec (is := [1]) (hs := [.p]) (rest := []) (ks := [0, 3, 4]) (env' := [(0, .slice A_2 calls_1.length c_3), (3, .pointer (some ⟨b_7, 0, none⟩)), (4, .map (mA A_10))]) (H' := [⟨40, b_7, [.int .u64 r_6.now, .int .u64 r_6.next, .slice A_8 r_6.rows.length c_9]⟩]) (ps := []) (by kernel_rfl) trivial ?_
    refine GoO.regionEnd ?_
    refine GoO.seq' c3_14e ?_
    refine GoO.region' (is := [0, 1]) c3_15e (by kernel_rfl) ?_
    refine OpTo.go (GoO.mkMap rfl 43 ky27 (fun v => .int .u64 v) _ (fun _ _ => rfl) (fun A_12 c_13 => ?_))
    refine GoO.exec (is := [1]) (hs := [.p]) (rest := []) (ks := [0, 3, 4, 5]) (env' := [(0, .slice A_2 calls_1.length c_3), (3, .pointer (some ⟨b_7, 0, none⟩)), (4, .map (mA A_10)), (5, .map (mA A_12))]) (H' := [⟨40, b_7, [.int .u64 r_6.now, .int .u64 r_6.next, .slice A_8 r_6.rows.length c_9]⟩]) (ps := []) (by kernel_rfl) trivial ?_
    refine GoO.regionEnd ?_
    refine GoO.seq' c3_16e ?_
    refine GoO.seq' c3_17e ?_
    refine GoO.region' (is := [0, 1, 2]) c3_18e (by kernel_rfl) ?_
    refine GoO.exec (is := [0, 1, 2]) (hs := [.p, .p, .p]) (rest := []) (ks := [3, 4, 5, 18, 19, 20]) (env' := [(3, .pointer (some ⟨b_7, 0, none⟩)), (4, .map (mA A_10)), (5, .map (mA A_12)), (18, .slice A_2 calls_1.length c_3), (19, .int .i64 (calls_1.length : Int)), (20, .int .i64 0)]) (H' := [⟨40, b_7, [.int .u64 r_6.now, .int .u64 r_6.next, .slice A_8 r_6.rows.length c_9]⟩]) (ps := []) (by kernel_rfl) trivial ?_
    refine GoO.regionEnd ?_
    refine GoO.block' c3_19e ?_
    refine GoO.loop' c3_20e ?_
    exact GoO.sub (ks := [3, 4, 5, 18, 19, 20]) (hk := [0]) (bk := [2, 1, 0, 3]) (by kernel_rfl) (by kernel_rfl) (by kernel_rfl) (tontinelaw15_SessionOnce_l0_ok n calls_1 A_2 c_3 b_7 w0 S0 n r_6.now r_6.next r_6.rows ([] : List (T_tontinelaw15_one × T_api_Reply)) ([] : List (Int × Int)) 0 A_8 c_9 A_10 c_11 A_12 c_13)
end Go.GL
