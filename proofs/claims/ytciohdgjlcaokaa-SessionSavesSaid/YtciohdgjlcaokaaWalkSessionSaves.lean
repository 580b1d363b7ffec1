import Derived.Test.YtciohdgjlcaokaaWalkSessionSavesP1
import Derived.Test.YtciohdgjlcaokaaKindsT3
import Derived.Test.YtciohdgjlcaokaaProg
set_option linter.unusedVariables false
set_option linter.unusedSimpArgs false
set_option maxRecDepth 100000
namespace Go.GL
open Go Go.Proofs
theorem session_Read_ok (n : Nat) (r_1 : T_pack_Reader) (b_2 : Nat) :
    Meets Try.prog 35 [.pointer (some ⟨b_2, 0, none⟩)] 1 [1] [⟨1, b_2, [.string (bs r_1.s), .bool r_1.bad]⟩] [] (session_Read.f n r_1) (session_Read.R b_2) := by
  refine Meets.of (c := c35_0) (n := 107) Try.func35 (by kernel_rfl) (by kernel_rfl) (by kernel_rfl) fun w0 S0 => ?_
  unfold session_Read.f
  show GoO (session_Read.cx b_2 w0 S0) [(0, .pointer (some ⟨b_2, 0, none⟩))] [⟨1, b_2, [.string (bs r_1.s), .bool r_1.bad]⟩] [] [.code c35_0] _
  refine GoO.seq' c35_0e ?_
  refine GoO.region' (is := [0]) c35_1e (by kernel_rfl) ?_
  refine GoO.exec (is := [0]) (hs := [.p]) (rest := []) (ks := [0]) (env' := [(0, .pointer (some ⟨b_2, 0, none⟩))]) (H' := [⟨1, b_2, [.string (bs r_1.s), .bool r_1.bad]⟩]) (ps := []) (by kernel_rfl) trivial ?_
  refine GoO.regionEnd ?_
  refine GoO.seq' c35_2e ?_
  refine GoO.region' (is := [0, 1, 2]) c35_3e (by kernel_rfl) ?_
  refine GoO.exec (is := [0]) (hs := [.p]) (rest := [1, 2]) (ks := [0, 9]) (env' := [(0, .pointer (some ⟨b_2, 0, none⟩)), (9, .agg ⟨[.int .u64 0, .int .u64 0, .slice none ([] : List T_session_Row).length 0]⟩)]) (H' := [⟨1, b_2, [.string (bs r_1.s), .bool r_1.bad]⟩]) (ps := []) (by kernel_rfl) trivial ?_
  refine OpTo.go (GoO.new rfl 40 (cs := [.int .u64 0, .int .u64 0, .slice none ([] : List T_session_Row).length 0]) (by kernel_rfl) _ (fun _ => rfl) (fun b_3 => ?_))
  refine GoO.exec (is := [2]) (hs := [.p]) (rest := []) (ks := [0, 3]) (env' := [(0, .pointer (some ⟨b_2, 0, none⟩)), (3, .pointer (some ⟨b_3, 0, none⟩))]) (H' := [⟨40, b_3, [.int .u64 0, .int .u64 0, .slice none ([] : List T_session_Row).length 0]⟩, ⟨1, b_2, [.string (bs r_1.s), .bool r_1.bad]⟩]) (ps := []) (by kernel_rfl) trivial ?_
  refine GoO.regionEnd ?_
  refine GoO.seq' c35_4e ?_
  refine GoO.region' (is := [0, 1, 2, 3, 4, 5]) c35_5e (by kernel_rfl) ?_
  refine GoO.exec (is := [0, 1]) (hs := [.p, .p]) (rest := [2, 3, 4, 5]) (ks := [0, 3, 11, 12]) (env' := [(0, .pointer (some ⟨b_2, 0, none⟩)), (3, .pointer (some ⟨b_3, 0, none⟩)), (11, .pointer (some ⟨b_3, 0, none⟩)), (12, .pointer (some ⟨b_2, 0, none⟩))]) (H' := [⟨40, b_3, [.int .u64 0, .int .u64 0, .slice none ([] : List T_session_Row).length 0]⟩, ⟨1, b_2, [.string (bs r_1.s), .bool r_1.bad]⟩]) (ps := []) (by kernel_rfl) trivial ?_
  refine OpTo.go (GoO.call rfl (by kernel_rfl) (by kernel_rfl) (pack_Reader_Num_ok n r_1 b_2) [[0], [1]] [(1, 1)] [(1, 1)] [] (hks := [0]) (bks := []) (by kernel_rfl) (by kernel_rfl) (by kernel_rfl) (.inl rfl) rfl rfl (by kernel_rfl) (by kernel_rfl) _ (fun _ _ => rfl) _ _ (fun _ _ => rfl) (fun _ _ => rfl) (fun _ _ => by kernel_rfl) (fun _ _ => by kernel_rfl) (fun r_4 x_44 => ?_))
  refine GoO.shape (env' := [(0, .pointer (some ⟨b_2, 0, none⟩)), (3, .pointer (some ⟨b_3, 0, none⟩)), (11, .pointer (some ⟨b_3, 0, none⟩)), (12, .pointer (some ⟨b_2, 0, none⟩)), (13, .int .u64 r_4.1)]) (H' := [⟨1, b_2, [.string (bs r_4.2.s), .bool r_4.2.bad]⟩, ⟨40, b_3, [.int .u64 0, .int .u64 0, .slice none ([] : List T_session_Row).length 0]⟩]) (B' := []) (ks := [0, 3, 11, 12, 13]) (by kernel_rfl) (by kernel_rfl) (by kernel_rfl) ?_
  refine GoO.exec (is := [3, 4, 5]) (hs := [.p, .p, .b 1]) (rest := []) (ks := [0, 3]) (env' := [(0, .pointer (some ⟨b_2, 0, none⟩)), (3, .pointer (some ⟨b_3, 0, none⟩))]) (H' := [⟨1, b_2, [.string (bs r_4.2.s), .bool r_4.2.bad]⟩, ⟨40, b_3, [.int .u64 r_4.1, .int .u64 0, .slice none ([] : List T_session_Row).length 0]⟩]) (ps := [b_3 = b_3]) (by kernel_rfl) (And.intro rfl trivial) ?_
  refine GoO.regionEnd ?_
  refine GoO.seq' c35_6e ?_
  refine GoO.region' (is := [0, 1, 2, 3, 4, 5]) c35_7e (by kernel_rfl) ?_
  refine GoO.exec (is := [0, 1]) (hs := [.p, .p]) (rest := [2, 3, 4, 5]) (ks := [0, 3, 16, 17]) (env' := [(0, .pointer (some ⟨b_2, 0, none⟩)), (3, .pointer (some ⟨b_3, 0, none⟩)), (16, .pointer (some ⟨b_3, 0, none⟩)), (17, .pointer (some ⟨b_2, 0, none⟩))]) (H' := [⟨1, b_2, [.string (bs r_4.2.s), .bool r_4.2.bad]⟩, ⟨40, b_3, [.int .u64 r_4.1, .int .u64 0, .slice none ([] : List T_session_Row).length 0]⟩]) (ps := []) (by kernel_rfl) trivial ?_
  refine OpTo.go (GoO.call rfl (by kernel_rfl) (by kernel_rfl) (pack_Reader_Num_ok n r_4.2 b_2) [[0], [1]] [(1, 1)] [(1, 0)] [] (hks := [1]) (bks := []) (by kernel_rfl) (by kernel_rfl) (by kernel_rfl) (.inl rfl) rfl rfl (by kernel_rfl) (by kernel_rfl) _ (fun _ _ => rfl) _ _ (fun _ _ => rfl) (fun _ _ => rfl) (fun _ _ => by kernel_rfl) (fun _ _ => by kernel_rfl) (fun r_5 x_43 => ?_))
  refine GoO.shape (env' := [(0, .pointer (some ⟨b_2, 0, none⟩)), (3, .pointer (some ⟨b_3, 0, none⟩)), (16, .pointer (some ⟨b_3, 0, none⟩)), (17, .pointer (some ⟨b_2, 0, none⟩)), (18, .int .u64 r_5.1)]) (H' := [⟨1, b_2, [.string (bs r_5.2.s), .bool r_5.2.bad]⟩, ⟨40, b_3, [.int .u64 r_4.1, .int .u64 0, .slice none ([] : List T_session_Row).length 0]⟩]) (B' := []) (ks := [0, 3, 16, 17, 18]) (by kernel_rfl) (by kernel_rfl) (by kernel_rfl) ?_
  refine GoO.exec (is := [3, 4, 5]) (hs := [.p, .p, .b 1]) (rest := []) (ks := [0, 3]) (env' := [(0, .pointer (some ⟨b_2, 0, none⟩)), (3, .pointer (some ⟨b_3, 0, none⟩))]) (H' := [⟨1, b_2, [.string (bs r_5.2.s), .bool r_5.2.bad]⟩, ⟨40, b_3, [.int .u64 r_4.1, .int .u64 r_5.1, .slice none ([] : List T_session_Row).length 0]⟩]) (ps := [b_3 = b_3]) (by kernel_rfl) (And.intro rfl trivial) ?_
  refine GoO.regionEnd ?_
  refine GoO.seq' c35_8e ?_
  refine GoO.region' (is := [0]) c35_9e (by kernel_rfl) ?_
  refine GoO.exec (is := [0]) (hs := [.p]) (rest := []) (ks := [0, 3, 4]) (env' := [(0, .pointer (some ⟨b_2, 0, none⟩)), (3, .pointer (some ⟨b_3, 0, none⟩)), (4, .int .u64 0)]) (H' := [⟨1, b_2, [.string (bs r_5.2.s), .bool r_5.2.bad]⟩, ⟨40, b_3, [.int .u64 r_4.1, .int .u64 r_5.1, .slice none ([] : List T_session_Row).length 0]⟩]) (ps := []) (by kernel_rfl) trivial ?_
  refine GoO.regionEnd ?_
  refine GoO.seq' c35_10e ?_
  refine GoO.seq' c35_11e ?_
  refine GoO.region' (is := [0, 1, 2]) c35_12e (by kernel_rfl) ?_
  refine GoO.exec (is := [0]) (hs := [.p]) (rest := [1, 2]) (ks := [0, 3, 4, 21]) (env' := [(0, .pointer (some ⟨b_2, 0, none⟩)), (3, .pointer (some ⟨b_3, 0, none⟩)), (4, .int .u64 0), (21, .pointer (some ⟨b_2, 0, none⟩))]) (H' := [⟨1, b_2, [.string (bs r_5.2.s), .bool r_5.2.bad]⟩, ⟨40, b_3, [.int .u64 r_4.1, .int .u64 r_5.1, .slice none ([] : List T_session_Row).length 0]⟩]) (ps := []) (by kernel_rfl) trivial ?_
  refine OpTo.go (GoO.call rfl (by kernel_rfl) (by kernel_rfl) (pack_Reader_Up_ok n r_5.2 16 b_2) [[0], [1]] [(1, 1)] [(1, 0)] [] (hks := [1]) (bks := []) (by kernel_rfl) (by kernel_rfl) (by kernel_rfl) (.inl rfl) rfl rfl (by kernel_rfl) (by kernel_rfl) _ (fun _ _ => rfl) _ _ (fun _ _ => rfl) (fun _ _ => rfl) (fun _ _ => by kernel_rfl) (fun _ _ => by kernel_rfl) (fun r_6 x_42 => ?_))
  refine GoO.shape (env' := [(0, .pointer (some ⟨b_2, 0, none⟩)), (3, .pointer (some ⟨b_3, 0, none⟩)), (4, .int .u64 0), (21, .pointer (some ⟨b_2, 0, none⟩)), (22, .int .i64 r_6.1)]) (H' := [⟨1, b_2, [.string (bs r_6.2.s), .bool r_6.2.bad]⟩, ⟨40, b_3, [.int .u64 r_4.1, .int .u64 r_5.1, .slice none ([] : List T_session_Row).length 0]⟩]) (B' := []) (ks := [0, 3, 4, 21, 22]) (by kernel_rfl) (by kernel_rfl) (by kernel_rfl) ?_
  refine GoO.exec (is := [2]) (hs := [.p]) (rest := []) (ks := [0, 3, 4, 5]) (env' := [(0, .pointer (some ⟨b_2, 0, none⟩)), (3, .pointer (some ⟨b_3, 0, none⟩)), (4, .int .u64 0), (5, .int .i64 r_6.1)]) (H' := [⟨1, b_2, [.string (bs r_6.2.s), .bool r_6.2.bad]⟩, ⟨40, b_3, [.int .u64 r_4.1, .int .u64 r_5.1, .slice none ([] : List T_session_Row).length 0]⟩]) (ps := []) (by kernel_rfl) trivial ?_
  refine GoO.regionEnd ?_
  refine GoO.block' c35_13e ?_
  refine GoO.loop' c35_14e ?_
  refine GoO.nilOwn kT_session_Row 43 ?_
  exact GoO.sub (ks := [0, 3, 4, 5]) (hk := [0, 1]) (bk := [0]) (by kernel_rfl) (by kernel_rfl) (by kernel_rfl) (session_Read_l0_ok n r_4 r_5 b_2 b_3 w0 S0 n r_6.2.s r_6.2.bad ([] : List T_session_Row) 0 r_6.1 none 0)

/-! (*tontine/session.Table).Now -/
noncomputable def c26_0 : Code := bodyOf Try.f26
noncomputable def c26_1 : Code := cdL c26_0
noncomputable def c26_2 : Code := cdR c26_0
noncomputable def c26_3 : Code := cdL c26_2
noncomputable def c26_4 : Code := cdL c26_3
noncomputable def c26_5 : Code := cdR c26_3
noncomputable def c26_9 : Code := cdR c26_5
noncomputable def c26_10 : Code := cdR c26_2
noncomputable def c26_11 : Code := cdL c26_10
noncomputable def c26_12 : Code := cdR c26_10
noncomputable def c26_6 : Code := cdL c26_5
noncomputable def r26_1 : Array Oper := cdO c26_1
noncomputable def r26_4 : Array Oper := cdO c26_4
noncomputable def r26_11 : Array Oper := cdO c26_11
theorem c26_0e : c26_0 = .seq c26_1 c26_2 := by kernel_rfl
theorem c26_1e : c26_1 = .region 0 r26_1 false := by kernel_rfl
theorem c26_2e : c26_2 = .seq c26_3 c26_10 := by kernel_rfl
theorem c26_3e : c26_3 = .seq c26_4 c26_5 := by kernel_rfl
theorem c26_4e : c26_4 = .region 1 r26_4 false := by kernel_rfl
theorem c26_5e : c26_5 = .cond (cdC c26_5) c26_6 c26_9 := by kernel_rfl
theorem c26_9e : c26_9 = .skip := by kernel_rfl
theorem c26_10e : c26_10 = .seq c26_11 c26_12 := by kernel_rfl
theorem c26_11e : c26_11 = .region 3 r26_11 false := by kernel_rfl
theorem c26_12e : c26_12 = .ret := by kernel_rfl
noncomputable def session_Table_Now.R (b_2 : Nat) (A_3 : Option Addr) (c_4 : Nat) : Pst Int where
  ε := Unit
  v := fun r x => .int .u64 r
  H := fun r x => []
  B := fun r x => []
noncomputable def session_Table_Now.cx (b_2 : Nat) (A_3 : Option Addr) (c_4 : Nat) (w0 : World) (S0 : Fam) : Cx Int := ⟨Try.prog, 26, Try.f26, 9, w0, S0, [], 2, session_Table_Now.R b_2 A_3 c_4⟩
theorem session_Table_Now_ok (n : Nat) (t_1 : T_session_Table) (b_2 : Nat) (A_3 : Option Addr) (c_4 : Nat) :
    Meets Try.prog 26 [.pointer (some ⟨b_2, 0, none⟩)] 2 [] [⟨1, b_2, [.int .u64 t_1.now, .int .u64 t_1.next, .slice A_3 t_1.rows.length c_4]⟩] [Ow 2 kT_session_Row A_3 c_4 t_1.rows] (session_Table_Now.f n t_1) (session_Table_Now.R b_2 A_3 c_4) := by
  refine Meets.of (c := c26_0) (n := 9) Try.func26 (by kernel_rfl) (by kernel_rfl) (by kernel_rfl) fun w0 S0 => ?_
  unfold session_Table_Now.f
  show GoO (session_Table_Now.cx b_2 A_3 c_4 w0 S0) [(0, .pointer (some ⟨b_2, 0, none⟩))] [⟨1, b_2, [.int .u64 t_1.now, .int .u64 t_1.next, .slice A_3 t_1.rows.length c_4]⟩] [Ow 2 kT_session_Row A_3 c_4 t_1.rows] [.code c26_0] _
  refine GoO.seq' c26_0e ?_
  refine GoO.region' (is := [0]) c26_1e (by kernel_rfl) ?_
  refine GoO.exec (is := [0]) (hs := [.p]) (rest := []) (ks := [0]) (env' := [(0, .pointer (some ⟨b_2, 0, none⟩))]) (H' := [⟨1, b_2, [.int .u64 t_1.now, .int .u64 t_1.next, .slice A_3 t_1.rows.length c_4]⟩]) (ps := []) (by kernel_rfl) trivial ?_
  refine GoO.regionEnd ?_
  refine GoO.seq' c26_2e ?_
  refine GoO.seq' c26_3e ?_
  refine GoO.region' (is := [0, 1]) c26_4e (by kernel_rfl) ?_
  refine GoO.exec (is := [0, 1]) (hs := [.p, .p]) (rest := []) (ks := [0, 4]) (env' := [(0, .pointer (some ⟨b_2, 0, none⟩)), (4, .bool false)]) (H' := [⟨1, b_2, [.int .u64 t_1.now, .int .u64 t_1.next, .slice A_3 t_1.rows.length c_4]⟩]) (ps := []) (by kernel_rfl) trivial ?_
  refine GoO.regionEnd ?_
  refine GoO.condF c26_5e (by kernel_rfl) ?_
  refine GoO.skip' c26_9e ?_
  refine GoO.seq' c26_10e ?_
  refine GoO.region' (is := [0, 1, 2, 3, 4]) c26_11e (by kernel_rfl) ?_
  refine GoO.exec (is := [0, 1, 2, 3, 4]) (hs := [.p, .p, .p, .b 0, .p]) (rest := []) (ks := [2]) (env' := [(2, .int .u64 t_1.now)]) (H' := [⟨1, b_2, [.int .u64 t_1.now, .int .u64 t_1.next, .slice A_3 t_1.rows.length c_4]⟩]) (ps := [b_2 = b_2]) (by kernel_rfl) (And.intro rfl trivial) ?_
  refine GoO.regionEnd ?_
  exact GoO.ret' (h := c26_12e) (hs := []) (ps := []) (hk := []) (bk := []) Try.func26 () (by kernel_rfl) trivial (by kernel_rfl) (by kernel_rfl)

/-! (*tontine/session.Table).Rows -/
noncomputable def c24_0 : Code := bodyOf Try.f24
noncomputable def c24_1 : Code := cdL c24_0
noncomputable def c24_2 : Code := cdR c24_0
noncomputable def c24_3 : Code := cdL c24_2
noncomputable def c24_4 : Code := cdL c24_3
noncomputable def c24_5 : Code := cdR c24_3
noncomputable def c24_9 : Code := cdR c24_5
noncomputable def c24_10 : Code := cdR c24_2
noncomputable def c24_11 : Code := cdL c24_10
noncomputable def c24_12 : Code := cdR c24_10
noncomputable def c24_13 : Code := cdL c24_12
noncomputable def c24_14 : Code := cdR c24_12
noncomputable def c24_15 : Code := cdL c24_14
noncomputable def c24_16 : Code := cdR c24_14
noncomputable def c24_6 : Code := cdL c24_5
noncomputable def r24_1 : Array Oper := cdO c24_1
noncomputable def r24_4 : Array Oper := cdO c24_4
noncomputable def r24_11 : Array Oper := cdO c24_11
noncomputable def r24_13 : Array Oper := cdO c24_13
noncomputable def r24_15 : Array Oper := cdO c24_15
theorem c24_0e : c24_0 = .seq c24_1 c24_2 := by kernel_rfl
theorem c24_1e : c24_1 = .region 0 r24_1 false := by kernel_rfl
theorem c24_2e : c24_2 = .seq c24_3 c24_10 := by kernel_rfl
theorem c24_3e : c24_3 = .seq c24_4 c24_5 := by kernel_rfl
theorem c24_4e : c24_4 = .region 1 r24_4 false := by kernel_rfl
theorem c24_5e : c24_5 = .cond (cdC c24_5) c24_6 c24_9 := by kernel_rfl
theorem c24_9e : c24_9 = .skip := by kernel_rfl
theorem c24_10e : c24_10 = .seq c24_11 c24_12 := by kernel_rfl
theorem c24_11e : c24_11 = .region 3 r24_11 false := by kernel_rfl
theorem c24_12e : c24_12 = .seq c24_13 c24_14 := by kernel_rfl
theorem c24_13e : c24_13 = .region 4 r24_13 false := by kernel_rfl
theorem c24_14e : c24_14 = .seq c24_15 c24_16 := by kernel_rfl
theorem c24_15e : c24_15 = .region 5 r24_15 false := by kernel_rfl
theorem c24_16e : c24_16 = .ret := by kernel_rfl
noncomputable def session_Table_Rows.R (b_2 : Nat) (A_3 : Option Addr) (c_4 : Nat) : Pst (List T_session_Row) where
  ε := Option Addr × Nat
  v := fun r x => .slice x.1 r.length x.2
  H := fun r x => []
  B := fun r x => [Ow 3 kT_session_Row x.1 x.2 r]
noncomputable def session_Table_Rows.cx (b_2 : Nat) (A_3 : Option Addr) (c_4 : Nat) (w0 : World) (S0 : Fam) : Cx (List T_session_Row) := ⟨Try.prog, 24, Try.f24, 19, w0, S0, [], 2, session_Table_Rows.R b_2 A_3 c_4⟩
theorem session_Table_Rows_ok (n : Nat) (t_1 : T_session_Table) (b_2 : Nat) (A_3 : Option Addr) (c_4 : Nat) :
    Meets Try.prog 24 [.pointer (some ⟨b_2, 0, none⟩)] 2 [] [⟨1, b_2, [.int .u64 t_1.now, .int .u64 t_1.next, .slice A_3 t_1.rows.length c_4]⟩] [Ow 2 kT_session_Row A_3 c_4 t_1.rows] (session_Table_Rows.f n t_1) (session_Table_Rows.R b_2 A_3 c_4) := by
  refine Meets.of (c := c24_0) (n := 19) Try.func24 (by kernel_rfl) (by kernel_rfl) (by kernel_rfl) fun w0 S0 => ?_
  unfold session_Table_Rows.f
  show GoO (session_Table_Rows.cx b_2 A_3 c_4 w0 S0) [(0, .pointer (some ⟨b_2, 0, none⟩))] [⟨1, b_2, [.int .u64 t_1.now, .int .u64 t_1.next, .slice A_3 t_1.rows.length c_4]⟩] [Ow 2 kT_session_Row A_3 c_4 t_1.rows] [.code c24_0] _
  refine GoO.seq' c24_0e ?_
  refine GoO.region' (is := [0]) c24_1e (by kernel_rfl) ?_
  refine GoO.exec (is := [0]) (hs := [.p]) (rest := []) (ks := [0]) (env' := [(0, .pointer (some ⟨b_2, 0, none⟩))]) (H' := [⟨1, b_2, [.int .u64 t_1.now, .int .u64 t_1.next, .slice A_3 t_1.rows.length c_4]⟩]) (ps := []) (by kernel_rfl) trivial ?_
  refine GoO.regionEnd ?_
  refine GoO.seq' c24_2e ?_
  refine GoO.seq' c24_3e ?_
  refine GoO.region' (is := [0, 1]) c24_4e (by kernel_rfl) ?_
  refine GoO.exec (is := [0, 1]) (hs := [.p, .p]) (rest := []) (ks := [0, 5]) (env' := [(0, .pointer (some ⟨b_2, 0, none⟩)), (5, .bool false)]) (H' := [⟨1, b_2, [.int .u64 t_1.now, .int .u64 t_1.next, .slice A_3 t_1.rows.length c_4]⟩]) (ps := []) (by kernel_rfl) trivial ?_
  refine GoO.regionEnd ?_
  refine GoO.condF c24_5e (by kernel_rfl) ?_
  refine GoO.skip' c24_9e ?_
  refine GoO.seq' c24_10e ?_
  refine GoO.region' (is := [0, 1, 2, 3, 4, 5, 6]) c24_11e (by kernel_rfl) ?_
  refine GoO.exec (is := [0, 1, 2, 3, 4]) (hs := [.p, .p, .p, .b 0, .p]) (rest := [5, 6]) (ks := [0, 10]) (env' := [(0, .pointer (some ⟨b_2, 0, none⟩)), (10, .int .i64 (t_1.rows.length : Int))]) (H' := [⟨1, b_2, [.int .u64 t_1.now, .int .u64 t_1.next, .slice A_3 t_1.rows.length c_4]⟩]) (ps := [b_2 = b_2]) (by kernel_rfl) (And.intro rfl trivial) ?_
  refine GoO.guard (fun h7 => ?_)
  refine OpTo.go (GoO.mk (e := 87) (k1 := .i64) (k2 := .i64) (K := kT_session_Row) (n := (t_1.rows.length : Int)) (c := (t_1.rows.length : Int)) (bytes := 48) (zs := [.int .u64 0, .int .u64 0, .int .u64 0, .int .i64 0, .int .u64 0, .int .u64 0]) rfl (by kernel_rfl) (by kernel_rfl) (by kernel_rfl) (by kernel_rfl) ((⟨0, 0, 0, ⟨0, 0, 0⟩⟩ : T_session_Row)) (fun _ _ => rfl) h7.1 h7.2.1 (by kernel_rfl) h7.2.2 40 _ (fun _ _ => rfl) (fun A_5 c_6 => ?_))
  refine GoO.exec (is := [6]) (hs := [.p]) (rest := []) (ks := [0, 3]) (env' := [(0, .pointer (some ⟨b_2, 0, none⟩)), (3, .slice A_5 (List.replicate (t_1.rows.length : Int).toNat (⟨0, 0, 0, ⟨0, 0, 0⟩⟩ : T_session_Row)).length c_6)]) (H' := [⟨1, b_2, [.int .u64 t_1.now, .int .u64 t_1.next, .slice A_3 t_1.rows.length c_4]⟩]) (ps := []) (by kernel_rfl) trivial ?_
  refine GoO.regionEnd ?_
  refine GoO.seq' c24_12e ?_
  refine GoO.region' (is := [0, 1, 2, 3, 4, 5]) c24_13e (by kernel_rfl) ?_
  refine GoO.exec (is := [0, 1, 2, 3, 4]) (hs := [.p, .p, .p, .p, .b 0]) (rest := [5]) (ks := [3, 12, 16]) (env' := [(3, .slice A_5 (List.replicate (t_1.rows.length : Int).toNat (⟨0, 0, 0, ⟨0, 0, 0⟩⟩ : T_session_Row)).length c_6), (12, .slice A_5 (List.replicate (t_1.rows.length : Int).toNat (⟨0, 0, 0, ⟨0, 0, 0⟩⟩ : T_session_Row)).length c_6), (16, .slice A_3 t_1.rows.length c_4)]) (H' := [⟨1, b_2, [.int .u64 t_1.now, .int .u64 t_1.next, .slice A_3 t_1.rows.length c_4]⟩]) (ps := [b_2 = b_2]) (by kernel_rfl) (And.intro rfl trivial) ?_
  refine OpTo.go (GoO.copy1 (e := 87) (K := kT_session_Row) (A := A_5) (c := c_6) (xs := List.replicate (t_1.rows.length : Int).toNat (⟨0, 0, 0, ⟨0, 0, 0⟩⟩ : T_session_Row)) (A2 := A_3) (c2 := c_4) (ys := t_1.rows) (tg := 40) (j := 0) (j2 := 1) rfl rfl rfl (by kernel_rfl) (by kernel_rfl) rfl rfl Reads.own (by decide) (by kernel_rfl) (by kernel_rfl) (by kernel_rfl) rfl ?_)
  refine GoO.reval (t := 3) (v := .slice A_5 (List.replicate (t_1.rows.length : Int).toNat (⟨0, 0, 0, ⟨0, 0, 0⟩⟩ : T_session_Row)).length c_6) (v' := .slice A_5 (copyL (List.replicate (t_1.rows.length : Int).toNat (⟨0, 0, 0, ⟨0, 0, 0⟩⟩ : T_session_Row)) t_1.rows).length c_6) (by kernel_rfl) (by rw [copyL_length]) ?_
  refine GoO.reval (t := 12) (v := .slice A_5 (List.replicate (t_1.rows.length : Int).toNat (⟨0, 0, 0, ⟨0, 0, 0⟩⟩ : T_session_Row)).length c_6) (v' := .slice A_5 (copyL (List.replicate (t_1.rows.length : Int).toNat (⟨0, 0, 0, ⟨0, 0, 0⟩⟩ : T_session_Row)) t_1.rows).length c_6) (by kernel_rfl) (by rw [copyL_length]) ?_
  refine GoO.regionEnd ?_
  refine GoO.seq' c24_14e ?_
  refine GoO.region' (is := [0, 1]) c24_15e (by kernel_rfl) ?_
  refine GoO.exec (is := [0, 1]) (hs := [.p, .p]) (rest := []) (ks := [2]) (env' := [(2, .slice A_5 (copyL (List.replicate (t_1.rows.length : Int).toNat (⟨0, 0, 0, ⟨0, 0, 0⟩⟩ : T_session_Row)) t_1.rows).length c_6)]) (H' := [⟨1, b_2, [.int .u64 t_1.now, .int .u64 t_1.next, .slice A_3 t_1.rows.length c_4]⟩]) (ps := []) (by kernel_rfl) trivial ?_
  refine GoO.regionEnd ?_
  refine GoO.retag (t := 40) (u := 3) (j := 0) (hk := [0]) (bk := [1]) rfl rfl rfl rfl rfl rfl (by kernel_rfl) (by kernel_rfl) ?_
  exact GoO.ret' (h := c24_16e) (hs := []) (ps := []) (hk := []) (bk := [0]) Try.func24 (⟨A_5, c_6⟩ : Option Addr × Nat) (by kernel_rfl) trivial (by kernel_rfl) (by kernel_rfl)

/-! tontine/tontinelaw15.SessionSaves -/
noncomputable def c13_0 : Code := bodyOf Try.f13
noncomputable def c13_1 : Code := cdL c13_0
noncomputable def c13_2 : Code := cdR c13_0
noncomputable def c13_3 : Code := cdL c13_2
noncomputable def c13_4 : Code := cdL c13_3
noncomputable def c13_5 : Code := cdR c13_3
noncomputable def c13_6 : Code := cdL c13_5
noncomputable def c13_7 : Code := cdL c13_6
noncomputable def c13_8 : Code := cdR c13_6
noncomputable def c13_9 : Code := cdR c13_5
noncomputable def c13_10 : Code := cdR c13_2
noncomputable def c13_11 : Code := cdL c13_10
noncomputable def c13_12 : Code := cdR c13_10
noncomputable def c13_13 : Code := cdL c13_12
noncomputable def c13_14 : Code := cdL c13_13
noncomputable def c13_15 : Code := cdR c13_13
noncomputable def c13_16 : Code := cdL c13_15
noncomputable def c13_17 : Code := cdL c13_16
noncomputable def c13_18 : Code := cdL c13_17
noncomputable def c13_19 : Code := cdR c13_17
noncomputable def c13_20 : Code := cdL c13_19
noncomputable def c13_21 : Code := cdL c13_20
noncomputable def c13_22 : Code := cdR c13_20
noncomputable def c13_23 : Code := cdR c13_19
noncomputable def c13_24 : Code := cdL c13_23
noncomputable def c13_25 : Code := cdL c13_24
noncomputable def c13_26 : Code := cdL c13_25
noncomputable def c13_27 : Code := cdR c13_25
noncomputable def c13_28 : Code := cdL c13_27
noncomputable def c13_29 : Code := cdL c13_28
noncomputable def c13_30 : Code := cdR c13_28
noncomputable def c13_31 : Code := cdL c13_30
noncomputable def c13_32 : Code := cdR c13_30
noncomputable def c13_33 : Code := cdR c13_27
noncomputable def c13_34 : Code := cdL c13_33
noncomputable def c13_35 : Code := cdR c13_33
noncomputable def c13_36 : Code := cdL c13_35
noncomputable def c13_37 : Code := cdL c13_36
noncomputable def c13_38 : Code := cdR c13_36
noncomputable def c13_39 : Code := cdL c13_38
noncomputable def c13_40 : Code := cdR c13_38
noncomputable def c13_41 : Code := cdL c13_40
noncomputable def c13_42 : Code := cdR c13_40
noncomputable def c13_43 : Code := cdL c13_42
noncomputable def c13_44 : Code := cdR c13_42
noncomputable def c13_45 : Code := cdL c13_44
noncomputable def c13_46 : Code := cdR c13_44
noncomputable def c13_47 : Code := cdL c13_46
noncomputable def c13_48 : Code := cdR c13_46
noncomputable def c13_49 : Code := cdL c13_48
noncomputable def c13_50 : Code := cdR c13_48
noncomputable def c13_51 : Code := cdR c13_23
noncomputable def c13_52 : Code := cdR c13_12
noncomputable def c13_53 : Code := cdL c13_52
noncomputable def c13_54 : Code := cdR c13_52
noncomputable def c13_55 : Code := cdL c13_54
noncomputable def c13_56 : Code := cdR c13_54
noncomputable def c13_57 : Code := cdL c13_56
noncomputable def c13_58 : Code := cdR c13_56
noncomputable def c13_59 : Code := cdL c13_58
noncomputable def c13_60 : Code := cdR c13_58
noncomputable def c13_61 : Code := cdL c13_60
noncomputable def c13_62 : Code := cdR c13_60
noncomputable def r13_1 : Array Oper := cdO c13_1
noncomputable def r13_4 : Array Oper := cdO c13_4
noncomputable def r13_7 : Array Oper := cdO c13_7
noncomputable def r13_11 : Array Oper := cdO c13_11
noncomputable def r13_14 : Array Oper := cdO c13_14
noncomputable def r13_18 : Array Oper := cdO c13_18
noncomputable def r13_26 : Array Oper := cdO c13_26
noncomputable def r13_29 : Array Oper := cdO c13_29
noncomputable def r13_34 : Array Oper := cdO c13_34
noncomputable def r13_37 : Array Oper := cdO c13_37
noncomputable def r13_39 : Array Oper := cdO c13_39
noncomputable def r13_41 : Array Oper := cdO c13_41
noncomputable def r13_43 : Array Oper := cdO c13_43
noncomputable def r13_45 : Array Oper := cdO c13_45
noncomputable def r13_47 : Array Oper := cdO c13_47
noncomputable def r13_49 : Array Oper := cdO c13_49
noncomputable def r13_50 : Array Oper := cdO c13_50
noncomputable def r13_51 : Array Oper := cdO c13_51
noncomputable def r13_53 : Array Oper := cdO c13_53
noncomputable def r13_55 : Array Oper := cdO c13_55
noncomputable def r13_57 : Array Oper := cdO c13_57
noncomputable def r13_59 : Array Oper := cdO c13_59
noncomputable def r13_61 : Array Oper := cdO c13_61
theorem c13_0e : c13_0 = .seq c13_1 c13_2 := by kernel_rfl
theorem c13_1e : c13_1 = .region 0 r13_1 false := by kernel_rfl
theorem c13_2e : c13_2 = .seq c13_3 c13_10 := by kernel_rfl
theorem c13_3e : c13_3 = .seq c13_4 c13_5 := by kernel_rfl
theorem c13_4e : c13_4 = .region 1 r13_4 false := by kernel_rfl
theorem c13_5e : c13_5 = .cond (cdC c13_5) c13_6 c13_9 := by kernel_rfl
theorem c13_6e : c13_6 = .seq c13_7 c13_8 := by kernel_rfl
theorem c13_7e : c13_7 = .region 2 r13_7 false := by kernel_rfl
theorem c13_8e : c13_8 = .ret := by kernel_rfl
theorem c13_9e : c13_9 = .skip := by kernel_rfl
theorem c13_10e : c13_10 = .seq c13_11 c13_12 := by kernel_rfl
theorem c13_11e : c13_11 = .region 3 r13_11 false := by kernel_rfl
theorem c13_12e : c13_12 = .seq c13_13 c13_52 := by kernel_rfl
theorem c13_13e : c13_13 = .seq c13_14 c13_15 := by kernel_rfl
theorem c13_14e : c13_14 = .region 4 r13_14 false := by kernel_rfl
theorem c13_15e : c13_15 = .block 0 c13_16 := by kernel_rfl
theorem c13_16e : c13_16 = .loop c13_17 := by kernel_rfl
theorem c13_17e : c13_17 = .seq c13_18 c13_19 := by kernel_rfl
theorem c13_18e : c13_18 = .region 5 r13_18 false := by kernel_rfl
theorem c13_19e : c13_19 = .seq c13_20 c13_23 := by kernel_rfl
theorem c13_20e : c13_20 = .cond (cdC c13_20) c13_21 c13_22 := by kernel_rfl
theorem c13_21e : c13_21 = .skip := by kernel_rfl
theorem c13_22e : c13_22 = .exit 0 := by kernel_rfl
theorem c13_23e : c13_23 = .seq c13_24 c13_51 := by kernel_rfl
theorem c13_24e : c13_24 = .block 1 c13_25 := by kernel_rfl
theorem c13_25e : c13_25 = .seq c13_26 c13_27 := by kernel_rfl
theorem c13_26e : c13_26 = .region 6 r13_26 false := by kernel_rfl
theorem c13_27e : c13_27 = .seq c13_28 c13_33 := by kernel_rfl
theorem c13_28e : c13_28 = .seq c13_29 c13_30 := by kernel_rfl
theorem c13_29e : c13_29 = .region 7 r13_29 false := by kernel_rfl
theorem c13_30e : c13_30 = .cond (cdC c13_30) c13_31 c13_32 := by kernel_rfl
theorem c13_31e : c13_31 = .exit 0 := by kernel_rfl
theorem c13_32e : c13_32 = .skip := by kernel_rfl
theorem c13_33e : c13_33 = .seq c13_34 c13_35 := by kernel_rfl
theorem c13_34e : c13_34 = .region 8 r13_34 false := by kernel_rfl
theorem c13_35e : c13_35 = .block 2 c13_36 := by kernel_rfl
theorem c13_36e : c13_36 = .seq c13_37 c13_38 := by kernel_rfl
theorem c13_37e : c13_37 = .region 11 r13_37 false := by kernel_rfl
theorem c13_38e : c13_38 = .cond (cdC c13_38) c13_39 c13_40 := by kernel_rfl
theorem c13_39e : c13_39 = .region 12 r13_39 false := by kernel_rfl
theorem c13_40e : c13_40 = .seq c13_41 c13_42 := by kernel_rfl
theorem c13_41e : c13_41 = .region 13 r13_41 false := by kernel_rfl
theorem c13_42e : c13_42 = .cond (cdC c13_42) c13_43 c13_44 := by kernel_rfl
theorem c13_43e : c13_43 = .region 14 r13_43 false := by kernel_rfl
theorem c13_44e : c13_44 = .seq c13_45 c13_46 := by kernel_rfl
theorem c13_45e : c13_45 = .region 15 r13_45 false := by kernel_rfl
theorem c13_46e : c13_46 = .cond (cdC c13_46) c13_47 c13_48 := by kernel_rfl
theorem c13_47e : c13_47 = .region 16 r13_47 false := by kernel_rfl
theorem c13_48e : c13_48 = .seq c13_49 c13_50 := by kernel_rfl
theorem c13_49e : c13_49 = .region 9 r13_49 false := by kernel_rfl
theorem c13_50e : c13_50 = .region 10 r13_50 false := by kernel_rfl
theorem c13_51e : c13_51 = .region 17 r13_51 false := by kernel_rfl
theorem c13_52e : c13_52 = .seq c13_53 c13_54 := by kernel_rfl
theorem c13_53e : c13_53 = .region 18 r13_53 false := by kernel_rfl
theorem c13_54e : c13_54 = .seq c13_55 c13_56 := by kernel_rfl
theorem c13_55e : c13_55 = .region 19 r13_55 false := by kernel_rfl
theorem c13_56e : c13_56 = .seq c13_57 c13_58 := by kernel_rfl
theorem c13_57e : c13_57 = .region 20 r13_57 false := by kernel_rfl
theorem c13_58e : c13_58 = .seq c13_59 c13_60 := by kernel_rfl
theorem c13_59e : c13_59 = .region 21 r13_59 false := by kernel_rfl
theorem c13_60e : c13_60 = .seq c13_61 c13_62 := by kernel_rfl
theorem c13_61e : c13_61 = .region 22 r13_61 false := by kernel_rfl
theorem c13_62e : c13_62 = .ret := by kernel_rfl
noncomputable def tontinelaw15_SessionSaves.R (A_2 : Option Addr) (c_3 : Nat) : Pst Bool where
  ε := Unit
  v := fun r x => .bool r
  H := fun r x => []
  B := fun r x => []
noncomputable def tontinelaw15_SessionSaves.cx (A_2 : Option Addr) (c_3 : Nat) (w0 : World) (S0 : Fam) : Cx Bool := ⟨Try.prog, 13, Try.f13, 94, w0, S0, [], 0, tontinelaw15_SessionSaves.R A_2 c_3⟩
theorem tontinelaw15_SessionSaves_j0_ok (n : Nat) (f_10 : Int) (f_11 : Int) (f_12 : (List T_session_Row)) (b_7 : Nat) (A_13 : Option Addr) (c_14 : Nat) (A_2 : Option Addr) (c_3 : Nat) (w0 : World) (S0 : Fam) :
    GoO (tontinelaw15_SessionSaves.cx A_2 c_3 w0 S0) [(3, .pointer (some ⟨b_7, 0, none⟩))] [⟨40, b_7, [.int .u64 f_10, .int .u64 f_11, .slice A_13 f_12.length c_14]⟩] [Ow 41 kT_session_Row A_13 c_14 f_12] [.code c13_52] (tontinelaw15_SessionSaves.j0 n f_10 f_11 f_12) := by
  unfold tontinelaw15_SessionSaves.j0
  refine GoO.seq' c13_52e ?_
  refine GoO.region' (is := [0, 1, 2, 3]) c13_53e (by kernel_rfl) ?_
  refine OpTo.go (GoO.new rfl 43 (cs := [.slice none ([] : List UInt8).length 0]) (by kernel_rfl) _ (fun _ => rfl) (fun b_40 => ?_))
  refine OpTo.go (GoO.new rfl 44 (cs := [.slice none ([] : List UInt8).length 0]) (by kernel_rfl) _ (fun _ => rfl) (fun b_41 => ?_))
  refine GoO.exec (is := [2, 3]) (hs := [.p, .p]) (rest := []) (ks := [3, 6, 7]) (env' := [(3, .pointer (some ⟨b_7, 0, none⟩)), (6, .pointer (some ⟨b_40, 0, none⟩)), (7, .pointer (some ⟨b_41, 0, none⟩))]) (H' := [⟨44, b_41, [.slice none ([] : List UInt8).length 0]⟩, ⟨43, b_40, [.slice none ([] : List UInt8).length 0]⟩, ⟨40, b_7, [.int .u64 f_10, .int .u64 f_11, .slice A_13 f_12.length c_14]⟩]) (ps := []) (by kernel_rfl) trivial ?_
  refine GoO.regionEnd ?_
  refine GoO.seq' c13_54e ?_
  refine GoO.region' (is := [0, 1, 2]) c13_55e (by kernel_rfl) ?_
  refine GoO.exec (is := [0, 1]) (hs := [.p, .p]) (rest := [2]) (ks := [3, 6, 7, 59, 60]) (env' := [(3, .pointer (some ⟨b_7, 0, none⟩)), (6, .pointer (some ⟨b_40, 0, none⟩)), (7, .pointer (some ⟨b_41, 0, none⟩)), (59, .pointer (some ⟨b_7, 0, none⟩)), (60, .pointer (some ⟨b_40, 0, none⟩))]) (H' := [⟨44, b_41, [.slice none ([] : List UInt8).length 0]⟩, ⟨43, b_40, [.slice none ([] : List UInt8).length 0]⟩, ⟨40, b_7, [.int .u64 f_10, .int .u64 f_11, .slice A_13 f_12.length c_14]⟩]) (ps := []) (by kernel_rfl) trivial ?_
  refine GoO.nilOwn Kd.u8 45 ?_
  refine OpTo.go (GoO.call rfl (by kernel_rfl) (by kernel_rfl) (session_Table_Write_ok n (⟨f_10, f_11, f_12⟩ : T_session_Table) (⟨[]⟩ : T_pack_Writer) b_7 A_13 c_14 b_40 none 0) [[0], [40], [41], [43], [45]] [(43, 3), (45, 4)] [(1, 2), (3, 1)] [(2, 1), (4, 0)] (hks := [0, 2]) (bks := [1]) (by kernel_rfl) (by kernel_rfl) (by kernel_rfl) (.inl rfl) rfl rfl (by kernel_rfl) (by kernel_rfl) _ (fun _ _ => rfl) _ _ (fun _ _ => rfl) (fun _ _ => rfl) (fun _ _ => by kernel_rfl) (fun _ _ => by kernel_rfl) (fun r_42 x_78 => ?_))
  obtain ⟨A_43, c_44⟩ := x_78
  refine GoO.shape (env' := [(3, .pointer (some ⟨b_7, 0, none⟩)), (6, .pointer (some ⟨b_40, 0, none⟩)), (7, .pointer (some ⟨b_41, 0, none⟩)), (59, .pointer (some ⟨b_7, 0, none⟩)), (60, .pointer (some ⟨b_40, 0, none⟩)), (61, .tuple ⟨[]⟩)]) (H' := [⟨43, b_40, [.slice A_43 r_42.b.length c_44]⟩, ⟨44, b_41, [.slice none ([] : List UInt8).length 0]⟩, ⟨40, b_7, [.int .u64 f_10, .int .u64 f_11, .slice A_13 f_12.length c_14]⟩]) (B' := [Ow 45 Kd.u8 A_43 c_44 r_42.b, Ow 41 kT_session_Row A_13 c_14 f_12]) (ks := [3, 6, 7, 59, 60, 61]) (by kernel_rfl) (by kernel_rfl) (by kernel_rfl) ?_
  refine GoO.regionEnd ?_
  refine GoO.seq' c13_56e ?_
  refine GoO.region' (is := [0, 1, 2, 3, 4]) c13_57e (by kernel_rfl) ?_
  refine GoO.exec (is := [0]) (hs := [.p]) (rest := [1, 2, 3, 4]) (ks := [3, 6, 7, 62]) (env' := [(3, .pointer (some ⟨b_7, 0, none⟩)), (6, .pointer (some ⟨b_40, 0, none⟩)), (7, .pointer (some ⟨b_41, 0, none⟩)), (62, .pointer (some ⟨b_40, 0, none⟩))]) (H' := [⟨43, b_40, [.slice A_43 r_42.b.length c_44]⟩, ⟨44, b_41, [.slice none ([] : List UInt8).length 0]⟩, ⟨40, b_7, [.int .u64 f_10, .int .u64 f_11, .slice A_13 f_12.length c_14]⟩]) (ps := []) (by kernel_rfl) trivial ?_
  refine OpTo.go (GoO.call rfl (by kernel_rfl) (by kernel_rfl) (pack_Writer_Bytes_ok n r_42 b_40 A_43 c_44) [[0], [43], [45]] [] [(1, 0)] [(2, 0)] (hks := [0, 1, 2]) (bks := [0, 1]) (by kernel_rfl) (by kernel_rfl) (by kernel_rfl) (.inl rfl) rfl rfl (by kernel_rfl) (by kernel_rfl) _ (fun _ _ => rfl) _ _ (fun _ _ => rfl) (fun _ _ => rfl) (fun _ _ => by kernel_rfl) (fun _ _ => by kernel_rfl) (fun r_45 x_77 => ?_))
  refine GoO.shape (env' := [(3, .pointer (some ⟨b_7, 0, none⟩)), (6, .pointer (some ⟨b_40, 0, none⟩)), (7, .pointer (some ⟨b_41, 0, none⟩)), (62, .pointer (some ⟨b_40, 0, none⟩)), (63, .string (bs r_45))]) (H' := [⟨43, b_40, [.slice A_43 r_42.b.length c_44]⟩, ⟨44, b_41, [.slice none ([] : List UInt8).length 0]⟩, ⟨40, b_7, [.int .u64 f_10, .int .u64 f_11, .slice A_13 f_12.length c_14]⟩]) (B' := [Ow 45 Kd.u8 A_43 c_44 r_42.b, Ow 41 kT_session_Row A_13 c_14 f_12]) (ks := [3, 6, 7, 62, 63]) (by kernel_rfl) (by kernel_rfl) (by kernel_rfl) ?_
  refine OpTo.go (GoO.call rfl (by kernel_rfl) (by kernel_rfl) (pack_From_ok n r_45) [[0]] [(46, 1)] [] [] (hks := [0, 1, 2]) (bks := [0, 1]) (by kernel_rfl) (by kernel_rfl) (by kernel_rfl) (.inl rfl) rfl rfl (by kernel_rfl) (by kernel_rfl) _ (fun _ _ => rfl) _ _ (fun _ _ => rfl) (fun _ _ => rfl) (fun _ _ => by kernel_rfl) (fun _ _ => by kernel_rfl) (fun r_46 b_47 => ?_))
  refine GoO.shape (env' := [(3, .pointer (some ⟨b_7, 0, none⟩)), (6, .pointer (some ⟨b_40, 0, none⟩)), (7, .pointer (some ⟨b_41, 0, none⟩)), (62, .pointer (some ⟨b_40, 0, none⟩)), (63, .string (bs r_45)), (64, .pointer (some ⟨b_47, 0, none⟩))]) (H' := [⟨46, b_47, [.string (bs r_46.s), .bool r_46.bad]⟩, ⟨43, b_40, [.slice A_43 r_42.b.length c_44]⟩, ⟨44, b_41, [.slice none ([] : List UInt8).length 0]⟩, ⟨40, b_7, [.int .u64 f_10, .int .u64 f_11, .slice A_13 f_12.length c_14]⟩]) (B' := [Ow 45 Kd.u8 A_43 c_44 r_42.b, Ow 41 kT_session_Row A_13 c_14 f_12]) (ks := [3, 6, 7, 62, 63, 64]) (by kernel_rfl) (by kernel_rfl) (by kernel_rfl) ?_
  refine OpTo.go (GoO.call rfl (by kernel_rfl) (by kernel_rfl) (session_Read_ok n r_46 b_47) [[0], [46]] [(46, 1), (47, 2), (48, 3)] [(1, 0)] [] (hks := [1, 2, 3]) (bks := [0, 1]) (by kernel_rfl) (by kernel_rfl) (by kernel_rfl) (.inl rfl) rfl rfl (by kernel_rfl) (by kernel_rfl) _ (fun _ _ => rfl) _ _ (fun _ _ => rfl) (fun _ _ => rfl) (fun rr _ => by dsimp only [session_Read.R]; cases rr.1 <;> kernel_rfl) (fun rr _ => by dsimp only [session_Read.R]; cases rr.1 <;> kernel_rfl) (fun r_48 x_75 => ?_))
  obtain ⟨c_49, A_50, c_51⟩ := x_75
  rcases r_48 with ⟨(_ | o_52), r_48_q1⟩
  · refine GoO.shape (env' := [(3, .pointer (some ⟨b_7, 0, none⟩)), (6, .pointer (some ⟨b_40, 0, none⟩)), (7, .pointer (some ⟨b_41, 0, none⟩)), (62, .pointer (some ⟨b_40, 0, none⟩)), (63, .string (bs r_45)), (64, .pointer (some ⟨b_47, 0, none⟩)), (65, .pointer none)]) (H' := [⟨46, b_47, [.string (bs ((none, r_48_q1) : Option T_session_Table × T_pack_Reader).2.s), .bool ((none, r_48_q1) : Option T_session_Table × T_pack_Reader).2.bad]⟩, ⟨43, b_40, [.slice A_43 r_42.b.length c_44]⟩, ⟨44, b_41, [.slice none ([] : List UInt8).length 0]⟩, ⟨40, b_7, [.int .u64 f_10, .int .u64 f_11, .slice A_13 f_12.length c_14]⟩]) (B' := [Ow 45 Kd.u8 A_43 c_44 r_42.b, Ow 41 kT_session_Row A_13 c_14 f_12]) (ks := [3, 6, 7, 62, 63, 64, 65]) (by kernel_rfl) (by kernel_rfl) (by kernel_rfl) ?_
    refine GoO.exec (is := [4]) (hs := [.p]) (rest := []) (ks := [3, 6, 7, 8]) (env' := [(3, .pointer (some ⟨b_7, 0, none⟩)), (6, .pointer (some ⟨b_40, 0, none⟩)), (7, .pointer (some ⟨b_41, 0, none⟩)), (8, .pointer none)]) (H' := [⟨46, b_47, [.string (bs ((none, r_48_q1) : Option T_session_Table × T_pack_Reader).2.s), .bool ((none, r_48_q1) : Option T_session_Table × T_pack_Reader).2.bad]⟩, ⟨43, b_40, [.slice A_43 r_42.b.length c_44]⟩, ⟨44, b_41, [.slice none ([] : List UInt8).length 0]⟩, ⟨40, b_7, [.int .u64 f_10, .int .u64 f_11, .slice A_13 f_12.length c_14]⟩]) (ps := []) (by kernel_rfl) trivial ?_
    refine GoO.regionEnd ?_
    refine GoO.seq' c13_58e ?_
    refine GoO.region' (is := [0, 1, 2]) c13_59e (by kernel_rfl) ?_
    refine GoO.exec (is := [0, 1]) (hs := [.p, .p]) (rest := [2]) (ks := [3, 6, 7, 8, 66, 67]) (env' := [(3, .pointer (some ⟨b_7, 0, none⟩)), (6, .pointer (some ⟨b_40, 0, none⟩)), (7, .pointer (some ⟨b_41, 0, none⟩)), (8, .pointer none), (66, .pointer none), (67, .pointer (some ⟨b_41, 0, none⟩))]) (H' := [⟨46, b_47, [.string (bs ((none, r_48_q1) : Option T_session_Table × T_pack_Reader).2.s), .bool ((none, r_48_q1) : Option T_session_Table × T_pack_Reader).2.bad]⟩, ⟨43, b_40, [.slice A_43 r_42.b.length c_44]⟩, ⟨44, b_41, [.slice none ([] : List UInt8).length 0]⟩, ⟨40, b_7, [.int .u64 f_10, .int .u64 f_11, .slice A_13 f_12.length c_14]⟩]) (ps := []) (by kernel_rfl) trivial ?_
    exact GoO.stop
  · refine GoO.shape (env' := [(3, .pointer (some ⟨b_7, 0, none⟩)), (6, .pointer (some ⟨b_40, 0, none⟩)), (7, .pointer (some ⟨b_41, 0, none⟩)), (62, .pointer (some ⟨b_40, 0, none⟩)), (63, .string (bs r_45)), (64, .pointer (some ⟨b_47, 0, none⟩)), (65, .pointer (some ⟨c_49, 0, none⟩))]) (H' := [⟨47, c_49, [.int .u64 o_52.now, .int .u64 o_52.next, .slice A_50 o_52.rows.length c_51]⟩, ⟨46, b_47, [.string (bs ((some o_52, r_48_q1) : Option T_session_Table × T_pack_Reader).2.s), .bool ((some o_52, r_48_q1) : Option T_session_Table × T_pack_Reader).2.bad]⟩, ⟨43, b_40, [.slice A_43 r_42.b.length c_44]⟩, ⟨44, b_41, [.slice none ([] : List UInt8).length 0]⟩, ⟨40, b_7, [.int .u64 f_10, .int .u64 f_11, .slice A_13 f_12.length c_14]⟩]) (B' := [Ow 48 kT_session_Row A_50 c_51 o_52.rows, Ow 45 Kd.u8 A_43 c_44 r_42.b, Ow 41 kT_session_Row A_13 c_14 f_12]) (ks := [3, 6, 7, 62, 63, 64, 65]) (by kernel_rfl) (by kernel_rfl) (by kernel_rfl) ?_
    refine GoO.exec (is := [4]) (hs := [.p]) (rest := []) (ks := [3, 6, 7, 8]) (env' := [(3, .pointer (some ⟨b_7, 0, none⟩)), (6, .pointer (some ⟨b_40, 0, none⟩)), (7, .pointer (some ⟨b_41, 0, none⟩)), (8, .pointer (some ⟨c_49, 0, none⟩))]) (H' := [⟨47, c_49, [.int .u64 o_52.now, .int .u64 o_52.next, .slice A_50 o_52.rows.length c_51]⟩, ⟨46, b_47, [.string (bs ((some o_52, r_48_q1) : Option T_session_Table × T_pack_Reader).2.s), .bool ((some o_52, r_48_q1) : Option T_session_Table × T_pack_Reader).2.bad]⟩, ⟨43, b_40, [.slice A_43 r_42.b.length c_44]⟩, ⟨44, b_41, [.slice none ([] : List UInt8).length 0]⟩, ⟨40, b_7, [.int .u64 f_10, .int .u64 f_11, .slice A_13 f_12.length c_14]⟩]) (ps := []) (by kernel_rfl) trivial ?_
    refine GoO.regionEnd ?_
    refine GoO.seq' c13_58e ?_
    refine GoO.region' (is := [0, 1, 2]) c13_59e (by kernel_rfl) ?_
    refine GoO.exec (is := [0, 1]) (hs := [.p, .p]) (rest := [2]) (ks := [3, 6, 7, 8, 66, 67]) (env' := [(3, .pointer (some ⟨b_7, 0, none⟩)), (6, .pointer (some ⟨b_40, 0, none⟩)), (7, .pointer (some ⟨b_41, 0, none⟩)), (8, .pointer (some ⟨c_49, 0, none⟩)), (66, .pointer (some ⟨c_49, 0, none⟩)), (67, .pointer (some ⟨b_41, 0, none⟩))]) (H' := [⟨47, c_49, [.int .u64 o_52.now, .int .u64 o_52.next, .slice A_50 o_52.rows.length c_51]⟩, ⟨46, b_47, [.string (bs ((some o_52, r_48_q1) : Option T_session_Table × T_pack_Reader).2.s), .bool ((some o_52, r_48_q1) : Option T_session_Table × T_pack_Reader).2.bad]⟩, ⟨43, b_40, [.slice A_43 r_42.b.length c_44]⟩, ⟨44, b_41, [.slice none ([] : List UInt8).length 0]⟩, ⟨40, b_7, [.int .u64 f_10, .int .u64 f_11, .slice A_13 f_12.length c_14]⟩]) (ps := []) (by kernel_rfl) trivial ?_
    refine GoO.nilOwn Kd.u8 49 ?_
    refine OpTo.go (GoO.call rfl (by kernel_rfl) (by kernel_rfl) (session_Table_Write_ok n o_52 (⟨[]⟩ : T_pack_Writer) c_49 A_50 c_51 b_41 none 0) [[0], [47], [48], [44], [49]] [(44, 3), (49, 4)] [(1, 0), (3, 3)] [(2, 1), (4, 0)] (hks := [0, 1, 2, 4]) (bks := [1, 2, 3]) (by kernel_rfl) (by kernel_rfl) (by kernel_rfl) (.inl rfl) rfl rfl (by kernel_rfl) (by kernel_rfl) _ (fun _ _ => rfl) _ _ (fun _ _ => rfl) (fun _ _ => rfl) (fun _ _ => by kernel_rfl) (fun _ _ => by kernel_rfl) (fun r_53 x_74 => ?_))
    obtain ⟨A_54, c_55⟩ := x_74
    refine GoO.shape (env' := [(3, .pointer (some ⟨b_7, 0, none⟩)), (6, .pointer (some ⟨b_40, 0, none⟩)), (7, .pointer (some ⟨b_41, 0, none⟩)), (8, .pointer (some ⟨c_49, 0, none⟩)), (66, .pointer (some ⟨c_49, 0, none⟩)), (67, .pointer (some ⟨b_41, 0, none⟩)), (68, .tuple ⟨[]⟩)]) (H' := [⟨44, b_41, [.slice A_54 r_53.b.length c_55]⟩, ⟨47, c_49, [.int .u64 o_52.now, .int .u64 o_52.next, .slice A_50 o_52.rows.length c_51]⟩, ⟨46, b_47, [.string (bs ((some o_52, r_48_q1) : Option T_session_Table × T_pack_Reader).2.s), .bool ((some o_52, r_48_q1) : Option T_session_Table × T_pack_Reader).2.bad]⟩, ⟨43, b_40, [.slice A_43 r_42.b.length c_44]⟩, ⟨40, b_7, [.int .u64 f_10, .int .u64 f_11, .slice A_13 f_12.length c_14]⟩]) (B' := [Ow 49 Kd.u8 A_54 c_55 r_53.b, Ow 48 kT_session_Row A_50 c_51 o_52.rows, Ow 45 Kd.u8 A_43 c_44 r_42.b, Ow 41 kT_session_Row A_13 c_14 f_12]) (ks := [3, 6, 7, 8, 66, 67, 68]) (by kernel_rfl) (by kernel_rfl) (by kernel_rfl) ?_
    refine GoO.regionEnd ?_
    refine GoO.seq' c13_60e ?_
    refine GoO.region' (is := [0, 1, 2, 3, 4, 5, 6, 7, 8, 9, 10, 11, 12, 13, 14, 15, 16, 17, 18, 19, 20, 21, 22, 23, 24, 25]) c13_61e (by kernel_rfl) ?_
    refine GoO.exec (is := [0, 1, 2, 3]) (hs := [.p, .p, .p, .p]) (rest := [4, 5, 6, 7, 8, 9, 10, 11, 12, 13, 14, 15, 16, 17, 18, 19, 20, 21, 22, 23, 24, 25]) (ks := [3, 7, 8, 71, 72]) (env' := [(3, .pointer (some ⟨b_7, 0, none⟩)), (7, .pointer (some ⟨b_41, 0, none⟩)), (8, .pointer (some ⟨c_49, 0, none⟩)), (71, .bool true), (72, .pointer (some ⟨b_40, 0, none⟩))]) (H' := [⟨44, b_41, [.slice A_54 r_53.b.length c_55]⟩, ⟨47, c_49, [.int .u64 o_52.now, .int .u64 o_52.next, .slice A_50 o_52.rows.length c_51]⟩, ⟨46, b_47, [.string (bs ((some o_52, r_48_q1) : Option T_session_Table × T_pack_Reader).2.s), .bool ((some o_52, r_48_q1) : Option T_session_Table × T_pack_Reader).2.bad]⟩, ⟨43, b_40, [.slice A_43 r_42.b.length c_44]⟩, ⟨40, b_7, [.int .u64 f_10, .int .u64 f_11, .slice A_13 f_12.length c_14]⟩]) (ps := []) (by kernel_rfl) trivial ?_
    refine OpTo.go (GoO.call rfl (by kernel_rfl) (by kernel_rfl) (pack_Writer_Bytes_ok n r_42 b_40 A_43 c_44) [[0], [43], [45]] [] [(1, 3)] [(2, 2)] (hks := [0, 1, 2, 3, 4]) (bks := [0, 1, 2, 3]) (by kernel_rfl) (by kernel_rfl) (by kernel_rfl) (.inl rfl) rfl rfl (by kernel_rfl) (by kernel_rfl) _ (fun _ _ => rfl) _ _ (fun _ _ => rfl) (fun _ _ => rfl) (fun _ _ => by kernel_rfl) (fun _ _ => by kernel_rfl) (fun r_56 x_73 => ?_))
    refine GoO.shape (env' := [(3, .pointer (some ⟨b_7, 0, none⟩)), (7, .pointer (some ⟨b_41, 0, none⟩)), (8, .pointer (some ⟨c_49, 0, none⟩)), (71, .bool true), (72, .pointer (some ⟨b_40, 0, none⟩)), (73, .string (bs r_56))]) (H' := [⟨44, b_41, [.slice A_54 r_53.b.length c_55]⟩, ⟨47, c_49, [.int .u64 o_52.now, .int .u64 o_52.next, .slice A_50 o_52.rows.length c_51]⟩, ⟨46, b_47, [.string (bs ((some o_52, r_48_q1) : Option T_session_Table × T_pack_Reader).2.s), .bool ((some o_52, r_48_q1) : Option T_session_Table × T_pack_Reader).2.bad]⟩, ⟨43, b_40, [.slice A_43 r_42.b.length c_44]⟩, ⟨40, b_7, [.int .u64 f_10, .int .u64 f_11, .slice A_13 f_12.length c_14]⟩]) (B' := [Ow 49 Kd.u8 A_54 c_55 r_53.b, Ow 48 kT_session_Row A_50 c_51 o_52.rows, Ow 45 Kd.u8 A_43 c_44 r_42.b, Ow 41 kT_session_Row A_13 c_14 f_12]) (ks := [3, 7, 8, 71, 72, 73]) (by kernel_rfl) (by kernel_rfl) (by kernel_rfl) ?_
    refine GoO.exec (is := [5]) (hs := [.p]) (rest := [6, 7, 8, 9, 10, 11, 12, 13, 14, 15, 16, 17, 18, 19, 20, 21, 22, 23, 24, 25]) (ks := [3, 8, 71, 73, 74]) (env' := [(3, .pointer (some ⟨b_7, 0, none⟩)), (8, .pointer (some ⟨c_49, 0, none⟩)), (71, .bool true), (73, .string (bs r_56)), (74, .pointer (some ⟨b_41, 0, none⟩))]) (H' := [⟨44, b_41, [.slice A_54 r_53.b.length c_55]⟩, ⟨47, c_49, [.int .u64 o_52.now, .int .u64 o_52.next, .slice A_50 o_52.rows.length c_51]⟩, ⟨46, b_47, [.string (bs ((some o_52, r_48_q1) : Option T_session_Table × T_pack_Reader).2.s), .bool ((some o_52, r_48_q1) : Option T_session_Table × T_pack_Reader).2.bad]⟩, ⟨43, b_40, [.slice A_43 r_42.b.length c_44]⟩, ⟨40, b_7, [.int .u64 f_10, .int .u64 f_11, .slice A_13 f_12.length c_14]⟩]) (ps := []) (by kernel_rfl) trivial ?_
    refine OpTo.go (GoO.call rfl (by kernel_rfl) (by kernel_rfl) (pack_Writer_Bytes_ok n r_53 b_41 A_54 c_55) [[0], [44], [49]] [] [(1, 0)] [(2, 0)] (hks := [0, 1, 2, 3, 4]) (bks := [0, 1, 2, 3]) (by kernel_rfl) (by kernel_rfl) (by kernel_rfl) (.inl rfl) rfl rfl (by kernel_rfl) (by kernel_rfl) _ (fun _ _ => rfl) _ _ (fun _ _ => rfl) (fun _ _ => rfl) (fun _ _ => by kernel_rfl) (fun _ _ => by kernel_rfl) (fun r_57 x_72 => ?_))
    refine GoO.shape (env' := [(3, .pointer (some ⟨b_7, 0, none⟩)), (8, .pointer (some ⟨c_49, 0, none⟩)), (71, .bool true), (73, .string (bs r_56)), (74, .pointer (some ⟨b_41, 0, none⟩)), (75, .string (bs r_57))]) (H' := [⟨44, b_41, [.slice A_54 r_53.b.length c_55]⟩, ⟨47, c_49, [.int .u64 o_52.now, .int .u64 o_52.next, .slice A_50 o_52.rows.length c_51]⟩, ⟨46, b_47, [.string (bs ((some o_52, r_48_q1) : Option T_session_Table × T_pack_Reader).2.s), .bool ((some o_52, r_48_q1) : Option T_session_Table × T_pack_Reader).2.bad]⟩, ⟨43, b_40, [.slice A_43 r_42.b.length c_44]⟩, ⟨40, b_7, [.int .u64 f_10, .int .u64 f_11, .slice A_13 f_12.length c_14]⟩]) (B' := [Ow 49 Kd.u8 A_54 c_55 r_53.b, Ow 48 kT_session_Row A_50 c_51 o_52.rows, Ow 45 Kd.u8 A_43 c_44 r_42.b, Ow 41 kT_session_Row A_13 c_14 f_12]) (ks := [3, 8, 71, 73, 74, 75]) (by kernel_rfl) (by kernel_rfl) (by kernel_rfl) ?_
    refine GoO.exec (is := [7, 8, 9]) (hs := [.p, .p, .p]) (rest := [10, 11, 12, 13, 14, 15, 16, 17, 18, 19, 20, 21, 22, 23, 24, 25]) (ks := [3, 8, 78]) (env' := [(3, .pointer (some ⟨b_7, 0, none⟩)), (8, .pointer (some ⟨c_49, 0, none⟩)), (78, .bool (r_56 == r_57))]) (H' := [⟨44, b_41, [.slice A_54 r_53.b.length c_55]⟩, ⟨47, c_49, [.int .u64 o_52.now, .int .u64 o_52.next, .slice A_50 o_52.rows.length c_51]⟩, ⟨46, b_47, [.string (bs ((some o_52, r_48_q1) : Option T_session_Table × T_pack_Reader).2.s), .bool ((some o_52, r_48_q1) : Option T_session_Table × T_pack_Reader).2.bad]⟩, ⟨43, b_40, [.slice A_43 r_42.b.length c_44]⟩, ⟨40, b_7, [.int .u64 f_10, .int .u64 f_11, .slice A_13 f_12.length c_14]⟩]) (ps := []) (by kernel_rfl) trivial ?_
    refine GoO.bsplit (t := 78) (by kernel_rfl) (fun h58 => ?_) (fun h58 => ?_)
    · refine GoO.exec (is := [10]) (hs := [.p]) (rest := [11, 12, 13, 14, 15, 16, 17, 18, 19, 20, 21, 22, 23, 24, 25]) (ks := [3, 8, 78, 79]) (env' := [(3, .pointer (some ⟨b_7, 0, none⟩)), (8, .pointer (some ⟨c_49, 0, none⟩)), (78, .bool true), (79, .pointer (some ⟨c_49, 0, none⟩))]) (H' := [⟨44, b_41, [.slice A_54 r_53.b.length c_55]⟩, ⟨47, c_49, [.int .u64 o_52.now, .int .u64 o_52.next, .slice A_50 o_52.rows.length c_51]⟩, ⟨46, b_47, [.string (bs ((some o_52, r_48_q1) : Option T_session_Table × T_pack_Reader).2.s), .bool ((some o_52, r_48_q1) : Option T_session_Table × T_pack_Reader).2.bad]⟩, ⟨43, b_40, [.slice A_43 r_42.b.length c_44]⟩, ⟨40, b_7, [.int .u64 f_10, .int .u64 f_11, .slice A_13 f_12.length c_14]⟩]) (ps := []) (by kernel_rfl) trivial ?_
      refine OpTo.go (GoO.call rfl (by kernel_rfl) (by kernel_rfl) (session_Table_Now_ok n o_52 c_49 A_50 c_51) [[0], [47], [48]] [] [(1, 1)] [(2, 1)] (hks := [0, 1, 2, 3, 4]) (bks := [0, 1, 2, 3]) (by kernel_rfl) (by kernel_rfl) (by kernel_rfl) (.inl rfl) rfl rfl (by kernel_rfl) (by kernel_rfl) _ (fun _ _ => rfl) _ _ (fun _ _ => rfl) (fun _ _ => rfl) (fun _ _ => by kernel_rfl) (fun _ _ => by kernel_rfl) (fun r_59 x_71 => ?_))
      refine GoO.shape (env' := [(3, .pointer (some ⟨b_7, 0, none⟩)), (8, .pointer (some ⟨c_49, 0, none⟩)), (78, .bool true), (79, .pointer (some ⟨c_49, 0, none⟩)), (80, .int .u64 r_59)]) (H' := [⟨44, b_41, [.slice A_54 r_53.b.length c_55]⟩, ⟨47, c_49, [.int .u64 o_52.now, .int .u64 o_52.next, .slice A_50 o_52.rows.length c_51]⟩, ⟨46, b_47, [.string (bs ((some o_52, r_48_q1) : Option T_session_Table × T_pack_Reader).2.s), .bool ((some o_52, r_48_q1) : Option T_session_Table × T_pack_Reader).2.bad]⟩, ⟨43, b_40, [.slice A_43 r_42.b.length c_44]⟩, ⟨40, b_7, [.int .u64 f_10, .int .u64 f_11, .slice A_13 f_12.length c_14]⟩]) (B' := [Ow 49 Kd.u8 A_54 c_55 r_53.b, Ow 48 kT_session_Row A_50 c_51 o_52.rows, Ow 45 Kd.u8 A_43 c_44 r_42.b, Ow 41 kT_session_Row A_13 c_14 f_12]) (ks := [3, 8, 78, 79, 80]) (by kernel_rfl) (by kernel_rfl) (by kernel_rfl) ?_
      refine GoO.exec (is := [12]) (hs := [.p]) (rest := [13, 14, 15, 16, 17, 18, 19, 20, 21, 22, 23, 24, 25]) (ks := [3, 8, 78, 80, 81]) (env' := [(3, .pointer (some ⟨b_7, 0, none⟩)), (8, .pointer (some ⟨c_49, 0, none⟩)), (78, .bool true), (80, .int .u64 r_59), (81, .pointer (some ⟨b_7, 0, none⟩))]) (H' := [⟨44, b_41, [.slice A_54 r_53.b.length c_55]⟩, ⟨47, c_49, [.int .u64 o_52.now, .int .u64 o_52.next, .slice A_50 o_52.rows.length c_51]⟩, ⟨46, b_47, [.string (bs ((some o_52, r_48_q1) : Option T_session_Table × T_pack_Reader).2.s), .bool ((some o_52, r_48_q1) : Option T_session_Table × T_pack_Reader).2.bad]⟩, ⟨43, b_40, [.slice A_43 r_42.b.length c_44]⟩, ⟨40, b_7, [.int .u64 f_10, .int .u64 f_11, .slice A_13 f_12.length c_14]⟩]) (ps := []) (by kernel_rfl) trivial ?_
      refine OpTo.go (GoO.call rfl (by kernel_rfl) (by kernel_rfl) (session_Table_Now_ok n (⟨f_10, f_11, f_12⟩ : T_session_Table) b_7 A_13 c_14) [[0], [40], [41]] [] [(1, 4)] [(2, 3)] (hks := [0, 1, 2, 3, 4]) (bks := [0, 1, 2, 3]) (by kernel_rfl) (by kernel_rfl) (by kernel_rfl) (.inl rfl) rfl rfl (by kernel_rfl) (by kernel_rfl) _ (fun _ _ => rfl) _ _ (fun _ _ => rfl) (fun _ _ => rfl) (fun _ _ => by kernel_rfl) (fun _ _ => by kernel_rfl) (fun r_60 x_70 => ?_))
      refine GoO.shape (env' := [(3, .pointer (some ⟨b_7, 0, none⟩)), (8, .pointer (some ⟨c_49, 0, none⟩)), (78, .bool true), (80, .int .u64 r_59), (81, .pointer (some ⟨b_7, 0, none⟩)), (82, .int .u64 r_60)]) (H' := [⟨44, b_41, [.slice A_54 r_53.b.length c_55]⟩, ⟨47, c_49, [.int .u64 o_52.now, .int .u64 o_52.next, .slice A_50 o_52.rows.length c_51]⟩, ⟨46, b_47, [.string (bs ((some o_52, r_48_q1) : Option T_session_Table × T_pack_Reader).2.s), .bool ((some o_52, r_48_q1) : Option T_session_Table × T_pack_Reader).2.bad]⟩, ⟨43, b_40, [.slice A_43 r_42.b.length c_44]⟩, ⟨40, b_7, [.int .u64 f_10, .int .u64 f_11, .slice A_13 f_12.length c_14]⟩]) (B' := [Ow 49 Kd.u8 A_54 c_55 r_53.b, Ow 48 kT_session_Row A_50 c_51 o_52.rows, Ow 45 Kd.u8 A_43 c_44 r_42.b, Ow 41 kT_session_Row A_13 c_14 f_12]) (ks := [3, 8, 78, 80, 81, 82]) (by kernel_rfl) (by kernel_rfl) (by kernel_rfl) ?_
      refine GoO.exec (is := [14, 15, 16]) (hs := [.p, .p, .p]) (rest := [17, 18, 19, 20, 21, 22, 23, 24, 25]) (ks := [3, 8, 85]) (env' := [(3, .pointer (some ⟨b_7, 0, none⟩)), (8, .pointer (some ⟨c_49, 0, none⟩)), (85, .bool (r_59 == r_60))]) (H' := [⟨44, b_41, [.slice A_54 r_53.b.length c_55]⟩, ⟨47, c_49, [.int .u64 o_52.now, .int .u64 o_52.next, .slice A_50 o_52.rows.length c_51]⟩, ⟨46, b_47, [.string (bs ((some o_52, r_48_q1) : Option T_session_Table × T_pack_Reader).2.s), .bool ((some o_52, r_48_q1) : Option T_session_Table × T_pack_Reader).2.bad]⟩, ⟨43, b_40, [.slice A_43 r_42.b.length c_44]⟩, ⟨40, b_7, [.int .u64 f_10, .int .u64 f_11, .slice A_13 f_12.length c_14]⟩]) (ps := []) (by kernel_rfl) trivial ?_
      refine GoO.bsplit (t := 85) (by kernel_rfl) (fun h61 => ?_) (fun h61 => ?_)
      · refine GoO.exec (is := [17]) (hs := [.p]) (rest := [18, 19, 20, 21, 22, 23, 24, 25]) (ks := [3, 85, 86]) (env' := [(3, .pointer (some ⟨b_7, 0, none⟩)), (85, .bool true), (86, .pointer (some ⟨c_49, 0, none⟩))]) (H' := [⟨44, b_41, [.slice A_54 r_53.b.length c_55]⟩, ⟨47, c_49, [.int .u64 o_52.now, .int .u64 o_52.next, .slice A_50 o_52.rows.length c_51]⟩, ⟨46, b_47, [.string (bs ((some o_52, r_48_q1) : Option T_session_Table × T_pack_Reader).2.s), .bool ((some o_52, r_48_q1) : Option T_session_Table × T_pack_Reader).2.bad]⟩, ⟨43, b_40, [.slice A_43 r_42.b.length c_44]⟩, ⟨40, b_7, [.int .u64 f_10, .int .u64 f_11, .slice A_13 f_12.length c_14]⟩]) (ps := []) (by kernel_rfl) trivial ?_
        refine OpTo.go (GoO.call rfl (by kernel_rfl) (by kernel_rfl) (session_Table_Rows_ok n o_52 c_49 A_50 c_51) [[0], [47], [48]] [(50, 3)] [(1, 1)] [(2, 1)] (hks := [0, 1, 2, 3, 4]) (bks := [0, 1, 2, 3]) (by kernel_rfl) (by kernel_rfl) (by kernel_rfl) (.inl rfl) rfl rfl (by kernel_rfl) (by kernel_rfl) _ (fun _ _ => rfl) _ _ (fun _ _ => rfl) (fun _ _ => rfl) (fun _ _ => by kernel_rfl) (fun _ _ => by kernel_rfl) (fun r_62 x_69 => ?_))
        obtain ⟨A_63, c_64⟩ := x_69
        refine GoO.shape (env' := [(3, .pointer (some ⟨b_7, 0, none⟩)), (85, .bool true), (86, .pointer (some ⟨c_49, 0, none⟩)), (87, .slice A_63 r_62.length c_64)]) (H' := [⟨44, b_41, [.slice A_54 r_53.b.length c_55]⟩, ⟨47, c_49, [.int .u64 o_52.now, .int .u64 o_52.next, .slice A_50 o_52.rows.length c_51]⟩, ⟨46, b_47, [.string (bs ((some o_52, r_48_q1) : Option T_session_Table × T_pack_Reader).2.s), .bool ((some o_52, r_48_q1) : Option T_session_Table × T_pack_Reader).2.bad]⟩, ⟨43, b_40, [.slice A_43 r_42.b.length c_44]⟩, ⟨40, b_7, [.int .u64 f_10, .int .u64 f_11, .slice A_13 f_12.length c_14]⟩]) (B' := [Ow 50 kT_session_Row A_63 c_64 r_62, Ow 49 Kd.u8 A_54 c_55 r_53.b, Ow 48 kT_session_Row A_50 c_51 o_52.rows, Ow 45 Kd.u8 A_43 c_44 r_42.b, Ow 41 kT_session_Row A_13 c_14 f_12]) (ks := [3, 85, 86, 87]) (by kernel_rfl) (by kernel_rfl) (by kernel_rfl) ?_
        refine GoO.exec (is := [19, 20]) (hs := [.p, .p]) (rest := [21, 22, 23, 24, 25]) (ks := [85, 88, 89]) (env' := [(85, .bool true), (88, .int .i64 (r_62.length : Int)), (89, .pointer (some ⟨b_7, 0, none⟩))]) (H' := [⟨44, b_41, [.slice A_54 r_53.b.length c_55]⟩, ⟨47, c_49, [.int .u64 o_52.now, .int .u64 o_52.next, .slice A_50 o_52.rows.length c_51]⟩, ⟨46, b_47, [.string (bs ((some o_52, r_48_q1) : Option T_session_Table × T_pack_Reader).2.s), .bool ((some o_52, r_48_q1) : Option T_session_Table × T_pack_Reader).2.bad]⟩, ⟨43, b_40, [.slice A_43 r_42.b.length c_44]⟩, ⟨40, b_7, [.int .u64 f_10, .int .u64 f_11, .slice A_13 f_12.length c_14]⟩]) (ps := []) (by kernel_rfl) trivial ?_
        refine OpTo.go (GoO.call rfl (by kernel_rfl) (by kernel_rfl) (session_Table_Rows_ok n (⟨f_10, f_11, f_12⟩ : T_session_Table) b_7 A_13 c_14) [[0], [40], [41]] [(51, 3)] [(1, 4)] [(2, 4)] (hks := [0, 1, 2, 3, 4]) (bks := [0, 1, 2, 3, 4]) (by kernel_rfl) (by kernel_rfl) (by kernel_rfl) (.inl rfl) rfl rfl (by kernel_rfl) (by kernel_rfl) _ (fun _ _ => rfl) _ _ (fun _ _ => rfl) (fun _ _ => rfl) (fun _ _ => by kernel_rfl) (fun _ _ => by kernel_rfl) (fun r_65 x_68 => ?_))
        obtain ⟨A_66, c_67⟩ := x_68
        refine GoO.shape (env' := [(85, .bool true), (88, .int .i64 (r_62.length : Int)), (89, .pointer (some ⟨b_7, 0, none⟩)), (90, .slice A_66 r_65.length c_67)]) (H' := [⟨44, b_41, [.slice A_54 r_53.b.length c_55]⟩, ⟨47, c_49, [.int .u64 o_52.now, .int .u64 o_52.next, .slice A_50 o_52.rows.length c_51]⟩, ⟨46, b_47, [.string (bs ((some o_52, r_48_q1) : Option T_session_Table × T_pack_Reader).2.s), .bool ((some o_52, r_48_q1) : Option T_session_Table × T_pack_Reader).2.bad]⟩, ⟨43, b_40, [.slice A_43 r_42.b.length c_44]⟩, ⟨40, b_7, [.int .u64 f_10, .int .u64 f_11, .slice A_13 f_12.length c_14]⟩]) (B' := [Ow 51 kT_session_Row A_66 c_67 r_65, Ow 50 kT_session_Row A_63 c_64 r_62, Ow 49 Kd.u8 A_54 c_55 r_53.b, Ow 48 kT_session_Row A_50 c_51 o_52.rows, Ow 45 Kd.u8 A_43 c_44 r_42.b, Ow 41 kT_session_Row A_13 c_14 f_12]) (ks := [85, 88, 89, 90]) (by kernel_rfl) (by kernel_rfl) (by kernel_rfl) ?_
        refine GoO.exec (is := [22, 23, 24, 25]) (hs := [.p, .p, .p, .p]) (rest := []) (ks := [2]) (env' := [(2, .bool ((r_62.length : Int) == (r_65.length : Int)))]) (H' := [⟨44, b_41, [.slice A_54 r_53.b.length c_55]⟩, ⟨47, c_49, [.int .u64 o_52.now, .int .u64 o_52.next, .slice A_50 o_52.rows.length c_51]⟩, ⟨46, b_47, [.string (bs ((some o_52, r_48_q1) : Option T_session_Table × T_pack_Reader).2.s), .bool ((some o_52, r_48_q1) : Option T_session_Table × T_pack_Reader).2.bad]⟩, ⟨43, b_40, [.slice A_43 r_42.b.length c_44]⟩, ⟨40, b_7, [.int .u64 f_10, .int .u64 f_11, .slice A_13 f_12.length c_14]⟩]) (ps := []) (by kernel_rfl) trivial ?_
        refine GoO.regionEnd ?_
        exact GoO.ret' (h := c13_62e) (hs := []) (ps := []) (hk := []) (bk := []) Try.func13 () (by kernel_rfl) trivial (by kernel_rfl) (by kernel_rfl)
      · refine GoO.exec (is := [17, 18, 19, 20, 21, 22, 23, 24, 25]) (hs := [.p, .p, .p, .p, .p, .p, .p, .p, .p]) (rest := []) (ks := [2]) (env' := [(2, .bool false)]) (H' := [⟨44, b_41, [.slice A_54 r_53.b.length c_55]⟩, ⟨47, c_49, [.int .u64 o_52.now, .int .u64 o_52.next, .slice A_50 o_52.rows.length c_51]⟩, ⟨46, b_47, [.string (bs ((some o_52, r_48_q1) : Option T_session_Table × T_pack_Reader).2.s), .bool ((some o_52, r_48_q1) : Option T_session_Table × T_pack_Reader).2.bad]⟩, ⟨43, b_40, [.slice A_43 r_42.b.length c_44]⟩, ⟨40, b_7, [.int .u64 f_10, .int .u64 f_11, .slice A_13 f_12.length c_14]⟩]) (ps := []) (by kernel_rfl) trivial ?_
        refine GoO.regionEnd ?_
        exact GoO.ret' (h := c13_62e) (hs := []) (ps := []) (hk := []) (bk := []) Try.func13 () (by kernel_rfl) trivial (by kernel_rfl) (by kernel_rfl)
    · refine GoO.exec (is := [10, 11, 12, 13, 14, 15, 16, 17, 18, 19, 20, 21, 22, 23, 24, 25]) (hs := [.p, .p, .p, .p, .p, .p, .p, .p, .p, .p, .p, .p, .p, .p, .p, .p]) (rest := []) (ks := [2]) (env' := [(2, .bool false)]) (H' := [⟨44, b_41, [.slice A_54 r_53.b.length c_55]⟩, ⟨47, c_49, [.int .u64 o_52.now, .int .u64 o_52.next, .slice A_50 o_52.rows.length c_51]⟩, ⟨46, b_47, [.string (bs ((some o_52, r_48_q1) : Option T_session_Table × T_pack_Reader).2.s), .bool ((some o_52, r_48_q1) : Option T_session_Table × T_pack_Reader).2.bad]⟩, ⟨43, b_40, [.slice A_43 r_42.b.length c_44]⟩, ⟨40, b_7, [.int .u64 f_10, .int .u64 f_11, .slice A_13 f_12.length c_14]⟩]) (ps := []) (by kernel_rfl) trivial ?_
      refine GoO.regionEnd ?_
      exact GoO.ret' (h := c13_62e) (hs := []) (ps := []) (hk := []) (bk := []) Try.func13 () (by kernel_rfl) trivial (by kernel_rfl) (by kernel_rfl)
theorem tontinelaw15_SessionSaves_l0_ok (n : Nat) (calls_1 : (List T_tontinelaw15_Call)) (A_2 : Option Addr) (c_3 : Nat) (b_7 : Nat) (w0 : World) (S0 : Fam) :
    ∀ (k : Nat) (f_10 : Int) (f_11 : Int) (f_12 : (List T_session_Row)) (x_15 : Int) (A_13 : Option Addr) (c_14 : Nat), GoO (tontinelaw15_SessionSaves.cx A_2 c_3 w0 S0) [(3, .pointer (some ⟨b_7, 0, none⟩)), (12, .slice A_2 calls_1.length c_3), (13, .int .i64 (calls_1.length : Int)), (14, .int .i64 x_15)] [⟨40, b_7, [.int .u64 f_10, .int .u64 f_11, .slice A_13 f_12.length c_14]⟩] [Ow 41 kT_session_Row A_13 c_14 f_12, Rd 0 kT_tontinelaw15_Call A_2 c_3 calls_1] [.code c13_17, .inLoop c13_17, .inBlock 0, .code c13_52] (tontinelaw15_SessionSaves.l0 n calls_1 k f_10 f_11 f_12 x_15) := by
  intro k
  induction k with
  | zero => intros; rw [tontinelaw15_SessionSaves.l0.eq_1]; exact GoO.stop
  | succ k ih0 =>
    intro f_10 f_11 f_12 x_15 A_13 c_14
    rw [tontinelaw15_SessionSaves.l0.eq_2]
    refine GoO.seq' c13_17e ?_
    refine GoO.region' (is := [0]) c13_18e (by kernel_rfl) ?_
    refine GoO.exec (is := [0]) (hs := [.p]) (rest := []) (ks := [3, 12, 13, 14, 15]) (env' := [(3, .pointer (some ⟨b_7, 0, none⟩)), (12, .slice A_2 calls_1.length c_3), (13, .int .i64 (calls_1.length : Int)), (14, .int .i64 x_15), (15, .bool (decide (x_15 < (calls_1.length : Int))))]) (H' := [⟨40, b_7, [.int .u64 f_10, .int .u64 f_11, .slice A_13 f_12.length c_14]⟩]) (ps := []) (by kernel_rfl) trivial ?_
    refine GoO.regionEnd ?_
    refine GoO.seq' c13_19e ?_
    refine GoO.ite' c13_20e (by kernel_rfl) (fun h16 => ?_) (fun h16 => ?_)
    · refine GoO.skip' c13_21e ?_
      refine GoO.seq' c13_23e ?_
      refine GoO.block' c13_24e ?_
      refine GoO.seq' c13_25e ?_
      refine GoO.region' (is := [0, 1, 2, 3, 4, 5]) c13_26e (by kernel_rfl) ?_
      refine GoO.exec (is := [0]) (hs := [.p]) (rest := [1, 2, 3, 4, 5]) (ks := [3, 12, 13, 14, 16]) (env' := [(3, .pointer (some ⟨b_7, 0, none⟩)), (12, .slice A_2 calls_1.length c_3), (13, .int .i64 (calls_1.length : Int)), (14, .int .i64 x_15), (16, .int .i64 x_15)]) (H' := [⟨40, b_7, [.int .u64 f_10, .int .u64 f_11, .slice A_13 f_12.length c_14]⟩]) (ps := []) (by kernel_rfl) trivial ?_
      refine GoO.guard (fun h17 => ?_)
      refine OpTo.go (GoO.idx (kk := .i64) (e := 33) (K := kT_tontinelaw15_Call) (A := A_2) (c := c_3) (xs := calls_1) (iv := x_15) (j := 1) rfl (by kernel_rfl) (by kernel_rfl) (by kernel_rfl) (by kernel_rfl) rfl Reads.rd rfl h17.1 h17.2 (by decide) rfl ?_)
      refine OpTo.go (GoO.ldE' (K := kT_tontinelaw15_Call) (A := A_2) (c := c_3) (xs := calls_1) (iN := x_15.toNat) (off := 0) (j := 1) rfl (by kernel_rfl) rfl Reads.rd (by first | exact idx_lt h17.1 h17.2 | (simp only [List.length_set]; exact idx_lt h17.1 h17.2)) (by decide) (Opn.flat _ _ _ _ _) (v := fun _ => .agg ⟨[.int .i64 ((rdL calls_1 x_15).Kind), .int .u64 ((rdL calls_1 x_15).Id), .int .u64 ((rdL calls_1 x_15).Seq), .int .i64 ((rdL calls_1 x_15).Reply.Err), .int .u64 ((rdL calls_1 x_15).Reply.Num), .int .u64 ((rdL calls_1 x_15).Reply.Extra)]⟩) (fun _ => by kernel_rfl) _ (fun _ => rfl) (fun _ => ?_))
      refine OpTo.go (GoO.new rfl 42 (cs := [.int .i64 0, .int .u64 0, .int .u64 0, .int .i64 0, .int .u64 0, .int .u64 0]) (by kernel_rfl) _ (fun _ => rfl) (fun b_18 => ?_))
      refine GoO.exec (is := [4, 5]) (hs := [.p, .b 0]) (rest := []) (ks := [3, 4, 5, 12, 13, 14]) (env' := [(3, .pointer (some ⟨b_7, 0, none⟩)), (4, .int .i64 x_15), (5, .pointer (some ⟨b_18, 0, none⟩)), (12, .slice A_2 calls_1.length c_3), (13, .int .i64 (calls_1.length : Int)), (14, .int .i64 x_15)]) (H' := [⟨42, b_18, [.int .i64 ((rdL calls_1 x_15).Kind), .int .u64 ((rdL calls_1 x_15).Id), .int .u64 ((rdL calls_1 x_15).Seq), .int .i64 ((rdL calls_1 x_15).Reply.Err), .int .u64 ((rdL calls_1 x_15).Reply.Num), .int .u64 ((rdL calls_1 x_15).Reply.Extra)]⟩, ⟨40, b_7, [.int .u64 f_10, .int .u64 f_11, .slice A_13 f_12.length c_14]⟩]) (ps := [b_18 = b_18]) (by kernel_rfl) (And.intro rfl trivial) ?_
      refine GoO.regionEnd ?_
      refine GoO.seq' c13_27e ?_
      refine GoO.seq' c13_28e ?_
      refine GoO.region' (is := [0, 1]) c13_29e (by kernel_rfl) ?_
      refine GoO.exec (is := [0, 1]) (hs := [.p, .p]) (rest := []) (ks := [3, 5, 12, 13, 14, 20]) (env' := [(3, .pointer (some ⟨b_7, 0, none⟩)), (5, .pointer (some ⟨b_18, 0, none⟩)), (12, .slice A_2 calls_1.length c_3), (13, .int .i64 (calls_1.length : Int)), (14, .int .i64 x_15), (20, .bool (x_15 == 400))]) (H' := [⟨42, b_18, [.int .i64 ((rdL calls_1 x_15).Kind), .int .u64 ((rdL calls_1 x_15).Id), .int .u64 ((rdL calls_1 x_15).Seq), .int .i64 ((rdL calls_1 x_15).Reply.Err), .int .u64 ((rdL calls_1 x_15).Reply.Num), .int .u64 ((rdL calls_1 x_15).Reply.Extra)]⟩, ⟨40, b_7, [.int .u64 f_10, .int .u64 f_11, .slice A_13 f_12.length c_14]⟩]) (ps := []) (by kernel_rfl) trivial ?_
      refine GoO.regionEnd ?_
      refine GoO.ite' c13_30e (by kernel_rfl) (fun h19 => ?_) (fun h19 => ?_)
      · refine GoO.exit' c13_31e rfl ?_
        exact GoO.sub (ks := [3]) (hk := [1]) (bk := [0]) (by kernel_rfl) (by kernel_rfl) (by kernel_rfl) (tontinelaw15_SessionSaves_j0_ok n f_10 f_11 f_12 b_7 A_13 c_14 A_2 c_3 w0 S0)
      · refine GoO.skip' c13_32e ?_
        refine GoO.seq' c13_33e ?_
        refine GoO.region' (is := [0, 1]) c13_34e (by kernel_rfl) ?_
        refine GoO.exec (is := [0, 1]) (hs := [.p, .b 0]) (rest := []) (ks := [3, 5, 12, 13, 14, 22]) (env' := [(3, .pointer (some ⟨b_7, 0, none⟩)), (5, .pointer (some ⟨b_18, 0, none⟩)), (12, .slice A_2 calls_1.length c_3), (13, .int .i64 (calls_1.length : Int)), (14, .int .i64 x_15), (22, .int .i64 ((rdL calls_1 x_15).Kind))]) (H' := [⟨42, b_18, [.int .i64 ((rdL calls_1 x_15).Kind), .int .u64 ((rdL calls_1 x_15).Id), .int .u64 ((rdL calls_1 x_15).Seq), .int .i64 ((rdL calls_1 x_15).Reply.Err), .int .u64 ((rdL calls_1 x_15).Reply.Num), .int .u64 ((rdL calls_1 x_15).Reply.Extra)]⟩, ⟨40, b_7, [.int .u64 f_10, .int .u64 f_11, .slice A_13 f_12.length c_14]⟩]) (ps := [b_18 = b_18]) (by kernel_rfl) (And.intro rfl trivial) ?_
        refine GoO.regionEnd ?_
        refine GoO.block' c13_35e ?_
        refine GoO.seq' c13_36e ?_
        refine GoO.region' (is := [0, 1]) c13_37e (by kernel_rfl) ?_
        refine GoO.exec (is := [0, 1]) (hs := [.p, .p]) (rest := []) (ks := [3, 5, 12, 13, 14, 22, 38]) (env' := [(3, .pointer (some ⟨b_7, 0, none⟩)), (5, .pointer (some ⟨b_18, 0, none⟩)), (12, .slice A_2 calls_1.length c_3), (13, .int .i64 (calls_1.length : Int)), (14, .int .i64 x_15), (22, .int .i64 ((rdL calls_1 x_15).Kind)), (38, .bool (((rdL calls_1 x_15).Kind) == 0))]) (H' := [⟨42, b_18, [.int .i64 ((rdL calls_1 x_15).Kind), .int .u64 ((rdL calls_1 x_15).Id), .int .u64 ((rdL calls_1 x_15).Seq), .int .i64 ((rdL calls_1 x_15).Reply.Err), .int .u64 ((rdL calls_1 x_15).Reply.Num), .int .u64 ((rdL calls_1 x_15).Reply.Extra)]⟩, ⟨40, b_7, [.int .u64 f_10, .int .u64 f_11, .slice A_13 f_12.length c_14]⟩]) (ps := []) (by kernel_rfl) trivial ?_
        refine GoO.regionEnd ?_
        refine GoO.ite' c13_38e (by kernel_rfl) (fun h20 => ?_) (fun h20 => ?_)
        · refine GoO.region' (is := [0, 1, 2, 3]) c13_39e (by kernel_rfl) ?_
          refine GoO.exec (is := [0, 1, 2]) (hs := [.p, .p, .b 0]) (rest := [3]) (ks := [3, 12, 13, 14, 40, 42]) (env' := [(3, .pointer (some ⟨b_7, 0, none⟩)), (12, .slice A_2 calls_1.length c_3), (13, .int .i64 (calls_1.length : Int)), (14, .int .i64 x_15), (40, .pointer (some ⟨b_7, 0, none⟩)), (42, .int .u64 ((rdL calls_1 x_15).Id))]) (H' := [⟨42, b_18, [.int .i64 ((rdL calls_1 x_15).Kind), .int .u64 ((rdL calls_1 x_15).Id), .int .u64 ((rdL calls_1 x_15).Seq), .int .i64 ((rdL calls_1 x_15).Reply.Err), .int .u64 ((rdL calls_1 x_15).Reply.Num), .int .u64 ((rdL calls_1 x_15).Reply.Extra)]⟩, ⟨40, b_7, [.int .u64 f_10, .int .u64 f_11, .slice A_13 f_12.length c_14]⟩]) (ps := [b_18 = b_18]) (by kernel_rfl) (And.intro rfl trivial) ?_
          refine OpTo.go (GoO.call rfl (by kernel_rfl) (by kernel_rfl) (session_Table_Clock_ok n (⟨f_10, f_11, f_12⟩ : T_session_Table) ((rdL calls_1 x_15).Id) b_7 A_13 c_14) [[0], [40], [41]] [(40, 1), (41, 2)] [(1, 1)] [(2, 0)] (hks := [0]) (bks := [1]) (by kernel_rfl) (by kernel_rfl) (by kernel_rfl) (.inl rfl) rfl rfl (by kernel_rfl) (by kernel_rfl) _ (fun _ _ => rfl) _ _ (fun _ _ => rfl) (fun _ _ => rfl) (fun _ _ => by kernel_rfl) (fun _ _ => by kernel_rfl) (fun r_21 x_24 => ?_))
          obtain ⟨A_22, c_23⟩ := x_24
          refine GoO.shape (env' := [(3, .pointer (some ⟨b_7, 0, none⟩)), (12, .slice A_2 calls_1.length c_3), (13, .int .i64 (calls_1.length : Int)), (14, .int .i64 x_15), (40, .pointer (some ⟨b_7, 0, none⟩)), (42, .int .u64 ((rdL calls_1 x_15).Id)), (43, .tuple ⟨[]⟩)]) (H' := [⟨40, b_7, [.int .u64 r_21.now, .int .u64 r_21.next, .slice A_22 r_21.rows.length c_23]⟩, ⟨42, b_18, [.int .i64 ((rdL calls_1 x_15).Kind), .int .u64 ((rdL calls_1 x_15).Id), .int .u64 ((rdL calls_1 x_15).Seq), .int .i64 ((rdL calls_1 x_15).Reply.Err), .int .u64 ((rdL calls_1 x_15).Reply.Num), .int .u64 ((rdL calls_1 x_15).Reply.Extra)]⟩]) (B' := [Ow 41 kT_session_Row A_22 c_23 r_21.rows, Rd 0 kT_tontinelaw15_Call A_2 c_3 calls_1]) (ks := [3, 12, 13, 14, 40, 42, 43]) (by kernel_rfl) (by kernel_rfl) (by kernel_rfl) ?_
          refine GoO.regionEnd ?_
          refine GoO.inBlock ?_
          refine GoO.inBlock ?_
          refine GoO.region' (is := [0, 1]) c13_51e (by kernel_rfl) ?_
          refine GoO.exec (is := [0, 1]) (hs := [.p, .p]) (rest := []) (ks := [3, 12, 13, 14]) (env' := [(3, .pointer (some ⟨b_7, 0, none⟩)), (12, .slice A_2 calls_1.length c_3), (13, .int .i64 (calls_1.length : Int)), (14, .int .i64 (wi64 (x_15 + 1)))]) (H' := [⟨40, b_7, [.int .u64 r_21.now, .int .u64 r_21.next, .slice A_22 r_21.rows.length c_23]⟩, ⟨42, b_18, [.int .i64 ((rdL calls_1 x_15).Kind), .int .u64 ((rdL calls_1 x_15).Id), .int .u64 ((rdL calls_1 x_15).Seq), .int .i64 ((rdL calls_1 x_15).Reply.Err), .int .u64 ((rdL calls_1 x_15).Reply.Num), .int .u64 ((rdL calls_1 x_15).Reply.Extra)]⟩]) (ps := []) (by kernel_rfl) trivial ?_
          refine GoO.regionEnd ?_
          refine GoO.inLoop ?_
          exact GoO.sub (ks := [3, 12, 13, 14]) (hk := [0]) (bk := [0, 1]) (by kernel_rfl) (by kernel_rfl) (by kernel_rfl) (ih0 r_21.now r_21.next r_21.rows (wi64 (x_15 + 1)) A_22 c_23)
        · refine GoO.seq' c13_40e ?_
          refine GoO.region' (is := [0, 1]) c13_41e (by kernel_rfl) ?_
          refine GoO.exec (is := [0, 1]) (hs := [.p, .p]) (rest := []) (ks := [3, 5, 12, 13, 14, 22, 44]) (env' := [(3, .pointer (some ⟨b_7, 0, none⟩)), (5, .pointer (some ⟨b_18, 0, none⟩)), (12, .slice A_2 calls_1.length c_3), (13, .int .i64 (calls_1.length : Int)), (14, .int .i64 x_15), (22, .int .i64 ((rdL calls_1 x_15).Kind)), (44, .bool (((rdL calls_1 x_15).Kind) == 1))]) (H' := [⟨42, b_18, [.int .i64 ((rdL calls_1 x_15).Kind), .int .u64 ((rdL calls_1 x_15).Id), .int .u64 ((rdL calls_1 x_15).Seq), .int .i64 ((rdL calls_1 x_15).Reply.Err), .int .u64 ((rdL calls_1 x_15).Reply.Num), .int .u64 ((rdL calls_1 x_15).Reply.Extra)]⟩, ⟨40, b_7, [.int .u64 f_10, .int .u64 f_11, .slice A_13 f_12.length c_14]⟩]) (ps := []) (by kernel_rfl) trivial ?_
          refine GoO.regionEnd ?_
          refine GoO.ite' c13_42e (by kernel_rfl) (fun h25 => ?_) (fun h25 => ?_)
          · refine GoO.region' (is := [0, 1]) c13_43e (by kernel_rfl) ?_
            refine GoO.exec (is := [0]) (hs := [.p]) (rest := [1]) (ks := [3, 12, 13, 14, 46]) (env' := [(3, .pointer (some ⟨b_7, 0, none⟩)), (12, .slice A_2 calls_1.length c_3), (13, .int .i64 (calls_1.length : Int)), (14, .int .i64 x_15), (46, .pointer (some ⟨b_7, 0, none⟩))]) (H' := [⟨42, b_18, [.int .i64 ((rdL calls_1 x_15).Kind), .int .u64 ((rdL calls_1 x_15).Id), .int .u64 ((rdL calls_1 x_15).Seq), .int .i64 ((rdL calls_1 x_15).Reply.Err), .int .u64 ((rdL calls_1 x_15).Reply.Num), .int .u64 ((rdL calls_1 x_15).Reply.Extra)]⟩, ⟨40, b_7, [.int .u64 f_10, .int .u64 f_11, .slice A_13 f_12.length c_14]⟩]) (ps := []) (by kernel_rfl) trivial ?_
            refine OpTo.go (GoO.call rfl (by kernel_rfl) (by kernel_rfl) (session_Table_Register_ok n (⟨f_10, f_11, f_12⟩ : T_session_Table) b_7 A_13 c_14) [[0], [40], [41]] [(40, 1), (41, 2)] [(1, 1)] [(2, 0)] (hks := [0]) (bks := [1]) (by kernel_rfl) (by kernel_rfl) (by kernel_rfl) (.inl rfl) rfl rfl (by kernel_rfl) (by kernel_rfl) _ (fun _ _ => rfl) _ _ (fun _ _ => rfl) (fun _ _ => rfl) (fun _ _ => by kernel_rfl) (fun _ _ => by kernel_rfl) (fun r_26 x_29 => ?_))
            obtain ⟨A_27, c_28⟩ := x_29
            refine GoO.shape (env' := [(3, .pointer (some ⟨b_7, 0, none⟩)), (12, .slice A_2 calls_1.length c_3), (13, .int .i64 (calls_1.length : Int)), (14, .int .i64 x_15), (46, .pointer (some ⟨b_7, 0, none⟩)), (47, .tuple ⟨[.int .u64 r_26.1, .int .i64 r_26.2.1]⟩)]) (H' := [⟨40, b_7, [.int .u64 r_26.2.2.now, .int .u64 r_26.2.2.next, .slice A_27 r_26.2.2.rows.length c_28]⟩, ⟨42, b_18, [.int .i64 ((rdL calls_1 x_15).Kind), .int .u64 ((rdL calls_1 x_15).Id), .int .u64 ((rdL calls_1 x_15).Seq), .int .i64 ((rdL calls_1 x_15).Reply.Err), .int .u64 ((rdL calls_1 x_15).Reply.Num), .int .u64 ((rdL calls_1 x_15).Reply.Extra)]⟩]) (B' := [Ow 41 kT_session_Row A_27 c_28 r_26.2.2.rows, Rd 0 kT_tontinelaw15_Call A_2 c_3 calls_1]) (ks := [3, 12, 13, 14, 46, 47]) (by kernel_rfl) (by kernel_rfl) (by kernel_rfl) ?_
            refine GoO.regionEnd ?_
            refine GoO.inBlock ?_
            refine GoO.inBlock ?_
            refine GoO.region' (is := [0, 1]) c13_51e (by kernel_rfl) ?_
            refine GoO.exec (is := [0, 1]) (hs := [.p, .p]) (rest := []) (ks := [3, 12, 13, 14]) (env' := [(3, .pointer (some ⟨b_7, 0, none⟩)), (12, .slice A_2 calls_1.length c_3), (13, .int .i64 (calls_1.length : Int)), (14, .int .i64 (wi64 (x_15 + 1)))]) (H' := [⟨40, b_7, [.int .u64 r_26.2.2.now, .int .u64 r_26.2.2.next, .slice A_27 r_26.2.2.rows.length c_28]⟩, ⟨42, b_18, [.int .i64 ((rdL calls_1 x_15).Kind), .int .u64 ((rdL calls_1 x_15).Id), .int .u64 ((rdL calls_1 x_15).Seq), .int .i64 ((rdL calls_1 x_15).Reply.Err), .int .u64 ((rdL calls_1 x_15).Reply.Num), .int .u64 ((rdL calls_1 x_15).Reply.Extra)]⟩]) (ps := []) (by kernel_rfl) trivial ?_
            refine GoO.regionEnd ?_
            refine GoO.inLoop ?_
            exact GoO.sub (ks := [3, 12, 13, 14]) (hk := [0]) (bk := [0, 1]) (by kernel_rfl) (by kernel_rfl) (by kernel_rfl) (ih0 r_26.2.2.now r_26.2.2.next r_26.2.2.rows (wi64 (x_15 + 1)) A_27 c_28)
          · refine GoO.seq' c13_44e ?_
            refine GoO.region' (is := [0, 1]) c13_45e (by kernel_rfl) ?_
            refine GoO.exec (is := [0, 1]) (hs := [.p, .p]) (rest := []) (ks := [3, 5, 12, 13, 14, 48]) (env' := [(3, .pointer (some ⟨b_7, 0, none⟩)), (5, .pointer (some ⟨b_18, 0, none⟩)), (12, .slice A_2 calls_1.length c_3), (13, .int .i64 (calls_1.length : Int)), (14, .int .i64 x_15), (48, .bool (((rdL calls_1 x_15).Kind) == 2))]) (H' := [⟨42, b_18, [.int .i64 ((rdL calls_1 x_15).Kind), .int .u64 ((rdL calls_1 x_15).Id), .int .u64 ((rdL calls_1 x_15).Seq), .int .i64 ((rdL calls_1 x_15).Reply.Err), .int .u64 ((rdL calls_1 x_15).Reply.Num), .int .u64 ((rdL calls_1 x_15).Reply.Extra)]⟩, ⟨40, b_7, [.int .u64 f_10, .int .u64 f_11, .slice A_13 f_12.length c_14]⟩]) (ps := []) (by kernel_rfl) trivial ?_
            refine GoO.regionEnd ?_
            refine GoO.ite' c13_46e (by kernel_rfl) (fun h30 => ?_) (fun h30 => ?_)
            · refine GoO.region' (is := [0, 1, 2, 3, 4, 5]) c13_47e (by kernel_rfl) ?_
              refine GoO.exec (is := [0, 1, 2, 3, 4]) (hs := [.p, .p, .b 0, .p, .b 0]) (rest := [5]) (ks := [3, 12, 13, 14, 50, 52, 54]) (env' := [(3, .pointer (some ⟨b_7, 0, none⟩)), (12, .slice A_2 calls_1.length c_3), (13, .int .i64 (calls_1.length : Int)), (14, .int .i64 x_15), (50, .pointer (some ⟨b_7, 0, none⟩)), (52, .int .u64 ((rdL calls_1 x_15).Id)), (54, .int .u64 ((rdL calls_1 x_15).Seq))]) (H' := [⟨42, b_18, [.int .i64 ((rdL calls_1 x_15).Kind), .int .u64 ((rdL calls_1 x_15).Id), .int .u64 ((rdL calls_1 x_15).Seq), .int .i64 ((rdL calls_1 x_15).Reply.Err), .int .u64 ((rdL calls_1 x_15).Reply.Num), .int .u64 ((rdL calls_1 x_15).Reply.Extra)]⟩, ⟨40, b_7, [.int .u64 f_10, .int .u64 f_11, .slice A_13 f_12.length c_14]⟩]) (ps := [b_18 = b_18, b_18 = b_18]) (by kernel_rfl) (And.intro rfl (And.intro rfl trivial)) ?_
              refine OpTo.go (GoO.call rfl (by kernel_rfl) (by kernel_rfl) (session_Table_Begin_ok n (⟨f_10, f_11, f_12⟩ : T_session_Table) ((rdL calls_1 x_15).Id) ((rdL calls_1 x_15).Seq) b_7 A_13 c_14) [[0], [40], [41]] [(40, 1), (41, 2)] [(1, 1)] [(2, 0)] (hks := [0]) (bks := [1]) (by kernel_rfl) (by kernel_rfl) (by kernel_rfl) (.inl rfl) rfl rfl (by kernel_rfl) (by kernel_rfl) _ (fun _ _ => rfl) _ _ (fun _ _ => rfl) (fun _ _ => rfl) (fun _ _ => by kernel_rfl) (fun _ _ => by kernel_rfl) (fun r_31 x_34 => ?_))
              obtain ⟨A_32, c_33⟩ := x_34
              refine GoO.shape (env' := [(3, .pointer (some ⟨b_7, 0, none⟩)), (12, .slice A_2 calls_1.length c_3), (13, .int .i64 (calls_1.length : Int)), (14, .int .i64 x_15), (50, .pointer (some ⟨b_7, 0, none⟩)), (52, .int .u64 ((rdL calls_1 x_15).Id)), (54, .int .u64 ((rdL calls_1 x_15).Seq)), (55, .tuple ⟨[.agg ⟨[.int .i64 r_31.1.Err, .int .u64 r_31.1.Num, .int .u64 r_31.1.Extra]⟩, .bool r_31.2.1]⟩)]) (H' := [⟨40, b_7, [.int .u64 r_31.2.2.now, .int .u64 r_31.2.2.next, .slice A_32 r_31.2.2.rows.length c_33]⟩, ⟨42, b_18, [.int .i64 ((rdL calls_1 x_15).Kind), .int .u64 ((rdL calls_1 x_15).Id), .int .u64 ((rdL calls_1 x_15).Seq), .int .i64 ((rdL calls_1 x_15).Reply.Err), .int .u64 ((rdL calls_1 x_15).Reply.Num), .int .u64 ((rdL calls_1 x_15).Reply.Extra)]⟩]) (B' := [Ow 41 kT_session_Row A_32 c_33 r_31.2.2.rows, Rd 0 kT_tontinelaw15_Call A_2 c_3 calls_1]) (ks := [3, 12, 13, 14, 50, 52, 54, 55]) (by kernel_rfl) (by kernel_rfl) (by kernel_rfl) ?_
              refine GoO.regionEnd ?_
              refine GoO.inBlock ?_
              refine GoO.inBlock ?_
              refine GoO.region' (is := [0, 1]) c13_51e (by kernel_rfl) ?_
              refine GoO.exec (is := [0, 1]) (hs := [.p, .p]) (rest := []) (ks := [3, 12, 13, 14]) (env' := [(3, .pointer (some ⟨b_7, 0, none⟩)), (12, .slice A_2 calls_1.length c_3), (13, .int .i64 (calls_1.length : Int)), (14, .int .i64 (wi64 (x_15 + 1)))]) (H' := [⟨40, b_7, [.int .u64 r_31.2.2.now, .int .u64 r_31.2.2.next, .slice A_32 r_31.2.2.rows.length c_33]⟩, ⟨42, b_18, [.int .i64 ((rdL calls_1 x_15).Kind), .int .u64 ((rdL calls_1 x_15).Id), .int .u64 ((rdL calls_1 x_15).Seq), .int .i64 ((rdL calls_1 x_15).Reply.Err), .int .u64 ((rdL calls_1 x_15).Reply.Num), .int .u64 ((rdL calls_1 x_15).Reply.Extra)]⟩]) (ps := []) (by kernel_rfl) trivial ?_
              refine GoO.regionEnd ?_
              refine GoO.inLoop ?_
              exact GoO.sub (ks := [3, 12, 13, 14]) (hk := [0]) (bk := [0, 1]) (by kernel_rfl) (by kernel_rfl) (by kernel_rfl) (ih0 r_31.2.2.now r_31.2.2.next r_31.2.2.rows (wi64 (x_15 + 1)) A_32 c_33)
            · refine GoO.seq' c13_48e ?_
              refine GoO.region' (is := [0, 1, 2, 3, 4, 5, 6, 7]) c13_49e (by kernel_rfl) ?_
              refine GoO.exec (is := [0, 1, 2, 3, 4, 5, 6, 7]) (hs := [.p, .p, .b 0, .p, .p, .p, .p, .b 0]) (rest := []) (ks := [3, 5, 12, 13, 14]) (env' := [(3, .pointer (some ⟨b_7, 0, none⟩)), (5, .pointer (some ⟨b_18, 0, none⟩)), (12, .slice A_2 calls_1.length c_3), (13, .int .i64 (calls_1.length : Int)), (14, .int .i64 x_15)]) (H' := [⟨42, b_18, [.int .i64 ((rdL calls_1 x_15).Kind), .int .u64 ((rdL calls_1 x_15).Id), .int .u64 ((rdL calls_1 x_15).Seq), .int .i64 (if (if 52 < ((rdL calls_1 x_15).Reply.Err) then 52 else ((rdL calls_1 x_15).Reply.Err)) > 0 then (if 52 < ((rdL calls_1 x_15).Reply.Err) then 52 else ((rdL calls_1 x_15).Reply.Err)) else 0), .int .u64 ((rdL calls_1 x_15).Reply.Num), .int .u64 ((rdL calls_1 x_15).Reply.Extra)]⟩, ⟨40, b_7, [.int .u64 f_10, .int .u64 f_11, .slice A_13 f_12.length c_14]⟩]) (ps := [b_18 = b_18, b_18 = b_18]) (by kernel_rfl) (And.intro rfl (And.intro rfl trivial)) ?_
              refine GoO.regionEnd ?_
              refine GoO.region' (is := [0, 1, 2, 3, 4, 5, 6, 7]) c13_50e (by kernel_rfl) ?_
              refine GoO.exec (is := [0, 1, 2, 3, 4, 5, 6]) (hs := [.p, .p, .b 0, .p, .b 0, .p, .b 0]) (rest := [7]) (ks := [3, 12, 13, 14, 30, 32, 34, 36]) (env' := [(3, .pointer (some ⟨b_7, 0, none⟩)), (12, .slice A_2 calls_1.length c_3), (13, .int .i64 (calls_1.length : Int)), (14, .int .i64 x_15), (30, .pointer (some ⟨b_7, 0, none⟩)), (32, .int .u64 ((rdL calls_1 x_15).Id)), (34, .int .u64 ((rdL calls_1 x_15).Seq)), (36, .agg ⟨[.int .i64 (if (if 52 < ((rdL calls_1 x_15).Reply.Err) then 52 else ((rdL calls_1 x_15).Reply.Err)) > 0 then (if 52 < ((rdL calls_1 x_15).Reply.Err) then 52 else ((rdL calls_1 x_15).Reply.Err)) else 0), .int .u64 ((rdL calls_1 x_15).Reply.Num), .int .u64 ((rdL calls_1 x_15).Reply.Extra)]⟩)]) (H' := [⟨42, b_18, [.int .i64 ((rdL calls_1 x_15).Kind), .int .u64 ((rdL calls_1 x_15).Id), .int .u64 ((rdL calls_1 x_15).Seq), .int .i64 (if (if 52 < ((rdL calls_1 x_15).Reply.Err) then 52 else ((rdL calls_1 x_15).Reply.Err)) > 0 then (if 52 < ((rdL calls_1 x_15).Reply.Err) then 52 else ((rdL calls_1 x_15).Reply.Err)) else 0), .int .u64 ((rdL calls_1 x_15).Reply.Num), .int .u64 ((rdL calls_1 x_15).Reply.Extra)]⟩, ⟨40, b_7, [.int .u64 f_10, .int .u64 f_11, .slice A_13 f_12.length c_14]⟩]) (ps := [b_18 = b_18, b_18 = b_18, b_18 = b_18]) (by kernel_rfl) (And.intro rfl (And.intro rfl (And.intro rfl trivial))) ?_
              refine OpTo.go (GoO.call rfl (by kernel_rfl) (by kernel_rfl) (session_Table_End_ok n (⟨f_10, f_11, f_12⟩ : T_session_Table) ((rdL calls_1 x_15).Id) ((rdL calls_1 x_15).Seq) (⟨(if (if 52 < ((rdL calls_1 x_15).Reply.Err) then 52 else ((rdL calls_1 x_15).Reply.Err)) > 0 then (if 52 < ((rdL calls_1 x_15).Reply.Err) then 52 else ((rdL calls_1 x_15).Reply.Err)) else 0), (rdL calls_1 x_15).Reply.Num, (rdL calls_1 x_15).Reply.Extra⟩ : T_api_Reply) b_7 A_13 c_14) [[0], [40], [41]] [(40, 1), (41, 2)] [(1, 1)] [(2, 0)] (hks := [0]) (bks := [1]) (by kernel_rfl) (by kernel_rfl) (by kernel_rfl) (.inl rfl) rfl rfl (by kernel_rfl) (by kernel_rfl) _ (fun _ _ => rfl) _ _ (fun _ _ => rfl) (fun _ _ => rfl) (fun _ _ => by kernel_rfl) (fun _ _ => by kernel_rfl) (fun r_35 x_38 => ?_))
              obtain ⟨A_36, c_37⟩ := x_38
              refine GoO.shape (env' := [(3, .pointer (some ⟨b_7, 0, none⟩)), (12, .slice A_2 calls_1.length c_3), (13, .int .i64 (calls_1.length : Int)), (14, .int .i64 x_15), (30, .pointer (some ⟨b_7, 0, none⟩)), (32, .int .u64 ((rdL calls_1 x_15).Id)), (34, .int .u64 ((rdL calls_1 x_15).Seq)), (36, .agg ⟨[.int .i64 (if (if 52 < ((rdL calls_1 x_15).Reply.Err) then 52 else ((rdL calls_1 x_15).Reply.Err)) > 0 then (if 52 < ((rdL calls_1 x_15).Reply.Err) then 52 else ((rdL calls_1 x_15).Reply.Err)) else 0), .int .u64 ((rdL calls_1 x_15).Reply.Num), .int .u64 ((rdL calls_1 x_15).Reply.Extra)]⟩), (37, .bool r_35.1)]) (H' := [⟨40, b_7, [.int .u64 r_35.2.now, .int .u64 r_35.2.next, .slice A_36 r_35.2.rows.length c_37]⟩, ⟨42, b_18, [.int .i64 ((rdL calls_1 x_15).Kind), .int .u64 ((rdL calls_1 x_15).Id), .int .u64 ((rdL calls_1 x_15).Seq), .int .i64 (if (if 52 < ((rdL calls_1 x_15).Reply.Err) then 52 else ((rdL calls_1 x_15).Reply.Err)) > 0 then (if 52 < ((rdL calls_1 x_15).Reply.Err) then 52 else ((rdL calls_1 x_15).Reply.Err)) else 0), .int .u64 ((rdL calls_1 x_15).Reply.Num), .int .u64 ((rdL calls_1 x_15).Reply.Extra)]⟩]) (B' := [Ow 41 kT_session_Row A_36 c_37 r_35.2.rows, Rd 0 kT_tontinelaw15_Call A_2 c_3 calls_1]) (ks := [3, 12, 13, 14, 30, 32, 34, 36, 37]) (by kernel_rfl) (by kernel_rfl) (by kernel_rfl) ?_
              refine GoO.regionEnd ?_
              refine GoO.inBlock ?_
              refine GoO.inBlock ?_
              refine GoO.region' (is := [0, 1]) c13_51e (by kernel_rfl) ?_
              refine GoO.exec (is := [0, 1]) (hs := [.p, .p]) (rest := []) (ks := [3, 12, 13, 14]) (env' := [(3, .pointer (some ⟨b_7, 0, none⟩)), (12, .slice A_2 calls_1.length c_3), (13, .int .i64 (calls_1.length : Int)), (14, .int .i64 (wi64 (x_15 + 1)))]) (H' := [⟨40, b_7, [.int .u64 r_35.2.now, .int .u64 r_35.2.next, .slice A_36 r_35.2.rows.length c_37]⟩, ⟨42, b_18, [.int .i64 ((rdL calls_1 x_15).Kind), .int .u64 ((rdL calls_1 x_15).Id), .int .u64 ((rdL calls_1 x_15).Seq), .int .i64 (if (if 52 < ((rdL calls_1 x_15).Reply.Err) then 52 else ((rdL calls_1 x_15).Reply.Err)) > 0 then (if 52 < ((rdL calls_1 x_15).Reply.Err) then 52 else ((rdL calls_1 x_15).Reply.Err)) else 0), .int .u64 ((rdL calls_1 x_15).Reply.Num), .int .u64 ((rdL calls_1 x_15).Reply.Extra)]⟩]) (ps := []) (by kernel_rfl) trivial ?_
              refine GoO.regionEnd ?_
              refine GoO.inLoop ?_
              exact GoO.sub (ks := [3, 12, 13, 14]) (hk := [0]) (bk := [0, 1]) (by kernel_rfl) (by kernel_rfl) (by kernel_rfl) (ih0 r_35.2.now r_35.2.next r_35.2.rows (wi64 (x_15 + 1)) A_36 c_37)
    · refine GoO.exit' c13_22e rfl ?_
      exact GoO.sub (ks := [3]) (hk := [0]) (bk := [0]) (by kernel_rfl) (by kernel_rfl) (by kernel_rfl) (tontinelaw15_SessionSaves_j0_ok n f_10 f_11 f_12 b_7 A_13 c_14 A_2 c_3 w0 S0)
theorem tontinelaw15_SessionSaves_ok (n : Nat) (calls_1 : (List T_tontinelaw15_Call)) (A_2 : Option Addr) (c_3 : Nat) :
    Meets Try.prog 13 [.slice A_2 calls_1.length c_3] 0 [] [] [Rd 0 kT_tontinelaw15_Call A_2 c_3 calls_1] (tontinelaw15_SessionSaves.f n calls_1) (tontinelaw15_SessionSaves.R A_2 c_3) := by
  refine Meets.of (c := c13_0) (n := 94) Try.func13 (by kernel_rfl) (by kernel_rfl) (by kernel_rfl) fun w0 S0 => ?_
  unfold tontinelaw15_SessionSaves.f
  show GoO (tontinelaw15_SessionSaves.cx A_2 c_3 w0 S0) [(0, .slice A_2 calls_1.length c_3)] [] [Rd 0 kT_tontinelaw15_Call A_2 c_3 calls_1] [.code c13_0] _
  refine GoO.seq' c13_0e ?_
  refine GoO.region' (is := [0]) c13_1e (by kernel_rfl) ?_
  refine GoO.exec (is := [0]) (hs := [.p]) (rest := []) (ks := [0]) (env' := [(0, .slice A_2 calls_1.length c_3)]) (H' := []) (ps := []) (by kernel_rfl) trivial ?_
  refine GoO.regionEnd ?_
  refine GoO.seq' c13_2e ?_
  refine GoO.seq' c13_3e ?_
  refine GoO.region' (is := [0, 1]) c13_4e (by kernel_rfl) ?_
  refine OpTo.go (GoO.call rfl (by kernel_rfl) (by kernel_rfl) (tontinelaw15_begun_ok n) [[0]] [] [] [] (hks := []) (bks := [0]) (by kernel_rfl) (by kernel_rfl) (by kernel_rfl) (.inl rfl) rfl rfl (by kernel_rfl) (by kernel_rfl) _ (fun _ _ => rfl) _ _ (fun _ _ => rfl) (fun _ _ => rfl) (fun _ _ => by kernel_rfl) (fun _ _ => by kernel_rfl) (fun r_4 x_80 => ?_))
  refine GoO.shape (env' := [(0, .slice A_2 calls_1.length c_3), (9, .bool r_4)]) (H' := []) (B' := [Rd 0 kT_tontinelaw15_Call A_2 c_3 calls_1]) (ks := [0, 9]) (by kernel_rfl) (by kernel_rfl) (by kernel_rfl) ?_
  refine GoO.exec (is := [1]) (hs := [.p]) (rest := []) (ks := [0, 10]) (env' := [(0, .slice A_2 calls_1.length c_3), (10, .bool (!r_4))]) (H' := []) (ps := []) (by kernel_rfl) trivial ?_
  refine GoO.regionEnd ?_
  refine GoO.ite' c13_5e (by kernel_rfl) (fun h5 => ?_) (fun h5 => ?_)
  · refine GoO.seq' c13_6e ?_
    refine GoO.region' (is := [0]) c13_7e (by kernel_rfl) ?_
    refine GoO.exec (is := [0]) (hs := [.p]) (rest := []) (ks := [2]) (env' := [(2, .bool false)]) (H' := []) (ps := []) (by kernel_rfl) trivial ?_
    refine GoO.regionEnd ?_
    exact GoO.ret' (h := c13_8e) (hs := []) (ps := []) (hk := []) (bk := []) Try.func13 () (by kernel_rfl) trivial (by kernel_rfl) (by kernel_rfl)
  · refine GoO.skip' c13_9e ?_
    refine GoO.seq' c13_10e ?_
    refine GoO.region' (is := [0, 1]) c13_11e (by kernel_rfl) ?_
    refine OpTo.go (GoO.call rfl (by kernel_rfl) (by kernel_rfl) (session_New_ok n) [[0]] [(40, 1), (41, 2)] [] [] (hks := []) (bks := [0]) (by kernel_rfl) (by kernel_rfl) (by kernel_rfl) (.inl rfl) rfl rfl (by kernel_rfl) (by kernel_rfl) _ (fun _ _ => rfl) _ _ (fun _ _ => rfl) (fun _ _ => rfl) (fun _ _ => by kernel_rfl) (fun _ _ => by kernel_rfl) (fun r_6 x_79 => ?_))
    obtain ⟨b_7, A_8, c_9⟩ := x_79
    refine GoO.shape (env' := [(0, .slice A_2 calls_1.length c_3), (10, .bool (!r_4)), (11, .pointer (some ⟨b_7, 0, none⟩))]) (H' := [⟨40, b_7, [.int .u64 r_6.now, .int .u64 r_6.next, .slice A_8 r_6.rows.length c_9]⟩]) (B' := [Ow 41 kT_session_Row A_8 c_9 r_6.rows, Rd 0 kT_tontinelaw15_Call A_2 c_3 calls_1]) (ks := [0, 10, 11]) (by kernel_rfl) (by kernel_rfl) (by kernel_rfl) ?_
    refine GoO.exec (is := [1]) (hs := [.p]) (rest := []) (ks := [0, 3]) (env' := [(0, .slice A_2 calls_1.length c_3), (3, .pointer (some ⟨b_7, 0, none⟩))]) (H' := [⟨40, b_7, [.int .u64 r_6.now, .int .u64 r_6.next, .slice A_8 r_6.rows.length c_9]⟩]) (ps := []) (by kernel_rfl) trivial ?_
    refine GoO.regionEnd ?_
    refine GoO.seq' c13_12e ?_
    refine GoO.seq' c13_13e ?_
    refine GoO.region' (is := [0, 1, 2]) c13_14e (by kernel_rfl) ?_
    refine GoO.exec (is := [0, 1, 2]) (hs := [.p, .p, .p]) (rest := []) (ks := [3, 12, 13, 14]) (env' := [(3, .pointer (some ⟨b_7, 0, none⟩)), (12, .slice A_2 calls_1.length c_3), (13, .int .i64 (calls_1.length : Int)), (14, .int .i64 0)]) (H' := [⟨40, b_7, [.int .u64 r_6.now, .int .u64 r_6.next, .slice A_8 r_6.rows.length c_9]⟩]) (ps := []) (by kernel_rfl) trivial ?_
    refine GoO.regionEnd ?_
    refine GoO.block' c13_15e ?_
    refine GoO.loop' c13_16e ?_
    exact GoO.sub (ks := [3, 12, 13, 14]) (hk := [0]) (bk := [0, 1]) (by kernel_rfl) (by kernel_rfl) (by kernel_rfl) (tontinelaw15_SessionSaves_l0_ok n calls_1 A_2 c_3 b_7 w0 S0 n r_6.now r_6.next r_6.rows 0 A_8 c_9)
end Go.GL
