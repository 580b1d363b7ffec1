import Derived.Test.YtolipnnfdclkoaaWalkClientNoneP1
import Derived.Test.YtolipnnfdclkoaaKindsT2
import Derived.Test.YtolipnnfdclkoaaProg
set_option linter.unusedVariables false
set_option linter.unusedSimpArgs false
set_option maxRecDepth 100000
namespace Go.GL
open Go Go.Proofs
theorem pack_Reader_Done_ok (n : Nat) (r_1 : T_pack_Reader) (b_2 : Nat) :
    Meets Try.prog 82 [.pointer (some ⟨b_2, 0, none⟩)] 1 [] [⟨1, b_2, [.string (bs r_1.s), .bool r_1.bad]⟩] [] (pack_Reader_Done.f n r_1) (pack_Reader_Done.R b_2) := by
  refine Meets.of (c := c82_0) (n := 15) Try.func82 (by kernel_rfl) (by kernel_rfl) (by kernel_rfl) fun w0 S0 => ?_
  unfold pack_Reader_Done.f
  show GoO (pack_Reader_Done.cx b_2 w0 S0) [(0, .pointer (some ⟨b_2, 0, none⟩))] [⟨1, b_2, [.string (bs r_1.s), .bool r_1.bad]⟩] [] [.code c82_0] _
  refine GoO.seq' c82_0e ?_
  refine GoO.region' (is := [0]) c82_1e (by kernel_rfl) ?_
  refine GoO.exec (is := [0]) (hs := [.p]) (rest := []) (ks := [0]) (env' := [(0, .pointer (some ⟨b_2, 0, none⟩))]) (H' := [⟨1, b_2, [.string (bs r_1.s), .bool r_1.bad]⟩]) (ps := []) (by kernel_rfl) trivial ?_
  refine GoO.regionEnd ?_
  refine GoO.seq' c82_2e ?_
  refine GoO.region' (is := [0, 1, 2, 3, 4, 5, 6]) c82_3e (by kernel_rfl) ?_
  refine GoO.exec (is := [0]) (hs := [.p]) (rest := [1, 2, 3, 4, 5, 6]) (ks := [6]) (env' := [(6, .pointer (some ⟨b_2, 0, none⟩))]) (H' := [⟨1, b_2, [.string (bs r_1.s), .bool r_1.bad]⟩]) (ps := []) (by kernel_rfl) trivial ?_
  refine OpTo.go (GoO.call rfl (by kernel_rfl) (by kernel_rfl) (pack_Reader_Left_ok n r_1 b_2) [[0], [1]] [] [(1, 0)] [] (hks := [0]) (bks := []) (by kernel_rfl) (by kernel_rfl) (by kernel_rfl) (.inl rfl) rfl rfl (by kernel_rfl) (by kernel_rfl) _ (fun _ _ => rfl) _ _ (fun _ _ => rfl) (fun _ _ => rfl) (fun _ _ => by kernel_rfl) (fun _ _ => by kernel_rfl) (fun r_3 x_5 => ?_))
  refine GoO.shape (env' := [(6, .pointer (some ⟨b_2, 0, none⟩)), (7, .tuple ⟨[.int .i64 r_3.1, .bool r_3.2]⟩)]) (H' := [⟨1, b_2, [.string (bs r_1.s), .bool r_1.bad]⟩]) (B' := []) (ks := [6, 7]) (by kernel_rfl) (by kernel_rfl) (by kernel_rfl) ?_
  refine GoO.exec (is := [2, 3, 4, 5, 6]) (hs := [.p, .p, .p, .p, .p]) (rest := []) (ks := [3, 4]) (env' := [(3, .int .i64 r_3.1), (4, .bool r_3.2)]) (H' := [⟨1, b_2, [.string (bs r_1.s), .bool r_1.bad]⟩]) (ps := []) (by kernel_rfl) trivial ?_
  refine GoO.regionEnd ?_
  refine GoO.seq' c82_4e ?_
  refine GoO.region' (is := [0, 1, 2, 3, 4, 5]) c82_5e (by kernel_rfl) ?_
  refine GoO.exec (is := [0, 1, 2]) (hs := [.p, .p, .p]) (rest := [3, 4, 5]) (ks := [4, 12]) (env' := [(4, .bool r_3.2), (12, .bool (r_3.1 == 0))]) (H' := [⟨1, b_2, [.string (bs r_1.s), .bool r_1.bad]⟩]) (ps := []) (by kernel_rfl) trivial ?_
  refine GoO.bsplit (t := 12) (by kernel_rfl) (fun h4 => ?_) (fun h4 => ?_)
  · refine GoO.exec (is := [3, 4, 5]) (hs := [.p, .p, .p]) (rest := []) (ks := [2]) (env' := [(2, .bool r_3.2)]) (H' := [⟨1, b_2, [.string (bs r_1.s), .bool r_1.bad]⟩]) (ps := []) (by kernel_rfl) trivial ?_
    refine GoO.regionEnd ?_
    exact GoO.ret' (h := c82_6e) (hs := []) (ps := []) (hk := []) (bk := []) Try.func82 () (by kernel_rfl) trivial (by kernel_rfl) (by kernel_rfl)
  · refine GoO.exec (is := [3, 4, 5]) (hs := [.p, .p, .p]) (rest := []) (ks := [2]) (env' := [(2, .bool false)]) (H' := [⟨1, b_2, [.string (bs r_1.s), .bool r_1.bad]⟩]) (ps := []) (by kernel_rfl) trivial ?_
    refine GoO.regionEnd ?_
    exact GoO.ret' (h := c82_6e) (hs := []) (ps := []) (hk := []) (bk := []) Try.func82 () (by kernel_rfl) trivial (by kernel_rfl) (by kernel_rfl)

/-! tontine/command.Said -/
noncomputable def c70_0 : Code := bodyOf Try.f70
noncomputable def c70_1 : Code := cdL c70_0
noncomputable def c70_2 : Code := cdR c70_0
noncomputable def c70_3 : Code := cdL c70_2
noncomputable def c70_4 : Code := cdR c70_2
noncomputable def c70_5 : Code := cdL c70_4
noncomputable def c70_6 : Code := cdR c70_4
noncomputable def c70_7 : Code := cdL c70_6
noncomputable def c70_8 : Code := cdR c70_6
noncomputable def c70_9 : Code := cdL c70_8
noncomputable def c70_10 : Code := cdR c70_8
noncomputable def c70_11 : Code := cdL c70_10
noncomputable def c70_12 : Code := cdL c70_11
noncomputable def c70_13 : Code := cdR c70_11
noncomputable def c70_14 : Code := cdL c70_13
noncomputable def c70_15 : Code := cdL c70_14
noncomputable def c70_16 : Code := cdR c70_14
noncomputable def c70_17 : Code := cdR c70_13
noncomputable def c70_18 : Code := cdR c70_10
noncomputable def c70_19 : Code := cdL c70_18
noncomputable def c70_20 : Code := cdR c70_18
noncomputable def r70_1 : Array Oper := cdO c70_1
noncomputable def r70_3 : Array Oper := cdO c70_3
noncomputable def r70_5 : Array Oper := cdO c70_5
noncomputable def r70_7 : Array Oper := cdO c70_7
noncomputable def r70_9 : Array Oper := cdO c70_9
noncomputable def r70_12 : Array Oper := cdO c70_12
noncomputable def r70_15 : Array Oper := cdO c70_15
noncomputable def r70_19 : Array Oper := cdO c70_19
theorem c70_0e : c70_0 = .seq c70_1 c70_2 := by kernel_rfl
theorem c70_1e : c70_1 = .region 0 r70_1 false := by kernel_rfl
theorem c70_2e : c70_2 = .seq c70_3 c70_4 := by kernel_rfl
theorem c70_3e : c70_3 = .region 1 r70_3 false := by kernel_rfl
theorem c70_4e : c70_4 = .seq c70_5 c70_6 := by kernel_rfl
theorem c70_5e : c70_5 = .region 2 r70_5 false := by kernel_rfl
theorem c70_6e : c70_6 = .seq c70_7 c70_8 := by kernel_rfl
theorem c70_7e : c70_7 = .region 3 r70_7 false := by kernel_rfl
theorem c70_8e : c70_8 = .seq c70_9 c70_10 := by kernel_rfl
theorem c70_9e : c70_9 = .region 4 r70_9 false := by kernel_rfl
theorem c70_10e : c70_10 = .seq c70_11 c70_18 := by kernel_rfl
theorem c70_11e : c70_11 = .seq c70_12 c70_13 := by kernel_rfl
theorem c70_12e : c70_12 = .region 5 r70_12 false := by kernel_rfl
theorem c70_13e : c70_13 = .cond (cdC c70_13) c70_14 c70_17 := by kernel_rfl
theorem c70_14e : c70_14 = .seq c70_15 c70_16 := by kernel_rfl
theorem c70_15e : c70_15 = .region 6 r70_15 false := by kernel_rfl
theorem c70_16e : c70_16 = .ret := by kernel_rfl
theorem c70_17e : c70_17 = .skip := by kernel_rfl
theorem c70_18e : c70_18 = .seq c70_19 c70_20 := by kernel_rfl
theorem c70_19e : c70_19 = .region 7 r70_19 false := by kernel_rfl
theorem c70_20e : c70_20 = .ret := by kernel_rfl
noncomputable def command_Said.R : Pst (T_api_Reply × Int) where
  ε := Unit
  v := fun r x => .tuple ⟨[.agg ⟨[.int .i64 r.1.Err, .int .u64 r.1.Num, .int .u64 r.1.Extra]⟩, .int .i64 r.2]⟩
  H := fun r x => []
  B := fun r x => []
noncomputable def command_Said.cx (w0 : World) (S0 : Fam) : Cx (T_api_Reply × Int) := ⟨Try.prog, 70, Try.f70, 22, w0, S0, [], 0, command_Said.R⟩
theorem command_Said_ok (n : Nat) (s_1 : (List UInt8)) :
    Meets Try.prog 70 [.string (bs s_1)] 0 [] [] [] (command_Said.f n s_1) (command_Said.R) := by
  refine Meets.of (c := c70_0) (n := 22) Try.func70 (by kernel_rfl) (by kernel_rfl) (by kernel_rfl) fun w0 S0 => ?_
  unfold command_Said.f
  show GoO (command_Said.cx w0 S0) [(0, .string (bs s_1))] [] [] [.code c70_0] _
  refine GoO.seq' c70_0e ?_
  refine GoO.region' (is := [0, 1]) c70_1e (by kernel_rfl) ?_
  refine OpTo.go (GoO.new rfl 40 (cs := [.int .i64 0, .int .u64 0, .int .u64 0]) (by kernel_rfl) _ (fun _ => rfl) (fun b_2 => ?_))
  refine GoO.exec (is := [1]) (hs := [.p]) (rest := []) (ks := [0, 2]) (env' := [(0, .string (bs s_1)), (2, .pointer (some ⟨b_2, 0, none⟩))]) (H' := [⟨40, b_2, [.int .i64 0, .int .u64 0, .int .u64 0]⟩]) (ps := []) (by kernel_rfl) trivial ?_
  refine GoO.regionEnd ?_
  refine GoO.seq' c70_2e ?_
  refine GoO.region' (is := [0, 1, 2]) c70_3e (by kernel_rfl) ?_
  refine GoO.exec (is := [0]) (hs := [.p]) (rest := [1, 2]) (ks := [2, 6]) (env' := [(2, .pointer (some ⟨b_2, 0, none⟩)), (6, .string (bs s_1))]) (H' := [⟨40, b_2, [.int .i64 0, .int .u64 0, .int .u64 0]⟩]) (ps := []) (by kernel_rfl) trivial ?_
  refine OpTo.go (GoO.call rfl (by kernel_rfl) (by kernel_rfl) (pack_From_ok n s_1) [[0]] [(41, 1)] [] [] (hks := [0]) (bks := []) (by kernel_rfl) (by kernel_rfl) (by kernel_rfl) (.inl rfl) rfl rfl (by kernel_rfl) (by kernel_rfl) _ (fun _ _ => rfl) _ _ (fun _ _ => rfl) (fun _ _ => rfl) (fun _ _ => by kernel_rfl) (fun _ _ => by kernel_rfl) (fun r_3 b_4 => ?_))
  refine GoO.shape (env' := [(2, .pointer (some ⟨b_2, 0, none⟩)), (6, .string (bs s_1)), (7, .pointer (some ⟨b_4, 0, none⟩))]) (H' := [⟨41, b_4, [.string (bs r_3.s), .bool r_3.bad]⟩, ⟨40, b_2, [.int .i64 0, .int .u64 0, .int .u64 0]⟩]) (B' := []) (ks := [2, 6, 7]) (by kernel_rfl) (by kernel_rfl) (by kernel_rfl) ?_
  refine GoO.exec (is := [2]) (hs := [.p]) (rest := []) (ks := [2, 4]) (env' := [(2, .pointer (some ⟨b_2, 0, none⟩)), (4, .pointer (some ⟨b_4, 0, none⟩))]) (H' := [⟨41, b_4, [.string (bs r_3.s), .bool r_3.bad]⟩, ⟨40, b_2, [.int .i64 0, .int .u64 0, .int .u64 0]⟩]) (ps := []) (by kernel_rfl) trivial ?_
  refine GoO.regionEnd ?_
  refine GoO.seq' c70_4e ?_
  refine GoO.region' (is := [0, 1, 2, 3, 4]) c70_5e (by kernel_rfl) ?_
  refine GoO.exec (is := [0]) (hs := [.p]) (rest := [1, 2, 3, 4]) (ks := [2, 4, 8]) (env' := [(2, .pointer (some ⟨b_2, 0, none⟩)), (4, .pointer (some ⟨b_4, 0, none⟩)), (8, .pointer (some ⟨b_4, 0, none⟩))]) (H' := [⟨41, b_4, [.string (bs r_3.s), .bool r_3.bad]⟩, ⟨40, b_2, [.int .i64 0, .int .u64 0, .int .u64 0]⟩]) (ps := []) (by kernel_rfl) trivial ?_
  refine OpTo.go (GoO.call rfl (by kernel_rfl) (by kernel_rfl) (pack_Reader_Up_ok n r_3 52 b_4) [[0], [41]] [(41, 1)] [(1, 0)] [] (hks := [1]) (bks := []) (by kernel_rfl) (by kernel_rfl) (by kernel_rfl) (.inl rfl) rfl rfl (by kernel_rfl) (by kernel_rfl) _ (fun _ _ => rfl) _ _ (fun _ _ => rfl) (fun _ _ => rfl) (fun _ _ => by kernel_rfl) (fun _ _ => by kernel_rfl) (fun r_5 x_14 => ?_))
  refine GoO.shape (env' := [(2, .pointer (some ⟨b_2, 0, none⟩)), (4, .pointer (some ⟨b_4, 0, none⟩)), (8, .pointer (some ⟨b_4, 0, none⟩)), (9, .int .i64 r_5.1)]) (H' := [⟨41, b_4, [.string (bs r_5.2.s), .bool r_5.2.bad]⟩, ⟨40, b_2, [.int .i64 0, .int .u64 0, .int .u64 0]⟩]) (B' := []) (ks := [2, 4, 8, 9]) (by kernel_rfl) (by kernel_rfl) (by kernel_rfl) ?_
  refine GoO.exec (is := [2]) (hs := [.p]) (rest := [3, 4]) (ks := [2, 4, 10]) (env' := [(2, .pointer (some ⟨b_2, 0, none⟩)), (4, .pointer (some ⟨b_4, 0, none⟩)), (10, .agg ⟨[.int .i64 r_5.1, .int .u64 0, .int .u64 0]⟩)]) (H' := [⟨41, b_4, [.string (bs r_5.2.s), .bool r_5.2.bad]⟩, ⟨40, b_2, [.int .i64 0, .int .u64 0, .int .u64 0]⟩]) (ps := []) (by kernel_rfl) trivial ?_
  refine OpTo.go (GoO.new rfl 42 (cs := [.int .i64 0, .int .u64 0, .int .u64 0]) (by kernel_rfl) _ (fun _ => rfl) (fun b_6 => ?_))
  refine GoO.exec (is := [4]) (hs := [.b 0]) (rest := []) (ks := [2, 4, 5]) (env' := [(2, .pointer (some ⟨b_2, 0, none⟩)), (4, .pointer (some ⟨b_4, 0, none⟩)), (5, .pointer (some ⟨b_6, 0, none⟩))]) (H' := [⟨42, b_6, [.int .i64 r_5.1, .int .u64 0, .int .u64 0]⟩, ⟨41, b_4, [.string (bs r_5.2.s), .bool r_5.2.bad]⟩, ⟨40, b_2, [.int .i64 0, .int .u64 0, .int .u64 0]⟩]) (ps := [b_6 = b_6]) (by kernel_rfl) (And.intro rfl trivial) ?_
  refine GoO.regionEnd ?_
  refine GoO.seq' c70_6e ?_
  refine GoO.region' (is := [0, 1, 2, 3]) c70_7e (by kernel_rfl) ?_
  refine GoO.exec (is := [0]) (hs := [.p]) (rest := [1, 2, 3]) (ks := [2, 4, 5, 11]) (env' := [(2, .pointer (some ⟨b_2, 0, none⟩)), (4, .pointer (some ⟨b_4, 0, none⟩)), (5, .pointer (some ⟨b_6, 0, none⟩)), (11, .pointer (some ⟨b_4, 0, none⟩))]) (H' := [⟨42, b_6, [.int .i64 r_5.1, .int .u64 0, .int .u64 0]⟩, ⟨41, b_4, [.string (bs r_5.2.s), .bool r_5.2.bad]⟩, ⟨40, b_2, [.int .i64 0, .int .u64 0, .int .u64 0]⟩]) (ps := []) (by kernel_rfl) trivial ?_
  refine OpTo.go (GoO.call rfl (by kernel_rfl) (by kernel_rfl) (pack_Reader_Num_ok n r_5.2 b_4) [[0], [41]] [(41, 1)] [(1, 1)] [] (hks := [0, 2]) (bks := []) (by kernel_rfl) (by kernel_rfl) (by kernel_rfl) (.inl rfl) rfl rfl (by kernel_rfl) (by kernel_rfl) _ (fun _ _ => rfl) _ _ (fun _ _ => rfl) (fun _ _ => rfl) (fun _ _ => by kernel_rfl) (fun _ _ => by kernel_rfl) (fun r_7 x_13 => ?_))
  refine GoO.shape (env' := [(2, .pointer (some ⟨b_2, 0, none⟩)), (4, .pointer (some ⟨b_4, 0, none⟩)), (5, .pointer (some ⟨b_6, 0, none⟩)), (11, .pointer (some ⟨b_4, 0, none⟩)), (12, .int .u64 r_7.1)]) (H' := [⟨41, b_4, [.string (bs r_7.2.s), .bool r_7.2.bad]⟩, ⟨42, b_6, [.int .i64 r_5.1, .int .u64 0, .int .u64 0]⟩, ⟨40, b_2, [.int .i64 0, .int .u64 0, .int .u64 0]⟩]) (B' := []) (ks := [2, 4, 5, 11, 12]) (by kernel_rfl) (by kernel_rfl) (by kernel_rfl) ?_
  refine GoO.exec (is := [2, 3]) (hs := [.p, .b 1]) (rest := []) (ks := [2, 4, 5]) (env' := [(2, .pointer (some ⟨b_2, 0, none⟩)), (4, .pointer (some ⟨b_4, 0, none⟩)), (5, .pointer (some ⟨b_6, 0, none⟩))]) (H' := [⟨41, b_4, [.string (bs r_7.2.s), .bool r_7.2.bad]⟩, ⟨42, b_6, [.int .i64 r_5.1, .int .u64 r_7.1, .int .u64 0]⟩, ⟨40, b_2, [.int .i64 0, .int .u64 0, .int .u64 0]⟩]) (ps := [b_6 = b_6]) (by kernel_rfl) (And.intro rfl trivial) ?_
  refine GoO.regionEnd ?_
  refine GoO.seq' c70_8e ?_
  refine GoO.region' (is := [0, 1, 2, 3]) c70_9e (by kernel_rfl) ?_
  refine GoO.exec (is := [0]) (hs := [.p]) (rest := [1, 2, 3]) (ks := [2, 4, 5, 14]) (env' := [(2, .pointer (some ⟨b_2, 0, none⟩)), (4, .pointer (some ⟨b_4, 0, none⟩)), (5, .pointer (some ⟨b_6, 0, none⟩)), (14, .pointer (some ⟨b_4, 0, none⟩))]) (H' := [⟨41, b_4, [.string (bs r_7.2.s), .bool r_7.2.bad]⟩, ⟨42, b_6, [.int .i64 r_5.1, .int .u64 r_7.1, .int .u64 0]⟩, ⟨40, b_2, [.int .i64 0, .int .u64 0, .int .u64 0]⟩]) (ps := []) (by kernel_rfl) trivial ?_
  refine OpTo.go (GoO.call rfl (by kernel_rfl) (by kernel_rfl) (pack_Reader_Num_ok n r_7.2 b_4) [[0], [41]] [(41, 1)] [(1, 0)] [] (hks := [1, 2]) (bks := []) (by kernel_rfl) (by kernel_rfl) (by kernel_rfl) (.inl rfl) rfl rfl (by kernel_rfl) (by kernel_rfl) _ (fun _ _ => rfl) _ _ (fun _ _ => rfl) (fun _ _ => rfl) (fun _ _ => by kernel_rfl) (fun _ _ => by kernel_rfl) (fun r_8 x_12 => ?_))
  refine GoO.shape (env' := [(2, .pointer (some ⟨b_2, 0, none⟩)), (4, .pointer (some ⟨b_4, 0, none⟩)), (5, .pointer (some ⟨b_6, 0, none⟩)), (14, .pointer (some ⟨b_4, 0, none⟩)), (15, .int .u64 r_8.1)]) (H' := [⟨41, b_4, [.string (bs r_8.2.s), .bool r_8.2.bad]⟩, ⟨42, b_6, [.int .i64 r_5.1, .int .u64 r_7.1, .int .u64 0]⟩, ⟨40, b_2, [.int .i64 0, .int .u64 0, .int .u64 0]⟩]) (B' := []) (ks := [2, 4, 5, 14, 15]) (by kernel_rfl) (by kernel_rfl) (by kernel_rfl) ?_
  refine GoO.exec (is := [2, 3]) (hs := [.p, .b 1]) (rest := []) (ks := [2, 4, 5]) (env' := [(2, .pointer (some ⟨b_2, 0, none⟩)), (4, .pointer (some ⟨b_4, 0, none⟩)), (5, .pointer (some ⟨b_6, 0, none⟩))]) (H' := [⟨41, b_4, [.string (bs r_8.2.s), .bool r_8.2.bad]⟩, ⟨42, b_6, [.int .i64 r_5.1, .int .u64 r_7.1, .int .u64 r_8.1]⟩, ⟨40, b_2, [.int .i64 0, .int .u64 0, .int .u64 0]⟩]) (ps := [b_6 = b_6]) (by kernel_rfl) (And.intro rfl trivial) ?_
  refine GoO.regionEnd ?_
  refine GoO.seq' c70_10e ?_
  refine GoO.seq' c70_11e ?_
  refine GoO.region' (is := [0, 1, 2]) c70_12e (by kernel_rfl) ?_
  refine GoO.exec (is := [0]) (hs := [.p]) (rest := [1, 2]) (ks := [2, 5, 17]) (env' := [(2, .pointer (some ⟨b_2, 0, none⟩)), (5, .pointer (some ⟨b_6, 0, none⟩)), (17, .pointer (some ⟨b_4, 0, none⟩))]) (H' := [⟨41, b_4, [.string (bs r_8.2.s), .bool r_8.2.bad]⟩, ⟨42, b_6, [.int .i64 r_5.1, .int .u64 r_7.1, .int .u64 r_8.1]⟩, ⟨40, b_2, [.int .i64 0, .int .u64 0, .int .u64 0]⟩]) (ps := []) (by kernel_rfl) trivial ?_
  refine OpTo.go (GoO.call rfl (by kernel_rfl) (by kernel_rfl) (pack_Reader_Done_ok n r_8.2 b_4) [[0], [41]] [] [(1, 0)] [] (hks := [0, 1, 2]) (bks := []) (by kernel_rfl) (by kernel_rfl) (by kernel_rfl) (.inl rfl) rfl rfl (by kernel_rfl) (by kernel_rfl) _ (fun _ _ => rfl) _ _ (fun _ _ => rfl) (fun _ _ => rfl) (fun _ _ => by kernel_rfl) (fun _ _ => by kernel_rfl) (fun r_9 x_11 => ?_))
  refine GoO.shape (env' := [(2, .pointer (some ⟨b_2, 0, none⟩)), (5, .pointer (some ⟨b_6, 0, none⟩)), (17, .pointer (some ⟨b_4, 0, none⟩)), (18, .bool r_9)]) (H' := [⟨41, b_4, [.string (bs r_8.2.s), .bool r_8.2.bad]⟩, ⟨42, b_6, [.int .i64 r_5.1, .int .u64 r_7.1, .int .u64 r_8.1]⟩, ⟨40, b_2, [.int .i64 0, .int .u64 0, .int .u64 0]⟩]) (B' := []) (ks := [2, 5, 17, 18]) (by kernel_rfl) (by kernel_rfl) (by kernel_rfl) ?_
  refine GoO.exec (is := [2]) (hs := [.p]) (rest := []) (ks := [2, 5, 19]) (env' := [(2, .pointer (some ⟨b_2, 0, none⟩)), (5, .pointer (some ⟨b_6, 0, none⟩)), (19, .bool (!r_9))]) (H' := [⟨41, b_4, [.string (bs r_8.2.s), .bool r_8.2.bad]⟩, ⟨42, b_6, [.int .i64 r_5.1, .int .u64 r_7.1, .int .u64 r_8.1]⟩, ⟨40, b_2, [.int .i64 0, .int .u64 0, .int .u64 0]⟩]) (ps := []) (by kernel_rfl) trivial ?_
  refine GoO.regionEnd ?_
  refine GoO.ite' c70_13e (by kernel_rfl) (fun h10 => ?_) (fun h10 => ?_)
  · refine GoO.seq' c70_14e ?_
    refine GoO.region' (is := [0, 1, 2]) c70_15e (by kernel_rfl) ?_
    refine GoO.exec (is := [0, 1, 2]) (hs := [.p, .b 2, .p]) (rest := []) (ks := [2, 3]) (env' := [(2, .pointer (some ⟨b_2, 0, none⟩)), (3, .int .i64 2)]) (H' := [⟨41, b_4, [.string (bs r_8.2.s), .bool r_8.2.bad]⟩, ⟨42, b_6, [.int .i64 r_5.1, .int .u64 r_7.1, .int .u64 r_8.1]⟩, ⟨40, b_2, [.int .i64 0, .int .u64 0, .int .u64 0]⟩]) (ps := [b_2 = b_2]) (by kernel_rfl) (And.intro rfl trivial) ?_
    refine GoO.regionEnd ?_
    exact GoO.ret' (h := c70_16e) (hs := [2]) (ps := [b_2 = b_2]) (hk := []) (bk := []) Try.func70 () (by kernel_rfl) (And.intro rfl trivial) (by kernel_rfl) (by kernel_rfl)
  · refine GoO.skip' c70_17e ?_
    refine GoO.seq' c70_18e ?_
    refine GoO.region' (is := [0, 1, 2]) c70_19e (by kernel_rfl) ?_
    refine GoO.exec (is := [0, 1, 2]) (hs := [.b 1, .b 2, .p]) (rest := []) (ks := [2, 3]) (env' := [(2, .pointer (some ⟨b_2, 0, none⟩)), (3, .int .i64 0)]) (H' := [⟨41, b_4, [.string (bs r_8.2.s), .bool r_8.2.bad]⟩, ⟨42, b_6, [.int .i64 r_5.1, .int .u64 r_7.1, .int .u64 r_8.1]⟩, ⟨40, b_2, [.int .i64 r_5.1, .int .u64 r_7.1, .int .u64 r_8.1]⟩]) (ps := [b_6 = b_6, b_2 = b_2]) (by kernel_rfl) (And.intro rfl (And.intro rfl trivial)) ?_
    refine GoO.regionEnd ?_
    exact GoO.ret' (h := c70_20e) (hs := [2]) (ps := [b_2 = b_2]) (hk := []) (bk := []) Try.func70 () (by kernel_rfl) (And.intro rfl trivial) (by kernel_rfl) (by kernel_rfl)

/-! (*tontine/client.Client).Hear -/
noncomputable def c36_0 : Code := bodyOf Try.f36
noncomputable def c36_1 : Code := cdL c36_0
noncomputable def c36_2 : Code := cdR c36_0
noncomputable def c36_3 : Code := cdL c36_2
noncomputable def c36_4 : Code := cdR c36_2
noncomputable def c36_5 : Code := cdL c36_4
noncomputable def c36_6 : Code := cdL c36_5
noncomputable def c36_7 : Code := cdR c36_5
noncomputable def c36_8 : Code := cdL c36_7
noncomputable def c36_9 : Code := cdL c36_8
noncomputable def c36_10 : Code := cdR c36_8
noncomputable def c36_11 : Code := cdR c36_7
noncomputable def c36_12 : Code := cdR c36_4
noncomputable def c36_13 : Code := cdL c36_12
noncomputable def c36_14 : Code := cdR c36_12
noncomputable def c36_15 : Code := cdL c36_14
noncomputable def c36_16 : Code := cdL c36_15
noncomputable def c36_17 : Code := cdR c36_15
noncomputable def c36_18 : Code := cdL c36_17
noncomputable def c36_19 : Code := cdL c36_18
noncomputable def c36_20 : Code := cdR c36_18
noncomputable def c36_21 : Code := cdR c36_17
noncomputable def c36_22 : Code := cdR c36_14
noncomputable def c36_23 : Code := cdL c36_22
noncomputable def c36_24 : Code := cdL c36_23
noncomputable def c36_25 : Code := cdR c36_23
noncomputable def c36_26 : Code := cdL c36_25
noncomputable def c36_27 : Code := cdL c36_26
noncomputable def c36_28 : Code := cdL c36_27
noncomputable def c36_29 : Code := cdR c36_27
noncomputable def c36_30 : Code := cdL c36_29
noncomputable def c36_31 : Code := cdL c36_30
noncomputable def c36_32 : Code := cdR c36_30
noncomputable def c36_33 : Code := cdL c36_32
noncomputable def c36_34 : Code := cdR c36_32
noncomputable def c36_35 : Code := cdR c36_29
noncomputable def c36_36 : Code := cdR c36_26
noncomputable def c36_37 : Code := cdL c36_36
noncomputable def c36_38 : Code := cdR c36_36
noncomputable def c36_39 : Code := cdR c36_25
noncomputable def c36_40 : Code := cdR c36_22
noncomputable def c36_41 : Code := cdL c36_40
noncomputable def c36_42 : Code := cdR c36_40
noncomputable def c36_43 : Code := cdL c36_42
noncomputable def c36_44 : Code := cdL c36_43
noncomputable def c36_45 : Code := cdL c36_44
noncomputable def c36_46 : Code := cdR c36_44
noncomputable def c36_47 : Code := cdL c36_46
noncomputable def c36_48 : Code := cdL c36_47
noncomputable def c36_49 : Code := cdR c36_47
noncomputable def c36_50 : Code := cdL c36_49
noncomputable def c36_51 : Code := cdR c36_49
noncomputable def c36_52 : Code := cdR c36_46
noncomputable def c36_53 : Code := cdL c36_52
noncomputable def c36_54 : Code := cdR c36_52
noncomputable def c36_55 : Code := cdL c36_54
noncomputable def c36_56 : Code := cdR c36_54
noncomputable def c36_57 : Code := cdR c36_42
noncomputable def c36_58 : Code := cdL c36_57
noncomputable def c36_59 : Code := cdR c36_57
noncomputable def r36_1 : Array Oper := cdO c36_1
noncomputable def r36_3 : Array Oper := cdO c36_3
noncomputable def r36_6 : Array Oper := cdO c36_6
noncomputable def r36_9 : Array Oper := cdO c36_9
noncomputable def r36_13 : Array Oper := cdO c36_13
noncomputable def r36_16 : Array Oper := cdO c36_16
noncomputable def r36_19 : Array Oper := cdO c36_19
noncomputable def r36_24 : Array Oper := cdO c36_24
noncomputable def r36_28 : Array Oper := cdO c36_28
noncomputable def r36_31 : Array Oper := cdO c36_31
noncomputable def r36_33 : Array Oper := cdO c36_33
noncomputable def r36_37 : Array Oper := cdO c36_37
noncomputable def r36_41 : Array Oper := cdO c36_41
noncomputable def r36_45 : Array Oper := cdO c36_45
noncomputable def r36_48 : Array Oper := cdO c36_48
noncomputable def r36_50 : Array Oper := cdO c36_50
noncomputable def r36_53 : Array Oper := cdO c36_53
noncomputable def r36_55 : Array Oper := cdO c36_55
noncomputable def r36_56 : Array Oper := cdO c36_56
noncomputable def r36_58 : Array Oper := cdO c36_58
theorem c36_0e : c36_0 = .seq c36_1 c36_2 := by kernel_rfl
theorem c36_1e : c36_1 = .region 0 r36_1 false := by kernel_rfl
theorem c36_2e : c36_2 = .seq c36_3 c36_4 := by kernel_rfl
theorem c36_3e : c36_3 = .region 1 r36_3 false := by kernel_rfl
theorem c36_4e : c36_4 = .seq c36_5 c36_12 := by kernel_rfl
theorem c36_5e : c36_5 = .seq c36_6 c36_7 := by kernel_rfl
theorem c36_6e : c36_6 = .region 2 r36_6 true := by kernel_rfl
theorem c36_7e : c36_7 = .cond (cdC c36_7) c36_8 c36_11 := by kernel_rfl
theorem c36_8e : c36_8 = .seq c36_9 c36_10 := by kernel_rfl
theorem c36_9e : c36_9 = .region 3 r36_9 true := by kernel_rfl
theorem c36_10e : c36_10 = .ret := by kernel_rfl
theorem c36_11e : c36_11 = .skip := by kernel_rfl
theorem c36_12e : c36_12 = .seq c36_13 c36_14 := by kernel_rfl
theorem c36_13e : c36_13 = .region 4 r36_13 false := by kernel_rfl
theorem c36_14e : c36_14 = .seq c36_15 c36_22 := by kernel_rfl
theorem c36_15e : c36_15 = .seq c36_16 c36_17 := by kernel_rfl
theorem c36_16e : c36_16 = .region 5 r36_16 false := by kernel_rfl
theorem c36_17e : c36_17 = .cond (cdC c36_17) c36_18 c36_21 := by kernel_rfl
theorem c36_18e : c36_18 = .seq c36_19 c36_20 := by kernel_rfl
theorem c36_19e : c36_19 = .region 6 r36_19 true := by kernel_rfl
theorem c36_20e : c36_20 = .ret := by kernel_rfl
theorem c36_21e : c36_21 = .skip := by kernel_rfl
theorem c36_22e : c36_22 = .seq c36_23 c36_40 := by kernel_rfl
theorem c36_23e : c36_23 = .seq c36_24 c36_25 := by kernel_rfl
theorem c36_24e : c36_24 = .region 7 r36_24 false := by kernel_rfl
theorem c36_25e : c36_25 = .cond (cdC c36_25) c36_26 c36_39 := by kernel_rfl
theorem c36_26e : c36_26 = .seq c36_27 c36_36 := by kernel_rfl
theorem c36_27e : c36_27 = .seq c36_28 c36_29 := by kernel_rfl
theorem c36_28e : c36_28 = .region 8 r36_28 true := by kernel_rfl
theorem c36_29e : c36_29 = .cond (cdC c36_29) c36_30 c36_35 := by kernel_rfl
theorem c36_30e : c36_30 = .seq c36_31 c36_32 := by kernel_rfl
theorem c36_31e : c36_31 = .region 9 r36_31 false := by kernel_rfl
theorem c36_32e : c36_32 = .seq c36_33 c36_34 := by kernel_rfl
theorem c36_33e : c36_33 = .region 10 r36_33 false := by kernel_rfl
theorem c36_34e : c36_34 = .ret := by kernel_rfl
theorem c36_35e : c36_35 = .skip := by kernel_rfl
theorem c36_36e : c36_36 = .seq c36_37 c36_38 := by kernel_rfl
theorem c36_37e : c36_37 = .region 11 r36_37 true := by kernel_rfl
theorem c36_38e : c36_38 = .ret := by kernel_rfl
theorem c36_39e : c36_39 = .skip := by kernel_rfl
theorem c36_40e : c36_40 = .seq c36_41 c36_42 := by kernel_rfl
theorem c36_41e : c36_41 = .region 12 r36_41 false := by kernel_rfl
theorem c36_42e : c36_42 = .seq c36_43 c36_57 := by kernel_rfl
theorem c36_43e : c36_43 = .block 0 c36_44 := by kernel_rfl
theorem c36_44e : c36_44 = .seq c36_45 c36_46 := by kernel_rfl
theorem c36_45e : c36_45 = .region 14 r36_45 false := by kernel_rfl
theorem c36_46e : c36_46 = .cond (cdC c36_46) c36_47 c36_52 := by kernel_rfl
theorem c36_47e : c36_47 = .seq c36_48 c36_49 := by kernel_rfl
theorem c36_48e : c36_48 = .region 15 r36_48 false := by kernel_rfl
theorem c36_49e : c36_49 = .cond (cdC c36_49) c36_50 c36_51 := by kernel_rfl
theorem c36_50e : c36_50 = .region 16 r36_50 false := by kernel_rfl
theorem c36_51e : c36_51 = .skip := by kernel_rfl
theorem c36_52e : c36_52 = .seq c36_53 c36_54 := by kernel_rfl
theorem c36_53e : c36_53 = .region 17 r36_53 false := by kernel_rfl
theorem c36_54e : c36_54 = .cond (cdC c36_54) c36_55 c36_56 := by kernel_rfl
theorem c36_55e : c36_55 = .region 18 r36_55 false := by kernel_rfl
theorem c36_56e : c36_56 = .region 13 r36_56 false := by kernel_rfl
theorem c36_57e : c36_57 = .seq c36_58 c36_59 := by kernel_rfl
theorem c36_58e : c36_58 = .region 19 r36_58 true := by kernel_rfl
theorem c36_59e : c36_59 = .ret := by kernel_rfl
noncomputable def client_Client_Hear.R (b_2 : Nat) (A_3 : Option Addr) (c_4 : Nat) (A_6 : Option Addr) (c_7 : Nat) : Pst (T_api_Told × Bool × T_api_Letter × Bool × T_client_Client) where
  ε := Option Addr × Nat × Option Addr × Nat × Option Addr × Nat
  v := fun r x => .tuple ⟨[.agg ⟨[.int .i64 r.1.Client, .int .i64 r.1.Command.Kind, .int .u64 r.1.Command.Session, .int .u64 r.1.Command.Seq, .int .u64 r.1.Command.Saga, .slice x.1 r.1.Command.Steps.length x.2.1, .int .i64 r.1.Command.Step, .bool r.1.Command.Back, .int .i64 r.1.Command.Try, .bool r.1.Command.Ok, .int .u64 r.1.Command.Now, .int .i64 r.1.Reply.Err, .int .u64 r.1.Reply.Num, .int .u64 r.1.Reply.Extra]⟩, .bool r.2.1, .agg ⟨[.int .i64 r.2.2.1.Kind, .int .i64 r.2.2.1.From, .int .i64 r.2.2.1.To, .int .u64 r.2.2.1.Term, .int .u64 r.2.2.1.Index, .int .u64 r.2.2.1.Prev, .int .u64 r.2.2.1.Commit, .bool r.2.2.1.Ok, .slice x.2.2.1 r.2.2.1.Entries.length x.2.2.2.1, .string (bs r.2.2.1.Data)]⟩, .bool r.2.2.2.1]⟩
  H := fun r x => [⟨1, b_2, [.int .i64 r.2.2.2.2.id, .int .u64 r.2.2.2.2.session, .int .u64 r.2.2.2.2.seq, .int .u64 r.2.2.2.2.call, .bool r.2.2.2.2.busy, .int .i64 r.2.2.2.2.now.Kind, .int .u64 r.2.2.2.2.now.Session, .int .u64 r.2.2.2.2.now.Seq, .int .u64 r.2.2.2.2.now.Saga, .slice x.2.2.2.2.1 r.2.2.2.2.now.Steps.length x.2.2.2.2.2, .int .i64 r.2.2.2.2.now.Step, .bool r.2.2.2.2.now.Back, .int .i64 r.2.2.2.2.now.Try, .bool r.2.2.2.2.now.Ok, .int .u64 r.2.2.2.2.now.Now, .string (bs r.2.2.2.2.data), .int .i64 r.2.2.2.2.to_]⟩]
  B := fun r x => [Rd 0 kT_api_Step x.1 x.2.1 r.1.Command.Steps, Rd 0 kT_api_Entry x.2.2.1 x.2.2.2.1 r.2.2.1.Entries, Rd 0 kT_api_Step x.2.2.2.2.1 x.2.2.2.2.2 r.2.2.2.2.now.Steps]
noncomputable def client_Client_Hear.cx (b_2 : Nat) (A_3 : Option Addr) (c_4 : Nat) (A_6 : Option Addr) (c_7 : Nat) (w0 : World) (S0 : Fam) : Cx (T_api_Told × Bool × T_api_Letter × Bool × T_client_Client) := ⟨Try.prog, 36, Try.f36, 145, w0, S0, [1], 1, client_Client_Hear.R b_2 A_3 c_4 A_6 c_7⟩
theorem client_Client_Hear_j2_ok (n : Nat) (c_1 : T_client_Client) (x_5 : T_api_Letter) (b_2 : Nat) (A_3 : Option Addr) (c_4 : Nat) (A_6 : Option Addr) (c_7 : Nat) (b_8 : Nat) (b_9 : Nat) (b_10 : Nat) (b_11 : Nat) (w0 : World) (S0 : Fam) (b_25 : Bool) :
    GoO (client_Client_Hear.cx b_2 A_3 c_4 A_6 c_7 w0 S0) [(0, .pointer (some ⟨b_2, 0, none⟩)), (3, .pointer (some ⟨b_8, 0, none⟩)), (4, .pointer (some ⟨b_9, 0, none⟩)), (6, .pointer (some ⟨b_10, 0, none⟩)), (8, .pointer (some ⟨b_11, 0, none⟩)), (83, .bool b_25)] [⟨1, b_2, [.int .i64 c_1.id, .int .u64 c_1.session, .int .u64 c_1.seq, .int .u64 c_1.call, .bool c_1.busy, .int .i64 c_1.now.Kind, .int .u64 c_1.now.Session, .int .u64 c_1.now.Seq, .int .u64 c_1.now.Saga, .slice A_3 c_1.now.Steps.length c_4, .int .i64 c_1.now.Step, .bool c_1.now.Back, .int .i64 c_1.now.Try, .bool c_1.now.Ok, .int .u64 c_1.now.Now, .string (bs c_1.data), .int .i64 c_1.to_]⟩, ⟨40, b_8, [.int .i64 x_5.Kind, .int .i64 x_5.From, .int .i64 x_5.To, .int .u64 x_5.Term, .int .u64 x_5.Index, .int .u64 x_5.Prev, .int .u64 x_5.Commit, .bool x_5.Ok, .slice A_6 x_5.Entries.length c_7, .string (bs x_5.Data)]⟩, ⟨41, b_9, [.int .i64 0, .int .i64 0, .int .u64 0, .int .u64 0, .int .u64 0, .slice none ([] : List T_api_Step).length 0, .int .i64 0, .bool false, .int .i64 0, .bool false, .int .u64 0, .int .i64 0, .int .u64 0, .int .u64 0]⟩, ⟨42, b_10, [.int .i64 0, .int .i64 0, .int .i64 0, .int .u64 0, .int .u64 0, .int .u64 0, .int .u64 0, .bool false, .slice none ([] : List T_api_Entry).length 0, .string (bs [])]⟩, ⟨43, b_11, [.int .i64 0, .int .i64 0, .int .i64 0, .int .u64 0, .int .u64 0, .int .u64 0, .int .u64 0, .bool false, .slice none ([] : List T_api_Entry).length 0, .string (bs [])]⟩] [Rd 0 kT_api_Step A_3 c_4 c_1.now.Steps, Rd 0 kT_api_Entry A_6 c_7 x_5.Entries] [.code c36_29, .code c36_36, .code c36_40] (client_Client_Hear.j2 n c_1 x_5 b_25) := by
  unfold client_Client_Hear.j2
  refine GoO.ite' c36_29e (by kernel_rfl) (fun h26 => ?_) (fun h26 => ?_)
  · refine GoO.seq' c36_30e ?_
    refine GoO.region' (is := [0, 1, 2, 3, 4, 5, 6, 7]) c36_31e (by kernel_rfl) ?_
    refine GoO.exec (is := [0, 1, 2, 3, 4, 5, 6, 7]) (hs := [.p, .p, .b 1, .p, .p, .p, .p, .b 0]) (rest := []) (ks := [0, 4, 6]) (env' := [(0, .pointer (some ⟨b_2, 0, none⟩)), (4, .pointer (some ⟨b_9, 0, none⟩)), (6, .pointer (some ⟨b_10, 0, none⟩))]) (H' := [⟨1, b_2, [.int .i64 c_1.id, .int .u64 c_1.session, .int .u64 c_1.seq, .int .u64 c_1.call, .bool c_1.busy, .int .i64 c_1.now.Kind, .int .u64 c_1.now.Session, .int .u64 c_1.now.Seq, .int .u64 c_1.now.Saga, .slice A_3 c_1.now.Steps.length c_4, .int .i64 c_1.now.Step, .bool c_1.now.Back, .int .i64 c_1.now.Try, .bool c_1.now.Ok, .int .u64 c_1.now.Now, .string (bs c_1.data), .int .i64 (wi64 (wu64 (x_5.Commit - 1)))]⟩, ⟨40, b_8, [.int .i64 x_5.Kind, .int .i64 x_5.From, .int .i64 x_5.To, .int .u64 x_5.Term, .int .u64 x_5.Index, .int .u64 x_5.Prev, .int .u64 x_5.Commit, .bool x_5.Ok, .slice A_6 x_5.Entries.length c_7, .string (bs x_5.Data)]⟩, ⟨41, b_9, [.int .i64 0, .int .i64 0, .int .u64 0, .int .u64 0, .int .u64 0, .slice none ([] : List T_api_Step).length 0, .int .i64 0, .bool false, .int .i64 0, .bool false, .int .u64 0, .int .i64 0, .int .u64 0, .int .u64 0]⟩, ⟨42, b_10, [.int .i64 0, .int .i64 0, .int .i64 0, .int .u64 0, .int .u64 0, .int .u64 0, .int .u64 0, .bool false, .slice none ([] : List T_api_Entry).length 0, .string (bs [])]⟩, ⟨43, b_11, [.int .i64 0, .int .i64 0, .int .i64 0, .int .u64 0, .int .u64 0, .int .u64 0, .int .u64 0, .bool false, .slice none ([] : List T_api_Entry).length 0, .string (bs [])]⟩]) (ps := [b_8 = b_8, b_2 = b_2]) (by kernel_rfl) (And.intro rfl (And.intro rfl trivial)) ?_
    refine GoO.regionEnd ?_
    refine GoO.seq' c36_32e ?_
    refine GoO.region' (is := [0, 1, 2, 3, 4, 5, 6]) c36_33e (by kernel_rfl) ?_
    refine GoO.exec (is := [0, 1]) (hs := [.p, .p]) (rest := [2, 3, 4, 5, 6]) (ks := [4, 6, 91, 92]) (env' := [(4, .pointer (some ⟨b_9, 0, none⟩)), (6, .pointer (some ⟨b_10, 0, none⟩)), (91, .agg ⟨[.int .i64 0, .int .i64 0, .int .u64 0, .int .u64 0, .int .u64 0, .slice none ([] : List T_api_Step).length 0, .int .i64 0, .bool false, .int .i64 0, .bool false, .int .u64 0, .int .i64 0, .int .u64 0, .int .u64 0]⟩), (92, .pointer (some ⟨b_2, 0, none⟩))]) (H' := [⟨1, b_2, [.int .i64 c_1.id, .int .u64 c_1.session, .int .u64 c_1.seq, .int .u64 c_1.call, .bool c_1.busy, .int .i64 c_1.now.Kind, .int .u64 c_1.now.Session, .int .u64 c_1.now.Seq, .int .u64 c_1.now.Saga, .slice A_3 c_1.now.Steps.length c_4, .int .i64 c_1.now.Step, .bool c_1.now.Back, .int .i64 c_1.now.Try, .bool c_1.now.Ok, .int .u64 c_1.now.Now, .string (bs c_1.data), .int .i64 (wi64 (wu64 (x_5.Commit - 1)))]⟩, ⟨40, b_8, [.int .i64 x_5.Kind, .int .i64 x_5.From, .int .i64 x_5.To, .int .u64 x_5.Term, .int .u64 x_5.Index, .int .u64 x_5.Prev, .int .u64 x_5.Commit, .bool x_5.Ok, .slice A_6 x_5.Entries.length c_7, .string (bs x_5.Data)]⟩, ⟨41, b_9, [.int .i64 0, .int .i64 0, .int .u64 0, .int .u64 0, .int .u64 0, .slice none ([] : List T_api_Step).length 0, .int .i64 0, .bool false, .int .i64 0, .bool false, .int .u64 0, .int .i64 0, .int .u64 0, .int .u64 0]⟩, ⟨42, b_10, [.int .i64 0, .int .i64 0, .int .i64 0, .int .u64 0, .int .u64 0, .int .u64 0, .int .u64 0, .bool false, .slice none ([] : List T_api_Entry).length 0, .string (bs [])]⟩, ⟨43, b_11, [.int .i64 0, .int .i64 0, .int .i64 0, .int .u64 0, .int .u64 0, .int .u64 0, .int .u64 0, .bool false, .slice none ([] : List T_api_Entry).length 0, .string (bs [])]⟩]) (ps := []) (by kernel_rfl) trivial ?_
    refine OpTo.go (GoO.call rfl (by kernel_rfl) (by kernel_rfl) (client_Client_letter_ok n (⟨c_1.id, c_1.session, c_1.seq, c_1.call, c_1.busy, (⟨c_1.now.Kind, c_1.now.Session, c_1.now.Seq, c_1.now.Saga, c_1.now.Steps, c_1.now.Step, c_1.now.Back, c_1.now.Try, c_1.now.Ok, c_1.now.Now⟩ : T_api_Command), c_1.data, wi64 (wu64 (x_5.Commit - 1))⟩ : T_client_Client) b_2 A_3 c_4) [[0], [1]] [] [(1, 0)] [(0, 0)] (hks := [0, 1, 2, 3, 4]) (bks := [0, 1]) (by kernel_rfl) (by kernel_rfl) (by kernel_rfl) (.inl rfl) rfl rfl (by kernel_rfl) (by kernel_rfl) _ (fun _ _ => rfl) _ _ (fun _ _ => rfl) (fun _ _ => rfl) (fun _ _ => by kernel_rfl) (fun _ _ => by kernel_rfl) (fun r_27 x_30 => ?_))
    obtain ⟨A_28, c_29⟩ := x_30
    refine GoO.shape (env' := [(4, .pointer (some ⟨b_9, 0, none⟩)), (6, .pointer (some ⟨b_10, 0, none⟩)), (91, .agg ⟨[.int .i64 0, .int .i64 0, .int .u64 0, .int .u64 0, .int .u64 0, .slice none ([] : List T_api_Step).length 0, .int .i64 0, .bool false, .int .i64 0, .bool false, .int .u64 0, .int .i64 0, .int .u64 0, .int .u64 0]⟩), (92, .pointer (some ⟨b_2, 0, none⟩)), (93, .agg ⟨[.int .i64 r_27.Kind, .int .i64 r_27.From, .int .i64 r_27.To, .int .u64 r_27.Term, .int .u64 r_27.Index, .int .u64 r_27.Prev, .int .u64 r_27.Commit, .bool r_27.Ok, .slice A_28 r_27.Entries.length c_29, .string (bs r_27.Data)]⟩)]) (H' := [⟨1, b_2, [.int .i64 c_1.id, .int .u64 c_1.session, .int .u64 c_1.seq, .int .u64 c_1.call, .bool c_1.busy, .int .i64 c_1.now.Kind, .int .u64 c_1.now.Session, .int .u64 c_1.now.Seq, .int .u64 c_1.now.Saga, .slice A_3 c_1.now.Steps.length c_4, .int .i64 c_1.now.Step, .bool c_1.now.Back, .int .i64 c_1.now.Try, .bool c_1.now.Ok, .int .u64 c_1.now.Now, .string (bs c_1.data), .int .i64 (wi64 (wu64 (x_5.Commit - 1)))]⟩, ⟨40, b_8, [.int .i64 x_5.Kind, .int .i64 x_5.From, .int .i64 x_5.To, .int .u64 x_5.Term, .int .u64 x_5.Index, .int .u64 x_5.Prev, .int .u64 x_5.Commit, .bool x_5.Ok, .slice A_6 x_5.Entries.length c_7, .string (bs x_5.Data)]⟩, ⟨41, b_9, [.int .i64 0, .int .i64 0, .int .u64 0, .int .u64 0, .int .u64 0, .slice none ([] : List T_api_Step).length 0, .int .i64 0, .bool false, .int .i64 0, .bool false, .int .u64 0, .int .i64 0, .int .u64 0, .int .u64 0]⟩, ⟨42, b_10, [.int .i64 0, .int .i64 0, .int .i64 0, .int .u64 0, .int .u64 0, .int .u64 0, .int .u64 0, .bool false, .slice none ([] : List T_api_Entry).length 0, .string (bs [])]⟩, ⟨43, b_11, [.int .i64 0, .int .i64 0, .int .i64 0, .int .u64 0, .int .u64 0, .int .u64 0, .int .u64 0, .bool false, .slice none ([] : List T_api_Entry).length 0, .string (bs [])]⟩]) (B' := [Rd 0 kT_api_Entry A_28 c_29 r_27.Entries, Rd 0 kT_api_Step A_3 c_4 c_1.now.Steps, Rd 0 kT_api_Entry A_6 c_7 x_5.Entries]) (ks := [4, 6, 91, 92, 93]) (by kernel_rfl) (by kernel_rfl) (by kernel_rfl) ?_
    refine GoO.exec (is := [3, 4, 5, 6]) (hs := [.b 2, .p, .b 3, .p]) (rest := []) (ks := [4, 5, 6, 7]) (env' := [(4, .pointer (some ⟨b_9, 0, none⟩)), (5, .bool false), (6, .pointer (some ⟨b_10, 0, none⟩)), (7, .bool true)]) (H' := [⟨1, b_2, [.int .i64 c_1.id, .int .u64 c_1.session, .int .u64 c_1.seq, .int .u64 c_1.call, .bool c_1.busy, .int .i64 c_1.now.Kind, .int .u64 c_1.now.Session, .int .u64 c_1.now.Seq, .int .u64 c_1.now.Saga, .slice A_3 c_1.now.Steps.length c_4, .int .i64 c_1.now.Step, .bool c_1.now.Back, .int .i64 c_1.now.Try, .bool c_1.now.Ok, .int .u64 c_1.now.Now, .string (bs c_1.data), .int .i64 (wi64 (wu64 (x_5.Commit - 1)))]⟩, ⟨40, b_8, [.int .i64 x_5.Kind, .int .i64 x_5.From, .int .i64 x_5.To, .int .u64 x_5.Term, .int .u64 x_5.Index, .int .u64 x_5.Prev, .int .u64 x_5.Commit, .bool x_5.Ok, .slice A_6 x_5.Entries.length c_7, .string (bs x_5.Data)]⟩, ⟨41, b_9, [.int .i64 0, .int .i64 0, .int .u64 0, .int .u64 0, .int .u64 0, .slice none ([] : List T_api_Step).length 0, .int .i64 0, .bool false, .int .i64 0, .bool false, .int .u64 0, .int .i64 0, .int .u64 0, .int .u64 0]⟩, ⟨42, b_10, [.int .i64 r_27.Kind, .int .i64 r_27.From, .int .i64 r_27.To, .int .u64 r_27.Term, .int .u64 r_27.Index, .int .u64 r_27.Prev, .int .u64 r_27.Commit, .bool r_27.Ok, .slice A_28 r_27.Entries.length c_29, .string (bs r_27.Data)]⟩, ⟨43, b_11, [.int .i64 0, .int .i64 0, .int .i64 0, .int .u64 0, .int .u64 0, .int .u64 0, .int .u64 0, .bool false, .slice none ([] : List T_api_Entry).length 0, .string (bs [])]⟩]) (ps := [b_9 = b_9, b_10 = b_10]) (by kernel_rfl) (And.intro rfl (And.intro rfl trivial)) ?_
    refine GoO.regionEnd ?_
    refine GoO.nilRd kT_api_Step ?_
    exact GoO.ret' (h := c36_34e) (hs := [2, 3]) (ps := [b_9 = b_9, b_10 = b_10]) (hk := [0]) (bk := [0, 1, 2]) Try.func36 (⟨none, 0, A_28, c_29, A_3, c_4⟩ : Option Addr × Nat × Option Addr × Nat × Option Addr × Nat) (by kernel_rfl) (And.intro rfl (And.intro rfl trivial)) (by kernel_rfl) (by kernel_rfl)
  · refine GoO.skip' c36_35e ?_
    refine GoO.seq' c36_36e ?_
    refine GoO.draw c36_37e (by kernel_rfl) [4, 5] [⟨43, b_11, [.int .i64 0, .int .i64 0, .int .i64 0, .int .u64 0, .int .u64 0, .int .u64 0, .int .u64 0, .bool false, .slice none ([] : List T_api_Entry).length 0, .string (bs [])]⟩] [] (n := 6) (by kernel_rfl) ?_
    simp only [List.replicate]
    refine GoF.take [0, 1] [.p, .b 0] (ks := [4, 6, 94, 95]) (fu := 4) (li := [true, true, false, false, false, false]) (env' := [(4, .pointer (some ⟨b_9, 0, none⟩)), (6, .pointer (some ⟨b_10, 0, none⟩)), (94, .agg ⟨[.int .i64 0, .int .i64 0, .int .u64 0, .int .u64 0, .int .u64 0, .slice none ([] : List T_api_Step).length 0, .int .i64 0, .bool false, .int .i64 0, .bool false, .int .u64 0, .int .i64 0, .int .u64 0, .int .u64 0]⟩), (95, .agg ⟨[.int .i64 0, .int .i64 0, .int .i64 0, .int .u64 0, .int .u64 0, .int .u64 0, .int .u64 0, .bool false, .slice none ([] : List T_api_Entry).length 0, .string (bs [])]⟩)]) (ps := [b_11 = b_11]) (hk := [4]) (bk := []) (by kernel_rfl) (And.intro rfl trivial) rfl rfl ?_
    refine GoF.fin1 (i := 2) (hint := .b 2) (ps := [b_9 = b_9]) (hk := [4]) (bk := []) (by kernel_rfl) rfl (And.intro rfl trivial) (.inr ⟨rfl, rfl⟩) ?_
    refine GoF.take [3] [.p] (ks := [4, 5, 6, 95]) (fu := 2) (li := [true, true, true, true, false, false]) (env' := [(4, .pointer (some ⟨b_9, 0, none⟩)), (5, .bool false), (6, .pointer (some ⟨b_10, 0, none⟩)), (95, .agg ⟨[.int .i64 0, .int .i64 0, .int .i64 0, .int .u64 0, .int .u64 0, .int .u64 0, .int .u64 0, .bool false, .slice none ([] : List T_api_Entry).length 0, .string (bs [])]⟩)]) (ps := []) (hk := [4]) (bk := []) (by kernel_rfl) trivial rfl rfl ?_
    refine GoF.fin1 (i := 4) (hint := .b 3) (ps := [b_10 = b_10]) (hk := []) (bk := []) (by kernel_rfl) rfl (And.intro rfl trivial) (.inl rfl) ?_
    refine GoF.fin1 (i := 5) (hint := .p) (ps := []) (hk := []) (bk := []) (by kernel_rfl) rfl trivial (.inl rfl) ?_
    refine GoF.done (by kernel_rfl) ?_
    refine GoO.nilRd kT_api_Step ?_
    refine GoO.nilRd kT_api_Entry ?_
    exact GoO.ret' (h := c36_38e) (hs := [2, 3]) (ps := [b_9 = b_9, b_10 = b_10]) (hk := [0]) (bk := [1, 0, 2]) Try.func36 (⟨none, 0, none, 0, A_3, c_4⟩ : Option Addr × Nat × Option Addr × Nat × Option Addr × Nat) (by kernel_rfl) (And.intro rfl (And.intro rfl trivial)) (by kernel_rfl) (by kernel_rfl)
theorem client_Client_Hear_j3_ok (n : Nat) (c_1 : T_client_Client) (r_17 : T_api_Reply × Int) (b_2 : Nat) (A_3 : Option Addr) (c_4 : Nat) (b_9 : Nat) (b_10 : Nat) (b_11 : Nat) (b_18 : Nat) (A_6 : Option Addr) (c_7 : Nat) (w0 : World) (S0 : Fam) (f_34 : Int) (f_35 : Int) :
    GoO (client_Client_Hear.cx b_2 A_3 c_4 A_6 c_7 w0 S0) [(0, .pointer (some ⟨b_2, 0, none⟩)), (4, .pointer (some ⟨b_9, 0, none⟩)), (6, .pointer (some ⟨b_10, 0, none⟩)), (8, .pointer (some ⟨b_11, 0, none⟩)), (9, .pointer (some ⟨b_18, 0, none⟩))] [⟨1, b_2, [.int .i64 c_1.id, .int .u64 f_34, .int .u64 f_35, .int .u64 c_1.call, .bool false, .int .i64 c_1.now.Kind, .int .u64 c_1.now.Session, .int .u64 c_1.now.Seq, .int .u64 c_1.now.Saga, .slice A_3 c_1.now.Steps.length c_4, .int .i64 c_1.now.Step, .bool c_1.now.Back, .int .i64 c_1.now.Try, .bool c_1.now.Ok, .int .u64 c_1.now.Now, .string (bs c_1.data), .int .i64 c_1.to_]⟩, ⟨41, b_9, [.int .i64 0, .int .i64 0, .int .u64 0, .int .u64 0, .int .u64 0, .slice none ([] : List T_api_Step).length 0, .int .i64 0, .bool false, .int .i64 0, .bool false, .int .u64 0, .int .i64 0, .int .u64 0, .int .u64 0]⟩, ⟨42, b_10, [.int .i64 0, .int .i64 0, .int .i64 0, .int .u64 0, .int .u64 0, .int .u64 0, .int .u64 0, .bool false, .slice none ([] : List T_api_Entry).length 0, .string (bs [])]⟩, ⟨43, b_11, [.int .i64 0, .int .i64 0, .int .i64 0, .int .u64 0, .int .u64 0, .int .u64 0, .int .u64 0, .bool false, .slice none ([] : List T_api_Entry).length 0, .string (bs [])]⟩, ⟨44, b_18, [.int .i64 r_17.1.Err, .int .u64 r_17.1.Num, .int .u64 r_17.1.Extra]⟩] [Rd 0 kT_api_Step A_3 c_4 c_1.now.Steps] [.inBlock 0, .code c36_57] (client_Client_Hear.j3 n c_1 r_17 f_34 f_35) := by
  unfold client_Client_Hear.j3
  refine GoO.inBlock ?_
  refine GoO.seq' c36_57e ?_
  refine GoO.draw c36_58e (by kernel_rfl) [13, 14] [⟨1, b_2, [.int .i64 c_1.id, .int .u64 f_34, .int .u64 f_35, .int .u64 c_1.call, .bool false, .int .i64 c_1.now.Kind, .int .u64 c_1.now.Session, .int .u64 c_1.now.Seq, .int .u64 c_1.now.Saga, .slice A_3 c_1.now.Steps.length c_4, .int .i64 c_1.now.Step, .bool c_1.now.Back, .int .i64 c_1.now.Try, .bool c_1.now.Ok, .int .u64 c_1.now.Now, .string (bs c_1.data), .int .i64 c_1.to_]⟩, ⟨43, b_11, [.int .i64 0, .int .i64 0, .int .i64 0, .int .u64 0, .int .u64 0, .int .u64 0, .int .u64 0, .bool false, .slice none ([] : List T_api_Entry).length 0, .string (bs [])]⟩, ⟨44, b_18, [.int .i64 r_17.1.Err, .int .u64 r_17.1.Num, .int .u64 r_17.1.Extra]⟩] [] (n := 15) (by kernel_rfl) ?_
  simp only [List.replicate]
  refine GoF.take [0, 1, 2, 3, 4, 5, 6, 7, 8, 9, 10] [.p, .p, .p, .b 0, .p, .p, .p, .b 0, .b 2, .p, .b 1] (ks := [4, 6, 143, 144]) (fu := 4) (li := [true, true, true, true, true, true, true, true, true, true, true, false, false, false, false]) (env' := [(4, .pointer (some ⟨b_9, 0, none⟩)), (6, .pointer (some ⟨b_10, 0, none⟩)), (143, .agg ⟨[.int .i64 c_1.id, .int .i64 c_1.now.Kind, .int .u64 c_1.now.Session, .int .u64 c_1.now.Seq, .int .u64 c_1.now.Saga, .slice A_3 c_1.now.Steps.length c_4, .int .i64 c_1.now.Step, .bool c_1.now.Back, .int .i64 c_1.now.Try, .bool c_1.now.Ok, .int .u64 c_1.now.Now, .int .i64 r_17.1.Err, .int .u64 r_17.1.Num, .int .u64 r_17.1.Extra]⟩), (144, .agg ⟨[.int .i64 0, .int .i64 0, .int .i64 0, .int .u64 0, .int .u64 0, .int .u64 0, .int .u64 0, .bool false, .slice none ([] : List T_api_Entry).length 0, .string (bs [])]⟩)]) (ps := [b_2 = b_2, b_2 = b_2, b_18 = b_18, b_11 = b_11]) (hk := [0, 3, 4]) (bk := []) (by kernel_rfl) (And.intro rfl (And.intro rfl (And.intro rfl (And.intro rfl trivial)))) rfl rfl ?_
  refine GoF.fin1 (i := 11) (hint := .b 1) (ps := [b_9 = b_9]) (hk := [0, 3, 4]) (bk := []) (by kernel_rfl) rfl (And.intro rfl trivial) (.inr ⟨rfl, rfl⟩) ?_
  refine GoF.take [12] [.p] (ks := [4, 5, 6, 144]) (fu := 2) (li := [true, true, true, true, true, true, true, true, true, true, true, true, true, false, false]) (env' := [(4, .pointer (some ⟨b_9, 0, none⟩)), (5, .bool true), (6, .pointer (some ⟨b_10, 0, none⟩)), (144, .agg ⟨[.int .i64 0, .int .i64 0, .int .i64 0, .int .u64 0, .int .u64 0, .int .u64 0, .int .u64 0, .bool false, .slice none ([] : List T_api_Entry).length 0, .string (bs [])]⟩)]) (ps := []) (hk := [0, 3, 4]) (bk := []) (by kernel_rfl) trivial rfl rfl ?_
  refine GoF.fin1 (i := 13) (hint := .b 2) (ps := [b_10 = b_10]) (hk := []) (bk := []) (by kernel_rfl) rfl (And.intro rfl trivial) (.inl rfl) ?_
  refine GoF.fin1 (i := 14) (hint := .p) (ps := []) (hk := []) (bk := []) (by kernel_rfl) rfl trivial (.inl rfl) ?_
  refine GoF.done (by kernel_rfl) ?_
  refine GoO.nilRd kT_api_Entry ?_
  exact GoO.ret' (h := c36_59e) (hs := [1, 2]) (ps := [b_9 = b_9, b_10 = b_10]) (hk := [0]) (bk := [1, 0, 1]) Try.func36 (⟨A_3, c_4, none, 0, A_3, c_4⟩ : Option Addr × Nat × Option Addr × Nat × Option Addr × Nat) (by kernel_rfl) (And.intro rfl (And.intro rfl trivial)) (by kernel_rfl) (by kernel_rfl)
theorem client_Client_Hear_j1_ok (n : Nat) (c_1 : T_client_Client) (x_5 : T_api_Letter) (r_17 : T_api_Reply × Int) (b_2 : Nat) (A_3 : Option Addr) (c_4 : Nat) (A_6 : Option Addr) (c_7 : Nat) (b_8 : Nat) (b_9 : Nat) (b_10 : Nat) (b_11 : Nat) (b_18 : Nat) (w0 : World) (S0 : Fam) (b_21 : Bool) :
    GoO (client_Client_Hear.cx b_2 A_3 c_4 A_6 c_7 w0 S0) [(0, .pointer (some ⟨b_2, 0, none⟩)), (3, .pointer (some ⟨b_8, 0, none⟩)), (4, .pointer (some ⟨b_9, 0, none⟩)), (6, .pointer (some ⟨b_10, 0, none⟩)), (8, .pointer (some ⟨b_11, 0, none⟩)), (9, .pointer (some ⟨b_18, 0, none⟩)), (64, .bool b_21)] [⟨1, b_2, [.int .i64 c_1.id, .int .u64 c_1.session, .int .u64 c_1.seq, .int .u64 c_1.call, .bool c_1.busy, .int .i64 c_1.now.Kind, .int .u64 c_1.now.Session, .int .u64 c_1.now.Seq, .int .u64 c_1.now.Saga, .slice A_3 c_1.now.Steps.length c_4, .int .i64 c_1.now.Step, .bool c_1.now.Back, .int .i64 c_1.now.Try, .bool c_1.now.Ok, .int .u64 c_1.now.Now, .string (bs c_1.data), .int .i64 c_1.to_]⟩, ⟨40, b_8, [.int .i64 x_5.Kind, .int .i64 x_5.From, .int .i64 x_5.To, .int .u64 x_5.Term, .int .u64 x_5.Index, .int .u64 x_5.Prev, .int .u64 x_5.Commit, .bool x_5.Ok, .slice A_6 x_5.Entries.length c_7, .string (bs x_5.Data)]⟩, ⟨41, b_9, [.int .i64 0, .int .i64 0, .int .u64 0, .int .u64 0, .int .u64 0, .slice none ([] : List T_api_Step).length 0, .int .i64 0, .bool false, .int .i64 0, .bool false, .int .u64 0, .int .i64 0, .int .u64 0, .int .u64 0]⟩, ⟨42, b_10, [.int .i64 0, .int .i64 0, .int .i64 0, .int .u64 0, .int .u64 0, .int .u64 0, .int .u64 0, .bool false, .slice none ([] : List T_api_Entry).length 0, .string (bs [])]⟩, ⟨43, b_11, [.int .i64 0, .int .i64 0, .int .i64 0, .int .u64 0, .int .u64 0, .int .u64 0, .int .u64 0, .bool false, .slice none ([] : List T_api_Entry).length 0, .string (bs [])]⟩, ⟨44, b_18, [.int .i64 r_17.1.Err, .int .u64 r_17.1.Num, .int .u64 r_17.1.Extra]⟩] [Rd 0 kT_api_Step A_3 c_4 c_1.now.Steps, Rd 0 kT_api_Entry A_6 c_7 x_5.Entries] [.code c36_25, .code c36_40] (client_Client_Hear.j1 n c_1 x_5 r_17 b_21) := by
  unfold client_Client_Hear.j1
  refine GoO.ite' c36_25e (by kernel_rfl) (fun h22 => ?_) (fun h22 => ?_)
  · refine GoO.seq' c36_26e ?_
    refine GoO.seq' c36_27e ?_
    refine GoO.draw c36_28e (by kernel_rfl) [] [⟨1, b_2, [.int .i64 c_1.id, .int .u64 c_1.session, .int .u64 c_1.seq, .int .u64 c_1.call, .bool c_1.busy, .int .i64 c_1.now.Kind, .int .u64 c_1.now.Session, .int .u64 c_1.now.Seq, .int .u64 c_1.now.Saga, .slice A_3 c_1.now.Steps.length c_4, .int .i64 c_1.now.Step, .bool c_1.now.Back, .int .i64 c_1.now.Try, .bool c_1.now.Ok, .int .u64 c_1.now.Now, .string (bs c_1.data), .int .i64 c_1.to_]⟩, ⟨40, b_8, [.int .i64 x_5.Kind, .int .i64 x_5.From, .int .i64 x_5.To, .int .u64 x_5.Term, .int .u64 x_5.Index, .int .u64 x_5.Prev, .int .u64 x_5.Commit, .bool x_5.Ok, .slice A_6 x_5.Entries.length c_7, .string (bs x_5.Data)]⟩] [] (n := 19) (by kernel_rfl) ?_
    simp only [List.replicate]
    refine GoF.take [0, 1, 2, 3] [.p, .b 1, .p, .p] (ks := [0, 3, 4, 6, 8, 68]) (fu := 15) (li := [true, true, true, true, false, false, false, false, false, false, false, false, false, false, false, false, false, false, false]) (env' := [(0, .pointer (some ⟨b_2, 0, none⟩)), (3, .pointer (some ⟨b_8, 0, none⟩)), (4, .pointer (some ⟨b_9, 0, none⟩)), (6, .pointer (some ⟨b_10, 0, none⟩)), (8, .pointer (some ⟨b_11, 0, none⟩)), (68, .bool (decide (x_5.Commit ≥ 1)))]) (ps := [b_8 = b_8]) (hk := [0, 1]) (bk := []) (by kernel_rfl) (And.intro rfl trivial) rfl rfl ?_
    refine GoF.bsplit (t := 68) (by kernel_rfl) (fun h23 => ?_) (fun h23 => ?_)
    · refine GoF.take [4, 5, 6, 7, 8] [.p, .b 1, .p, .p, .p] (ks := [0, 3, 4, 6, 8, 73]) (fu := 10) (li := [true, true, true, true, true, true, true, true, true, false, false, false, false, false, false, false, false, false, false]) (env' := [(0, .pointer (some ⟨b_2, 0, none⟩)), (3, .pointer (some ⟨b_8, 0, none⟩)), (4, .pointer (some ⟨b_9, 0, none⟩)), (6, .pointer (some ⟨b_10, 0, none⟩)), (8, .pointer (some ⟨b_11, 0, none⟩)), (73, .bool (decide (x_5.Commit ≤ 7)))]) (ps := [b_8 = b_8]) (hk := [0, 1]) (bk := []) (by kernel_rfl) (And.intro rfl trivial) rfl rfl ?_
      refine GoF.bsplit (t := 73) (by kernel_rfl) (fun h24 => ?_) (fun h24 => ?_)
      · refine GoF.take [9, 10, 11, 12, 13, 14, 15, 16, 17, 18] [.p, .b 1, .p, .p, .p, .p, .p, .b 0, .p, .p] (ks := [0, 3, 4, 6, 8, 83]) (fu := 0) (li := [true, true, true, true, true, true, true, true, true, true, true, true, true, true, true, true, true, true, true]) (env' := [(0, .pointer (some ⟨b_2, 0, none⟩)), (3, .pointer (some ⟨b_8, 0, none⟩)), (4, .pointer (some ⟨b_9, 0, none⟩)), (6, .pointer (some ⟨b_10, 0, none⟩)), (8, .pointer (some ⟨b_11, 0, none⟩)), (83, .bool ((wi64 (wu64 (x_5.Commit - 1))) != c_1.to_))]) (ps := [b_8 = b_8, b_2 = b_2]) (hk := [0, 1]) (bk := []) (by kernel_rfl) (And.intro rfl (And.intro rfl trivial)) rfl rfl ?_
        refine GoF.done (by kernel_rfl) ?_
        exact GoO.sub (ks := [0, 3, 4, 6, 8, 83]) (hk := [0, 1, 2, 3, 4]) (bk := [0, 1]) (by kernel_rfl) (by kernel_rfl) (by kernel_rfl) (client_Client_Hear_j2_ok n c_1 x_5 b_2 A_3 c_4 A_6 c_7 b_8 b_9 b_10 b_11 w0 S0 ((wi64 (wu64 (x_5.Commit - 1))) != c_1.to_))
      · refine GoF.take [9, 10, 11, 12, 13, 14, 15, 16, 17, 18] [.p, .p, .p, .p, .p, .p, .p, .p, .p, .p] (ks := [0, 3, 4, 6, 8, 83]) (fu := 0) (li := [true, true, true, true, true, true, true, true, true, true, true, true, true, true, true, true, true, true, true]) (env' := [(0, .pointer (some ⟨b_2, 0, none⟩)), (3, .pointer (some ⟨b_8, 0, none⟩)), (4, .pointer (some ⟨b_9, 0, none⟩)), (6, .pointer (some ⟨b_10, 0, none⟩)), (8, .pointer (some ⟨b_11, 0, none⟩)), (83, .bool false)]) (ps := []) (hk := [0, 1]) (bk := []) (by kernel_rfl) trivial rfl rfl ?_
        refine GoF.done (by kernel_rfl) ?_
        exact GoO.sub (ks := [0, 3, 4, 6, 8, 83]) (hk := [0, 1, 2, 3, 4]) (bk := [0, 1]) (by kernel_rfl) (by kernel_rfl) (by kernel_rfl) (client_Client_Hear_j2_ok n c_1 x_5 b_2 A_3 c_4 A_6 c_7 b_8 b_9 b_10 b_11 w0 S0 false)
    · refine GoF.take [4, 5, 6, 7, 8, 9, 10, 11, 12, 13, 14, 15, 16, 17, 18] [.p, .p, .p, .p, .p, .p, .p, .p, .p, .p, .p, .p, .p, .p, .p] (ks := [0, 3, 4, 6, 8, 83]) (fu := 0) (li := [true, true, true, true, true, true, true, true, true, true, true, true, true, true, true, true, true, true, true]) (env' := [(0, .pointer (some ⟨b_2, 0, none⟩)), (3, .pointer (some ⟨b_8, 0, none⟩)), (4, .pointer (some ⟨b_9, 0, none⟩)), (6, .pointer (some ⟨b_10, 0, none⟩)), (8, .pointer (some ⟨b_11, 0, none⟩)), (83, .bool false)]) (ps := []) (hk := [0, 1]) (bk := []) (by kernel_rfl) trivial rfl rfl ?_
      refine GoF.done (by kernel_rfl) ?_
      exact GoO.sub (ks := [0, 3, 4, 6, 8, 83]) (hk := [0, 1, 2, 3, 4]) (bk := [0, 1]) (by kernel_rfl) (by kernel_rfl) (by kernel_rfl) (client_Client_Hear_j2_ok n c_1 x_5 b_2 A_3 c_4 A_6 c_7 b_8 b_9 b_10 b_11 w0 S0 false)
  · refine GoO.skip' c36_39e ?_
    refine GoO.seq' c36_40e ?_
    refine GoO.region' (is := [0, 1, 2, 3]) c36_41e (by kernel_rfl) ?_
    refine GoO.exec (is := [0, 1, 2, 3]) (hs := [.p, .p, .p, .b 0]) (rest := []) (ks := [0, 4, 6, 8, 9]) (env' := [(0, .pointer (some ⟨b_2, 0, none⟩)), (4, .pointer (some ⟨b_9, 0, none⟩)), (6, .pointer (some ⟨b_10, 0, none⟩)), (8, .pointer (some ⟨b_11, 0, none⟩)), (9, .pointer (some ⟨b_18, 0, none⟩))]) (H' := [⟨1, b_2, [.int .i64 c_1.id, .int .u64 c_1.session, .int .u64 c_1.seq, .int .u64 c_1.call, .bool false, .int .i64 c_1.now.Kind, .int .u64 c_1.now.Session, .int .u64 c_1.now.Seq, .int .u64 c_1.now.Saga, .slice A_3 c_1.now.Steps.length c_4, .int .i64 c_1.now.Step, .bool c_1.now.Back, .int .i64 c_1.now.Try, .bool c_1.now.Ok, .int .u64 c_1.now.Now, .string (bs c_1.data), .int .i64 c_1.to_]⟩, ⟨40, b_8, [.int .i64 x_5.Kind, .int .i64 x_5.From, .int .i64 x_5.To, .int .u64 x_5.Term, .int .u64 x_5.Index, .int .u64 x_5.Prev, .int .u64 x_5.Commit, .bool x_5.Ok, .slice A_6 x_5.Entries.length c_7, .string (bs x_5.Data)]⟩, ⟨41, b_9, [.int .i64 0, .int .i64 0, .int .u64 0, .int .u64 0, .int .u64 0, .slice none ([] : List T_api_Step).length 0, .int .i64 0, .bool false, .int .i64 0, .bool false, .int .u64 0, .int .i64 0, .int .u64 0, .int .u64 0]⟩, ⟨42, b_10, [.int .i64 0, .int .i64 0, .int .i64 0, .int .u64 0, .int .u64 0, .int .u64 0, .int .u64 0, .bool false, .slice none ([] : List T_api_Entry).length 0, .string (bs [])]⟩, ⟨43, b_11, [.int .i64 0, .int .i64 0, .int .i64 0, .int .u64 0, .int .u64 0, .int .u64 0, .int .u64 0, .bool false, .slice none ([] : List T_api_Entry).length 0, .string (bs [])]⟩, ⟨44, b_18, [.int .i64 r_17.1.Err, .int .u64 r_17.1.Num, .int .u64 r_17.1.Extra]⟩]) (ps := [b_2 = b_2]) (by kernel_rfl) (And.intro rfl trivial) ?_
    refine GoO.regionEnd ?_
    refine GoO.seq' c36_42e ?_
    refine GoO.block' c36_43e ?_
    refine GoO.seq' c36_44e ?_
    refine GoO.region' (is := [0, 1, 2, 3, 4, 5, 6]) c36_45e (by kernel_rfl) ?_
    refine GoO.exec (is := [0, 1, 2, 3, 4, 5, 6]) (hs := [.p, .p, .p, .p, .b 0, .p, .p]) (rest := []) (ks := [0, 4, 6, 8, 9, 106]) (env' := [(0, .pointer (some ⟨b_2, 0, none⟩)), (4, .pointer (some ⟨b_9, 0, none⟩)), (6, .pointer (some ⟨b_10, 0, none⟩)), (8, .pointer (some ⟨b_11, 0, none⟩)), (9, .pointer (some ⟨b_18, 0, none⟩)), (106, .bool (c_1.now.Kind == 1))]) (H' := [⟨1, b_2, [.int .i64 c_1.id, .int .u64 c_1.session, .int .u64 c_1.seq, .int .u64 c_1.call, .bool false, .int .i64 c_1.now.Kind, .int .u64 c_1.now.Session, .int .u64 c_1.now.Seq, .int .u64 c_1.now.Saga, .slice A_3 c_1.now.Steps.length c_4, .int .i64 c_1.now.Step, .bool c_1.now.Back, .int .i64 c_1.now.Try, .bool c_1.now.Ok, .int .u64 c_1.now.Now, .string (bs c_1.data), .int .i64 c_1.to_]⟩, ⟨40, b_8, [.int .i64 x_5.Kind, .int .i64 x_5.From, .int .i64 x_5.To, .int .u64 x_5.Term, .int .u64 x_5.Index, .int .u64 x_5.Prev, .int .u64 x_5.Commit, .bool x_5.Ok, .slice A_6 x_5.Entries.length c_7, .string (bs x_5.Data)]⟩, ⟨41, b_9, [.int .i64 0, .int .i64 0, .int .u64 0, .int .u64 0, .int .u64 0, .slice none ([] : List T_api_Step).length 0, .int .i64 0, .bool false, .int .i64 0, .bool false, .int .u64 0, .int .i64 0, .int .u64 0, .int .u64 0]⟩, ⟨42, b_10, [.int .i64 0, .int .i64 0, .int .i64 0, .int .u64 0, .int .u64 0, .int .u64 0, .int .u64 0, .bool false, .slice none ([] : List T_api_Entry).length 0, .string (bs [])]⟩, ⟨43, b_11, [.int .i64 0, .int .i64 0, .int .i64 0, .int .u64 0, .int .u64 0, .int .u64 0, .int .u64 0, .bool false, .slice none ([] : List T_api_Entry).length 0, .string (bs [])]⟩, ⟨44, b_18, [.int .i64 r_17.1.Err, .int .u64 r_17.1.Num, .int .u64 r_17.1.Extra]⟩]) (ps := [b_2 = b_2]) (by kernel_rfl) (And.intro rfl trivial) ?_
    refine GoO.regionEnd ?_
    refine GoO.ite' c36_46e (by kernel_rfl) (fun h31 => ?_) (fun h31 => ?_)
    · refine GoO.seq' c36_47e ?_
      refine GoO.region' (is := [0, 1, 2]) c36_48e (by kernel_rfl) ?_
      refine GoO.exec (is := [0, 1, 2]) (hs := [.p, .b 5, .p]) (rest := []) (ks := [0, 4, 6, 8, 9, 115]) (env' := [(0, .pointer (some ⟨b_2, 0, none⟩)), (4, .pointer (some ⟨b_9, 0, none⟩)), (6, .pointer (some ⟨b_10, 0, none⟩)), (8, .pointer (some ⟨b_11, 0, none⟩)), (9, .pointer (some ⟨b_18, 0, none⟩)), (115, .bool (r_17.1.Err == 0))]) (H' := [⟨1, b_2, [.int .i64 c_1.id, .int .u64 c_1.session, .int .u64 c_1.seq, .int .u64 c_1.call, .bool false, .int .i64 c_1.now.Kind, .int .u64 c_1.now.Session, .int .u64 c_1.now.Seq, .int .u64 c_1.now.Saga, .slice A_3 c_1.now.Steps.length c_4, .int .i64 c_1.now.Step, .bool c_1.now.Back, .int .i64 c_1.now.Try, .bool c_1.now.Ok, .int .u64 c_1.now.Now, .string (bs c_1.data), .int .i64 c_1.to_]⟩, ⟨40, b_8, [.int .i64 x_5.Kind, .int .i64 x_5.From, .int .i64 x_5.To, .int .u64 x_5.Term, .int .u64 x_5.Index, .int .u64 x_5.Prev, .int .u64 x_5.Commit, .bool x_5.Ok, .slice A_6 x_5.Entries.length c_7, .string (bs x_5.Data)]⟩, ⟨41, b_9, [.int .i64 0, .int .i64 0, .int .u64 0, .int .u64 0, .int .u64 0, .slice none ([] : List T_api_Step).length 0, .int .i64 0, .bool false, .int .i64 0, .bool false, .int .u64 0, .int .i64 0, .int .u64 0, .int .u64 0]⟩, ⟨42, b_10, [.int .i64 0, .int .i64 0, .int .i64 0, .int .u64 0, .int .u64 0, .int .u64 0, .int .u64 0, .bool false, .slice none ([] : List T_api_Entry).length 0, .string (bs [])]⟩, ⟨43, b_11, [.int .i64 0, .int .i64 0, .int .i64 0, .int .u64 0, .int .u64 0, .int .u64 0, .int .u64 0, .bool false, .slice none ([] : List T_api_Entry).length 0, .string (bs [])]⟩, ⟨44, b_18, [.int .i64 r_17.1.Err, .int .u64 r_17.1.Num, .int .u64 r_17.1.Extra]⟩]) (ps := [b_18 = b_18]) (by kernel_rfl) (And.intro rfl trivial) ?_
      refine GoO.regionEnd ?_
      refine GoO.ite' c36_49e (by kernel_rfl) (fun h32 => ?_) (fun h32 => ?_)
      · refine GoO.region' (is := [0, 1, 2, 3, 4, 5, 6, 7, 8, 9]) c36_50e (by kernel_rfl) ?_
        refine GoO.exec (is := [0, 1, 2, 3, 4, 5, 6, 7, 8, 9]) (hs := [.p, .p, .p, .b 5, .p, .p, .b 0, .p, .p, .b 0]) (rest := []) (ks := [0, 4, 6, 8, 9]) (env' := [(0, .pointer (some ⟨b_2, 0, none⟩)), (4, .pointer (some ⟨b_9, 0, none⟩)), (6, .pointer (some ⟨b_10, 0, none⟩)), (8, .pointer (some ⟨b_11, 0, none⟩)), (9, .pointer (some ⟨b_18, 0, none⟩))]) (H' := [⟨1, b_2, [.int .i64 c_1.id, .int .u64 r_17.1.Num, .int .u64 0, .int .u64 c_1.call, .bool false, .int .i64 c_1.now.Kind, .int .u64 c_1.now.Session, .int .u64 c_1.now.Seq, .int .u64 c_1.now.Saga, .slice A_3 c_1.now.Steps.length c_4, .int .i64 c_1.now.Step, .bool c_1.now.Back, .int .i64 c_1.now.Try, .bool c_1.now.Ok, .int .u64 c_1.now.Now, .string (bs c_1.data), .int .i64 c_1.to_]⟩, ⟨40, b_8, [.int .i64 x_5.Kind, .int .i64 x_5.From, .int .i64 x_5.To, .int .u64 x_5.Term, .int .u64 x_5.Index, .int .u64 x_5.Prev, .int .u64 x_5.Commit, .bool x_5.Ok, .slice A_6 x_5.Entries.length c_7, .string (bs x_5.Data)]⟩, ⟨41, b_9, [.int .i64 0, .int .i64 0, .int .u64 0, .int .u64 0, .int .u64 0, .slice none ([] : List T_api_Step).length 0, .int .i64 0, .bool false, .int .i64 0, .bool false, .int .u64 0, .int .i64 0, .int .u64 0, .int .u64 0]⟩, ⟨42, b_10, [.int .i64 0, .int .i64 0, .int .i64 0, .int .u64 0, .int .u64 0, .int .u64 0, .int .u64 0, .bool false, .slice none ([] : List T_api_Entry).length 0, .string (bs [])]⟩, ⟨43, b_11, [.int .i64 0, .int .i64 0, .int .i64 0, .int .u64 0, .int .u64 0, .int .u64 0, .int .u64 0, .bool false, .slice none ([] : List T_api_Entry).length 0, .string (bs [])]⟩, ⟨44, b_18, [.int .i64 r_17.1.Err, .int .u64 r_17.1.Num, .int .u64 r_17.1.Extra]⟩]) (ps := [b_18 = b_18, b_2 = b_2, b_2 = b_2]) (by kernel_rfl) (And.intro rfl (And.intro rfl (And.intro rfl trivial))) ?_
        refine GoO.regionEnd ?_
        exact GoO.sub (ks := [0, 4, 6, 8, 9]) (hk := [0, 2, 3, 4, 5]) (bk := [0]) (by kernel_rfl) (by kernel_rfl) (by kernel_rfl) (client_Client_Hear_j3_ok n c_1 r_17 b_2 A_3 c_4 b_9 b_10 b_11 b_18 A_6 c_7 w0 S0 r_17.1.Num 0)
      · refine GoO.skip' c36_51e ?_
        exact GoO.sub (ks := [0, 4, 6, 8, 9]) (hk := [0, 2, 3, 4, 5]) (bk := [0]) (by kernel_rfl) (by kernel_rfl) (by kernel_rfl) (client_Client_Hear_j3_ok n c_1 r_17 b_2 A_3 c_4 b_9 b_10 b_11 b_18 A_6 c_7 w0 S0 c_1.session c_1.seq)
    · refine GoO.seq' c36_52e ?_
      refine GoO.region' (is := [0, 1, 2, 3]) c36_53e (by kernel_rfl) ?_
      refine GoO.exec (is := [0, 1, 2, 3]) (hs := [.p, .b 5, .p, .p]) (rest := []) (ks := [0, 4, 6, 8, 9, 124]) (env' := [(0, .pointer (some ⟨b_2, 0, none⟩)), (4, .pointer (some ⟨b_9, 0, none⟩)), (6, .pointer (some ⟨b_10, 0, none⟩)), (8, .pointer (some ⟨b_11, 0, none⟩)), (9, .pointer (some ⟨b_18, 0, none⟩)), (124, .bool (r_17.1.Err == 40))]) (H' := [⟨1, b_2, [.int .i64 c_1.id, .int .u64 c_1.session, .int .u64 c_1.seq, .int .u64 c_1.call, .bool false, .int .i64 c_1.now.Kind, .int .u64 c_1.now.Session, .int .u64 c_1.now.Seq, .int .u64 c_1.now.Saga, .slice A_3 c_1.now.Steps.length c_4, .int .i64 c_1.now.Step, .bool c_1.now.Back, .int .i64 c_1.now.Try, .bool c_1.now.Ok, .int .u64 c_1.now.Now, .string (bs c_1.data), .int .i64 c_1.to_]⟩, ⟨40, b_8, [.int .i64 x_5.Kind, .int .i64 x_5.From, .int .i64 x_5.To, .int .u64 x_5.Term, .int .u64 x_5.Index, .int .u64 x_5.Prev, .int .u64 x_5.Commit, .bool x_5.Ok, .slice A_6 x_5.Entries.length c_7, .string (bs x_5.Data)]⟩, ⟨41, b_9, [.int .i64 0, .int .i64 0, .int .u64 0, .int .u64 0, .int .u64 0, .slice none ([] : List T_api_Step).length 0, .int .i64 0, .bool false, .int .i64 0, .bool false, .int .u64 0, .int .i64 0, .int .u64 0, .int .u64 0]⟩, ⟨42, b_10, [.int .i64 0, .int .i64 0, .int .i64 0, .int .u64 0, .int .u64 0, .int .u64 0, .int .u64 0, .bool false, .slice none ([] : List T_api_Entry).length 0, .string (bs [])]⟩, ⟨43, b_11, [.int .i64 0, .int .i64 0, .int .i64 0, .int .u64 0, .int .u64 0, .int .u64 0, .int .u64 0, .bool false, .slice none ([] : List T_api_Entry).length 0, .string (bs [])]⟩, ⟨44, b_18, [.int .i64 r_17.1.Err, .int .u64 r_17.1.Num, .int .u64 r_17.1.Extra]⟩]) (ps := [b_18 = b_18]) (by kernel_rfl) (And.intro rfl trivial) ?_
      refine GoO.regionEnd ?_
      refine GoO.ite' c36_54e (by kernel_rfl) (fun h33 => ?_) (fun h33 => ?_)
      · refine GoO.region' (is := [0, 1, 2, 3, 4, 5, 6, 7]) c36_55e (by kernel_rfl) ?_
        refine GoO.exec (is := [0, 1, 2, 3, 4, 5, 6, 7]) (hs := [.p, .p, .p, .p, .b 0, .p, .p, .b 0]) (rest := []) (ks := [0, 4, 6, 8, 9]) (env' := [(0, .pointer (some ⟨b_2, 0, none⟩)), (4, .pointer (some ⟨b_9, 0, none⟩)), (6, .pointer (some ⟨b_10, 0, none⟩)), (8, .pointer (some ⟨b_11, 0, none⟩)), (9, .pointer (some ⟨b_18, 0, none⟩))]) (H' := [⟨1, b_2, [.int .i64 c_1.id, .int .u64 0, .int .u64 0, .int .u64 c_1.call, .bool false, .int .i64 c_1.now.Kind, .int .u64 c_1.now.Session, .int .u64 c_1.now.Seq, .int .u64 c_1.now.Saga, .slice A_3 c_1.now.Steps.length c_4, .int .i64 c_1.now.Step, .bool c_1.now.Back, .int .i64 c_1.now.Try, .bool c_1.now.Ok, .int .u64 c_1.now.Now, .string (bs c_1.data), .int .i64 c_1.to_]⟩, ⟨40, b_8, [.int .i64 x_5.Kind, .int .i64 x_5.From, .int .i64 x_5.To, .int .u64 x_5.Term, .int .u64 x_5.Index, .int .u64 x_5.Prev, .int .u64 x_5.Commit, .bool x_5.Ok, .slice A_6 x_5.Entries.length c_7, .string (bs x_5.Data)]⟩, ⟨41, b_9, [.int .i64 0, .int .i64 0, .int .u64 0, .int .u64 0, .int .u64 0, .slice none ([] : List T_api_Step).length 0, .int .i64 0, .bool false, .int .i64 0, .bool false, .int .u64 0, .int .i64 0, .int .u64 0, .int .u64 0]⟩, ⟨42, b_10, [.int .i64 0, .int .i64 0, .int .i64 0, .int .u64 0, .int .u64 0, .int .u64 0, .int .u64 0, .bool false, .slice none ([] : List T_api_Entry).length 0, .string (bs [])]⟩, ⟨43, b_11, [.int .i64 0, .int .i64 0, .int .i64 0, .int .u64 0, .int .u64 0, .int .u64 0, .int .u64 0, .bool false, .slice none ([] : List T_api_Entry).length 0, .string (bs [])]⟩, ⟨44, b_18, [.int .i64 r_17.1.Err, .int .u64 r_17.1.Num, .int .u64 r_17.1.Extra]⟩]) (ps := [b_2 = b_2, b_2 = b_2]) (by kernel_rfl) (And.intro rfl (And.intro rfl trivial)) ?_
        refine GoO.regionEnd ?_
        exact GoO.sub (ks := [0, 4, 6, 8, 9]) (hk := [0, 2, 3, 4, 5]) (bk := [0]) (by kernel_rfl) (by kernel_rfl) (by kernel_rfl) (client_Client_Hear_j3_ok n c_1 r_17 b_2 A_3 c_4 b_9 b_10 b_11 b_18 A_6 c_7 w0 S0 0 0)
      · refine GoO.region' (is := [0, 1, 2, 3, 4, 5, 6, 7]) c36_56e (by kernel_rfl) ?_
        refine GoO.exec (is := [0, 1, 2, 3, 4, 5, 6, 7]) (hs := [.p, .p, .p, .b 0, .p, .p, .p, .b 0]) (rest := []) (ks := [0, 4, 6, 8, 9]) (env' := [(0, .pointer (some ⟨b_2, 0, none⟩)), (4, .pointer (some ⟨b_9, 0, none⟩)), (6, .pointer (some ⟨b_10, 0, none⟩)), (8, .pointer (some ⟨b_11, 0, none⟩)), (9, .pointer (some ⟨b_18, 0, none⟩))]) (H' := [⟨1, b_2, [.int .i64 c_1.id, .int .u64 c_1.session, .int .u64 (wu64 (c_1.seq + 1)), .int .u64 c_1.call, .bool false, .int .i64 c_1.now.Kind, .int .u64 c_1.now.Session, .int .u64 c_1.now.Seq, .int .u64 c_1.now.Saga, .slice A_3 c_1.now.Steps.length c_4, .int .i64 c_1.now.Step, .bool c_1.now.Back, .int .i64 c_1.now.Try, .bool c_1.now.Ok, .int .u64 c_1.now.Now, .string (bs c_1.data), .int .i64 c_1.to_]⟩, ⟨40, b_8, [.int .i64 x_5.Kind, .int .i64 x_5.From, .int .i64 x_5.To, .int .u64 x_5.Term, .int .u64 x_5.Index, .int .u64 x_5.Prev, .int .u64 x_5.Commit, .bool x_5.Ok, .slice A_6 x_5.Entries.length c_7, .string (bs x_5.Data)]⟩, ⟨41, b_9, [.int .i64 0, .int .i64 0, .int .u64 0, .int .u64 0, .int .u64 0, .slice none ([] : List T_api_Step).length 0, .int .i64 0, .bool false, .int .i64 0, .bool false, .int .u64 0, .int .i64 0, .int .u64 0, .int .u64 0]⟩, ⟨42, b_10, [.int .i64 0, .int .i64 0, .int .i64 0, .int .u64 0, .int .u64 0, .int .u64 0, .int .u64 0, .bool false, .slice none ([] : List T_api_Entry).length 0, .string (bs [])]⟩, ⟨43, b_11, [.int .i64 0, .int .i64 0, .int .i64 0, .int .u64 0, .int .u64 0, .int .u64 0, .int .u64 0, .bool false, .slice none ([] : List T_api_Entry).length 0, .string (bs [])]⟩, ⟨44, b_18, [.int .i64 r_17.1.Err, .int .u64 r_17.1.Num, .int .u64 r_17.1.Extra]⟩]) (ps := [b_2 = b_2, b_2 = b_2]) (by kernel_rfl) (And.intro rfl (And.intro rfl trivial)) ?_
        refine GoO.regionEnd ?_
        exact GoO.sub (ks := [0, 4, 6, 8, 9]) (hk := [0, 2, 3, 4, 5]) (bk := [0]) (by kernel_rfl) (by kernel_rfl) (by kernel_rfl) (client_Client_Hear_j3_ok n c_1 r_17 b_2 A_3 c_4 b_9 b_10 b_11 b_18 A_6 c_7 w0 S0 c_1.session (wu64 (c_1.seq + 1)))
theorem client_Client_Hear_j0_ok (n : Nat) (c_1 : T_client_Client) (x_5 : T_api_Letter) (b_2 : Nat) (A_3 : Option Addr) (c_4 : Nat) (A_6 : Option Addr) (c_7 : Nat) (b_8 : Nat) (b_9 : Nat) (b_10 : Nat) (b_11 : Nat) (w0 : World) (S0 : Fam) (b_15 : Bool) :
    GoO (client_Client_Hear.cx b_2 A_3 c_4 A_6 c_7 w0 S0) [(0, .pointer (some ⟨b_2, 0, none⟩)), (3, .pointer (some ⟨b_8, 0, none⟩)), (4, .pointer (some ⟨b_9, 0, none⟩)), (6, .pointer (some ⟨b_10, 0, none⟩)), (8, .pointer (some ⟨b_11, 0, none⟩)), (44, .bool b_15)] [⟨1, b_2, [.int .i64 c_1.id, .int .u64 c_1.session, .int .u64 c_1.seq, .int .u64 c_1.call, .bool c_1.busy, .int .i64 c_1.now.Kind, .int .u64 c_1.now.Session, .int .u64 c_1.now.Seq, .int .u64 c_1.now.Saga, .slice A_3 c_1.now.Steps.length c_4, .int .i64 c_1.now.Step, .bool c_1.now.Back, .int .i64 c_1.now.Try, .bool c_1.now.Ok, .int .u64 c_1.now.Now, .string (bs c_1.data), .int .i64 c_1.to_]⟩, ⟨40, b_8, [.int .i64 x_5.Kind, .int .i64 x_5.From, .int .i64 x_5.To, .int .u64 x_5.Term, .int .u64 x_5.Index, .int .u64 x_5.Prev, .int .u64 x_5.Commit, .bool x_5.Ok, .slice A_6 x_5.Entries.length c_7, .string (bs x_5.Data)]⟩, ⟨41, b_9, [.int .i64 0, .int .i64 0, .int .u64 0, .int .u64 0, .int .u64 0, .slice none ([] : List T_api_Step).length 0, .int .i64 0, .bool false, .int .i64 0, .bool false, .int .u64 0, .int .i64 0, .int .u64 0, .int .u64 0]⟩, ⟨42, b_10, [.int .i64 0, .int .i64 0, .int .i64 0, .int .u64 0, .int .u64 0, .int .u64 0, .int .u64 0, .bool false, .slice none ([] : List T_api_Entry).length 0, .string (bs [])]⟩, ⟨43, b_11, [.int .i64 0, .int .i64 0, .int .i64 0, .int .u64 0, .int .u64 0, .int .u64 0, .int .u64 0, .bool false, .slice none ([] : List T_api_Entry).length 0, .string (bs [])]⟩] [Rd 0 kT_api_Step A_3 c_4 c_1.now.Steps, Rd 0 kT_api_Entry A_6 c_7 x_5.Entries] [.code c36_7, .code c36_12] (client_Client_Hear.j0 n c_1 x_5 b_15) := by
  unfold client_Client_Hear.j0
  refine GoO.ite' c36_7e (by kernel_rfl) (fun h16 => ?_) (fun h16 => ?_)
  · refine GoO.seq' c36_8e ?_
    refine GoO.draw c36_9e (by kernel_rfl) [4, 5] [⟨43, b_11, [.int .i64 0, .int .i64 0, .int .i64 0, .int .u64 0, .int .u64 0, .int .u64 0, .int .u64 0, .bool false, .slice none ([] : List T_api_Entry).length 0, .string (bs [])]⟩] [] (n := 6) (by kernel_rfl) ?_
    simp only [List.replicate]
    refine GoF.take [0, 1] [.p, .b 0] (ks := [4, 6, 45, 46]) (fu := 4) (li := [true, true, false, false, false, false]) (env' := [(4, .pointer (some ⟨b_9, 0, none⟩)), (6, .pointer (some ⟨b_10, 0, none⟩)), (45, .agg ⟨[.int .i64 0, .int .i64 0, .int .u64 0, .int .u64 0, .int .u64 0, .slice none ([] : List T_api_Step).length 0, .int .i64 0, .bool false, .int .i64 0, .bool false, .int .u64 0, .int .i64 0, .int .u64 0, .int .u64 0]⟩), (46, .agg ⟨[.int .i64 0, .int .i64 0, .int .i64 0, .int .u64 0, .int .u64 0, .int .u64 0, .int .u64 0, .bool false, .slice none ([] : List T_api_Entry).length 0, .string (bs [])]⟩)]) (ps := [b_11 = b_11]) (hk := [4]) (bk := []) (by kernel_rfl) (And.intro rfl trivial) rfl rfl ?_
    refine GoF.fin1 (i := 2) (hint := .b 2) (ps := [b_9 = b_9]) (hk := [4]) (bk := []) (by kernel_rfl) rfl (And.intro rfl trivial) (.inr ⟨rfl, rfl⟩) ?_
    refine GoF.take [3] [.p] (ks := [4, 5, 6, 46]) (fu := 2) (li := [true, true, true, true, false, false]) (env' := [(4, .pointer (some ⟨b_9, 0, none⟩)), (5, .bool false), (6, .pointer (some ⟨b_10, 0, none⟩)), (46, .agg ⟨[.int .i64 0, .int .i64 0, .int .i64 0, .int .u64 0, .int .u64 0, .int .u64 0, .int .u64 0, .bool false, .slice none ([] : List T_api_Entry).length 0, .string (bs [])]⟩)]) (ps := []) (hk := [4]) (bk := []) (by kernel_rfl) trivial rfl rfl ?_
    refine GoF.fin1 (i := 4) (hint := .b 3) (ps := [b_10 = b_10]) (hk := []) (bk := []) (by kernel_rfl) rfl (And.intro rfl trivial) (.inl rfl) ?_
    refine GoF.fin1 (i := 5) (hint := .p) (ps := []) (hk := []) (bk := []) (by kernel_rfl) rfl trivial (.inl rfl) ?_
    refine GoF.done (by kernel_rfl) ?_
    refine GoO.nilRd kT_api_Step ?_
    refine GoO.nilRd kT_api_Entry ?_
    exact GoO.ret' (h := c36_10e) (hs := [2, 3]) (ps := [b_9 = b_9, b_10 = b_10]) (hk := [0]) (bk := [1, 0, 2]) Try.func36 (⟨none, 0, none, 0, A_3, c_4⟩ : Option Addr × Nat × Option Addr × Nat × Option Addr × Nat) (by kernel_rfl) (And.intro rfl (And.intro rfl trivial)) (by kernel_rfl) (by kernel_rfl)
  · refine GoO.skip' c36_11e ?_
    refine GoO.seq' c36_12e ?_
    refine GoO.region' (is := [0, 1, 2, 3, 4, 5, 6, 7, 8]) c36_13e (by kernel_rfl) ?_
    refine GoO.exec (is := [0, 1]) (hs := [.p, .b 1]) (rest := [2, 3, 4, 5, 6, 7, 8]) (ks := [0, 3, 4, 6, 8, 49]) (env' := [(0, .pointer (some ⟨b_2, 0, none⟩)), (3, .pointer (some ⟨b_8, 0, none⟩)), (4, .pointer (some ⟨b_9, 0, none⟩)), (6, .pointer (some ⟨b_10, 0, none⟩)), (8, .pointer (some ⟨b_11, 0, none⟩)), (49, .string (bs x_5.Data))]) (H' := [⟨1, b_2, [.int .i64 c_1.id, .int .u64 c_1.session, .int .u64 c_1.seq, .int .u64 c_1.call, .bool c_1.busy, .int .i64 c_1.now.Kind, .int .u64 c_1.now.Session, .int .u64 c_1.now.Seq, .int .u64 c_1.now.Saga, .slice A_3 c_1.now.Steps.length c_4, .int .i64 c_1.now.Step, .bool c_1.now.Back, .int .i64 c_1.now.Try, .bool c_1.now.Ok, .int .u64 c_1.now.Now, .string (bs c_1.data), .int .i64 c_1.to_]⟩, ⟨40, b_8, [.int .i64 x_5.Kind, .int .i64 x_5.From, .int .i64 x_5.To, .int .u64 x_5.Term, .int .u64 x_5.Index, .int .u64 x_5.Prev, .int .u64 x_5.Commit, .bool x_5.Ok, .slice A_6 x_5.Entries.length c_7, .string (bs x_5.Data)]⟩, ⟨41, b_9, [.int .i64 0, .int .i64 0, .int .u64 0, .int .u64 0, .int .u64 0, .slice none ([] : List T_api_Step).length 0, .int .i64 0, .bool false, .int .i64 0, .bool false, .int .u64 0, .int .i64 0, .int .u64 0, .int .u64 0]⟩, ⟨42, b_10, [.int .i64 0, .int .i64 0, .int .i64 0, .int .u64 0, .int .u64 0, .int .u64 0, .int .u64 0, .bool false, .slice none ([] : List T_api_Entry).length 0, .string (bs [])]⟩, ⟨43, b_11, [.int .i64 0, .int .i64 0, .int .i64 0, .int .u64 0, .int .u64 0, .int .u64 0, .int .u64 0, .bool false, .slice none ([] : List T_api_Entry).length 0, .string (bs [])]⟩]) (ps := [b_8 = b_8]) (by kernel_rfl) (And.intro rfl trivial) ?_
    refine OpTo.go (GoO.call rfl (by kernel_rfl) (by kernel_rfl) (command_Said_ok n x_5.Data) [[0]] [] [] [] (hks := [0, 1, 2, 3, 4]) (bks := [0, 1]) (by kernel_rfl) (by kernel_rfl) (by kernel_rfl) (.inl rfl) rfl rfl (by kernel_rfl) (by kernel_rfl) _ (fun _ _ => rfl) _ _ (fun _ _ => rfl) (fun _ _ => rfl) (fun _ _ => by kernel_rfl) (fun _ _ => by kernel_rfl) (fun r_17 x_36 => ?_))
    refine GoO.shape (env' := [(0, .pointer (some ⟨b_2, 0, none⟩)), (3, .pointer (some ⟨b_8, 0, none⟩)), (4, .pointer (some ⟨b_9, 0, none⟩)), (6, .pointer (some ⟨b_10, 0, none⟩)), (8, .pointer (some ⟨b_11, 0, none⟩)), (49, .string (bs x_5.Data)), (50, .tuple ⟨[.agg ⟨[.int .i64 r_17.1.Err, .int .u64 r_17.1.Num, .int .u64 r_17.1.Extra]⟩, .int .i64 r_17.2]⟩)]) (H' := [⟨1, b_2, [.int .i64 c_1.id, .int .u64 c_1.session, .int .u64 c_1.seq, .int .u64 c_1.call, .bool c_1.busy, .int .i64 c_1.now.Kind, .int .u64 c_1.now.Session, .int .u64 c_1.now.Seq, .int .u64 c_1.now.Saga, .slice A_3 c_1.now.Steps.length c_4, .int .i64 c_1.now.Step, .bool c_1.now.Back, .int .i64 c_1.now.Try, .bool c_1.now.Ok, .int .u64 c_1.now.Now, .string (bs c_1.data), .int .i64 c_1.to_]⟩, ⟨40, b_8, [.int .i64 x_5.Kind, .int .i64 x_5.From, .int .i64 x_5.To, .int .u64 x_5.Term, .int .u64 x_5.Index, .int .u64 x_5.Prev, .int .u64 x_5.Commit, .bool x_5.Ok, .slice A_6 x_5.Entries.length c_7, .string (bs x_5.Data)]⟩, ⟨41, b_9, [.int .i64 0, .int .i64 0, .int .u64 0, .int .u64 0, .int .u64 0, .slice none ([] : List T_api_Step).length 0, .int .i64 0, .bool false, .int .i64 0, .bool false, .int .u64 0, .int .i64 0, .int .u64 0, .int .u64 0]⟩, ⟨42, b_10, [.int .i64 0, .int .i64 0, .int .i64 0, .int .u64 0, .int .u64 0, .int .u64 0, .int .u64 0, .bool false, .slice none ([] : List T_api_Entry).length 0, .string (bs [])]⟩, ⟨43, b_11, [.int .i64 0, .int .i64 0, .int .i64 0, .int .u64 0, .int .u64 0, .int .u64 0, .int .u64 0, .bool false, .slice none ([] : List T_api_Entry).length 0, .string (bs [])]⟩]) (B' := [Rd 0 kT_api_Step A_3 c_4 c_1.now.Steps, Rd 0 kT_api_Entry A_6 c_7 x_5.Entries]) (ks := [0, 3, 4, 6, 8, 49, 50]) (by kernel_rfl) (by kernel_rfl) (by kernel_rfl) ?_
    refine GoO.exec (is := [3, 4, 5]) (hs := [.p, .p, .p]) (rest := [6, 7, 8]) (ks := [0, 3, 4, 6, 8, 51, 52]) (env' := [(0, .pointer (some ⟨b_2, 0, none⟩)), (3, .pointer (some ⟨b_8, 0, none⟩)), (4, .pointer (some ⟨b_9, 0, none⟩)), (6, .pointer (some ⟨b_10, 0, none⟩)), (8, .pointer (some ⟨b_11, 0, none⟩)), (51, .agg ⟨[.int .i64 r_17.1.Err, .int .u64 r_17.1.Num, .int .u64 r_17.1.Extra]⟩), (52, .int .i64 r_17.2)]) (H' := [⟨1, b_2, [.int .i64 c_1.id, .int .u64 c_1.session, .int .u64 c_1.seq, .int .u64 c_1.call, .bool c_1.busy, .int .i64 c_1.now.Kind, .int .u64 c_1.now.Session, .int .u64 c_1.now.Seq, .int .u64 c_1.now.Saga, .slice A_3 c_1.now.Steps.length c_4, .int .i64 c_1.now.Step, .bool c_1.now.Back, .int .i64 c_1.now.Try, .bool c_1.now.Ok, .int .u64 c_1.now.Now, .string (bs c_1.data), .int .i64 c_1.to_]⟩, ⟨40, b_8, [.int .i64 x_5.Kind, .int .i64 x_5.From, .int .i64 x_5.To, .int .u64 x_5.Term, .int .u64 x_5.Index, .int .u64 x_5.Prev, .int .u64 x_5.Commit, .bool x_5.Ok, .slice A_6 x_5.Entries.length c_7, .string (bs x_5.Data)]⟩, ⟨41, b_9, [.int .i64 0, .int .i64 0, .int .u64 0, .int .u64 0, .int .u64 0, .slice none ([] : List T_api_Step).length 0, .int .i64 0, .bool false, .int .i64 0, .bool false, .int .u64 0, .int .i64 0, .int .u64 0, .int .u64 0]⟩, ⟨42, b_10, [.int .i64 0, .int .i64 0, .int .i64 0, .int .u64 0, .int .u64 0, .int .u64 0, .int .u64 0, .bool false, .slice none ([] : List T_api_Entry).length 0, .string (bs [])]⟩, ⟨43, b_11, [.int .i64 0, .int .i64 0, .int .i64 0, .int .u64 0, .int .u64 0, .int .u64 0, .int .u64 0, .bool false, .slice none ([] : List T_api_Entry).length 0, .string (bs [])]⟩]) (ps := []) (by kernel_rfl) trivial ?_
    refine OpTo.go (GoO.new rfl 44 (cs := [.int .i64 0, .int .u64 0, .int .u64 0]) (by kernel_rfl) _ (fun _ => rfl) (fun b_18 => ?_))
    refine GoO.exec (is := [7, 8]) (hs := [.b 0, .p]) (rest := []) (ks := [0, 3, 4, 6, 8, 9, 10]) (env' := [(0, .pointer (some ⟨b_2, 0, none⟩)), (3, .pointer (some ⟨b_8, 0, none⟩)), (4, .pointer (some ⟨b_9, 0, none⟩)), (6, .pointer (some ⟨b_10, 0, none⟩)), (8, .pointer (some ⟨b_11, 0, none⟩)), (9, .pointer (some ⟨b_18, 0, none⟩)), (10, .int .i64 r_17.2)]) (H' := [⟨44, b_18, [.int .i64 r_17.1.Err, .int .u64 r_17.1.Num, .int .u64 r_17.1.Extra]⟩, ⟨1, b_2, [.int .i64 c_1.id, .int .u64 c_1.session, .int .u64 c_1.seq, .int .u64 c_1.call, .bool c_1.busy, .int .i64 c_1.now.Kind, .int .u64 c_1.now.Session, .int .u64 c_1.now.Seq, .int .u64 c_1.now.Saga, .slice A_3 c_1.now.Steps.length c_4, .int .i64 c_1.now.Step, .bool c_1.now.Back, .int .i64 c_1.now.Try, .bool c_1.now.Ok, .int .u64 c_1.now.Now, .string (bs c_1.data), .int .i64 c_1.to_]⟩, ⟨40, b_8, [.int .i64 x_5.Kind, .int .i64 x_5.From, .int .i64 x_5.To, .int .u64 x_5.Term, .int .u64 x_5.Index, .int .u64 x_5.Prev, .int .u64 x_5.Commit, .bool x_5.Ok, .slice A_6 x_5.Entries.length c_7, .string (bs x_5.Data)]⟩, ⟨41, b_9, [.int .i64 0, .int .i64 0, .int .u64 0, .int .u64 0, .int .u64 0, .slice none ([] : List T_api_Step).length 0, .int .i64 0, .bool false, .int .i64 0, .bool false, .int .u64 0, .int .i64 0, .int .u64 0, .int .u64 0]⟩, ⟨42, b_10, [.int .i64 0, .int .i64 0, .int .i64 0, .int .u64 0, .int .u64 0, .int .u64 0, .int .u64 0, .bool false, .slice none ([] : List T_api_Entry).length 0, .string (bs [])]⟩, ⟨43, b_11, [.int .i64 0, .int .i64 0, .int .i64 0, .int .u64 0, .int .u64 0, .int .u64 0, .int .u64 0, .bool false, .slice none ([] : List T_api_Entry).length 0, .string (bs [])]⟩]) (ps := [b_18 = b_18]) (by kernel_rfl) (And.intro rfl trivial) ?_
    refine GoO.regionEnd ?_
    refine GoO.seq' c36_14e ?_
    refine GoO.seq' c36_15e ?_
    refine GoO.region' (is := [0, 1]) c36_16e (by kernel_rfl) ?_
    refine GoO.exec (is := [0, 1]) (hs := [.p, .p]) (rest := []) (ks := [0, 3, 4, 6, 8, 9, 54]) (env' := [(0, .pointer (some ⟨b_2, 0, none⟩)), (3, .pointer (some ⟨b_8, 0, none⟩)), (4, .pointer (some ⟨b_9, 0, none⟩)), (6, .pointer (some ⟨b_10, 0, none⟩)), (8, .pointer (some ⟨b_11, 0, none⟩)), (9, .pointer (some ⟨b_18, 0, none⟩)), (54, .bool (r_17.2 != 0))]) (H' := [⟨44, b_18, [.int .i64 r_17.1.Err, .int .u64 r_17.1.Num, .int .u64 r_17.1.Extra]⟩, ⟨1, b_2, [.int .i64 c_1.id, .int .u64 c_1.session, .int .u64 c_1.seq, .int .u64 c_1.call, .bool c_1.busy, .int .i64 c_1.now.Kind, .int .u64 c_1.now.Session, .int .u64 c_1.now.Seq, .int .u64 c_1.now.Saga, .slice A_3 c_1.now.Steps.length c_4, .int .i64 c_1.now.Step, .bool c_1.now.Back, .int .i64 c_1.now.Try, .bool c_1.now.Ok, .int .u64 c_1.now.Now, .string (bs c_1.data), .int .i64 c_1.to_]⟩, ⟨40, b_8, [.int .i64 x_5.Kind, .int .i64 x_5.From, .int .i64 x_5.To, .int .u64 x_5.Term, .int .u64 x_5.Index, .int .u64 x_5.Prev, .int .u64 x_5.Commit, .bool x_5.Ok, .slice A_6 x_5.Entries.length c_7, .string (bs x_5.Data)]⟩, ⟨41, b_9, [.int .i64 0, .int .i64 0, .int .u64 0, .int .u64 0, .int .u64 0, .slice none ([] : List T_api_Step).length 0, .int .i64 0, .bool false, .int .i64 0, .bool false, .int .u64 0, .int .i64 0, .int .u64 0, .int .u64 0]⟩, ⟨42, b_10, [.int .i64 0, .int .i64 0, .int .i64 0, .int .u64 0, .int .u64 0, .int .u64 0, .int .u64 0, .bool false, .slice none ([] : List T_api_Entry).length 0, .string (bs [])]⟩, ⟨43, b_11, [.int .i64 0, .int .i64 0, .int .i64 0, .int .u64 0, .int .u64 0, .int .u64 0, .int .u64 0, .bool false, .slice none ([] : List T_api_Entry).length 0, .string (bs [])]⟩]) (ps := []) (by kernel_rfl) trivial ?_
    refine GoO.regionEnd ?_
    refine GoO.ite' c36_17e (by kernel_rfl) (fun h19 => ?_) (fun h19 => ?_)
    · refine GoO.seq' c36_18e ?_
      refine GoO.draw c36_19e (by kernel_rfl) [4, 5] [⟨43, b_11, [.int .i64 0, .int .i64 0, .int .i64 0, .int .u64 0, .int .u64 0, .int .u64 0, .int .u64 0, .bool false, .slice none ([] : List T_api_Entry).length 0, .string (bs [])]⟩] [] (n := 6) (by kernel_rfl) ?_
      simp only [List.replicate]
      refine GoF.take [0, 1] [.p, .b 0] (ks := [4, 6, 55, 56]) (fu := 4) (li := [true, true, false, false, false, false]) (env' := [(4, .pointer (some ⟨b_9, 0, none⟩)), (6, .pointer (some ⟨b_10, 0, none⟩)), (55, .agg ⟨[.int .i64 0, .int .i64 0, .int .u64 0, .int .u64 0, .int .u64 0, .slice none ([] : List T_api_Step).length 0, .int .i64 0, .bool false, .int .i64 0, .bool false, .int .u64 0, .int .i64 0, .int .u64 0, .int .u64 0]⟩), (56, .agg ⟨[.int .i64 0, .int .i64 0, .int .i64 0, .int .u64 0, .int .u64 0, .int .u64 0, .int .u64 0, .bool false, .slice none ([] : List T_api_Entry).length 0, .string (bs [])]⟩)]) (ps := [b_11 = b_11]) (hk := [5]) (bk := []) (by kernel_rfl) (And.intro rfl trivial) rfl rfl ?_
      refine GoF.fin1 (i := 2) (hint := .b 3) (ps := [b_9 = b_9]) (hk := [5]) (bk := []) (by kernel_rfl) rfl (And.intro rfl trivial) (.inr ⟨rfl, rfl⟩) ?_
      refine GoF.take [3] [.p] (ks := [4, 5, 6, 56]) (fu := 2) (li := [true, true, true, true, false, false]) (env' := [(4, .pointer (some ⟨b_9, 0, none⟩)), (5, .bool false), (6, .pointer (some ⟨b_10, 0, none⟩)), (56, .agg ⟨[.int .i64 0, .int .i64 0, .int .i64 0, .int .u64 0, .int .u64 0, .int .u64 0, .int .u64 0, .bool false, .slice none ([] : List T_api_Entry).length 0, .string (bs [])]⟩)]) (ps := []) (hk := [5]) (bk := []) (by kernel_rfl) trivial rfl rfl ?_
      refine GoF.fin1 (i := 4) (hint := .b 4) (ps := [b_10 = b_10]) (hk := []) (bk := []) (by kernel_rfl) rfl (And.intro rfl trivial) (.inl rfl) ?_
      refine GoF.fin1 (i := 5) (hint := .p) (ps := []) (hk := []) (bk := []) (by kernel_rfl) rfl trivial (.inl rfl) ?_
      refine GoF.done (by kernel_rfl) ?_
      refine GoO.nilRd kT_api_Step ?_
      refine GoO.nilRd kT_api_Entry ?_
      exact GoO.ret' (h := c36_20e) (hs := [3, 4]) (ps := [b_9 = b_9, b_10 = b_10]) (hk := [1]) (bk := [1, 0, 2]) Try.func36 (⟨none, 0, none, 0, A_3, c_4⟩ : Option Addr × Nat × Option Addr × Nat × Option Addr × Nat) (by kernel_rfl) (And.intro rfl (And.intro rfl trivial)) (by kernel_rfl) (by kernel_rfl)
    · refine GoO.skip' c36_21e ?_
      refine GoO.seq' c36_22e ?_
      refine GoO.seq' c36_23e ?_
      refine GoO.region' (is := [0, 1, 2, 3, 4, 5, 6, 7]) c36_24e (by kernel_rfl) ?_
      refine GoO.exec (is := [0, 1, 2, 3]) (hs := [.p, .b 0, .p, .p]) (rest := [4, 5, 6, 7]) (ks := [0, 3, 4, 6, 8, 9, 60]) (env' := [(0, .pointer (some ⟨b_2, 0, none⟩)), (3, .pointer (some ⟨b_8, 0, none⟩)), (4, .pointer (some ⟨b_9, 0, none⟩)), (6, .pointer (some ⟨b_10, 0, none⟩)), (8, .pointer (some ⟨b_11, 0, none⟩)), (9, .pointer (some ⟨b_18, 0, none⟩)), (60, .bool (r_17.1.Err == 30))]) (H' := [⟨44, b_18, [.int .i64 r_17.1.Err, .int .u64 r_17.1.Num, .int .u64 r_17.1.Extra]⟩, ⟨1, b_2, [.int .i64 c_1.id, .int .u64 c_1.session, .int .u64 c_1.seq, .int .u64 c_1.call, .bool c_1.busy, .int .i64 c_1.now.Kind, .int .u64 c_1.now.Session, .int .u64 c_1.now.Seq, .int .u64 c_1.now.Saga, .slice A_3 c_1.now.Steps.length c_4, .int .i64 c_1.now.Step, .bool c_1.now.Back, .int .i64 c_1.now.Try, .bool c_1.now.Ok, .int .u64 c_1.now.Now, .string (bs c_1.data), .int .i64 c_1.to_]⟩, ⟨40, b_8, [.int .i64 x_5.Kind, .int .i64 x_5.From, .int .i64 x_5.To, .int .u64 x_5.Term, .int .u64 x_5.Index, .int .u64 x_5.Prev, .int .u64 x_5.Commit, .bool x_5.Ok, .slice A_6 x_5.Entries.length c_7, .string (bs x_5.Data)]⟩, ⟨41, b_9, [.int .i64 0, .int .i64 0, .int .u64 0, .int .u64 0, .int .u64 0, .slice none ([] : List T_api_Step).length 0, .int .i64 0, .bool false, .int .i64 0, .bool false, .int .u64 0, .int .i64 0, .int .u64 0, .int .u64 0]⟩, ⟨42, b_10, [.int .i64 0, .int .i64 0, .int .i64 0, .int .u64 0, .int .u64 0, .int .u64 0, .int .u64 0, .bool false, .slice none ([] : List T_api_Entry).length 0, .string (bs [])]⟩, ⟨43, b_11, [.int .i64 0, .int .i64 0, .int .i64 0, .int .u64 0, .int .u64 0, .int .u64 0, .int .u64 0, .bool false, .slice none ([] : List T_api_Entry).length 0, .string (bs [])]⟩]) (ps := [b_18 = b_18]) (by kernel_rfl) (And.intro rfl trivial) ?_
      refine GoO.bsplit (t := 60) (by kernel_rfl) (fun h20 => ?_) (fun h20 => ?_)
      · refine GoO.exec (is := [4, 5, 6, 7]) (hs := [.p, .p, .p, .p]) (rest := []) (ks := [0, 3, 4, 6, 8, 9, 64]) (env' := [(0, .pointer (some ⟨b_2, 0, none⟩)), (3, .pointer (some ⟨b_8, 0, none⟩)), (4, .pointer (some ⟨b_9, 0, none⟩)), (6, .pointer (some ⟨b_10, 0, none⟩)), (8, .pointer (some ⟨b_11, 0, none⟩)), (9, .pointer (some ⟨b_18, 0, none⟩)), (64, .bool true)]) (H' := [⟨44, b_18, [.int .i64 r_17.1.Err, .int .u64 r_17.1.Num, .int .u64 r_17.1.Extra]⟩, ⟨1, b_2, [.int .i64 c_1.id, .int .u64 c_1.session, .int .u64 c_1.seq, .int .u64 c_1.call, .bool c_1.busy, .int .i64 c_1.now.Kind, .int .u64 c_1.now.Session, .int .u64 c_1.now.Seq, .int .u64 c_1.now.Saga, .slice A_3 c_1.now.Steps.length c_4, .int .i64 c_1.now.Step, .bool c_1.now.Back, .int .i64 c_1.now.Try, .bool c_1.now.Ok, .int .u64 c_1.now.Now, .string (bs c_1.data), .int .i64 c_1.to_]⟩, ⟨40, b_8, [.int .i64 x_5.Kind, .int .i64 x_5.From, .int .i64 x_5.To, .int .u64 x_5.Term, .int .u64 x_5.Index, .int .u64 x_5.Prev, .int .u64 x_5.Commit, .bool x_5.Ok, .slice A_6 x_5.Entries.length c_7, .string (bs x_5.Data)]⟩, ⟨41, b_9, [.int .i64 0, .int .i64 0, .int .u64 0, .int .u64 0, .int .u64 0, .slice none ([] : List T_api_Step).length 0, .int .i64 0, .bool false, .int .i64 0, .bool false, .int .u64 0, .int .i64 0, .int .u64 0, .int .u64 0]⟩, ⟨42, b_10, [.int .i64 0, .int .i64 0, .int .i64 0, .int .u64 0, .int .u64 0, .int .u64 0, .int .u64 0, .bool false, .slice none ([] : List T_api_Entry).length 0, .string (bs [])]⟩, ⟨43, b_11, [.int .i64 0, .int .i64 0, .int .i64 0, .int .u64 0, .int .u64 0, .int .u64 0, .int .u64 0, .bool false, .slice none ([] : List T_api_Entry).length 0, .string (bs [])]⟩]) (ps := []) (by kernel_rfl) trivial ?_
        refine GoO.regionEnd ?_
        exact GoO.sub (ks := [0, 3, 4, 6, 8, 9, 64]) (hk := [1, 2, 3, 4, 5, 0]) (bk := [0, 1]) (by kernel_rfl) (by kernel_rfl) (by kernel_rfl) (client_Client_Hear_j1_ok n c_1 x_5 r_17 b_2 A_3 c_4 A_6 c_7 b_8 b_9 b_10 b_11 b_18 w0 S0 true)
      · refine GoO.exec (is := [4, 5, 6, 7]) (hs := [.p, .b 0, .p, .p]) (rest := []) (ks := [0, 3, 4, 6, 8, 9, 64]) (env' := [(0, .pointer (some ⟨b_2, 0, none⟩)), (3, .pointer (some ⟨b_8, 0, none⟩)), (4, .pointer (some ⟨b_9, 0, none⟩)), (6, .pointer (some ⟨b_10, 0, none⟩)), (8, .pointer (some ⟨b_11, 0, none⟩)), (9, .pointer (some ⟨b_18, 0, none⟩)), (64, .bool (r_17.1.Err == 31))]) (H' := [⟨44, b_18, [.int .i64 r_17.1.Err, .int .u64 r_17.1.Num, .int .u64 r_17.1.Extra]⟩, ⟨1, b_2, [.int .i64 c_1.id, .int .u64 c_1.session, .int .u64 c_1.seq, .int .u64 c_1.call, .bool c_1.busy, .int .i64 c_1.now.Kind, .int .u64 c_1.now.Session, .int .u64 c_1.now.Seq, .int .u64 c_1.now.Saga, .slice A_3 c_1.now.Steps.length c_4, .int .i64 c_1.now.Step, .bool c_1.now.Back, .int .i64 c_1.now.Try, .bool c_1.now.Ok, .int .u64 c_1.now.Now, .string (bs c_1.data), .int .i64 c_1.to_]⟩, ⟨40, b_8, [.int .i64 x_5.Kind, .int .i64 x_5.From, .int .i64 x_5.To, .int .u64 x_5.Term, .int .u64 x_5.Index, .int .u64 x_5.Prev, .int .u64 x_5.Commit, .bool x_5.Ok, .slice A_6 x_5.Entries.length c_7, .string (bs x_5.Data)]⟩, ⟨41, b_9, [.int .i64 0, .int .i64 0, .int .u64 0, .int .u64 0, .int .u64 0, .slice none ([] : List T_api_Step).length 0, .int .i64 0, .bool false, .int .i64 0, .bool false, .int .u64 0, .int .i64 0, .int .u64 0, .int .u64 0]⟩, ⟨42, b_10, [.int .i64 0, .int .i64 0, .int .i64 0, .int .u64 0, .int .u64 0, .int .u64 0, .int .u64 0, .bool false, .slice none ([] : List T_api_Entry).length 0, .string (bs [])]⟩, ⟨43, b_11, [.int .i64 0, .int .i64 0, .int .i64 0, .int .u64 0, .int .u64 0, .int .u64 0, .int .u64 0, .bool false, .slice none ([] : List T_api_Entry).length 0, .string (bs [])]⟩]) (ps := [b_18 = b_18]) (by kernel_rfl) (And.intro rfl trivial) ?_
        refine GoO.regionEnd ?_
        exact GoO.sub (ks := [0, 3, 4, 6, 8, 9, 64]) (hk := [1, 2, 3, 4, 5, 0]) (bk := [0, 1]) (by kernel_rfl) (by kernel_rfl) (by kernel_rfl) (client_Client_Hear_j1_ok n c_1 x_5 r_17 b_2 A_3 c_4 A_6 c_7 b_8 b_9 b_10 b_11 b_18 w0 S0 (r_17.1.Err == 31))
theorem client_Client_Hear_ok (n : Nat) (c_1 : T_client_Client) (x_5 : T_api_Letter) (b_2 : Nat) (A_3 : Option Addr) (c_4 : Nat) (A_6 : Option Addr) (c_7 : Nat) :
    Meets Try.prog 36 [.pointer (some ⟨b_2, 0, none⟩), .agg ⟨[.int .i64 x_5.Kind, .int .i64 x_5.From, .int .i64 x_5.To, .int .u64 x_5.Term, .int .u64 x_5.Index, .int .u64 x_5.Prev, .int .u64 x_5.Commit, .bool x_5.Ok, .slice A_6 x_5.Entries.length c_7, .string (bs x_5.Data)]⟩] 1 [1] [⟨1, b_2, [.int .i64 c_1.id, .int .u64 c_1.session, .int .u64 c_1.seq, .int .u64 c_1.call, .bool c_1.busy, .int .i64 c_1.now.Kind, .int .u64 c_1.now.Session, .int .u64 c_1.now.Seq, .int .u64 c_1.now.Saga, .slice A_3 c_1.now.Steps.length c_4, .int .i64 c_1.now.Step, .bool c_1.now.Back, .int .i64 c_1.now.Try, .bool c_1.now.Ok, .int .u64 c_1.now.Now, .string (bs c_1.data), .int .i64 c_1.to_]⟩] [Rd 0 kT_api_Step A_3 c_4 c_1.now.Steps, Rd 0 kT_api_Entry A_6 c_7 x_5.Entries] (client_Client_Hear.f n c_1 x_5) (client_Client_Hear.R b_2 A_3 c_4 A_6 c_7) := by
  refine Meets.of (c := c36_0) (n := 145) Try.func36 (by kernel_rfl) (by kernel_rfl) (by kernel_rfl) fun w0 S0 => ?_
  unfold client_Client_Hear.f
  show GoO (client_Client_Hear.cx b_2 A_3 c_4 A_6 c_7 w0 S0) [(0, .pointer (some ⟨b_2, 0, none⟩)), (1, .agg ⟨[.int .i64 x_5.Kind, .int .i64 x_5.From, .int .i64 x_5.To, .int .u64 x_5.Term, .int .u64 x_5.Index, .int .u64 x_5.Prev, .int .u64 x_5.Commit, .bool x_5.Ok, .slice A_6 x_5.Entries.length c_7, .string (bs x_5.Data)]⟩)] [⟨1, b_2, [.int .i64 c_1.id, .int .u64 c_1.session, .int .u64 c_1.seq, .int .u64 c_1.call, .bool c_1.busy, .int .i64 c_1.now.Kind, .int .u64 c_1.now.Session, .int .u64 c_1.now.Seq, .int .u64 c_1.now.Saga, .slice A_3 c_1.now.Steps.length c_4, .int .i64 c_1.now.Step, .bool c_1.now.Back, .int .i64 c_1.now.Try, .bool c_1.now.Ok, .int .u64 c_1.now.Now, .string (bs c_1.data), .int .i64 c_1.to_]⟩] [Rd 0 kT_api_Step A_3 c_4 c_1.now.Steps, Rd 0 kT_api_Entry A_6 c_7 x_5.Entries] [.code c36_0] _
  refine GoO.seq' c36_0e ?_
  refine GoO.region' (is := [0, 1, 2, 3, 4]) c36_1e (by kernel_rfl) ?_
  refine OpTo.go (GoO.new rfl 40 (cs := [.int .i64 x_5.Kind, .int .i64 x_5.From, .int .i64 x_5.To, .int .u64 x_5.Term, .int .u64 x_5.Index, .int .u64 x_5.Prev, .int .u64 x_5.Commit, .bool x_5.Ok, .slice A_6 x_5.Entries.length c_7, .string (bs x_5.Data)]) (by kernel_rfl) _ (fun _ => rfl) (fun b_8 => ?_))
  refine OpTo.go (GoO.new rfl 41 (cs := [.int .i64 0, .int .i64 0, .int .u64 0, .int .u64 0, .int .u64 0, .slice none ([] : List T_api_Step).length 0, .int .i64 0, .bool false, .int .i64 0, .bool false, .int .u64 0, .int .i64 0, .int .u64 0, .int .u64 0]) (by kernel_rfl) _ (fun _ => rfl) (fun b_9 => ?_))
  refine GoO.exec (is := [2]) (hs := [.p]) (rest := [3, 4]) (ks := [0, 3, 4]) (env' := [(0, .pointer (some ⟨b_2, 0, none⟩)), (3, .pointer (some ⟨b_8, 0, none⟩)), (4, .pointer (some ⟨b_9, 0, none⟩))]) (H' := [⟨41, b_9, [.int .i64 0, .int .i64 0, .int .u64 0, .int .u64 0, .int .u64 0, .slice none ([] : List T_api_Step).length 0, .int .i64 0, .bool false, .int .i64 0, .bool false, .int .u64 0, .int .i64 0, .int .u64 0, .int .u64 0]⟩, ⟨40, b_8, [.int .i64 x_5.Kind, .int .i64 x_5.From, .int .i64 x_5.To, .int .u64 x_5.Term, .int .u64 x_5.Index, .int .u64 x_5.Prev, .int .u64 x_5.Commit, .bool x_5.Ok, .slice A_6 x_5.Entries.length c_7, .string (bs x_5.Data)]⟩, ⟨1, b_2, [.int .i64 c_1.id, .int .u64 c_1.session, .int .u64 c_1.seq, .int .u64 c_1.call, .bool c_1.busy, .int .i64 c_1.now.Kind, .int .u64 c_1.now.Session, .int .u64 c_1.now.Seq, .int .u64 c_1.now.Saga, .slice A_3 c_1.now.Steps.length c_4, .int .i64 c_1.now.Step, .bool c_1.now.Back, .int .i64 c_1.now.Try, .bool c_1.now.Ok, .int .u64 c_1.now.Now, .string (bs c_1.data), .int .i64 c_1.to_]⟩]) (ps := []) (by kernel_rfl) trivial ?_
  refine OpTo.go (GoO.new rfl 42 (cs := [.int .i64 0, .int .i64 0, .int .i64 0, .int .u64 0, .int .u64 0, .int .u64 0, .int .u64 0, .bool false, .slice none ([] : List T_api_Entry).length 0, .string (bs [])]) (by kernel_rfl) _ (fun _ => rfl) (fun b_10 => ?_))
  refine GoO.exec (is := [4]) (hs := [.p]) (rest := []) (ks := [0, 3, 4, 6]) (env' := [(0, .pointer (some ⟨b_2, 0, none⟩)), (3, .pointer (some ⟨b_8, 0, none⟩)), (4, .pointer (some ⟨b_9, 0, none⟩)), (6, .pointer (some ⟨b_10, 0, none⟩))]) (H' := [⟨42, b_10, [.int .i64 0, .int .i64 0, .int .i64 0, .int .u64 0, .int .u64 0, .int .u64 0, .int .u64 0, .bool false, .slice none ([] : List T_api_Entry).length 0, .string (bs [])]⟩, ⟨41, b_9, [.int .i64 0, .int .i64 0, .int .u64 0, .int .u64 0, .int .u64 0, .slice none ([] : List T_api_Step).length 0, .int .i64 0, .bool false, .int .i64 0, .bool false, .int .u64 0, .int .i64 0, .int .u64 0, .int .u64 0]⟩, ⟨40, b_8, [.int .i64 x_5.Kind, .int .i64 x_5.From, .int .i64 x_5.To, .int .u64 x_5.Term, .int .u64 x_5.Index, .int .u64 x_5.Prev, .int .u64 x_5.Commit, .bool x_5.Ok, .slice A_6 x_5.Entries.length c_7, .string (bs x_5.Data)]⟩, ⟨1, b_2, [.int .i64 c_1.id, .int .u64 c_1.session, .int .u64 c_1.seq, .int .u64 c_1.call, .bool c_1.busy, .int .i64 c_1.now.Kind, .int .u64 c_1.now.Session, .int .u64 c_1.now.Seq, .int .u64 c_1.now.Saga, .slice A_3 c_1.now.Steps.length c_4, .int .i64 c_1.now.Step, .bool c_1.now.Back, .int .i64 c_1.now.Try, .bool c_1.now.Ok, .int .u64 c_1.now.Now, .string (bs c_1.data), .int .i64 c_1.to_]⟩]) (ps := []) (by kernel_rfl) trivial ?_
  refine GoO.regionEnd ?_
  refine GoO.seq' c36_2e ?_
  refine GoO.region' (is := [0, 1, 2]) c36_3e (by kernel_rfl) ?_
  refine GoO.exec (is := [0]) (hs := [.p]) (rest := [1, 2]) (ks := [0, 3, 4, 6, 11]) (env' := [(0, .pointer (some ⟨b_2, 0, none⟩)), (3, .pointer (some ⟨b_8, 0, none⟩)), (4, .pointer (some ⟨b_9, 0, none⟩)), (6, .pointer (some ⟨b_10, 0, none⟩)), (11, .agg ⟨[.int .i64 0, .int .i64 0, .int .i64 0, .int .u64 0, .int .u64 0, .int .u64 0, .int .u64 0, .bool false, .slice none ([] : List T_api_Entry).length 0, .string (bs [])]⟩)]) (H' := [⟨42, b_10, [.int .i64 0, .int .i64 0, .int .i64 0, .int .u64 0, .int .u64 0, .int .u64 0, .int .u64 0, .bool false, .slice none ([] : List T_api_Entry).length 0, .string (bs [])]⟩, ⟨41, b_9, [.int .i64 0, .int .i64 0, .int .u64 0, .int .u64 0, .int .u64 0, .slice none ([] : List T_api_Step).length 0, .int .i64 0, .bool false, .int .i64 0, .bool false, .int .u64 0, .int .i64 0, .int .u64 0, .int .u64 0]⟩, ⟨40, b_8, [.int .i64 x_5.Kind, .int .i64 x_5.From, .int .i64 x_5.To, .int .u64 x_5.Term, .int .u64 x_5.Index, .int .u64 x_5.Prev, .int .u64 x_5.Commit, .bool x_5.Ok, .slice A_6 x_5.Entries.length c_7, .string (bs x_5.Data)]⟩, ⟨1, b_2, [.int .i64 c_1.id, .int .u64 c_1.session, .int .u64 c_1.seq, .int .u64 c_1.call, .bool c_1.busy, .int .i64 c_1.now.Kind, .int .u64 c_1.now.Session, .int .u64 c_1.now.Seq, .int .u64 c_1.now.Saga, .slice A_3 c_1.now.Steps.length c_4, .int .i64 c_1.now.Step, .bool c_1.now.Back, .int .i64 c_1.now.Try, .bool c_1.now.Ok, .int .u64 c_1.now.Now, .string (bs c_1.data), .int .i64 c_1.to_]⟩]) (ps := []) (by kernel_rfl) trivial ?_
  refine OpTo.go (GoO.new rfl 43 (cs := [.int .i64 0, .int .i64 0, .int .i64 0, .int .u64 0, .int .u64 0, .int .u64 0, .int .u64 0, .bool false, .slice none ([] : List T_api_Entry).length 0, .string (bs [])]) (by kernel_rfl) _ (fun _ => rfl) (fun b_11 => ?_))
  refine GoO.exec (is := [2]) (hs := [.b 0]) (rest := []) (ks := [0, 3, 4, 6, 8]) (env' := [(0, .pointer (some ⟨b_2, 0, none⟩)), (3, .pointer (some ⟨b_8, 0, none⟩)), (4, .pointer (some ⟨b_9, 0, none⟩)), (6, .pointer (some ⟨b_10, 0, none⟩)), (8, .pointer (some ⟨b_11, 0, none⟩))]) (H' := [⟨43, b_11, [.int .i64 0, .int .i64 0, .int .i64 0, .int .u64 0, .int .u64 0, .int .u64 0, .int .u64 0, .bool false, .slice none ([] : List T_api_Entry).length 0, .string (bs [])]⟩, ⟨42, b_10, [.int .i64 0, .int .i64 0, .int .i64 0, .int .u64 0, .int .u64 0, .int .u64 0, .int .u64 0, .bool false, .slice none ([] : List T_api_Entry).length 0, .string (bs [])]⟩, ⟨41, b_9, [.int .i64 0, .int .i64 0, .int .u64 0, .int .u64 0, .int .u64 0, .slice none ([] : List T_api_Step).length 0, .int .i64 0, .bool false, .int .i64 0, .bool false, .int .u64 0, .int .i64 0, .int .u64 0, .int .u64 0]⟩, ⟨40, b_8, [.int .i64 x_5.Kind, .int .i64 x_5.From, .int .i64 x_5.To, .int .u64 x_5.Term, .int .u64 x_5.Index, .int .u64 x_5.Prev, .int .u64 x_5.Commit, .bool x_5.Ok, .slice A_6 x_5.Entries.length c_7, .string (bs x_5.Data)]⟩, ⟨1, b_2, [.int .i64 c_1.id, .int .u64 c_1.session, .int .u64 c_1.seq, .int .u64 c_1.call, .bool c_1.busy, .int .i64 c_1.now.Kind, .int .u64 c_1.now.Session, .int .u64 c_1.now.Seq, .int .u64 c_1.now.Saga, .slice A_3 c_1.now.Steps.length c_4, .int .i64 c_1.now.Step, .bool c_1.now.Back, .int .i64 c_1.now.Try, .bool c_1.now.Ok, .int .u64 c_1.now.Now, .string (bs c_1.data), .int .i64 c_1.to_]⟩]) (ps := [b_11 = b_11]) (by kernel_rfl) (And.intro rfl trivial) ?_
  refine GoO.regionEnd ?_
  refine GoO.seq' c36_4e ?_
  refine GoO.seq' c36_5e ?_
  refine GoO.draw c36_6e (by kernel_rfl) [] [⟨40, b_8, [.int .i64 x_5.Kind, .int .i64 x_5.From, .int .i64 x_5.To, .int .u64 x_5.Term, .int .u64 x_5.Index, .int .u64 x_5.Prev, .int .u64 x_5.Commit, .bool x_5.Ok, .slice A_6 x_5.Entries.length c_7, .string (bs x_5.Data)]⟩, ⟨1, b_2, [.int .i64 c_1.id, .int .u64 c_1.session, .int .u64 c_1.seq, .int .u64 c_1.call, .bool c_1.busy, .int .i64 c_1.now.Kind, .int .u64 c_1.now.Session, .int .u64 c_1.now.Seq, .int .u64 c_1.now.Saga, .slice A_3 c_1.now.Steps.length c_4, .int .i64 c_1.now.Step, .bool c_1.now.Back, .int .i64 c_1.now.Try, .bool c_1.now.Ok, .int .u64 c_1.now.Now, .string (bs c_1.data), .int .i64 c_1.to_]⟩] [] (n := 33) (by kernel_rfl) ?_
  simp only [List.replicate]
  refine GoF.take [0, 1, 2, 3, 4, 5, 6, 7, 8, 9] [.p, .p, .p, .p, .p, .p, .b 1, .p, .p, .p] (ks := [0, 3, 4, 6, 8, 21]) (fu := 23) (li := [true, true, true, true, true, true, true, true, true, true, false, false, false, false, false, false, false, false, false, false, false, false, false, false, false, false, false, false, false, false, false, false, false]) (env' := [(0, .pointer (some ⟨b_2, 0, none⟩)), (3, .pointer (some ⟨b_8, 0, none⟩)), (4, .pointer (some ⟨b_9, 0, none⟩)), (6, .pointer (some ⟨b_10, 0, none⟩)), (8, .pointer (some ⟨b_11, 0, none⟩)), (21, .bool (!c_1.busy))]) (ps := [b_2 = b_2]) (hk := [3, 4]) (bk := []) (by kernel_rfl) (And.intro rfl trivial) rfl rfl ?_
  refine GoF.bsplit (t := 21) (by kernel_rfl) (fun h12 => ?_) (fun h12 => ?_)
  · refine GoF.take [10, 11, 12, 13, 14, 15, 16, 17, 18, 19, 20, 21, 22, 23, 24, 25, 26, 27, 28, 29, 30, 31, 32] [.p, .p, .p, .p, .p, .p, .p, .p, .p, .p, .p, .p, .p, .p, .p, .p, .p, .p, .p, .p, .p, .p, .p] (ks := [0, 3, 4, 6, 8, 44]) (fu := 0) (li := [true, true, true, true, true, true, true, true, true, true, true, true, true, true, true, true, true, true, true, true, true, true, true, true, true, true, true, true, true, true, true, true, true]) (env' := [(0, .pointer (some ⟨b_2, 0, none⟩)), (3, .pointer (some ⟨b_8, 0, none⟩)), (4, .pointer (some ⟨b_9, 0, none⟩)), (6, .pointer (some ⟨b_10, 0, none⟩)), (8, .pointer (some ⟨b_11, 0, none⟩)), (44, .bool true)]) (ps := []) (hk := [3, 4]) (bk := []) (by kernel_rfl) trivial rfl rfl ?_
    refine GoF.done (by kernel_rfl) ?_
    exact GoO.sub (ks := [0, 3, 4, 6, 8, 44]) (hk := [4, 3, 2, 1, 0]) (bk := [0, 1]) (by kernel_rfl) (by kernel_rfl) (by kernel_rfl) (client_Client_Hear_j0_ok n c_1 x_5 b_2 A_3 c_4 A_6 c_7 b_8 b_9 b_10 b_11 w0 S0 true)
  · refine GoF.take [10, 11, 12, 13, 14] [.p, .b 0, .p, .p, .p] (ks := [0, 3, 4, 6, 8, 26]) (fu := 18) (li := [true, true, true, true, true, true, true, true, true, true, true, true, true, true, true, false, false, false, false, false, false, false, false, false, false, false, false, false, false, false, false, false, false]) (env' := [(0, .pointer (some ⟨b_2, 0, none⟩)), (3, .pointer (some ⟨b_8, 0, none⟩)), (4, .pointer (some ⟨b_9, 0, none⟩)), (6, .pointer (some ⟨b_10, 0, none⟩)), (8, .pointer (some ⟨b_11, 0, none⟩)), (26, .bool (x_5.Kind != 9))]) (ps := [b_8 = b_8]) (hk := [3, 4]) (bk := []) (by kernel_rfl) (And.intro rfl trivial) rfl rfl ?_
    refine GoF.bsplit (t := 26) (by kernel_rfl) (fun h13 => ?_) (fun h13 => ?_)
    · refine GoF.take [15, 16, 17, 18, 19, 20, 21, 22, 23, 24, 25, 26, 27, 28, 29, 30, 31, 32] [.p, .p, .p, .p, .p, .p, .p, .p, .p, .p, .p, .p, .p, .p, .p, .p, .p, .p] (ks := [0, 3, 4, 6, 8, 44]) (fu := 0) (li := [true, true, true, true, true, true, true, true, true, true, true, true, true, true, true, true, true, true, true, true, true, true, true, true, true, true, true, true, true, true, true, true, true]) (env' := [(0, .pointer (some ⟨b_2, 0, none⟩)), (3, .pointer (some ⟨b_8, 0, none⟩)), (4, .pointer (some ⟨b_9, 0, none⟩)), (6, .pointer (some ⟨b_10, 0, none⟩)), (8, .pointer (some ⟨b_11, 0, none⟩)), (44, .bool true)]) (ps := []) (hk := [3, 4]) (bk := []) (by kernel_rfl) trivial rfl rfl ?_
      refine GoF.done (by kernel_rfl) ?_
      exact GoO.sub (ks := [0, 3, 4, 6, 8, 44]) (hk := [4, 3, 2, 1, 0]) (bk := [0, 1]) (by kernel_rfl) (by kernel_rfl) (by kernel_rfl) (client_Client_Hear_j0_ok n c_1 x_5 b_2 A_3 c_4 A_6 c_7 b_8 b_9 b_10 b_11 w0 S0 true)
    · refine GoF.take [15, 16, 17, 18, 19, 20, 21, 22, 23, 24] [.p, .b 0, .p, .p, .p, .b 1, .p, .p, .p, .p] (ks := [0, 3, 4, 6, 8, 36]) (fu := 8) (li := [true, true, true, true, true, true, true, true, true, true, true, true, true, true, true, true, true, true, true, true, true, true, true, true, true, false, false, false, false, false, false, false, false]) (env' := [(0, .pointer (some ⟨b_2, 0, none⟩)), (3, .pointer (some ⟨b_8, 0, none⟩)), (4, .pointer (some ⟨b_9, 0, none⟩)), (6, .pointer (some ⟨b_10, 0, none⟩)), (8, .pointer (some ⟨b_11, 0, none⟩)), (36, .bool (x_5.To != (wi64 (200 + c_1.id))))]) (ps := [b_8 = b_8, b_2 = b_2]) (hk := [3, 4]) (bk := []) (by kernel_rfl) (And.intro rfl (And.intro rfl trivial)) rfl rfl ?_
      refine GoF.bsplit (t := 36) (by kernel_rfl) (fun h14 => ?_) (fun h14 => ?_)
      · refine GoF.take [25, 26, 27, 28, 29, 30, 31, 32] [.p, .p, .p, .p, .p, .p, .p, .p] (ks := [0, 3, 4, 6, 8, 44]) (fu := 0) (li := [true, true, true, true, true, true, true, true, true, true, true, true, true, true, true, true, true, true, true, true, true, true, true, true, true, true, true, true, true, true, true, true, true]) (env' := [(0, .pointer (some ⟨b_2, 0, none⟩)), (3, .pointer (some ⟨b_8, 0, none⟩)), (4, .pointer (some ⟨b_9, 0, none⟩)), (6, .pointer (some ⟨b_10, 0, none⟩)), (8, .pointer (some ⟨b_11, 0, none⟩)), (44, .bool true)]) (ps := []) (hk := [3, 4]) (bk := []) (by kernel_rfl) trivial rfl rfl ?_
        refine GoF.done (by kernel_rfl) ?_
        exact GoO.sub (ks := [0, 3, 4, 6, 8, 44]) (hk := [4, 3, 2, 1, 0]) (bk := [0, 1]) (by kernel_rfl) (by kernel_rfl) (by kernel_rfl) (client_Client_Hear_j0_ok n c_1 x_5 b_2 A_3 c_4 A_6 c_7 b_8 b_9 b_10 b_11 w0 S0 true)
      · refine GoF.take [25, 26, 27, 28, 29, 30, 31, 32] [.p, .b 0, .p, .p, .p, .b 1, .p, .p] (ks := [0, 3, 4, 6, 8, 44]) (fu := 0) (li := [true, true, true, true, true, true, true, true, true, true, true, true, true, true, true, true, true, true, true, true, true, true, true, true, true, true, true, true, true, true, true, true, true]) (env' := [(0, .pointer (some ⟨b_2, 0, none⟩)), (3, .pointer (some ⟨b_8, 0, none⟩)), (4, .pointer (some ⟨b_9, 0, none⟩)), (6, .pointer (some ⟨b_10, 0, none⟩)), (8, .pointer (some ⟨b_11, 0, none⟩)), (44, .bool (x_5.Index != c_1.call))]) (ps := [b_8 = b_8, b_2 = b_2]) (hk := [3, 4]) (bk := []) (by kernel_rfl) (And.intro rfl (And.intro rfl trivial)) rfl rfl ?_
        refine GoF.done (by kernel_rfl) ?_
        exact GoO.sub (ks := [0, 3, 4, 6, 8, 44]) (hk := [4, 3, 2, 1, 0]) (bk := [0, 1]) (by kernel_rfl) (by kernel_rfl) (by kernel_rfl) (client_Client_Hear_j0_ok n c_1 x_5 b_2 A_3 c_4 A_6 c_7 b_8 b_9 b_10 b_11 w0 S0 (x_5.Index != c_1.call))

/-! (*tontine/client.Client).Status -/
noncomputable def c39_0 : Code := bodyOf Try.f39
noncomputable def c39_1 : Code := cdL c39_0
noncomputable def c39_2 : Code := cdR c39_0
noncomputable def c39_3 : Code := cdL c39_2
noncomputable def c39_4 : Code := cdL c39_3
noncomputable def c39_5 : Code := cdR c39_3
noncomputable def c39_9 : Code := cdR c39_5
noncomputable def c39_10 : Code := cdR c39_2
noncomputable def c39_11 : Code := cdL c39_10
noncomputable def c39_12 : Code := cdR c39_10
noncomputable def c39_6 : Code := cdL c39_5
noncomputable def r39_1 : Array Oper := cdO c39_1
noncomputable def r39_4 : Array Oper := cdO c39_4
noncomputable def r39_11 : Array Oper := cdO c39_11
theorem c39_0e : c39_0 = .seq c39_1 c39_2 := by kernel_rfl
theorem c39_1e : c39_1 = .region 0 r39_1 false := by kernel_rfl
theorem c39_2e : c39_2 = .seq c39_3 c39_10 := by kernel_rfl
theorem c39_3e : c39_3 = .seq c39_4 c39_5 := by kernel_rfl
theorem c39_4e : c39_4 = .region 1 r39_4 false := by kernel_rfl
theorem c39_5e : c39_5 = .cond (cdC c39_5) c39_6 c39_9 := by kernel_rfl
theorem c39_9e : c39_9 = .skip := by kernel_rfl
theorem c39_10e : c39_10 = .seq c39_11 c39_12 := by kernel_rfl
theorem c39_11e : c39_11 = .region 3 r39_11 true := by kernel_rfl
theorem c39_12e : c39_12 = .ret := by kernel_rfl
noncomputable def client_Client_Status.R (b_2 : Nat) (A_3 : Option Addr) (c_4 : Nat) : Pst (Int × Int × Bool) where
  ε := Unit
  v := fun r x => .tuple ⟨[.int .u64 r.1, .int .u64 r.2.1, .bool r.2.2]⟩
  H := fun r x => []
  B := fun r x => []
noncomputable def client_Client_Status.cx (b_2 : Nat) (A_3 : Option Addr) (c_4 : Nat) (w0 : World) (S0 : Fam) : Cx (Int × Int × Bool) := ⟨Try.prog, 39, Try.f39, 19, w0, S0, [], 1, client_Client_Status.R b_2 A_3 c_4⟩
theorem client_Client_Status_ok (n : Nat) (c_1 : T_client_Client) (b_2 : Nat) (A_3 : Option Addr) (c_4 : Nat) :
    Meets Try.prog 39 [.pointer (some ⟨b_2, 0, none⟩)] 1 [] [⟨1, b_2, [.int .i64 c_1.id, .int .u64 c_1.session, .int .u64 c_1.seq, .int .u64 c_1.call, .bool c_1.busy, .int .i64 c_1.now.Kind, .int .u64 c_1.now.Session, .int .u64 c_1.now.Seq, .int .u64 c_1.now.Saga, .slice A_3 c_1.now.Steps.length c_4, .int .i64 c_1.now.Step, .bool c_1.now.Back, .int .i64 c_1.now.Try, .bool c_1.now.Ok, .int .u64 c_1.now.Now, .string (bs c_1.data), .int .i64 c_1.to_]⟩] [Rd 0 kT_api_Step A_3 c_4 c_1.now.Steps] (client_Client_Status.f n c_1) (client_Client_Status.R b_2 A_3 c_4) := by
  refine Meets.of (c := c39_0) (n := 19) Try.func39 (by kernel_rfl) (by kernel_rfl) (by kernel_rfl) fun w0 S0 => ?_
  unfold client_Client_Status.f
  show GoO (client_Client_Status.cx b_2 A_3 c_4 w0 S0) [(0, .pointer (some ⟨b_2, 0, none⟩))] [⟨1, b_2, [.int .i64 c_1.id, .int .u64 c_1.session, .int .u64 c_1.seq, .int .u64 c_1.call, .bool c_1.busy, .int .i64 c_1.now.Kind, .int .u64 c_1.now.Session, .int .u64 c_1.now.Seq, .int .u64 c_1.now.Saga, .slice A_3 c_1.now.Steps.length c_4, .int .i64 c_1.now.Step, .bool c_1.now.Back, .int .i64 c_1.now.Try, .bool c_1.now.Ok, .int .u64 c_1.now.Now, .string (bs c_1.data), .int .i64 c_1.to_]⟩] [Rd 0 kT_api_Step A_3 c_4 c_1.now.Steps] [.code c39_0] _
  refine GoO.seq' c39_0e ?_
  refine GoO.region' (is := [0, 1, 2]) c39_1e (by kernel_rfl) ?_
  refine GoO.exec (is := [0, 1, 2]) (hs := [.p, .p, .p]) (rest := []) (ks := [0]) (env' := [(0, .pointer (some ⟨b_2, 0, none⟩))]) (H' := [⟨1, b_2, [.int .i64 c_1.id, .int .u64 c_1.session, .int .u64 c_1.seq, .int .u64 c_1.call, .bool c_1.busy, .int .i64 c_1.now.Kind, .int .u64 c_1.now.Session, .int .u64 c_1.now.Seq, .int .u64 c_1.now.Saga, .slice A_3 c_1.now.Steps.length c_4, .int .i64 c_1.now.Step, .bool c_1.now.Back, .int .i64 c_1.now.Try, .bool c_1.now.Ok, .int .u64 c_1.now.Now, .string (bs c_1.data), .int .i64 c_1.to_]⟩]) (ps := []) (by kernel_rfl) trivial ?_
  refine GoO.regionEnd ?_
  refine GoO.seq' c39_2e ?_
  refine GoO.seq' c39_3e ?_
  refine GoO.region' (is := [0, 1]) c39_4e (by kernel_rfl) ?_
  refine GoO.exec (is := [0, 1]) (hs := [.p, .p]) (rest := []) (ks := [0, 6]) (env' := [(0, .pointer (some ⟨b_2, 0, none⟩)), (6, .bool false)]) (H' := [⟨1, b_2, [.int .i64 c_1.id, .int .u64 c_1.session, .int .u64 c_1.seq, .int .u64 c_1.call, .bool c_1.busy, .int .i64 c_1.now.Kind, .int .u64 c_1.now.Session, .int .u64 c_1.now.Seq, .int .u64 c_1.now.Saga, .slice A_3 c_1.now.Steps.length c_4, .int .i64 c_1.now.Step, .bool c_1.now.Back, .int .i64 c_1.now.Try, .bool c_1.now.Ok, .int .u64 c_1.now.Now, .string (bs c_1.data), .int .i64 c_1.to_]⟩]) (ps := []) (by kernel_rfl) trivial ?_
  refine GoO.regionEnd ?_
  refine GoO.condF c39_5e (by kernel_rfl) ?_
  refine GoO.skip' c39_9e ?_
  refine GoO.seq' c39_10e ?_
  refine GoO.draw c39_11e (by kernel_rfl) [14] [⟨1, b_2, [.int .i64 c_1.id, .int .u64 c_1.session, .int .u64 c_1.seq, .int .u64 c_1.call, .bool c_1.busy, .int .i64 c_1.now.Kind, .int .u64 c_1.now.Session, .int .u64 c_1.now.Seq, .int .u64 c_1.now.Saga, .slice A_3 c_1.now.Steps.length c_4, .int .i64 c_1.now.Step, .bool c_1.now.Back, .int .i64 c_1.now.Try, .bool c_1.now.Ok, .int .u64 c_1.now.Now, .string (bs c_1.data), .int .i64 c_1.to_]⟩] [] (n := 15) (by kernel_rfl) ?_
  simp only [List.replicate]
  refine GoF.take [0, 1, 2, 3, 4, 5, 6, 7, 8, 9, 10, 11, 12, 13] [.p, .p, .p, .b 0, .p, .p, .p, .b 0, .p, .p, .p, .b 0, .p, .p] (ks := [2, 3, 18]) (fu := 1) (li := [true, true, true, true, true, true, true, true, true, true, true, true, true, true, false]) (env' := [(2, .int .u64 c_1.session), (3, .int .u64 c_1.seq), (18, .bool c_1.busy)]) (ps := [b_2 = b_2, b_2 = b_2, b_2 = b_2]) (hk := [0]) (bk := []) (by kernel_rfl) (And.intro rfl (And.intro rfl (And.intro rfl trivial))) rfl rfl ?_
  refine GoF.fin1 (i := 14) (hint := .p) (ps := []) (hk := []) (bk := []) (by kernel_rfl) rfl trivial (.inl rfl) ?_
  refine GoF.done (by kernel_rfl) ?_
  exact GoO.ret' (h := c39_12e) (hs := []) (ps := []) (hk := []) (bk := []) Try.func39 () (by kernel_rfl) trivial (by kernel_rfl) (by kernel_rfl)

/-! tontine/tontinelaw21.begun -/
noncomputable def c30_0 : Code := bodyOf Try.f30
noncomputable def c30_1 : Code := cdL c30_0
noncomputable def c30_2 : Code := cdR c30_0
noncomputable def c30_3 : Code := cdL c30_2
noncomputable def c30_4 : Code := cdR c30_2
noncomputable def c30_5 : Code := cdL c30_4
noncomputable def c30_6 : Code := cdR c30_4
noncomputable def c30_7 : Code := cdL c30_6
noncomputable def c30_8 : Code := cdR c30_6
noncomputable def c30_9 : Code := cdL c30_8
noncomputable def c30_10 : Code := cdR c30_8
noncomputable def c30_11 : Code := cdL c30_10
noncomputable def c30_12 : Code := cdR c30_10
noncomputable def r30_1 : Array Oper := cdO c30_1
noncomputable def r30_3 : Array Oper := cdO c30_3
noncomputable def r30_5 : Array Oper := cdO c30_5
noncomputable def r30_7 : Array Oper := cdO c30_7
noncomputable def r30_9 : Array Oper := cdO c30_9
noncomputable def r30_11 : Array Oper := cdO c30_11
theorem c30_0e : c30_0 = .seq c30_1 c30_2 := by kernel_rfl
theorem c30_1e : c30_1 = .region 0 r30_1 false := by kernel_rfl
theorem c30_2e : c30_2 = .seq c30_3 c30_4 := by kernel_rfl
theorem c30_3e : c30_3 = .region 1 r30_3 false := by kernel_rfl
theorem c30_4e : c30_4 = .seq c30_5 c30_6 := by kernel_rfl
theorem c30_5e : c30_5 = .region 2 r30_5 false := by kernel_rfl
theorem c30_6e : c30_6 = .seq c30_7 c30_8 := by kernel_rfl
theorem c30_7e : c30_7 = .region 3 r30_7 false := by kernel_rfl
theorem c30_8e : c30_8 = .seq c30_9 c30_10 := by kernel_rfl
theorem c30_9e : c30_9 = .region 4 r30_9 false := by kernel_rfl
theorem c30_10e : c30_10 = .seq c30_11 c30_12 := by kernel_rfl
theorem c30_11e : c30_11 = .region 5 r30_11 false := by kernel_rfl
theorem c30_12e : c30_12 = .ret := by kernel_rfl
noncomputable def tontinelaw21_begun.R : Pst Bool where
  ε := Unit
  v := fun r x => .bool r
  H := fun r x => []
  B := fun r x => []
noncomputable def tontinelaw21_begun.cx (w0 : World) (S0 : Fam) : Cx Bool := ⟨Try.prog, 30, Try.f30, 79, w0, S0, [], 0, tontinelaw21_begun.R⟩
theorem tontinelaw21_begun_j4_ok (n : Nat) (r_13 : T_api_Told × Bool × T_api_Letter × Bool × T_client_Client) (r_22 : Int × Int × Bool) (A_14 : Option Addr) (c_15 : Nat) (b_20 : Nat) (w0 : World) (S0 : Fam) (b_32 : Bool) :
    GoO (tontinelaw21_begun.cx w0 S0) [(5, .pointer (some ⟨b_20, 0, none⟩)), (9, .int .u64 r_22.1), (10, .int .u64 r_22.2.1), (11, .bool r_22.2.2), (60, .bool b_32)] [⟨42, b_20, [.int .i64 r_13.1.Client, .int .i64 r_13.1.Command.Kind, .int .u64 r_13.1.Command.Session, .int .u64 r_13.1.Command.Seq, .int .u64 r_13.1.Command.Saga, .slice A_14 r_13.1.Command.Steps.length c_15, .int .i64 r_13.1.Command.Step, .bool r_13.1.Command.Back, .int .i64 r_13.1.Command.Try, .bool r_13.1.Command.Ok, .int .u64 r_13.1.Command.Now, .int .i64 r_13.1.Reply.Err, .int .u64 r_13.1.Reply.Num, .int .u64 r_13.1.Reply.Extra]⟩] [Rd 0 kT_api_Step A_14 c_15 r_13.1.Command.Steps] [.inRegion r30_11 [23, 24, 25, 26, 27, 28, 29, 30, 31, 32, 33, 34, 35, 36, 37, 38, 39, 40, 41], .code c30_12] (tontinelaw21_begun.j4 n r_13 r_22 b_32) := by
  unfold tontinelaw21_begun.j4
  refine GoO.exec (is := [23]) (hs := [.p]) (rest := [24, 25, 26, 27, 28, 29, 30, 31, 32, 33, 34, 35, 36, 37, 38, 39, 40, 41]) (ks := [5, 9, 10, 11, 61]) (env' := [(5, .pointer (some ⟨b_20, 0, none⟩)), (9, .int .u64 r_22.1), (10, .int .u64 r_22.2.1), (11, .bool r_22.2.2), (61, .bool b_32)]) (H' := [⟨42, b_20, [.int .i64 r_13.1.Client, .int .i64 r_13.1.Command.Kind, .int .u64 r_13.1.Command.Session, .int .u64 r_13.1.Command.Seq, .int .u64 r_13.1.Command.Saga, .slice A_14 r_13.1.Command.Steps.length c_15, .int .i64 r_13.1.Command.Step, .bool r_13.1.Command.Back, .int .i64 r_13.1.Command.Try, .bool r_13.1.Command.Ok, .int .u64 r_13.1.Command.Now, .int .i64 r_13.1.Reply.Err, .int .u64 r_13.1.Reply.Num, .int .u64 r_13.1.Reply.Extra]⟩]) (ps := []) (by kernel_rfl) trivial ?_
  refine GoO.bsplit (t := 61) (by kernel_rfl) (fun h33 => ?_) (fun h33 => ?_)
  · refine GoO.exec (is := [24, 25, 26, 27, 28, 29]) (hs := [.p, .p, .b 0, .p, .p, .p]) (rest := [30, 31, 32, 33, 34, 35, 36, 37, 38, 39, 40, 41]) (ks := [9, 10, 11, 67]) (env' := [(9, .int .u64 r_22.1), (10, .int .u64 r_22.2.1), (11, .bool r_22.2.2), (67, .bool (r_13.1.Reply.Num == 4))]) (H' := [⟨42, b_20, [.int .i64 r_13.1.Client, .int .i64 r_13.1.Command.Kind, .int .u64 r_13.1.Command.Session, .int .u64 r_13.1.Command.Seq, .int .u64 r_13.1.Command.Saga, .slice A_14 r_13.1.Command.Steps.length c_15, .int .i64 r_13.1.Command.Step, .bool r_13.1.Command.Back, .int .i64 r_13.1.Command.Try, .bool r_13.1.Command.Ok, .int .u64 r_13.1.Command.Now, .int .i64 r_13.1.Reply.Err, .int .u64 r_13.1.Reply.Num, .int .u64 r_13.1.Reply.Extra]⟩]) (ps := [b_20 = b_20]) (by kernel_rfl) (And.intro rfl trivial) ?_
    refine GoO.bsplit (t := 67) (by kernel_rfl) (fun h34 => ?_) (fun h34 => ?_)
    · refine GoO.exec (is := [30, 31, 32, 33]) (hs := [.p, .p, .p, .p]) (rest := [34, 35, 36, 37, 38, 39, 40, 41]) (ks := [10, 11, 71]) (env' := [(10, .int .u64 r_22.2.1), (11, .bool r_22.2.2), (71, .bool (r_22.1 == 4))]) (H' := [⟨42, b_20, [.int .i64 r_13.1.Client, .int .i64 r_13.1.Command.Kind, .int .u64 r_13.1.Command.Session, .int .u64 r_13.1.Command.Seq, .int .u64 r_13.1.Command.Saga, .slice A_14 r_13.1.Command.Steps.length c_15, .int .i64 r_13.1.Command.Step, .bool r_13.1.Command.Back, .int .i64 r_13.1.Command.Try, .bool r_13.1.Command.Ok, .int .u64 r_13.1.Command.Now, .int .i64 r_13.1.Reply.Err, .int .u64 r_13.1.Reply.Num, .int .u64 r_13.1.Reply.Extra]⟩]) (ps := []) (by kernel_rfl) trivial ?_
      refine GoO.bsplit (t := 71) (by kernel_rfl) (fun h35 => ?_) (fun h35 => ?_)
      · refine GoO.exec (is := [34, 35, 36, 37]) (hs := [.p, .p, .p, .p]) (rest := [38, 39, 40, 41]) (ks := [11, 75]) (env' := [(11, .bool r_22.2.2), (75, .bool (r_22.2.1 == 0))]) (H' := [⟨42, b_20, [.int .i64 r_13.1.Client, .int .i64 r_13.1.Command.Kind, .int .u64 r_13.1.Command.Session, .int .u64 r_13.1.Command.Seq, .int .u64 r_13.1.Command.Saga, .slice A_14 r_13.1.Command.Steps.length c_15, .int .i64 r_13.1.Command.Step, .bool r_13.1.Command.Back, .int .i64 r_13.1.Command.Try, .bool r_13.1.Command.Ok, .int .u64 r_13.1.Command.Now, .int .i64 r_13.1.Reply.Err, .int .u64 r_13.1.Reply.Num, .int .u64 r_13.1.Reply.Extra]⟩]) (ps := []) (by kernel_rfl) trivial ?_
        refine GoO.bsplit (t := 75) (by kernel_rfl) (fun h36 => ?_) (fun h36 => ?_)
        · refine GoO.exec (is := [38, 39, 40, 41]) (hs := [.p, .p, .p, .p]) (rest := []) (ks := [0]) (env' := [(0, .bool (!r_22.2.2))]) (H' := [⟨42, b_20, [.int .i64 r_13.1.Client, .int .i64 r_13.1.Command.Kind, .int .u64 r_13.1.Command.Session, .int .u64 r_13.1.Command.Seq, .int .u64 r_13.1.Command.Saga, .slice A_14 r_13.1.Command.Steps.length c_15, .int .i64 r_13.1.Command.Step, .bool r_13.1.Command.Back, .int .i64 r_13.1.Command.Try, .bool r_13.1.Command.Ok, .int .u64 r_13.1.Command.Now, .int .i64 r_13.1.Reply.Err, .int .u64 r_13.1.Reply.Num, .int .u64 r_13.1.Reply.Extra]⟩]) (ps := []) (by kernel_rfl) trivial ?_
          refine GoO.regionEnd ?_
          exact GoO.ret' (h := c30_12e) (hs := []) (ps := []) (hk := []) (bk := []) Try.func30 () (by kernel_rfl) trivial (by kernel_rfl) (by kernel_rfl)
        · refine GoO.exec (is := [38, 39, 40, 41]) (hs := [.p, .p, .p, .p]) (rest := []) (ks := [0]) (env' := [(0, .bool false)]) (H' := [⟨42, b_20, [.int .i64 r_13.1.Client, .int .i64 r_13.1.Command.Kind, .int .u64 r_13.1.Command.Session, .int .u64 r_13.1.Command.Seq, .int .u64 r_13.1.Command.Saga, .slice A_14 r_13.1.Command.Steps.length c_15, .int .i64 r_13.1.Command.Step, .bool r_13.1.Command.Back, .int .i64 r_13.1.Command.Try, .bool r_13.1.Command.Ok, .int .u64 r_13.1.Command.Now, .int .i64 r_13.1.Reply.Err, .int .u64 r_13.1.Reply.Num, .int .u64 r_13.1.Reply.Extra]⟩]) (ps := []) (by kernel_rfl) trivial ?_
          refine GoO.regionEnd ?_
          exact GoO.ret' (h := c30_12e) (hs := []) (ps := []) (hk := []) (bk := []) Try.func30 () (by kernel_rfl) trivial (by kernel_rfl) (by kernel_rfl)
      · refine GoO.exec (is := [34, 35, 36, 37, 38, 39, 40, 41]) (hs := [.p, .p, .p, .p, .p, .p, .p, .p]) (rest := []) (ks := [0]) (env' := [(0, .bool false)]) (H' := [⟨42, b_20, [.int .i64 r_13.1.Client, .int .i64 r_13.1.Command.Kind, .int .u64 r_13.1.Command.Session, .int .u64 r_13.1.Command.Seq, .int .u64 r_13.1.Command.Saga, .slice A_14 r_13.1.Command.Steps.length c_15, .int .i64 r_13.1.Command.Step, .bool r_13.1.Command.Back, .int .i64 r_13.1.Command.Try, .bool r_13.1.Command.Ok, .int .u64 r_13.1.Command.Now, .int .i64 r_13.1.Reply.Err, .int .u64 r_13.1.Reply.Num, .int .u64 r_13.1.Reply.Extra]⟩]) (ps := []) (by kernel_rfl) trivial ?_
        refine GoO.regionEnd ?_
        exact GoO.ret' (h := c30_12e) (hs := []) (ps := []) (hk := []) (bk := []) Try.func30 () (by kernel_rfl) trivial (by kernel_rfl) (by kernel_rfl)
    · refine GoO.exec (is := [30, 31, 32, 33, 34, 35, 36, 37, 38, 39, 40, 41]) (hs := [.p, .p, .p, .p, .p, .p, .p, .p, .p, .p, .p, .p]) (rest := []) (ks := [0]) (env' := [(0, .bool false)]) (H' := [⟨42, b_20, [.int .i64 r_13.1.Client, .int .i64 r_13.1.Command.Kind, .int .u64 r_13.1.Command.Session, .int .u64 r_13.1.Command.Seq, .int .u64 r_13.1.Command.Saga, .slice A_14 r_13.1.Command.Steps.length c_15, .int .i64 r_13.1.Command.Step, .bool r_13.1.Command.Back, .int .i64 r_13.1.Command.Try, .bool r_13.1.Command.Ok, .int .u64 r_13.1.Command.Now, .int .i64 r_13.1.Reply.Err, .int .u64 r_13.1.Reply.Num, .int .u64 r_13.1.Reply.Extra]⟩]) (ps := []) (by kernel_rfl) trivial ?_
      refine GoO.regionEnd ?_
      exact GoO.ret' (h := c30_12e) (hs := []) (ps := []) (hk := []) (bk := []) Try.func30 () (by kernel_rfl) trivial (by kernel_rfl) (by kernel_rfl)
  · refine GoO.exec (is := [24, 25, 26, 27, 28, 29, 30, 31, 32, 33, 34, 35, 36, 37, 38, 39, 40, 41]) (hs := [.p, .p, .p, .p, .p, .p, .p, .p, .p, .p, .p, .p, .p, .p, .p, .p, .p, .p]) (rest := []) (ks := [0]) (env' := [(0, .bool false)]) (H' := [⟨42, b_20, [.int .i64 r_13.1.Client, .int .i64 r_13.1.Command.Kind, .int .u64 r_13.1.Command.Session, .int .u64 r_13.1.Command.Seq, .int .u64 r_13.1.Command.Saga, .slice A_14 r_13.1.Command.Steps.length c_15, .int .i64 r_13.1.Command.Step, .bool r_13.1.Command.Back, .int .i64 r_13.1.Command.Try, .bool r_13.1.Command.Ok, .int .u64 r_13.1.Command.Now, .int .i64 r_13.1.Reply.Err, .int .u64 r_13.1.Reply.Num, .int .u64 r_13.1.Reply.Extra]⟩]) (ps := []) (by kernel_rfl) trivial ?_
    refine GoO.regionEnd ?_
    exact GoO.ret' (h := c30_12e) (hs := []) (ps := []) (hk := []) (bk := []) Try.func30 () (by kernel_rfl) trivial (by kernel_rfl) (by kernel_rfl)
theorem tontinelaw21_begun_j3_ok (n : Nat) (r_13 : T_api_Told × Bool × T_api_Letter × Bool × T_client_Client) (r_22 : Int × Int × Bool) (A_14 : Option Addr) (c_15 : Nat) (b_20 : Nat) (w0 : World) (S0 : Fam) (b_30 : Bool) :
    GoO (tontinelaw21_begun.cx w0 S0) [(5, .pointer (some ⟨b_20, 0, none⟩)), (8, .bool r_13.2.2.2.1), (9, .int .u64 r_22.1), (10, .int .u64 r_22.2.1), (11, .bool r_22.2.2), (56, .bool b_30)] [⟨42, b_20, [.int .i64 r_13.1.Client, .int .i64 r_13.1.Command.Kind, .int .u64 r_13.1.Command.Session, .int .u64 r_13.1.Command.Seq, .int .u64 r_13.1.Command.Saga, .slice A_14 r_13.1.Command.Steps.length c_15, .int .i64 r_13.1.Command.Step, .bool r_13.1.Command.Back, .int .i64 r_13.1.Command.Try, .bool r_13.1.Command.Ok, .int .u64 r_13.1.Command.Now, .int .i64 r_13.1.Reply.Err, .int .u64 r_13.1.Reply.Num, .int .u64 r_13.1.Reply.Extra]⟩] [Rd 0 kT_api_Step A_14 c_15 r_13.1.Command.Steps] [.inRegion r30_11 [19, 20, 21, 22, 23, 24, 25, 26, 27, 28, 29, 30, 31, 32, 33, 34, 35, 36, 37, 38, 39, 40, 41], .code c30_12] (tontinelaw21_begun.j3 n r_13 r_22 b_30) := by
  unfold tontinelaw21_begun.j3
  refine GoO.exec (is := [19]) (hs := [.p]) (rest := [20, 21, 22, 23, 24, 25, 26, 27, 28, 29, 30, 31, 32, 33, 34, 35, 36, 37, 38, 39, 40, 41]) (ks := [5, 8, 9, 10, 11, 57]) (env' := [(5, .pointer (some ⟨b_20, 0, none⟩)), (8, .bool r_13.2.2.2.1), (9, .int .u64 r_22.1), (10, .int .u64 r_22.2.1), (11, .bool r_22.2.2), (57, .bool b_30)]) (H' := [⟨42, b_20, [.int .i64 r_13.1.Client, .int .i64 r_13.1.Command.Kind, .int .u64 r_13.1.Command.Session, .int .u64 r_13.1.Command.Seq, .int .u64 r_13.1.Command.Saga, .slice A_14 r_13.1.Command.Steps.length c_15, .int .i64 r_13.1.Command.Step, .bool r_13.1.Command.Back, .int .i64 r_13.1.Command.Try, .bool r_13.1.Command.Ok, .int .u64 r_13.1.Command.Now, .int .i64 r_13.1.Reply.Err, .int .u64 r_13.1.Reply.Num, .int .u64 r_13.1.Reply.Extra]⟩]) (ps := []) (by kernel_rfl) trivial ?_
  refine GoO.bsplit (t := 57) (by kernel_rfl) (fun h31 => ?_) (fun h31 => ?_)
  · refine GoO.exec (is := [20, 21, 22]) (hs := [.p, .p, .p]) (rest := [23, 24, 25, 26, 27, 28, 29, 30, 31, 32, 33, 34, 35, 36, 37, 38, 39, 40, 41]) (ks := [5, 9, 10, 11, 60]) (env' := [(5, .pointer (some ⟨b_20, 0, none⟩)), (9, .int .u64 r_22.1), (10, .int .u64 r_22.2.1), (11, .bool r_22.2.2), (60, .bool (!r_13.2.2.2.1))]) (H' := [⟨42, b_20, [.int .i64 r_13.1.Client, .int .i64 r_13.1.Command.Kind, .int .u64 r_13.1.Command.Session, .int .u64 r_13.1.Command.Seq, .int .u64 r_13.1.Command.Saga, .slice A_14 r_13.1.Command.Steps.length c_15, .int .i64 r_13.1.Command.Step, .bool r_13.1.Command.Back, .int .i64 r_13.1.Command.Try, .bool r_13.1.Command.Ok, .int .u64 r_13.1.Command.Now, .int .i64 r_13.1.Reply.Err, .int .u64 r_13.1.Reply.Num, .int .u64 r_13.1.Reply.Extra]⟩]) (ps := []) (by kernel_rfl) trivial ?_
    exact GoO.sub (ks := [5, 9, 10, 11, 60]) (hk := [0]) (bk := [0]) (by kernel_rfl) (by kernel_rfl) (by kernel_rfl) (tontinelaw21_begun_j4_ok n r_13 r_22 A_14 c_15 b_20 w0 S0 (!r_13.2.2.2.1))
  · refine GoO.exec (is := [20, 21, 22]) (hs := [.p, .p, .p]) (rest := [23, 24, 25, 26, 27, 28, 29, 30, 31, 32, 33, 34, 35, 36, 37, 38, 39, 40, 41]) (ks := [5, 9, 10, 11, 60]) (env' := [(5, .pointer (some ⟨b_20, 0, none⟩)), (9, .int .u64 r_22.1), (10, .int .u64 r_22.2.1), (11, .bool r_22.2.2), (60, .bool false)]) (H' := [⟨42, b_20, [.int .i64 r_13.1.Client, .int .i64 r_13.1.Command.Kind, .int .u64 r_13.1.Command.Session, .int .u64 r_13.1.Command.Seq, .int .u64 r_13.1.Command.Saga, .slice A_14 r_13.1.Command.Steps.length c_15, .int .i64 r_13.1.Command.Step, .bool r_13.1.Command.Back, .int .i64 r_13.1.Command.Try, .bool r_13.1.Command.Ok, .int .u64 r_13.1.Command.Now, .int .i64 r_13.1.Reply.Err, .int .u64 r_13.1.Reply.Num, .int .u64 r_13.1.Reply.Extra]⟩]) (ps := []) (by kernel_rfl) trivial ?_
    exact GoO.sub (ks := [5, 9, 10, 11, 60]) (hk := [0]) (bk := [0]) (by kernel_rfl) (by kernel_rfl) (by kernel_rfl) (tontinelaw21_begun_j4_ok n r_13 r_22 A_14 c_15 b_20 w0 S0 false)
theorem tontinelaw21_begun_j2_ok (n : Nat) (r_13 : T_api_Told × Bool × T_api_Letter × Bool × T_client_Client) (r_22 : Int × Int × Bool) (A_14 : Option Addr) (c_15 : Nat) (b_20 : Nat) (w0 : World) (S0 : Fam) (b_28 : Bool) :
    GoO (tontinelaw21_begun.cx w0 S0) [(5, .pointer (some ⟨b_20, 0, none⟩)), (6, .bool r_13.2.1), (8, .bool r_13.2.2.2.1), (9, .int .u64 r_22.1), (10, .int .u64 r_22.2.1), (11, .bool r_22.2.2), (53, .bool b_28)] [⟨42, b_20, [.int .i64 r_13.1.Client, .int .i64 r_13.1.Command.Kind, .int .u64 r_13.1.Command.Session, .int .u64 r_13.1.Command.Seq, .int .u64 r_13.1.Command.Saga, .slice A_14 r_13.1.Command.Steps.length c_15, .int .i64 r_13.1.Command.Step, .bool r_13.1.Command.Back, .int .i64 r_13.1.Command.Try, .bool r_13.1.Command.Ok, .int .u64 r_13.1.Command.Now, .int .i64 r_13.1.Reply.Err, .int .u64 r_13.1.Reply.Num, .int .u64 r_13.1.Reply.Extra]⟩] [Rd 0 kT_api_Step A_14 c_15 r_13.1.Command.Steps] [.inRegion r30_11 [16, 17, 18, 19, 20, 21, 22, 23, 24, 25, 26, 27, 28, 29, 30, 31, 32, 33, 34, 35, 36, 37, 38, 39, 40, 41], .code c30_12] (tontinelaw21_begun.j2 n r_13 r_22 b_28) := by
  unfold tontinelaw21_begun.j2
  refine GoO.exec (is := [16]) (hs := [.p]) (rest := [17, 18, 19, 20, 21, 22, 23, 24, 25, 26, 27, 28, 29, 30, 31, 32, 33, 34, 35, 36, 37, 38, 39, 40, 41]) (ks := [5, 6, 8, 9, 10, 11, 54]) (env' := [(5, .pointer (some ⟨b_20, 0, none⟩)), (6, .bool r_13.2.1), (8, .bool r_13.2.2.2.1), (9, .int .u64 r_22.1), (10, .int .u64 r_22.2.1), (11, .bool r_22.2.2), (54, .bool b_28)]) (H' := [⟨42, b_20, [.int .i64 r_13.1.Client, .int .i64 r_13.1.Command.Kind, .int .u64 r_13.1.Command.Session, .int .u64 r_13.1.Command.Seq, .int .u64 r_13.1.Command.Saga, .slice A_14 r_13.1.Command.Steps.length c_15, .int .i64 r_13.1.Command.Step, .bool r_13.1.Command.Back, .int .i64 r_13.1.Command.Try, .bool r_13.1.Command.Ok, .int .u64 r_13.1.Command.Now, .int .i64 r_13.1.Reply.Err, .int .u64 r_13.1.Reply.Num, .int .u64 r_13.1.Reply.Extra]⟩]) (ps := []) (by kernel_rfl) trivial ?_
  refine GoO.bsplit (t := 54) (by kernel_rfl) (fun h29 => ?_) (fun h29 => ?_)
  · refine GoO.exec (is := [17, 18]) (hs := [.p, .p]) (rest := [19, 20, 21, 22, 23, 24, 25, 26, 27, 28, 29, 30, 31, 32, 33, 34, 35, 36, 37, 38, 39, 40, 41]) (ks := [5, 8, 9, 10, 11, 56]) (env' := [(5, .pointer (some ⟨b_20, 0, none⟩)), (8, .bool r_13.2.2.2.1), (9, .int .u64 r_22.1), (10, .int .u64 r_22.2.1), (11, .bool r_22.2.2), (56, .bool r_13.2.1)]) (H' := [⟨42, b_20, [.int .i64 r_13.1.Client, .int .i64 r_13.1.Command.Kind, .int .u64 r_13.1.Command.Session, .int .u64 r_13.1.Command.Seq, .int .u64 r_13.1.Command.Saga, .slice A_14 r_13.1.Command.Steps.length c_15, .int .i64 r_13.1.Command.Step, .bool r_13.1.Command.Back, .int .i64 r_13.1.Command.Try, .bool r_13.1.Command.Ok, .int .u64 r_13.1.Command.Now, .int .i64 r_13.1.Reply.Err, .int .u64 r_13.1.Reply.Num, .int .u64 r_13.1.Reply.Extra]⟩]) (ps := []) (by kernel_rfl) trivial ?_
    exact GoO.sub (ks := [5, 8, 9, 10, 11, 56]) (hk := [0]) (bk := [0]) (by kernel_rfl) (by kernel_rfl) (by kernel_rfl) (tontinelaw21_begun_j3_ok n r_13 r_22 A_14 c_15 b_20 w0 S0 r_13.2.1)
  · refine GoO.exec (is := [17, 18]) (hs := [.p, .p]) (rest := [19, 20, 21, 22, 23, 24, 25, 26, 27, 28, 29, 30, 31, 32, 33, 34, 35, 36, 37, 38, 39, 40, 41]) (ks := [5, 8, 9, 10, 11, 56]) (env' := [(5, .pointer (some ⟨b_20, 0, none⟩)), (8, .bool r_13.2.2.2.1), (9, .int .u64 r_22.1), (10, .int .u64 r_22.2.1), (11, .bool r_22.2.2), (56, .bool false)]) (H' := [⟨42, b_20, [.int .i64 r_13.1.Client, .int .i64 r_13.1.Command.Kind, .int .u64 r_13.1.Command.Session, .int .u64 r_13.1.Command.Seq, .int .u64 r_13.1.Command.Saga, .slice A_14 r_13.1.Command.Steps.length c_15, .int .i64 r_13.1.Command.Step, .bool r_13.1.Command.Back, .int .i64 r_13.1.Command.Try, .bool r_13.1.Command.Ok, .int .u64 r_13.1.Command.Now, .int .i64 r_13.1.Reply.Err, .int .u64 r_13.1.Reply.Num, .int .u64 r_13.1.Reply.Extra]⟩]) (ps := []) (by kernel_rfl) trivial ?_
    exact GoO.sub (ks := [5, 8, 9, 10, 11, 56]) (hk := [0]) (bk := [0]) (by kernel_rfl) (by kernel_rfl) (by kernel_rfl) (tontinelaw21_begun_j3_ok n r_13 r_22 A_14 c_15 b_20 w0 S0 false)
theorem tontinelaw21_begun_j1_ok (n : Nat) (r_6 : T_api_Letter × Int × T_client_Client) (r_13 : T_api_Told × Bool × T_api_Letter × Bool × T_client_Client) (r_22 : Int × Int × Bool) (A_7 : Option Addr) (c_8 : Nat) (b_11 : Nat) (A_14 : Option Addr) (c_15 : Nat) (b_20 : Nat) (w0 : World) (S0 : Fam) (b_26 : Bool) :
    GoO (tontinelaw21_begun.cx w0 S0) [(3, .pointer (some ⟨b_11, 0, none⟩)), (5, .pointer (some ⟨b_20, 0, none⟩)), (6, .bool r_13.2.1), (8, .bool r_13.2.2.2.1), (9, .int .u64 r_22.1), (10, .int .u64 r_22.2.1), (11, .bool r_22.2.2), (48, .bool b_26)] [⟨41, b_11, [.int .i64 r_6.1.Kind, .int .i64 r_6.1.From, .int .i64 r_6.1.To, .int .u64 r_6.1.Term, .int .u64 r_6.1.Index, .int .u64 r_6.1.Prev, .int .u64 r_6.1.Commit, .bool r_6.1.Ok, .slice A_7 r_6.1.Entries.length c_8, .string (bs r_6.1.Data)]⟩, ⟨42, b_20, [.int .i64 r_13.1.Client, .int .i64 r_13.1.Command.Kind, .int .u64 r_13.1.Command.Session, .int .u64 r_13.1.Command.Seq, .int .u64 r_13.1.Command.Saga, .slice A_14 r_13.1.Command.Steps.length c_15, .int .i64 r_13.1.Command.Step, .bool r_13.1.Command.Back, .int .i64 r_13.1.Command.Try, .bool r_13.1.Command.Ok, .int .u64 r_13.1.Command.Now, .int .i64 r_13.1.Reply.Err, .int .u64 r_13.1.Reply.Num, .int .u64 r_13.1.Reply.Extra]⟩] [Rd 0 kT_api_Entry A_7 c_8 r_6.1.Entries, Rd 0 kT_api_Step A_14 c_15 r_13.1.Command.Steps] [.inRegion r30_11 [11, 12, 13, 14, 15, 16, 17, 18, 19, 20, 21, 22, 23, 24, 25, 26, 27, 28, 29, 30, 31, 32, 33, 34, 35, 36, 37, 38, 39, 40, 41], .code c30_12] (tontinelaw21_begun.j1 n r_6 r_13 r_22 b_26) := by
  unfold tontinelaw21_begun.j1
  refine GoO.exec (is := [11]) (hs := [.p]) (rest := [12, 13, 14, 15, 16, 17, 18, 19, 20, 21, 22, 23, 24, 25, 26, 27, 28, 29, 30, 31, 32, 33, 34, 35, 36, 37, 38, 39, 40, 41]) (ks := [3, 5, 6, 8, 9, 10, 11, 49]) (env' := [(3, .pointer (some ⟨b_11, 0, none⟩)), (5, .pointer (some ⟨b_20, 0, none⟩)), (6, .bool r_13.2.1), (8, .bool r_13.2.2.2.1), (9, .int .u64 r_22.1), (10, .int .u64 r_22.2.1), (11, .bool r_22.2.2), (49, .bool b_26)]) (H' := [⟨41, b_11, [.int .i64 r_6.1.Kind, .int .i64 r_6.1.From, .int .i64 r_6.1.To, .int .u64 r_6.1.Term, .int .u64 r_6.1.Index, .int .u64 r_6.1.Prev, .int .u64 r_6.1.Commit, .bool r_6.1.Ok, .slice A_7 r_6.1.Entries.length c_8, .string (bs r_6.1.Data)]⟩, ⟨42, b_20, [.int .i64 r_13.1.Client, .int .i64 r_13.1.Command.Kind, .int .u64 r_13.1.Command.Session, .int .u64 r_13.1.Command.Seq, .int .u64 r_13.1.Command.Saga, .slice A_14 r_13.1.Command.Steps.length c_15, .int .i64 r_13.1.Command.Step, .bool r_13.1.Command.Back, .int .i64 r_13.1.Command.Try, .bool r_13.1.Command.Ok, .int .u64 r_13.1.Command.Now, .int .i64 r_13.1.Reply.Err, .int .u64 r_13.1.Reply.Num, .int .u64 r_13.1.Reply.Extra]⟩]) (ps := []) (by kernel_rfl) trivial ?_
  refine GoO.bsplit (t := 49) (by kernel_rfl) (fun h27 => ?_) (fun h27 => ?_)
  · refine GoO.exec (is := [12, 13, 14, 15]) (hs := [.p, .b 0, .p, .p]) (rest := [16, 17, 18, 19, 20, 21, 22, 23, 24, 25, 26, 27, 28, 29, 30, 31, 32, 33, 34, 35, 36, 37, 38, 39, 40, 41]) (ks := [5, 6, 8, 9, 10, 11, 53]) (env' := [(5, .pointer (some ⟨b_20, 0, none⟩)), (6, .bool r_13.2.1), (8, .bool r_13.2.2.2.1), (9, .int .u64 r_22.1), (10, .int .u64 r_22.2.1), (11, .bool r_22.2.2), (53, .bool (r_6.1.Index == 1))]) (H' := [⟨41, b_11, [.int .i64 r_6.1.Kind, .int .i64 r_6.1.From, .int .i64 r_6.1.To, .int .u64 r_6.1.Term, .int .u64 r_6.1.Index, .int .u64 r_6.1.Prev, .int .u64 r_6.1.Commit, .bool r_6.1.Ok, .slice A_7 r_6.1.Entries.length c_8, .string (bs r_6.1.Data)]⟩, ⟨42, b_20, [.int .i64 r_13.1.Client, .int .i64 r_13.1.Command.Kind, .int .u64 r_13.1.Command.Session, .int .u64 r_13.1.Command.Seq, .int .u64 r_13.1.Command.Saga, .slice A_14 r_13.1.Command.Steps.length c_15, .int .i64 r_13.1.Command.Step, .bool r_13.1.Command.Back, .int .i64 r_13.1.Command.Try, .bool r_13.1.Command.Ok, .int .u64 r_13.1.Command.Now, .int .i64 r_13.1.Reply.Err, .int .u64 r_13.1.Reply.Num, .int .u64 r_13.1.Reply.Extra]⟩]) (ps := [b_11 = b_11]) (by kernel_rfl) (And.intro rfl trivial) ?_
    exact GoO.sub (ks := [5, 6, 8, 9, 10, 11, 53]) (hk := [1]) (bk := [1]) (by kernel_rfl) (by kernel_rfl) (by kernel_rfl) (tontinelaw21_begun_j2_ok n r_13 r_22 A_14 c_15 b_20 w0 S0 (r_6.1.Index == 1))
  · refine GoO.exec (is := [12, 13, 14, 15]) (hs := [.p, .p, .p, .p]) (rest := [16, 17, 18, 19, 20, 21, 22, 23, 24, 25, 26, 27, 28, 29, 30, 31, 32, 33, 34, 35, 36, 37, 38, 39, 40, 41]) (ks := [5, 6, 8, 9, 10, 11, 53]) (env' := [(5, .pointer (some ⟨b_20, 0, none⟩)), (6, .bool r_13.2.1), (8, .bool r_13.2.2.2.1), (9, .int .u64 r_22.1), (10, .int .u64 r_22.2.1), (11, .bool r_22.2.2), (53, .bool false)]) (H' := [⟨41, b_11, [.int .i64 r_6.1.Kind, .int .i64 r_6.1.From, .int .i64 r_6.1.To, .int .u64 r_6.1.Term, .int .u64 r_6.1.Index, .int .u64 r_6.1.Prev, .int .u64 r_6.1.Commit, .bool r_6.1.Ok, .slice A_7 r_6.1.Entries.length c_8, .string (bs r_6.1.Data)]⟩, ⟨42, b_20, [.int .i64 r_13.1.Client, .int .i64 r_13.1.Command.Kind, .int .u64 r_13.1.Command.Session, .int .u64 r_13.1.Command.Seq, .int .u64 r_13.1.Command.Saga, .slice A_14 r_13.1.Command.Steps.length c_15, .int .i64 r_13.1.Command.Step, .bool r_13.1.Command.Back, .int .i64 r_13.1.Command.Try, .bool r_13.1.Command.Ok, .int .u64 r_13.1.Command.Now, .int .i64 r_13.1.Reply.Err, .int .u64 r_13.1.Reply.Num, .int .u64 r_13.1.Reply.Extra]⟩]) (ps := []) (by kernel_rfl) trivial ?_
    exact GoO.sub (ks := [5, 6, 8, 9, 10, 11, 53]) (hk := [1]) (bk := [1]) (by kernel_rfl) (by kernel_rfl) (by kernel_rfl) (tontinelaw21_begun_j2_ok n r_13 r_22 A_14 c_15 b_20 w0 S0 false)
theorem tontinelaw21_begun_j0_ok (n : Nat) (r_6 : T_api_Letter × Int × T_client_Client) (r_13 : T_api_Told × Bool × T_api_Letter × Bool × T_client_Client) (r_22 : Int × Int × Bool) (A_7 : Option Addr) (c_8 : Nat) (b_11 : Nat) (A_14 : Option Addr) (c_15 : Nat) (b_20 : Nat) (w0 : World) (S0 : Fam) (b_24 : Bool) :
    GoO (tontinelaw21_begun.cx w0 S0) [(3, .pointer (some ⟨b_11, 0, none⟩)), (5, .pointer (some ⟨b_20, 0, none⟩)), (6, .bool r_13.2.1), (8, .bool r_13.2.2.2.1), (9, .int .u64 r_22.1), (10, .int .u64 r_22.2.1), (11, .bool r_22.2.2), (43, .bool b_24)] [⟨41, b_11, [.int .i64 r_6.1.Kind, .int .i64 r_6.1.From, .int .i64 r_6.1.To, .int .u64 r_6.1.Term, .int .u64 r_6.1.Index, .int .u64 r_6.1.Prev, .int .u64 r_6.1.Commit, .bool r_6.1.Ok, .slice A_7 r_6.1.Entries.length c_8, .string (bs r_6.1.Data)]⟩, ⟨42, b_20, [.int .i64 r_13.1.Client, .int .i64 r_13.1.Command.Kind, .int .u64 r_13.1.Command.Session, .int .u64 r_13.1.Command.Seq, .int .u64 r_13.1.Command.Saga, .slice A_14 r_13.1.Command.Steps.length c_15, .int .i64 r_13.1.Command.Step, .bool r_13.1.Command.Back, .int .i64 r_13.1.Command.Try, .bool r_13.1.Command.Ok, .int .u64 r_13.1.Command.Now, .int .i64 r_13.1.Reply.Err, .int .u64 r_13.1.Reply.Num, .int .u64 r_13.1.Reply.Extra]⟩] [Rd 0 kT_api_Entry A_7 c_8 r_6.1.Entries, Rd 0 kT_api_Step A_14 c_15 r_13.1.Command.Steps] [.inRegion r30_11 [6, 7, 8, 9, 10, 11, 12, 13, 14, 15, 16, 17, 18, 19, 20, 21, 22, 23, 24, 25, 26, 27, 28, 29, 30, 31, 32, 33, 34, 35, 36, 37, 38, 39, 40, 41], .code c30_12] (tontinelaw21_begun.j0 n r_6 r_13 r_22 b_24) := by
  unfold tontinelaw21_begun.j0
  refine GoO.exec (is := [6]) (hs := [.p]) (rest := [7, 8, 9, 10, 11, 12, 13, 14, 15, 16, 17, 18, 19, 20, 21, 22, 23, 24, 25, 26, 27, 28, 29, 30, 31, 32, 33, 34, 35, 36, 37, 38, 39, 40, 41]) (ks := [3, 5, 6, 8, 9, 10, 11, 44]) (env' := [(3, .pointer (some ⟨b_11, 0, none⟩)), (5, .pointer (some ⟨b_20, 0, none⟩)), (6, .bool r_13.2.1), (8, .bool r_13.2.2.2.1), (9, .int .u64 r_22.1), (10, .int .u64 r_22.2.1), (11, .bool r_22.2.2), (44, .bool b_24)]) (H' := [⟨41, b_11, [.int .i64 r_6.1.Kind, .int .i64 r_6.1.From, .int .i64 r_6.1.To, .int .u64 r_6.1.Term, .int .u64 r_6.1.Index, .int .u64 r_6.1.Prev, .int .u64 r_6.1.Commit, .bool r_6.1.Ok, .slice A_7 r_6.1.Entries.length c_8, .string (bs r_6.1.Data)]⟩, ⟨42, b_20, [.int .i64 r_13.1.Client, .int .i64 r_13.1.Command.Kind, .int .u64 r_13.1.Command.Session, .int .u64 r_13.1.Command.Seq, .int .u64 r_13.1.Command.Saga, .slice A_14 r_13.1.Command.Steps.length c_15, .int .i64 r_13.1.Command.Step, .bool r_13.1.Command.Back, .int .i64 r_13.1.Command.Try, .bool r_13.1.Command.Ok, .int .u64 r_13.1.Command.Now, .int .i64 r_13.1.Reply.Err, .int .u64 r_13.1.Reply.Num, .int .u64 r_13.1.Reply.Extra]⟩]) (ps := []) (by kernel_rfl) trivial ?_
  refine GoO.bsplit (t := 44) (by kernel_rfl) (fun h25 => ?_) (fun h25 => ?_)
  · refine GoO.exec (is := [7, 8, 9, 10]) (hs := [.p, .b 0, .p, .p]) (rest := [11, 12, 13, 14, 15, 16, 17, 18, 19, 20, 21, 22, 23, 24, 25, 26, 27, 28, 29, 30, 31, 32, 33, 34, 35, 36, 37, 38, 39, 40, 41]) (ks := [3, 5, 6, 8, 9, 10, 11, 48]) (env' := [(3, .pointer (some ⟨b_11, 0, none⟩)), (5, .pointer (some ⟨b_20, 0, none⟩)), (6, .bool r_13.2.1), (8, .bool r_13.2.2.2.1), (9, .int .u64 r_22.1), (10, .int .u64 r_22.2.1), (11, .bool r_22.2.2), (48, .bool (r_6.1.From == 201))]) (H' := [⟨41, b_11, [.int .i64 r_6.1.Kind, .int .i64 r_6.1.From, .int .i64 r_6.1.To, .int .u64 r_6.1.Term, .int .u64 r_6.1.Index, .int .u64 r_6.1.Prev, .int .u64 r_6.1.Commit, .bool r_6.1.Ok, .slice A_7 r_6.1.Entries.length c_8, .string (bs r_6.1.Data)]⟩, ⟨42, b_20, [.int .i64 r_13.1.Client, .int .i64 r_13.1.Command.Kind, .int .u64 r_13.1.Command.Session, .int .u64 r_13.1.Command.Seq, .int .u64 r_13.1.Command.Saga, .slice A_14 r_13.1.Command.Steps.length c_15, .int .i64 r_13.1.Command.Step, .bool r_13.1.Command.Back, .int .i64 r_13.1.Command.Try, .bool r_13.1.Command.Ok, .int .u64 r_13.1.Command.Now, .int .i64 r_13.1.Reply.Err, .int .u64 r_13.1.Reply.Num, .int .u64 r_13.1.Reply.Extra]⟩]) (ps := [b_11 = b_11]) (by kernel_rfl) (And.intro rfl trivial) ?_
    exact GoO.sub (ks := [3, 5, 6, 8, 9, 10, 11, 48]) (hk := [0, 1]) (bk := [0, 1]) (by kernel_rfl) (by kernel_rfl) (by kernel_rfl) (tontinelaw21_begun_j1_ok n r_6 r_13 r_22 A_7 c_8 b_11 A_14 c_15 b_20 w0 S0 (r_6.1.From == 201))
  · refine GoO.exec (is := [7, 8, 9, 10]) (hs := [.p, .p, .p, .p]) (rest := [11, 12, 13, 14, 15, 16, 17, 18, 19, 20, 21, 22, 23, 24, 25, 26, 27, 28, 29, 30, 31, 32, 33, 34, 35, 36, 37, 38, 39, 40, 41]) (ks := [3, 5, 6, 8, 9, 10, 11, 48]) (env' := [(3, .pointer (some ⟨b_11, 0, none⟩)), (5, .pointer (some ⟨b_20, 0, none⟩)), (6, .bool r_13.2.1), (8, .bool r_13.2.2.2.1), (9, .int .u64 r_22.1), (10, .int .u64 r_22.2.1), (11, .bool r_22.2.2), (48, .bool false)]) (H' := [⟨41, b_11, [.int .i64 r_6.1.Kind, .int .i64 r_6.1.From, .int .i64 r_6.1.To, .int .u64 r_6.1.Term, .int .u64 r_6.1.Index, .int .u64 r_6.1.Prev, .int .u64 r_6.1.Commit, .bool r_6.1.Ok, .slice A_7 r_6.1.Entries.length c_8, .string (bs r_6.1.Data)]⟩, ⟨42, b_20, [.int .i64 r_13.1.Client, .int .i64 r_13.1.Command.Kind, .int .u64 r_13.1.Command.Session, .int .u64 r_13.1.Command.Seq, .int .u64 r_13.1.Command.Saga, .slice A_14 r_13.1.Command.Steps.length c_15, .int .i64 r_13.1.Command.Step, .bool r_13.1.Command.Back, .int .i64 r_13.1.Command.Try, .bool r_13.1.Command.Ok, .int .u64 r_13.1.Command.Now, .int .i64 r_13.1.Reply.Err, .int .u64 r_13.1.Reply.Num, .int .u64 r_13.1.Reply.Extra]⟩]) (ps := []) (by kernel_rfl) trivial ?_
    exact GoO.sub (ks := [3, 5, 6, 8, 9, 10, 11, 48]) (hk := [0, 1]) (bk := [0, 1]) (by kernel_rfl) (by kernel_rfl) (by kernel_rfl) (tontinelaw21_begun_j1_ok n r_6 r_13 r_22 A_7 c_8 b_11 A_14 c_15 b_20 w0 S0 false)
theorem tontinelaw21_begun_ok (n : Nat) :
    Meets Try.prog 30 [] 0 [] [] [] (tontinelaw21_begun.f n) (tontinelaw21_begun.R) := by
  refine Meets.of (c := c30_0) (n := 79) Try.func30 (by kernel_rfl) (by kernel_rfl) (by kernel_rfl) fun w0 S0 => ?_
  unfold tontinelaw21_begun.f
  show GoO (tontinelaw21_begun.cx w0 S0) [] [] [] [.code c30_0] _
  refine GoO.seq' c30_0e ?_
  refine GoO.region' (is := [0]) c30_1e (by kernel_rfl) ?_
  refine GoO.exec (is := [0]) (hs := [.p]) (rest := []) (ks := []) (env' := []) (H' := []) (ps := []) (by kernel_rfl) trivial ?_
  refine GoO.regionEnd ?_
  refine GoO.seq' c30_2e ?_
  refine GoO.region' (is := [0, 1, 2, 3, 4, 5]) c30_3e (by kernel_rfl) ?_
  refine OpTo.go (GoO.call rfl (by kernel_rfl) (by kernel_rfl) (client_New_ok n 1) [[0]] [(40, 1)] [] [] (hks := []) (bks := []) (by kernel_rfl) (by kernel_rfl) (by kernel_rfl) (.inl rfl) rfl rfl (by kernel_rfl) (by kernel_rfl) _ (fun _ _ => rfl) _ _ (fun _ _ => rfl) (fun _ _ => rfl) (fun rr _ => by dsimp only [client_New.R]; cases rr.1 <;> kernel_rfl) (fun rr _ => by dsimp only [client_New.R]; cases rr.1 <;> kernel_rfl) (fun r_1 x_41 => ?_))
  obtain ⟨c_2, A_3, c_4⟩ := x_41
  rcases r_1 with ⟨(_ | o_5), r_1_q1⟩
  · refine GoO.shape (env' := [(13, .tuple ⟨[.pointer none, .int .i64 ((none, r_1_q1) : Option T_client_Client × Int).2]⟩)]) (H' := []) (B' := []) (ks := [13]) (by kernel_rfl) (by kernel_rfl) (by kernel_rfl) ?_
    refine GoO.exec (is := [1, 2, 3, 4, 5]) (hs := [.p, .p, .p, .p, .p]) (rest := []) (ks := [1, 2]) (env' := [(1, .pointer none), (2, .int .i64 ((none, r_1_q1) : Option T_client_Client × Int).2)]) (H' := []) (ps := []) (by kernel_rfl) trivial ?_
    refine GoO.regionEnd ?_
    refine GoO.seq' c30_4e ?_
    refine GoO.region' (is := [0, 1, 2, 3, 4, 5, 6, 7, 8]) c30_5e (by kernel_rfl) ?_
    refine GoO.exec (is := [0, 1]) (hs := [.p, .p]) (rest := [2, 3, 4, 5, 6, 7, 8]) (ks := [1, 2, 17, 18]) (env' := [(1, .pointer none), (2, .int .i64 ((none, r_1_q1) : Option T_client_Client × Int).2), (17, .pointer none), (18, .agg ⟨[.int .i64 1, .int .u64 0, .int .u64 0, .int .u64 0, .slice none ([] : List T_api_Step).length 0, .int .i64 0, .bool false, .int .i64 0, .bool false, .int .u64 0]⟩)]) (H' := []) (ps := []) (by kernel_rfl) trivial ?_
    exact GoO.stop
  · refine GoO.shape (env' := [(13, .tuple ⟨[.pointer (some ⟨c_2, 0, none⟩), .int .i64 ((some o_5, r_1_q1) : Option T_client_Client × Int).2]⟩)]) (H' := [⟨40, c_2, [.int .i64 o_5.id, .int .u64 o_5.session, .int .u64 o_5.seq, .int .u64 o_5.call, .bool o_5.busy, .int .i64 o_5.now.Kind, .int .u64 o_5.now.Session, .int .u64 o_5.now.Seq, .int .u64 o_5.now.Saga, .slice A_3 o_5.now.Steps.length c_4, .int .i64 o_5.now.Step, .bool o_5.now.Back, .int .i64 o_5.now.Try, .bool o_5.now.Ok, .int .u64 o_5.now.Now, .string (bs o_5.data), .int .i64 o_5.to_]⟩]) (B' := [Rd 0 kT_api_Step A_3 c_4 o_5.now.Steps]) (ks := [13]) (by kernel_rfl) (by kernel_rfl) (by kernel_rfl) ?_
    refine GoO.exec (is := [1, 2, 3, 4, 5]) (hs := [.p, .p, .p, .p, .p]) (rest := []) (ks := [1, 2]) (env' := [(1, .pointer (some ⟨c_2, 0, none⟩)), (2, .int .i64 ((some o_5, r_1_q1) : Option T_client_Client × Int).2)]) (H' := [⟨40, c_2, [.int .i64 o_5.id, .int .u64 o_5.session, .int .u64 o_5.seq, .int .u64 o_5.call, .bool o_5.busy, .int .i64 o_5.now.Kind, .int .u64 o_5.now.Session, .int .u64 o_5.now.Seq, .int .u64 o_5.now.Saga, .slice A_3 o_5.now.Steps.length c_4, .int .i64 o_5.now.Step, .bool o_5.now.Back, .int .i64 o_5.now.Try, .bool o_5.now.Ok, .int .u64 o_5.now.Now, .string (bs o_5.data), .int .i64 o_5.to_]⟩]) (ps := []) (by kernel_rfl) trivial ?_
    refine GoO.regionEnd ?_
    refine GoO.seq' c30_4e ?_
    refine GoO.region' (is := [0, 1, 2, 3, 4, 5, 6, 7, 8]) c30_5e (by kernel_rfl) ?_
    refine GoO.exec (is := [0, 1]) (hs := [.p, .p]) (rest := [2, 3, 4, 5, 6, 7, 8]) (ks := [1, 2, 17, 18]) (env' := [(1, .pointer (some ⟨c_2, 0, none⟩)), (2, .int .i64 ((some o_5, r_1_q1) : Option T_client_Client × Int).2), (17, .pointer (some ⟨c_2, 0, none⟩)), (18, .agg ⟨[.int .i64 1, .int .u64 0, .int .u64 0, .int .u64 0, .slice none ([] : List T_api_Step).length 0, .int .i64 0, .bool false, .int .i64 0, .bool false, .int .u64 0]⟩)]) (H' := [⟨40, c_2, [.int .i64 o_5.id, .int .u64 o_5.session, .int .u64 o_5.seq, .int .u64 o_5.call, .bool o_5.busy, .int .i64 o_5.now.Kind, .int .u64 o_5.now.Session, .int .u64 o_5.now.Seq, .int .u64 o_5.now.Saga, .slice A_3 o_5.now.Steps.length c_4, .int .i64 o_5.now.Step, .bool o_5.now.Back, .int .i64 o_5.now.Try, .bool o_5.now.Ok, .int .u64 o_5.now.Now, .string (bs o_5.data), .int .i64 o_5.to_]⟩]) (ps := []) (by kernel_rfl) trivial ?_
    refine GoO.nilRd kT_api_Step ?_
    refine OpTo.go (GoO.call rfl (by kernel_rfl) (by kernel_rfl) (client_Client_Call_ok n (⟨o_5.id, o_5.session, o_5.seq, o_5.call, o_5.busy, (⟨o_5.now.Kind, o_5.now.Session, o_5.now.Seq, o_5.now.Saga, o_5.now.Steps, o_5.now.Step, o_5.now.Back, o_5.now.Try, o_5.now.Ok, o_5.now.Now⟩ : T_api_Command), o_5.data, o_5.to_⟩ : T_client_Client) (⟨1, 0, 0, 0, [], 0, false, 0, false, 0⟩ : T_api_Command) c_2 A_3 c_4 none 0) [[0], [40]] [(40, 1)] [(1, 0)] [(0, 1), (0, 0)] (hks := []) (bks := [0, 1]) (by kernel_rfl) (by kernel_rfl) (by kernel_rfl) (.inl rfl) rfl rfl (by kernel_rfl) (by kernel_rfl) _ (fun _ _ => rfl) _ _ (fun _ _ => rfl) (fun _ _ => rfl) (fun _ _ => by kernel_rfl) (fun _ _ => by kernel_rfl) (fun r_6 x_40 => ?_))
    obtain ⟨A_7, c_8, A_9, c_10⟩ := x_40
    refine GoO.shape (env' := [(1, .pointer (some ⟨c_2, 0, none⟩)), (2, .int .i64 ((some o_5, r_1_q1) : Option T_client_Client × Int).2), (17, .pointer (some ⟨c_2, 0, none⟩)), (18, .agg ⟨[.int .i64 1, .int .u64 0, .int .u64 0, .int .u64 0, .slice none ([] : List T_api_Step).length 0, .int .i64 0, .bool false, .int .i64 0, .bool false, .int .u64 0]⟩), (19, .tuple ⟨[.agg ⟨[.int .i64 r_6.1.Kind, .int .i64 r_6.1.From, .int .i64 r_6.1.To, .int .u64 r_6.1.Term, .int .u64 r_6.1.Index, .int .u64 r_6.1.Prev, .int .u64 r_6.1.Commit, .bool r_6.1.Ok, .slice A_7 r_6.1.Entries.length c_8, .string (bs r_6.1.Data)]⟩, .int .i64 r_6.2.1]⟩)]) (H' := [⟨40, c_2, [.int .i64 r_6.2.2.id, .int .u64 r_6.2.2.session, .int .u64 r_6.2.2.seq, .int .u64 r_6.2.2.call, .bool r_6.2.2.busy, .int .i64 r_6.2.2.now.Kind, .int .u64 r_6.2.2.now.Session, .int .u64 r_6.2.2.now.Seq, .int .u64 r_6.2.2.now.Saga, .slice A_9 r_6.2.2.now.Steps.length c_10, .int .i64 r_6.2.2.now.Step, .bool r_6.2.2.now.Back, .int .i64 r_6.2.2.now.Try, .bool r_6.2.2.now.Ok, .int .u64 r_6.2.2.now.Now, .string (bs r_6.2.2.data), .int .i64 r_6.2.2.to_]⟩]) (B' := [Rd 0 kT_api_Entry A_7 c_8 r_6.1.Entries, Rd 0 kT_api_Step A_9 c_10 r_6.2.2.now.Steps, Rd 0 kT_api_Step none 0 ([] : List T_api_Step), Rd 0 kT_api_Step A_3 c_4 o_5.now.Steps]) (ks := [1, 2, 17, 18, 19]) (by kernel_rfl) (by kernel_rfl) (by kernel_rfl) ?_
    refine GoO.exec (is := [3, 4, 5]) (hs := [.p, .p, .p]) (rest := [6, 7, 8]) (ks := [1, 2, 20, 21]) (env' := [(1, .pointer (some ⟨c_2, 0, none⟩)), (2, .int .i64 ((some o_5, r_1_q1) : Option T_client_Client × Int).2), (20, .agg ⟨[.int .i64 r_6.1.Kind, .int .i64 r_6.1.From, .int .i64 r_6.1.To, .int .u64 r_6.1.Term, .int .u64 r_6.1.Index, .int .u64 r_6.1.Prev, .int .u64 r_6.1.Commit, .bool r_6.1.Ok, .slice A_7 r_6.1.Entries.length c_8, .string (bs r_6.1.Data)]⟩), (21, .int .i64 r_6.2.1)]) (H' := [⟨40, c_2, [.int .i64 r_6.2.2.id, .int .u64 r_6.2.2.session, .int .u64 r_6.2.2.seq, .int .u64 r_6.2.2.call, .bool r_6.2.2.busy, .int .i64 r_6.2.2.now.Kind, .int .u64 r_6.2.2.now.Session, .int .u64 r_6.2.2.now.Seq, .int .u64 r_6.2.2.now.Saga, .slice A_9 r_6.2.2.now.Steps.length c_10, .int .i64 r_6.2.2.now.Step, .bool r_6.2.2.now.Back, .int .i64 r_6.2.2.now.Try, .bool r_6.2.2.now.Ok, .int .u64 r_6.2.2.now.Now, .string (bs r_6.2.2.data), .int .i64 r_6.2.2.to_]⟩]) (ps := []) (by kernel_rfl) trivial ?_
    refine OpTo.go (GoO.new rfl 41 (cs := [.int .i64 0, .int .i64 0, .int .i64 0, .int .u64 0, .int .u64 0, .int .u64 0, .int .u64 0, .bool false, .slice none ([] : List T_api_Entry).length 0, .string (bs [])]) (by kernel_rfl) _ (fun _ => rfl) (fun b_11 => ?_))
    refine GoO.exec (is := [7, 8]) (hs := [.b 0, .p]) (rest := []) (ks := [1, 2, 3, 4]) (env' := [(1, .pointer (some ⟨c_2, 0, none⟩)), (2, .int .i64 ((some o_5, r_1_q1) : Option T_client_Client × Int).2), (3, .pointer (some ⟨b_11, 0, none⟩)), (4, .int .i64 r_6.2.1)]) (H' := [⟨41, b_11, [.int .i64 r_6.1.Kind, .int .i64 r_6.1.From, .int .i64 r_6.1.To, .int .u64 r_6.1.Term, .int .u64 r_6.1.Index, .int .u64 r_6.1.Prev, .int .u64 r_6.1.Commit, .bool r_6.1.Ok, .slice A_7 r_6.1.Entries.length c_8, .string (bs r_6.1.Data)]⟩, ⟨40, c_2, [.int .i64 r_6.2.2.id, .int .u64 r_6.2.2.session, .int .u64 r_6.2.2.seq, .int .u64 r_6.2.2.call, .bool r_6.2.2.busy, .int .i64 r_6.2.2.now.Kind, .int .u64 r_6.2.2.now.Session, .int .u64 r_6.2.2.now.Seq, .int .u64 r_6.2.2.now.Saga, .slice A_9 r_6.2.2.now.Steps.length c_10, .int .i64 r_6.2.2.now.Step, .bool r_6.2.2.now.Back, .int .i64 r_6.2.2.now.Try, .bool r_6.2.2.now.Ok, .int .u64 r_6.2.2.now.Now, .string (bs r_6.2.2.data), .int .i64 r_6.2.2.to_]⟩]) (ps := [b_11 = b_11]) (by kernel_rfl) (And.intro rfl trivial) ?_
    refine GoO.regionEnd ?_
    refine GoO.seq' c30_6e ?_
    refine GoO.region' (is := [0, 1, 2, 3, 4, 5, 6, 7, 8, 9, 10, 11, 12, 13, 14, 15]) c30_7e (by kernel_rfl) ?_
    refine GoO.exec (is := [0, 1]) (hs := [.p, .p]) (rest := [2, 3, 4, 5, 6, 7, 8, 9, 10, 11, 12, 13, 14, 15]) (ks := [1, 2, 3, 4, 23, 24]) (env' := [(1, .pointer (some ⟨c_2, 0, none⟩)), (2, .int .i64 ((some o_5, r_1_q1) : Option T_client_Client × Int).2), (3, .pointer (some ⟨b_11, 0, none⟩)), (4, .int .i64 r_6.2.1), (23, .pointer (some ⟨c_2, 0, none⟩)), (24, .agg ⟨[.int .i64 0, .int .u64 4, .int .u64 0]⟩)]) (H' := [⟨41, b_11, [.int .i64 r_6.1.Kind, .int .i64 r_6.1.From, .int .i64 r_6.1.To, .int .u64 r_6.1.Term, .int .u64 r_6.1.Index, .int .u64 r_6.1.Prev, .int .u64 r_6.1.Commit, .bool r_6.1.Ok, .slice A_7 r_6.1.Entries.length c_8, .string (bs r_6.1.Data)]⟩, ⟨40, c_2, [.int .i64 r_6.2.2.id, .int .u64 r_6.2.2.session, .int .u64 r_6.2.2.seq, .int .u64 r_6.2.2.call, .bool r_6.2.2.busy, .int .i64 r_6.2.2.now.Kind, .int .u64 r_6.2.2.now.Session, .int .u64 r_6.2.2.now.Seq, .int .u64 r_6.2.2.now.Saga, .slice A_9 r_6.2.2.now.Steps.length c_10, .int .i64 r_6.2.2.now.Step, .bool r_6.2.2.now.Back, .int .i64 r_6.2.2.now.Try, .bool r_6.2.2.now.Ok, .int .u64 r_6.2.2.now.Now, .string (bs r_6.2.2.data), .int .i64 r_6.2.2.to_]⟩]) (ps := []) (by kernel_rfl) trivial ?_
    refine OpTo.go (GoO.call rfl (by kernel_rfl) (by kernel_rfl) (tontineref16_Answer_ok n (⟨0, 4, 0⟩ : T_api_Reply)) [[0]] [] [] [] (hks := [0, 1]) (bks := [0, 1, 2, 3]) (by kernel_rfl) (by kernel_rfl) (by kernel_rfl) (.inl rfl) rfl rfl (by kernel_rfl) (by kernel_rfl) _ (fun _ _ => rfl) _ _ (fun _ _ => rfl) (fun _ _ => rfl) (fun _ _ => by kernel_rfl) (fun _ _ => by kernel_rfl) (fun r_12 x_39 => ?_))
    refine GoO.shape (env' := [(1, .pointer (some ⟨c_2, 0, none⟩)), (2, .int .i64 ((some o_5, r_1_q1) : Option T_client_Client × Int).2), (3, .pointer (some ⟨b_11, 0, none⟩)), (4, .int .i64 r_6.2.1), (23, .pointer (some ⟨c_2, 0, none⟩)), (24, .agg ⟨[.int .i64 0, .int .u64 4, .int .u64 0]⟩), (25, .string (bs r_12))]) (H' := [⟨41, b_11, [.int .i64 r_6.1.Kind, .int .i64 r_6.1.From, .int .i64 r_6.1.To, .int .u64 r_6.1.Term, .int .u64 r_6.1.Index, .int .u64 r_6.1.Prev, .int .u64 r_6.1.Commit, .bool r_6.1.Ok, .slice A_7 r_6.1.Entries.length c_8, .string (bs r_6.1.Data)]⟩, ⟨40, c_2, [.int .i64 r_6.2.2.id, .int .u64 r_6.2.2.session, .int .u64 r_6.2.2.seq, .int .u64 r_6.2.2.call, .bool r_6.2.2.busy, .int .i64 r_6.2.2.now.Kind, .int .u64 r_6.2.2.now.Session, .int .u64 r_6.2.2.now.Seq, .int .u64 r_6.2.2.now.Saga, .slice A_9 r_6.2.2.now.Steps.length c_10, .int .i64 r_6.2.2.now.Step, .bool r_6.2.2.now.Back, .int .i64 r_6.2.2.now.Try, .bool r_6.2.2.now.Ok, .int .u64 r_6.2.2.now.Now, .string (bs r_6.2.2.data), .int .i64 r_6.2.2.to_]⟩]) (B' := [Rd 0 kT_api_Entry A_7 c_8 r_6.1.Entries, Rd 0 kT_api_Step A_9 c_10 r_6.2.2.now.Steps, Rd 0 kT_api_Step none 0 ([] : List T_api_Step), Rd 0 kT_api_Step A_3 c_4 o_5.now.Steps]) (ks := [1, 2, 3, 4, 23, 24, 25]) (by kernel_rfl) (by kernel_rfl) (by kernel_rfl) ?_
    refine GoO.exec (is := [3]) (hs := [.p]) (rest := [4, 5, 6, 7, 8, 9, 10, 11, 12, 13, 14, 15]) (ks := [1, 2, 3, 4, 23, 26]) (env' := [(1, .pointer (some ⟨c_2, 0, none⟩)), (2, .int .i64 ((some o_5, r_1_q1) : Option T_client_Client × Int).2), (3, .pointer (some ⟨b_11, 0, none⟩)), (4, .int .i64 r_6.2.1), (23, .pointer (some ⟨c_2, 0, none⟩)), (26, .agg ⟨[.int .i64 9, .int .i64 0, .int .i64 201, .int .u64 0, .int .u64 1, .int .u64 0, .int .u64 0, .bool false, .slice none ([] : List T_api_Entry).length 0, .string (bs r_12)]⟩)]) (H' := [⟨41, b_11, [.int .i64 r_6.1.Kind, .int .i64 r_6.1.From, .int .i64 r_6.1.To, .int .u64 r_6.1.Term, .int .u64 r_6.1.Index, .int .u64 r_6.1.Prev, .int .u64 r_6.1.Commit, .bool r_6.1.Ok, .slice A_7 r_6.1.Entries.length c_8, .string (bs r_6.1.Data)]⟩, ⟨40, c_2, [.int .i64 r_6.2.2.id, .int .u64 r_6.2.2.session, .int .u64 r_6.2.2.seq, .int .u64 r_6.2.2.call, .bool r_6.2.2.busy, .int .i64 r_6.2.2.now.Kind, .int .u64 r_6.2.2.now.Session, .int .u64 r_6.2.2.now.Seq, .int .u64 r_6.2.2.now.Saga, .slice A_9 r_6.2.2.now.Steps.length c_10, .int .i64 r_6.2.2.now.Step, .bool r_6.2.2.now.Back, .int .i64 r_6.2.2.now.Try, .bool r_6.2.2.now.Ok, .int .u64 r_6.2.2.now.Now, .string (bs r_6.2.2.data), .int .i64 r_6.2.2.to_]⟩]) (ps := []) (by kernel_rfl) trivial ?_
    refine GoO.nilRd kT_api_Entry ?_
    refine OpTo.go (GoO.call rfl (by kernel_rfl) (by kernel_rfl) (client_Client_Hear_ok n (⟨r_6.2.2.id, r_6.2.2.session, r_6.2.2.seq, r_6.2.2.call, r_6.2.2.busy, (⟨r_6.2.2.now.Kind, r_6.2.2.now.Session, r_6.2.2.now.Seq, r_6.2.2.now.Saga, r_6.2.2.now.Steps, r_6.2.2.now.Step, r_6.2.2.now.Back, r_6.2.2.now.Try, r_6.2.2.now.Ok, r_6.2.2.now.Now⟩ : T_api_Command), r_6.2.2.data, r_6.2.2.to_⟩ : T_client_Client) (⟨9, 0, 201, 0, 1, 0, 0, false, [], r_12⟩ : T_api_Letter) c_2 A_9 c_10 none 0) [[0], [40]] [(40, 1)] [(1, 1)] [(0, 2), (0, 0)] (hks := [0]) (bks := [0, 1, 2, 3, 4]) (by kernel_rfl) (by kernel_rfl) (by kernel_rfl) (.inl rfl) rfl rfl (by kernel_rfl) (by kernel_rfl) _ (fun _ _ => rfl) _ _ (fun _ _ => rfl) (fun _ _ => rfl) (fun _ _ => by kernel_rfl) (fun _ _ => by kernel_rfl) (fun r_13 x_38 => ?_))
    obtain ⟨A_14, c_15, A_16, c_17, A_18, c_19⟩ := x_38
    refine GoO.shape (env' := [(1, .pointer (some ⟨c_2, 0, none⟩)), (2, .int .i64 ((some o_5, r_1_q1) : Option T_client_Client × Int).2), (3, .pointer (some ⟨b_11, 0, none⟩)), (4, .int .i64 r_6.2.1), (23, .pointer (some ⟨c_2, 0, none⟩)), (26, .agg ⟨[.int .i64 9, .int .i64 0, .int .i64 201, .int .u64 0, .int .u64 1, .int .u64 0, .int .u64 0, .bool false, .slice none ([] : List T_api_Entry).length 0, .string (bs r_12)]⟩), (27, .tuple ⟨[.agg ⟨[.int .i64 r_13.1.Client, .int .i64 r_13.1.Command.Kind, .int .u64 r_13.1.Command.Session, .int .u64 r_13.1.Command.Seq, .int .u64 r_13.1.Command.Saga, .slice A_14 r_13.1.Command.Steps.length c_15, .int .i64 r_13.1.Command.Step, .bool r_13.1.Command.Back, .int .i64 r_13.1.Command.Try, .bool r_13.1.Command.Ok, .int .u64 r_13.1.Command.Now, .int .i64 r_13.1.Reply.Err, .int .u64 r_13.1.Reply.Num, .int .u64 r_13.1.Reply.Extra]⟩, .bool r_13.2.1, .agg ⟨[.int .i64 r_13.2.2.1.Kind, .int .i64 r_13.2.2.1.From, .int .i64 r_13.2.2.1.To, .int .u64 r_13.2.2.1.Term, .int .u64 r_13.2.2.1.Index, .int .u64 r_13.2.2.1.Prev, .int .u64 r_13.2.2.1.Commit, .bool r_13.2.2.1.Ok, .slice A_16 r_13.2.2.1.Entries.length c_17, .string (bs r_13.2.2.1.Data)]⟩, .bool r_13.2.2.2.1]⟩)]) (H' := [⟨40, c_2, [.int .i64 r_13.2.2.2.2.id, .int .u64 r_13.2.2.2.2.session, .int .u64 r_13.2.2.2.2.seq, .int .u64 r_13.2.2.2.2.call, .bool r_13.2.2.2.2.busy, .int .i64 r_13.2.2.2.2.now.Kind, .int .u64 r_13.2.2.2.2.now.Session, .int .u64 r_13.2.2.2.2.now.Seq, .int .u64 r_13.2.2.2.2.now.Saga, .slice A_18 r_13.2.2.2.2.now.Steps.length c_19, .int .i64 r_13.2.2.2.2.now.Step, .bool r_13.2.2.2.2.now.Back, .int .i64 r_13.2.2.2.2.now.Try, .bool r_13.2.2.2.2.now.Ok, .int .u64 r_13.2.2.2.2.now.Now, .string (bs r_13.2.2.2.2.data), .int .i64 r_13.2.2.2.2.to_]⟩, ⟨41, b_11, [.int .i64 r_6.1.Kind, .int .i64 r_6.1.From, .int .i64 r_6.1.To, .int .u64 r_6.1.Term, .int .u64 r_6.1.Index, .int .u64 r_6.1.Prev, .int .u64 r_6.1.Commit, .bool r_6.1.Ok, .slice A_7 r_6.1.Entries.length c_8, .string (bs r_6.1.Data)]⟩]) (B' := [Rd 0 kT_api_Step A_14 c_15 r_13.1.Command.Steps, Rd 0 kT_api_Entry A_16 c_17 r_13.2.2.1.Entries, Rd 0 kT_api_Step A_18 c_19 r_13.2.2.2.2.now.Steps, Rd 0 kT_api_Entry none 0 ([] : List T_api_Entry), Rd 0 kT_api_Entry A_7 c_8 r_6.1.Entries, Rd 0 kT_api_Step A_9 c_10 r_6.2.2.now.Steps, Rd 0 kT_api_Step none 0 ([] : List T_api_Step), Rd 0 kT_api_Step A_3 c_4 o_5.now.Steps]) (ks := [1, 2, 3, 4, 23, 26, 27]) (by kernel_rfl) (by kernel_rfl) (by kernel_rfl) ?_
    refine GoO.exec (is := [5, 6, 7, 8, 9]) (hs := [.p, .p, .p, .p, .p]) (rest := [10, 11, 12, 13, 14, 15]) (ks := [1, 2, 3, 4, 28, 29, 30, 31]) (env' := [(1, .pointer (some ⟨c_2, 0, none⟩)), (2, .int .i64 ((some o_5, r_1_q1) : Option T_client_Client × Int).2), (3, .pointer (some ⟨b_11, 0, none⟩)), (4, .int .i64 r_6.2.1), (28, .agg ⟨[.int .i64 r_13.1.Client, .int .i64 r_13.1.Command.Kind, .int .u64 r_13.1.Command.Session, .int .u64 r_13.1.Command.Seq, .int .u64 r_13.1.Command.Saga, .slice A_14 r_13.1.Command.Steps.length c_15, .int .i64 r_13.1.Command.Step, .bool r_13.1.Command.Back, .int .i64 r_13.1.Command.Try, .bool r_13.1.Command.Ok, .int .u64 r_13.1.Command.Now, .int .i64 r_13.1.Reply.Err, .int .u64 r_13.1.Reply.Num, .int .u64 r_13.1.Reply.Extra]⟩), (29, .bool r_13.2.1), (30, .agg ⟨[.int .i64 r_13.2.2.1.Kind, .int .i64 r_13.2.2.1.From, .int .i64 r_13.2.2.1.To, .int .u64 r_13.2.2.1.Term, .int .u64 r_13.2.2.1.Index, .int .u64 r_13.2.2.1.Prev, .int .u64 r_13.2.2.1.Commit, .bool r_13.2.2.1.Ok, .slice A_16 r_13.2.2.1.Entries.length c_17, .string (bs r_13.2.2.1.Data)]⟩), (31, .bool r_13.2.2.2.1)]) (H' := [⟨40, c_2, [.int .i64 r_13.2.2.2.2.id, .int .u64 r_13.2.2.2.2.session, .int .u64 r_13.2.2.2.2.seq, .int .u64 r_13.2.2.2.2.call, .bool r_13.2.2.2.2.busy, .int .i64 r_13.2.2.2.2.now.Kind, .int .u64 r_13.2.2.2.2.now.Session, .int .u64 r_13.2.2.2.2.now.Seq, .int .u64 r_13.2.2.2.2.now.Saga, .slice A_18 r_13.2.2.2.2.now.Steps.length c_19, .int .i64 r_13.2.2.2.2.now.Step, .bool r_13.2.2.2.2.now.Back, .int .i64 r_13.2.2.2.2.now.Try, .bool r_13.2.2.2.2.now.Ok, .int .u64 r_13.2.2.2.2.now.Now, .string (bs r_13.2.2.2.2.data), .int .i64 r_13.2.2.2.2.to_]⟩, ⟨41, b_11, [.int .i64 r_6.1.Kind, .int .i64 r_6.1.From, .int .i64 r_6.1.To, .int .u64 r_6.1.Term, .int .u64 r_6.1.Index, .int .u64 r_6.1.Prev, .int .u64 r_6.1.Commit, .bool r_6.1.Ok, .slice A_7 r_6.1.Entries.length c_8, .string (bs r_6.1.Data)]⟩]) (ps := []) (by kernel_rfl) trivial ?_
    refine OpTo.go (GoO.new rfl 42 (cs := [.int .i64 0, .int .i64 0, .int .u64 0, .int .u64 0, .int .u64 0, .slice none ([] : List T_api_Step).length 0, .int .i64 0, .bool false, .int .i64 0, .bool false, .int .u64 0, .int .i64 0, .int .u64 0, .int .u64 0]) (by kernel_rfl) _ (fun _ => rfl) (fun b_20 => ?_))
    refine OpTo.go (GoO.new rfl 43 (cs := [.int .i64 0, .int .i64 0, .int .i64 0, .int .u64 0, .int .u64 0, .int .u64 0, .int .u64 0, .bool false, .slice none ([] : List T_api_Entry).length 0, .string (bs [])]) (by kernel_rfl) _ (fun _ => rfl) (fun b_21 => ?_))
    refine GoO.exec (is := [12, 13, 14, 15]) (hs := [.b 1, .p, .b 0, .p]) (rest := []) (ks := [1, 2, 3, 4, 5, 6, 8]) (env' := [(1, .pointer (some ⟨c_2, 0, none⟩)), (2, .int .i64 ((some o_5, r_1_q1) : Option T_client_Client × Int).2), (3, .pointer (some ⟨b_11, 0, none⟩)), (4, .int .i64 r_6.2.1), (5, .pointer (some ⟨b_20, 0, none⟩)), (6, .bool r_13.2.1), (8, .bool r_13.2.2.2.1)]) (H' := [⟨43, b_21, [.int .i64 r_13.2.2.1.Kind, .int .i64 r_13.2.2.1.From, .int .i64 r_13.2.2.1.To, .int .u64 r_13.2.2.1.Term, .int .u64 r_13.2.2.1.Index, .int .u64 r_13.2.2.1.Prev, .int .u64 r_13.2.2.1.Commit, .bool r_13.2.2.1.Ok, .slice A_16 r_13.2.2.1.Entries.length c_17, .string (bs r_13.2.2.1.Data)]⟩, ⟨42, b_20, [.int .i64 r_13.1.Client, .int .i64 r_13.1.Command.Kind, .int .u64 r_13.1.Command.Session, .int .u64 r_13.1.Command.Seq, .int .u64 r_13.1.Command.Saga, .slice A_14 r_13.1.Command.Steps.length c_15, .int .i64 r_13.1.Command.Step, .bool r_13.1.Command.Back, .int .i64 r_13.1.Command.Try, .bool r_13.1.Command.Ok, .int .u64 r_13.1.Command.Now, .int .i64 r_13.1.Reply.Err, .int .u64 r_13.1.Reply.Num, .int .u64 r_13.1.Reply.Extra]⟩, ⟨40, c_2, [.int .i64 r_13.2.2.2.2.id, .int .u64 r_13.2.2.2.2.session, .int .u64 r_13.2.2.2.2.seq, .int .u64 r_13.2.2.2.2.call, .bool r_13.2.2.2.2.busy, .int .i64 r_13.2.2.2.2.now.Kind, .int .u64 r_13.2.2.2.2.now.Session, .int .u64 r_13.2.2.2.2.now.Seq, .int .u64 r_13.2.2.2.2.now.Saga, .slice A_18 r_13.2.2.2.2.now.Steps.length c_19, .int .i64 r_13.2.2.2.2.now.Step, .bool r_13.2.2.2.2.now.Back, .int .i64 r_13.2.2.2.2.now.Try, .bool r_13.2.2.2.2.now.Ok, .int .u64 r_13.2.2.2.2.now.Now, .string (bs r_13.2.2.2.2.data), .int .i64 r_13.2.2.2.2.to_]⟩, ⟨41, b_11, [.int .i64 r_6.1.Kind, .int .i64 r_6.1.From, .int .i64 r_6.1.To, .int .u64 r_6.1.Term, .int .u64 r_6.1.Index, .int .u64 r_6.1.Prev, .int .u64 r_6.1.Commit, .bool r_6.1.Ok, .slice A_7 r_6.1.Entries.length c_8, .string (bs r_6.1.Data)]⟩]) (ps := [b_20 = b_20, b_21 = b_21]) (by kernel_rfl) (And.intro rfl (And.intro rfl trivial)) ?_
    refine GoO.regionEnd ?_
    refine GoO.seq' c30_8e ?_
    refine GoO.region' (is := [0, 1, 2, 3, 4, 5, 6, 7, 8]) c30_9e (by kernel_rfl) ?_
    refine GoO.exec (is := [0]) (hs := [.p]) (rest := [1, 2, 3, 4, 5, 6, 7, 8]) (ks := [2, 3, 4, 5, 6, 8, 33]) (env' := [(2, .int .i64 ((some o_5, r_1_q1) : Option T_client_Client × Int).2), (3, .pointer (some ⟨b_11, 0, none⟩)), (4, .int .i64 r_6.2.1), (5, .pointer (some ⟨b_20, 0, none⟩)), (6, .bool r_13.2.1), (8, .bool r_13.2.2.2.1), (33, .pointer (some ⟨c_2, 0, none⟩))]) (H' := [⟨43, b_21, [.int .i64 r_13.2.2.1.Kind, .int .i64 r_13.2.2.1.From, .int .i64 r_13.2.2.1.To, .int .u64 r_13.2.2.1.Term, .int .u64 r_13.2.2.1.Index, .int .u64 r_13.2.2.1.Prev, .int .u64 r_13.2.2.1.Commit, .bool r_13.2.2.1.Ok, .slice A_16 r_13.2.2.1.Entries.length c_17, .string (bs r_13.2.2.1.Data)]⟩, ⟨42, b_20, [.int .i64 r_13.1.Client, .int .i64 r_13.1.Command.Kind, .int .u64 r_13.1.Command.Session, .int .u64 r_13.1.Command.Seq, .int .u64 r_13.1.Command.Saga, .slice A_14 r_13.1.Command.Steps.length c_15, .int .i64 r_13.1.Command.Step, .bool r_13.1.Command.Back, .int .i64 r_13.1.Command.Try, .bool r_13.1.Command.Ok, .int .u64 r_13.1.Command.Now, .int .i64 r_13.1.Reply.Err, .int .u64 r_13.1.Reply.Num, .int .u64 r_13.1.Reply.Extra]⟩, ⟨40, c_2, [.int .i64 r_13.2.2.2.2.id, .int .u64 r_13.2.2.2.2.session, .int .u64 r_13.2.2.2.2.seq, .int .u64 r_13.2.2.2.2.call, .bool r_13.2.2.2.2.busy, .int .i64 r_13.2.2.2.2.now.Kind, .int .u64 r_13.2.2.2.2.now.Session, .int .u64 r_13.2.2.2.2.now.Seq, .int .u64 r_13.2.2.2.2.now.Saga, .slice A_18 r_13.2.2.2.2.now.Steps.length c_19, .int .i64 r_13.2.2.2.2.now.Step, .bool r_13.2.2.2.2.now.Back, .int .i64 r_13.2.2.2.2.now.Try, .bool r_13.2.2.2.2.now.Ok, .int .u64 r_13.2.2.2.2.now.Now, .string (bs r_13.2.2.2.2.data), .int .i64 r_13.2.2.2.2.to_]⟩, ⟨41, b_11, [.int .i64 r_6.1.Kind, .int .i64 r_6.1.From, .int .i64 r_6.1.To, .int .u64 r_6.1.Term, .int .u64 r_6.1.Index, .int .u64 r_6.1.Prev, .int .u64 r_6.1.Commit, .bool r_6.1.Ok, .slice A_7 r_6.1.Entries.length c_8, .string (bs r_6.1.Data)]⟩]) (ps := []) (by kernel_rfl) trivial ?_
    refine OpTo.go (GoO.call rfl (by kernel_rfl) (by kernel_rfl) (client_Client_Status_ok n (⟨r_13.2.2.2.2.id, r_13.2.2.2.2.session, r_13.2.2.2.2.seq, r_13.2.2.2.2.call, r_13.2.2.2.2.busy, (⟨r_13.2.2.2.2.now.Kind, r_13.2.2.2.2.now.Session, r_13.2.2.2.2.now.Seq, r_13.2.2.2.2.now.Saga, r_13.2.2.2.2.now.Steps, r_13.2.2.2.2.now.Step, r_13.2.2.2.2.now.Back, r_13.2.2.2.2.now.Try, r_13.2.2.2.2.now.Ok, r_13.2.2.2.2.now.Now⟩ : T_api_Command), r_13.2.2.2.2.data, r_13.2.2.2.2.to_⟩ : T_client_Client) c_2 A_18 c_19) [[0], [40]] [] [(1, 2)] [(0, 2)] (hks := [0, 1, 2, 3]) (bks := [0, 1, 2, 3, 4, 5, 6, 7]) (by kernel_rfl) (by kernel_rfl) (by kernel_rfl) (.inl rfl) rfl rfl (by kernel_rfl) (by kernel_rfl) _ (fun _ _ => rfl) _ _ (fun _ _ => rfl) (fun _ _ => rfl) (fun _ _ => by kernel_rfl) (fun _ _ => by kernel_rfl) (fun r_22 x_37 => ?_))
    refine GoO.shape (env' := [(2, .int .i64 ((some o_5, r_1_q1) : Option T_client_Client × Int).2), (3, .pointer (some ⟨b_11, 0, none⟩)), (4, .int .i64 r_6.2.1), (5, .pointer (some ⟨b_20, 0, none⟩)), (6, .bool r_13.2.1), (8, .bool r_13.2.2.2.1), (33, .pointer (some ⟨c_2, 0, none⟩)), (34, .tuple ⟨[.int .u64 r_22.1, .int .u64 r_22.2.1, .bool r_22.2.2]⟩)]) (H' := [⟨43, b_21, [.int .i64 r_13.2.2.1.Kind, .int .i64 r_13.2.2.1.From, .int .i64 r_13.2.2.1.To, .int .u64 r_13.2.2.1.Term, .int .u64 r_13.2.2.1.Index, .int .u64 r_13.2.2.1.Prev, .int .u64 r_13.2.2.1.Commit, .bool r_13.2.2.1.Ok, .slice A_16 r_13.2.2.1.Entries.length c_17, .string (bs r_13.2.2.1.Data)]⟩, ⟨42, b_20, [.int .i64 r_13.1.Client, .int .i64 r_13.1.Command.Kind, .int .u64 r_13.1.Command.Session, .int .u64 r_13.1.Command.Seq, .int .u64 r_13.1.Command.Saga, .slice A_14 r_13.1.Command.Steps.length c_15, .int .i64 r_13.1.Command.Step, .bool r_13.1.Command.Back, .int .i64 r_13.1.Command.Try, .bool r_13.1.Command.Ok, .int .u64 r_13.1.Command.Now, .int .i64 r_13.1.Reply.Err, .int .u64 r_13.1.Reply.Num, .int .u64 r_13.1.Reply.Extra]⟩, ⟨40, c_2, [.int .i64 r_13.2.2.2.2.id, .int .u64 r_13.2.2.2.2.session, .int .u64 r_13.2.2.2.2.seq, .int .u64 r_13.2.2.2.2.call, .bool r_13.2.2.2.2.busy, .int .i64 r_13.2.2.2.2.now.Kind, .int .u64 r_13.2.2.2.2.now.Session, .int .u64 r_13.2.2.2.2.now.Seq, .int .u64 r_13.2.2.2.2.now.Saga, .slice A_18 r_13.2.2.2.2.now.Steps.length c_19, .int .i64 r_13.2.2.2.2.now.Step, .bool r_13.2.2.2.2.now.Back, .int .i64 r_13.2.2.2.2.now.Try, .bool r_13.2.2.2.2.now.Ok, .int .u64 r_13.2.2.2.2.now.Now, .string (bs r_13.2.2.2.2.data), .int .i64 r_13.2.2.2.2.to_]⟩, ⟨41, b_11, [.int .i64 r_6.1.Kind, .int .i64 r_6.1.From, .int .i64 r_6.1.To, .int .u64 r_6.1.Term, .int .u64 r_6.1.Index, .int .u64 r_6.1.Prev, .int .u64 r_6.1.Commit, .bool r_6.1.Ok, .slice A_7 r_6.1.Entries.length c_8, .string (bs r_6.1.Data)]⟩]) (B' := [Rd 0 kT_api_Step A_14 c_15 r_13.1.Command.Steps, Rd 0 kT_api_Entry A_16 c_17 r_13.2.2.1.Entries, Rd 0 kT_api_Step A_18 c_19 r_13.2.2.2.2.now.Steps, Rd 0 kT_api_Entry none 0 ([] : List T_api_Entry), Rd 0 kT_api_Entry A_7 c_8 r_6.1.Entries, Rd 0 kT_api_Step A_9 c_10 r_6.2.2.now.Steps, Rd 0 kT_api_Step none 0 ([] : List T_api_Step), Rd 0 kT_api_Step A_3 c_4 o_5.now.Steps]) (ks := [2, 3, 4, 5, 6, 8, 33, 34]) (by kernel_rfl) (by kernel_rfl) (by kernel_rfl) ?_
    refine GoO.exec (is := [2, 3, 4, 5, 6, 7, 8]) (hs := [.p, .p, .p, .p, .p, .p, .p]) (rest := []) (ks := [2, 3, 4, 5, 6, 8, 9, 10, 11]) (env' := [(2, .int .i64 ((some o_5, r_1_q1) : Option T_client_Client × Int).2), (3, .pointer (some ⟨b_11, 0, none⟩)), (4, .int .i64 r_6.2.1), (5, .pointer (some ⟨b_20, 0, none⟩)), (6, .bool r_13.2.1), (8, .bool r_13.2.2.2.1), (9, .int .u64 r_22.1), (10, .int .u64 r_22.2.1), (11, .bool r_22.2.2)]) (H' := [⟨43, b_21, [.int .i64 r_13.2.2.1.Kind, .int .i64 r_13.2.2.1.From, .int .i64 r_13.2.2.1.To, .int .u64 r_13.2.2.1.Term, .int .u64 r_13.2.2.1.Index, .int .u64 r_13.2.2.1.Prev, .int .u64 r_13.2.2.1.Commit, .bool r_13.2.2.1.Ok, .slice A_16 r_13.2.2.1.Entries.length c_17, .string (bs r_13.2.2.1.Data)]⟩, ⟨42, b_20, [.int .i64 r_13.1.Client, .int .i64 r_13.1.Command.Kind, .int .u64 r_13.1.Command.Session, .int .u64 r_13.1.Command.Seq, .int .u64 r_13.1.Command.Saga, .slice A_14 r_13.1.Command.Steps.length c_15, .int .i64 r_13.1.Command.Step, .bool r_13.1.Command.Back, .int .i64 r_13.1.Command.Try, .bool r_13.1.Command.Ok, .int .u64 r_13.1.Command.Now, .int .i64 r_13.1.Reply.Err, .int .u64 r_13.1.Reply.Num, .int .u64 r_13.1.Reply.Extra]⟩, ⟨40, c_2, [.int .i64 r_13.2.2.2.2.id, .int .u64 r_13.2.2.2.2.session, .int .u64 r_13.2.2.2.2.seq, .int .u64 r_13.2.2.2.2.call, .bool r_13.2.2.2.2.busy, .int .i64 r_13.2.2.2.2.now.Kind, .int .u64 r_13.2.2.2.2.now.Session, .int .u64 r_13.2.2.2.2.now.Seq, .int .u64 r_13.2.2.2.2.now.Saga, .slice A_18 r_13.2.2.2.2.now.Steps.length c_19, .int .i64 r_13.2.2.2.2.now.Step, .bool r_13.2.2.2.2.now.Back, .int .i64 r_13.2.2.2.2.now.Try, .bool r_13.2.2.2.2.now.Ok, .int .u64 r_13.2.2.2.2.now.Now, .string (bs r_13.2.2.2.2.data), .int .i64 r_13.2.2.2.2.to_]⟩, ⟨41, b_11, [.int .i64 r_6.1.Kind, .int .i64 r_6.1.From, .int .i64 r_6.1.To, .int .u64 r_6.1.Term, .int .u64 r_6.1.Index, .int .u64 r_6.1.Prev, .int .u64 r_6.1.Commit, .bool r_6.1.Ok, .slice A_7 r_6.1.Entries.length c_8, .string (bs r_6.1.Data)]⟩]) (ps := []) (by kernel_rfl) trivial ?_
    refine GoO.regionEnd ?_
    refine GoO.seq' c30_10e ?_
    refine GoO.region' (is := [0, 1, 2, 3, 4, 5, 6, 7, 8, 9, 10, 11, 12, 13, 14, 15, 16, 17, 18, 19, 20, 21, 22, 23, 24, 25, 26, 27, 28, 29, 30, 31, 32, 33, 34, 35, 36, 37, 38, 39, 40, 41]) c30_11e (by kernel_rfl) ?_
    refine GoO.exec (is := [0, 1, 2]) (hs := [.p, .p, .p]) (rest := [3, 4, 5, 6, 7, 8, 9, 10, 11, 12, 13, 14, 15, 16, 17, 18, 19, 20, 21, 22, 23, 24, 25, 26, 27, 28, 29, 30, 31, 32, 33, 34, 35, 36, 37, 38, 39, 40, 41]) (ks := [3, 4, 5, 6, 8, 9, 10, 11, 40]) (env' := [(3, .pointer (some ⟨b_11, 0, none⟩)), (4, .int .i64 r_6.2.1), (5, .pointer (some ⟨b_20, 0, none⟩)), (6, .bool r_13.2.1), (8, .bool r_13.2.2.2.1), (9, .int .u64 r_22.1), (10, .int .u64 r_22.2.1), (11, .bool r_22.2.2), (40, .bool (((some o_5, r_1_q1) : Option T_client_Client × Int).2 == 0))]) (H' := [⟨43, b_21, [.int .i64 r_13.2.2.1.Kind, .int .i64 r_13.2.2.1.From, .int .i64 r_13.2.2.1.To, .int .u64 r_13.2.2.1.Term, .int .u64 r_13.2.2.1.Index, .int .u64 r_13.2.2.1.Prev, .int .u64 r_13.2.2.1.Commit, .bool r_13.2.2.1.Ok, .slice A_16 r_13.2.2.1.Entries.length c_17, .string (bs r_13.2.2.1.Data)]⟩, ⟨42, b_20, [.int .i64 r_13.1.Client, .int .i64 r_13.1.Command.Kind, .int .u64 r_13.1.Command.Session, .int .u64 r_13.1.Command.Seq, .int .u64 r_13.1.Command.Saga, .slice A_14 r_13.1.Command.Steps.length c_15, .int .i64 r_13.1.Command.Step, .bool r_13.1.Command.Back, .int .i64 r_13.1.Command.Try, .bool r_13.1.Command.Ok, .int .u64 r_13.1.Command.Now, .int .i64 r_13.1.Reply.Err, .int .u64 r_13.1.Reply.Num, .int .u64 r_13.1.Reply.Extra]⟩, ⟨40, c_2, [.int .i64 r_13.2.2.2.2.id, .int .u64 r_13.2.2.2.2.session, .int .u64 r_13.2.2.2.2.seq, .int .u64 r_13.2.2.2.2.call, .bool r_13.2.2.2.2.busy, .int .i64 r_13.2.2.2.2.now.Kind, .int .u64 r_13.2.2.2.2.now.Session, .int .u64 r_13.2.2.2.2.now.Seq, .int .u64 r_13.2.2.2.2.now.Saga, .slice A_18 r_13.2.2.2.2.now.Steps.length c_19, .int .i64 r_13.2.2.2.2.now.Step, .bool r_13.2.2.2.2.now.Back, .int .i64 r_13.2.2.2.2.now.Try, .bool r_13.2.2.2.2.now.Ok, .int .u64 r_13.2.2.2.2.now.Now, .string (bs r_13.2.2.2.2.data), .int .i64 r_13.2.2.2.2.to_]⟩, ⟨41, b_11, [.int .i64 r_6.1.Kind, .int .i64 r_6.1.From, .int .i64 r_6.1.To, .int .u64 r_6.1.Term, .int .u64 r_6.1.Index, .int .u64 r_6.1.Prev, .int .u64 r_6.1.Commit, .bool r_6.1.Ok, .slice A_7 r_6.1.Entries.length c_8, .string (bs r_6.1.Data)]⟩]) (ps := []) (by kernel_rfl) trivial ?_
    refine GoO.bsplit (t := 40) (by kernel_rfl) (fun h23 => ?_) (fun h23 => ?_)
    · refine GoO.exec (is := [3, 4, 5]) (hs := [.p, .p, .p]) (rest := [6, 7, 8, 9, 10, 11, 12, 13, 14, 15, 16, 17, 18, 19, 20, 21, 22, 23, 24, 25, 26, 27, 28, 29, 30, 31, 32, 33, 34, 35, 36, 37, 38, 39, 40, 41]) (ks := [3, 5, 6, 8, 9, 10, 11, 43]) (env' := [(3, .pointer (some ⟨b_11, 0, none⟩)), (5, .pointer (some ⟨b_20, 0, none⟩)), (6, .bool r_13.2.1), (8, .bool r_13.2.2.2.1), (9, .int .u64 r_22.1), (10, .int .u64 r_22.2.1), (11, .bool r_22.2.2), (43, .bool (r_6.2.1 == 0))]) (H' := [⟨43, b_21, [.int .i64 r_13.2.2.1.Kind, .int .i64 r_13.2.2.1.From, .int .i64 r_13.2.2.1.To, .int .u64 r_13.2.2.1.Term, .int .u64 r_13.2.2.1.Index, .int .u64 r_13.2.2.1.Prev, .int .u64 r_13.2.2.1.Commit, .bool r_13.2.2.1.Ok, .slice A_16 r_13.2.2.1.Entries.length c_17, .string (bs r_13.2.2.1.Data)]⟩, ⟨42, b_20, [.int .i64 r_13.1.Client, .int .i64 r_13.1.Command.Kind, .int .u64 r_13.1.Command.Session, .int .u64 r_13.1.Command.Seq, .int .u64 r_13.1.Command.Saga, .slice A_14 r_13.1.Command.Steps.length c_15, .int .i64 r_13.1.Command.Step, .bool r_13.1.Command.Back, .int .i64 r_13.1.Command.Try, .bool r_13.1.Command.Ok, .int .u64 r_13.1.Command.Now, .int .i64 r_13.1.Reply.Err, .int .u64 r_13.1.Reply.Num, .int .u64 r_13.1.Reply.Extra]⟩, ⟨40, c_2, [.int .i64 r_13.2.2.2.2.id, .int .u64 r_13.2.2.2.2.session, .int .u64 r_13.2.2.2.2.seq, .int .u64 r_13.2.2.2.2.call, .bool r_13.2.2.2.2.busy, .int .i64 r_13.2.2.2.2.now.Kind, .int .u64 r_13.2.2.2.2.now.Session, .int .u64 r_13.2.2.2.2.now.Seq, .int .u64 r_13.2.2.2.2.now.Saga, .slice A_18 r_13.2.2.2.2.now.Steps.length c_19, .int .i64 r_13.2.2.2.2.now.Step, .bool r_13.2.2.2.2.now.Back, .int .i64 r_13.2.2.2.2.now.Try, .bool r_13.2.2.2.2.now.Ok, .int .u64 r_13.2.2.2.2.now.Now, .string (bs r_13.2.2.2.2.data), .int .i64 r_13.2.2.2.2.to_]⟩, ⟨41, b_11, [.int .i64 r_6.1.Kind, .int .i64 r_6.1.From, .int .i64 r_6.1.To, .int .u64 r_6.1.Term, .int .u64 r_6.1.Index, .int .u64 r_6.1.Prev, .int .u64 r_6.1.Commit, .bool r_6.1.Ok, .slice A_7 r_6.1.Entries.length c_8, .string (bs r_6.1.Data)]⟩]) (ps := []) (by kernel_rfl) trivial ?_
      exact GoO.sub (ks := [3, 5, 6, 8, 9, 10, 11, 43]) (hk := [3, 1]) (bk := [4, 0]) (by kernel_rfl) (by kernel_rfl) (by kernel_rfl) (tontinelaw21_begun_j0_ok n r_6 r_13 r_22 A_7 c_8 b_11 A_14 c_15 b_20 w0 S0 (r_6.2.1 == 0))
    · refine GoO.exec (is := [3, 4, 5]) (hs := [.p, .p, .p]) (rest := [6, 7, 8, 9, 10, 11, 12, 13, 14, 15, 16, 17, 18, 19, 20, 21, 22, 23, 24, 25, 26, 27, 28, 29, 30, 31, 32, 33, 34, 35, 36, 37, 38, 39, 40, 41]) (ks := [3, 5, 6, 8, 9, 10, 11, 43]) (env' := [(3, .pointer (some ⟨b_11, 0, none⟩)), (5, .pointer (some ⟨b_20, 0, none⟩)), (6, .bool r_13.2.1), (8, .bool r_13.2.2.2.1), (9, .int .u64 r_22.1), (10, .int .u64 r_22.2.1), (11, .bool r_22.2.2), (43, .bool false)]) (H' := [⟨43, b_21, [.int .i64 r_13.2.2.1.Kind, .int .i64 r_13.2.2.1.From, .int .i64 r_13.2.2.1.To, .int .u64 r_13.2.2.1.Term, .int .u64 r_13.2.2.1.Index, .int .u64 r_13.2.2.1.Prev, .int .u64 r_13.2.2.1.Commit, .bool r_13.2.2.1.Ok, .slice A_16 r_13.2.2.1.Entries.length c_17, .string (bs r_13.2.2.1.Data)]⟩, ⟨42, b_20, [.int .i64 r_13.1.Client, .int .i64 r_13.1.Command.Kind, .int .u64 r_13.1.Command.Session, .int .u64 r_13.1.Command.Seq, .int .u64 r_13.1.Command.Saga, .slice A_14 r_13.1.Command.Steps.length c_15, .int .i64 r_13.1.Command.Step, .bool r_13.1.Command.Back, .int .i64 r_13.1.Command.Try, .bool r_13.1.Command.Ok, .int .u64 r_13.1.Command.Now, .int .i64 r_13.1.Reply.Err, .int .u64 r_13.1.Reply.Num, .int .u64 r_13.1.Reply.Extra]⟩, ⟨40, c_2, [.int .i64 r_13.2.2.2.2.id, .int .u64 r_13.2.2.2.2.session, .int .u64 r_13.2.2.2.2.seq, .int .u64 r_13.2.2.2.2.call, .bool r_13.2.2.2.2.busy, .int .i64 r_13.2.2.2.2.now.Kind, .int .u64 r_13.2.2.2.2.now.Session, .int .u64 r_13.2.2.2.2.now.Seq, .int .u64 r_13.2.2.2.2.now.Saga, .slice A_18 r_13.2.2.2.2.now.Steps.length c_19, .int .i64 r_13.2.2.2.2.now.Step, .bool r_13.2.2.2.2.now.Back, .int .i64 r_13.2.2.2.2.now.Try, .bool r_13.2.2.2.2.now.Ok, .int .u64 r_13.2.2.2.2.now.Now, .string (bs r_13.2.2.2.2.data), .int .i64 r_13.2.2.2.2.to_]⟩, ⟨41, b_11, [.int .i64 r_6.1.Kind, .int .i64 r_6.1.From, .int .i64 r_6.1.To, .int .u64 r_6.1.Term, .int .u64 r_6.1.Index, .int .u64 r_6.1.Prev, .int .u64 r_6.1.Commit, .bool r_6.1.Ok, .slice A_7 r_6.1.Entries.length c_8, .string (bs r_6.1.Data)]⟩]) (ps := []) (by kernel_rfl) trivial ?_
      exact GoO.sub (ks := [3, 5, 6, 8, 9, 10, 11, 43]) (hk := [3, 1]) (bk := [4, 0]) (by kernel_rfl) (by kernel_rfl) (by kernel_rfl) (tontinelaw21_begun_j0_ok n r_6 r_13 r_22 A_7 c_8 b_11 A_14 c_15 b_20 w0 S0 false)

/-! (*tontine/client.Client).Call -/
noncomputable def c32n0_0 : Code := bodyOf Try.f32
noncomputable def c32n0_1 : Code := cdL c32n0_0
noncomputable def c32n0_2 : Code := cdR c32n0_0
noncomputable def c32n0_3 : Code := cdL c32n0_2
noncomputable def c32n0_4 : Code := cdL c32n0_3
noncomputable def c32n0_5 : Code := cdR c32n0_3
noncomputable def c32n0_6 : Code := cdL c32n0_5
noncomputable def c32n0_7 : Code := cdL c32n0_6
noncomputable def c32n0_8 : Code := cdR c32n0_6
noncomputable def c32n0_10 : Code := cdR c32n0_2
noncomputable def c32n0_9 : Code := cdR c32n0_5
noncomputable def r32n0_1 : Array Oper := cdO c32n0_1
noncomputable def r32n0_4 : Array Oper := cdO c32n0_4
noncomputable def r32n0_7 : Array Oper := cdO c32n0_7
theorem c32n0_0e : c32n0_0 = .seq c32n0_1 c32n0_2 := by kernel_rfl
theorem c32n0_1e : c32n0_1 = .region 0 r32n0_1 false := by kernel_rfl
theorem c32n0_2e : c32n0_2 = .seq c32n0_3 c32n0_10 := by kernel_rfl
theorem c32n0_3e : c32n0_3 = .seq c32n0_4 c32n0_5 := by kernel_rfl
theorem c32n0_4e : c32n0_4 = .region 1 r32n0_4 false := by kernel_rfl
theorem c32n0_5e : c32n0_5 = .cond (cdC c32n0_5) c32n0_6 c32n0_9 := by kernel_rfl
theorem c32n0_6e : c32n0_6 = .seq c32n0_7 c32n0_8 := by kernel_rfl
theorem c32n0_7e : c32n0_7 = .region 2 r32n0_7 false := by kernel_rfl
theorem c32n0_8e : c32n0_8 = .ret := by kernel_rfl
theorem c32n0_9e : c32n0_9 = .skip := by kernel_rfl
noncomputable def client_Client_Call_n0.R (A_2 : Option Addr) (c_3 : Nat) : Pst (T_api_Letter × Int) where
  ε := Option Addr × Nat
  v := fun r x => .tuple ⟨[.agg ⟨[.int .i64 r.1.Kind, .int .i64 r.1.From, .int .i64 r.1.To, .int .u64 r.1.Term, .int .u64 r.1.Index, .int .u64 r.1.Prev, .int .u64 r.1.Commit, .bool r.1.Ok, .slice x.1 r.1.Entries.length x.2, .string (bs r.1.Data)]⟩, .int .i64 r.2]⟩
  H := fun r x => []
  B := fun r x => [Rd 0 kT_api_Entry x.1 x.2 r.1.Entries]
noncomputable def client_Client_Call_n0.cx (A_2 : Option Addr) (c_3 : Nat) (w0 : World) (S0 : Fam) : Cx (T_api_Letter × Int) := ⟨Try.prog, 32, Try.f32, 77, w0, S0, [], 0, client_Client_Call_n0.R A_2 c_3⟩
theorem client_Client_Call_n0_ok (n : Nat) (x_1 : T_api_Command) (A_2 : Option Addr) (c_3 : Nat) :
    Meets Try.prog 32 [.pointer none, .agg ⟨[.int .i64 x_1.Kind, .int .u64 x_1.Session, .int .u64 x_1.Seq, .int .u64 x_1.Saga, .slice A_2 x_1.Steps.length c_3, .int .i64 x_1.Step, .bool x_1.Back, .int .i64 x_1.Try, .bool x_1.Ok, .int .u64 x_1.Now]⟩] 0 [] [] [Rd 0 kT_api_Step A_2 c_3 x_1.Steps] (client_Client_Call_n0.f n x_1) (client_Client_Call_n0.R A_2 c_3) := by
  refine Meets.of (c := c32n0_0) (n := 77) Try.func32 (by kernel_rfl) (by kernel_rfl) (by kernel_rfl) fun w0 S0 => ?_
  unfold client_Client_Call_n0.f
  show GoO (client_Client_Call_n0.cx A_2 c_3 w0 S0) [(0, .pointer none), (1, .agg ⟨[.int .i64 x_1.Kind, .int .u64 x_1.Session, .int .u64 x_1.Seq, .int .u64 x_1.Saga, .slice A_2 x_1.Steps.length c_3, .int .i64 x_1.Step, .bool x_1.Back, .int .i64 x_1.Try, .bool x_1.Ok, .int .u64 x_1.Now]⟩)] [] [Rd 0 kT_api_Step A_2 c_3 x_1.Steps] [.code c32n0_0] _
  refine GoO.seq' c32n0_0e ?_
  refine GoO.region' (is := [0, 1, 2]) c32n0_1e (by kernel_rfl) ?_
  refine OpTo.go (GoO.new rfl 40 (cs := [.int .i64 x_1.Kind, .int .u64 x_1.Session, .int .u64 x_1.Seq, .int .u64 x_1.Saga, .slice A_2 x_1.Steps.length c_3, .int .i64 x_1.Step, .bool x_1.Back, .int .i64 x_1.Try, .bool x_1.Ok, .int .u64 x_1.Now]) (by kernel_rfl) _ (fun _ => rfl) (fun b_4 => ?_))
  refine OpTo.go (GoO.new rfl 41 (cs := [.int .i64 0, .int .i64 0, .int .i64 0, .int .u64 0, .int .u64 0, .int .u64 0, .int .u64 0, .bool false, .slice none ([] : List T_api_Entry).length 0, .string (bs [])]) (by kernel_rfl) _ (fun _ => rfl) (fun b_5 => ?_))
  refine GoO.exec (is := [2]) (hs := [.p]) (rest := []) (ks := [0, 3, 4]) (env' := [(0, .pointer none), (3, .pointer (some ⟨b_4, 0, none⟩)), (4, .pointer (some ⟨b_5, 0, none⟩))]) (H' := [⟨41, b_5, [.int .i64 0, .int .i64 0, .int .i64 0, .int .u64 0, .int .u64 0, .int .u64 0, .int .u64 0, .bool false, .slice none ([] : List T_api_Entry).length 0, .string (bs [])]⟩, ⟨40, b_4, [.int .i64 x_1.Kind, .int .u64 x_1.Session, .int .u64 x_1.Seq, .int .u64 x_1.Saga, .slice A_2 x_1.Steps.length c_3, .int .i64 x_1.Step, .bool x_1.Back, .int .i64 x_1.Try, .bool x_1.Ok, .int .u64 x_1.Now]⟩]) (ps := []) (by kernel_rfl) trivial ?_
  refine GoO.regionEnd ?_
  refine GoO.seq' c32n0_2e ?_
  refine GoO.seq' c32n0_3e ?_
  refine GoO.region' (is := [0, 1]) c32n0_4e (by kernel_rfl) ?_
  refine GoO.exec (is := [0, 1]) (hs := [.p, .p]) (rest := []) (ks := [0, 3, 4, 9]) (env' := [(0, .pointer none), (3, .pointer (some ⟨b_4, 0, none⟩)), (4, .pointer (some ⟨b_5, 0, none⟩)), (9, .bool true)]) (H' := [⟨41, b_5, [.int .i64 0, .int .i64 0, .int .i64 0, .int .u64 0, .int .u64 0, .int .u64 0, .int .u64 0, .bool false, .slice none ([] : List T_api_Entry).length 0, .string (bs [])]⟩, ⟨40, b_4, [.int .i64 x_1.Kind, .int .u64 x_1.Session, .int .u64 x_1.Seq, .int .u64 x_1.Saga, .slice A_2 x_1.Steps.length c_3, .int .i64 x_1.Step, .bool x_1.Back, .int .i64 x_1.Try, .bool x_1.Ok, .int .u64 x_1.Now]⟩]) (ps := []) (by kernel_rfl) trivial ?_
  refine GoO.regionEnd ?_
  refine GoO.condT c32n0_5e (by kernel_rfl) ?_
  refine GoO.seq' c32n0_6e ?_
  refine GoO.region' (is := [0, 1, 2]) c32n0_7e (by kernel_rfl) ?_
  refine GoO.exec (is := [0, 1, 2]) (hs := [.p, .b 0, .p]) (rest := []) (ks := [4, 5]) (env' := [(4, .pointer (some ⟨b_5, 0, none⟩)), (5, .int .i64 1)]) (H' := [⟨41, b_5, [.int .i64 0, .int .i64 0, .int .i64 0, .int .u64 0, .int .u64 0, .int .u64 0, .int .u64 0, .bool false, .slice none ([] : List T_api_Entry).length 0, .string (bs [])]⟩, ⟨40, b_4, [.int .i64 x_1.Kind, .int .u64 x_1.Session, .int .u64 x_1.Seq, .int .u64 x_1.Saga, .slice A_2 x_1.Steps.length c_3, .int .i64 x_1.Step, .bool x_1.Back, .int .i64 x_1.Try, .bool x_1.Ok, .int .u64 x_1.Now]⟩]) (ps := [b_5 = b_5]) (by kernel_rfl) (And.intro rfl trivial) ?_
  refine GoO.regionEnd ?_
  refine GoO.nilRd kT_api_Entry ?_
  exact GoO.ret' (h := c32n0_8e) (hs := [0]) (ps := [b_5 = b_5]) (hk := []) (bk := [0]) Try.func32 (⟨none, 0⟩ : Option Addr × Nat) (by kernel_rfl) (And.intro rfl trivial) (by kernel_rfl) (by kernel_rfl)

/-! (*tontine/client.Client).Again -/
noncomputable def c33n0_0 : Code := bodyOf Try.f33
noncomputable def c33n0_1 : Code := cdL c33n0_0
noncomputable def c33n0_2 : Code := cdR c33n0_0
noncomputable def c33n0_3 : Code := cdL c33n0_2
noncomputable def c33n0_4 : Code := cdL c33n0_3
noncomputable def c33n0_5 : Code := cdR c33n0_3
noncomputable def c33n0_6 : Code := cdL c33n0_5
noncomputable def c33n0_7 : Code := cdL c33n0_6
noncomputable def c33n0_8 : Code := cdR c33n0_6
noncomputable def c33n0_10 : Code := cdR c33n0_2
noncomputable def c33n0_9 : Code := cdR c33n0_5
noncomputable def r33n0_1 : Array Oper := cdO c33n0_1
noncomputable def r33n0_4 : Array Oper := cdO c33n0_4
noncomputable def r33n0_7 : Array Oper := cdO c33n0_7
theorem c33n0_0e : c33n0_0 = .seq c33n0_1 c33n0_2 := by kernel_rfl
theorem c33n0_1e : c33n0_1 = .region 0 r33n0_1 false := by kernel_rfl
theorem c33n0_2e : c33n0_2 = .seq c33n0_3 c33n0_10 := by kernel_rfl
theorem c33n0_3e : c33n0_3 = .seq c33n0_4 c33n0_5 := by kernel_rfl
theorem c33n0_4e : c33n0_4 = .region 1 r33n0_4 false := by kernel_rfl
theorem c33n0_5e : c33n0_5 = .cond (cdC c33n0_5) c33n0_6 c33n0_9 := by kernel_rfl
theorem c33n0_6e : c33n0_6 = .seq c33n0_7 c33n0_8 := by kernel_rfl
theorem c33n0_7e : c33n0_7 = .region 2 r33n0_7 false := by kernel_rfl
theorem c33n0_8e : c33n0_8 = .ret := by kernel_rfl
theorem c33n0_9e : c33n0_9 = .skip := by kernel_rfl
noncomputable def client_Client_Again_n0.R : Pst (T_api_Letter × Int) where
  ε := Option Addr × Nat
  v := fun r x => .tuple ⟨[.agg ⟨[.int .i64 r.1.Kind, .int .i64 r.1.From, .int .i64 r.1.To, .int .u64 r.1.Term, .int .u64 r.1.Index, .int .u64 r.1.Prev, .int .u64 r.1.Commit, .bool r.1.Ok, .slice x.1 r.1.Entries.length x.2, .string (bs r.1.Data)]⟩, .int .i64 r.2]⟩
  H := fun r x => []
  B := fun r x => [Rd 0 kT_api_Entry x.1 x.2 r.1.Entries]
noncomputable def client_Client_Again_n0.cx (w0 : World) (S0 : Fam) : Cx (T_api_Letter × Int) := ⟨Try.prog, 33, Try.f33, 25, w0, S0, [], 0, client_Client_Again_n0.R⟩
theorem client_Client_Again_n0_ok (n : Nat) :
    Meets Try.prog 33 [.pointer none] 0 [] [] [] (client_Client_Again_n0.f n) (client_Client_Again_n0.R) := by
  refine Meets.of (c := c33n0_0) (n := 25) Try.func33 (by kernel_rfl) (by kernel_rfl) (by kernel_rfl) fun w0 S0 => ?_
  unfold client_Client_Again_n0.f
  show GoO (client_Client_Again_n0.cx w0 S0) [(0, .pointer none)] [] [] [.code c33n0_0] _
  refine GoO.seq' c33n0_0e ?_
  refine GoO.region' (is := [0, 1]) c33n0_1e (by kernel_rfl) ?_
  refine OpTo.go (GoO.new rfl 40 (cs := [.int .i64 0, .int .i64 0, .int .i64 0, .int .u64 0, .int .u64 0, .int .u64 0, .int .u64 0, .bool false, .slice none ([] : List T_api_Entry).length 0, .string (bs [])]) (by kernel_rfl) _ (fun _ => rfl) (fun b_1 => ?_))
  refine GoO.exec (is := [1]) (hs := [.p]) (rest := []) (ks := [0, 2]) (env' := [(0, .pointer none), (2, .pointer (some ⟨b_1, 0, none⟩))]) (H' := [⟨40, b_1, [.int .i64 0, .int .i64 0, .int .i64 0, .int .u64 0, .int .u64 0, .int .u64 0, .int .u64 0, .bool false, .slice none ([] : List T_api_Entry).length 0, .string (bs [])]⟩]) (ps := []) (by kernel_rfl) trivial ?_
  refine GoO.regionEnd ?_
  refine GoO.seq' c33n0_2e ?_
  refine GoO.seq' c33n0_3e ?_
  refine GoO.region' (is := [0, 1, 2, 3, 4, 5, 6, 7, 8]) c33n0_4e (by kernel_rfl) ?_
  refine GoO.exec (is := [0, 1, 2, 3, 4, 5, 6, 7, 8]) (hs := [.p, .p, .p, .p, .p, .p, .p, .p, .p]) (rest := []) (ks := [0, 2, 12]) (env' := [(0, .pointer none), (2, .pointer (some ⟨b_1, 0, none⟩)), (12, .bool true)]) (H' := [⟨40, b_1, [.int .i64 0, .int .i64 0, .int .i64 0, .int .u64 0, .int .u64 0, .int .u64 0, .int .u64 0, .bool false, .slice none ([] : List T_api_Entry).length 0, .string (bs [])]⟩]) (ps := []) (by kernel_rfl) trivial ?_
  refine GoO.regionEnd ?_
  refine GoO.condT c33n0_5e (by kernel_rfl) ?_
  refine GoO.seq' c33n0_6e ?_
  refine GoO.region' (is := [0, 1, 2]) c33n0_7e (by kernel_rfl) ?_
  refine GoO.exec (is := [0, 1, 2]) (hs := [.p, .b 0, .p]) (rest := []) (ks := [2, 3]) (env' := [(2, .pointer (some ⟨b_1, 0, none⟩)), (3, .int .i64 1)]) (H' := [⟨40, b_1, [.int .i64 0, .int .i64 0, .int .i64 0, .int .u64 0, .int .u64 0, .int .u64 0, .int .u64 0, .bool false, .slice none ([] : List T_api_Entry).length 0, .string (bs [])]⟩]) (ps := [b_1 = b_1]) (by kernel_rfl) (And.intro rfl trivial) ?_
  refine GoO.regionEnd ?_
  refine GoO.nilRd kT_api_Entry ?_
  exact GoO.ret' (h := c33n0_8e) (hs := [0]) (ps := [b_1 = b_1]) (hk := []) (bk := [0]) Try.func33 (⟨none, 0⟩ : Option Addr × Nat) (by kernel_rfl) (And.intro rfl trivial) (by kernel_rfl) (by kernel_rfl)

/-! (*tontine/client.Client).Hear -/
noncomputable def c36n0_0 : Code := bodyOf Try.f36
noncomputable def c36n0_1 : Code := cdL c36n0_0
noncomputable def c36n0_2 : Code := cdR c36n0_0
noncomputable def c36n0_3 : Code := cdL c36n0_2
noncomputable def c36n0_4 : Code := cdR c36n0_2
noncomputable def c36n0_5 : Code := cdL c36n0_4
noncomputable def c36n0_6 : Code := cdL c36n0_5
noncomputable def c36n0_7 : Code := cdR c36n0_5
noncomputable def c36n0_8 : Code := cdL c36n0_7
noncomputable def c36n0_9 : Code := cdL c36n0_8
noncomputable def c36n0_10 : Code := cdR c36n0_8
noncomputable def c36n0_12 : Code := cdR c36n0_4
noncomputable def c36n0_11 : Code := cdR c36n0_7
noncomputable def r36n0_1 : Array Oper := cdO c36n0_1
noncomputable def r36n0_3 : Array Oper := cdO c36n0_3
noncomputable def r36n0_6 : Array Oper := cdO c36n0_6
noncomputable def r36n0_9 : Array Oper := cdO c36n0_9
theorem c36n0_0e : c36n0_0 = .seq c36n0_1 c36n0_2 := by kernel_rfl
theorem c36n0_1e : c36n0_1 = .region 0 r36n0_1 false := by kernel_rfl
theorem c36n0_2e : c36n0_2 = .seq c36n0_3 c36n0_4 := by kernel_rfl
theorem c36n0_3e : c36n0_3 = .region 1 r36n0_3 false := by kernel_rfl
theorem c36n0_4e : c36n0_4 = .seq c36n0_5 c36n0_12 := by kernel_rfl
theorem c36n0_5e : c36n0_5 = .seq c36n0_6 c36n0_7 := by kernel_rfl
theorem c36n0_6e : c36n0_6 = .region 2 r36n0_6 true := by kernel_rfl
theorem c36n0_7e : c36n0_7 = .cond (cdC c36n0_7) c36n0_8 c36n0_11 := by kernel_rfl
theorem c36n0_8e : c36n0_8 = .seq c36n0_9 c36n0_10 := by kernel_rfl
theorem c36n0_9e : c36n0_9 = .region 3 r36n0_9 true := by kernel_rfl
theorem c36n0_10e : c36n0_10 = .ret := by kernel_rfl
theorem c36n0_11e : c36n0_11 = .skip := by kernel_rfl
noncomputable def client_Client_Hear_n0.R (A_2 : Option Addr) (c_3 : Nat) : Pst (T_api_Told × Bool × T_api_Letter × Bool) where
  ε := Option Addr × Nat × Option Addr × Nat
  v := fun r x => .tuple ⟨[.agg ⟨[.int .i64 r.1.Client, .int .i64 r.1.Command.Kind, .int .u64 r.1.Command.Session, .int .u64 r.1.Command.Seq, .int .u64 r.1.Command.Saga, .slice x.1 r.1.Command.Steps.length x.2.1, .int .i64 r.1.Command.Step, .bool r.1.Command.Back, .int .i64 r.1.Command.Try, .bool r.1.Command.Ok, .int .u64 r.1.Command.Now, .int .i64 r.1.Reply.Err, .int .u64 r.1.Reply.Num, .int .u64 r.1.Reply.Extra]⟩, .bool r.2.1, .agg ⟨[.int .i64 r.2.2.1.Kind, .int .i64 r.2.2.1.From, .int .i64 r.2.2.1.To, .int .u64 r.2.2.1.Term, .int .u64 r.2.2.1.Index, .int .u64 r.2.2.1.Prev, .int .u64 r.2.2.1.Commit, .bool r.2.2.1.Ok, .slice x.2.2.1 r.2.2.1.Entries.length x.2.2.2, .string (bs r.2.2.1.Data)]⟩, .bool r.2.2.2]⟩
  H := fun r x => []
  B := fun r x => [Rd 0 kT_api_Step x.1 x.2.1 r.1.Command.Steps, Rd 0 kT_api_Entry x.2.2.1 x.2.2.2 r.2.2.1.Entries]
noncomputable def client_Client_Hear_n0.cx (A_2 : Option Addr) (c_3 : Nat) (w0 : World) (S0 : Fam) : Cx (T_api_Told × Bool × T_api_Letter × Bool) := ⟨Try.prog, 36, Try.f36, 145, w0, S0, [], 0, client_Client_Hear_n0.R A_2 c_3⟩
theorem client_Client_Hear_n0_ok (n : Nat) (x_1 : T_api_Letter) (A_2 : Option Addr) (c_3 : Nat) :
    Meets Try.prog 36 [.pointer none, .agg ⟨[.int .i64 x_1.Kind, .int .i64 x_1.From, .int .i64 x_1.To, .int .u64 x_1.Term, .int .u64 x_1.Index, .int .u64 x_1.Prev, .int .u64 x_1.Commit, .bool x_1.Ok, .slice A_2 x_1.Entries.length c_3, .string (bs x_1.Data)]⟩] 0 [] [] [Rd 0 kT_api_Entry A_2 c_3 x_1.Entries] (client_Client_Hear_n0.f n x_1) (client_Client_Hear_n0.R A_2 c_3) := by
  refine Meets.of (c := c36n0_0) (n := 145) Try.func36 (by kernel_rfl) (by kernel_rfl) (by kernel_rfl) fun w0 S0 => ?_
  unfold client_Client_Hear_n0.f
  show GoO (client_Client_Hear_n0.cx A_2 c_3 w0 S0) [(0, .pointer none), (1, .agg ⟨[.int .i64 x_1.Kind, .int .i64 x_1.From, .int .i64 x_1.To, .int .u64 x_1.Term, .int .u64 x_1.Index, .int .u64 x_1.Prev, .int .u64 x_1.Commit, .bool x_1.Ok, .slice A_2 x_1.Entries.length c_3, .string (bs x_1.Data)]⟩)] [] [Rd 0 kT_api_Entry A_2 c_3 x_1.Entries] [.code c36n0_0] _
  refine GoO.seq' c36n0_0e ?_
  refine GoO.region' (is := [0, 1, 2, 3, 4]) c36n0_1e (by kernel_rfl) ?_
  refine OpTo.go (GoO.new rfl 40 (cs := [.int .i64 x_1.Kind, .int .i64 x_1.From, .int .i64 x_1.To, .int .u64 x_1.Term, .int .u64 x_1.Index, .int .u64 x_1.Prev, .int .u64 x_1.Commit, .bool x_1.Ok, .slice A_2 x_1.Entries.length c_3, .string (bs x_1.Data)]) (by kernel_rfl) _ (fun _ => rfl) (fun b_4 => ?_))
  refine OpTo.go (GoO.new rfl 41 (cs := [.int .i64 0, .int .i64 0, .int .u64 0, .int .u64 0, .int .u64 0, .slice none ([] : List T_api_Step).length 0, .int .i64 0, .bool false, .int .i64 0, .bool false, .int .u64 0, .int .i64 0, .int .u64 0, .int .u64 0]) (by kernel_rfl) _ (fun _ => rfl) (fun b_5 => ?_))
  refine GoO.exec (is := [2]) (hs := [.p]) (rest := [3, 4]) (ks := [0, 3, 4]) (env' := [(0, .pointer none), (3, .pointer (some ⟨b_4, 0, none⟩)), (4, .pointer (some ⟨b_5, 0, none⟩))]) (H' := [⟨41, b_5, [.int .i64 0, .int .i64 0, .int .u64 0, .int .u64 0, .int .u64 0, .slice none ([] : List T_api_Step).length 0, .int .i64 0, .bool false, .int .i64 0, .bool false, .int .u64 0, .int .i64 0, .int .u64 0, .int .u64 0]⟩, ⟨40, b_4, [.int .i64 x_1.Kind, .int .i64 x_1.From, .int .i64 x_1.To, .int .u64 x_1.Term, .int .u64 x_1.Index, .int .u64 x_1.Prev, .int .u64 x_1.Commit, .bool x_1.Ok, .slice A_2 x_1.Entries.length c_3, .string (bs x_1.Data)]⟩]) (ps := []) (by kernel_rfl) trivial ?_
  refine OpTo.go (GoO.new rfl 42 (cs := [.int .i64 0, .int .i64 0, .int .i64 0, .int .u64 0, .int .u64 0, .int .u64 0, .int .u64 0, .bool false, .slice none ([] : List T_api_Entry).length 0, .string (bs [])]) (by kernel_rfl) _ (fun _ => rfl) (fun b_6 => ?_))
  refine GoO.exec (is := [4]) (hs := [.p]) (rest := []) (ks := [0, 3, 4, 6]) (env' := [(0, .pointer none), (3, .pointer (some ⟨b_4, 0, none⟩)), (4, .pointer (some ⟨b_5, 0, none⟩)), (6, .pointer (some ⟨b_6, 0, none⟩))]) (H' := [⟨42, b_6, [.int .i64 0, .int .i64 0, .int .i64 0, .int .u64 0, .int .u64 0, .int .u64 0, .int .u64 0, .bool false, .slice none ([] : List T_api_Entry).length 0, .string (bs [])]⟩, ⟨41, b_5, [.int .i64 0, .int .i64 0, .int .u64 0, .int .u64 0, .int .u64 0, .slice none ([] : List T_api_Step).length 0, .int .i64 0, .bool false, .int .i64 0, .bool false, .int .u64 0, .int .i64 0, .int .u64 0, .int .u64 0]⟩, ⟨40, b_4, [.int .i64 x_1.Kind, .int .i64 x_1.From, .int .i64 x_1.To, .int .u64 x_1.Term, .int .u64 x_1.Index, .int .u64 x_1.Prev, .int .u64 x_1.Commit, .bool x_1.Ok, .slice A_2 x_1.Entries.length c_3, .string (bs x_1.Data)]⟩]) (ps := []) (by kernel_rfl) trivial ?_
  refine GoO.regionEnd ?_
  refine GoO.seq' c36n0_2e ?_
  refine GoO.region' (is := [0, 1, 2]) c36n0_3e (by kernel_rfl) ?_
  refine GoO.exec (is := [0]) (hs := [.p]) (rest := [1, 2]) (ks := [0, 3, 4, 6, 11]) (env' := [(0, .pointer none), (3, .pointer (some ⟨b_4, 0, none⟩)), (4, .pointer (some ⟨b_5, 0, none⟩)), (6, .pointer (some ⟨b_6, 0, none⟩)), (11, .agg ⟨[.int .i64 0, .int .i64 0, .int .i64 0, .int .u64 0, .int .u64 0, .int .u64 0, .int .u64 0, .bool false, .slice none ([] : List T_api_Entry).length 0, .string (bs [])]⟩)]) (H' := [⟨42, b_6, [.int .i64 0, .int .i64 0, .int .i64 0, .int .u64 0, .int .u64 0, .int .u64 0, .int .u64 0, .bool false, .slice none ([] : List T_api_Entry).length 0, .string (bs [])]⟩, ⟨41, b_5, [.int .i64 0, .int .i64 0, .int .u64 0, .int .u64 0, .int .u64 0, .slice none ([] : List T_api_Step).length 0, .int .i64 0, .bool false, .int .i64 0, .bool false, .int .u64 0, .int .i64 0, .int .u64 0, .int .u64 0]⟩, ⟨40, b_4, [.int .i64 x_1.Kind, .int .i64 x_1.From, .int .i64 x_1.To, .int .u64 x_1.Term, .int .u64 x_1.Index, .int .u64 x_1.Prev, .int .u64 x_1.Commit, .bool x_1.Ok, .slice A_2 x_1.Entries.length c_3, .string (bs x_1.Data)]⟩]) (ps := []) (by kernel_rfl) trivial ?_
  refine OpTo.go (GoO.new rfl 43 (cs := [.int .i64 0, .int .i64 0, .int .i64 0, .int .u64 0, .int .u64 0, .int .u64 0, .int .u64 0, .bool false, .slice none ([] : List T_api_Entry).length 0, .string (bs [])]) (by kernel_rfl) _ (fun _ => rfl) (fun b_7 => ?_))
  refine GoO.exec (is := [2]) (hs := [.b 0]) (rest := []) (ks := [0, 3, 4, 6, 8]) (env' := [(0, .pointer none), (3, .pointer (some ⟨b_4, 0, none⟩)), (4, .pointer (some ⟨b_5, 0, none⟩)), (6, .pointer (some ⟨b_6, 0, none⟩)), (8, .pointer (some ⟨b_7, 0, none⟩))]) (H' := [⟨43, b_7, [.int .i64 0, .int .i64 0, .int .i64 0, .int .u64 0, .int .u64 0, .int .u64 0, .int .u64 0, .bool false, .slice none ([] : List T_api_Entry).length 0, .string (bs [])]⟩, ⟨42, b_6, [.int .i64 0, .int .i64 0, .int .i64 0, .int .u64 0, .int .u64 0, .int .u64 0, .int .u64 0, .bool false, .slice none ([] : List T_api_Entry).length 0, .string (bs [])]⟩, ⟨41, b_5, [.int .i64 0, .int .i64 0, .int .u64 0, .int .u64 0, .int .u64 0, .slice none ([] : List T_api_Step).length 0, .int .i64 0, .bool false, .int .i64 0, .bool false, .int .u64 0, .int .i64 0, .int .u64 0, .int .u64 0]⟩, ⟨40, b_4, [.int .i64 x_1.Kind, .int .i64 x_1.From, .int .i64 x_1.To, .int .u64 x_1.Term, .int .u64 x_1.Index, .int .u64 x_1.Prev, .int .u64 x_1.Commit, .bool x_1.Ok, .slice A_2 x_1.Entries.length c_3, .string (bs x_1.Data)]⟩]) (ps := [b_7 = b_7]) (by kernel_rfl) (And.intro rfl trivial) ?_
  refine GoO.regionEnd ?_
  refine GoO.seq' c36n0_4e ?_
  refine GoO.seq' c36n0_5e ?_
  refine GoO.draw c36n0_6e (by kernel_rfl) [] [] [] (n := 33) (by kernel_rfl) ?_
  simp only [List.replicate]
  refine GoF.take [0, 1, 2, 3, 4, 5, 6, 7, 8, 9, 10, 11, 12, 13, 14, 15, 16, 17, 18, 19, 20, 21, 22, 23, 24, 25, 26, 27, 28, 29, 30, 31, 32] [.p, .p, .p, .p, .p, .p, .p, .p, .p, .p, .p, .p, .p, .p, .p, .p, .p, .p, .p, .p, .p, .p, .p, .p, .p, .p, .p, .p, .p, .p, .p, .p, .p] (ks := [0, 3, 4, 6, 8, 44]) (fu := 0) (li := [true, true, true, true, true, true, true, true, true, true, true, true, true, true, true, true, true, true, true, true, true, true, true, true, true, true, true, true, true, true, true, true, true]) (env' := [(0, .pointer none), (3, .pointer (some ⟨b_4, 0, none⟩)), (4, .pointer (some ⟨b_5, 0, none⟩)), (6, .pointer (some ⟨b_6, 0, none⟩)), (8, .pointer (some ⟨b_7, 0, none⟩)), (44, .bool true)]) (ps := []) (hk := []) (bk := []) (by kernel_rfl) trivial rfl rfl ?_
  refine GoF.done (by kernel_rfl) ?_
  refine GoO.condT c36n0_7e (by kernel_rfl) ?_
  refine GoO.seq' c36n0_8e ?_
  refine GoO.draw c36n0_9e (by kernel_rfl) [4, 5] [⟨43, b_7, [.int .i64 0, .int .i64 0, .int .i64 0, .int .u64 0, .int .u64 0, .int .u64 0, .int .u64 0, .bool false, .slice none ([] : List T_api_Entry).length 0, .string (bs [])]⟩] [] (n := 6) (by kernel_rfl) ?_
  simp only [List.replicate]
  refine GoF.take [0, 1] [.p, .b 0] (ks := [4, 6, 45, 46]) (fu := 4) (li := [true, true, false, false, false, false]) (env' := [(4, .pointer (some ⟨b_5, 0, none⟩)), (6, .pointer (some ⟨b_6, 0, none⟩)), (45, .agg ⟨[.int .i64 0, .int .i64 0, .int .u64 0, .int .u64 0, .int .u64 0, .slice none ([] : List T_api_Step).length 0, .int .i64 0, .bool false, .int .i64 0, .bool false, .int .u64 0, .int .i64 0, .int .u64 0, .int .u64 0]⟩), (46, .agg ⟨[.int .i64 0, .int .i64 0, .int .i64 0, .int .u64 0, .int .u64 0, .int .u64 0, .int .u64 0, .bool false, .slice none ([] : List T_api_Entry).length 0, .string (bs [])]⟩)]) (ps := [b_7 = b_7]) (hk := [0]) (bk := []) (by kernel_rfl) (And.intro rfl trivial) rfl rfl ?_
  refine GoF.fin1 (i := 2) (hint := .b 2) (ps := [b_5 = b_5]) (hk := [0]) (bk := []) (by kernel_rfl) rfl (And.intro rfl trivial) (.inr ⟨rfl, rfl⟩) ?_
  refine GoF.take [3] [.p] (ks := [4, 5, 6, 46]) (fu := 2) (li := [true, true, true, true, false, false]) (env' := [(4, .pointer (some ⟨b_5, 0, none⟩)), (5, .bool false), (6, .pointer (some ⟨b_6, 0, none⟩)), (46, .agg ⟨[.int .i64 0, .int .i64 0, .int .i64 0, .int .u64 0, .int .u64 0, .int .u64 0, .int .u64 0, .bool false, .slice none ([] : List T_api_Entry).length 0, .string (bs [])]⟩)]) (ps := []) (hk := [0]) (bk := []) (by kernel_rfl) trivial rfl rfl ?_
  refine GoF.fin1 (i := 4) (hint := .b 1) (ps := [b_6 = b_6]) (hk := []) (bk := []) (by kernel_rfl) rfl (And.intro rfl trivial) (.inl rfl) ?_
  refine GoF.fin1 (i := 5) (hint := .p) (ps := []) (hk := []) (bk := []) (by kernel_rfl) rfl trivial (.inl rfl) ?_
  refine GoF.done (by kernel_rfl) ?_
  refine GoO.nilRd kT_api_Step ?_
  refine GoO.nilRd kT_api_Entry ?_
  exact GoO.ret' (h := c36n0_10e) (hs := [2, 1]) (ps := [b_5 = b_5, b_6 = b_6]) (hk := []) (bk := [1, 0]) Try.func36 (⟨none, 0, none, 0⟩ : Option Addr × Nat × Option Addr × Nat) (by kernel_rfl) (And.intro rfl (And.intro rfl trivial)) (by kernel_rfl) (by kernel_rfl)

/-! (*tontine/client.Client).Status -/
noncomputable def c39n0_0 : Code := bodyOf Try.f39
noncomputable def c39n0_1 : Code := cdL c39n0_0
noncomputable def c39n0_2 : Code := cdR c39n0_0
noncomputable def c39n0_3 : Code := cdL c39n0_2
noncomputable def c39n0_4 : Code := cdL c39n0_3
noncomputable def c39n0_5 : Code := cdR c39n0_3
noncomputable def c39n0_6 : Code := cdL c39n0_5
noncomputable def c39n0_7 : Code := cdL c39n0_6
noncomputable def c39n0_8 : Code := cdR c39n0_6
noncomputable def c39n0_10 : Code := cdR c39n0_2
noncomputable def c39n0_9 : Code := cdR c39n0_5
noncomputable def r39n0_1 : Array Oper := cdO c39n0_1
noncomputable def r39n0_4 : Array Oper := cdO c39n0_4
noncomputable def r39n0_7 : Array Oper := cdO c39n0_7
theorem c39n0_0e : c39n0_0 = .seq c39n0_1 c39n0_2 := by kernel_rfl
theorem c39n0_1e : c39n0_1 = .region 0 r39n0_1 false := by kernel_rfl
theorem c39n0_2e : c39n0_2 = .seq c39n0_3 c39n0_10 := by kernel_rfl
theorem c39n0_3e : c39n0_3 = .seq c39n0_4 c39n0_5 := by kernel_rfl
theorem c39n0_4e : c39n0_4 = .region 1 r39n0_4 false := by kernel_rfl
theorem c39n0_5e : c39n0_5 = .cond (cdC c39n0_5) c39n0_6 c39n0_9 := by kernel_rfl
theorem c39n0_6e : c39n0_6 = .seq c39n0_7 c39n0_8 := by kernel_rfl
theorem c39n0_7e : c39n0_7 = .region 2 r39n0_7 false := by kernel_rfl
theorem c39n0_8e : c39n0_8 = .ret := by kernel_rfl
theorem c39n0_9e : c39n0_9 = .skip := by kernel_rfl
noncomputable def client_Client_Status_n0.R : Pst (Int × Int × Bool) where
  ε := Unit
  v := fun r x => .tuple ⟨[.int .u64 r.1, .int .u64 r.2.1, .bool r.2.2]⟩
  H := fun r x => []
  B := fun r x => []
noncomputable def client_Client_Status_n0.cx (w0 : World) (S0 : Fam) : Cx (Int × Int × Bool) := ⟨Try.prog, 39, Try.f39, 19, w0, S0, [], 0, client_Client_Status_n0.R⟩
theorem client_Client_Status_n0_ok (n : Nat) :
    Meets Try.prog 39 [.pointer none] 0 [] [] [] (client_Client_Status_n0.f n) (client_Client_Status_n0.R) := by
  refine Meets.of (c := c39n0_0) (n := 19) Try.func39 (by kernel_rfl) (by kernel_rfl) (by kernel_rfl) fun w0 S0 => ?_
  unfold client_Client_Status_n0.f
  show GoO (client_Client_Status_n0.cx w0 S0) [(0, .pointer none)] [] [] [.code c39n0_0] _
  refine GoO.seq' c39n0_0e ?_
  refine GoO.region' (is := [0, 1, 2]) c39n0_1e (by kernel_rfl) ?_
  refine GoO.exec (is := [0, 1, 2]) (hs := [.p, .p, .p]) (rest := []) (ks := [0]) (env' := [(0, .pointer none)]) (H' := []) (ps := []) (by kernel_rfl) trivial ?_
  refine GoO.regionEnd ?_
  refine GoO.seq' c39n0_2e ?_
  refine GoO.seq' c39n0_3e ?_
  refine GoO.region' (is := [0, 1]) c39n0_4e (by kernel_rfl) ?_
  refine GoO.exec (is := [0, 1]) (hs := [.p, .p]) (rest := []) (ks := [0, 6]) (env' := [(0, .pointer none), (6, .bool true)]) (H' := []) (ps := []) (by kernel_rfl) trivial ?_
  refine GoO.regionEnd ?_
  refine GoO.condT c39n0_5e (by kernel_rfl) ?_
  refine GoO.seq' c39n0_6e ?_
  refine GoO.region' (is := [0, 1, 2]) c39n0_7e (by kernel_rfl) ?_
  refine GoO.exec (is := [0, 1, 2]) (hs := [.p, .p, .p]) (rest := []) (ks := [2, 3, 4]) (env' := [(2, .int .u64 0), (3, .int .u64 0), (4, .bool false)]) (H' := []) (ps := []) (by kernel_rfl) trivial ?_
  refine GoO.regionEnd ?_
  exact GoO.ret' (h := c39n0_8e) (hs := []) (ps := []) (hk := []) (bk := []) Try.func39 () (by kernel_rfl) trivial (by kernel_rfl) (by kernel_rfl)

/-! tontine/tontineref13.Same -/
noncomputable def c95_0 : Code := bodyOf Try.f95
noncomputable def c95_1 : Code := cdL c95_0
noncomputable def c95_2 : Code := cdR c95_0
noncomputable def c95_3 : Code := cdL c95_2
noncomputable def c95_4 : Code := cdL c95_3
noncomputable def c95_5 : Code := cdR c95_3
noncomputable def c95_6 : Code := cdL c95_5
noncomputable def c95_7 : Code := cdL c95_6
noncomputable def c95_8 : Code := cdR c95_6
noncomputable def c95_9 : Code := cdR c95_5
noncomputable def c95_10 : Code := cdR c95_2
noncomputable def c95_11 : Code := cdL c95_10
noncomputable def c95_12 : Code := cdL c95_11
noncomputable def c95_13 : Code := cdR c95_11
noncomputable def c95_14 : Code := cdL c95_13
noncomputable def c95_15 : Code := cdL c95_14
noncomputable def c95_16 : Code := cdL c95_15
noncomputable def c95_17 : Code := cdL c95_16
noncomputable def c95_18 : Code := cdR c95_16
noncomputable def c95_19 : Code := cdL c95_18
noncomputable def c95_20 : Code := cdR c95_18
noncomputable def c95_21 : Code := cdR c95_15
noncomputable def c95_22 : Code := cdL c95_21
noncomputable def c95_23 : Code := cdL c95_22
noncomputable def c95_24 : Code := cdL c95_23
noncomputable def c95_25 : Code := cdR c95_23
noncomputable def c95_26 : Code := cdL c95_25
noncomputable def c95_27 : Code := cdL c95_26
noncomputable def c95_28 : Code := cdR c95_26
noncomputable def c95_29 : Code := cdR c95_25
noncomputable def c95_30 : Code := cdR c95_21
noncomputable def c95_31 : Code := cdR c95_10
noncomputable def c95_32 : Code := cdL c95_31
noncomputable def c95_33 : Code := cdR c95_31
noncomputable def r95_1 : Array Oper := cdO c95_1
noncomputable def r95_4 : Array Oper := cdO c95_4
noncomputable def r95_7 : Array Oper := cdO c95_7
noncomputable def r95_12 : Array Oper := cdO c95_12
noncomputable def r95_17 : Array Oper := cdO c95_17
noncomputable def r95_24 : Array Oper := cdO c95_24
noncomputable def r95_27 : Array Oper := cdO c95_27
noncomputable def r95_30 : Array Oper := cdO c95_30
noncomputable def r95_32 : Array Oper := cdO c95_32
theorem c95_0e : c95_0 = .seq c95_1 c95_2 := by kernel_rfl
theorem c95_1e : c95_1 = .region 0 r95_1 false := by kernel_rfl
theorem c95_2e : c95_2 = .seq c95_3 c95_10 := by kernel_rfl
theorem c95_3e : c95_3 = .seq c95_4 c95_5 := by kernel_rfl
theorem c95_4e : c95_4 = .region 1 r95_4 false := by kernel_rfl
theorem c95_5e : c95_5 = .cond (cdC c95_5) c95_6 c95_9 := by kernel_rfl
theorem c95_6e : c95_6 = .seq c95_7 c95_8 := by kernel_rfl
theorem c95_7e : c95_7 = .region 2 r95_7 false := by kernel_rfl
theorem c95_8e : c95_8 = .ret := by kernel_rfl
theorem c95_9e : c95_9 = .skip := by kernel_rfl
theorem c95_10e : c95_10 = .seq c95_11 c95_31 := by kernel_rfl
theorem c95_11e : c95_11 = .seq c95_12 c95_13 := by kernel_rfl
theorem c95_12e : c95_12 = .region 3 r95_12 false := by kernel_rfl
theorem c95_13e : c95_13 = .block 0 c95_14 := by kernel_rfl
theorem c95_14e : c95_14 = .loop c95_15 := by kernel_rfl
theorem c95_15e : c95_15 = .seq c95_16 c95_21 := by kernel_rfl
theorem c95_16e : c95_16 = .seq c95_17 c95_18 := by kernel_rfl
theorem c95_17e : c95_17 = .region 4 r95_17 false := by kernel_rfl
theorem c95_18e : c95_18 = .cond (cdC c95_18) c95_19 c95_20 := by kernel_rfl
theorem c95_19e : c95_19 = .skip := by kernel_rfl
theorem c95_20e : c95_20 = .exit 0 := by kernel_rfl
theorem c95_21e : c95_21 = .seq c95_22 c95_30 := by kernel_rfl
theorem c95_22e : c95_22 = .block 1 c95_23 := by kernel_rfl
theorem c95_23e : c95_23 = .seq c95_24 c95_25 := by kernel_rfl
theorem c95_24e : c95_24 = .region 6 r95_24 true := by kernel_rfl
theorem c95_25e : c95_25 = .cond (cdC c95_25) c95_26 c95_29 := by kernel_rfl
theorem c95_26e : c95_26 = .seq c95_27 c95_28 := by kernel_rfl
theorem c95_27e : c95_27 = .region 7 r95_27 false := by kernel_rfl
theorem c95_28e : c95_28 = .ret := by kernel_rfl
theorem c95_29e : c95_29 = .skip := by kernel_rfl
theorem c95_30e : c95_30 = .region 5 r95_30 false := by kernel_rfl
theorem c95_31e : c95_31 = .seq c95_32 c95_33 := by kernel_rfl
theorem c95_32e : c95_32 = .region 8 r95_32 false := by kernel_rfl
theorem c95_33e : c95_33 = .ret := by kernel_rfl
noncomputable def tontineref13_Same.R (A_2 : Option Addr) (c_3 : Nat) (A_5 : Option Addr) (c_6 : Nat) : Pst Bool where
  ε := Unit
  v := fun r x => .bool r
  H := fun r x => []
  B := fun r x => []
noncomputable def tontineref13_Same.cx (A_2 : Option Addr) (c_3 : Nat) (A_5 : Option Addr) (c_6 : Nat) (w0 : World) (S0 : Fam) : Cx Bool := ⟨Try.prog, 95, Try.f95, 26, w0, S0, [], 0, tontineref13_Same.R A_2 c_3 A_5 c_6⟩
theorem tontineref13_Same_l0_ok (n : Nat) (a_1 : (List T_api_Step)) (b_4 : (List T_api_Step)) (A_2 : Option Addr) (c_3 : Nat) (A_5 : Option Addr) (c_6 : Nat) (w0 : World) (S0 : Fam) :
    ∀ (k : Nat) (i_8 : Int), GoO (tontineref13_Same.cx A_2 c_3 A_5 c_6 w0 S0) [(0, .slice A_2 a_1.length c_3), (1, .slice A_5 b_4.length c_6), (5, .int .i64 i_8)] [] [Rd 0 kT_api_Step A_2 c_3 a_1, Rd 0 kT_api_Step A_5 c_6 b_4] [.code c95_15, .inLoop c95_15, .inBlock 0, .code c95_31] (tontineref13_Same.l0 n a_1 b_4 k i_8) := by
  intro k
  induction k with
  | zero => intros; rw [tontineref13_Same.l0.eq_1]; exact GoO.stop
  | succ k ih0 =>
    intro i_8
    rw [tontineref13_Same.l0.eq_2]
    refine GoO.seq' c95_15e ?_
    refine GoO.seq' c95_16e ?_
    refine GoO.region' (is := [0, 1, 2, 3]) c95_17e (by kernel_rfl) ?_
    refine GoO.exec (is := [0, 1, 2, 3]) (hs := [.p, .p, .p, .p]) (rest := []) (ks := [0, 1, 5, 14]) (env' := [(0, .slice A_2 a_1.length c_3), (1, .slice A_5 b_4.length c_6), (5, .int .i64 i_8), (14, .bool (decide (i_8 < (a_1.length : Int))))]) (H' := []) (ps := []) (by kernel_rfl) trivial ?_
    refine GoO.regionEnd ?_
    refine GoO.ite' c95_18e (by kernel_rfl) (fun h9 => ?_) (fun h9 => ?_)
    · refine GoO.skip' c95_19e ?_
      refine GoO.seq' c95_21e ?_
      refine GoO.block' c95_22e ?_
      refine GoO.seq' c95_23e ?_
      refine GoO.draw c95_24e (by kernel_rfl) [] [] [Rd 0 kT_api_Step A_2 c_3 a_1, Rd 0 kT_api_Step A_5 c_6 b_4] (n := 9) (by kernel_rfl) ?_
      simp only [List.replicate]
      refine GoF.take [0, 1, 4, 5] [.p, .p, .p, .p] (ks := [0, 1, 5, 17, 18, 21, 22]) (fu := 5) (li := [true, true, false, false, true, true, false, false, false]) (env' := [(0, .slice A_2 a_1.length c_3), (1, .slice A_5 b_4.length c_6), (5, .int .i64 i_8), (17, .slice A_2 a_1.length c_3), (18, .int .i64 i_8), (21, .slice A_5 b_4.length c_6), (22, .int .i64 i_8)]) (ps := []) (hk := []) (bk := [0, 1]) (by kernel_rfl) trivial rfl rfl ?_
      refine GoF.guard (fun h10 => ?_)
      refine GoF.idx (i := 2) (hk := []) (bk := [0, 1]) (kk := .i64) (e := 160) (K := kT_api_Step) (A := A_2) (c := c_3) (xs := a_1) (iv := i_8) (j := 0) (by kernel_rfl) rfl rfl rfl (by kernel_rfl) (by kernel_rfl) (by kernel_rfl) (by kernel_rfl) rfl Reads.rd rfl h10.1 h10.2 (by decide) rfl ?_
      refine GoF.ldE (i := 3) (hk := []) (bk := [0, 1]) (K := kT_api_Step) (A := A_2) (c := c_3) (xs := a_1) (iN := i_8.toNat) (off := 0) (j := 0) (v := .agg ⟨[.int .i64 ((rdL a_1 i_8).Part), .string (bs ((rdL a_1 i_8).Name)), .int .i64 ((rdL a_1 i_8).Budget)]⟩) (by kernel_rfl) rfl rfl rfl (hK := rfl) (by kernel_rfl) rfl Reads.rd (by first | exact idx_lt h10.1 h10.2 | (simp only [List.length_set]; exact idx_lt h10.1 h10.2)) (by decide) (by kernel_rfl) rfl ?_
      refine GoF.guard (fun h11 => ?_)
      refine GoF.idx (i := 6) (hk := []) (bk := [0, 1]) (kk := .i64) (e := 160) (K := kT_api_Step) (A := A_5) (c := c_6) (xs := b_4) (iv := i_8) (j := 1) (by kernel_rfl) rfl rfl rfl (by kernel_rfl) (by kernel_rfl) (by kernel_rfl) (by kernel_rfl) rfl Reads.rd rfl h11.1 h11.2 (by decide) rfl ?_
      refine GoF.ldE (i := 7) (hk := []) (bk := [0, 1]) (K := kT_api_Step) (A := A_5) (c := c_6) (xs := b_4) (iN := i_8.toNat) (off := 0) (j := 1) (v := .agg ⟨[.int .i64 ((rdL b_4 i_8).Part), .string (bs ((rdL b_4 i_8).Name)), .int .i64 ((rdL b_4 i_8).Budget)]⟩) (by kernel_rfl) rfl rfl rfl (hK := rfl) (by kernel_rfl) rfl Reads.rd (by first | exact idx_lt h11.1 h11.2 | (simp only [List.length_set]; exact idx_lt h11.1 h11.2)) (by decide) (by kernel_rfl) rfl ?_
      refine GoF.take [8] [.p] (ks := [0, 1, 5, 25]) (fu := 0) (li := [true, true, true, true, true, true, true, true, true]) (env' := [(0, .slice A_2 a_1.length c_3), (1, .slice A_5 b_4.length c_6), (5, .int .i64 i_8), (25, .bool (!((((rdL a_1 i_8).Part) == ((rdL b_4 i_8).Part)) && ((((rdL a_1 i_8).Name) == ((rdL b_4 i_8).Name)) && ((((rdL a_1 i_8).Budget) == ((rdL b_4 i_8).Budget)) && true)))))]) (ps := []) (hk := []) (bk := [0, 1]) (by kernel_rfl) trivial rfl rfl ?_
      refine GoF.done (by kernel_rfl) ?_
      refine GoO.ite' c95_25e (by kernel_rfl) (fun h12 => ?_) (fun h12 => ?_)
      · refine GoO.seq' c95_26e ?_
        refine GoO.region' (is := [0]) c95_27e (by kernel_rfl) ?_
        refine GoO.exec (is := [0]) (hs := [.p]) (rest := []) (ks := [4]) (env' := [(4, .bool false)]) (H' := []) (ps := []) (by kernel_rfl) trivial ?_
        refine GoO.regionEnd ?_
        exact GoO.ret' (h := c95_28e) (hs := []) (ps := []) (hk := []) (bk := []) Try.func95 () (by kernel_rfl) trivial (by kernel_rfl) (by kernel_rfl)
      · refine GoO.skip' c95_29e ?_
        refine GoO.inBlock ?_
        refine GoO.region' (is := [0, 1, 2]) c95_30e (by kernel_rfl) ?_
        refine GoO.exec (is := [0, 1, 2]) (hs := [.p, .p, .p]) (rest := []) (ks := [0, 1, 5]) (env' := [(0, .slice A_2 a_1.length c_3), (1, .slice A_5 b_4.length c_6), (5, .int .i64 (wi64 (i_8 + 1)))]) (H' := []) (ps := []) (by kernel_rfl) trivial ?_
        refine GoO.regionEnd ?_
        refine GoO.inLoop ?_
        exact GoO.sub (ks := [0, 1, 5]) (hk := []) (bk := [0, 1]) (by kernel_rfl) (by kernel_rfl) (by kernel_rfl) (ih0 (wi64 (i_8 + 1)))
    · refine GoO.exit' c95_20e rfl ?_
      refine GoO.seq' c95_31e ?_
      refine GoO.region' (is := [0]) c95_32e (by kernel_rfl) ?_
      refine GoO.exec (is := [0]) (hs := [.p]) (rest := []) (ks := [4]) (env' := [(4, .bool true)]) (H' := []) (ps := []) (by kernel_rfl) trivial ?_
      refine GoO.regionEnd ?_
      exact GoO.ret' (h := c95_33e) (hs := []) (ps := []) (hk := []) (bk := []) Try.func95 () (by kernel_rfl) trivial (by kernel_rfl) (by kernel_rfl)
theorem tontineref13_Same_ok (n : Nat) (a_1 : (List T_api_Step)) (b_4 : (List T_api_Step)) (A_2 : Option Addr) (c_3 : Nat) (A_5 : Option Addr) (c_6 : Nat) :
    Meets Try.prog 95 [.slice A_2 a_1.length c_3, .slice A_5 b_4.length c_6] 0 [] [] [Rd 0 kT_api_Step A_2 c_3 a_1, Rd 0 kT_api_Step A_5 c_6 b_4] (tontineref13_Same.f n a_1 b_4) (tontineref13_Same.R A_2 c_3 A_5 c_6) := by
  refine Meets.of (c := c95_0) (n := 26) Try.func95 (by kernel_rfl) (by kernel_rfl) (by kernel_rfl) fun w0 S0 => ?_
  unfold tontineref13_Same.f
  show GoO (tontineref13_Same.cx A_2 c_3 A_5 c_6 w0 S0) [(0, .slice A_2 a_1.length c_3), (1, .slice A_5 b_4.length c_6)] [] [Rd 0 kT_api_Step A_2 c_3 a_1, Rd 0 kT_api_Step A_5 c_6 b_4] [.code c95_0] _
  refine GoO.seq' c95_0e ?_
  refine GoO.region' (is := [0]) c95_1e (by kernel_rfl) ?_
  refine GoO.exec (is := [0]) (hs := [.p]) (rest := []) (ks := [0, 1]) (env' := [(0, .slice A_2 a_1.length c_3), (1, .slice A_5 b_4.length c_6)]) (H' := []) (ps := []) (by kernel_rfl) trivial ?_
  refine GoO.regionEnd ?_
  refine GoO.seq' c95_2e ?_
  refine GoO.seq' c95_3e ?_
  refine GoO.region' (is := [0, 1, 2, 3, 4]) c95_4e (by kernel_rfl) ?_
  refine GoO.exec (is := [0, 1, 2, 3, 4]) (hs := [.p, .p, .p, .p, .p]) (rest := []) (ks := [0, 1, 10]) (env' := [(0, .slice A_2 a_1.length c_3), (1, .slice A_5 b_4.length c_6), (10, .bool ((a_1.length : Int) != (b_4.length : Int)))]) (H' := []) (ps := []) (by kernel_rfl) trivial ?_
  refine GoO.regionEnd ?_
  refine GoO.ite' c95_5e (by kernel_rfl) (fun h7 => ?_) (fun h7 => ?_)
  · refine GoO.seq' c95_6e ?_
    refine GoO.region' (is := [0]) c95_7e (by kernel_rfl) ?_
    refine GoO.exec (is := [0]) (hs := [.p]) (rest := []) (ks := [4]) (env' := [(4, .bool false)]) (H' := []) (ps := []) (by kernel_rfl) trivial ?_
    refine GoO.regionEnd ?_
    exact GoO.ret' (h := c95_8e) (hs := []) (ps := []) (hk := []) (bk := []) Try.func95 () (by kernel_rfl) trivial (by kernel_rfl) (by kernel_rfl)
  · refine GoO.skip' c95_9e ?_
    refine GoO.seq' c95_10e ?_
    refine GoO.seq' c95_11e ?_
    refine GoO.region' (is := [0]) c95_12e (by kernel_rfl) ?_
    refine GoO.exec (is := [0]) (hs := [.p]) (rest := []) (ks := [0, 1, 5]) (env' := [(0, .slice A_2 a_1.length c_3), (1, .slice A_5 b_4.length c_6), (5, .int .i64 0)]) (H' := []) (ps := []) (by kernel_rfl) trivial ?_
    refine GoO.regionEnd ?_
    refine GoO.block' c95_13e ?_
    refine GoO.loop' c95_14e ?_
    exact GoO.sub (ks := [0, 1, 5]) (hk := []) (bk := [0, 1]) (by kernel_rfl) (by kernel_rfl) (by kernel_rfl) (tontineref13_Same_l0_ok n a_1 b_4 A_2 c_3 A_5 c_6 w0 S0 n 0)

/-! tontine/tontineref16.Same -/
noncomputable def c79_0 : Code := bodyOf Try.f79
noncomputable def c79_1 : Code := cdL c79_0
noncomputable def c79_2 : Code := cdR c79_0
noncomputable def c79_3 : Code := cdL c79_2
noncomputable def c79_4 : Code := cdR c79_2
noncomputable def r79_1 : Array Oper := cdO c79_1
noncomputable def r79_3 : Array Oper := cdO c79_3
theorem c79_0e : c79_0 = .seq c79_1 c79_2 := by kernel_rfl
theorem c79_1e : c79_1 = .region 0 r79_1 false := by kernel_rfl
theorem c79_2e : c79_2 = .seq c79_3 c79_4 := by kernel_rfl
theorem c79_3e : c79_3 = .region 1 r79_3 false := by kernel_rfl
theorem c79_4e : c79_4 = .ret := by kernel_rfl
noncomputable def tontineref16_Same.R (A_2 : Option Addr) (c_3 : Nat) (A_5 : Option Addr) (c_6 : Nat) : Pst Bool where
  ε := Unit
  v := fun r x => .bool r
  H := fun r x => []
  B := fun r x => []
noncomputable def tontineref16_Same.cx (A_2 : Option Addr) (c_3 : Nat) (A_5 : Option Addr) (c_6 : Nat) (w0 : World) (S0 : Fam) : Cx Bool := ⟨Try.prog, 79, Try.f79, 73, w0, S0, [], 0, tontineref16_Same.R A_2 c_3 A_5 c_6⟩
theorem tontineref16_Same_ok (n : Nat) (a_1 : T_api_Command) (b_4 : T_api_Command) (A_2 : Option Addr) (c_3 : Nat) (A_5 : Option Addr) (c_6 : Nat) :
    Meets Try.prog 79 [.agg ⟨[.int .i64 a_1.Kind, .int .u64 a_1.Session, .int .u64 a_1.Seq, .int .u64 a_1.Saga, .slice A_2 a_1.Steps.length c_3, .int .i64 a_1.Step, .bool a_1.Back, .int .i64 a_1.Try, .bool a_1.Ok, .int .u64 a_1.Now]⟩, .agg ⟨[.int .i64 b_4.Kind, .int .u64 b_4.Session, .int .u64 b_4.Seq, .int .u64 b_4.Saga, .slice A_5 b_4.Steps.length c_6, .int .i64 b_4.Step, .bool b_4.Back, .int .i64 b_4.Try, .bool b_4.Ok, .int .u64 b_4.Now]⟩] 0 [] [] [Rd 0 kT_api_Step A_2 c_3 a_1.Steps, Rd 0 kT_api_Step A_5 c_6 b_4.Steps] (tontineref16_Same.f n a_1 b_4) (tontineref16_Same.R A_2 c_3 A_5 c_6) := by
  refine Meets.of (c := c79_0) (n := 73) Try.func79 (by kernel_rfl) (by kernel_rfl) (by kernel_rfl) fun w0 S0 => ?_
  unfold tontineref16_Same.f
  show GoO (tontineref16_Same.cx A_2 c_3 A_5 c_6 w0 S0) [(0, .agg ⟨[.int .i64 a_1.Kind, .int .u64 a_1.Session, .int .u64 a_1.Seq, .int .u64 a_1.Saga, .slice A_2 a_1.Steps.length c_3, .int .i64 a_1.Step, .bool a_1.Back, .int .i64 a_1.Try, .bool a_1.Ok, .int .u64 a_1.Now]⟩), (1, .agg ⟨[.int .i64 b_4.Kind, .int .u64 b_4.Session, .int .u64 b_4.Seq, .int .u64 b_4.Saga, .slice A_5 b_4.Steps.length c_6, .int .i64 b_4.Step, .bool b_4.Back, .int .i64 b_4.Try, .bool b_4.Ok, .int .u64 b_4.Now]⟩)] [] [Rd 0 kT_api_Step A_2 c_3 a_1.Steps, Rd 0 kT_api_Step A_5 c_6 b_4.Steps] [.code c79_0] _
  refine GoO.seq' c79_0e ?_
  refine GoO.region' (is := [0, 1, 2]) c79_1e (by kernel_rfl) ?_
  refine OpTo.go (GoO.new rfl 40 (cs := [.int .i64 a_1.Kind, .int .u64 a_1.Session, .int .u64 a_1.Seq, .int .u64 a_1.Saga, .slice A_2 a_1.Steps.length c_3, .int .i64 a_1.Step, .bool a_1.Back, .int .i64 a_1.Try, .bool a_1.Ok, .int .u64 a_1.Now]) (by kernel_rfl) _ (fun _ => rfl) (fun b_7 => ?_))
  refine OpTo.go (GoO.new rfl 41 (cs := [.int .i64 b_4.Kind, .int .u64 b_4.Session, .int .u64 b_4.Seq, .int .u64 b_4.Saga, .slice A_5 b_4.Steps.length c_6, .int .i64 b_4.Step, .bool b_4.Back, .int .i64 b_4.Try, .bool b_4.Ok, .int .u64 b_4.Now]) (by kernel_rfl) _ (fun _ => rfl) (fun b_8 => ?_))
  refine GoO.exec (is := [2]) (hs := [.p]) (rest := []) (ks := [2, 3]) (env' := [(2, .pointer (some ⟨b_7, 0, none⟩)), (3, .pointer (some ⟨b_8, 0, none⟩))]) (H' := [⟨41, b_8, [.int .i64 b_4.Kind, .int .u64 b_4.Session, .int .u64 b_4.Seq, .int .u64 b_4.Saga, .slice A_5 b_4.Steps.length c_6, .int .i64 b_4.Step, .bool b_4.Back, .int .i64 b_4.Try, .bool b_4.Ok, .int .u64 b_4.Now]⟩, ⟨40, b_7, [.int .i64 a_1.Kind, .int .u64 a_1.Session, .int .u64 a_1.Seq, .int .u64 a_1.Saga, .slice A_2 a_1.Steps.length c_3, .int .i64 a_1.Step, .bool a_1.Back, .int .i64 a_1.Try, .bool a_1.Ok, .int .u64 a_1.Now]⟩]) (ps := []) (by kernel_rfl) trivial ?_
  refine GoO.regionEnd ?_
  refine GoO.seq' c79_2e ?_
  refine GoO.region' (is := [0, 1, 2, 3, 4, 5, 6, 7, 8, 9, 10, 11, 12, 13, 14, 15, 16, 17, 18, 19, 20, 21, 22, 23, 24, 25, 26, 27, 28, 29, 30, 31, 32, 33, 34, 35, 36, 37, 38, 39, 40, 41, 42, 43, 44, 45, 46, 47, 48, 49, 50, 51, 52, 53, 54, 55, 56, 57, 58, 59, 60, 61, 62, 63, 64, 65, 66, 67, 68]) c79_3e (by kernel_rfl) ?_
  refine GoO.exec (is := [0, 1, 2, 3, 4, 5]) (hs := [.p, .b 1, .p, .b 0, .p, .p]) (rest := [6, 7, 8, 9, 10, 11, 12, 13, 14, 15, 16, 17, 18, 19, 20, 21, 22, 23, 24, 25, 26, 27, 28, 29, 30, 31, 32, 33, 34, 35, 36, 37, 38, 39, 40, 41, 42, 43, 44, 45, 46, 47, 48, 49, 50, 51, 52, 53, 54, 55, 56, 57, 58, 59, 60, 61, 62, 63, 64, 65, 66, 67, 68]) (ks := [2, 3, 10]) (env' := [(2, .pointer (some ⟨b_7, 0, none⟩)), (3, .pointer (some ⟨b_8, 0, none⟩)), (10, .bool (a_1.Kind == b_4.Kind))]) (H' := [⟨41, b_8, [.int .i64 b_4.Kind, .int .u64 b_4.Session, .int .u64 b_4.Seq, .int .u64 b_4.Saga, .slice A_5 b_4.Steps.length c_6, .int .i64 b_4.Step, .bool b_4.Back, .int .i64 b_4.Try, .bool b_4.Ok, .int .u64 b_4.Now]⟩, ⟨40, b_7, [.int .i64 a_1.Kind, .int .u64 a_1.Session, .int .u64 a_1.Seq, .int .u64 a_1.Saga, .slice A_2 a_1.Steps.length c_3, .int .i64 a_1.Step, .bool a_1.Back, .int .i64 a_1.Try, .bool a_1.Ok, .int .u64 a_1.Now]⟩]) (ps := [b_7 = b_7, b_8 = b_8]) (by kernel_rfl) (And.intro rfl (And.intro rfl trivial)) ?_
  refine GoO.bsplit (t := 10) (by kernel_rfl) (fun h9 => ?_) (fun h9 => ?_)
  · refine GoO.exec (is := [6, 7, 8, 9, 10, 11, 12]) (hs := [.p, .b 1, .p, .b 0, .p, .p, .p]) (rest := [13, 14, 15, 16, 17, 18, 19, 20, 21, 22, 23, 24, 25, 26, 27, 28, 29, 30, 31, 32, 33, 34, 35, 36, 37, 38, 39, 40, 41, 42, 43, 44, 45, 46, 47, 48, 49, 50, 51, 52, 53, 54, 55, 56, 57, 58, 59, 60, 61, 62, 63, 64, 65, 66, 67, 68]) (ks := [2, 3, 17]) (env' := [(2, .pointer (some ⟨b_7, 0, none⟩)), (3, .pointer (some ⟨b_8, 0, none⟩)), (17, .bool (a_1.Session == b_4.Session))]) (H' := [⟨41, b_8, [.int .i64 b_4.Kind, .int .u64 b_4.Session, .int .u64 b_4.Seq, .int .u64 b_4.Saga, .slice A_5 b_4.Steps.length c_6, .int .i64 b_4.Step, .bool b_4.Back, .int .i64 b_4.Try, .bool b_4.Ok, .int .u64 b_4.Now]⟩, ⟨40, b_7, [.int .i64 a_1.Kind, .int .u64 a_1.Session, .int .u64 a_1.Seq, .int .u64 a_1.Saga, .slice A_2 a_1.Steps.length c_3, .int .i64 a_1.Step, .bool a_1.Back, .int .i64 a_1.Try, .bool a_1.Ok, .int .u64 a_1.Now]⟩]) (ps := [b_7 = b_7, b_8 = b_8]) (by kernel_rfl) (And.intro rfl (And.intro rfl trivial)) ?_
    refine GoO.bsplit (t := 17) (by kernel_rfl) (fun h10 => ?_) (fun h10 => ?_)
    · refine GoO.exec (is := [13, 14, 15, 16, 17, 18, 19]) (hs := [.p, .b 1, .p, .b 0, .p, .p, .p]) (rest := [20, 21, 22, 23, 24, 25, 26, 27, 28, 29, 30, 31, 32, 33, 34, 35, 36, 37, 38, 39, 40, 41, 42, 43, 44, 45, 46, 47, 48, 49, 50, 51, 52, 53, 54, 55, 56, 57, 58, 59, 60, 61, 62, 63, 64, 65, 66, 67, 68]) (ks := [2, 3, 24]) (env' := [(2, .pointer (some ⟨b_7, 0, none⟩)), (3, .pointer (some ⟨b_8, 0, none⟩)), (24, .bool (a_1.Seq == b_4.Seq))]) (H' := [⟨41, b_8, [.int .i64 b_4.Kind, .int .u64 b_4.Session, .int .u64 b_4.Seq, .int .u64 b_4.Saga, .slice A_5 b_4.Steps.length c_6, .int .i64 b_4.Step, .bool b_4.Back, .int .i64 b_4.Try, .bool b_4.Ok, .int .u64 b_4.Now]⟩, ⟨40, b_7, [.int .i64 a_1.Kind, .int .u64 a_1.Session, .int .u64 a_1.Seq, .int .u64 a_1.Saga, .slice A_2 a_1.Steps.length c_3, .int .i64 a_1.Step, .bool a_1.Back, .int .i64 a_1.Try, .bool a_1.Ok, .int .u64 a_1.Now]⟩]) (ps := [b_7 = b_7, b_8 = b_8]) (by kernel_rfl) (And.intro rfl (And.intro rfl trivial)) ?_
      refine GoO.bsplit (t := 24) (by kernel_rfl) (fun h11 => ?_) (fun h11 => ?_)
      · refine GoO.exec (is := [20, 21, 22, 23, 24, 25, 26]) (hs := [.p, .b 1, .p, .b 0, .p, .p, .p]) (rest := [27, 28, 29, 30, 31, 32, 33, 34, 35, 36, 37, 38, 39, 40, 41, 42, 43, 44, 45, 46, 47, 48, 49, 50, 51, 52, 53, 54, 55, 56, 57, 58, 59, 60, 61, 62, 63, 64, 65, 66, 67, 68]) (ks := [2, 3, 31]) (env' := [(2, .pointer (some ⟨b_7, 0, none⟩)), (3, .pointer (some ⟨b_8, 0, none⟩)), (31, .bool (a_1.Saga == b_4.Saga))]) (H' := [⟨41, b_8, [.int .i64 b_4.Kind, .int .u64 b_4.Session, .int .u64 b_4.Seq, .int .u64 b_4.Saga, .slice A_5 b_4.Steps.length c_6, .int .i64 b_4.Step, .bool b_4.Back, .int .i64 b_4.Try, .bool b_4.Ok, .int .u64 b_4.Now]⟩, ⟨40, b_7, [.int .i64 a_1.Kind, .int .u64 a_1.Session, .int .u64 a_1.Seq, .int .u64 a_1.Saga, .slice A_2 a_1.Steps.length c_3, .int .i64 a_1.Step, .bool a_1.Back, .int .i64 a_1.Try, .bool a_1.Ok, .int .u64 a_1.Now]⟩]) (ps := [b_7 = b_7, b_8 = b_8]) (by kernel_rfl) (And.intro rfl (And.intro rfl trivial)) ?_
        refine GoO.bsplit (t := 31) (by kernel_rfl) (fun h12 => ?_) (fun h12 => ?_)
        · refine GoO.exec (is := [27, 28, 29, 30, 31, 32, 33]) (hs := [.p, .b 1, .p, .b 0, .p, .p, .p]) (rest := [34, 35, 36, 37, 38, 39, 40, 41, 42, 43, 44, 45, 46, 47, 48, 49, 50, 51, 52, 53, 54, 55, 56, 57, 58, 59, 60, 61, 62, 63, 64, 65, 66, 67, 68]) (ks := [2, 3, 38]) (env' := [(2, .pointer (some ⟨b_7, 0, none⟩)), (3, .pointer (some ⟨b_8, 0, none⟩)), (38, .bool (a_1.Step == b_4.Step))]) (H' := [⟨41, b_8, [.int .i64 b_4.Kind, .int .u64 b_4.Session, .int .u64 b_4.Seq, .int .u64 b_4.Saga, .slice A_5 b_4.Steps.length c_6, .int .i64 b_4.Step, .bool b_4.Back, .int .i64 b_4.Try, .bool b_4.Ok, .int .u64 b_4.Now]⟩, ⟨40, b_7, [.int .i64 a_1.Kind, .int .u64 a_1.Session, .int .u64 a_1.Seq, .int .u64 a_1.Saga, .slice A_2 a_1.Steps.length c_3, .int .i64 a_1.Step, .bool a_1.Back, .int .i64 a_1.Try, .bool a_1.Ok, .int .u64 a_1.Now]⟩]) (ps := [b_7 = b_7, b_8 = b_8]) (by kernel_rfl) (And.intro rfl (And.intro rfl trivial)) ?_
          refine GoO.bsplit (t := 38) (by kernel_rfl) (fun h13 => ?_) (fun h13 => ?_)
          · refine GoO.exec (is := [34, 35, 36, 37, 38, 39, 40]) (hs := [.p, .b 1, .p, .b 0, .p, .p, .p]) (rest := [41, 42, 43, 44, 45, 46, 47, 48, 49, 50, 51, 52, 53, 54, 55, 56, 57, 58, 59, 60, 61, 62, 63, 64, 65, 66, 67, 68]) (ks := [2, 3, 45]) (env' := [(2, .pointer (some ⟨b_7, 0, none⟩)), (3, .pointer (some ⟨b_8, 0, none⟩)), (45, .bool (a_1.Back == b_4.Back))]) (H' := [⟨41, b_8, [.int .i64 b_4.Kind, .int .u64 b_4.Session, .int .u64 b_4.Seq, .int .u64 b_4.Saga, .slice A_5 b_4.Steps.length c_6, .int .i64 b_4.Step, .bool b_4.Back, .int .i64 b_4.Try, .bool b_4.Ok, .int .u64 b_4.Now]⟩, ⟨40, b_7, [.int .i64 a_1.Kind, .int .u64 a_1.Session, .int .u64 a_1.Seq, .int .u64 a_1.Saga, .slice A_2 a_1.Steps.length c_3, .int .i64 a_1.Step, .bool a_1.Back, .int .i64 a_1.Try, .bool a_1.Ok, .int .u64 a_1.Now]⟩]) (ps := [b_7 = b_7, b_8 = b_8]) (by kernel_rfl) (And.intro rfl (And.intro rfl trivial)) ?_
            refine GoO.bsplit (t := 45) (by kernel_rfl) (fun h14 => ?_) (fun h14 => ?_)
            · refine GoO.exec (is := [41, 42, 43, 44, 45, 46, 47]) (hs := [.p, .b 1, .p, .b 0, .p, .p, .p]) (rest := [48, 49, 50, 51, 52, 53, 54, 55, 56, 57, 58, 59, 60, 61, 62, 63, 64, 65, 66, 67, 68]) (ks := [2, 3, 52]) (env' := [(2, .pointer (some ⟨b_7, 0, none⟩)), (3, .pointer (some ⟨b_8, 0, none⟩)), (52, .bool (a_1.Try == b_4.Try))]) (H' := [⟨41, b_8, [.int .i64 b_4.Kind, .int .u64 b_4.Session, .int .u64 b_4.Seq, .int .u64 b_4.Saga, .slice A_5 b_4.Steps.length c_6, .int .i64 b_4.Step, .bool b_4.Back, .int .i64 b_4.Try, .bool b_4.Ok, .int .u64 b_4.Now]⟩, ⟨40, b_7, [.int .i64 a_1.Kind, .int .u64 a_1.Session, .int .u64 a_1.Seq, .int .u64 a_1.Saga, .slice A_2 a_1.Steps.length c_3, .int .i64 a_1.Step, .bool a_1.Back, .int .i64 a_1.Try, .bool a_1.Ok, .int .u64 a_1.Now]⟩]) (ps := [b_7 = b_7, b_8 = b_8]) (by kernel_rfl) (And.intro rfl (And.intro rfl trivial)) ?_
              refine GoO.bsplit (t := 52) (by kernel_rfl) (fun h15 => ?_) (fun h15 => ?_)
              · refine GoO.exec (is := [48, 49, 50, 51, 52, 53, 54]) (hs := [.p, .b 1, .p, .b 0, .p, .p, .p]) (rest := [55, 56, 57, 58, 59, 60, 61, 62, 63, 64, 65, 66, 67, 68]) (ks := [2, 3, 59]) (env' := [(2, .pointer (some ⟨b_7, 0, none⟩)), (3, .pointer (some ⟨b_8, 0, none⟩)), (59, .bool (a_1.Ok == b_4.Ok))]) (H' := [⟨41, b_8, [.int .i64 b_4.Kind, .int .u64 b_4.Session, .int .u64 b_4.Seq, .int .u64 b_4.Saga, .slice A_5 b_4.Steps.length c_6, .int .i64 b_4.Step, .bool b_4.Back, .int .i64 b_4.Try, .bool b_4.Ok, .int .u64 b_4.Now]⟩, ⟨40, b_7, [.int .i64 a_1.Kind, .int .u64 a_1.Session, .int .u64 a_1.Seq, .int .u64 a_1.Saga, .slice A_2 a_1.Steps.length c_3, .int .i64 a_1.Step, .bool a_1.Back, .int .i64 a_1.Try, .bool a_1.Ok, .int .u64 a_1.Now]⟩]) (ps := [b_7 = b_7, b_8 = b_8]) (by kernel_rfl) (And.intro rfl (And.intro rfl trivial)) ?_
                refine GoO.bsplit (t := 59) (by kernel_rfl) (fun h16 => ?_) (fun h16 => ?_)
                · refine GoO.exec (is := [55, 56, 57, 58, 59, 60, 61]) (hs := [.p, .b 1, .p, .b 0, .p, .p, .p]) (rest := [62, 63, 64, 65, 66, 67, 68]) (ks := [2, 3, 66]) (env' := [(2, .pointer (some ⟨b_7, 0, none⟩)), (3, .pointer (some ⟨b_8, 0, none⟩)), (66, .bool (a_1.Now == b_4.Now))]) (H' := [⟨41, b_8, [.int .i64 b_4.Kind, .int .u64 b_4.Session, .int .u64 b_4.Seq, .int .u64 b_4.Saga, .slice A_5 b_4.Steps.length c_6, .int .i64 b_4.Step, .bool b_4.Back, .int .i64 b_4.Try, .bool b_4.Ok, .int .u64 b_4.Now]⟩, ⟨40, b_7, [.int .i64 a_1.Kind, .int .u64 a_1.Session, .int .u64 a_1.Seq, .int .u64 a_1.Saga, .slice A_2 a_1.Steps.length c_3, .int .i64 a_1.Step, .bool a_1.Back, .int .i64 a_1.Try, .bool a_1.Ok, .int .u64 a_1.Now]⟩]) (ps := [b_7 = b_7, b_8 = b_8]) (by kernel_rfl) (And.intro rfl (And.intro rfl trivial)) ?_
                  refine GoO.bsplit (t := 66) (by kernel_rfl) (fun h17 => ?_) (fun h17 => ?_)
                  · refine GoO.exec (is := [62, 63, 64, 65]) (hs := [.p, .b 1, .p, .b 0]) (rest := [66, 67, 68]) (ks := [66, 68, 70]) (env' := [(66, .bool true), (68, .slice A_2 a_1.Steps.length c_3), (70, .slice A_5 b_4.Steps.length c_6)]) (H' := [⟨41, b_8, [.int .i64 b_4.Kind, .int .u64 b_4.Session, .int .u64 b_4.Seq, .int .u64 b_4.Saga, .slice A_5 b_4.Steps.length c_6, .int .i64 b_4.Step, .bool b_4.Back, .int .i64 b_4.Try, .bool b_4.Ok, .int .u64 b_4.Now]⟩, ⟨40, b_7, [.int .i64 a_1.Kind, .int .u64 a_1.Session, .int .u64 a_1.Seq, .int .u64 a_1.Saga, .slice A_2 a_1.Steps.length c_3, .int .i64 a_1.Step, .bool a_1.Back, .int .i64 a_1.Try, .bool a_1.Ok, .int .u64 a_1.Now]⟩]) (ps := [b_7 = b_7, b_8 = b_8]) (by kernel_rfl) (And.intro rfl (And.intro rfl trivial)) ?_
                    refine OpTo.go (GoO.call rfl (by kernel_rfl) (by kernel_rfl) (tontineref13_Same_ok n a_1.Steps b_4.Steps A_2 c_3 A_5 c_6) [[0]] [] [] [(0, 0), (0, 1)] (hks := [0, 1]) (bks := [0, 1]) (by kernel_rfl) (by kernel_rfl) (by kernel_rfl) (.inl rfl) rfl rfl (by kernel_rfl) (by kernel_rfl) _ (fun _ _ => rfl) _ _ (fun _ _ => rfl) (fun _ _ => rfl) (fun _ _ => by kernel_rfl) (fun _ _ => by kernel_rfl) (fun r_18 x_19 => ?_))
                    refine GoO.shape (env' := [(66, .bool true), (68, .slice A_2 a_1.Steps.length c_3), (70, .slice A_5 b_4.Steps.length c_6), (71, .bool r_18)]) (H' := [⟨41, b_8, [.int .i64 b_4.Kind, .int .u64 b_4.Session, .int .u64 b_4.Seq, .int .u64 b_4.Saga, .slice A_5 b_4.Steps.length c_6, .int .i64 b_4.Step, .bool b_4.Back, .int .i64 b_4.Try, .bool b_4.Ok, .int .u64 b_4.Now]⟩, ⟨40, b_7, [.int .i64 a_1.Kind, .int .u64 a_1.Session, .int .u64 a_1.Seq, .int .u64 a_1.Saga, .slice A_2 a_1.Steps.length c_3, .int .i64 a_1.Step, .bool a_1.Back, .int .i64 a_1.Try, .bool a_1.Ok, .int .u64 a_1.Now]⟩]) (B' := [Rd 0 kT_api_Step A_2 c_3 a_1.Steps, Rd 0 kT_api_Step A_5 c_6 b_4.Steps]) (ks := [66, 68, 70, 71]) (by kernel_rfl) (by kernel_rfl) (by kernel_rfl) ?_
                    refine GoO.exec (is := [67, 68]) (hs := [.p, .p]) (rest := []) (ks := [4]) (env' := [(4, .bool r_18)]) (H' := [⟨41, b_8, [.int .i64 b_4.Kind, .int .u64 b_4.Session, .int .u64 b_4.Seq, .int .u64 b_4.Saga, .slice A_5 b_4.Steps.length c_6, .int .i64 b_4.Step, .bool b_4.Back, .int .i64 b_4.Try, .bool b_4.Ok, .int .u64 b_4.Now]⟩, ⟨40, b_7, [.int .i64 a_1.Kind, .int .u64 a_1.Session, .int .u64 a_1.Seq, .int .u64 a_1.Saga, .slice A_2 a_1.Steps.length c_3, .int .i64 a_1.Step, .bool a_1.Back, .int .i64 a_1.Try, .bool a_1.Ok, .int .u64 a_1.Now]⟩]) (ps := []) (by kernel_rfl) trivial ?_
                    refine GoO.regionEnd ?_
                    exact GoO.ret' (h := c79_4e) (hs := []) (ps := []) (hk := []) (bk := []) Try.func79 () (by kernel_rfl) trivial (by kernel_rfl) (by kernel_rfl)
                  · refine GoO.exec (is := [62, 63, 64, 65, 66, 67, 68]) (hs := [.p, .p, .p, .p, .p, .p, .p]) (rest := []) (ks := [4]) (env' := [(4, .bool false)]) (H' := [⟨41, b_8, [.int .i64 b_4.Kind, .int .u64 b_4.Session, .int .u64 b_4.Seq, .int .u64 b_4.Saga, .slice A_5 b_4.Steps.length c_6, .int .i64 b_4.Step, .bool b_4.Back, .int .i64 b_4.Try, .bool b_4.Ok, .int .u64 b_4.Now]⟩, ⟨40, b_7, [.int .i64 a_1.Kind, .int .u64 a_1.Session, .int .u64 a_1.Seq, .int .u64 a_1.Saga, .slice A_2 a_1.Steps.length c_3, .int .i64 a_1.Step, .bool a_1.Back, .int .i64 a_1.Try, .bool a_1.Ok, .int .u64 a_1.Now]⟩]) (ps := []) (by kernel_rfl) trivial ?_
                    refine GoO.regionEnd ?_
                    exact GoO.ret' (h := c79_4e) (hs := []) (ps := []) (hk := []) (bk := []) Try.func79 () (by kernel_rfl) trivial (by kernel_rfl) (by kernel_rfl)
                · refine GoO.exec (is := [55, 56, 57, 58, 59, 60, 61, 62, 63, 64, 65, 66, 67, 68]) (hs := [.p, .p, .p, .p, .p, .p, .p, .p, .p, .p, .p, .p, .p, .p]) (rest := []) (ks := [4]) (env' := [(4, .bool false)]) (H' := [⟨41, b_8, [.int .i64 b_4.Kind, .int .u64 b_4.Session, .int .u64 b_4.Seq, .int .u64 b_4.Saga, .slice A_5 b_4.Steps.length c_6, .int .i64 b_4.Step, .bool b_4.Back, .int .i64 b_4.Try, .bool b_4.Ok, .int .u64 b_4.Now]⟩, ⟨40, b_7, [.int .i64 a_1.Kind, .int .u64 a_1.Session, .int .u64 a_1.Seq, .int .u64 a_1.Saga, .slice A_2 a_1.Steps.length c_3, .int .i64 a_1.Step, .bool a_1.Back, .int .i64 a_1.Try, .bool a_1.Ok, .int .u64 a_1.Now]⟩]) (ps := []) (by kernel_rfl) trivial ?_
                  refine GoO.regionEnd ?_
                  exact GoO.ret' (h := c79_4e) (hs := []) (ps := []) (hk := []) (bk := []) Try.func79 () (by kernel_rfl) trivial (by kernel_rfl) (by kernel_rfl)
              · refine GoO.exec (is := [48, 49, 50, 51, 52, 53, 54, 55, 56, 57, 58, 59, 60, 61, 62, 63, 64, 65, 66, 67, 68]) (hs := [.p, .p, .p, .p, .p, .p, .p, .p, .p, .p, .p, .p, .p, .p, .p, .p, .p, .p, .p, .p, .p]) (rest := []) (ks := [4]) (env' := [(4, .bool false)]) (H' := [⟨41, b_8, [.int .i64 b_4.Kind, .int .u64 b_4.Session, .int .u64 b_4.Seq, .int .u64 b_4.Saga, .slice A_5 b_4.Steps.length c_6, .int .i64 b_4.Step, .bool b_4.Back, .int .i64 b_4.Try, .bool b_4.Ok, .int .u64 b_4.Now]⟩, ⟨40, b_7, [.int .i64 a_1.Kind, .int .u64 a_1.Session, .int .u64 a_1.Seq, .int .u64 a_1.Saga, .slice A_2 a_1.Steps.length c_3, .int .i64 a_1.Step, .bool a_1.Back, .int .i64 a_1.Try, .bool a_1.Ok, .int .u64 a_1.Now]⟩]) (ps := []) (by kernel_rfl) trivial ?_
                refine GoO.regionEnd ?_
                exact GoO.ret' (h := c79_4e) (hs := []) (ps := []) (hk := []) (bk := []) Try.func79 () (by kernel_rfl) trivial (by kernel_rfl) (by kernel_rfl)
            · refine GoO.exec (is := [41, 42, 43, 44, 45, 46, 47, 48, 49, 50, 51, 52, 53, 54, 55, 56, 57, 58, 59, 60, 61, 62, 63, 64, 65, 66, 67, 68]) (hs := [.p, .p, .p, .p, .p, .p, .p, .p, .p, .p, .p, .p, .p, .p, .p, .p, .p, .p, .p, .p, .p, .p, .p, .p, .p, .p, .p, .p]) (rest := []) (ks := [4]) (env' := [(4, .bool false)]) (H' := [⟨41, b_8, [.int .i64 b_4.Kind, .int .u64 b_4.Session, .int .u64 b_4.Seq, .int .u64 b_4.Saga, .slice A_5 b_4.Steps.length c_6, .int .i64 b_4.Step, .bool b_4.Back, .int .i64 b_4.Try, .bool b_4.Ok, .int .u64 b_4.Now]⟩, ⟨40, b_7, [.int .i64 a_1.Kind, .int .u64 a_1.Session, .int .u64 a_1.Seq, .int .u64 a_1.Saga, .slice A_2 a_1.Steps.length c_3, .int .i64 a_1.Step, .bool a_1.Back, .int .i64 a_1.Try, .bool a_1.Ok, .int .u64 a_1.Now]⟩]) (ps := []) (by kernel_rfl) trivial ?_
              refine GoO.regionEnd ?_
              exact GoO.ret' (h := c79_4e) (hs := []) (ps := []) (hk := []) (bk := []) Try.func79 () (by kernel_rfl) trivial (by kernel_rfl) (by kernel_rfl)
          · refine GoO.exec (is := [34, 35, 36, 37, 38, 39, 40, 41, 42, 43, 44, 45, 46, 47, 48, 49, 50, 51, 52, 53, 54, 55, 56, 57, 58, 59, 60, 61, 62, 63, 64, 65, 66, 67, 68]) (hs := [.p, .p, .p, .p, .p, .p, .p, .p, .p, .p, .p, .p, .p, .p, .p, .p, .p, .p, .p, .p, .p, .p, .p, .p, .p, .p, .p, .p, .p, .p, .p, .p, .p, .p, .p]) (rest := []) (ks := [4]) (env' := [(4, .bool false)]) (H' := [⟨41, b_8, [.int .i64 b_4.Kind, .int .u64 b_4.Session, .int .u64 b_4.Seq, .int .u64 b_4.Saga, .slice A_5 b_4.Steps.length c_6, .int .i64 b_4.Step, .bool b_4.Back, .int .i64 b_4.Try, .bool b_4.Ok, .int .u64 b_4.Now]⟩, ⟨40, b_7, [.int .i64 a_1.Kind, .int .u64 a_1.Session, .int .u64 a_1.Seq, .int .u64 a_1.Saga, .slice A_2 a_1.Steps.length c_3, .int .i64 a_1.Step, .bool a_1.Back, .int .i64 a_1.Try, .bool a_1.Ok, .int .u64 a_1.Now]⟩]) (ps := []) (by kernel_rfl) trivial ?_
            refine GoO.regionEnd ?_
            exact GoO.ret' (h := c79_4e) (hs := []) (ps := []) (hk := []) (bk := []) Try.func79 () (by kernel_rfl) trivial (by kernel_rfl) (by kernel_rfl)
        · refine GoO.exec (is := [27, 28, 29, 30, 31, 32, 33, 34, 35, 36, 37, 38, 39, 40, 41, 42, 43, 44, 45, 46, 47, 48, 49, 50, 51, 52, 53, 54, 55, 56, 57, 58, 59, 60, 61, 62, 63, 64, 65, 66, 67, 68]) (hs := [.p, .p, .p, .p, .p, .p, .p, .p, .p, .p, .p, .p, .p, .p, .p, .p, .p, .p, .p, .p, .p, .p, .p, .p, .p, .p, .p, .p, .p, .p, .p, .p, .p, .p, .p, .p, .p, .p, .p, .p, .p, .p]) (rest := []) (ks := [4]) (env' := [(4, .bool false)]) (H' := [⟨41, b_8, [.int .i64 b_4.Kind, .int .u64 b_4.Session, .int .u64 b_4.Seq, .int .u64 b_4.Saga, .slice A_5 b_4.Steps.length c_6, .int .i64 b_4.Step, .bool b_4.Back, .int .i64 b_4.Try, .bool b_4.Ok, .int .u64 b_4.Now]⟩, ⟨40, b_7, [.int .i64 a_1.Kind, .int .u64 a_1.Session, .int .u64 a_1.Seq, .int .u64 a_1.Saga, .slice A_2 a_1.Steps.length c_3, .int .i64 a_1.Step, .bool a_1.Back, .int .i64 a_1.Try, .bool a_1.Ok, .int .u64 a_1.Now]⟩]) (ps := []) (by kernel_rfl) trivial ?_
          refine GoO.regionEnd ?_
          exact GoO.ret' (h := c79_4e) (hs := []) (ps := []) (hk := []) (bk := []) Try.func79 () (by kernel_rfl) trivial (by kernel_rfl) (by kernel_rfl)
      · refine GoO.exec (is := [20, 21, 22, 23, 24, 25, 26, 27, 28, 29, 30, 31, 32, 33, 34, 35, 36, 37, 38, 39, 40, 41, 42, 43, 44, 45, 46, 47, 48, 49, 50, 51, 52, 53, 54, 55, 56, 57, 58, 59, 60, 61, 62, 63, 64, 65, 66, 67, 68]) (hs := [.p, .p, .p, .p, .p, .p, .p, .p, .p, .p, .p, .p, .p, .p, .p, .p, .p, .p, .p, .p, .p, .p, .p, .p, .p, .p, .p, .p, .p, .p, .p, .p, .p, .p, .p, .p, .p, .p, .p, .p, .p, .p, .p, .p, .p, .p, .p, .p, .p]) (rest := []) (ks := [4]) (env' := [(4, .bool false)]) (H' := [⟨41, b_8, [.int .i64 b_4.Kind, .int .u64 b_4.Session, .int .u64 b_4.Seq, .int .u64 b_4.Saga, .slice A_5 b_4.Steps.length c_6, .int .i64 b_4.Step, .bool b_4.Back, .int .i64 b_4.Try, .bool b_4.Ok, .int .u64 b_4.Now]⟩, ⟨40, b_7, [.int .i64 a_1.Kind, .int .u64 a_1.Session, .int .u64 a_1.Seq, .int .u64 a_1.Saga, .slice A_2 a_1.Steps.length c_3, .int .i64 a_1.Step, .bool a_1.Back, .int .i64 a_1.Try, .bool a_1.Ok, .int .u64 a_1.Now]⟩]) (ps := []) (by kernel_rfl) trivial ?_
        refine GoO.regionEnd ?_
        exact GoO.ret' (h := c79_4e) (hs := []) (ps := []) (hk := []) (bk := []) Try.func79 () (by kernel_rfl) trivial (by kernel_rfl) (by kernel_rfl)
    · refine GoO.exec (is := [13, 14, 15, 16, 17, 18, 19, 20, 21, 22, 23, 24, 25, 26, 27, 28, 29, 30, 31, 32, 33, 34, 35, 36, 37, 38, 39, 40, 41, 42, 43, 44, 45, 46, 47, 48, 49, 50, 51, 52, 53, 54, 55, 56, 57, 58, 59, 60, 61, 62, 63, 64, 65, 66, 67, 68]) (hs := [.p, .p, .p, .p, .p, .p, .p, .p, .p, .p, .p, .p, .p, .p, .p, .p, .p, .p, .p, .p, .p, .p, .p, .p, .p, .p, .p, .p, .p, .p, .p, .p, .p, .p, .p, .p, .p, .p, .p, .p, .p, .p, .p, .p, .p, .p, .p, .p, .p, .p, .p, .p, .p, .p, .p, .p]) (rest := []) (ks := [4]) (env' := [(4, .bool false)]) (H' := [⟨41, b_8, [.int .i64 b_4.Kind, .int .u64 b_4.Session, .int .u64 b_4.Seq, .int .u64 b_4.Saga, .slice A_5 b_4.Steps.length c_6, .int .i64 b_4.Step, .bool b_4.Back, .int .i64 b_4.Try, .bool b_4.Ok, .int .u64 b_4.Now]⟩, ⟨40, b_7, [.int .i64 a_1.Kind, .int .u64 a_1.Session, .int .u64 a_1.Seq, .int .u64 a_1.Saga, .slice A_2 a_1.Steps.length c_3, .int .i64 a_1.Step, .bool a_1.Back, .int .i64 a_1.Try, .bool a_1.Ok, .int .u64 a_1.Now]⟩]) (ps := []) (by kernel_rfl) trivial ?_
      refine GoO.regionEnd ?_
      exact GoO.ret' (h := c79_4e) (hs := []) (ps := []) (hk := []) (bk := []) Try.func79 () (by kernel_rfl) trivial (by kernel_rfl) (by kernel_rfl)
  · refine GoO.exec (is := [6, 7, 8, 9, 10, 11, 12, 13, 14, 15, 16, 17, 18, 19, 20, 21, 22, 23, 24, 25, 26, 27, 28, 29, 30, 31, 32, 33, 34, 35, 36, 37, 38, 39, 40, 41, 42, 43, 44, 45, 46, 47, 48, 49, 50, 51, 52, 53, 54, 55, 56, 57, 58, 59, 60, 61, 62, 63, 64, 65, 66, 67, 68]) (hs := [.p, .p, .p, .p, .p, .p, .p, .p, .p, .p, .p, .p, .p, .p, .p, .p, .p, .p, .p, .p, .p, .p, .p, .p, .p, .p, .p, .p, .p, .p, .p, .p, .p, .p, .p, .p, .p, .p, .p, .p, .p, .p, .p, .p, .p, .p, .p, .p, .p, .p, .p, .p, .p, .p, .p, .p, .p, .p, .p, .p, .p, .p, .p]) (rest := []) (ks := [4]) (env' := [(4, .bool false)]) (H' := [⟨41, b_8, [.int .i64 b_4.Kind, .int .u64 b_4.Session, .int .u64 b_4.Seq, .int .u64 b_4.Saga, .slice A_5 b_4.Steps.length c_6, .int .i64 b_4.Step, .bool b_4.Back, .int .i64 b_4.Try, .bool b_4.Ok, .int .u64 b_4.Now]⟩, ⟨40, b_7, [.int .i64 a_1.Kind, .int .u64 a_1.Session, .int .u64 a_1.Seq, .int .u64 a_1.Saga, .slice A_2 a_1.Steps.length c_3, .int .i64 a_1.Step, .bool a_1.Back, .int .i64 a_1.Try, .bool a_1.Ok, .int .u64 a_1.Now]⟩]) (ps := []) (by kernel_rfl) trivial ?_
    refine GoO.regionEnd ?_
    exact GoO.ret' (h := c79_4e) (hs := []) (ps := []) (hk := []) (bk := []) Try.func79 () (by kernel_rfl) trivial (by kernel_rfl) (by kernel_rfl)

/-! tontine/tontineref21.Same -/
noncomputable def c49_0 : Code := bodyOf Try.f49
noncomputable def c49_1 : Code := cdL c49_0
noncomputable def c49_2 : Code := cdR c49_0
noncomputable def c49_3 : Code := cdL c49_2
noncomputable def c49_4 : Code := cdR c49_2
noncomputable def r49_1 : Array Oper := cdO c49_1
noncomputable def r49_3 : Array Oper := cdO c49_3
theorem c49_0e : c49_0 = .seq c49_1 c49_2 := by kernel_rfl
theorem c49_1e : c49_1 = .region 0 r49_1 false := by kernel_rfl
theorem c49_2e : c49_2 = .seq c49_3 c49_4 := by kernel_rfl
theorem c49_3e : c49_3 = .region 1 r49_3 false := by kernel_rfl
theorem c49_4e : c49_4 = .ret := by kernel_rfl
noncomputable def tontineref21_Same.R (A_2 : Option Addr) (c_3 : Nat) (A_5 : Option Addr) (c_6 : Nat) : Pst Bool where
  ε := Unit
  v := fun r x => .bool r
  H := fun r x => []
  B := fun r x => []
noncomputable def tontineref21_Same.cx (A_2 : Option Addr) (c_3 : Nat) (A_5 : Option Addr) (c_6 : Nat) (w0 : World) (S0 : Fam) : Cx Bool := ⟨Try.prog, 49, Try.f49, 24, w0, S0, [], 0, tontineref21_Same.R A_2 c_3 A_5 c_6⟩
theorem tontineref21_Same_ok (n : Nat) (a_1 : T_api_Told) (b_4 : T_api_Told) (A_2 : Option Addr) (c_3 : Nat) (A_5 : Option Addr) (c_6 : Nat) :
    Meets Try.prog 49 [.agg ⟨[.int .i64 a_1.Client, .int .i64 a_1.Command.Kind, .int .u64 a_1.Command.Session, .int .u64 a_1.Command.Seq, .int .u64 a_1.Command.Saga, .slice A_2 a_1.Command.Steps.length c_3, .int .i64 a_1.Command.Step, .bool a_1.Command.Back, .int .i64 a_1.Command.Try, .bool a_1.Command.Ok, .int .u64 a_1.Command.Now, .int .i64 a_1.Reply.Err, .int .u64 a_1.Reply.Num, .int .u64 a_1.Reply.Extra]⟩, .agg ⟨[.int .i64 b_4.Client, .int .i64 b_4.Command.Kind, .int .u64 b_4.Command.Session, .int .u64 b_4.Command.Seq, .int .u64 b_4.Command.Saga, .slice A_5 b_4.Command.Steps.length c_6, .int .i64 b_4.Command.Step, .bool b_4.Command.Back, .int .i64 b_4.Command.Try, .bool b_4.Command.Ok, .int .u64 b_4.Command.Now, .int .i64 b_4.Reply.Err, .int .u64 b_4.Reply.Num, .int .u64 b_4.Reply.Extra]⟩] 0 [] [] [Rd 0 kT_api_Step A_2 c_3 a_1.Command.Steps, Rd 0 kT_api_Step A_5 c_6 b_4.Command.Steps] (tontineref21_Same.f n a_1 b_4) (tontineref21_Same.R A_2 c_3 A_5 c_6) := by
  refine Meets.of (c := c49_0) (n := 24) Try.func49 (by kernel_rfl) (by kernel_rfl) (by kernel_rfl) fun w0 S0 => ?_
  unfold tontineref21_Same.f
  show GoO (tontineref21_Same.cx A_2 c_3 A_5 c_6 w0 S0) [(0, .agg ⟨[.int .i64 a_1.Client, .int .i64 a_1.Command.Kind, .int .u64 a_1.Command.Session, .int .u64 a_1.Command.Seq, .int .u64 a_1.Command.Saga, .slice A_2 a_1.Command.Steps.length c_3, .int .i64 a_1.Command.Step, .bool a_1.Command.Back, .int .i64 a_1.Command.Try, .bool a_1.Command.Ok, .int .u64 a_1.Command.Now, .int .i64 a_1.Reply.Err, .int .u64 a_1.Reply.Num, .int .u64 a_1.Reply.Extra]⟩), (1, .agg ⟨[.int .i64 b_4.Client, .int .i64 b_4.Command.Kind, .int .u64 b_4.Command.Session, .int .u64 b_4.Command.Seq, .int .u64 b_4.Command.Saga, .slice A_5 b_4.Command.Steps.length c_6, .int .i64 b_4.Command.Step, .bool b_4.Command.Back, .int .i64 b_4.Command.Try, .bool b_4.Command.Ok, .int .u64 b_4.Command.Now, .int .i64 b_4.Reply.Err, .int .u64 b_4.Reply.Num, .int .u64 b_4.Reply.Extra]⟩)] [] [Rd 0 kT_api_Step A_2 c_3 a_1.Command.Steps, Rd 0 kT_api_Step A_5 c_6 b_4.Command.Steps] [.code c49_0] _
  refine GoO.seq' c49_0e ?_
  refine GoO.region' (is := [0, 1, 2]) c49_1e (by kernel_rfl) ?_
  refine OpTo.go (GoO.new rfl 40 (cs := [.int .i64 a_1.Client, .int .i64 a_1.Command.Kind, .int .u64 a_1.Command.Session, .int .u64 a_1.Command.Seq, .int .u64 a_1.Command.Saga, .slice A_2 a_1.Command.Steps.length c_3, .int .i64 a_1.Command.Step, .bool a_1.Command.Back, .int .i64 a_1.Command.Try, .bool a_1.Command.Ok, .int .u64 a_1.Command.Now, .int .i64 a_1.Reply.Err, .int .u64 a_1.Reply.Num, .int .u64 a_1.Reply.Extra]) (by kernel_rfl) _ (fun _ => rfl) (fun b_7 => ?_))
  refine OpTo.go (GoO.new rfl 41 (cs := [.int .i64 b_4.Client, .int .i64 b_4.Command.Kind, .int .u64 b_4.Command.Session, .int .u64 b_4.Command.Seq, .int .u64 b_4.Command.Saga, .slice A_5 b_4.Command.Steps.length c_6, .int .i64 b_4.Command.Step, .bool b_4.Command.Back, .int .i64 b_4.Command.Try, .bool b_4.Command.Ok, .int .u64 b_4.Command.Now, .int .i64 b_4.Reply.Err, .int .u64 b_4.Reply.Num, .int .u64 b_4.Reply.Extra]) (by kernel_rfl) _ (fun _ => rfl) (fun b_8 => ?_))
  refine GoO.exec (is := [2]) (hs := [.p]) (rest := []) (ks := [2, 3]) (env' := [(2, .pointer (some ⟨b_7, 0, none⟩)), (3, .pointer (some ⟨b_8, 0, none⟩))]) (H' := [⟨41, b_8, [.int .i64 b_4.Client, .int .i64 b_4.Command.Kind, .int .u64 b_4.Command.Session, .int .u64 b_4.Command.Seq, .int .u64 b_4.Command.Saga, .slice A_5 b_4.Command.Steps.length c_6, .int .i64 b_4.Command.Step, .bool b_4.Command.Back, .int .i64 b_4.Command.Try, .bool b_4.Command.Ok, .int .u64 b_4.Command.Now, .int .i64 b_4.Reply.Err, .int .u64 b_4.Reply.Num, .int .u64 b_4.Reply.Extra]⟩, ⟨40, b_7, [.int .i64 a_1.Client, .int .i64 a_1.Command.Kind, .int .u64 a_1.Command.Session, .int .u64 a_1.Command.Seq, .int .u64 a_1.Command.Saga, .slice A_2 a_1.Command.Steps.length c_3, .int .i64 a_1.Command.Step, .bool a_1.Command.Back, .int .i64 a_1.Command.Try, .bool a_1.Command.Ok, .int .u64 a_1.Command.Now, .int .i64 a_1.Reply.Err, .int .u64 a_1.Reply.Num, .int .u64 a_1.Reply.Extra]⟩]) (ps := []) (by kernel_rfl) trivial ?_
  refine GoO.regionEnd ?_
  refine GoO.seq' c49_2e ?_
  refine GoO.region' (is := [0, 1, 2, 3, 4, 5, 6, 7, 8, 9, 10, 11, 12, 13, 14, 15, 16, 17, 18, 19]) c49_3e (by kernel_rfl) ?_
  refine GoO.exec (is := [0, 1, 2, 3, 4, 5]) (hs := [.p, .b 1, .p, .b 0, .p, .p]) (rest := [6, 7, 8, 9, 10, 11, 12, 13, 14, 15, 16, 17, 18, 19]) (ks := [2, 3, 10]) (env' := [(2, .pointer (some ⟨b_7, 0, none⟩)), (3, .pointer (some ⟨b_8, 0, none⟩)), (10, .bool (a_1.Client == b_4.Client))]) (H' := [⟨41, b_8, [.int .i64 b_4.Client, .int .i64 b_4.Command.Kind, .int .u64 b_4.Command.Session, .int .u64 b_4.Command.Seq, .int .u64 b_4.Command.Saga, .slice A_5 b_4.Command.Steps.length c_6, .int .i64 b_4.Command.Step, .bool b_4.Command.Back, .int .i64 b_4.Command.Try, .bool b_4.Command.Ok, .int .u64 b_4.Command.Now, .int .i64 b_4.Reply.Err, .int .u64 b_4.Reply.Num, .int .u64 b_4.Reply.Extra]⟩, ⟨40, b_7, [.int .i64 a_1.Client, .int .i64 a_1.Command.Kind, .int .u64 a_1.Command.Session, .int .u64 a_1.Command.Seq, .int .u64 a_1.Command.Saga, .slice A_2 a_1.Command.Steps.length c_3, .int .i64 a_1.Command.Step, .bool a_1.Command.Back, .int .i64 a_1.Command.Try, .bool a_1.Command.Ok, .int .u64 a_1.Command.Now, .int .i64 a_1.Reply.Err, .int .u64 a_1.Reply.Num, .int .u64 a_1.Reply.Extra]⟩]) (ps := [b_7 = b_7, b_8 = b_8]) (by kernel_rfl) (And.intro rfl (And.intro rfl trivial)) ?_
  refine GoO.bsplit (t := 10) (by kernel_rfl) (fun h9 => ?_) (fun h9 => ?_)
  · refine GoO.exec (is := [6, 7, 8, 9, 10, 11, 12]) (hs := [.p, .b 1, .p, .b 0, .p, .p, .p]) (rest := [13, 14, 15, 16, 17, 18, 19]) (ks := [2, 3, 17]) (env' := [(2, .pointer (some ⟨b_7, 0, none⟩)), (3, .pointer (some ⟨b_8, 0, none⟩)), (17, .bool ((a_1.Reply.Err == b_4.Reply.Err) && ((a_1.Reply.Num == b_4.Reply.Num) && ((a_1.Reply.Extra == b_4.Reply.Extra) && true))))]) (H' := [⟨41, b_8, [.int .i64 b_4.Client, .int .i64 b_4.Command.Kind, .int .u64 b_4.Command.Session, .int .u64 b_4.Command.Seq, .int .u64 b_4.Command.Saga, .slice A_5 b_4.Command.Steps.length c_6, .int .i64 b_4.Command.Step, .bool b_4.Command.Back, .int .i64 b_4.Command.Try, .bool b_4.Command.Ok, .int .u64 b_4.Command.Now, .int .i64 b_4.Reply.Err, .int .u64 b_4.Reply.Num, .int .u64 b_4.Reply.Extra]⟩, ⟨40, b_7, [.int .i64 a_1.Client, .int .i64 a_1.Command.Kind, .int .u64 a_1.Command.Session, .int .u64 a_1.Command.Seq, .int .u64 a_1.Command.Saga, .slice A_2 a_1.Command.Steps.length c_3, .int .i64 a_1.Command.Step, .bool a_1.Command.Back, .int .i64 a_1.Command.Try, .bool a_1.Command.Ok, .int .u64 a_1.Command.Now, .int .i64 a_1.Reply.Err, .int .u64 a_1.Reply.Num, .int .u64 a_1.Reply.Extra]⟩]) (ps := [b_7 = b_7, b_8 = b_8]) (by kernel_rfl) (And.intro rfl (And.intro rfl trivial)) ?_
    refine GoO.bsplit (t := 17) (by kernel_rfl) (fun h10 => ?_) (fun h10 => ?_)
    · refine GoO.exec (is := [13, 14, 15, 16]) (hs := [.p, .b 1, .p, .b 0]) (rest := [17, 18, 19]) (ks := [17, 19, 21]) (env' := [(17, .bool true), (19, .agg ⟨[.int .i64 a_1.Command.Kind, .int .u64 a_1.Command.Session, .int .u64 a_1.Command.Seq, .int .u64 a_1.Command.Saga, .slice A_2 a_1.Command.Steps.length c_3, .int .i64 a_1.Command.Step, .bool a_1.Command.Back, .int .i64 a_1.Command.Try, .bool a_1.Command.Ok, .int .u64 a_1.Command.Now]⟩), (21, .agg ⟨[.int .i64 b_4.Command.Kind, .int .u64 b_4.Command.Session, .int .u64 b_4.Command.Seq, .int .u64 b_4.Command.Saga, .slice A_5 b_4.Command.Steps.length c_6, .int .i64 b_4.Command.Step, .bool b_4.Command.Back, .int .i64 b_4.Command.Try, .bool b_4.Command.Ok, .int .u64 b_4.Command.Now]⟩)]) (H' := [⟨41, b_8, [.int .i64 b_4.Client, .int .i64 b_4.Command.Kind, .int .u64 b_4.Command.Session, .int .u64 b_4.Command.Seq, .int .u64 b_4.Command.Saga, .slice A_5 b_4.Command.Steps.length c_6, .int .i64 b_4.Command.Step, .bool b_4.Command.Back, .int .i64 b_4.Command.Try, .bool b_4.Command.Ok, .int .u64 b_4.Command.Now, .int .i64 b_4.Reply.Err, .int .u64 b_4.Reply.Num, .int .u64 b_4.Reply.Extra]⟩, ⟨40, b_7, [.int .i64 a_1.Client, .int .i64 a_1.Command.Kind, .int .u64 a_1.Command.Session, .int .u64 a_1.Command.Seq, .int .u64 a_1.Command.Saga, .slice A_2 a_1.Command.Steps.length c_3, .int .i64 a_1.Command.Step, .bool a_1.Command.Back, .int .i64 a_1.Command.Try, .bool a_1.Command.Ok, .int .u64 a_1.Command.Now, .int .i64 a_1.Reply.Err, .int .u64 a_1.Reply.Num, .int .u64 a_1.Reply.Extra]⟩]) (ps := [b_7 = b_7, b_8 = b_8]) (by kernel_rfl) (And.intro rfl (And.intro rfl trivial)) ?_
      refine OpTo.go (GoO.call rfl (by kernel_rfl) (by kernel_rfl) (tontineref16_Same_ok n (⟨a_1.Command.Kind, a_1.Command.Session, a_1.Command.Seq, a_1.Command.Saga, a_1.Command.Steps, a_1.Command.Step, a_1.Command.Back, a_1.Command.Try, a_1.Command.Ok, a_1.Command.Now⟩ : T_api_Command) (⟨b_4.Command.Kind, b_4.Command.Session, b_4.Command.Seq, b_4.Command.Saga, b_4.Command.Steps, b_4.Command.Step, b_4.Command.Back, b_4.Command.Try, b_4.Command.Ok, b_4.Command.Now⟩ : T_api_Command) A_2 c_3 A_5 c_6) [[0]] [] [] [(0, 0), (0, 1)] (hks := [0, 1]) (bks := [0, 1]) (by kernel_rfl) (by kernel_rfl) (by kernel_rfl) (.inl rfl) rfl rfl (by kernel_rfl) (by kernel_rfl) _ (fun _ _ => rfl) _ _ (fun _ _ => rfl) (fun _ _ => rfl) (fun _ _ => by kernel_rfl) (fun _ _ => by kernel_rfl) (fun r_11 x_12 => ?_))
      refine GoO.shape (env' := [(17, .bool true), (19, .agg ⟨[.int .i64 a_1.Command.Kind, .int .u64 a_1.Command.Session, .int .u64 a_1.Command.Seq, .int .u64 a_1.Command.Saga, .slice A_2 a_1.Command.Steps.length c_3, .int .i64 a_1.Command.Step, .bool a_1.Command.Back, .int .i64 a_1.Command.Try, .bool a_1.Command.Ok, .int .u64 a_1.Command.Now]⟩), (21, .agg ⟨[.int .i64 b_4.Command.Kind, .int .u64 b_4.Command.Session, .int .u64 b_4.Command.Seq, .int .u64 b_4.Command.Saga, .slice A_5 b_4.Command.Steps.length c_6, .int .i64 b_4.Command.Step, .bool b_4.Command.Back, .int .i64 b_4.Command.Try, .bool b_4.Command.Ok, .int .u64 b_4.Command.Now]⟩), (22, .bool r_11)]) (H' := [⟨41, b_8, [.int .i64 b_4.Client, .int .i64 b_4.Command.Kind, .int .u64 b_4.Command.Session, .int .u64 b_4.Command.Seq, .int .u64 b_4.Command.Saga, .slice A_5 b_4.Command.Steps.length c_6, .int .i64 b_4.Command.Step, .bool b_4.Command.Back, .int .i64 b_4.Command.Try, .bool b_4.Command.Ok, .int .u64 b_4.Command.Now, .int .i64 b_4.Reply.Err, .int .u64 b_4.Reply.Num, .int .u64 b_4.Reply.Extra]⟩, ⟨40, b_7, [.int .i64 a_1.Client, .int .i64 a_1.Command.Kind, .int .u64 a_1.Command.Session, .int .u64 a_1.Command.Seq, .int .u64 a_1.Command.Saga, .slice A_2 a_1.Command.Steps.length c_3, .int .i64 a_1.Command.Step, .bool a_1.Command.Back, .int .i64 a_1.Command.Try, .bool a_1.Command.Ok, .int .u64 a_1.Command.Now, .int .i64 a_1.Reply.Err, .int .u64 a_1.Reply.Num, .int .u64 a_1.Reply.Extra]⟩]) (B' := [Rd 0 kT_api_Step A_2 c_3 a_1.Command.Steps, Rd 0 kT_api_Step A_5 c_6 b_4.Command.Steps]) (ks := [17, 19, 21, 22]) (by kernel_rfl) (by kernel_rfl) (by kernel_rfl) ?_
      refine GoO.exec (is := [18, 19]) (hs := [.p, .p]) (rest := []) (ks := [4]) (env' := [(4, .bool r_11)]) (H' := [⟨41, b_8, [.int .i64 b_4.Client, .int .i64 b_4.Command.Kind, .int .u64 b_4.Command.Session, .int .u64 b_4.Command.Seq, .int .u64 b_4.Command.Saga, .slice A_5 b_4.Command.Steps.length c_6, .int .i64 b_4.Command.Step, .bool b_4.Command.Back, .int .i64 b_4.Command.Try, .bool b_4.Command.Ok, .int .u64 b_4.Command.Now, .int .i64 b_4.Reply.Err, .int .u64 b_4.Reply.Num, .int .u64 b_4.Reply.Extra]⟩, ⟨40, b_7, [.int .i64 a_1.Client, .int .i64 a_1.Command.Kind, .int .u64 a_1.Command.Session, .int .u64 a_1.Command.Seq, .int .u64 a_1.Command.Saga, .slice A_2 a_1.Command.Steps.length c_3, .int .i64 a_1.Command.Step, .bool a_1.Command.Back, .int .i64 a_1.Command.Try, .bool a_1.Command.Ok, .int .u64 a_1.Command.Now, .int .i64 a_1.Reply.Err, .int .u64 a_1.Reply.Num, .int .u64 a_1.Reply.Extra]⟩]) (ps := []) (by kernel_rfl) trivial ?_
      refine GoO.regionEnd ?_
      exact GoO.ret' (h := c49_4e) (hs := []) (ps := []) (hk := []) (bk := []) Try.func49 () (by kernel_rfl) trivial (by kernel_rfl) (by kernel_rfl)
    · refine GoO.exec (is := [13, 14, 15, 16, 17, 18, 19]) (hs := [.p, .p, .p, .p, .p, .p, .p]) (rest := []) (ks := [4]) (env' := [(4, .bool false)]) (H' := [⟨41, b_8, [.int .i64 b_4.Client, .int .i64 b_4.Command.Kind, .int .u64 b_4.Command.Session, .int .u64 b_4.Command.Seq, .int .u64 b_4.Command.Saga, .slice A_5 b_4.Command.Steps.length c_6, .int .i64 b_4.Command.Step, .bool b_4.Command.Back, .int .i64 b_4.Command.Try, .bool b_4.Command.Ok, .int .u64 b_4.Command.Now, .int .i64 b_4.Reply.Err, .int .u64 b_4.Reply.Num, .int .u64 b_4.Reply.Extra]⟩, ⟨40, b_7, [.int .i64 a_1.Client, .int .i64 a_1.Command.Kind, .int .u64 a_1.Command.Session, .int .u64 a_1.Command.Seq, .int .u64 a_1.Command.Saga, .slice A_2 a_1.Command.Steps.length c_3, .int .i64 a_1.Command.Step, .bool a_1.Command.Back, .int .i64 a_1.Command.Try, .bool a_1.Command.Ok, .int .u64 a_1.Command.Now, .int .i64 a_1.Reply.Err, .int .u64 a_1.Reply.Num, .int .u64 a_1.Reply.Extra]⟩]) (ps := []) (by kernel_rfl) trivial ?_
      refine GoO.regionEnd ?_
      exact GoO.ret' (h := c49_4e) (hs := []) (ps := []) (hk := []) (bk := []) Try.func49 () (by kernel_rfl) trivial (by kernel_rfl) (by kernel_rfl)
  · refine GoO.exec (is := [6, 7, 8, 9, 10, 11, 12, 13, 14, 15, 16, 17, 18, 19]) (hs := [.p, .p, .p, .p, .p, .p, .p, .p, .p, .p, .p, .p, .p, .p]) (rest := []) (ks := [4]) (env' := [(4, .bool false)]) (H' := [⟨41, b_8, [.int .i64 b_4.Client, .int .i64 b_4.Command.Kind, .int .u64 b_4.Command.Session, .int .u64 b_4.Command.Seq, .int .u64 b_4.Command.Saga, .slice A_5 b_4.Command.Steps.length c_6, .int .i64 b_4.Command.Step, .bool b_4.Command.Back, .int .i64 b_4.Command.Try, .bool b_4.Command.Ok, .int .u64 b_4.Command.Now, .int .i64 b_4.Reply.Err, .int .u64 b_4.Reply.Num, .int .u64 b_4.Reply.Extra]⟩, ⟨40, b_7, [.int .i64 a_1.Client, .int .i64 a_1.Command.Kind, .int .u64 a_1.Command.Session, .int .u64 a_1.Command.Seq, .int .u64 a_1.Command.Saga, .slice A_2 a_1.Command.Steps.length c_3, .int .i64 a_1.Command.Step, .bool a_1.Command.Back, .int .i64 a_1.Command.Try, .bool a_1.Command.Ok, .int .u64 a_1.Command.Now, .int .i64 a_1.Reply.Err, .int .u64 a_1.Reply.Num, .int .u64 a_1.Reply.Extra]⟩]) (ps := []) (by kernel_rfl) trivial ?_
    refine GoO.regionEnd ?_
    exact GoO.ret' (h := c49_4e) (hs := []) (ps := []) (hk := []) (bk := []) Try.func49 () (by kernel_rfl) trivial (by kernel_rfl) (by kernel_rfl)

/-! tontine/tontineref07.Same -/
noncomputable def c19_0 : Code := bodyOf Try.f19
noncomputable def c19_1 : Code := cdL c19_0
noncomputable def c19_2 : Code := cdR c19_0
noncomputable def c19_3 : Code := cdL c19_2
noncomputable def c19_4 : Code := cdL c19_3
noncomputable def c19_5 : Code := cdR c19_3
noncomputable def c19_6 : Code := cdL c19_5
noncomputable def c19_7 : Code := cdL c19_6
noncomputable def c19_8 : Code := cdR c19_6
noncomputable def c19_9 : Code := cdR c19_5
noncomputable def c19_10 : Code := cdR c19_2
noncomputable def c19_11 : Code := cdL c19_10
noncomputable def c19_12 : Code := cdL c19_11
noncomputable def c19_13 : Code := cdR c19_11
noncomputable def c19_14 : Code := cdL c19_13
noncomputable def c19_15 : Code := cdL c19_14
noncomputable def c19_16 : Code := cdL c19_15
noncomputable def c19_17 : Code := cdL c19_16
noncomputable def c19_18 : Code := cdR c19_16
noncomputable def c19_19 : Code := cdL c19_18
noncomputable def c19_20 : Code := cdR c19_18
noncomputable def c19_21 : Code := cdR c19_15
noncomputable def c19_22 : Code := cdL c19_21
noncomputable def c19_23 : Code := cdL c19_22
noncomputable def c19_24 : Code := cdL c19_23
noncomputable def c19_25 : Code := cdR c19_23
noncomputable def c19_26 : Code := cdL c19_25
noncomputable def c19_27 : Code := cdL c19_26
noncomputable def c19_28 : Code := cdR c19_26
noncomputable def c19_29 : Code := cdR c19_25
noncomputable def c19_30 : Code := cdR c19_21
noncomputable def c19_31 : Code := cdR c19_10
noncomputable def c19_32 : Code := cdL c19_31
noncomputable def c19_33 : Code := cdR c19_31
noncomputable def r19_1 : Array Oper := cdO c19_1
noncomputable def r19_4 : Array Oper := cdO c19_4
noncomputable def r19_7 : Array Oper := cdO c19_7
noncomputable def r19_12 : Array Oper := cdO c19_12
noncomputable def r19_17 : Array Oper := cdO c19_17
noncomputable def r19_24 : Array Oper := cdO c19_24
noncomputable def r19_27 : Array Oper := cdO c19_27
noncomputable def r19_30 : Array Oper := cdO c19_30
noncomputable def r19_32 : Array Oper := cdO c19_32
theorem c19_0e : c19_0 = .seq c19_1 c19_2 := by kernel_rfl
theorem c19_1e : c19_1 = .region 0 r19_1 false := by kernel_rfl
theorem c19_2e : c19_2 = .seq c19_3 c19_10 := by kernel_rfl
theorem c19_3e : c19_3 = .seq c19_4 c19_5 := by kernel_rfl
theorem c19_4e : c19_4 = .region 1 r19_4 false := by kernel_rfl
theorem c19_5e : c19_5 = .cond (cdC c19_5) c19_6 c19_9 := by kernel_rfl
theorem c19_6e : c19_6 = .seq c19_7 c19_8 := by kernel_rfl
theorem c19_7e : c19_7 = .region 2 r19_7 false := by kernel_rfl
theorem c19_8e : c19_8 = .ret := by kernel_rfl
theorem c19_9e : c19_9 = .skip := by kernel_rfl
theorem c19_10e : c19_10 = .seq c19_11 c19_31 := by kernel_rfl
theorem c19_11e : c19_11 = .seq c19_12 c19_13 := by kernel_rfl
theorem c19_12e : c19_12 = .region 3 r19_12 false := by kernel_rfl
theorem c19_13e : c19_13 = .block 0 c19_14 := by kernel_rfl
theorem c19_14e : c19_14 = .loop c19_15 := by kernel_rfl
theorem c19_15e : c19_15 = .seq c19_16 c19_21 := by kernel_rfl
theorem c19_16e : c19_16 = .seq c19_17 c19_18 := by kernel_rfl
theorem c19_17e : c19_17 = .region 4 r19_17 false := by kernel_rfl
theorem c19_18e : c19_18 = .cond (cdC c19_18) c19_19 c19_20 := by kernel_rfl
theorem c19_19e : c19_19 = .skip := by kernel_rfl
theorem c19_20e : c19_20 = .exit 0 := by kernel_rfl
theorem c19_21e : c19_21 = .seq c19_22 c19_30 := by kernel_rfl
theorem c19_22e : c19_22 = .block 1 c19_23 := by kernel_rfl
theorem c19_23e : c19_23 = .seq c19_24 c19_25 := by kernel_rfl
theorem c19_24e : c19_24 = .region 6 r19_24 true := by kernel_rfl
theorem c19_25e : c19_25 = .cond (cdC c19_25) c19_26 c19_29 := by kernel_rfl
theorem c19_26e : c19_26 = .seq c19_27 c19_28 := by kernel_rfl
theorem c19_27e : c19_27 = .region 7 r19_27 false := by kernel_rfl
theorem c19_28e : c19_28 = .ret := by kernel_rfl
theorem c19_29e : c19_29 = .skip := by kernel_rfl
theorem c19_30e : c19_30 = .region 5 r19_30 false := by kernel_rfl
theorem c19_31e : c19_31 = .seq c19_32 c19_33 := by kernel_rfl
theorem c19_32e : c19_32 = .region 8 r19_32 false := by kernel_rfl
theorem c19_33e : c19_33 = .ret := by kernel_rfl
noncomputable def tontineref07_Same.R (A_2 : Option Addr) (c_3 : Nat) (A_5 : Option Addr) (c_6 : Nat) : Pst Bool where
  ε := Unit
  v := fun r x => .bool r
  H := fun r x => []
  B := fun r x => []
noncomputable def tontineref07_Same.cx (A_2 : Option Addr) (c_3 : Nat) (A_5 : Option Addr) (c_6 : Nat) (w0 : World) (S0 : Fam) : Cx Bool := ⟨Try.prog, 19, Try.f19, 26, w0, S0, [], 0, tontineref07_Same.R A_2 c_3 A_5 c_6⟩
end Go.GL
