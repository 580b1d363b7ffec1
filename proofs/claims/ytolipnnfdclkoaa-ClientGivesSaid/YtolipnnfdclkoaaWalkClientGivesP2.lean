import Derived.Test.YtolipnnfdclkoaaWalkClientGivesP1
import Derived.Test.YtolipnnfdclkoaaKindsT2
import Derived.Test.YtolipnnfdclkoaaProg
set_option linter.unusedVariables false
set_option linter.unusedSimpArgs false
set_option maxRecDepth 100000
namespace Go.GL
open Go Go.Proofs
theorem pack_Reader_Done_ok (n : Nat) (r_1 : T_pack_Reader) (b_2 : Nat) :
    Meets Try.prog 82 [.pointer (some ⟨b_2, 0, none⟩)] 1 [] [⟨1, b_2, [.string (bs r_1.s), .bool r_1.bad]⟩] [] (pack_Reader_Done.f n r_1) (pack_Reader_Done.R b_2) := by
  refine Meets.of (c := c82_0) (n := 15) Try.func82 (by kernel_rfl) (by kernel_rfl) (by kernel_rfl) fun w0 S0 => ?_
  unfold pack_Reader_Done.f
  show GoO (pack_Reader_Done.cx b_2 w0 S0) [(0, .pointer (some ⟨b_2, 0, none⟩))] [⟨1, b_2, [.string (bs r_1.s), .bool r_1.bad]⟩] [] [.code c82_0] _
  refine GoO.seq' c82_0e ?_
  refine GoO.region' (is := [0]) c82_1e (by kernel_rfl) ?_
  refine GoO.exec (is := [0]) (hs := [.p]) (rest := []) (ks := [0]) (env' := [(0, .pointer (some ⟨b_2, 0, none⟩))]) (H' := [⟨1, b_2, [.string (bs r_1.s), .bool r_1.bad]⟩]) (ps := []) (by kernel_rfl) trivial ?_
  refine GoO.regionEnd ?_
  refine GoO.seq' c82_2e ?_
  refine GoO.region' (is := [0, 1, 2, 3, 4, 5, 6]) c82_3e (by kernel_rfl) ?_
  refine GoO.exec (is := [0]) (hs := [.p]) (rest := [1, 2, 3, 4, 5, 6]) (ks := [6]) (env' := [(6, .pointer (some ⟨b_2, 0, none⟩))]) (H' := [⟨1, b_2, [.string (bs r_1.s), .bool r_1.bad]⟩]) (ps := []) (by kernel_rfl) trivial ?_
  refine OpTo.go (GoO.call rfl (by kernel_rfl) (by kernel_rfl) (pack_Reader_Left_ok n r_1 b_2) [[0], [1]] [] [(1, 0)] [] (hks := [0]) (bks := []) (by kernel_rfl) (by kernel_rfl) (by kernel_rfl) (.inl rfl) rfl rfl (by kernel_rfl) (by kernel_rfl) _ (fun _ _ => rfl) _ _ (fun _ _ => rfl) (fun _ _ => rfl) (fun _ _ => by kernel_rfl) (fun _ _ => by kernel_rfl) (fun r_3 x_5 => ?_))
  refine GoO.shape (env' := [(6, .pointer (some ⟨b_2, 0, none⟩)), (7, .tuple ⟨[.int .i64 r_3.1, .bool r_3.2]⟩)]) (H' := [⟨1, b_2, [.string (bs r_1.s), .bool r_1.bad]⟩]) (B' := []) (ks := [6, 7]) (by kernel_rfl) (by kernel_rfl) (by kernel_rfl) ?_
  refine GoO.exec (is := [2, 3, 4, 5, 6]) (hs := [.p, .p, .p, .p, .p]) (rest := []) (ks := [3, 4]) (env' := [(3, .int .i64 r_3.1), (4, .bool r_3.2)]) (H' := [⟨1, b_2, [.string (bs r_1.s), .bool r_1.bad]⟩]) (ps := []) (by kernel_rfl) trivial ?_
  refine GoO.regionEnd ?_
  refine GoO.seq' c82_4e ?_
  refine GoO.region' (is := [0, 1, 2, 3, 4, 5]) c82_5e (by kernel_rfl) ?_
  refine GoO.exec (is := [0, 1, 2]) (hs := [.p, .p, .p]) (rest := [3, 4, 5]) (ks := [4, 12]) (env' := [(4, .bool r_3.2), (12, .bool (r_3.1 == 0))]) (H' := [⟨1, b_2, [.string (bs r_1.s), .bool r_1.bad]⟩]) (ps := []) (by kernel_rfl) trivial ?_
  refine GoO.bsplit (t := 12) (by kernel_rfl) (fun h4 => ?_) (fun h4 => ?_)
  · refine GoO.exec (is := [3, 4, 5]) (hs := [.p, .p, .p]) (rest := []) (ks := [2]) (env' := [(2, .bool r_3.2)]) (H' := [⟨1, b_2, [.string (bs r_1.s), .bool r_1.bad]⟩]) (ps := []) (by kernel_rfl) trivial ?_
    refine GoO.regionEnd ?_
    exact GoO.ret' (h := c82_6e) (hs := []) (ps := []) (hk := []) (bk := []) Try.func82 () (by kernel_rfl) trivial (by kernel_rfl) (by kernel_rfl)
  · refine GoO.exec (is := [3, 4, 5]) (hs := [.p, .p, .p]) (rest := []) (ks := [2]) (env' := [(2, .bool false)]) (H' := [⟨1, b_2, [.string (bs r_1.s), .bool r_1.bad]⟩]) (ps := []) (by kernel_rfl) trivial ?_
    refine GoO.regionEnd ?_
    exact GoO.ret' (h := c82_6e) (hs := []) (ps := []) (hk := []) (bk := []) Try.func82 () (by kernel_rfl) trivial (by kernel_rfl) (by kernel_rfl)

/-! tontine/command.Said -/
noncomputable def c70_0 : Code := bodyOf Try.f70
noncomputable def c70_1 : Code := cdL c70_0
noncomputable def c70_2 : Code := cdR c70_0
noncomputable def c70_3 : Code := cdL c70_2
noncomputable def c70_4 : Code := cdR c70_2
noncomputable def c70_5 : Code := cdL c70_4
noncomputable def c70_6 : Code := cdR c70_4
noncomputable def c70_7 : Code := cdL c70_6
noncomputable def c70_8 : Code := cdR c70_6
noncomputable def c70_9 : Code := cdL c70_8
noncomputable def c70_10 : Code := cdR c70_8
noncomputable def c70_11 : Code := cdL c70_10
noncomputable def c70_12 : Code := cdL c70_11
noncomputable def c70_13 : Code := cdR c70_11
noncomputable def c70_14 : Code := cdL c70_13
noncomputable def c70_15 : Code := cdL c70_14
noncomputable def c70_16 : Code := cdR c70_14
noncomputable def c70_17 : Code := cdR c70_13
noncomputable def c70_18 : Code := cdR c70_10
noncomputable def c70_19 : Code := cdL c70_18
noncomputable def c70_20 : Code := cdR c70_18
noncomputable def r70_1 : Array Oper := cdO c70_1
noncomputable def r70_3 : Array Oper := cdO c70_3
noncomputable def r70_5 : Array Oper := cdO c70_5
noncomputable def r70_7 : Array Oper := cdO c70_7
noncomputable def r70_9 : Array Oper := cdO c70_9
noncomputable def r70_12 : Array Oper := cdO c70_12
noncomputable def r70_15 : Array Oper := cdO c70_15
noncomputable def r70_19 : Array Oper := cdO c70_19
theorem c70_0e : c70_0 = .seq c70_1 c70_2 := by kernel_rfl
theorem c70_1e : c70_1 = .region 0 r70_1 false := by kernel_rfl
theorem c70_2e : c70_2 = .seq c70_3 c70_4 := by kernel_rfl
theorem c70_3e : c70_3 = .region 1 r70_3 false := by kernel_rfl
theorem c70_4e : c70_4 = .seq c70_5 c70_6 := by kernel_rfl
theorem c70_5e : c70_5 = .region 2 r70_5 false := by kernel_rfl
theorem c70_6e : c70_6 = .seq c70_7 c70_8 := by kernel_rfl
theorem c70_7e : c70_7 = .region 3 r70_7 false := by kernel_rfl
theorem c70_8e : c70_8 = .seq c70_9 c70_10 := by kernel_rfl
theorem c70_9e : c70_9 = .region 4 r70_9 false := by kernel_rfl
theorem c70_10e : c70_10 = .seq c70_11 c70_18 := by kernel_rfl
theorem c70_11e : c70_11 = .seq c70_12 c70_13 := by kernel_rfl
theorem c70_12e : c70_12 = .region 5 r70_12 false := by kernel_rfl
theorem c70_13e : c70_13 = .cond (cdC c70_13) c70_14 c70_17 := by kernel_rfl
theorem c70_14e : c70_14 = .seq c70_15 c70_16 := by kernel_rfl
theorem c70_15e : c70_15 = .region 6 r70_15 false := by kernel_rfl
theorem c70_16e : c70_16 = .ret := by kernel_rfl
theorem c70_17e : c70_17 = .skip := by kernel_rfl
theorem c70_18e : c70_18 = .seq c70_19 c70_20 := by kernel_rfl
theorem c70_19e : c70_19 = .region 7 r70_19 false := by kernel_rfl
theorem c70_20e : c70_20 = .ret := by kernel_rfl
noncomputable def command_Said.R : Pst (T_api_Reply × Int) where
  ε := Unit
  v := fun r x => .tuple ⟨[.agg ⟨[.int .i64 r.1.Err, .int .u64 r.1.Num, .int .u64 r.1.Extra]⟩, .int .i64 r.2]⟩
  H := fun r x => []
  B := fun r x => []
noncomputable def command_Said.cx (w0 : World) (S0 : Fam) : Cx (T_api_Reply × Int) := ⟨Try.prog, 70, Try.f70, 22, w0, S0, [], 0, command_Said.R⟩
theorem command_Said_ok (n : Nat) (s_1 : (List UInt8)) :
    Meets Try.prog 70 [.string (bs s_1)] 0 [] [] [] (command_Said.f n s_1) (command_Said.R) := by
  refine Meets.of (c := c70_0) (n := 22) Try.func70 (by kernel_rfl) (by kernel_rfl) (by kernel_rfl) fun w0 S0 => ?_
  unfold command_Said.f
  show GoO (command_Said.cx w0 S0) [(0, .string (bs s_1))] [] [] [.code c70_0] _
  refine GoO.seq' c70_0e ?_
  refine GoO.region' (is := [0, 1]) c70_1e (by kernel_rfl) ?_
  refine OpTo.go (GoO.new rfl 40 (cs := [.int .i64 0, .int .u64 0, .int .u64 0]) (by kernel_rfl) _ (fun _ => rfl) (fun b_2 => ?_))
  refine GoO.exec (is := [1]) (hs := [.p]) (rest := []) (ks := [0, 2]) (env' := [(0, .string (bs s_1)), (2, .pointer (some ⟨b_2, 0, none⟩))]) (H' := [⟨40, b_2, [.int .i64 0, .int .u64 0, .int .u64 0]⟩]) (ps := []) (by kernel_rfl) trivial ?_
  refine GoO.regionEnd ?_
  refine GoO.seq' c70_2e ?_
  refine GoO.region' (is := [0, 1, 2]) c70_3e (by kernel_rfl) ?_
  refine GoO.exec (is := [0]) (hs := [.p]) (rest := [1, 2]) (ks := [2, 6]) (env' := [(2, .pointer (some ⟨b_2, 0, none⟩)), (6, .string (bs s_1))]) (H' := [⟨40, b_2, [.int .i64 0, .int .u64 0, .int .u64 0]⟩]) (ps := []) (by kernel_rfl) trivial ?_
  refine OpTo.go (GoO.call rfl (by kernel_rfl) (by kernel_rfl) (pack_From_ok n s_1) [[0]] [(41, 1)] [] [] (hks := [0]) (bks := []) (by kernel_rfl) (by kernel_rfl) (by kernel_rfl) (.inl rfl) rfl rfl (by kernel_rfl) (by kernel_rfl) _ (fun _ _ => rfl) _ _ (fun _ _ => rfl) (fun _ _ => rfl) (fun _ _ => by kernel_rfl) (fun _ _ => by kernel_rfl) (fun r_3 b_4 => ?_))
  refine GoO.shape (env' := [(2, .pointer (some ⟨b_2, 0, none⟩)), (6, .string (bs s_1)), (7, .pointer (some ⟨b_4, 0, none⟩))]) (H' := [⟨41, b_4, [.string (bs r_3.s), .bool r_3.bad]⟩, ⟨40, b_2, [.int .i64 0, .int .u64 0, .int .u64 0]⟩]) (B' := []) (ks := [2, 6, 7]) (by kernel_rfl) (by kernel_rfl) (by kernel_rfl) ?_
  refine GoO.exec (is := [2]) (hs := [.p]) (rest := []) (ks := [2, 4]) (env' := [(2, .pointer (some ⟨b_2, 0, none⟩)), (4, .pointer (some ⟨b_4, 0, none⟩))]) (H' := [⟨41, b_4, [.string (bs r_3.s), .bool r_3.bad]⟩, ⟨40, b_2, [.int .i64 0, .int .u64 0, .int .u64 0]⟩]) (ps := []) (by kernel_rfl) trivial ?_
  refine GoO.regionEnd ?_
  refine GoO.seq' c70_4e ?_
  refine GoO.region' (is := [0, 1, 2, 3, 4]) c70_5e (by kernel_rfl) ?_
  refine GoO.exec (is := [0]) (hs := [.p]) (rest := [1, 2, 3, 4]) (ks := [2, 4, 8]) (env' := [(2, .pointer (some ⟨b_2, 0, none⟩)), (4, .pointer (some ⟨b_4, 0, none⟩)), (8, .pointer (some ⟨b_4, 0, none⟩))]) (H' := [⟨41, b_4, [.string (bs r_3.s), .bool r_3.bad]⟩, ⟨40, b_2, [.int .i64 0, .int .u64 0, .int .u64 0]⟩]) (ps := []) (by kernel_rfl) trivial ?_
  refine OpTo.go (GoO.call rfl (by kernel_rfl) (by kernel_rfl) (pack_Reader_Up_ok n r_3 52 b_4) [[0], [41]] [(41, 1)] [(1, 0)] [] (hks := [1]) (bks := []) (by kernel_rfl) (by kernel_rfl) (by kernel_rfl) (.inl rfl) rfl rfl (by kernel_rfl) (by kernel_rfl) _ (fun _ _ => rfl) _ _ (fun _ _ => rfl) (fun _ _ => rfl) (fun _ _ => by kernel_rfl) (fun _ _ => by kernel_rfl) (fun r_5 x_14 => ?_))
  refine GoO.shape (env' := [(2, .pointer (some ⟨b_2, 0, none⟩)), (4, .pointer (some ⟨b_4, 0, none⟩)), (8, .pointer (some ⟨b_4, 0, none⟩)), (9, .int .i64 r_5.1)]) (H' := [⟨41, b_4, [.string (bs r_5.2.s), .bool r_5.2.bad]⟩, ⟨40, b_2, [.int .i64 0, .int .u64 0, .int .u64 0]⟩]) (B' := []) (ks := [2, 4, 8, 9]) (by kernel_rfl) (by kernel_rfl) (by kernel_rfl) ?_
  refine GoO.exec (is := [2]) (hs := [.p]) (rest := [3, 4]) (ks := [2, 4, 10]) (env' := [(2, .pointer (some ⟨b_2, 0, none⟩)), (4, .pointer (some ⟨b_4, 0, none⟩)), (10, .agg ⟨[.int .i64 r_5.1, .int .u64 0, .int .u64 0]⟩)]) (H' := [⟨41, b_4, [.string (bs r_5.2.s), .bool r_5.2.bad]⟩, ⟨40, b_2, [.int .i64 0, .int .u64 0, .int .u64 0]⟩]) (ps := []) (by kernel_rfl) trivial ?_
  refine OpTo.go (GoO.new rfl 42 (cs := [.int .i64 0, .int .u64 0, .int .u64 0]) (by kernel_rfl) _ (fun _ => rfl) (fun b_6 => ?_))
  refine GoO.exec (is := [4]) (hs := [.b 0]) (rest := []) (ks := [2, 4, 5]) (env' := [(2, .pointer (some ⟨b_2, 0, none⟩)), (4, .pointer (some ⟨b_4, 0, none⟩)), (5, .pointer (some ⟨b_6, 0, none⟩))]) (H' := [⟨42, b_6, [.int .i64 r_5.1, .int .u64 0, .int .u64 0]⟩, ⟨41, b_4, [.string (bs r_5.2.s), .bool r_5.2.bad]⟩, ⟨40, b_2, [.int .i64 0, .int .u64 0, .int .u64 0]⟩]) (ps := [b_6 = b_6]) (by kernel_rfl) (And.intro rfl trivial) ?_
  refine GoO.regionEnd ?_
  refine GoO.seq' c70_6e ?_
  refine GoO.region' (is := [0, 1, 2, 3]) c70_7e (by kernel_rfl) ?_
  refine GoO.exec (is := [0]) (hs := [.p]) (rest := [1, 2, 3]) (ks := [2, 4, 5, 11]) (env' := [(2, .pointer (some ⟨b_2, 0, none⟩)), (4, .pointer (some ⟨b_4, 0, none⟩)), (5, .pointer (some ⟨b_6, 0, none⟩)), (11, .pointer (some ⟨b_4, 0, none⟩))]) (H' := [⟨42, b_6, [.int .i64 r_5.1, .int .u64 0, .int .u64 0]⟩, ⟨41, b_4, [.string (bs r_5.2.s), .bool r_5.2.bad]⟩, ⟨40, b_2, [.int .i64 0, .int .u64 0, .int .u64 0]⟩]) (ps := []) (by kernel_rfl) trivial ?_
  refine OpTo.go (GoO.call rfl (by kernel_rfl) (by kernel_rfl) (pack_Reader_Num_ok n r_5.2 b_4) [[0], [41]] [(41, 1)] [(1, 1)] [] (hks := [0, 2]) (bks := []) (by kernel_rfl) (by kernel_rfl) (by kernel_rfl) (.inl rfl) rfl rfl (by kernel_rfl) (by kernel_rfl) _ (fun _ _ => rfl) _ _ (fun _ _ => rfl) (fun _ _ => rfl) (fun _ _ => by kernel_rfl) (fun _ _ => by kernel_rfl) (fun r_7 x_13 => ?_))
  refine GoO.shape (env' := [(2, .pointer (some ⟨b_2, 0, none⟩)), (4, .pointer (some ⟨b_4, 0, none⟩)), (5, .pointer (some ⟨b_6, 0, none⟩)), (11, .pointer (some ⟨b_4, 0, none⟩)), (12, .int .u64 r_7.1)]) (H' := [⟨41, b_4, [.string (bs r_7.2.s), .bool r_7.2.bad]⟩, ⟨42, b_6, [.int .i64 r_5.1, .int .u64 0, .int .u64 0]⟩, ⟨40, b_2, [.int .i64 0, .int .u64 0, .int .u64 0]⟩]) (B' := []) (ks := [2, 4, 5, 11, 12]) (by kernel_rfl) (by kernel_rfl) (by kernel_rfl) ?_
  refine GoO.exec (is := [2, 3]) (hs := [.p, .b 1]) (rest := []) (ks := [2, 4, 5]) (env' := [(2, .pointer (some ⟨b_2, 0, none⟩)), (4, .pointer (some ⟨b_4, 0, none⟩)), (5, .pointer (some ⟨b_6, 0, none⟩))]) (H' := [⟨41, b_4, [.string (bs r_7.2.s), .bool r_7.2.bad]⟩, ⟨42, b_6, [.int .i64 r_5.1, .int .u64 r_7.1, .int .u64 0]⟩, ⟨40, b_2, [.int .i64 0, .int .u64 0, .int .u64 0]⟩]) (ps := [b_6 = b_6]) (by kernel_rfl) (And.intro rfl trivial) ?_
  refine GoO.regionEnd ?_
  refine GoO.seq' c70_8e ?_
  refine GoO.region' (is := [0, 1, 2, 3]) c70_9e (by kernel_rfl) ?_
  refine GoO.exec (is := [0]) (hs := [.p]) (rest := [1, 2, 3]) (ks := [2, 4, 5, 14]) (env' := [(2, .pointer (some ⟨b_2, 0, none⟩)), (4, .pointer (some ⟨b_4, 0, none⟩)), (5, .pointer (some ⟨b_6, 0, none⟩)), (14, .pointer (some ⟨b_4, 0, none⟩))]) (H' := [⟨41, b_4, [.string (bs r_7.2.s), .bool r_7.2.bad]⟩, ⟨42, b_6, [.int .i64 r_5.1, .int .u64 r_7.1, .int .u64 0]⟩, ⟨40, b_2, [.int .i64 0, .int .u64 0, .int .u64 0]⟩]) (ps := []) (by kernel_rfl) trivial ?_
  refine OpTo.go (GoO.call rfl (by kernel_rfl) (by kernel_rfl) (pack_Reader_Num_ok n r_7.2 b_4) [[0], [41]] [(41, 1)] [(1, 0)] [] (hks := [1, 2]) (bks := []) (by kernel_rfl) (by kernel_rfl) (by kernel_rfl) (.inl rfl) rfl rfl (by kernel_rfl) (by kernel_rfl) _ (fun _ _ => rfl) _ _ (fun _ _ => rfl) (fun _ _ => rfl) (fun _ _ => by kernel_rfl) (fun _ _ => by kernel_rfl) (fun r_8 x_12 => ?_))
  refine GoO.shape (env' := [(2, .pointer (some ⟨b_2, 0, none⟩)), (4, .pointer (some ⟨b_4, 0, none⟩)), (5, .pointer (some ⟨b_6, 0, none⟩)), (14, .pointer (some ⟨b_4, 0, none⟩)), (15, .int .u64 r_8.1)]) (H' := [⟨41, b_4, [.string (bs r_8.2.s), .bool r_8.2.bad]⟩, ⟨42, b_6, [.int .i64 r_5.1, .int .u64 r_7.1, .int .u64 0]⟩, ⟨40, b_2, [.int .i64 0, .int .u64 0, .int .u64 0]⟩]) (B' := []) (ks := [2, 4, 5, 14, 15]) (by kernel_rfl) (by kernel_rfl) (by kernel_rfl) ?_
  refine GoO.exec (is := [2, 3]) (hs := [.p, .b 1]) (rest := []) (ks := [2, 4, 5]) (env' := [(2, .pointer (some ⟨b_2, 0, none⟩)), (4, .pointer (some ⟨b_4, 0, none⟩)), (5, .pointer (some ⟨b_6, 0, none⟩))]) (H' := [⟨41, b_4, [.string (bs r_8.2.s), .bool r_8.2.bad]⟩, ⟨42, b_6, [.int .i64 r_5.1, .int .u64 r_7.1, .int .u64 r_8.1]⟩, ⟨40, b_2, [.int .i64 0, .int .u64 0, .int .u64 0]⟩]) (ps := [b_6 = b_6]) (by kernel_rfl) (And.intro rfl trivial) ?_
  refine GoO.regionEnd ?_
  refine GoO.seq' c70_10e ?_
  refine GoO.seq' c70_11e ?_
  refine GoO.region' (is := [0, 1, 2]) c70_12e (by kernel_rfl) ?_
  refine GoO.exec (is := [0]) (hs := [.p]) (rest := [1, 2]) (ks := [2, 5, 17]) (env' := [(2, .pointer (some ⟨b_2, 0, none⟩)), (5, .pointer (some ⟨b_6, 0, none⟩)), (17, .pointer (some ⟨b_4, 0, none⟩))]) (H' := [⟨41, b_4, [.string (bs r_8.2.s), .bool r_8.2.bad]⟩, ⟨42, b_6, [.int .i64 r_5.1, .int .u64 r_7.1, .int .u64 r_8.1]⟩, ⟨40, b_2, [.int .i64 0, .int .u64 0, .int .u64 0]⟩]) (ps := []) (by kernel_rfl) trivial ?_
  refine OpTo.go (GoO.call rfl (by kernel_rfl) (by kernel_rfl) (pack_Reader_Done_ok n r_8.2 b_4) [[0], [41]] [] [(1, 0)] [] (hks := [0, 1, 2]) (bks := []) (by kernel_rfl) (by kernel_rfl) (by kernel_rfl) (.inl rfl) rfl rfl (by kernel_rfl) (by kernel_rfl) _ (fun _ _ => rfl) _ _ (fun _ _ => rfl) (fun _ _ => rfl) (fun _ _ => by kernel_rfl) (fun _ _ => by kernel_rfl) (fun r_9 x_11 => ?_))
  refine GoO.shape (env' := [(2, .pointer (some ⟨b_2, 0, none⟩)), (5, .pointer (some ⟨b_6, 0, none⟩)), (17, .pointer (some ⟨b_4, 0, none⟩)), (18, .bool r_9)]) (H' := [⟨41, b_4, [.string (bs r_8.2.s), .bool r_8.2.bad]⟩, ⟨42, b_6, [.int .i64 r_5.1, .int .u64 r_7.1, .int .u64 r_8.1]⟩, ⟨40, b_2, [.int .i64 0, .int .u64 0, .int .u64 0]⟩]) (B' := []) (ks := [2, 5, 17, 18]) (by kernel_rfl) (by kernel_rfl) (by kernel_rfl) ?_
  refine GoO.exec (is := [2]) (hs := [.p]) (rest := []) (ks := [2, 5, 19]) (env' := [(2, .pointer (some ⟨b_2, 0, none⟩)), (5, .pointer (some ⟨b_6, 0, none⟩)), (19, .bool (!r_9))]) (H' := [⟨41, b_4, [.string (bs r_8.2.s), .bool r_8.2.bad]⟩, ⟨42, b_6, [.int .i64 r_5.1, .int .u64 r_7.1, .int .u64 r_8.1]⟩, ⟨40, b_2, [.int .i64 0, .int .u64 0, .int .u64 0]⟩]) (ps := []) (by kernel_rfl) trivial ?_
  refine GoO.regionEnd ?_
  refine GoO.ite' c70_13e (by kernel_rfl) (fun h10 => ?_) (fun h10 => ?_)
  · refine GoO.seq' c70_14e ?_
    refine GoO.region' (is := [0, 1, 2]) c70_15e (by kernel_rfl) ?_
    refine GoO.exec (is := [0, 1, 2]) (hs := [.p, .b 2, .p]) (rest := []) (ks := [2, 3]) (env' := [(2, .pointer (some ⟨b_2, 0, none⟩)), (3, .int .i64 2)]) (H' := [⟨41, b_4, [.string (bs r_8.2.s), .bool r_8.2.bad]⟩, ⟨42, b_6, [.int .i64 r_5.1, .int .u64 r_7.1, .int .u64 r_8.1]⟩, ⟨40, b_2, [.int .i64 0, .int .u64 0, .int .u64 0]⟩]) (ps := [b_2 = b_2]) (by kernel_rfl) (And.intro rfl trivial) ?_
    refine GoO.regionEnd ?_
    exact GoO.ret' (h := c70_16e) (hs := [2]) (ps := [b_2 = b_2]) (hk := []) (bk := []) Try.func70 () (by kernel_rfl) (And.intro rfl trivial) (by kernel_rfl) (by kernel_rfl)
  · refine GoO.skip' c70_17e ?_
    refine GoO.seq' c70_18e ?_
    refine GoO.region' (is := [0, 1, 2]) c70_19e (by kernel_rfl) ?_
    refine GoO.exec (is := [0, 1, 2]) (hs := [.b 1, .b 2, .p]) (rest := []) (ks := [2, 3]) (env' := [(2, .pointer (some ⟨b_2, 0, none⟩)), (3, .int .i64 0)]) (H' := [⟨41, b_4, [.string (bs r_8.2.s), .bool r_8.2.bad]⟩, ⟨42, b_6, [.int .i64 r_5.1, .int .u64 r_7.1, .int .u64 r_8.1]⟩, ⟨40, b_2, [.int .i64 r_5.1, .int .u64 r_7.1, .int .u64 r_8.1]⟩]) (ps := [b_6 = b_6, b_2 = b_2]) (by kernel_rfl) (And.intro rfl (And.intro rfl trivial)) ?_
    refine GoO.regionEnd ?_
    exact GoO.ret' (h := c70_20e) (hs := [2]) (ps := [b_2 = b_2]) (hk := []) (bk := []) Try.func70 () (by kernel_rfl) (And.intro rfl trivial) (by kernel_rfl) (by kernel_rfl)

/-! (*tontine/client.Client).Hear -/
noncomputable def c36_0 : Code := bodyOf Try.f36
noncomputable def c36_1 : Code := cdL c36_0
noncomputable def c36_2 : Code := cdR c36_0
noncomputable def c36_3 : Code := cdL c36_2
noncomputable def c36_4 : Code := cdR c36_2
noncomputable def c36_5 : Code := cdL c36_4
noncomputable def c36_6 : Code := cdL c36_5
noncomputable def c36_7 : Code := cdR c36_5
noncomputable def c36_8 : Code := cdL c36_7
noncomputable def c36_9 : Code := cdL c36_8
noncomputable def c36_10 : Code := cdR c36_8
noncomputable def c36_11 : Code := cdR c36_7
noncomputable def c36_12 : Code := cdR c36_4
noncomputable def c36_13 : Code := cdL c36_12
noncomputable def c36_14 : Code := cdR c36_12
noncomputable def c36_15 : Code := cdL c36_14
noncomputable def c36_16 : Code := cdL c36_15
noncomputable def c36_17 : Code := cdR c36_15
noncomputable def c36_18 : Code := cdL c36_17
noncomputable def c36_19 : Code := cdL c36_18
noncomputable def c36_20 : Code := cdR c36_18
noncomputable def c36_21 : Code := cdR c36_17
noncomputable def c36_22 : Code := cdR c36_14
noncomputable def c36_23 : Code := cdL c36_22
noncomputable def c36_24 : Code := cdL c36_23
noncomputable def c36_25 : Code := cdR c36_23
noncomputable def c36_26 : Code := cdL c36_25
noncomputable def c36_27 : Code := cdL c36_26
noncomputable def c36_28 : Code := cdL c36_27
noncomputable def c36_29 : Code := cdR c36_27
noncomputable def c36_30 : Code := cdL c36_29
noncomputable def c36_31 : Code := cdL c36_30
noncomputable def c36_32 : Code := cdR c36_30
noncomputable def c36_33 : Code := cdL c36_32
noncomputable def c36_34 : Code := cdR c36_32
noncomputable def c36_35 : Code := cdR c36_29
noncomputable def c36_36 : Code := cdR c36_26
noncomputable def c36_37 : Code := cdL c36_36
noncomputable def c36_38 : Code := cdR c36_36
noncomputable def c36_39 : Code := cdR c36_25
noncomputable def c36_40 : Code := cdR c36_22
noncomputable def c36_41 : Code := cdL c36_40
noncomputable def c36_42 : Code := cdR c36_40
noncomputable def c36_43 : Code := cdL c36_42
noncomputable def c36_44 : Code := cdL c36_43
noncomputable def c36_45 : Code := cdL c36_44
noncomputable def c36_46 : Code := cdR c36_44
noncomputable def c36_47 : Code := cdL c36_46
noncomputable def c36_48 : Code := cdL c36_47
noncomputable def c36_49 : Code := cdR c36_47
noncomputable def c36_50 : Code := cdL c36_49
noncomputable def c36_51 : Code := cdR c36_49
noncomputable def c36_52 : Code := cdR c36_46
noncomputable def c36_53 : Code := cdL c36_52
noncomputable def c36_54 : Code := cdR c36_52
noncomputable def c36_55 : Code := cdL c36_54
noncomputable def c36_56 : Code := cdR c36_54
noncomputable def c36_57 : Code := cdR c36_42
noncomputable def c36_58 : Code := cdL c36_57
noncomputable def c36_59 : Code := cdR c36_57
noncomputable def r36_1 : Array Oper := cdO c36_1
noncomputable def r36_3 : Array Oper := cdO c36_3
noncomputable def r36_6 : Array Oper := cdO c36_6
noncomputable def r36_9 : Array Oper := cdO c36_9
noncomputable def r36_13 : Array Oper := cdO c36_13
noncomputable def r36_16 : Array Oper := cdO c36_16
noncomputable def r36_19 : Array Oper := cdO c36_19
noncomputable def r36_24 : Array Oper := cdO c36_24
noncomputable def r36_28 : Array Oper := cdO c36_28
noncomputable def r36_31 : Array Oper := cdO c36_31
noncomputable def r36_33 : Array Oper := cdO c36_33
noncomputable def r36_37 : Array Oper := cdO c36_37
noncomputable def r36_41 : Array Oper := cdO c36_41
noncomputable def r36_45 : Array Oper := cdO c36_45
noncomputable def r36_48 : Array Oper := cdO c36_48
noncomputable def r36_50 : Array Oper := cdO c36_50
noncomputable def r36_53 : Array Oper := cdO c36_53
noncomputable def r36_55 : Array Oper := cdO c36_55
noncomputable def r36_56 : Array Oper := cdO c36_56
noncomputable def r36_58 : Array Oper := cdO c36_58
theorem c36_0e : c36_0 = .seq c36_1 c36_2 := by kernel_rfl
theorem c36_1e : c36_1 = .region 0 r36_1 false := by kernel_rfl
theorem c36_2e : c36_2 = .seq c36_3 c36_4 := by kernel_rfl
theorem c36_3e : c36_3 = .region 1 r36_3 false := by kernel_rfl
theorem c36_4e : c36_4 = .seq c36_5 c36_12 := by kernel_rfl
theorem c36_5e : c36_5 = .seq c36_6 c36_7 := by kernel_rfl
theorem c36_6e : c36_6 = .region 2 r36_6 true := by kernel_rfl
theorem c36_7e : c36_7 = .cond (cdC c36_7) c36_8 c36_11 := by kernel_rfl
theorem c36_8e : c36_8 = .seq c36_9 c36_10 := by kernel_rfl
theorem c36_9e : c36_9 = .region 3 r36_9 true := by kernel_rfl
theorem c36_10e : c36_10 = .ret := by kernel_rfl
theorem c36_11e : c36_11 = .skip := by kernel_rfl
theorem c36_12e : c36_12 = .seq c36_13 c36_14 := by kernel_rfl
theorem c36_13e : c36_13 = .region 4 r36_13 false := by kernel_rfl
theorem c36_14e : c36_14 = .seq c36_15 c36_22 := by kernel_rfl
theorem c36_15e : c36_15 = .seq c36_16 c36_17 := by kernel_rfl
theorem c36_16e : c36_16 = .region 5 r36_16 false := by kernel_rfl
theorem c36_17e : c36_17 = .cond (cdC c36_17) c36_18 c36_21 := by kernel_rfl
theorem c36_18e : c36_18 = .seq c36_19 c36_20 := by kernel_rfl
theorem c36_19e : c36_19 = .region 6 r36_19 true := by kernel_rfl
theorem c36_20e : c36_20 = .ret := by kernel_rfl
theorem c36_21e : c36_21 = .skip := by kernel_rfl
theorem c36_22e : c36_22 = .seq c36_23 c36_40 := by kernel_rfl
theorem c36_23e : c36_23 = .seq c36_24 c36_25 := by kernel_rfl
theorem c36_24e : c36_24 = .region 7 r36_24 false := by kernel_rfl
theorem c36_25e : c36_25 = .cond (cdC c36_25) c36_26 c36_39 := by kernel_rfl
theorem c36_26e : c36_26 = .seq c36_27 c36_36 := by kernel_rfl
theorem c36_27e : c36_27 = .seq c36_28 c36_29 := by kernel_rfl
theorem c36_28e : c36_28 = .region 8 r36_28 true := by kernel_rfl
theorem c36_29e : c36_29 = .cond (cdC c36_29) c36_30 c36_35 := by kernel_rfl
theorem c36_30e : c36_30 = .seq c36_31 c36_32 := by kernel_rfl
theorem c36_31e : c36_31 = .region 9 r36_31 false := by kernel_rfl
theorem c36_32e : c36_32 = .seq c36_33 c36_34 := by kernel_rfl
theorem c36_33e : c36_33 = .region 10 r36_33 false := by kernel_rfl
theorem c36_34e : c36_34 = .ret := by kernel_rfl
theorem c36_35e : c36_35 = .skip := by kernel_rfl
theorem c36_36e : c36_36 = .seq c36_37 c36_38 := by kernel_rfl
theorem c36_37e : c36_37 = .region 11 r36_37 true := by kernel_rfl
theorem c36_38e : c36_38 = .ret := by kernel_rfl
theorem c36_39e : c36_39 = .skip := by kernel_rfl
theorem c36_40e : c36_40 = .seq c36_41 c36_42 := by kernel_rfl
theorem c36_41e : c36_41 = .region 12 r36_41 false := by kernel_rfl
theorem c36_42e : c36_42 = .seq c36_43 c36_57 := by kernel_rfl
theorem c36_43e : c36_43 = .block 0 c36_44 := by kernel_rfl
theorem c36_44e : c36_44 = .seq c36_45 c36_46 := by kernel_rfl
theorem c36_45e : c36_45 = .region 14 r36_45 false := by kernel_rfl
theorem c36_46e : c36_46 = .cond (cdC c36_46) c36_47 c36_52 := by kernel_rfl
theorem c36_47e : c36_47 = .seq c36_48 c36_49 := by kernel_rfl
theorem c36_48e : c36_48 = .region 15 r36_48 false := by kernel_rfl
theorem c36_49e : c36_49 = .cond (cdC c36_49) c36_50 c36_51 := by kernel_rfl
theorem c36_50e : c36_50 = .region 16 r36_50 false := by kernel_rfl
theorem c36_51e : c36_51 = .skip := by kernel_rfl
theorem c36_52e : c36_52 = .seq c36_53 c36_54 := by kernel_rfl
theorem c36_53e : c36_53 = .region 17 r36_53 false := by kernel_rfl
theorem c36_54e : c36_54 = .cond (cdC c36_54) c36_55 c36_56 := by kernel_rfl
theorem c36_55e : c36_55 = .region 18 r36_55 false := by kernel_rfl
theorem c36_56e : c36_56 = .region 13 r36_56 false := by kernel_rfl
theorem c36_57e : c36_57 = .seq c36_58 c36_59 := by kernel_rfl
theorem c36_58e : c36_58 = .region 19 r36_58 true := by kernel_rfl
theorem c36_59e : c36_59 = .ret := by kernel_rfl
noncomputable def client_Client_Hear.R (b_2 : Nat) (A_3 : Option Addr) (c_4 : Nat) (A_6 : Option Addr) (c_7 : Nat) : Pst (T_api_Told × Bool × T_api_Letter × Bool × T_client_Client) where
  ε := Option Addr × Nat × Option Addr × Nat × Option Addr × Nat
  v := fun r x => .tuple ⟨[.agg ⟨[.int .i64 r.1.Client, .int .i64 r.1.Command.Kind, .int .u64 r.1.Command.Session, .int .u64 r.1.Command.Seq, .int .u64 r.1.Command.Saga, .slice x.1 r.1.Command.Steps.length x.2.1, .int .i64 r.1.Command.Step, .bool r.1.Command.Back, .int .i64 r.1.Command.Try, .bool r.1.Command.Ok, .int .u64 r.1.Command.Now, .int .i64 r.1.Reply.Err, .int .u64 r.1.Reply.Num, .int .u64 r.1.Reply.Extra]⟩, .bool r.2.1, .agg ⟨[.int .i64 r.2.2.1.Kind, .int .i64 r.2.2.1.From, .int .i64 r.2.2.1.To, .int .u64 r.2.2.1.Term, .int .u64 r.2.2.1.Index, .int .u64 r.2.2.1.Prev, .int .u64 r.2.2.1.Commit, .bool r.2.2.1.Ok, .slice x.2.2.1 r.2.2.1.Entries.length x.2.2.2.1, .string (bs r.2.2.1.Data)]⟩, .bool r.2.2.2.1]⟩
  H := fun r x => [⟨1, b_2, [.int .i64 r.2.2.2.2.id, .int .u64 r.2.2.2.2.session, .int .u64 r.2.2.2.2.seq, .int .u64 r.2.2.2.2.call, .bool r.2.2.2.2.busy, .int .i64 r.2.2.2.2.now.Kind, .int .u64 r.2.2.2.2.now.Session, .int .u64 r.2.2.2.2.now.Seq, .int .u64 r.2.2.2.2.now.Saga, .slice x.2.2.2.2.1 r.2.2.2.2.now.Steps.length x.2.2.2.2.2, .int .i64 r.2.2.2.2.now.Step, .bool r.2.2.2.2.now.Back, .int .i64 r.2.2.2.2.now.Try, .bool r.2.2.2.2.now.Ok, .int .u64 r.2.2.2.2.now.Now, .string (bs r.2.2.2.2.data), .int .i64 r.2.2.2.2.to_]⟩]
  B := fun r x => [Rd 0 kT_api_Step x.1 x.2.1 r.1.Command.Steps, Rd 0 kT_api_Entry x.2.2.1 x.2.2.2.1 r.2.2.1.Entries, Rd 0 kT_api_Step x.2.2.2.2.1 x.2.2.2.2.2 r.2.2.2.2.now.Steps]
noncomputable def client_Client_Hear.cx (b_2 : Nat) (A_3 : Option Addr) (c_4 : Nat) (A_6 : Option Addr) (c_7 : Nat) (w0 : World) (S0 : Fam) : Cx (T_api_Told × Bool × T_api_Letter × Bool × T_client_Client) := ⟨Try.prog, 36, Try.f36, 145, w0, S0, [1], 1, client_Client_Hear.R b_2 A_3 c_4 A_6 c_7⟩
theorem client_Client_Hear_j2_ok (n : Nat) (c_1 : T_client_Client) (x_5 : T_api_Letter) (b_2 : Nat) (A_3 : Option Addr) (c_4 : Nat) (A_6 : Option Addr) (c_7 : Nat) (b_8 : Nat) (b_9 : Nat) (b_10 : Nat) (b_11 : Nat) (w0 : World) (S0 : Fam) (b_25 : Bool) :
    GoO (client_Client_Hear.cx b_2 A_3 c_4 A_6 c_7 w0 S0) [(0, .pointer (some ⟨b_2, 0, none⟩)), (3, .pointer (some ⟨b_8, 0, none⟩)), (4, .pointer (some ⟨b_9, 0, none⟩)), (6, .pointer (some ⟨b_10, 0, none⟩)), (8, .pointer (some ⟨b_11, 0, none⟩)), (83, .bool b_25)] [⟨1, b_2, [.int .i64 c_1.id, .int .u64 c_1.session, .int .u64 c_1.seq, .int .u64 c_1.call, .bool c_1.busy, .int .i64 c_1.now.Kind, .int .u64 c_1.now.Session, .int .u64 c_1.now.Seq, .int .u64 c_1.now.Saga, .slice A_3 c_1.now.Steps.length c_4, .int .i64 c_1.now.Step, .bool c_1.now.Back, .int .i64 c_1.now.Try, .bool c_1.now.Ok, .int .u64 c_1.now.Now, .string (bs c_1.data), .int .i64 c_1.to_]⟩, ⟨40, b_8, [.int .i64 x_5.Kind, .int .i64 x_5.From, .int .i64 x_5.To, .int .u64 x_5.Term, .int .u64 x_5.Index, .int .u64 x_5.Prev, .int .u64 x_5.Commit, .bool x_5.Ok, .slice A_6 x_5.Entries.length c_7, .string (bs x_5.Data)]⟩, ⟨41, b_9, [.int .i64 0, .int .i64 0, .int .u64 0, .int .u64 0, .int .u64 0, .slice none ([] : List T_api_Step).length 0, .int .i64 0, .bool false, .int .i64 0, .bool false, .int .u64 0, .int .i64 0, .int .u64 0, .int .u64 0]⟩, ⟨42, b_10, [.int .i64 0, .int .i64 0, .int .i64 0, .int .u64 0, .int .u64 0, .int .u64 0, .int .u64 0, .bool false, .slice none ([] : List T_api_Entry).length 0, .string (bs [])]⟩, ⟨43, b_11, [.int .i64 0, .int .i64 0, .int .i64 0, .int .u64 0, .int .u64 0, .int .u64 0, .int .u64 0, .bool false, .slice none ([] : List T_api_Entry).length 0, .string (bs [])]⟩] [Rd 0 kT_api_Step A_3 c_4 c_1.now.Steps, Rd 0 kT_api_Entry A_6 c_7 x_5.Entries] [.code c36_29, .code c36_36, .code c36_40] (client_Client_Hear.j2 n c_1 x_5 b_25) := by
  unfold client_Client_Hear.j2
  refine GoO.ite' c36_29e (by kernel_rfl) (fun h26 => ?_) (fun h26 => ?_)
  · refine GoO.seq' c36_30e ?_
    refine GoO.region' (is := [0, 1, 2, 3, 4, 5, 6, 7]) c36_31e (by kernel_rfl) ?_
    refine GoO.exec (is := [0, 1, 2, 3, 4, 5, 6, 7]) (hs := [.p, .p, .b 1, .p, .p, .p, .p, .b 0]) (rest := []) (ks := [0, 4, 6]) (env' := [(0, .pointer (some ⟨b_2, 0, none⟩)), (4, .pointer (some ⟨b_9, 0, none⟩)), (6, .pointer (some ⟨b_10, 0, none⟩))]) (H' := [⟨1, b_2, [.int .i64 c_1.id, .int .u64 c_1.session, .int .u64 c_1.seq, .int .u64 c_1.call, .bool c_1.busy, .int .i64 c_1.now.Kind, .int .u64 c_1.now.Session, .int .u64 c_1.now.Seq, .int .u64 c_1.now.Saga, .slice A_3 c_1.now.Steps.length c_4, .int .i64 c_1.now.Step, .bool c_1.now.Back, .int .i64 c_1.now.Try, .bool c_1.now.Ok, .int .u64 c_1.now.Now, .string (bs c_1.data), .int .i64 (wi64 (wu64 (x_5.Commit - 1)))]⟩, ⟨40, b_8, [.int .i64 x_5.Kind, .int .i64 x_5.From, .int .i64 x_5.To, .int .u64 x_5.Term, .int .u64 x_5.Index, .int .u64 x_5.Prev, .int .u64 x_5.Commit, .bool x_5.Ok, .slice A_6 x_5.Entries.length c_7, .string (bs x_5.Data)]⟩, ⟨41, b_9, [.int .i64 0, .int .i64 0, .int .u64 0, .int .u64 0, .int .u64 0, .slice none ([] : List T_api_Step).length 0, .int .i64 0, .bool false, .int .i64 0, .bool false, .int .u64 0, .int .i64 0, .int .u64 0, .int .u64 0]⟩, ⟨42, b_10, [.int .i64 0, .int .i64 0, .int .i64 0, .int .u64 0, .int .u64 0, .int .u64 0, .int .u64 0, .bool false, .slice none ([] : List T_api_Entry).length 0, .string (bs [])]⟩, ⟨43, b_11, [.int .i64 0, .int .i64 0, .int .i64 0, .int .u64 0, .int .u64 0, .int .u64 0, .int .u64 0, .bool false, .slice none ([] : List T_api_Entry).length 0, .string (bs [])]⟩]) (ps := [b_8 = b_8, b_2 = b_2]) (by kernel_rfl) (And.intro rfl (And.intro rfl trivial)) ?_
    refine GoO.regionEnd ?_
    refine GoO.seq' c36_32e ?_
    refine GoO.region' (is := [0, 1, 2, 3, 4, 5, 6]) c36_33e (by kernel_rfl) ?_
    refine GoO.exec (is := [0, 1]) (hs := [.p, .p]) (rest := [2, 3, 4, 5, 6]) (ks := [4, 6, 91, 92]) (env' := [(4, .pointer (some ⟨b_9, 0, none⟩)), (6, .pointer (some ⟨b_10, 0, none⟩)), (91, .agg ⟨[.int .i64 0, .int .i64 0, .int .u64 0, .int .u64 0, .int .u64 0, .slice none ([] : List T_api_Step).length 0, .int .i64 0, .bool false, .int .i64 0, .bool false, .int .u64 0, .int .i64 0, .int .u64 0, .int .u64 0]⟩), (92, .pointer (some ⟨b_2, 0, none⟩))]) (H' := [⟨1, b_2, [.int .i64 c_1.id, .int .u64 c_1.session, .int .u64 c_1.seq, .int .u64 c_1.call, .bool c_1.busy, .int .i64 c_1.now.Kind, .int .u64 c_1.now.Session, .int .u64 c_1.now.Seq, .int .u64 c_1.now.Saga, .slice A_3 c_1.now.Steps.length c_4, .int .i64 c_1.now.Step, .bool c_1.now.Back, .int .i64 c_1.now.Try, .bool c_1.now.Ok, .int .u64 c_1.now.Now, .string (bs c_1.data), .int .i64 (wi64 (wu64 (x_5.Commit - 1)))]⟩, ⟨40, b_8, [.int .i64 x_5.Kind, .int .i64 x_5.From, .int .i64 x_5.To, .int .u64 x_5.Term, .int .u64 x_5.Index, .int .u64 x_5.Prev, .int .u64 x_5.Commit, .bool x_5.Ok, .slice A_6 x_5.Entries.length c_7, .string (bs x_5.Data)]⟩, ⟨41, b_9, [.int .i64 0, .int .i64 0, .int .u64 0, .int .u64 0, .int .u64 0, .slice none ([] : List T_api_Step).length 0, .int .i64 0, .bool false, .int .i64 0, .bool false, .int .u64 0, .int .i64 0, .int .u64 0, .int .u64 0]⟩, ⟨42, b_10, [.int .i64 0, .int .i64 0, .int .i64 0, .int .u64 0, .int .u64 0, .int .u64 0, .int .u64 0, .bool false, .slice none ([] : List T_api_Entry).length 0, .string (bs [])]⟩, ⟨43, b_11, [.int .i64 0, .int .i64 0, .int .i64 0, .int .u64 0, .int .u64 0, .int .u64 0, .int .u64 0, .bool false, .slice none ([] : List T_api_Entry).length 0, .string (bs [])]⟩]) (ps := []) (by kernel_rfl) trivial ?_
    refine OpTo.go (GoO.call rfl (by kernel_rfl) (by kernel_rfl) (client_Client_letter_ok n (⟨c_1.id, c_1.session, c_1.seq, c_1.call, c_1.busy, (⟨c_1.now.Kind, c_1.now.Session, c_1.now.Seq, c_1.now.Saga, c_1.now.Steps, c_1.now.Step, c_1.now.Back, c_1.now.Try, c_1.now.Ok, c_1.now.Now⟩ : T_api_Command), c_1.data, wi64 (wu64 (x_5.Commit - 1))⟩ : T_client_Client) b_2 A_3 c_4) [[0], [1]] [] [(1, 0)] [(0, 0)] (hks := [0, 1, 2, 3, 4]) (bks := [0, 1]) (by kernel_rfl) (by kernel_rfl) (by kernel_rfl) (.inl rfl) rfl rfl (by kernel_rfl) (by kernel_rfl) _ (fun _ _ => rfl) _ _ (fun _ _ => rfl) (fun _ _ => rfl) (fun _ _ => by kernel_rfl) (fun _ _ => by kernel_rfl) (fun r_27 x_30 => ?_))
    obtain ⟨A_28, c_29⟩ := x_30
    refine GoO.shape (env' := [(4, .pointer (some ⟨b_9, 0, none⟩)), (6, .pointer (some ⟨b_10, 0, none⟩)), (91, .agg ⟨[.int .i64 0, .int .i64 0, .int .u64 0, .int .u64 0, .int .u64 0, .slice none ([] : List T_api_Step).length 0, .int .i64 0, .bool false, .int .i64 0, .bool false, .int .u64 0, .int .i64 0, .int .u64 0, .int .u64 0]⟩), (92, .pointer (some ⟨b_2, 0, none⟩)), (93, .agg ⟨[.int .i64 r_27.Kind, .int .i64 r_27.From, .int .i64 r_27.To, .int .u64 r_27.Term, .int .u64 r_27.Index, .int .u64 r_27.Prev, .int .u64 r_27.Commit, .bool r_27.Ok, .slice A_28 r_27.Entries.length c_29, .string (bs r_27.Data)]⟩)]) (H' := [⟨1, b_2, [.int .i64 c_1.id, .int .u64 c_1.session, .int .u64 c_1.seq, .int .u64 c_1.call, .bool c_1.busy, .int .i64 c_1.now.Kind, .int .u64 c_1.now.Session, .int .u64 c_1.now.Seq, .int .u64 c_1.now.Saga, .slice A_3 c_1.now.Steps.length c_4, .int .i64 c_1.now.Step, .bool c_1.now.Back, .int .i64 c_1.now.Try, .bool c_1.now.Ok, .int .u64 c_1.now.Now, .string (bs c_1.data), .int .i64 (wi64 (wu64 (x_5.Commit - 1)))]⟩, ⟨40, b_8, [.int .i64 x_5.Kind, .int .i64 x_5.From, .int .i64 x_5.To, .int .u64 x_5.Term, .int .u64 x_5.Index, .int .u64 x_5.Prev, .int .u64 x_5.Commit, .bool x_5.Ok, .slice A_6 x_5.Entries.length c_7, .string (bs x_5.Data)]⟩, ⟨41, b_9, [.int .i64 0, .int .i64 0, .int .u64 0, .int .u64 0, .int .u64 0, .slice none ([] : List T_api_Step).length 0, .int .i64 0, .bool false, .int .i64 0, .bool false, .int .u64 0, .int .i64 0, .int .u64 0, .int .u64 0]⟩, ⟨42, b_10, [.int .i64 0, .int .i64 0, .int .i64 0, .int .u64 0, .int .u64 0, .int .u64 0, .int .u64 0, .bool false, .slice none ([] : List T_api_Entry).length 0, .string (bs [])]⟩, ⟨43, b_11, [.int .i64 0, .int .i64 0, .int .i64 0, .int .u64 0, .int .u64 0, .int .u64 0, .int .u64 0, .bool false, .slice none ([] : List T_api_Entry).length 0, .string (bs [])]⟩]) (B' := [Rd 0 kT_api_Entry A_28 c_29 r_27.Entries, Rd 0 kT_api_Step A_3 c_4 c_1.now.Steps, Rd 0 kT_api_Entry A_6 c_7 x_5.Entries]) (ks := [4, 6, 91, 92, 93]) (by kernel_rfl) (by kernel_rfl) (by kernel_rfl) ?_
    refine GoO.exec (is := [3, 4, 5, 6]) (hs := [.b 2, .p, .b 3, .p]) (rest := []) (ks := [4, 5, 6, 7]) (env' := [(4, .pointer (some ⟨b_9, 0, none⟩)), (5, .bool false), (6, .pointer (some ⟨b_10, 0, none⟩)), (7, .bool true)]) (H' := [⟨1, b_2, [.int .i64 c_1.id, .int .u64 c_1.session, .int .u64 c_1.seq, .int .u64 c_1.call, .bool c_1.busy, .int .i64 c_1.now.Kind, .int .u64 c_1.now.Session, .int .u64 c_1.now.Seq, .int .u64 c_1.now.Saga, .slice A_3 c_1.now.Steps.length c_4, .int .i64 c_1.now.Step, .bool c_1.now.Back, .int .i64 c_1.now.Try, .bool c_1.now.Ok, .int .u64 c_1.now.Now, .string (bs c_1.data), .int .i64 (wi64 (wu64 (x_5.Commit - 1)))]⟩, ⟨40, b_8, [.int .i64 x_5.Kind, .int .i64 x_5.From, .int .i64 x_5.To, .int .u64 x_5.Term, .int .u64 x_5.Index, .int .u64 x_5.Prev, .int .u64 x_5.Commit, .bool x_5.Ok, .slice A_6 x_5.Entries.length c_7, .string (bs x_5.Data)]⟩, ⟨41, b_9, [.int .i64 0, .int .i64 0, .int .u64 0, .int .u64 0, .int .u64 0, .slice none ([] : List T_api_Step).length 0, .int .i64 0, .bool false, .int .i64 0, .bool false, .int .u64 0, .int .i64 0, .int .u64 0, .int .u64 0]⟩, ⟨42, b_10, [.int .i64 r_27.Kind, .int .i64 r_27.From, .int .i64 r_27.To, .int .u64 r_27.Term, .int .u64 r_27.Index, .int .u64 r_27.Prev, .int .u64 r_27.Commit, .bool r_27.Ok, .slice A_28 r_27.Entries.length c_29, .string (bs r_27.Data)]⟩, ⟨43, b_11, [.int .i64 0, .int .i64 0, .int .i64 0, .int .u64 0, .int .u64 0, .int .u64 0, .int .u64 0, .bool false, .slice none ([] : List T_api_Entry).length 0, .string (bs [])]⟩]) (ps := [b_9 = b_9, b_10 = b_10]) (by kernel_rfl) (And.intro rfl (And.intro rfl trivial)) ?_
    refine GoO.regionEnd ?_
    refine GoO.nilRd kT_api_Step ?_
    exact GoO.ret' (h := c36_34e) (hs := [2, 3]) (ps := [b_9 = b_9, b_10 = b_10]) (hk := [0]) (bk := [0, 1, 2]) Try.func36 (⟨none, 0, A_28, c_29, A_3, c_4⟩ : Option Addr × Nat × Option Addr × Nat × Option Addr × Nat) (by kernel_rfl) (And.intro rfl (And.intro rfl trivial)) (by kernel_rfl) (by kernel_rfl)
  · refine GoO.skip' c36_35e ?_
    refine GoO.seq' c36_36e ?_
    refine GoO.draw c36_37e (by kernel_rfl) [4, 5] [⟨43, b_11, [.int .i64 0, .int .i64 0, .int .i64 0, .int .u64 0, .int .u64 0, .int .u64 0, .int .u64 0, .bool false, .slice none ([] : List T_api_Entry).length 0, .string (bs [])]⟩] [] (n := 6) (by kernel_rfl) ?_
    simp only [List.replicate]
    refine GoF.take [0, 1] [.p, .b 0] (ks := [4, 6, 94, 95]) (fu := 4) (li := [true, true, false, false, false, false]) (env' := [(4, .pointer (some ⟨b_9, 0, none⟩)), (6, .pointer (some ⟨b_10, 0, none⟩)), (94, .agg ⟨[.int .i64 0, .int .i64 0, .int .u64 0, .int .u64 0, .int .u64 0, .slice none ([] : List T_api_Step).length 0, .int .i64 0, .bool false, .int .i64 0, .bool false, .int .u64 0, .int .i64 0, .int .u64 0, .int .u64 0]⟩), (95, .agg ⟨[.int .i64 0, .int .i64 0, .int .i64 0, .int .u64 0, .int .u64 0, .int .u64 0, .int .u64 0, .bool false, .slice none ([] : List T_api_Entry).length 0, .string (bs [])]⟩)]) (ps := [b_11 = b_11]) (hk := [4]) (bk := []) (by kernel_rfl) (And.intro rfl trivial) rfl rfl ?_
    refine GoF.fin1 (i := 2) (hint := .b 2) (ps := [b_9 = b_9]) (hk := [4]) (bk := []) (by kernel_rfl) rfl (And.intro rfl trivial) (.inr ⟨rfl, rfl⟩) ?_
    refine GoF.take [3] [.p] (ks := [4, 5, 6, 95]) (fu := 2) (li := [true, true, true, true, false, false]) (env' := [(4, .pointer (some ⟨b_9, 0, none⟩)), (5, .bool false), (6, .pointer (some ⟨b_10, 0, none⟩)), (95, .agg ⟨[.int .i64 0, .int .i64 0, .int .i64 0, .int .u64 0, .int .u64 0, .int .u64 0, .int .u64 0, .bool false, .slice none ([] : List T_api_Entry).length 0, .string (bs [])]⟩)]) (ps := []) (hk := [4]) (bk := []) (by kernel_rfl) trivial rfl rfl ?_
    refine GoF.fin1 (i := 4) (hint := .b 3) (ps := [b_10 = b_10]) (hk := []) (bk := []) (by kernel_rfl) rfl (And.intro rfl trivial) (.inl rfl) ?_
    refine GoF.fin1 (i := 5) (hint := .p) (ps := []) (hk := []) (bk := []) (by kernel_rfl) rfl trivial (.inl rfl) ?_
    refine GoF.done (by kernel_rfl) ?_
    refine GoO.nilRd kT_api_Step ?_
    refine GoO.nilRd kT_api_Entry ?_
    exact GoO.ret' (h := c36_38e) (hs := [2, 3]) (ps := [b_9 = b_9, b_10 = b_10]) (hk := [0]) (bk := [1, 0, 2]) Try.func36 (⟨none, 0, none, 0, A_3, c_4⟩ : Option Addr × Nat × Option Addr × Nat × Option Addr × Nat) (by kernel_rfl) (And.intro rfl (And.intro rfl trivial)) (by kernel_rfl) (by kernel_rfl)
theorem client_Client_Hear_j3_ok (n : Nat) (c_1 : T_client_Client) (r_17 : T_api_Reply × Int) (b_2 : Nat) (A_3 : Option Addr) (c_4 : Nat) (b_9 : Nat) (b_10 : Nat) (b_11 : Nat) (b_18 : Nat) (A_6 : Option Addr) (c_7 : Nat) (w0 : World) (S0 : Fam) (f_34 : Int) (f_35 : Int) :
    GoO (client_Client_Hear.cx b_2 A_3 c_4 A_6 c_7 w0 S0) [(0, .pointer (some ⟨b_2, 0, none⟩)), (4, .pointer (some ⟨b_9, 0, none⟩)), (6, .pointer (some ⟨b_10, 0, none⟩)), (8, .pointer (some ⟨b_11, 0, none⟩)), (9, .pointer (some ⟨b_18, 0, none⟩))] [⟨1, b_2, [.int .i64 c_1.id, .int .u64 f_34, .int .u64 f_35, .int .u64 c_1.call, .bool false, .int .i64 c_1.now.Kind, .int .u64 c_1.now.Session, .int .u64 c_1.now.Seq, .int .u64 c_1.now.Saga, .slice A_3 c_1.now.Steps.length c_4, .int .i64 c_1.now.Step, .bool c_1.now.Back, .int .i64 c_1.now.Try, .bool c_1.now.Ok, .int .u64 c_1.now.Now, .string (bs c_1.data), .int .i64 c_1.to_]⟩, ⟨41, b_9, [.int .i64 0, .int .i64 0, .int .u64 0, .int .u64 0, .int .u64 0, .slice none ([] : List T_api_Step).length 0, .int .i64 0, .bool false, .int .i64 0, .bool false, .int .u64 0, .int .i64 0, .int .u64 0, .int .u64 0]⟩, ⟨42, b_10, [.int .i64 0, .int .i64 0, .int .i64 0, .int .u64 0, .int .u64 0, .int .u64 0, .int .u64 0, .bool false, .slice none ([] : List T_api_Entry).length 0, .string (bs [])]⟩, ⟨43, b_11, [.int .i64 0, .int .i64 0, .int .i64 0, .int .u64 0, .int .u64 0, .int .u64 0, .int .u64 0, .bool false, .slice none ([] : List T_api_Entry).length 0, .string (bs [])]⟩, ⟨44, b_18, [.int .i64 r_17.1.Err, .int .u64 r_17.1.Num, .int .u64 r_17.1.Extra]⟩] [Rd 0 kT_api_Step A_3 c_4 c_1.now.Steps] [.inBlock 0, .code c36_57] (client_Client_Hear.j3 n c_1 r_17 f_34 f_35) := by
  unfold client_Client_Hear.j3
  refine GoO.inBlock ?_
  refine GoO.seq' c36_57e ?_
  refine GoO.draw c36_58e (by kernel_rfl) [13, 14] [⟨1, b_2, [.int .i64 c_1.id, .int .u64 f_34, .int .u64 f_35, .int .u64 c_1.call, .bool false, .int .i64 c_1.now.Kind, .int .u64 c_1.now.Session, .int .u64 c_1.now.Seq, .int .u64 c_1.now.Saga, .slice A_3 c_1.now.Steps.length c_4, .int .i64 c_1.now.Step, .bool c_1.now.Back, .int .i64 c_1.now.Try, .bool c_1.now.Ok, .int .u64 c_1.now.Now, .string (bs c_1.data), .int .i64 c_1.to_]⟩, ⟨43, b_11, [.int .i64 0, .int .i64 0, .int .i64 0, .int .u64 0, .int .u64 0, .int .u64 0, .int .u64 0, .bool false, .slice none ([] : List T_api_Entry).length 0, .string (bs [])]⟩, ⟨44, b_18, [.int .i64 r_17.1.Err, .int .u64 r_17.1.Num, .int .u64 r_17.1.Extra]⟩] [] (n := 15) (by kernel_rfl) ?_
  simp only [List.replicate]
  refine GoF.take [0, 1, 2, 3, 4, 5, 6, 7, 8, 9, 10] [.p, .p, .p, .b 0, .p, .p, .p, .b 0, .b 2, .p, .b 1] (ks := [4, 6, 143, 144]) (fu := 4) (li := [true, true, true, true, true, true, true, true, true, true, true, false, false, false, false]) (env' := [(4, .pointer (some ⟨b_9, 0, none⟩)), (6, .pointer (some ⟨b_10, 0, none⟩)), (143, .agg ⟨[.int .i64 c_1.id, .int .i64 c_1.now.Kind, .int .u64 c_1.now.Session, .int .u64 c_1.now.Seq, .int .u64 c_1.now.Saga, .slice A_3 c_1.now.Steps.length c_4, .int .i64 c_1.now.Step, .bool c_1.now.Back, .int .i64 c_1.now.Try, .bool c_1.now.Ok, .int .u64 c_1.now.Now, .int .i64 r_17.1.Err, .int .u64 r_17.1.Num, .int .u64 r_17.1.Extra]⟩), (144, .agg ⟨[.int .i64 0, .int .i64 0, .int .i64 0, .int .u64 0, .int .u64 0, .int .u64 0, .int .u64 0, .bool false, .slice none ([] : List T_api_Entry).length 0, .string (bs [])]⟩)]) (ps := [b_2 = b_2, b_2 = b_2, b_18 = b_18, b_11 = b_11]) (hk := [0, 3, 4]) (bk := []) (by kernel_rfl) (And.intro rfl (And.intro rfl (And.intro rfl (And.intro rfl trivial)))) rfl rfl ?_
  refine GoF.fin1 (i := 11) (hint := .b 1) (ps := [b_9 = b_9]) (hk := [0, 3, 4]) (bk := []) (by kernel_rfl) rfl (And.intro rfl trivial) (.inr ⟨rfl, rfl⟩) ?_
  refine GoF.take [12] [.p] (ks := [4, 5, 6, 144]) (fu := 2) (li := [true, true, true, true, true, true, true, true, true, true, true, true, true, false, false]) (env' := [(4, .pointer (some ⟨b_9, 0, none⟩)), (5, .bool true), (6, .pointer (some ⟨b_10, 0, none⟩)), (144, .agg ⟨[.int .i64 0, .int .i64 0, .int .i64 0, .int .u64 0, .int .u64 0, .int .u64 0, .int .u64 0, .bool false, .slice none ([] : List T_api_Entry).length 0, .string (bs [])]⟩)]) (ps := []) (hk := [0, 3, 4]) (bk := []) (by kernel_rfl) trivial rfl rfl ?_
  refine GoF.fin1 (i := 13) (hint := .b 2) (ps := [b_10 = b_10]) (hk := []) (bk := []) (by kernel_rfl) rfl (And.intro rfl trivial) (.inl rfl) ?_
  refine GoF.fin1 (i := 14) (hint := .p) (ps := []) (hk := []) (bk := []) (by kernel_rfl) rfl trivial (.inl rfl) ?_
  refine GoF.done (by kernel_rfl) ?_
  refine GoO.nilRd kT_api_Entry ?_
  exact GoO.ret' (h := c36_59e) (hs := [1, 2]) (ps := [b_9 = b_9, b_10 = b_10]) (hk := [0]) (bk := [1, 0, 1]) Try.func36 (⟨A_3, c_4, none, 0, A_3, c_4⟩ : Option Addr × Nat × Option Addr × Nat × Option Addr × Nat) (by kernel_rfl) (And.intro rfl (And.intro rfl trivial)) (by kernel_rfl) (by kernel_rfl)
theorem client_Client_Hear_j1_ok (n : Nat) (c_1 : T_client_Client) (x_5 : T_api_Letter) (r_17 : T_api_Reply × Int) (b_2 : Nat) (A_3 : Option Addr) (c_4 : Nat) (A_6 : Option Addr) (c_7 : Nat) (b_8 : Nat) (b_9 : Nat) (b_10 : Nat) (b_11 : Nat) (b_18 : Nat) (w0 : World) (S0 : Fam) (b_21 : Bool) :
    GoO (client_Client_Hear.cx b_2 A_3 c_4 A_6 c_7 w0 S0) [(0, .pointer (some ⟨b_2, 0, none⟩)), (3, .pointer (some ⟨b_8, 0, none⟩)), (4, .pointer (some ⟨b_9, 0, none⟩)), (6, .pointer (some ⟨b_10, 0, none⟩)), (8, .pointer (some ⟨b_11, 0, none⟩)), (9, .pointer (some ⟨b_18, 0, none⟩)), (64, .bool b_21)] [⟨1, b_2, [.int .i64 c_1.id, .int .u64 c_1.session, .int .u64 c_1.seq, .int .u64 c_1.call, .bool c_1.busy, .int .i64 c_1.now.Kind, .int .u64 c_1.now.Session, .int .u64 c_1.now.Seq, .int .u64 c_1.now.Saga, .slice A_3 c_1.now.Steps.length c_4, .int .i64 c_1.now.Step, .bool c_1.now.Back, .int .i64 c_1.now.Try, .bool c_1.now.Ok, .int .u64 c_1.now.Now, .string (bs c_1.data), .int .i64 c_1.to_]⟩, ⟨40, b_8, [.int .i64 x_5.Kind, .int .i64 x_5.From, .int .i64 x_5.To, .int .u64 x_5.Term, .int .u64 x_5.Index, .int .u64 x_5.Prev, .int .u64 x_5.Commit, .bool x_5.Ok, .slice A_6 x_5.Entries.length c_7, .string (bs x_5.Data)]⟩, ⟨41, b_9, [.int .i64 0, .int .i64 0, .int .u64 0, .int .u64 0, .int .u64 0, .slice none ([] : List T_api_Step).length 0, .int .i64 0, .bool false, .int .i64 0, .bool false, .int .u64 0, .int .i64 0, .int .u64 0, .int .u64 0]⟩, ⟨42, b_10, [.int .i64 0, .int .i64 0, .int .i64 0, .int .u64 0, .int .u64 0, .int .u64 0, .int .u64 0, .bool false, .slice none ([] : List T_api_Entry).length 0, .string (bs [])]⟩, ⟨43, b_11, [.int .i64 0, .int .i64 0, .int .i64 0, .int .u64 0, .int .u64 0, .int .u64 0, .int .u64 0, .bool false, .slice none ([] : List T_api_Entry).length 0, .string (bs [])]⟩, ⟨44, b_18, [.int .i64 r_17.1.Err, .int .u64 r_17.1.Num, .int .u64 r_17.1.Extra]⟩] [Rd 0 kT_api_Step A_3 c_4 c_1.now.Steps, Rd 0 kT_api_Entry A_6 c_7 x_5.Entries] [.code c36_25, .code c36_40] (client_Client_Hear.j1 n c_1 x_5 r_17 b_21) := by
  unfold client_Client_Hear.j1
  refine GoO.ite' c36_25e (by kernel_rfl) (fun h22 => ?_) (fun h22 => ?_)
  · refine GoO.seq' c36_26e ?_
    refine GoO.seq' c36_27e ?_
    refine GoO.draw c36_28e (by kernel_rfl) [] [⟨1, b_2, [.int .i64 c_1.id, .int .u64 c_1.session, .int .u64 c_1.seq, .int .u64 c_1.call, .bool c_1.busy, .int .i64 c_1.now.Kind, .int .u64 c_1.now.Session, .int .u64 c_1.now.Seq, .int .u64 c_1.now.Saga, .slice A_3 c_1.now.Steps.length c_4, .int .i64 c_1.now.Step, .bool c_1.now.Back, .int .i64 c_1.now.Try, .bool c_1.now.Ok, .int .u64 c_1.now.Now, .string (bs c_1.data), .int .i64 c_1.to_]⟩, ⟨40, b_8, [.int .i64 x_5.Kind, .int .i64 x_5.From, .int .i64 x_5.To, .int .u64 x_5.Term, .int .u64 x_5.Index, .int .u64 x_5.Prev, .int .u64 x_5.Commit, .bool x_5.Ok, .slice A_6 x_5.Entries.length c_7, .string (bs x_5.Data)]⟩] [] (n := 19) (by kernel_rfl) ?_
    simp only [List.replicate]
    refine GoF.take [0, 1, 2, 3] [.p, .b 1, .p, .p] (ks := [0, 3, 4, 6, 8, 68]) (fu := 15) (li := [true, true, true, true, false, false, false, false, false, false, false, false, false, false, false, false, false, false, false]) (env' := [(0, .pointer (some ⟨b_2, 0, none⟩)), (3, .pointer (some ⟨b_8, 0, none⟩)), (4, .pointer (some ⟨b_9, 0, none⟩)), (6, .pointer (some ⟨b_10, 0, none⟩)), (8, .pointer (some ⟨b_11, 0, none⟩)), (68, .bool (decide (x_5.Commit ≥ 1)))]) (ps := [b_8 = b_8]) (hk := [0, 1]) (bk := []) (by kernel_rfl) (And.intro rfl trivial) rfl rfl ?_
    refine GoF.bsplit (t := 68) (by kernel_rfl) (fun h23 => ?_) (fun h23 => ?_)
    · refine GoF.take [4, 5, 6, 7, 8] [.p, .b 1, .p, .p, .p] (ks := [0, 3, 4, 6, 8, 73]) (fu := 10) (li := [true, true, true, true, true, true, true, true, true, false, false, false, false, false, false, false, false, false, false]) (env' := [(0, .pointer (some ⟨b_2, 0, none⟩)), (3, .pointer (some ⟨b_8, 0, none⟩)), (4, .pointer (some ⟨b_9, 0, none⟩)), (6, .pointer (some ⟨b_10, 0, none⟩)), (8, .pointer (some ⟨b_11, 0, none⟩)), (73, .bool (decide (x_5.Commit ≤ 7)))]) (ps := [b_8 = b_8]) (hk := [0, 1]) (bk := []) (by kernel_rfl) (And.intro rfl trivial) rfl rfl ?_
      refine GoF.bsplit (t := 73) (by kernel_rfl) (fun h24 => ?_) (fun h24 => ?_)
      · refine GoF.take [9, 10, 11, 12, 13, 14, 15, 16, 17, 18] [.p, .b 1, .p, .p, .p, .p, .p, .b 0, .p, .p] (ks := [0, 3, 4, 6, 8, 83]) (fu := 0) (li := [true, true, true, true, true, true, true, true, true, true, true, true, true, true, true, true, true, true, true]) (env' := [(0, .pointer (some ⟨b_2, 0, none⟩)), (3, .pointer (some ⟨b_8, 0, none⟩)), (4, .pointer (some ⟨b_9, 0, none⟩)), (6, .pointer (some ⟨b_10, 0, none⟩)), (8, .pointer (some ⟨b_11, 0, none⟩)), (83, .bool ((wi64 (wu64 (x_5.Commit - 1))) != c_1.to_))]) (ps := [b_8 = b_8, b_2 = b_2]) (hk := [0, 1]) (bk := []) (by kernel_rfl) (And.intro rfl (And.intro rfl trivial)) rfl rfl ?_
        refine GoF.done (by kernel_rfl) ?_
        exact GoO.sub (ks := [0, 3, 4, 6, 8, 83]) (hk := [0, 1, 2, 3, 4]) (bk := [0, 1]) (by kernel_rfl) (by kernel_rfl) (by kernel_rfl) (client_Client_Hear_j2_ok n c_1 x_5 b_2 A_3 c_4 A_6 c_7 b_8 b_9 b_10 b_11 w0 S0 ((wi64 (wu64 (x_5.Commit - 1))) != c_1.to_))
      · refine GoF.take [9, 10, 11, 12, 13, 14, 15, 16, 17, 18] [.p, .p, .p, .p, .p, .p, .p, .p, .p, .p] (ks := [0, 3, 4, 6, 8, 83]) (fu := 0) (li := [true, true, true, true, true, true, true, true, true, true, true, true, true, true, true, true, true, true, true]) (env' := [(0, .pointer (some ⟨b_2, 0, none⟩)), (3, .pointer (some ⟨b_8, 0, none⟩)), (4, .pointer (some ⟨b_9, 0, none⟩)), (6, .pointer (some ⟨b_10, 0, none⟩)), (8, .pointer (some ⟨b_11, 0, none⟩)), (83, .bool false)]) (ps := []) (hk := [0, 1]) (bk := []) (by kernel_rfl) trivial rfl rfl ?_
        refine GoF.done (by kernel_rfl) ?_
        exact GoO.sub (ks := [0, 3, 4, 6, 8, 83]) (hk := [0, 1, 2, 3, 4]) (bk := [0, 1]) (by kernel_rfl) (by kernel_rfl) (by kernel_rfl) (client_Client_Hear_j2_ok n c_1 x_5 b_2 A_3 c_4 A_6 c_7 b_8 b_9 b_10 b_11 w0 S0 false)
    · refine GoF.take [4, 5, 6, 7, 8, 9, 10, 11, 12, 13, 14, 15, 16, 17, 18] [.p, .p, .p, .p, .p, .p, .p, .p, .p, .p, .p, .p, .p, .p, .p] (ks := [0, 3, 4, 6, 8, 83]) (fu := 0) (li := [true, true, true, true, true, true, true, true, true, true, true, true, true, true, true, true, true, true, true]) (env' := [(0, .pointer (some ⟨b_2, 0, none⟩)), (3, .pointer (some ⟨b_8, 0, none⟩)), (4, .pointer (some ⟨b_9, 0, none⟩)), (6, .pointer (some ⟨b_10, 0, none⟩)), (8, .pointer (some ⟨b_11, 0, none⟩)), (83, .bool false)]) (ps := []) (hk := [0, 1]) (bk := []) (by kernel_rfl) trivial rfl rfl ?_
      refine GoF.done (by kernel_rfl) ?_
      exact GoO.sub (ks := [0, 3, 4, 6, 8, 83]) (hk := [0, 1, 2, 3, 4]) (bk := [0, 1]) (by kernel_rfl) (by kernel_rfl) (by kernel_rfl) (client_Client_Hear_j2_ok n c_1 x_5 b_2 A_3 c_4 A_6 c_7 b_8 b_9 b_10 b_11 w0 S0 false)
  · refine GoO.skip' c36_39e ?_
    refine GoO.seq' c36_40e ?_
    refine GoO.region' (is := [0, 1, 2, 3]) c36_41e (by kernel_rfl) ?_
    refine GoO.exec (is := [0, 1, 2, 3]) (hs := [.p, .p, .p, .b 0]) (rest := []) (ks := [0, 4, 6, 8, 9]) (env' := [(0, .pointer (some ⟨b_2, 0, none⟩)), (4, .pointer (some ⟨b_9, 0, none⟩)), (6, .pointer (some ⟨b_10, 0, none⟩)), (8, .pointer (some ⟨b_11, 0, none⟩)), (9, .pointer (some ⟨b_18, 0, none⟩))]) (H' := [⟨1, b_2, [.int .i64 c_1.id, .int .u64 c_1.session, .int .u64 c_1.seq, .int .u64 c_1.call, .bool false, .int .i64 c_1.now.Kind, .int .u64 c_1.now.Session, .int .u64 c_1.now.Seq, .int .u64 c_1.now.Saga, .slice A_3 c_1.now.Steps.length c_4, .int .i64 c_1.now.Step, .bool c_1.now.Back, .int .i64 c_1.now.Try, .bool c_1.now.Ok, .int .u64 c_1.now.Now, .string (bs c_1.data), .int .i64 c_1.to_]⟩, ⟨40, b_8, [.int .i64 x_5.Kind, .int .i64 x_5.From, .int .i64 x_5.To, .int .u64 x_5.Term, .int .u64 x_5.Index, .int .u64 x_5.Prev, .int .u64 x_5.Commit, .bool x_5.Ok, .slice A_6 x_5.Entries.length c_7, .string (bs x_5.Data)]⟩, ⟨41, b_9, [.int .i64 0, .int .i64 0, .int .u64 0, .int .u64 0, .int .u64 0, .slice none ([] : List T_api_Step).length 0, .int .i64 0, .bool false, .int .i64 0, .bool false, .int .u64 0, .int .i64 0, .int .u64 0, .int .u64 0]⟩, ⟨42, b_10, [.int .i64 0, .int .i64 0, .int .i64 0, .int .u64 0, .int .u64 0, .int .u64 0, .int .u64 0, .bool false, .slice none ([] : List T_api_Entry).length 0, .string (bs [])]⟩, ⟨43, b_11, [.int .i64 0, .int .i64 0, .int .i64 0, .int .u64 0, .int .u64 0, .int .u64 0, .int .u64 0, .bool false, .slice none ([] : List T_api_Entry).length 0, .string (bs [])]⟩, ⟨44, b_18, [.int .i64 r_17.1.Err, .int .u64 r_17.1.Num, .int .u64 r_17.1.Extra]⟩]) (ps := [b_2 = b_2]) (by kernel_rfl) (And.intro rfl trivial) ?_
    refine GoO.regionEnd ?_
    refine GoO.seq' c36_42e ?_
    refine GoO.block' c36_43e ?_
    refine GoO.seq' c36_44e ?_
    refine GoO.region' (is := [0, 1, 2, 3, 4, 5, 6]) c36_45e (by kernel_rfl) ?_
    refine GoO.exec (is := [0, 1, 2, 3, 4, 5, 6]) (hs := [.p, .p, .p, .p, .b 0, .p, .p]) (rest := []) (ks := [0, 4, 6, 8, 9, 106]) (env' := [(0, .pointer (some ⟨b_2, 0, none⟩)), (4, .pointer (some ⟨b_9, 0, none⟩)), (6, .pointer (some ⟨b_10, 0, none⟩)), (8, .pointer (some ⟨b_11, 0, none⟩)), (9, .pointer (some ⟨b_18, 0, none⟩)), (106, .bool (c_1.now.Kind == 1))]) (H' := [⟨1, b_2, [.int .i64 c_1.id, .int .u64 c_1.session, .int .u64 c_1.seq, .int .u64 c_1.call, .bool false, .int .i64 c_1.now.Kind, .int .u64 c_1.now.Session, .int .u64 c_1.now.Seq, .int .u64 c_1.now.Saga, .slice A_3 c_1.now.Steps.length c_4, .int .i64 c_1.now.Step, .bool c_1.now.Back, .int .i64 c_1.now.Try, .bool c_1.now.Ok, .int .u64 c_1.now.Now, .string (bs c_1.data), .int .i64 c_1.to_]⟩, ⟨40, b_8, [.int .i64 x_5.Kind, .int .i64 x_5.From, .int .i64 x_5.To, .int .u64 x_5.Term, .int .u64 x_5.Index, .int .u64 x_5.Prev, .int .u64 x_5.Commit, .bool x_5.Ok, .slice A_6 x_5.Entries.length c_7, .string (bs x_5.Data)]⟩, ⟨41, b_9, [.int .i64 0, .int .i64 0, .int .u64 0, .int .u64 0, .int .u64 0, .slice none ([] : List T_api_Step).length 0, .int .i64 0, .bool false, .int .i64 0, .bool false, .int .u64 0, .int .i64 0, .int .u64 0, .int .u64 0]⟩, ⟨42, b_10, [.int .i64 0, .int .i64 0, .int .i64 0, .int .u64 0, .int .u64 0, .int .u64 0, .int .u64 0, .bool false, .slice none ([] : List T_api_Entry).length 0, .string (bs [])]⟩, ⟨43, b_11, [.int .i64 0, .int .i64 0, .int .i64 0, .int .u64 0, .int .u64 0, .int .u64 0, .int .u64 0, .bool false, .slice none ([] : List T_api_Entry).length 0, .string (bs [])]⟩, ⟨44, b_18, [.int .i64 r_17.1.Err, .int .u64 r_17.1.Num, .int .u64 r_17.1.Extra]⟩]) (ps := [b_2 = b_2]) (by kernel_rfl) (And.intro rfl trivial) ?_
    refine GoO.regionEnd ?_
    refine GoO.ite' c36_46e (by kernel_rfl) (fun h31 => ?_) (fun h31 => ?_)
    · refine GoO.seq' c36_47e ?_
      refine GoO.region' (is := [0, 1, 2]) c36_48e (by kernel_rfl) ?_
      refine GoO.exec (is := [0, 1, 2]) (hs := [.p, .b 5, .p]) (rest := []) (ks := [0, 4, 6, 8, 9, 115]) (env' := [(0, .pointer (some ⟨b_2, 0, none⟩)), (4, .pointer (some ⟨b_9, 0, none⟩)), (6, .pointer (some ⟨b_10, 0, none⟩)), (8, .pointer (some ⟨b_11, 0, none⟩)), (9, .pointer (some ⟨b_18, 0, none⟩)), (115, .bool (r_17.1.Err == 0))]) (H' := [⟨1, b_2, [.int .i64 c_1.id, .int .u64 c_1.session, .int .u64 c_1.seq, .int .u64 c_1.call, .bool false, .int .i64 c_1.now.Kind, .int .u64 c_1.now.Session, .int .u64 c_1.now.Seq, .int .u64 c_1.now.Saga, .slice A_3 c_1.now.Steps.length c_4, .int .i64 c_1.now.Step, .bool c_1.now.Back, .int .i64 c_1.now.Try, .bool c_1.now.Ok, .int .u64 c_1.now.Now, .string (bs c_1.data), .int .i64 c_1.to_]⟩, ⟨40, b_8, [.int .i64 x_5.Kind, .int .i64 x_5.From, .int .i64 x_5.To, .int .u64 x_5.Term, .int .u64 x_5.Index, .int .u64 x_5.Prev, .int .u64 x_5.Commit, .bool x_5.Ok, .slice A_6 x_5.Entries.length c_7, .string (bs x_5.Data)]⟩, ⟨41, b_9, [.int .i64 0, .int .i64 0, .int .u64 0, .int .u64 0, .int .u64 0, .slice none ([] : List T_api_Step).length 0, .int .i64 0, .bool false, .int .i64 0, .bool false, .int .u64 0, .int .i64 0, .int .u64 0, .int .u64 0]⟩, ⟨42, b_10, [.int .i64 0, .int .i64 0, .int .i64 0, .int .u64 0, .int .u64 0, .int .u64 0, .int .u64 0, .bool false, .slice none ([] : List T_api_Entry).length 0, .string (bs [])]⟩, ⟨43, b_11, [.int .i64 0, .int .i64 0, .int .i64 0, .int .u64 0, .int .u64 0, .int .u64 0, .int .u64 0, .bool false, .slice none ([] : List T_api_Entry).length 0, .string (bs [])]⟩, ⟨44, b_18, [.int .i64 r_17.1.Err, .int .u64 r_17.1.Num, .int .u64 r_17.1.Extra]⟩]) (ps := [b_18 = b_18]) (by kernel_rfl) (And.intro rfl trivial) ?_
      refine GoO.regionEnd ?_
      refine GoO.ite' c36_49e (by kernel_rfl) (fun h32 => ?_) (fun h32 => ?_)
      · refine GoO.region' (is := [0, 1, 2, 3, 4, 5, 6, 7, 8, 9]) c36_50e (by kernel_rfl) ?_
        refine GoO.exec (is := [0, 1, 2, 3, 4, 5, 6, 7, 8, 9]) (hs := [.p, .p, .p, .b 5, .p, .p, .b 0, .p, .p, .b 0]) (rest := []) (ks := [0, 4, 6, 8, 9]) (env' := [(0, .pointer (some ⟨b_2, 0, none⟩)), (4, .pointer (some ⟨b_9, 0, none⟩)), (6, .pointer (some ⟨b_10, 0, none⟩)), (8, .pointer (some ⟨b_11, 0, none⟩)), (9, .pointer (some ⟨b_18, 0, none⟩))]) (H' := [⟨1, b_2, [.int .i64 c_1.id, .int .u64 r_17.1.Num, .int .u64 0, .int .u64 c_1.call, .bool false, .int .i64 c_1.now.Kind, .int .u64 c_1.now.Session, .int .u64 c_1.now.Seq, .int .u64 c_1.now.Saga, .slice A_3 c_1.now.Steps.length c_4, .int .i64 c_1.now.Step, .bool c_1.now.Back, .int .i64 c_1.now.Try, .bool c_1.now.Ok, .int .u64 c_1.now.Now, .string (bs c_1.data), .int .i64 c_1.to_]⟩, ⟨40, b_8, [.int .i64 x_5.Kind, .int .i64 x_5.From, .int .i64 x_5.To, .int .u64 x_5.Term, .int .u64 x_5.Index, .int .u64 x_5.Prev, .int .u64 x_5.Commit, .bool x_5.Ok, .slice A_6 x_5.Entries.length c_7, .string (bs x_5.Data)]⟩, ⟨41, b_9, [.int .i64 0, .int .i64 0, .int .u64 0, .int .u64 0, .int .u64 0, .slice none ([] : List T_api_Step).length 0, .int .i64 0, .bool false, .int .i64 0, .bool false, .int .u64 0, .int .i64 0, .int .u64 0, .int .u64 0]⟩, ⟨42, b_10, [.int .i64 0, .int .i64 0, .int .i64 0, .int .u64 0, .int .u64 0, .int .u64 0, .int .u64 0, .bool false, .slice none ([] : List T_api_Entry).length 0, .string (bs [])]⟩, ⟨43, b_11, [.int .i64 0, .int .i64 0, .int .i64 0, .int .u64 0, .int .u64 0, .int .u64 0, .int .u64 0, .bool false, .slice none ([] : List T_api_Entry).length 0, .string (bs [])]⟩, ⟨44, b_18, [.int .i64 r_17.1.Err, .int .u64 r_17.1.Num, .int .u64 r_17.1.Extra]⟩]) (ps := [b_18 = b_18, b_2 = b_2, b_2 = b_2]) (by kernel_rfl) (And.intro rfl (And.intro rfl (And.intro rfl trivial))) ?_
        refine GoO.regionEnd ?_
        exact GoO.sub (ks := [0, 4, 6, 8, 9]) (hk := [0, 2, 3, 4, 5]) (bk := [0]) (by kernel_rfl) (by kernel_rfl) (by kernel_rfl) (client_Client_Hear_j3_ok n c_1 r_17 b_2 A_3 c_4 b_9 b_10 b_11 b_18 A_6 c_7 w0 S0 r_17.1.Num 0)
      · refine GoO.skip' c36_51e ?_
        exact GoO.sub (ks := [0, 4, 6, 8, 9]) (hk := [0, 2, 3, 4, 5]) (bk := [0]) (by kernel_rfl) (by kernel_rfl) (by kernel_rfl) (client_Client_Hear_j3_ok n c_1 r_17 b_2 A_3 c_4 b_9 b_10 b_11 b_18 A_6 c_7 w0 S0 c_1.session c_1.seq)
    · refine GoO.seq' c36_52e ?_
      refine GoO.region' (is := [0, 1, 2, 3]) c36_53e (by kernel_rfl) ?_
      refine GoO.exec (is := [0, 1, 2, 3]) (hs := [.p, .b 5, .p, .p]) (rest := []) (ks := [0, 4, 6, 8, 9, 124]) (env' := [(0, .pointer (some ⟨b_2, 0, none⟩)), (4, .pointer (some ⟨b_9, 0, none⟩)), (6, .pointer (some ⟨b_10, 0, none⟩)), (8, .pointer (some ⟨b_11, 0, none⟩)), (9, .pointer (some ⟨b_18, 0, none⟩)), (124, .bool (r_17.1.Err == 40))]) (H' := [⟨1, b_2, [.int .i64 c_1.id, .int .u64 c_1.session, .int .u64 c_1.seq, .int .u64 c_1.call, .bool false, .int .i64 c_1.now.Kind, .int .u64 c_1.now.Session, .int .u64 c_1.now.Seq, .int .u64 c_1.now.Saga, .slice A_3 c_1.now.Steps.length c_4, .int .i64 c_1.now.Step, .bool c_1.now.Back, .int .i64 c_1.now.Try, .bool c_1.now.Ok, .int .u64 c_1.now.Now, .string (bs c_1.data), .int .i64 c_1.to_]⟩, ⟨40, b_8, [.int .i64 x_5.Kind, .int .i64 x_5.From, .int .i64 x_5.To, .int .u64 x_5.Term, .int .u64 x_5.Index, .int .u64 x_5.Prev, .int .u64 x_5.Commit, .bool x_5.Ok, .slice A_6 x_5.Entries.length c_7, .string (bs x_5.Data)]⟩, ⟨41, b_9, [.int .i64 0, .int .i64 0, .int .u64 0, .int .u64 0, .int .u64 0, .slice none ([] : List T_api_Step).length 0, .int .i64 0, .bool false, .int .i64 0, .bool false, .int .u64 0, .int .i64 0, .int .u64 0, .int .u64 0]⟩, ⟨42, b_10, [.int .i64 0, .int .i64 0, .int .i64 0, .int .u64 0, .int .u64 0, .int .u64 0, .int .u64 0, .bool false, .slice none ([] : List T_api_Entry).length 0, .string (bs [])]⟩, ⟨43, b_11, [.int .i64 0, .int .i64 0, .int .i64 0, .int .u64 0, .int .u64 0, .int .u64 0, .int .u64 0, .bool false, .slice none ([] : List T_api_Entry).length 0, .string (bs [])]⟩, ⟨44, b_18, [.int .i64 r_17.1.Err, .int .u64 r_17.1.Num, .int .u64 r_17.1.Extra]⟩]) (ps := [b_18 = b_18]) (by kernel_rfl) (And.intro rfl trivial) ?_
      refine GoO.regionEnd ?_
      refine GoO.ite' c36_54e (by kernel_rfl) (fun h33 => ?_) (fun h33 => ?_)
      · refine GoO.region' (is := [0, 1, 2, 3, 4, 5, 6, 7]) c36_55e (by kernel_rfl) ?_
        refine GoO.exec (is := [0, 1, 2, 3, 4, 5, 6, 7]) (hs := [.p, .p, .p, .p, .b 0, .p, .p, .b 0]) (rest := []) (ks := [0, 4, 6, 8, 9]) (env' := [(0, .pointer (some ⟨b_2, 0, none⟩)), (4, .pointer (some ⟨b_9, 0, none⟩)), (6, .pointer (some ⟨b_10, 0, none⟩)), (8, .pointer (some ⟨b_11, 0, none⟩)), (9, .pointer (some ⟨b_18, 0, none⟩))]) (H' := [⟨1, b_2, [.int .i64 c_1.id, .int .u64 0, .int .u64 0, .int .u64 c_1.call, .bool false, .int .i64 c_1.now.Kind, .int .u64 c_1.now.Session, .int .u64 c_1.now.Seq, .int .u64 c_1.now.Saga, .slice A_3 c_1.now.Steps.length c_4, .int .i64 c_1.now.Step, .bool c_1.now.Back, .int .i64 c_1.now.Try, .bool c_1.now.Ok, .int .u64 c_1.now.Now, .string (bs c_1.data), .int .i64 c_1.to_]⟩, ⟨40, b_8, [.int .i64 x_5.Kind, .int .i64 x_5.From, .int .i64 x_5.To, .int .u64 x_5.Term, .int .u64 x_5.Index, .int .u64 x_5.Prev, .int .u64 x_5.Commit, .bool x_5.Ok, .slice A_6 x_5.Entries.length c_7, .string (bs x_5.Data)]⟩, ⟨41, b_9, [.int .i64 0, .int .i64 0, .int .u64 0, .int .u64 0, .int .u64 0, .slice none ([] : List T_api_Step).length 0, .int .i64 0, .bool false, .int .i64 0, .bool false, .int .u64 0, .int .i64 0, .int .u64 0, .int .u64 0]⟩, ⟨42, b_10, [.int .i64 0, .int .i64 0, .int .i64 0, .int .u64 0, .int .u64 0, .int .u64 0, .int .u64 0, .bool false, .slice none ([] : List T_api_Entry).length 0, .string (bs [])]⟩, ⟨43, b_11, [.int .i64 0, .int .i64 0, .int .i64 0, .int .u64 0, .int .u64 0, .int .u64 0, .int .u64 0, .bool false, .slice none ([] : List T_api_Entry).length 0, .string (bs [])]⟩, ⟨44, b_18, [.int .i64 r_17.1.Err, .int .u64 r_17.1.Num, .int .u64 r_17.1.Extra]⟩]) (ps := [b_2 = b_2, b_2 = b_2]) (by kernel_rfl) (And.intro rfl (And.intro rfl trivial)) ?_
        refine GoO.regionEnd ?_
        exact GoO.sub (ks := [0, 4, 6, 8, 9]) (hk := [0, 2, 3, 4, 5]) (bk := [0]) (by kernel_rfl) (by kernel_rfl) (by kernel_rfl) (client_Client_Hear_j3_ok n c_1 r_17 b_2 A_3 c_4 b_9 b_10 b_11 b_18 A_6 c_7 w0 S0 0 0)
      · refine GoO.region' (is := [0, 1, 2, 3, 4, 5, 6, 7]) c36_56e (by kernel_rfl) ?_
        refine GoO.exec (is := [0, 1, 2, 3, 4, 5, 6, 7]) (hs := [.p, .p, .p, .b 0, .p, .p, .p, .b 0]) (rest := []) (ks := [0, 4, 6, 8, 9]) (env' := [(0, .pointer (some ⟨b_2, 0, none⟩)), (4, .pointer (some ⟨b_9, 0, none⟩)), (6, .pointer (some ⟨b_10, 0, none⟩)), (8, .pointer (some ⟨b_11, 0, none⟩)), (9, .pointer (some ⟨b_18, 0, none⟩))]) (H' := [⟨1, b_2, [.int .i64 c_1.id, .int .u64 c_1.session, .int .u64 (wu64 (c_1.seq + 1)), .int .u64 c_1.call, .bool false, .int .i64 c_1.now.Kind, .int .u64 c_1.now.Session, .int .u64 c_1.now.Seq, .int .u64 c_1.now.Saga, .slice A_3 c_1.now.Steps.length c_4, .int .i64 c_1.now.Step, .bool c_1.now.Back, .int .i64 c_1.now.Try, .bool c_1.now.Ok, .int .u64 c_1.now.Now, .string (bs c_1.data), .int .i64 c_1.to_]⟩, ⟨40, b_8, [.int .i64 x_5.Kind, .int .i64 x_5.From, .int .i64 x_5.To, .int .u64 x_5.Term, .int .u64 x_5.Index, .int .u64 x_5.Prev, .int .u64 x_5.Commit, .bool x_5.Ok, .slice A_6 x_5.Entries.length c_7, .string (bs x_5.Data)]⟩, ⟨41, b_9, [.int .i64 0, .int .i64 0, .int .u64 0, .int .u64 0, .int .u64 0, .slice none ([] : List T_api_Step).length 0, .int .i64 0, .bool false, .int .i64 0, .bool false, .int .u64 0, .int .i64 0, .int .u64 0, .int .u64 0]⟩, ⟨42, b_10, [.int .i64 0, .int .i64 0, .int .i64 0, .int .u64 0, .int .u64 0, .int .u64 0, .int .u64 0, .bool false, .slice none ([] : List T_api_Entry).length 0, .string (bs [])]⟩, ⟨43, b_11, [.int .i64 0, .int .i64 0, .int .i64 0, .int .u64 0, .int .u64 0, .int .u64 0, .int .u64 0, .bool false, .slice none ([] : List T_api_Entry).length 0, .string (bs [])]⟩, ⟨44, b_18, [.int .i64 r_17.1.Err, .int .u64 r_17.1.Num, .int .u64 r_17.1.Extra]⟩]) (ps := [b_2 = b_2, b_2 = b_2]) (by kernel_rfl) (And.intro rfl (And.intro rfl trivial)) ?_
        refine GoO.regionEnd ?_
        exact GoO.sub (ks := [0, 4, 6, 8, 9]) (hk := [0, 2, 3, 4, 5]) (bk := [0]) (by kernel_rfl) (by kernel_rfl) (by kernel_rfl) (client_Client_Hear_j3_ok n c_1 r_17 b_2 A_3 c_4 b_9 b_10 b_11 b_18 A_6 c_7 w0 S0 c_1.session (wu64 (c_1.seq + 1)))
theorem client_Client_Hear_j0_ok (n : Nat) (c_1 : T_client_Client) (x_5 : T_api_Letter) (b_2 : Nat) (A_3 : Option Addr) (c_4 : Nat) (A_6 : Option Addr) (c_7 : Nat) (b_8 : Nat) (b_9 : Nat) (b_10 : Nat) (b_11 : Nat) (w0 : World) (S0 : Fam) (b_15 : Bool) :
    GoO (client_Client_Hear.cx b_2 A_3 c_4 A_6 c_7 w0 S0) [(0, .pointer (some ⟨b_2, 0, none⟩)), (3, .pointer (some ⟨b_8, 0, none⟩)), (4, .pointer (some ⟨b_9, 0, none⟩)), (6, .pointer (some ⟨b_10, 0, none⟩)), (8, .pointer (some ⟨b_11, 0, none⟩)), (44, .bool b_15)] [⟨1, b_2, [.int .i64 c_1.id, .int .u64 c_1.session, .int .u64 c_1.seq, .int .u64 c_1.call, .bool c_1.busy, .int .i64 c_1.now.Kind, .int .u64 c_1.now.Session, .int .u64 c_1.now.Seq, .int .u64 c_1.now.Saga, .slice A_3 c_1.now.Steps.length c_4, .int .i64 c_1.now.Step, .bool c_1.now.Back, .int .i64 c_1.now.Try, .bool c_1.now.Ok, .int .u64 c_1.now.Now, .string (bs c_1.data), .int .i64 c_1.to_]⟩, ⟨40, b_8, [.int .i64 x_5.Kind, .int .i64 x_5.From, .int .i64 x_5.To, .int .u64 x_5.Term, .int .u64 x_5.Index, .int .u64 x_5.Prev, .int .u64 x_5.Commit, .bool x_5.Ok, .slice A_6 x_5.Entries.length c_7, .string (bs x_5.Data)]⟩, ⟨41, b_9, [.int .i64 0, .int .i64 0, .int .u64 0, .int .u64 0, .int .u64 0, .slice none ([] : List T_api_Step).length 0, .int .i64 0, .bool false, .int .i64 0, .bool false, .int .u64 0, .int .i64 0, .int .u64 0, .int .u64 0]⟩, ⟨42, b_10, [.int .i64 0, .int .i64 0, .int .i64 0, .int .u64 0, .int .u64 0, .int .u64 0, .int .u64 0, .bool false, .slice none ([] : List T_api_Entry).length 0, .string (bs [])]⟩, ⟨43, b_11, [.int .i64 0, .int .i64 0, .int .i64 0, .int .u64 0, .int .u64 0, .int .u64 0, .int .u64 0, .bool false, .slice none ([] : List T_api_Entry).length 0, .string (bs [])]⟩] [Rd 0 kT_api_Step A_3 c_4 c_1.now.Steps, Rd 0 kT_api_Entry A_6 c_7 x_5.Entries] [.code c36_7, .code c36_12] (client_Client_Hear.j0 n c_1 x_5 b_15) := by
  unfold client_Client_Hear.j0
  refine GoO.ite' c36_7e (by kernel_rfl) (fun h16 => ?_) (fun h16 => ?_)
  · refine GoO.seq' c36_8e ?_
    refine GoO.draw c36_9e (by kernel_rfl) [4, 5] [⟨43, b_11, [.int .i64 0, .int .i64 0, .int .i64 0, .int .u64 0, .int .u64 0, .int .u64 0, .int .u64 0, .bool false, .slice none ([] : List T_api_Entry).length 0, .string (bs [])]⟩] [] (n := 6) (by kernel_rfl) ?_
    simp only [List.replicate]
    refine GoF.take [0, 1] [.p, .b 0] (ks := [4, 6, 45, 46]) (fu := 4) (li := [true, true, false, false, false, false]) (env' := [(4, .pointer (some ⟨b_9, 0, none⟩)), (6, .pointer (some ⟨b_10, 0, none⟩)), (45, .agg ⟨[.int .i64 0, .int .i64 0, .int .u64 0, .int .u64 0, .int .u64 0, .slice none ([] : List T_api_Step).length 0, .int .i64 0, .bool false, .int .i64 0, .bool false, .int .u64 0, .int .i64 0, .int .u64 0, .int .u64 0]⟩), (46, .agg ⟨[.int .i64 0, .int .i64 0, .int .i64 0, .int .u64 0, .int .u64 0, .int .u64 0, .int .u64 0, .bool false, .slice none ([] : List T_api_Entry).length 0, .string (bs [])]⟩)]) (ps := [b_11 = b_11]) (hk := [4]) (bk := []) (by kernel_rfl) (And.intro rfl trivial) rfl rfl ?_
    refine GoF.fin1 (i := 2) (hint := .b 2) (ps := [b_9 = b_9]) (hk := [4]) (bk := []) (by kernel_rfl) rfl (And.intro rfl trivial) (.inr ⟨rfl, rfl⟩) ?_
    refine GoF.take [3] [.p] (ks := [4, 5, 6, 46]) (fu := 2) (li := [true, true, true, true, false, false]) (env' := [(4, .pointer (some ⟨b_9, 0, none⟩)), (5, .bool false), (6, .pointer (some ⟨b_10, 0, none⟩)), (46, .agg ⟨[.int .i64 0, .int .i64 0, .int .i64 0, .int .u64 0, .int .u64 0, .int .u64 0, .int .u64 0, .bool false, .slice none ([] : List T_api_Entry).length 0, .string (bs [])]⟩)]) (ps := []) (hk := [4]) (bk := []) (by kernel_rfl) trivial rfl rfl ?_
    refine GoF.fin1 (i := 4) (hint := .b 3) (ps := [b_10 = b_10]) (hk := []) (bk := []) (by kernel_rfl) rfl (And.intro rfl trivial) (.inl rfl) ?_
    refine GoF.fin1 (i := 5) (hint := .p) (ps := []) (hk := []) (bk := []) (by kernel_rfl) rfl trivial (.inl rfl) ?_
    refine GoF.done (by kernel_rfl) ?_
    refine GoO.nilRd kT_api_Step ?_
    refine GoO.nilRd kT_api_Entry ?_
    exact GoO.ret' (h := c36_10e) (hs := [2, 3]) (ps := [b_9 = b_9, b_10 = b_10]) (hk := [0]) (bk := [1, 0, 2]) Try.func36 (⟨none, 0, none, 0, A_3, c_4⟩ : Option Addr × Nat × Option Addr × Nat × Option Addr × Nat) (by kernel_rfl) (And.intro rfl (And.intro rfl trivial)) (by kernel_rfl) (by kernel_rfl)
  · refine GoO.skip' c36_11e ?_
    refine GoO.seq' c36_12e ?_
    refine GoO.region' (is := [0, 1, 2, 3, 4, 5, 6, 7, 8]) c36_13e (by kernel_rfl) ?_
    refine GoO.exec (is := [0, 1]) (hs := [.p, .b 1]) (rest := [2, 3, 4, 5, 6, 7, 8]) (ks := [0, 3, 4, 6, 8, 49]) (env' := [(0, .pointer (some ⟨b_2, 0, none⟩)), (3, .pointer (some ⟨b_8, 0, none⟩)), (4, .pointer (some ⟨b_9, 0, none⟩)), (6, .pointer (some ⟨b_10, 0, none⟩)), (8, .pointer (some ⟨b_11, 0, none⟩)), (49, .string (bs x_5.Data))]) (H' := [⟨1, b_2, [.int .i64 c_1.id, .int .u64 c_1.session, .int .u64 c_1.seq, .int .u64 c_1.call, .bool c_1.busy, .int .i64 c_1.now.Kind, .int .u64 c_1.now.Session, .int .u64 c_1.now.Seq, .int .u64 c_1.now.Saga, .slice A_3 c_1.now.Steps.length c_4, .int .i64 c_1.now.Step, .bool c_1.now.Back, .int .i64 c_1.now.Try, .bool c_1.now.Ok, .int .u64 c_1.now.Now, .string (bs c_1.data), .int .i64 c_1.to_]⟩, ⟨40, b_8, [.int .i64 x_5.Kind, .int .i64 x_5.From, .int .i64 x_5.To, .int .u64 x_5.Term, .int .u64 x_5.Index, .int .u64 x_5.Prev, .int .u64 x_5.Commit, .bool x_5.Ok, .slice A_6 x_5.Entries.length c_7, .string (bs x_5.Data)]⟩, ⟨41, b_9, [.int .i64 0, .int .i64 0, .int .u64 0, .int .u64 0, .int .u64 0, .slice none ([] : List T_api_Step).length 0, .int .i64 0, .bool false, .int .i64 0, .bool false, .int .u64 0, .int .i64 0, .int .u64 0, .int .u64 0]⟩, ⟨42, b_10, [.int .i64 0, .int .i64 0, .int .i64 0, .int .u64 0, .int .u64 0, .int .u64 0, .int .u64 0, .bool false, .slice none ([] : List T_api_Entry).length 0, .string (bs [])]⟩, ⟨43, b_11, [.int .i64 0, .int .i64 0, .int .i64 0, .int .u64 0, .int .u64 0, .int .u64 0, .int .u64 0, .bool false, .slice none ([] : List T_api_Entry).length 0, .string (bs [])]⟩]) (ps := [b_8 = b_8]) (by kernel_rfl) (And.intro rfl trivial) ?_
    refine OpTo.go (GoO.call rfl (by kernel_rfl) (by kernel_rfl) (command_Said_ok n x_5.Data) [[0]] [] [] [] (hks := [0, 1, 2, 3, 4]) (bks := [0, 1]) (by kernel_rfl) (by kernel_rfl) (by kernel_rfl) (.inl rfl) rfl rfl (by kernel_rfl) (by kernel_rfl) _ (fun _ _ => rfl) _ _ (fun _ _ => rfl) (fun _ _ => rfl) (fun _ _ => by kernel_rfl) (fun _ _ => by kernel_rfl) (fun r_17 x_36 => ?_))
    refine GoO.shape (env' := [(0, .pointer (some ⟨b_2, 0, none⟩)), (3, .pointer (some ⟨b_8, 0, none⟩)), (4, .pointer (some ⟨b_9, 0, none⟩)), (6, .pointer (some ⟨b_10, 0, none⟩)), (8, .pointer (some ⟨b_11, 0, none⟩)), (49, .string (bs x_5.Data)), (50, .tuple ⟨[.agg ⟨[.int .i64 r_17.1.Err, .int .u64 r_17.1.Num, .int .u64 r_17.1.Extra]⟩, .int .i64 r_17.2]⟩)]) (H' := [⟨1, b_2, [.int .i64 c_1.id, .int .u64 c_1.session, .int .u64 c_1.seq, .int .u64 c_1.call, .bool c_1.busy, .int .i64 c_1.now.Kind, .int .u64 c_1.now.Session, .int .u64 c_1.now.Seq, .int .u64 c_1.now.Saga, .slice A_3 c_1.now.Steps.length c_4, .int .i64 c_1.now.Step, .bool c_1.now.Back, .int .i64 c_1.now.Try, .bool c_1.now.Ok, .int .u64 c_1.now.Now, .string (bs c_1.data), .int .i64 c_1.to_]⟩, ⟨40, b_8, [.int .i64 x_5.Kind, .int .i64 x_5.From, .int .i64 x_5.To, .int .u64 x_5.Term, .int .u64 x_5.Index, .int .u64 x_5.Prev, .int .u64 x_5.Commit, .bool x_5.Ok, .slice A_6 x_5.Entries.length c_7, .string (bs x_5.Data)]⟩, ⟨41, b_9, [.int .i64 0, .int .i64 0, .int .u64 0, .int .u64 0, .int .u64 0, .slice none ([] : List T_api_Step).length 0, .int .i64 0, .bool false, .int .i64 0, .bool false, .int .u64 0, .int .i64 0, .int .u64 0, .int .u64 0]⟩, ⟨42, b_10, [.int .i64 0, .int .i64 0, .int .i64 0, .int .u64 0, .int .u64 0, .int .u64 0, .int .u64 0, .bool false, .slice none ([] : List T_api_Entry).length 0, .string (bs [])]⟩, ⟨43, b_11, [.int .i64 0, .int .i64 0, .int .i64 0, .int .u64 0, .int .u64 0, .int .u64 0, .int .u64 0, .bool false, .slice none ([] : List T_api_Entry).length 0, .string (bs [])]⟩]) (B' := [Rd 0 kT_api_Step A_3 c_4 c_1.now.Steps, Rd 0 kT_api_Entry A_6 c_7 x_5.Entries]) (ks := [0, 3, 4, 6, 8, 49, 50]) (by kernel_rfl) (by kernel_rfl) (by kernel_rfl) ?_
    refine GoO.exec (is := [3, 4, 5]) (hs := [.p, .p, .p]) (rest := [6, 7, 8]) (ks := [0, 3, 4, 6, 8, 51, 52]) (env' := [(0, .pointer (some ⟨b_2, 0, none⟩)), (3, .pointer (some ⟨b_8, 0, none⟩)), (4, .pointer (some ⟨b_9, 0, none⟩)), (6, .pointer (some ⟨b_10, 0, none⟩)), (8, .pointer (some ⟨b_11, 0, none⟩)), (51, .agg ⟨[.int .i64 r_17.1.Err, .int .u64 r_17.1.Num, .int .u64 r_17.1.Extra]⟩), (52, .int .i64 r_17.2)]) (H' := [⟨1, b_2, [.int .i64 c_1.id, .int .u64 c_1.session, .int .u64 c_1.seq, .int .u64 c_1.call, .bool c_1.busy, .int .i64 c_1.now.Kind, .int .u64 c_1.now.Session, .int .u64 c_1.now.Seq, .int .u64 c_1.now.Saga, .slice A_3 c_1.now.Steps.length c_4, .int .i64 c_1.now.Step, .bool c_1.now.Back, .int .i64 c_1.now.Try, .bool c_1.now.Ok, .int .u64 c_1.now.Now, .string (bs c_1.data), .int .i64 c_1.to_]⟩, ⟨40, b_8, [.int .i64 x_5.Kind, .int .i64 x_5.From, .int .i64 x_5.To, .int .u64 x_5.Term, .int .u64 x_5.Index, .int .u64 x_5.Prev, .int .u64 x_5.Commit, .bool x_5.Ok, .slice A_6 x_5.Entries.length c_7, .string (bs x_5.Data)]⟩, ⟨41, b_9, [.int .i64 0, .int .i64 0, .int .u64 0, .int .u64 0, .int .u64 0, .slice none ([] : List T_api_Step).length 0, .int .i64 0, .bool false, .int .i64 0, .bool false, .int .u64 0, .int .i64 0, .int .u64 0, .int .u64 0]⟩, ⟨42, b_10, [.int .i64 0, .int .i64 0, .int .i64 0, .int .u64 0, .int .u64 0, .int .u64 0, .int .u64 0, .bool false, .slice none ([] : List T_api_Entry).length 0, .string (bs [])]⟩, ⟨43, b_11, [.int .i64 0, .int .i64 0, .int .i64 0, .int .u64 0, .int .u64 0, .int .u64 0, .int .u64 0, .bool false, .slice none ([] : List T_api_Entry).length 0, .string (bs [])]⟩]) (ps := []) (by kernel_rfl) trivial ?_
    refine OpTo.go (GoO.new rfl 44 (cs := [.int .i64 0, .int .u64 0, .int .u64 0]) (by kernel_rfl) _ (fun _ => rfl) (fun b_18 => ?_))
    refine GoO.exec (is := [7, 8]) (hs := [.b 0, .p]) (rest := []) (ks := [0, 3, 4, 6, 8, 9, 10]) (env' := [(0, .pointer (some ⟨b_2, 0, none⟩)), (3, .pointer (some ⟨b_8, 0, none⟩)), (4, .pointer (some ⟨b_9, 0, none⟩)), (6, .pointer (some ⟨b_10, 0, none⟩)), (8, .pointer (some ⟨b_11, 0, none⟩)), (9, .pointer (some ⟨b_18, 0, none⟩)), (10, .int .i64 r_17.2)]) (H' := [⟨44, b_18, [.int .i64 r_17.1.Err, .int .u64 r_17.1.Num, .int .u64 r_17.1.Extra]⟩, ⟨1, b_2, [.int .i64 c_1.id, .int .u64 c_1.session, .int .u64 c_1.seq, .int .u64 c_1.call, .bool c_1.busy, .int .i64 c_1.now.Kind, .int .u64 c_1.now.Session, .int .u64 c_1.now.Seq, .int .u64 c_1.now.Saga, .slice A_3 c_1.now.Steps.length c_4, .int .i64 c_1.now.Step, .bool c_1.now.Back, .int .i64 c_1.now.Try, .bool c_1.now.Ok, .int .u64 c_1.now.Now, .string (bs c_1.data), .int .i64 c_1.to_]⟩, ⟨40, b_8, [.int .i64 x_5.Kind, .int .i64 x_5.From, .int .i64 x_5.To, .int .u64 x_5.Term, .int .u64 x_5.Index, .int .u64 x_5.Prev, .int .u64 x_5.Commit, .bool x_5.Ok, .slice A_6 x_5.Entries.length c_7, .string (bs x_5.Data)]⟩, ⟨41, b_9, [.int .i64 0, .int .i64 0, .int .u64 0, .int .u64 0, .int .u64 0, .slice none ([] : List T_api_Step).length 0, .int .i64 0, .bool false, .int .i64 0, .bool false, .int .u64 0, .int .i64 0, .int .u64 0, .int .u64 0]⟩, ⟨42, b_10, [.int .i64 0, .int .i64 0, .int .i64 0, .int .u64 0, .int .u64 0, .int .u64 0, .int .u64 0, .bool false, .slice none ([] : List T_api_Entry).length 0, .string (bs [])]⟩, ⟨43, b_11, [.int .i64 0, .int .i64 0, .int .i64 0, .int .u64 0, .int .u64 0, .int .u64 0, .int .u64 0, .bool false, .slice none ([] : List T_api_Entry).length 0, .string (bs [])]⟩]) (ps := [b_18 = b_18]) (by kernel_rfl) (And.intro rfl trivial) ?_
    refine GoO.regionEnd ?_
    refine GoO.seq' c36_14e ?_
    refine GoO.seq' c36_15e ?_
    refine GoO.region' (is := [0, 1]) c36_16e (by kernel_rfl) ?_
    refine GoO.exec (is := [0, 1]) (hs := [.p, .p]) (rest := []) (ks := [0, 3, 4, 6, 8, 9, 54]) (env' := [(0, .pointer (some ⟨b_2, 0, none⟩)), (3, .pointer (some ⟨b_8, 0, none⟩)), (4, .pointer (some ⟨b_9, 0, none⟩)), (6, .pointer (some ⟨b_10, 0, none⟩)), (8, .pointer (some ⟨b_11, 0, none⟩)), (9, .pointer (some ⟨b_18, 0, none⟩)), (54, .bool (r_17.2 != 0))]) (H' := [⟨44, b_18, [.int .i64 r_17.1.Err, .int .u64 r_17.1.Num, .int .u64 r_17.1.Extra]⟩, ⟨1, b_2, [.int .i64 c_1.id, .int .u64 c_1.session, .int .u64 c_1.seq, .int .u64 c_1.call, .bool c_1.busy, .int .i64 c_1.now.Kind, .int .u64 c_1.now.Session, .int .u64 c_1.now.Seq, .int .u64 c_1.now.Saga, .slice A_3 c_1.now.Steps.length c_4, .int .i64 c_1.now.Step, .bool c_1.now.Back, .int .i64 c_1.now.Try, .bool c_1.now.Ok, .int .u64 c_1.now.Now, .string (bs c_1.data), .int .i64 c_1.to_]⟩, ⟨40, b_8, [.int .i64 x_5.Kind, .int .i64 x_5.From, .int .i64 x_5.To, .int .u64 x_5.Term, .int .u64 x_5.Index, .int .u64 x_5.Prev, .int .u64 x_5.Commit, .bool x_5.Ok, .slice A_6 x_5.Entries.length c_7, .string (bs x_5.Data)]⟩, ⟨41, b_9, [.int .i64 0, .int .i64 0, .int .u64 0, .int .u64 0, .int .u64 0, .slice none ([] : List T_api_Step).length 0, .int .i64 0, .bool false, .int .i64 0, .bool false, .int .u64 0, .int .i64 0, .int .u64 0, .int .u64 0]⟩, ⟨42, b_10, [.int .i64 0, .int .i64 0, .int .i64 0, .int .u64 0, .int .u64 0, .int .u64 0, .int .u64 0, .bool false, .slice none ([] : List T_api_Entry).length 0, .string (bs [])]⟩, ⟨43, b_11, [.int .i64 0, .int .i64 0, .int .i64 0, .int .u64 0, .int .u64 0, .int .u64 0, .int .u64 0, .bool false, .slice none ([] : List T_api_Entry).length 0, .string (bs [])]⟩]) (ps := []) (by kernel_rfl) trivial ?_
    refine GoO.regionEnd ?_
    refine GoO.ite' c36_17e (by kernel_rfl) (fun h19 => ?_) (fun h19 => ?_)
    · refine GoO.seq' c36_18e ?_
      refine GoO.draw c36_19e (by kernel_rfl) [4, 5] [⟨43, b_11, [.int .i64 0, .int .i64 0, .int .i64 0, .int .u64 0, .int .u64 0, .int .u64 0, .int .u64 0, .bool false, .slice none ([] : List T_api_Entry).length 0, .string (bs [])]⟩] [] (n := 6) (by kernel_rfl) ?_
      simp only [List.replicate]
      refine GoF.take [0, 1] [.p, .b 0] (ks := [4, 6, 55, 56]) (fu := 4) (li := [true, true, false, false, false, false]) (env' := [(4, .pointer (some ⟨b_9, 0, none⟩)), (6, .pointer (some ⟨b_10, 0, none⟩)), (55, .agg ⟨[.int .i64 0, .int .i64 0, .int .u64 0, .int .u64 0, .int .u64 0, .slice none ([] : List T_api_Step).length 0, .int .i64 0, .bool false, .int .i64 0, .bool false, .int .u64 0, .int .i64 0, .int .u64 0, .int .u64 0]⟩), (56, .agg ⟨[.int .i64 0, .int .i64 0, .int .i64 0, .int .u64 0, .int .u64 0, .int .u64 0, .int .u64 0, .bool false, .slice none ([] : List T_api_Entry).length 0, .string (bs [])]⟩)]) (ps := [b_11 = b_11]) (hk := [5]) (bk := []) (by kernel_rfl) (And.intro rfl trivial) rfl rfl ?_
      refine GoF.fin1 (i := 2) (hint := .b 3) (ps := [b_9 = b_9]) (hk := [5]) (bk := []) (by kernel_rfl) rfl (And.intro rfl trivial) (.inr ⟨rfl, rfl⟩) ?_
      refine GoF.take [3] [.p] (ks := [4, 5, 6, 56]) (fu := 2) (li := [true, true, true, true, false, false]) (env' := [(4, .pointer (some ⟨b_9, 0, none⟩)), (5, .bool false), (6, .pointer (some ⟨b_10, 0, none⟩)), (56, .agg ⟨[.int .i64 0, .int .i64 0, .int .i64 0, .int .u64 0, .int .u64 0, .int .u64 0, .int .u64 0, .bool false, .slice none ([] : List T_api_Entry).length 0, .string (bs [])]⟩)]) (ps := []) (hk := [5]) (bk := []) (by kernel_rfl) trivial rfl rfl ?_
      refine GoF.fin1 (i := 4) (hint := .b 4) (ps := [b_10 = b_10]) (hk := []) (bk := []) (by kernel_rfl) rfl (And.intro rfl trivial) (.inl rfl) ?_
      refine GoF.fin1 (i := 5) (hint := .p) (ps := []) (hk := []) (bk := []) (by kernel_rfl) rfl trivial (.inl rfl) ?_
      refine GoF.done (by kernel_rfl) ?_
      refine GoO.nilRd kT_api_Step ?_
      refine GoO.nilRd kT_api_Entry ?_
      exact GoO.ret' (h := c36_20e) (hs := [3, 4]) (ps := [b_9 = b_9, b_10 = b_10]) (hk := [1]) (bk := [1, 0, 2]) Try.func36 (⟨none, 0, none, 0, A_3, c_4⟩ : Option Addr × Nat × Option Addr × Nat × Option Addr × Nat) (by kernel_rfl) (And.intro rfl (And.intro rfl trivial)) (by kernel_rfl) (by kernel_rfl)
    · refine GoO.skip' c36_21e ?_
      refine GoO.seq' c36_22e ?_
      refine GoO.seq' c36_23e ?_
      refine GoO.region' (is := [0, 1, 2, 3, 4, 5, 6, 7]) c36_24e (by kernel_rfl) ?_
      refine GoO.exec (is := [0, 1, 2, 3]) (hs := [.p, .b 0, .p, .p]) (rest := [4, 5, 6, 7]) (ks := [0, 3, 4, 6, 8, 9, 60]) (env' := [(0, .pointer (some ⟨b_2, 0, none⟩)), (3, .pointer (some ⟨b_8, 0, none⟩)), (4, .pointer (some ⟨b_9, 0, none⟩)), (6, .pointer (some ⟨b_10, 0, none⟩)), (8, .pointer (some ⟨b_11, 0, none⟩)), (9, .pointer (some ⟨b_18, 0, none⟩)), (60, .bool (r_17.1.Err == 30))]) (H' := [⟨44, b_18, [.int .i64 r_17.1.Err, .int .u64 r_17.1.Num, .int .u64 r_17.1.Extra]⟩, ⟨1, b_2, [.int .i64 c_1.id, .int .u64 c_1.session, .int .u64 c_1.seq, .int .u64 c_1.call, .bool c_1.busy, .int .i64 c_1.now.Kind, .int .u64 c_1.now.Session, .int .u64 c_1.now.Seq, .int .u64 c_1.now.Saga, .slice A_3 c_1.now.Steps.length c_4, .int .i64 c_1.now.Step, .bool c_1.now.Back, .int .i64 c_1.now.Try, .bool c_1.now.Ok, .int .u64 c_1.now.Now, .string (bs c_1.data), .int .i64 c_1.to_]⟩, ⟨40, b_8, [.int .i64 x_5.Kind, .int .i64 x_5.From, .int .i64 x_5.To, .int .u64 x_5.Term, .int .u64 x_5.Index, .int .u64 x_5.Prev, .int .u64 x_5.Commit, .bool x_5.Ok, .slice A_6 x_5.Entries.length c_7, .string (bs x_5.Data)]⟩, ⟨41, b_9, [.int .i64 0, .int .i64 0, .int .u64 0, .int .u64 0, .int .u64 0, .slice none ([] : List T_api_Step).length 0, .int .i64 0, .bool false, .int .i64 0, .bool false, .int .u64 0, .int .i64 0, .int .u64 0, .int .u64 0]⟩, ⟨42, b_10, [.int .i64 0, .int .i64 0, .int .i64 0, .int .u64 0, .int .u64 0, .int .u64 0, .int .u64 0, .bool false, .slice none ([] : List T_api_Entry).length 0, .string (bs [])]⟩, ⟨43, b_11, [.int .i64 0, .int .i64 0, .int .i64 0, .int .u64 0, .int .u64 0, .int .u64 0, .int .u64 0, .bool false, .slice none ([] : List T_api_Entry).length 0, .string (bs [])]⟩]) (ps := [b_18 = b_18]) (by kernel_rfl) (And.intro rfl trivial) ?_
      refine GoO.bsplit (t := 60) (by kernel_rfl) (fun h20 => ?_) (fun h20 => ?_)
      · refine GoO.exec (is := [4, 5, 6, 7]) (hs := [.p, .p, .p, .p]) (rest := []) (ks := [0, 3, 4, 6, 8, 9, 64]) (env' := [(0, .pointer (some ⟨b_2, 0, none⟩)), (3, .pointer (some ⟨b_8, 0, none⟩)), (4, .pointer (some ⟨b_9, 0, none⟩)), (6, .pointer (some ⟨b_10, 0, none⟩)), (8, .pointer (some ⟨b_11, 0, none⟩)), (9, .pointer (some ⟨b_18, 0, none⟩)), (64, .bool true)]) (H' := [⟨44, b_18, [.int .i64 r_17.1.Err, .int .u64 r_17.1.Num, .int .u64 r_17.1.Extra]⟩, ⟨1, b_2, [.int .i64 c_1.id, .int .u64 c_1.session, .int .u64 c_1.seq, .int .u64 c_1.call, .bool c_1.busy, .int .i64 c_1.now.Kind, .int .u64 c_1.now.Session, .int .u64 c_1.now.Seq, .int .u64 c_1.now.Saga, .slice A_3 c_1.now.Steps.length c_4, .int .i64 c_1.now.Step, .bool c_1.now.Back, .int .i64 c_1.now.Try, .bool c_1.now.Ok, .int .u64 c_1.now.Now, .string (bs c_1.data), .int .i64 c_1.to_]⟩, ⟨40, b_8, [.int .i64 x_5.Kind, .int .i64 x_5.From, .int .i64 x_5.To, .int .u64 x_5.Term, .int .u64 x_5.Index, .int .u64 x_5.Prev, .int .u64 x_5.Commit, .bool x_5.Ok, .slice A_6 x_5.Entries.length c_7, .string (bs x_5.Data)]⟩, ⟨41, b_9, [.int .i64 0, .int .i64 0, .int .u64 0, .int .u64 0, .int .u64 0, .slice none ([] : List T_api_Step).length 0, .int .i64 0, .bool false, .int .i64 0, .bool false, .int .u64 0, .int .i64 0, .int .u64 0, .int .u64 0]⟩, ⟨42, b_10, [.int .i64 0, .int .i64 0, .int .i64 0, .int .u64 0, .int .u64 0, .int .u64 0, .int .u64 0, .bool false, .slice none ([] : List T_api_Entry).length 0, .string (bs [])]⟩, ⟨43, b_11, [.int .i64 0, .int .i64 0, .int .i64 0, .int .u64 0, .int .u64 0, .int .u64 0, .int .u64 0, .bool false, .slice none ([] : List T_api_Entry).length 0, .string (bs [])]⟩]) (ps := []) (by kernel_rfl) trivial ?_
        refine GoO.regionEnd ?_
        exact GoO.sub (ks := [0, 3, 4, 6, 8, 9, 64]) (hk := [1, 2, 3, 4, 5, 0]) (bk := [0, 1]) (by kernel_rfl) (by kernel_rfl) (by kernel_rfl) (client_Client_Hear_j1_ok n c_1 x_5 r_17 b_2 A_3 c_4 A_6 c_7 b_8 b_9 b_10 b_11 b_18 w0 S0 true)
      · refine GoO.exec (is := [4, 5, 6, 7]) (hs := [.p, .b 0, .p, .p]) (rest := []) (ks := [0, 3, 4, 6, 8, 9, 64]) (env' := [(0, .pointer (some ⟨b_2, 0, none⟩)), (3, .pointer (some ⟨b_8, 0, none⟩)), (4, .pointer (some ⟨b_9, 0, none⟩)), (6, .pointer (some ⟨b_10, 0, none⟩)), (8, .pointer (some ⟨b_11, 0, none⟩)), (9, .pointer (some ⟨b_18, 0, none⟩)), (64, .bool (r_17.1.Err == 31))]) (H' := [⟨44, b_18, [.int .i64 r_17.1.Err, .int .u64 r_17.1.Num, .int .u64 r_17.1.Extra]⟩, ⟨1, b_2, [.int .i64 c_1.id, .int .u64 c_1.session, .int .u64 c_1.seq, .int .u64 c_1.call, .bool c_1.busy, .int .i64 c_1.now.Kind, .int .u64 c_1.now.Session, .int .u64 c_1.now.Seq, .int .u64 c_1.now.Saga, .slice A_3 c_1.now.Steps.length c_4, .int .i64 c_1.now.Step, .bool c_1.now.Back, .int .i64 c_1.now.Try, .bool c_1.now.Ok, .int .u64 c_1.now.Now, .string (bs c_1.data), .int .i64 c_1.to_]⟩, ⟨40, b_8, [.int .i64 x_5.Kind, .int .i64 x_5.From, .int .i64 x_5.To, .int .u64 x_5.Term, .int .u64 x_5.Index, .int .u64 x_5.Prev, .int .u64 x_5.Commit, .bool x_5.Ok, .slice A_6 x_5.Entries.length c_7, .string (bs x_5.Data)]⟩, ⟨41, b_9, [.int .i64 0, .int .i64 0, .int .u64 0, .int .u64 0, .int .u64 0, .slice none ([] : List T_api_Step).length 0, .int .i64 0, .bool false, .int .i64 0, .bool false, .int .u64 0, .int .i64 0, .int .u64 0, .int .u64 0]⟩, ⟨42, b_10, [.int .i64 0, .int .i64 0, .int .i64 0, .int .u64 0, .int .u64 0, .int .u64 0, .int .u64 0, .bool false, .slice none ([] : List T_api_Entry).length 0, .string (bs [])]⟩, ⟨43, b_11, [.int .i64 0, .int .i64 0, .int .i64 0, .int .u64 0, .int .u64 0, .int .u64 0, .int .u64 0, .bool false, .slice none ([] : List T_api_Entry).length 0, .string (bs [])]⟩]) (ps := [b_18 = b_18]) (by kernel_rfl) (And.intro rfl trivial) ?_
        refine GoO.regionEnd ?_
        exact GoO.sub (ks := [0, 3, 4, 6, 8, 9, 64]) (hk := [1, 2, 3, 4, 5, 0]) (bk := [0, 1]) (by kernel_rfl) (by kernel_rfl) (by kernel_rfl) (client_Client_Hear_j1_ok n c_1 x_5 r_17 b_2 A_3 c_4 A_6 c_7 b_8 b_9 b_10 b_11 b_18 w0 S0 (r_17.1.Err == 31))
theorem client_Client_Hear_ok (n : Nat) (c_1 : T_client_Client) (x_5 : T_api_Letter) (b_2 : Nat) (A_3 : Option Addr) (c_4 : Nat) (A_6 : Option Addr) (c_7 : Nat) :
    Meets Try.prog 36 [.pointer (some ⟨b_2, 0, none⟩), .agg ⟨[.int .i64 x_5.Kind, .int .i64 x_5.From, .int .i64 x_5.To, .int .u64 x_5.Term, .int .u64 x_5.Index, .int .u64 x_5.Prev, .int .u64 x_5.Commit, .bool x_5.Ok, .slice A_6 x_5.Entries.length c_7, .string (bs x_5.Data)]⟩] 1 [1] [⟨1, b_2, [.int .i64 c_1.id, .int .u64 c_1.session, .int .u64 c_1.seq, .int .u64 c_1.call, .bool c_1.busy, .int .i64 c_1.now.Kind, .int .u64 c_1.now.Session, .int .u64 c_1.now.Seq, .int .u64 c_1.now.Saga, .slice A_3 c_1.now.Steps.length c_4, .int .i64 c_1.now.Step, .bool c_1.now.Back, .int .i64 c_1.now.Try, .bool c_1.now.Ok, .int .u64 c_1.now.Now, .string (bs c_1.data), .int .i64 c_1.to_]⟩] [Rd 0 kT_api_Step A_3 c_4 c_1.now.Steps, Rd 0 kT_api_Entry A_6 c_7 x_5.Entries] (client_Client_Hear.f n c_1 x_5) (client_Client_Hear.R b_2 A_3 c_4 A_6 c_7) := by
  refine Meets.of (c := c36_0) (n := 145) Try.func36 (by kernel_rfl) (by kernel_rfl) (by kernel_rfl) fun w0 S0 => ?_
  unfold client_Client_Hear.f
  show GoO (client_Client_Hear.cx b_2 A_3 c_4 A_6 c_7 w0 S0) [(0, .pointer (some ⟨b_2, 0, none⟩)), (1, .agg ⟨[.int .i64 x_5.Kind, .int .i64 x_5.From, .int .i64 x_5.To, .int .u64 x_5.Term, .int .u64 x_5.Index, .int .u64 x_5.Prev, .int .u64 x_5.Commit, .bool x_5.Ok, .slice A_6 x_5.Entries.length c_7, .string (bs x_5.Data)]⟩)] [⟨1, b_2, [.int .i64 c_1.id, .int .u64 c_1.session, .int .u64 c_1.seq, .int .u64 c_1.call, .bool c_1.busy, .int .i64 c_1.now.Kind, .int .u64 c_1.now.Session, .int .u64 c_1.now.Seq, .int .u64 c_1.now.Saga, .slice A_3 c_1.now.Steps.length c_4, .int .i64 c_1.now.Step, .bool c_1.now.Back, .int .i64 c_1.now.Try, .bool c_1.now.Ok, .int .u64 c_1.now.Now, .string (bs c_1.data), .int .i64 c_1.to_]⟩] [Rd 0 kT_api_Step A_3 c_4 c_1.now.Steps, Rd 0 kT_api_Entry A_6 c_7 x_5.Entries] [.code c36_0] _
  refine GoO.seq' c36_0e ?_
  refine GoO.region' (is := [0, 1, 2, 3, 4]) c36_1e (by kernel_rfl) ?_
  refine OpTo.go (GoO.new rfl 40 (cs := [.int .i64 x_5.Kind, .int .i64 x_5.From, .int .i64 x_5.To, .int .u64 x_5.Term, .int .u64 x_5.Index, .int .u64 x_5.Prev, .int .u64 x_5.Commit, .bool x_5.Ok, .slice A_6 x_5.Entries.length c_7, .string (bs x_5.Data)]) (by kernel_rfl) _ (fun _ => rfl) (fun b_8 => ?_))
  refine OpTo.go (GoO.new rfl 41 (cs := [.int .i64 0, .int .i64 0, .int .u64 0, .int .u64 0, .int .u64 0, .slice none ([] : List T_api_Step).length 0, .int .i64 0, .bool false, .int .i64 0, .bool false, .int .u64 0, .int .i64 0, .int .u64 0, .int .u64 0]) (by kernel_rfl) _ (fun _ => rfl) (fun b_9 => ?_))
  refine GoO.exec (is := [2]) (hs := [.p]) (rest := [3, 4]) (ks := [0, 3, 4]) (env' := [(0, .pointer (some ⟨b_2, 0, none⟩)), (3, .pointer (some ⟨b_8, 0, none⟩)), (4, .pointer (some ⟨b_9, 0, none⟩))]) (H' := [⟨41, b_9, [.int .i64 0, .int .i64 0, .int .u64 0, .int .u64 0, .int .u64 0, .slice none ([] : List T_api_Step).length 0, .int .i64 0, .bool false, .int .i64 0, .bool false, .int .u64 0, .int .i64 0, .int .u64 0, .int .u64 0]⟩, ⟨40, b_8, [.int .i64 x_5.Kind, .int .i64 x_5.From, .int .i64 x_5.To, .int .u64 x_5.Term, .int .u64 x_5.Index, .int .u64 x_5.Prev, .int .u64 x_5.Commit, .bool x_5.Ok, .slice A_6 x_5.Entries.length c_7, .string (bs x_5.Data)]⟩, ⟨1, b_2, [.int .i64 c_1.id, .int .u64 c_1.session, .int .u64 c_1.seq, .int .u64 c_1.call, .bool c_1.busy, .int .i64 c_1.now.Kind, .int .u64 c_1.now.Session, .int .u64 c_1.now.Seq, .int .u64 c_1.now.Saga, .slice A_3 c_1.now.Steps.length c_4, .int .i64 c_1.now.Step, .bool c_1.now.Back, .int .i64 c_1.now.Try, .bool c_1.now.Ok, .int .u64 c_1.now.Now, .string (bs c_1.data), .int .i64 c_1.to_]⟩]) (ps := []) (by kernel_rfl) trivial ?_
  refine OpTo.go (GoO.new rfl 42 (cs := [.int .i64 0, .int .i64 0, .int .i64 0, .int .u64 0, .int .u64 0, .int .u64 0, .int .u64 0, .bool false, .slice none ([] : List T_api_Entry).length 0, .string (bs [])]) (by kernel_rfl) _ (fun _ => rfl) (fun b_10 => ?_))
  refine GoO.exec (is := [4]) (hs := [.p]) (rest := []) (ks := [0, 3, 4, 6]) (env' := [(0, .pointer (some ⟨b_2, 0, none⟩)), (3, .pointer (some ⟨b_8, 0, none⟩)), (4, .pointer (some ⟨b_9, 0, none⟩)), (6, .pointer (some ⟨b_10, 0, none⟩))]) (H' := [⟨42, b_10, [.int .i64 0, .int .i64 0, .int .i64 0, .int .u64 0, .int .u64 0, .int .u64 0, .int .u64 0, .bool false, .slice none ([] : List T_api_Entry).length 0, .string (bs [])]⟩, ⟨41, b_9, [.int .i64 0, .int .i64 0, .int .u64 0, .int .u64 0, .int .u64 0, .slice none ([] : List T_api_Step).length 0, .int .i64 0, .bool false, .int .i64 0, .bool false, .int .u64 0, .int .i64 0, .int .u64 0, .int .u64 0]⟩, ⟨40, b_8, [.int .i64 x_5.Kind, .int .i64 x_5.From, .int .i64 x_5.To, .int .u64 x_5.Term, .int .u64 x_5.Index, .int .u64 x_5.Prev, .int .u64 x_5.Commit, .bool x_5.Ok, .slice A_6 x_5.Entries.length c_7, .string (bs x_5.Data)]⟩, ⟨1, b_2, [.int .i64 c_1.id, .int .u64 c_1.session, .int .u64 c_1.seq, .int .u64 c_1.call, .bool c_1.busy, .int .i64 c_1.now.Kind, .int .u64 c_1.now.Session, .int .u64 c_1.now.Seq, .int .u64 c_1.now.Saga, .slice A_3 c_1.now.Steps.length c_4, .int .i64 c_1.now.Step, .bool c_1.now.Back, .int .i64 c_1.now.Try, .bool c_1.now.Ok, .int .u64 c_1.now.Now, .string (bs c_1.data), .int .i64 c_1.to_]⟩]) (ps := []) (by kernel_rfl) trivial ?_
  refine GoO.regionEnd ?_
  refine GoO.seq' c36_2e ?_
  refine GoO.region' (is := [0, 1, 2]) c36_3e (by kernel_rfl) ?_
  refine GoO.exec (is := [0]) (hs := [.p]) (rest := [1, 2]) (ks := [0, 3, 4, 6, 11]) (env' := [(0, .pointer (some ⟨b_2, 0, none⟩)), (3, .pointer (some ⟨b_8, 0, none⟩)), (4, .pointer (some ⟨b_9, 0, none⟩)), (6, .pointer (some ⟨b_10, 0, none⟩)), (11, .agg ⟨[.int .i64 0, .int .i64 0, .int .i64 0, .int .u64 0, .int .u64 0, .int .u64 0, .int .u64 0, .bool false, .slice none ([] : List T_api_Entry).length 0, .string (bs [])]⟩)]) (H' := [⟨42, b_10, [.int .i64 0, .int .i64 0, .int .i64 0, .int .u64 0, .int .u64 0, .int .u64 0, .int .u64 0, .bool false, .slice none ([] : List T_api_Entry).length 0, .string (bs [])]⟩, ⟨41, b_9, [.int .i64 0, .int .i64 0, .int .u64 0, .int .u64 0, .int .u64 0, .slice none ([] : List T_api_Step).length 0, .int .i64 0, .bool false, .int .i64 0, .bool false, .int .u64 0, .int .i64 0, .int .u64 0, .int .u64 0]⟩, ⟨40, b_8, [.int .i64 x_5.Kind, .int .i64 x_5.From, .int .i64 x_5.To, .int .u64 x_5.Term, .int .u64 x_5.Index, .int .u64 x_5.Prev, .int .u64 x_5.Commit, .bool x_5.Ok, .slice A_6 x_5.Entries.length c_7, .string (bs x_5.Data)]⟩, ⟨1, b_2, [.int .i64 c_1.id, .int .u64 c_1.session, .int .u64 c_1.seq, .int .u64 c_1.call, .bool c_1.busy, .int .i64 c_1.now.Kind, .int .u64 c_1.now.Session, .int .u64 c_1.now.Seq, .int .u64 c_1.now.Saga, .slice A_3 c_1.now.Steps.length c_4, .int .i64 c_1.now.Step, .bool c_1.now.Back, .int .i64 c_1.now.Try, .bool c_1.now.Ok, .int .u64 c_1.now.Now, .string (bs c_1.data), .int .i64 c_1.to_]⟩]) (ps := []) (by kernel_rfl) trivial ?_
  refine OpTo.go (GoO.new rfl 43 (cs := [.int .i64 0, .int .i64 0, .int .i64 0, .int .u64 0, .int .u64 0, .int .u64 0, .int .u64 0, .bool false, .slice none ([] : List T_api_Entry).length 0, .string (bs [])]) (by kernel_rfl) _ (fun _ => rfl) (fun b_11 => ?_))
  refine GoO.exec (is := [2]) (hs := [.b 0]) (rest := []) (ks := [0, 3, 4, 6, 8]) (env' := [(0, .pointer (some ⟨b_2, 0, none⟩)), (3, .pointer (some ⟨b_8, 0, none⟩)), (4, .pointer (some ⟨b_9, 0, none⟩)), (6, .pointer (some ⟨b_10, 0, none⟩)), (8, .pointer (some ⟨b_11, 0, none⟩))]) (H' := [⟨43, b_11, [.int .i64 0, .int .i64 0, .int .i64 0, .int .u64 0, .int .u64 0, .int .u64 0, .int .u64 0, .bool false, .slice none ([] : List T_api_Entry).length 0, .string (bs [])]⟩, ⟨42, b_10, [.int .i64 0, .int .i64 0, .int .i64 0, .int .u64 0, .int .u64 0, .int .u64 0, .int .u64 0, .bool false, .slice none ([] : List T_api_Entry).length 0, .string (bs [])]⟩, ⟨41, b_9, [.int .i64 0, .int .i64 0, .int .u64 0, .int .u64 0, .int .u64 0, .slice none ([] : List T_api_Step).length 0, .int .i64 0, .bool false, .int .i64 0, .bool false, .int .u64 0, .int .i64 0, .int .u64 0, .int .u64 0]⟩, ⟨40, b_8, [.int .i64 x_5.Kind, .int .i64 x_5.From, .int .i64 x_5.To, .int .u64 x_5.Term, .int .u64 x_5.Index, .int .u64 x_5.Prev, .int .u64 x_5.Commit, .bool x_5.Ok, .slice A_6 x_5.Entries.length c_7, .string (bs x_5.Data)]⟩, ⟨1, b_2, [.int .i64 c_1.id, .int .u64 c_1.session, .int .u64 c_1.seq, .int .u64 c_1.call, .bool c_1.busy, .int .i64 c_1.now.Kind, .int .u64 c_1.now.Session, .int .u64 c_1.now.Seq, .int .u64 c_1.now.Saga, .slice A_3 c_1.now.Steps.length c_4, .int .i64 c_1.now.Step, .bool c_1.now.Back, .int .i64 c_1.now.Try, .bool c_1.now.Ok, .int .u64 c_1.now.Now, .string (bs c_1.data), .int .i64 c_1.to_]⟩]) (ps := [b_11 = b_11]) (by kernel_rfl) (And.intro rfl trivial) ?_
  refine GoO.regionEnd ?_
  refine GoO.seq' c36_4e ?_
  refine GoO.seq' c36_5e ?_
  refine GoO.draw c36_6e (by kernel_rfl) [] [⟨40, b_8, [.int .i64 x_5.Kind, .int .i64 x_5.From, .int .i64 x_5.To, .int .u64 x_5.Term, .int .u64 x_5.Index, .int .u64 x_5.Prev, .int .u64 x_5.Commit, .bool x_5.Ok, .slice A_6 x_5.Entries.length c_7, .string (bs x_5.Data)]⟩, ⟨1, b_2, [.int .i64 c_1.id, .int .u64 c_1.session, .int .u64 c_1.seq, .int .u64 c_1.call, .bool c_1.busy, .int .i64 c_1.now.Kind, .int .u64 c_1.now.Session, .int .u64 c_1.now.Seq, .int .u64 c_1.now.Saga, .slice A_3 c_1.now.Steps.length c_4, .int .i64 c_1.now.Step, .bool c_1.now.Back, .int .i64 c_1.now.Try, .bool c_1.now.Ok, .int .u64 c_1.now.Now, .string (bs c_1.data), .int .i64 c_1.to_]⟩] [] (n := 33) (by kernel_rfl) ?_
  simp only [List.replicate]
  refine GoF.take [0, 1, 2, 3, 4, 5, 6, 7, 8, 9] [.p, .p, .p, .p, .p, .p, .b 1, .p, .p, .p] (ks := [0, 3, 4, 6, 8, 21]) (fu := 23) (li := [true, true, true, true, true, true, true, true, true, true, false, false, false, false, false, false, false, false, false, false, false, false, false, false, false, false, false, false, false, false, false, false, false]) (env' := [(0, .pointer (some ⟨b_2, 0, none⟩)), (3, .pointer (some ⟨b_8, 0, none⟩)), (4, .pointer (some ⟨b_9, 0, none⟩)), (6, .pointer (some ⟨b_10, 0, none⟩)), (8, .pointer (some ⟨b_11, 0, none⟩)), (21, .bool (!c_1.busy))]) (ps := [b_2 = b_2]) (hk := [3, 4]) (bk := []) (by kernel_rfl) (And.intro rfl trivial) rfl rfl ?_
  refine GoF.bsplit (t := 21) (by kernel_rfl) (fun h12 => ?_) (fun h12 => ?_)
  · refine GoF.take [10, 11, 12, 13, 14, 15, 16, 17, 18, 19, 20, 21, 22, 23, 24, 25, 26, 27, 28, 29, 30, 31, 32] [.p, .p, .p, .p, .p, .p, .p, .p, .p, .p, .p, .p, .p, .p, .p, .p, .p, .p, .p, .p, .p, .p, .p] (ks := [0, 3, 4, 6, 8, 44]) (fu := 0) (li := [true, true, true, true, true, true, true, true, true, true, true, true, true, true, true, true, true, true, true, true, true, true, true, true, true, true, true, true, true, true, true, true, true]) (env' := [(0, .pointer (some ⟨b_2, 0, none⟩)), (3, .pointer (some ⟨b_8, 0, none⟩)), (4, .pointer (some ⟨b_9, 0, none⟩)), (6, .pointer (some ⟨b_10, 0, none⟩)), (8, .pointer (some ⟨b_11, 0, none⟩)), (44, .bool true)]) (ps := []) (hk := [3, 4]) (bk := []) (by kernel_rfl) trivial rfl rfl ?_
    refine GoF.done (by kernel_rfl) ?_
    exact GoO.sub (ks := [0, 3, 4, 6, 8, 44]) (hk := [4, 3, 2, 1, 0]) (bk := [0, 1]) (by kernel_rfl) (by kernel_rfl) (by kernel_rfl) (client_Client_Hear_j0_ok n c_1 x_5 b_2 A_3 c_4 A_6 c_7 b_8 b_9 b_10 b_11 w0 S0 true)
  · refine GoF.take [10, 11, 12, 13, 14] [.p, .b 0, .p, .p, .p] (ks := [0, 3, 4, 6, 8, 26]) (fu := 18) (li := [true, true, true, true, true, true, true, true, true, true, true, true, true, true, true, false, false, false, false, false, false, false, false, false, false, false, false, false, false, false, false, false, false]) (env' := [(0, .pointer (some ⟨b_2, 0, none⟩)), (3, .pointer (some ⟨b_8, 0, none⟩)), (4, .pointer (some ⟨b_9, 0, none⟩)), (6, .pointer (some ⟨b_10, 0, none⟩)), (8, .pointer (some ⟨b_11, 0, none⟩)), (26, .bool (x_5.Kind != 9))]) (ps := [b_8 = b_8]) (hk := [3, 4]) (bk := []) (by kernel_rfl) (And.intro rfl trivial) rfl rfl ?_
    refine GoF.bsplit (t := 26) (by kernel_rfl) (fun h13 => ?_) (fun h13 => ?_)
    · refine GoF.take [15, 16, 17, 18, 19, 20, 21, 22, 23, 24, 25, 26, 27, 28, 29, 30, 31, 32] [.p, .p, .p, .p, .p, .p, .p, .p, .p, .p, .p, .p, .p, .p, .p, .p, .p, .p] (ks := [0, 3, 4, 6, 8, 44]) (fu := 0) (li := [true, true, true, true, true, true, true, true, true, true, true, true, true, true, true, true, true, true, true, true, true, true, true, true, true, true, true, true, true, true, true, true, true]) (env' := [(0, .pointer (some ⟨b_2, 0, none⟩)), (3, .pointer (some ⟨b_8, 0, none⟩)), (4, .pointer (some ⟨b_9, 0, none⟩)), (6, .pointer (some ⟨b_10, 0, none⟩)), (8, .pointer (some ⟨b_11, 0, none⟩)), (44, .bool true)]) (ps := []) (hk := [3, 4]) (bk := []) (by kernel_rfl) trivial rfl rfl ?_
      refine GoF.done (by kernel_rfl) ?_
      exact GoO.sub (ks := [0, 3, 4, 6, 8, 44]) (hk := [4, 3, 2, 1, 0]) (bk := [0, 1]) (by kernel_rfl) (by kernel_rfl) (by kernel_rfl) (client_Client_Hear_j0_ok n c_1 x_5 b_2 A_3 c_4 A_6 c_7 b_8 b_9 b_10 b_11 w0 S0 true)
    · refine GoF.take [15, 16, 17, 18, 19, 20, 21, 22, 23, 24] [.p, .b 0, .p, .p, .p, .b 1, .p, .p, .p, .p] (ks := [0, 3, 4, 6, 8, 36]) (fu := 8) (li := [true, true, true, true, true, true, true, true, true, true, true, true, true, true, true, true, true, true, true, true, true, true, true, true, true, false, false, false, false, false, false, false, false]) (env' := [(0, .pointer (some ⟨b_2, 0, none⟩)), (3, .pointer (some ⟨b_8, 0, none⟩)), (4, .pointer (some ⟨b_9, 0, none⟩)), (6, .pointer (some ⟨b_10, 0, none⟩)), (8, .pointer (some ⟨b_11, 0, none⟩)), (36, .bool (x_5.To != (wi64 (200 + c_1.id))))]) (ps := [b_8 = b_8, b_2 = b_2]) (hk := [3, 4]) (bk := []) (by kernel_rfl) (And.intro rfl (And.intro rfl trivial)) rfl rfl ?_
      refine GoF.bsplit (t := 36) (by kernel_rfl) (fun h14 => ?_) (fun h14 => ?_)
      · refine GoF.take [25, 26, 27, 28, 29, 30, 31, 32] [.p, .p, .p, .p, .p, .p, .p, .p] (ks := [0, 3, 4, 6, 8, 44]) (fu := 0) (li := [true, true, true, true, true, true, true, true, true, true, true, true, true, true, true, true, true, true, true, true, true, true, true, true, true, true, true, true, true, true, true, true, true]) (env' := [(0, .pointer (some ⟨b_2, 0, none⟩)), (3, .pointer (some ⟨b_8, 0, none⟩)), (4, .pointer (some ⟨b_9, 0, none⟩)), (6, .pointer (some ⟨b_10, 0, none⟩)), (8, .pointer (some ⟨b_11, 0, none⟩)), (44, .bool true)]) (ps := []) (hk := [3, 4]) (bk := []) (by kernel_rfl) trivial rfl rfl ?_
        refine GoF.done (by kernel_rfl) ?_
        exact GoO.sub (ks := [0, 3, 4, 6, 8, 44]) (hk := [4, 3, 2, 1, 0]) (bk := [0, 1]) (by kernel_rfl) (by kernel_rfl) (by kernel_rfl) (client_Client_Hear_j0_ok n c_1 x_5 b_2 A_3 c_4 A_6 c_7 b_8 b_9 b_10 b_11 w0 S0 true)
      · refine GoF.take [25, 26, 27, 28, 29, 30, 31, 32] [.p, .b 0, .p, .p, .p, .b 1, .p, .p] (ks := [0, 3, 4, 6, 8, 44]) (fu := 0) (li := [true, true, true, true, true, true, true, true, true, true, true, true, true, true, true, true, true, true, true, true, true, true, true, true, true, true, true, true, true, true, true, true, true]) (env' := [(0, .pointer (some ⟨b_2, 0, none⟩)), (3, .pointer (some ⟨b_8, 0, none⟩)), (4, .pointer (some ⟨b_9, 0, none⟩)), (6, .pointer (some ⟨b_10, 0, none⟩)), (8, .pointer (some ⟨b_11, 0, none⟩)), (44, .bool (x_5.Index != c_1.call))]) (ps := [b_8 = b_8, b_2 = b_2]) (hk := [3, 4]) (bk := []) (by kernel_rfl) (And.intro rfl (And.intro rfl trivial)) rfl rfl ?_
        refine GoF.done (by kernel_rfl) ?_
        exact GoO.sub (ks := [0, 3, 4, 6, 8, 44]) (hk := [4, 3, 2, 1, 0]) (bk := [0, 1]) (by kernel_rfl) (by kernel_rfl) (by kernel_rfl) (client_Client_Hear_j0_ok n c_1 x_5 b_2 A_3 c_4 A_6 c_7 b_8 b_9 b_10 b_11 w0 S0 (x_5.Index != c_1.call))

/-! (*tontine/client.Client).Status -/
noncomputable def c39_0 : Code := bodyOf Try.f39
noncomputable def c39_1 : Code := cdL c39_0
noncomputable def c39_2 : Code := cdR c39_0
noncomputable def c39_3 : Code := cdL c39_2
noncomputable def c39_4 : Code := cdL c39_3
noncomputable def c39_5 : Code := cdR c39_3
noncomputable def c39_9 : Code := cdR c39_5
noncomputable def c39_10 : Code := cdR c39_2
noncomputable def c39_11 : Code := cdL c39_10
noncomputable def c39_12 : Code := cdR c39_10
noncomputable def c39_6 : Code := cdL c39_5
noncomputable def r39_1 : Array Oper := cdO c39_1
noncomputable def r39_4 : Array Oper := cdO c39_4
noncomputable def r39_11 : Array Oper := cdO c39_11
theorem c39_0e : c39_0 = .seq c39_1 c39_2 := by kernel_rfl
theorem c39_1e : c39_1 = .region 0 r39_1 false := by kernel_rfl
theorem c39_2e : c39_2 = .seq c39_3 c39_10 := by kernel_rfl
theorem c39_3e : c39_3 = .seq c39_4 c39_5 := by kernel_rfl
theorem c39_4e : c39_4 = .region 1 r39_4 false := by kernel_rfl
theorem c39_5e : c39_5 = .cond (cdC c39_5) c39_6 c39_9 := by kernel_rfl
theorem c39_9e : c39_9 = .skip := by kernel_rfl
theorem c39_10e : c39_10 = .seq c39_11 c39_12 := by kernel_rfl
theorem c39_11e : c39_11 = .region 3 r39_11 true := by kernel_rfl
theorem c39_12e : c39_12 = .ret := by kernel_rfl
noncomputable def client_Client_Status.R (b_2 : Nat) (A_3 : Option Addr) (c_4 : Nat) : Pst (Int × Int × Bool) where
  ε := Unit
  v := fun r x => .tuple ⟨[.int .u64 r.1, .int .u64 r.2.1, .bool r.2.2]⟩
  H := fun r x => []
  B := fun r x => []
noncomputable def client_Client_Status.cx (b_2 : Nat) (A_3 : Option Addr) (c_4 : Nat) (w0 : World) (S0 : Fam) : Cx (Int × Int × Bool) := ⟨Try.prog, 39, Try.f39, 19, w0, S0, [], 1, client_Client_Status.R b_2 A_3 c_4⟩
theorem client_Client_Status_ok (n : Nat) (c_1 : T_client_Client) (b_2 : Nat) (A_3 : Option Addr) (c_4 : Nat) :
    Meets Try.prog 39 [.pointer (some ⟨b_2, 0, none⟩)] 1 [] [⟨1, b_2, [.int .i64 c_1.id, .int .u64 c_1.session, .int .u64 c_1.seq, .int .u64 c_1.call, .bool c_1.busy, .int .i64 c_1.now.Kind, .int .u64 c_1.now.Session, .int .u64 c_1.now.Seq, .int .u64 c_1.now.Saga, .slice A_3 c_1.now.Steps.length c_4, .int .i64 c_1.now.Step, .bool c_1.now.Back, .int .i64 c_1.now.Try, .bool c_1.now.Ok, .int .u64 c_1.now.Now, .string (bs c_1.data), .int .i64 c_1.to_]⟩] [Rd 0 kT_api_Step A_3 c_4 c_1.now.Steps] (client_Client_Status.f n c_1) (client_Client_Status.R b_2 A_3 c_4) := by
  refine Meets.of (c := c39_0) (n := 19) Try.func39 (by kernel_rfl) (by kernel_rfl) (by kernel_rfl) fun w0 S0 => ?_
  unfold client_Client_Status.f
  show GoO (client_Client_Status.cx b_2 A_3 c_4 w0 S0) [(0, .pointer (some ⟨b_2, 0, none⟩))] [⟨1, b_2, [.int .i64 c_1.id, .int .u64 c_1.session, .int .u64 c_1.seq, .int .u64 c_1.call, .bool c_1.busy, .int .i64 c_1.now.Kind, .int .u64 c_1.now.Session, .int .u64 c_1.now.Seq, .int .u64 c_1.now.Saga, .slice A_3 c_1.now.Steps.length c_4, .int .i64 c_1.now.Step, .bool c_1.now.Back, .int .i64 c_1.now.Try, .bool c_1.now.Ok, .int .u64 c_1.now.Now, .string (bs c_1.data), .int .i64 c_1.to_]⟩] [Rd 0 kT_api_Step A_3 c_4 c_1.now.Steps] [.code c39_0] _
  refine GoO.seq' c39_0e ?_
  refine GoO.region' (is := [0, 1, 2]) c39_1e (by kernel_rfl) ?_
  refine GoO.exec (is := [0, 1, 2]) (hs := [.p, .p, .p]) (rest := []) (ks := [0]) (env' := [(0, .pointer (some ⟨b_2, 0, none⟩))]) (H' := [⟨1, b_2, [.int .i64 c_1.id, .int .u64 c_1.session, .int .u64 c_1.seq, .int .u64 c_1.call, .bool c_1.busy, .int .i64 c_1.now.Kind, .int .u64 c_1.now.Session, .int .u64 c_1.now.Seq, .int .u64 c_1.now.Saga, .slice A_3 c_1.now.Steps.length c_4, .int .i64 c_1.now.Step, .bool c_1.now.Back, .int .i64 c_1.now.Try, .bool c_1.now.Ok, .int .u64 c_1.now.Now, .string (bs c_1.data), .int .i64 c_1.to_]⟩]) (ps := []) (by kernel_rfl) trivial ?_
  refine GoO.regionEnd ?_
  refine GoO.seq' c39_2e ?_
  refine GoO.seq' c39_3e ?_
  refine GoO.region' (is := [0, 1]) c39_4e (by kernel_rfl) ?_
  refine GoO.exec (is := [0, 1]) (hs := [.p, .p]) (rest := []) (ks := [0, 6]) (env' := [(0, .pointer (some ⟨b_2, 0, none⟩)), (6, .bool false)]) (H' := [⟨1, b_2, [.int .i64 c_1.id, .int .u64 c_1.session, .int .u64 c_1.seq, .int .u64 c_1.call, .bool c_1.busy, .int .i64 c_1.now.Kind, .int .u64 c_1.now.Session, .int .u64 c_1.now.Seq, .int .u64 c_1.now.Saga, .slice A_3 c_1.now.Steps.length c_4, .int .i64 c_1.now.Step, .bool c_1.now.Back, .int .i64 c_1.now.Try, .bool c_1.now.Ok, .int .u64 c_1.now.Now, .string (bs c_1.data), .int .i64 c_1.to_]⟩]) (ps := []) (by kernel_rfl) trivial ?_
  refine GoO.regionEnd ?_
  refine GoO.condF c39_5e (by kernel_rfl) ?_
  refine GoO.skip' c39_9e ?_
  refine GoO.seq' c39_10e ?_
  refine GoO.draw c39_11e (by kernel_rfl) [14] [⟨1, b_2, [.int .i64 c_1.id, .int .u64 c_1.session, .int .u64 c_1.seq, .int .u64 c_1.call, .bool c_1.busy, .int .i64 c_1.now.Kind, .int .u64 c_1.now.Session, .int .u64 c_1.now.Seq, .int .u64 c_1.now.Saga, .slice A_3 c_1.now.Steps.length c_4, .int .i64 c_1.now.Step, .bool c_1.now.Back, .int .i64 c_1.now.Try, .bool c_1.now.Ok, .int .u64 c_1.now.Now, .string (bs c_1.data), .int .i64 c_1.to_]⟩] [] (n := 15) (by kernel_rfl) ?_
  simp only [List.replicate]
  refine GoF.take [0, 1, 2, 3, 4, 5, 6, 7, 8, 9, 10, 11, 12, 13] [.p, .p, .p, .b 0, .p, .p, .p, .b 0, .p, .p, .p, .b 0, .p, .p] (ks := [2, 3, 18]) (fu := 1) (li := [true, true, true, true, true, true, true, true, true, true, true, true, true, true, false]) (env' := [(2, .int .u64 c_1.session), (3, .int .u64 c_1.seq), (18, .bool c_1.busy)]) (ps := [b_2 = b_2, b_2 = b_2, b_2 = b_2]) (hk := [0]) (bk := []) (by kernel_rfl) (And.intro rfl (And.intro rfl (And.intro rfl trivial))) rfl rfl ?_
  refine GoF.fin1 (i := 14) (hint := .p) (ps := []) (hk := []) (bk := []) (by kernel_rfl) rfl trivial (.inl rfl) ?_
  refine GoF.done (by kernel_rfl) ?_
  exact GoO.ret' (h := c39_12e) (hs := []) (ps := []) (hk := []) (bk := []) Try.func39 () (by kernel_rfl) trivial (by kernel_rfl) (by kernel_rfl)

/-! tontine/tontinelaw21.begun -/
noncomputable def c30_0 : Code := bodyOf Try.f30
noncomputable def c30_1 : Code := cdL c30_0
noncomputable def c30_2 : Code := cdR c30_0
noncomputable def c30_3 : Code := cdL c30_2
noncomputable def c30_4 : Code := cdR c30_2
noncomputable def c30_5 : Code := cdL c30_4
noncomputable def c30_6 : Code := cdR c30_4
noncomputable def c30_7 : Code := cdL c30_6
noncomputable def c30_8 : Code := cdR c30_6
noncomputable def c30_9 : Code := cdL c30_8
noncomputable def c30_10 : Code := cdR c30_8
noncomputable def c30_11 : Code := cdL c30_10
noncomputable def c30_12 : Code := cdR c30_10
noncomputable def r30_1 : Array Oper := cdO c30_1
noncomputable def r30_3 : Array Oper := cdO c30_3
noncomputable def r30_5 : Array Oper := cdO c30_5
noncomputable def r30_7 : Array Oper := cdO c30_7
noncomputable def r30_9 : Array Oper := cdO c30_9
noncomputable def r30_11 : Array Oper := cdO c30_11
theorem c30_0e : c30_0 = .seq c30_1 c30_2 := by kernel_rfl
theorem c30_1e : c30_1 = .region 0 r30_1 false := by kernel_rfl
theorem c30_2e : c30_2 = .seq c30_3 c30_4 := by kernel_rfl
theorem c30_3e : c30_3 = .region 1 r30_3 false := by kernel_rfl
theorem c30_4e : c30_4 = .seq c30_5 c30_6 := by kernel_rfl
theorem c30_5e : c30_5 = .region 2 r30_5 false := by kernel_rfl
theorem c30_6e : c30_6 = .seq c30_7 c30_8 := by kernel_rfl
theorem c30_7e : c30_7 = .region 3 r30_7 false := by kernel_rfl
theorem c30_8e : c30_8 = .seq c30_9 c30_10 := by kernel_rfl
theorem c30_9e : c30_9 = .region 4 r30_9 false := by kernel_rfl
theorem c30_10e : c30_10 = .seq c30_11 c30_12 := by kernel_rfl
theorem c30_11e : c30_11 = .region 5 r30_11 false := by kernel_rfl
theorem c30_12e : c30_12 = .ret := by kernel_rfl
noncomputable def tontinelaw21_begun.R : Pst Bool where
  ε := Unit
  v := fun r x => .bool r
  H := fun r x => []
  B := fun r x => []
noncomputable def tontinelaw21_begun.cx (w0 : World) (S0 : Fam) : Cx Bool := ⟨Try.prog, 30, Try.f30, 79, w0, S0, [], 0, tontinelaw21_begun.R⟩
theorem tontinelaw21_begun_j4_ok (n : Nat) (r_13 : T_api_Told × Bool × T_api_Letter × Bool × T_client_Client) (r_22 : Int × Int × Bool) (A_14 : Option Addr) (c_15 : Nat) (b_20 : Nat) (w0 : World) (S0 : Fam) (b_32 : Bool) :
    GoO (tontinelaw21_begun.cx w0 S0) [(5, .pointer (some ⟨b_20, 0, none⟩)), (9, .int .u64 r_22.1), (10, .int .u64 r_22.2.1), (11, .bool r_22.2.2), (60, .bool b_32)] [⟨42, b_20, [.int .i64 r_13.1.Client, .int .i64 r_13.1.Command.Kind, .int .u64 r_13.1.Command.Session, .int .u64 r_13.1.Command.Seq, .int .u64 r_13.1.Command.Saga, .slice A_14 r_13.1.Command.Steps.length c_15, .int .i64 r_13.1.Command.Step, .bool r_13.1.Command.Back, .int .i64 r_13.1.Command.Try, .bool r_13.1.Command.Ok, .int .u64 r_13.1.Command.Now, .int .i64 r_13.1.Reply.Err, .int .u64 r_13.1.Reply.Num, .int .u64 r_13.1.Reply.Extra]⟩] [Rd 0 kT_api_Step A_14 c_15 r_13.1.Command.Steps] [.inRegion r30_11 [23, 24, 25, 26, 27, 28, 29, 30, 31, 32, 33, 34, 35, 36, 37, 38, 39, 40, 41], .code c30_12] (tontinelaw21_begun.j4 n r_13 r_22 b_32) := by
  unfold tontinelaw21_begun.j4
  refine GoO.exec (is := [23]) (hs := [.p]) (rest := [24, 25, 26, 27, 28, 29, 30, 31, 32, 33, 34, 35, 36, 37, 38, 39, 40, 41]) (ks := [5, 9, 10, 11, 61]) (env' := [(5, .pointer (some ⟨b_20, 0, none⟩)), (9, .int .u64 r_22.1), (10, .int .u64 r_22.2.1), (11, .bool r_22.2.2), (61, .bool b_32)]) (H' := [⟨42, b_20, [.int .i64 r_13.1.Client, .int .i64 r_13.1.Command.Kind, .int .u64 r_13.1.Command.Session, .int .u64 r_13.1.Command.Seq, .int .u64 r_13.1.Command.Saga, .slice A_14 r_13.1.Command.Steps.length c_15, .int .i64 r_13.1.Command.Step, .bool r_13.1.Command.Back, .int .i64 r_13.1.Command.Try, .bool r_13.1.Command.Ok, .int .u64 r_13.1.Command.Now, .int .i64 r_13.1.Reply.Err, .int .u64 r_13.1.Reply.Num, .int .u64 r_13.1.Reply.Extra]⟩]) (ps := []) (by kernel_rfl) trivial ?_
  refine GoO.bsplit (t := 61) (by kernel_rfl) (fun h33 => ?_) (fun h33 => ?_)
  · refine GoO.exec (is := [24, 25, 26, 27, 28, 29]) (hs := [.p, .p, .b 0, .p, .p, .p]) (rest := [30, 31, 32, 33, 34, 35, 36, 37, 38, 39, 40, 41]) (ks := [9, 10, 11, 67]) (env' := [(9, .int .u64 r_22.1), (10, .int .u64 r_22.2.1), (11, .bool r_22.2.2), (67, .bool (r_13.1.Reply.Num == 4))]) (H' := [⟨42, b_20, [.int .i64 r_13.1.Client, .int .i64 r_13.1.Command.Kind, .int .u64 r_13.1.Command.Session, .int .u64 r_13.1.Command.Seq, .int .u64 r_13.1.Command.Saga, .slice A_14 r_13.1.Command.Steps.length c_15, .int .i64 r_13.1.Command.Step, .bool r_13.1.Command.Back, .int .i64 r_13.1.Command.Try, .bool r_13.1.Command.Ok, .int .u64 r_13.1.Command.Now, .int .i64 r_13.1.Reply.Err, .int .u64 r_13.1.Reply.Num, .int .u64 r_13.1.Reply.Extra]⟩]) (ps := [b_20 = b_20]) (by kernel_rfl) (And.intro rfl trivial) ?_
    refine GoO.bsplit (t := 67) (by kernel_rfl) (fun h34 => ?_) (fun h34 => ?_)
    · refine GoO.exec (is := [30, 31, 32, 33]) (hs := [.p, .p, .p, .p]) (rest := [34, 35, 36, 37, 38, 39, 40, 41]) (ks := [10, 11, 71]) (env' := [(10, .int .u64 r_22.2.1), (11, .bool r_22.2.2), (71, .bool (r_22.1 == 4))]) (H' := [⟨42, b_20, [.int .i64 r_13.1.Client, .int .i64 r_13.1.Command.Kind, .int .u64 r_13.1.Command.Session, .int .u64 r_13.1.Command.Seq, .int .u64 r_13.1.Command.Saga, .slice A_14 r_13.1.Command.Steps.length c_15, .int .i64 r_13.1.Command.Step, .bool r_13.1.Command.Back, .int .i64 r_13.1.Command.Try, .bool r_13.1.Command.Ok, .int .u64 r_13.1.Command.Now, .int .i64 r_13.1.Reply.Err, .int .u64 r_13.1.Reply.Num, .int .u64 r_13.1.Reply.Extra]⟩]) (ps := []) (by kernel_rfl) trivial ?_
      refine GoO.bsplit (t := 71) (by kernel_rfl) (fun h35 => ?_) (fun h35 => ?_)
      · refine GoO.exec (is := [34, 35, 36, 37]) (hs := [.p, .p, .p, .p]) (rest := [38, 39, 40, 41]) (ks := [11, 75]) (env' := [(11, .bool r_22.2.2), (75, .bool (r_22.2.1 == 0))]) (H' := [⟨42, b_20, [.int .i64 r_13.1.Client, .int .i64 r_13.1.Command.Kind, .int .u64 r_13.1.Command.Session, .int .u64 r_13.1.Command.Seq, .int .u64 r_13.1.Command.Saga, .slice A_14 r_13.1.Command.Steps.length c_15, .int .i64 r_13.1.Command.Step, .bool r_13.1.Command.Back, .int .i64 r_13.1.Command.Try, .bool r_13.1.Command.Ok, .int .u64 r_13.1.Command.Now, .int .i64 r_13.1.Reply.Err, .int .u64 r_13.1.Reply.Num, .int .u64 r_13.1.Reply.Extra]⟩]) (ps := []) (by kernel_rfl) trivial ?_
        refine GoO.bsplit (t := 75) (by kernel_rfl) (fun h36 => ?_) (fun h36 => ?_)
        · refine GoO.exec (is := [38, 39, 40, 41]) (hs := [.p, .p, .p, .p]) (rest := []) (ks := [0]) (env' := [(0, .bool (!r_22.2.2))]) (H' := [⟨42, b_20, [.int .i64 r_13.1.Client, .int .i64 r_13.1.Command.Kind, .int .u64 r_13.1.Command.Session, .int .u64 r_13.1.Command.Seq, .int .u64 r_13.1.Command.Saga, .slice A_14 r_13.1.Command.Steps.length c_15, .int .i64 r_13.1.Command.Step, .bool r_13.1.Command.Back, .int .i64 r_13.1.Command.Try, .bool r_13.1.Command.Ok, .int .u64 r_13.1.Command.Now, .int .i64 r_13.1.Reply.Err, .int .u64 r_13.1.Reply.Num, .int .u64 r_13.1.Reply.Extra]⟩]) (ps := []) (by kernel_rfl) trivial ?_
          refine GoO.regionEnd ?_
          exact GoO.ret' (h := c30_12e) (hs := []) (ps := []) (hk := []) (bk := []) Try.func30 () (by kernel_rfl) trivial (by kernel_rfl) (by kernel_rfl)
        · refine GoO.exec (is := [38, 39, 40, 41]) (hs := [.p, .p, .p, .p]) (rest := []) (ks := [0]) (env' := [(0, .bool false)]) (H' := [⟨42, b_20, [.int .i64 r_13.1.Client, .int .i64 r_13.1.Command.Kind, .int .u64 r_13.1.Command.Session, .int .u64 r_13.1.Command.Seq, .int .u64 r_13.1.Command.Saga, .slice A_14 r_13.1.Command.Steps.length c_15, .int .i64 r_13.1.Command.Step, .bool r_13.1.Command.Back, .int .i64 r_13.1.Command.Try, .bool r_13.1.Command.Ok, .int .u64 r_13.1.Command.Now, .int .i64 r_13.1.Reply.Err, .int .u64 r_13.1.Reply.Num, .int .u64 r_13.1.Reply.Extra]⟩]) (ps := []) (by kernel_rfl) trivial ?_
          refine GoO.regionEnd ?_
          exact GoO.ret' (h := c30_12e) (hs := []) (ps := []) (hk := []) (bk := []) Try.func30 () (by kernel_rfl) trivial (by kernel_rfl) (by kernel_rfl)
      · refine GoO.exec (is := [34, 35, 36, 37, 38, 39, 40, 41]) (hs := [.p, .p, .p, .p, .p, .p, .p, .p]) (rest := []) (ks := [0]) (env' := [(0, .bool false)]) (H' := [⟨42, b_20, [.int .i64 r_13.1.Client, .int .i64 r_13.1.Command.Kind, .int .u64 r_13.1.Command.Session, .int .u64 r_13.1.Command.Seq, .int .u64 r_13.1.Command.Saga, .slice A_14 r_13.1.Command.Steps.length c_15, .int .i64 r_13.1.Command.Step, .bool r_13.1.Command.Back, .int .i64 r_13.1.Command.Try, .bool r_13.1.Command.Ok, .int .u64 r_13.1.Command.Now, .int .i64 r_13.1.Reply.Err, .int .u64 r_13.1.Reply.Num, .int .u64 r_13.1.Reply.Extra]⟩]) (ps := []) (by kernel_rfl) trivial ?_
        refine GoO.regionEnd ?_
        exact GoO.ret' (h := c30_12e) (hs := []) (ps := []) (hk := []) (bk := []) Try.func30 () (by kernel_rfl) trivial (by kernel_rfl) (by kernel_rfl)
    · refine GoO.exec (is := [30, 31, 32, 33, 34, 35, 36, 37, 38, 39, 40, 41]) (hs := [.p, .p, .p, .p, .p, .p, .p, .p, .p, .p, .p, .p]) (rest := []) (ks := [0]) (env' := [(0, .bool false)]) (H' := [⟨42, b_20, [.int .i64 r_13.1.Client, .int .i64 r_13.1.Command.Kind, .int .u64 r_13.1.Command.Session, .int .u64 r_13.1.Command.Seq, .int .u64 r_13.1.Command.Saga, .slice A_14 r_13.1.Command.Steps.length c_15, .int .i64 r_13.1.Command.Step, .bool r_13.1.Command.Back, .int .i64 r_13.1.Command.Try, .bool r_13.1.Command.Ok, .int .u64 r_13.1.Command.Now, .int .i64 r_13.1.Reply.Err, .int .u64 r_13.1.Reply.Num, .int .u64 r_13.1.Reply.Extra]⟩]) (ps := []) (by kernel_rfl) trivial ?_
      refine GoO.regionEnd ?_
      exact GoO.ret' (h := c30_12e) (hs := []) (ps := []) (hk := []) (bk := []) Try.func30 () (by kernel_rfl) trivial (by kernel_rfl) (by kernel_rfl)
  · refine GoO.exec (is := [24, 25, 26, 27, 28, 29, 30, 31, 32, 33, 34, 35, 36, 37, 38, 39, 40, 41]) (hs := [.p, .p, .p, .p, .p, .p, .p, .p, .p, .p, .p, .p, .p, .p, .p, .p, .p, .p]) (rest := []) (ks := [0]) (env' := [(0, .bool false)]) (H' := [⟨42, b_20, [.int .i64 r_13.1.Client, .int .i64 r_13.1.Command.Kind, .int .u64 r_13.1.Command.Session, .int .u64 r_13.1.Command.Seq, .int .u64 r_13.1.Command.Saga, .slice A_14 r_13.1.Command.Steps.length c_15, .int .i64 r_13.1.Command.Step, .bool r_13.1.Command.Back, .int .i64 r_13.1.Command.Try, .bool r_13.1.Command.Ok, .int .u64 r_13.1.Command.Now, .int .i64 r_13.1.Reply.Err, .int .u64 r_13.1.Reply.Num, .int .u64 r_13.1.Reply.Extra]⟩]) (ps := []) (by kernel_rfl) trivial ?_
    refine GoO.regionEnd ?_
    exact GoO.ret' (h := c30_12e) (hs := []) (ps := []) (hk := []) (bk := []) Try.func30 () (by kernel_rfl) trivial (by kernel_rfl) (by kernel_rfl)
theorem tontinelaw21_begun_j3_ok (n : Nat) (r_13 : T_api_Told × Bool × T_api_Letter × Bool × T_client_Client) (r_22 : Int × Int × Bool) (A_14 : Option Addr) (c_15 : Nat) (b_20 : Nat) (w0 : World) (S0 : Fam) (b_30 : Bool) :
    GoO (tontinelaw21_begun.cx w0 S0) [(5, .pointer (some ⟨b_20, 0, none⟩)), (8, .bool r_13.2.2.2.1), (9, .int .u64 r_22.1), (10, .int .u64 r_22.2.1), (11, .bool r_22.2.2), (56, .bool b_30)] [⟨42, b_20, [.int .i64 r_13.1.Client, .int .i64 r_13.1.Command.Kind, .int .u64 r_13.1.Command.Session, .int .u64 r_13.1.Command.Seq, .int .u64 r_13.1.Command.Saga, .slice A_14 r_13.1.Command.Steps.length c_15, .int .i64 r_13.1.Command.Step, .bool r_13.1.Command.Back, .int .i64 r_13.1.Command.Try, .bool r_13.1.Command.Ok, .int .u64 r_13.1.Command.Now, .int .i64 r_13.1.Reply.Err, .int .u64 r_13.1.Reply.Num, .int .u64 r_13.1.Reply.Extra]⟩] [Rd 0 kT_api_Step A_14 c_15 r_13.1.Command.Steps] [.inRegion r30_11 [19, 20, 21, 22, 23, 24, 25, 26, 27, 28, 29, 30, 31, 32, 33, 34, 35, 36, 37, 38, 39, 40, 41], .code c30_12] (tontinelaw21_begun.j3 n r_13 r_22 b_30) := by
  unfold tontinelaw21_begun.j3
  refine GoO.exec (is := [19]) (hs := [.p]) (rest := [20, 21, 22, 23, 24, 25, 26, 27, 28, 29, 30, 31, 32, 33, 34, 35, 36, 37, 38, 39, 40, 41]) (ks := [5, 8, 9, 10, 11, 57]) (env' := [(5, .pointer (some ⟨b_20, 0, none⟩)), (8, .bool r_13.2.2.2.1), (9, .int .u64 r_22.1), (10, .int .u64 r_22.2.1), (11, .bool r_22.2.2), (57, .bool b_30)]) (H' := [⟨42, b_20, [.int .i64 r_13.1.Client, .int .i64 r_13.1.Command.Kind, .int .u64 r_13.1.Command.Session, .int .u64 r_13.1.Command.Seq, .int .u64 r_13.1.Command.Saga, .slice A_14 r_13.1.Command.Steps.length c_15, .int .i64 r_13.1.Command.Step, .bool r_13.1.Command.Back, .int .i64 r_13.1.Command.Try, .bool r_13.1.Command.Ok, .int .u64 r_13.1.Command.Now, .int .i64 r_13.1.Reply.Err, .int .u64 r_13.1.Reply.Num, .int .u64 r_13.1.Reply.Extra]⟩]) (ps := []) (by kernel_rfl) trivial ?_
  refine GoO.bsplit (t := 57) (by kernel_rfl) (fun h31 => ?_) (fun h31 => ?_)
  · refine GoO.exec (is := [20, 21, 22]) (hs := [.p, .p, .p]) (rest := [23, 24, 25, 26, 27, 28, 29, 30, 31, 32, 33, 34, 35, 36, 37, 38, 39, 40, 41]) (ks := [5, 9, 10, 11, 60]) (env' := [(5, .pointer (some ⟨b_20, 0, none⟩)), (9, .int .u64 r_22.1), (10, .int .u64 r_22.2.1), (11, .bool r_22.2.2), (60, .bool (!r_13.2.2.2.1))]) (H' := [⟨42, b_20, [.int .i64 r_13.1.Client, .int .i64 r_13.1.Command.Kind, .int .u64 r_13.1.Command.Session, .int .u64 r_13.1.Command.Seq, .int .u64 r_13.1.Command.Saga, .slice A_14 r_13.1.Command.Steps.length c_15, .int .i64 r_13.1.Command.Step, .bool r_13.1.Command.Back, .int .i64 r_13.1.Command.Try, .bool r_13.1.Command.Ok, .int .u64 r_13.1.Command.Now, .int .i64 r_13.1.Reply.Err, .int .u64 r_13.1.Reply.Num, .int .u64 r_13.1.Reply.Extra]⟩]) (ps := []) (by kernel_rfl) trivial ?_
    exact GoO.sub (ks := [5, 9, 10, 11, 60]) (hk := [0]) (bk := [0]) (by kernel_rfl) (by kernel_rfl) (by kernel_rfl) (tontinelaw21_begun_j4_ok n r_13 r_22 A_14 c_15 b_20 w0 S0 (!r_13.2.2.2.1))
  · refine GoO.exec (is := [20, 21, 22]) (hs := [.p, .p, .p]) (rest := [23, 24, 25, 26, 27, 28, 29, 30, 31, 32, 33, 34, 35, 36, 37, 38, 39, 40, 41]) (ks := [5, 9, 10, 11, 60]) (env' := [(5, .pointer (some ⟨b_20, 0, none⟩)), (9, .int .u64 r_22.1), (10, .int .u64 r_22.2.1), (11, .bool r_22.2.2), (60, .bool false)]) (H' := [⟨42, b_20, [.int .i64 r_13.1.Client, .int .i64 r_13.1.Command.Kind, .int .u64 r_13.1.Command.Session, .int .u64 r_13.1.Command.Seq, .int .u64 r_13.1.Command.Saga, .slice A_14 r_13.1.Command.Steps.length c_15, .int .i64 r_13.1.Command.Step, .bool r_13.1.Command.Back, .int .i64 r_13.1.Command.Try, .bool r_13.1.Command.Ok, .int .u64 r_13.1.Command.Now, .int .i64 r_13.1.Reply.Err, .int .u64 r_13.1.Reply.Num, .int .u64 r_13.1.Reply.Extra]⟩]) (ps := []) (by kernel_rfl) trivial ?_
    exact GoO.sub (ks := [5, 9, 10, 11, 60]) (hk := [0]) (bk := [0]) (by kernel_rfl) (by kernel_rfl) (by kernel_rfl) (tontinelaw21_begun_j4_ok n r_13 r_22 A_14 c_15 b_20 w0 S0 false)
theorem tontinelaw21_begun_j2_ok (n : Nat) (r_13 : T_api_Told × Bool × T_api_Letter × Bool × T_client_Client) (r_22 : Int × Int × Bool) (A_14 : Option Addr) (c_15 : Nat) (b_20 : Nat) (w0 : World) (S0 : Fam) (b_28 : Bool) :
    GoO (tontinelaw21_begun.cx w0 S0) [(5, .pointer (some ⟨b_20, 0, none⟩)), (6, .bool r_13.2.1), (8, .bool r_13.2.2.2.1), (9, .int .u64 r_22.1), (10, .int .u64 r_22.2.1), (11, .bool r_22.2.2), (53, .bool b_28)] [⟨42, b_20, [.int .i64 r_13.1.Client, .int .i64 r_13.1.Command.Kind, .int .u64 r_13.1.Command.Session, .int .u64 r_13.1.Command.Seq, .int .u64 r_13.1.Command.Saga, .slice A_14 r_13.1.Command.Steps.length c_15, .int .i64 r_13.1.Command.Step, .bool r_13.1.Command.Back, .int .i64 r_13.1.Command.Try, .bool r_13.1.Command.Ok, .int .u64 r_13.1.Command.Now, .int .i64 r_13.1.Reply.Err, .int .u64 r_13.1.Reply.Num, .int .u64 r_13.1.Reply.Extra]⟩] [Rd 0 kT_api_Step A_14 c_15 r_13.1.Command.Steps] [.inRegion r30_11 [16, 17, 18, 19, 20, 21, 22, 23, 24, 25, 26, 27, 28, 29, 30, 31, 32, 33, 34, 35, 36, 37, 38, 39, 40, 41], .code c30_12] (tontinelaw21_begun.j2 n r_13 r_22 b_28) := by
  unfold tontinelaw21_begun.j2
  refine GoO.exec (is := [16]) (hs := [.p]) (rest := [17, 18, 19, 20, 21, 22, 23, 24, 25, 26, 27, 28, 29, 30, 31, 32, 33, 34, 35, 36, 37, 38, 39, 40, 41]) (ks := [5, 6, 8, 9, 10, 11, 54]) (env' := [(5, .pointer (some ⟨b_20, 0, none⟩)), (6, .bool r_13.2.1), (8, .bool r_13.2.2.2.1), (9, .int .u64 r_22.1), (10, .int .u64 r_22.2.1), (11, .bool r_22.2.2), (54, .bool b_28)]) (H' := [⟨42, b_20, [.int .i64 r_13.1.Client, .int .i64 r_13.1.Command.Kind, .int .u64 r_13.1.Command.Session, .int .u64 r_13.1.Command.Seq, .int .u64 r_13.1.Command.Saga, .slice A_14 r_13.1.Command.Steps.length c_15, .int .i64 r_13.1.Command.Step, .bool r_13.1.Command.Back, .int .i64 r_13.1.Command.Try, .bool r_13.1.Command.Ok, .int .u64 r_13.1.Command.Now, .int .i64 r_13.1.Reply.Err, .int .u64 r_13.1.Reply.Num, .int .u64 r_13.1.Reply.Extra]⟩]) (ps := []) (by kernel_rfl) trivial ?_
  refine GoO.bsplit (t := 54) (by kernel_rfl) (fun h29 => ?_) (fun h29 => ?_)
  · refine GoO.exec (is := [17, 18]) (hs := [.p, .p]) (rest := [19, 20, 21, 22, 23, 24, 25, 26, 27, 28, 29, 30, 31, 32, 33, 34, 35, 36, 37, 38, 39, 40, 41]) (ks := [5, 8, 9, 10, 11, 56]) (env' := [(5, .pointer (some ⟨b_20, 0, none⟩)), (8, .bool r_13.2.2.2.1), (9, .int .u64 r_22.1), (10, .int .u64 r_22.2.1), (11, .bool r_22.2.2), (56, .bool r_13.2.1)]) (H' := [⟨42, b_20, [.int .i64 r_13.1.Client, .int .i64 r_13.1.Command.Kind, .int .u64 r_13.1.Command.Session, .int .u64 r_13.1.Command.Seq, .int .u64 r_13.1.Command.Saga, .slice A_14 r_13.1.Command.Steps.length c_15, .int .i64 r_13.1.Command.Step, .bool r_13.1.Command.Back, .int .i64 r_13.1.Command.Try, .bool r_13.1.Command.Ok, .int .u64 r_13.1.Command.Now, .int .i64 r_13.1.Reply.Err, .int .u64 r_13.1.Reply.Num, .int .u64 r_13.1.Reply.Extra]⟩]) (ps := []) (by kernel_rfl) trivial ?_
    exact GoO.sub (ks := [5, 8, 9, 10, 11, 56]) (hk := [0]) (bk := [0]) (by kernel_rfl) (by kernel_rfl) (by kernel_rfl) (tontinelaw21_begun_j3_ok n r_13 r_22 A_14 c_15 b_20 w0 S0 r_13.2.1)
  · refine GoO.exec (is := [17, 18]) (hs := [.p, .p]) (rest := [19, 20, 21, 22, 23, 24, 25, 26, 27, 28, 29, 30, 31, 32, 33, 34, 35, 36, 37, 38, 39, 40, 41]) (ks := [5, 8, 9, 10, 11, 56]) (env' := [(5, .pointer (some ⟨b_20, 0, none⟩)), (8, .bool r_13.2.2.2.1), (9, .int .u64 r_22.1), (10, .int .u64 r_22.2.1), (11, .bool r_22.2.2), (56, .bool false)]) (H' := [⟨42, b_20, [.int .i64 r_13.1.Client, .int .i64 r_13.1.Command.Kind, .int .u64 r_13.1.Command.Session, .int .u64 r_13.1.Command.Seq, .int .u64 r_13.1.Command.Saga, .slice A_14 r_13.1.Command.Steps.length c_15, .int .i64 r_13.1.Command.Step, .bool r_13.1.Command.Back, .int .i64 r_13.1.Command.Try, .bool r_13.1.Command.Ok, .int .u64 r_13.1.Command.Now, .int .i64 r_13.1.Reply.Err, .int .u64 r_13.1.Reply.Num, .int .u64 r_13.1.Reply.Extra]⟩]) (ps := []) (by kernel_rfl) trivial ?_
    exact GoO.sub (ks := [5, 8, 9, 10, 11, 56]) (hk := [0]) (bk := [0]) (by kernel_rfl) (by kernel_rfl) (by kernel_rfl) (tontinelaw21_begun_j3_ok n r_13 r_22 A_14 c_15 b_20 w0 S0 false)
theorem tontinelaw21_begun_j1_ok (n : Nat) (r_6 : T_api_Letter × Int × T_client_Client) (r_13 : T_api_Told × Bool × T_api_Letter × Bool × T_client_Client) (r_22 : Int × Int × Bool) (A_7 : Option Addr) (c_8 : Nat) (b_11 : Nat) (A_14 : Option Addr) (c_15 : Nat) (b_20 : Nat) (w0 : World) (S0 : Fam) (b_26 : Bool) :
    GoO (tontinelaw21_begun.cx w0 S0) [(3, .pointer (some ⟨b_11, 0, none⟩)), (5, .pointer (some ⟨b_20, 0, none⟩)), (6, .bool r_13.2.1), (8, .bool r_13.2.2.2.1), (9, .int .u64 r_22.1), (10, .int .u64 r_22.2.1), (11, .bool r_22.2.2), (48, .bool b_26)] [⟨41, b_11, [.int .i64 r_6.1.Kind, .int .i64 r_6.1.From, .int .i64 r_6.1.To, .int .u64 r_6.1.Term, .int .u64 r_6.1.Index, .int .u64 r_6.1.Prev, .int .u64 r_6.1.Commit, .bool r_6.1.Ok, .slice A_7 r_6.1.Entries.length c_8, .string (bs r_6.1.Data)]⟩, ⟨42, b_20, [.int .i64 r_13.1.Client, .int .i64 r_13.1.Command.Kind, .int .u64 r_13.1.Command.Session, .int .u64 r_13.1.Command.Seq, .int .u64 r_13.1.Command.Saga, .slice A_14 r_13.1.Command.Steps.length c_15, .int .i64 r_13.1.Command.Step, .bool r_13.1.Command.Back, .int .i64 r_13.1.Command.Try, .bool r_13.1.Command.Ok, .int .u64 r_13.1.Command.Now, .int .i64 r_13.1.Reply.Err, .int .u64 r_13.1.Reply.Num, .int .u64 r_13.1.Reply.Extra]⟩] [Rd 0 kT_api_Entry A_7 c_8 r_6.1.Entries, Rd 0 kT_api_Step A_14 c_15 r_13.1.Command.Steps] [.inRegion r30_11 [11, 12, 13, 14, 15, 16, 17, 18, 19, 20, 21, 22, 23, 24, 25, 26, 27, 28, 29, 30, 31, 32, 33, 34, 35, 36, 37, 38, 39, 40, 41], .code c30_12] (tontinelaw21_begun.j1 n r_6 r_13 r_22 b_26) := by
  unfold tontinelaw21_begun.j1
  refine GoO.exec (is := [11]) (hs := [.p]) (rest := [12, 13, 14, 15, 16, 17, 18, 19, 20, 21, 22, 23, 24, 25, 26, 27, 28, 29, 30, 31, 32, 33, 34, 35, 36, 37, 38, 39, 40, 41]) (ks := [3, 5, 6, 8, 9, 10, 11, 49]) (env' := [(3, .pointer (some ⟨b_11, 0, none⟩)), (5, .pointer (some ⟨b_20, 0, none⟩)), (6, .bool r_13.2.1), (8, .bool r_13.2.2.2.1), (9, .int .u64 r_22.1), (10, .int .u64 r_22.2.1), (11, .bool r_22.2.2), (49, .bool b_26)]) (H' := [⟨41, b_11, [.int .i64 r_6.1.Kind, .int .i64 r_6.1.From, .int .i64 r_6.1.To, .int .u64 r_6.1.Term, .int .u64 r_6.1.Index, .int .u64 r_6.1.Prev, .int .u64 r_6.1.Commit, .bool r_6.1.Ok, .slice A_7 r_6.1.Entries.length c_8, .string (bs r_6.1.Data)]⟩, ⟨42, b_20, [.int .i64 r_13.1.Client, .int .i64 r_13.1.Command.Kind, .int .u64 r_13.1.Command.Session, .int .u64 r_13.1.Command.Seq, .int .u64 r_13.1.Command.Saga, .slice A_14 r_13.1.Command.Steps.length c_15, .int .i64 r_13.1.Command.Step, .bool r_13.1.Command.Back, .int .i64 r_13.1.Command.Try, .bool r_13.1.Command.Ok, .int .u64 r_13.1.Command.Now, .int .i64 r_13.1.Reply.Err, .int .u64 r_13.1.Reply.Num, .int .u64 r_13.1.Reply.Extra]⟩]) (ps := []) (by kernel_rfl) trivial ?_
  refine GoO.bsplit (t := 49) (by kernel_rfl) (fun h27 => ?_) (fun h27 => ?_)
  · refine GoO.exec (is := [12, 13, 14, 15]) (hs := [.p, .b 0, .p, .p]) (rest := [16, 17, 18, 19, 20, 21, 22, 23, 24, 25, 26, 27, 28, 29, 30, 31, 32, 33, 34, 35, 36, 37, 38, 39, 40, 41]) (ks := [5, 6, 8, 9, 10, 11, 53]) (env' := [(5, .pointer (some ⟨b_20, 0, none⟩)), (6, .bool r_13.2.1), (8, .bool r_13.2.2.2.1), (9, .int .u64 r_22.1), (10, .int .u64 r_22.2.1), (11, .bool r_22.2.2), (53, .bool (r_6.1.Index == 1))]) (H' := [⟨41, b_11, [.int .i64 r_6.1.Kind, .int .i64 r_6.1.From, .int .i64 r_6.1.To, .int .u64 r_6.1.Term, .int .u64 r_6.1.Index, .int .u64 r_6.1.Prev, .int .u64 r_6.1.Commit, .bool r_6.1.Ok, .slice A_7 r_6.1.Entries.length c_8, .string (bs r_6.1.Data)]⟩, ⟨42, b_20, [.int .i64 r_13.1.Client, .int .i64 r_13.1.Command.Kind, .int .u64 r_13.1.Command.Session, .int .u64 r_13.1.Command.Seq, .int .u64 r_13.1.Command.Saga, .slice A_14 r_13.1.Command.Steps.length c_15, .int .i64 r_13.1.Command.Step, .bool r_13.1.Command.Back, .int .i64 r_13.1.Command.Try, .bool r_13.1.Command.Ok, .int .u64 r_13.1.Command.Now, .int .i64 r_13.1.Reply.Err, .int .u64 r_13.1.Reply.Num, .int .u64 r_13.1.Reply.Extra]⟩]) (ps := [b_11 = b_11]) (by kernel_rfl) (And.intro rfl trivial) ?_
    exact GoO.sub (ks := [5, 6, 8, 9, 10, 11, 53]) (hk := [1]) (bk := [1]) (by kernel_rfl) (by kernel_rfl) (by kernel_rfl) (tontinelaw21_begun_j2_ok n r_13 r_22 A_14 c_15 b_20 w0 S0 (r_6.1.Index == 1))
  · refine GoO.exec (is := [12, 13, 14, 15]) (hs := [.p, .p, .p, .p]) (rest := [16, 17, 18, 19, 20, 21, 22, 23, 24, 25, 26, 27, 28, 29, 30, 31, 32, 33, 34, 35, 36, 37, 38, 39, 40, 41]) (ks := [5, 6, 8, 9, 10, 11, 53]) (env' := [(5, .pointer (some ⟨b_20, 0, none⟩)), (6, .bool r_13.2.1), (8, .bool r_13.2.2.2.1), (9, .int .u64 r_22.1), (10, .int .u64 r_22.2.1), (11, .bool r_22.2.2), (53, .bool false)]) (H' := [⟨41, b_11, [.int .i64 r_6.1.Kind, .int .i64 r_6.1.From, .int .i64 r_6.1.To, .int .u64 r_6.1.Term, .int .u64 r_6.1.Index, .int .u64 r_6.1.Prev, .int .u64 r_6.1.Commit, .bool r_6.1.Ok, .slice A_7 r_6.1.Entries.length c_8, .string (bs r_6.1.Data)]⟩, ⟨42, b_20, [.int .i64 r_13.1.Client, .int .i64 r_13.1.Command.Kind, .int .u64 r_13.1.Command.Session, .int .u64 r_13.1.Command.Seq, .int .u64 r_13.1.Command.Saga, .slice A_14 r_13.1.Command.Steps.length c_15, .int .i64 r_13.1.Command.Step, .bool r_13.1.Command.Back, .int .i64 r_13.1.Command.Try, .bool r_13.1.Command.Ok, .int .u64 r_13.1.Command.Now, .int .i64 r_13.1.Reply.Err, .int .u64 r_13.1.Reply.Num, .int .u64 r_13.1.Reply.Extra]⟩]) (ps := []) (by kernel_rfl) trivial ?_
    exact GoO.sub (ks := [5, 6, 8, 9, 10, 11, 53]) (hk := [1]) (bk := [1]) (by kernel_rfl) (by kernel_rfl) (by kernel_rfl) (tontinelaw21_begun_j2_ok n r_13 r_22 A_14 c_15 b_20 w0 S0 false)
theorem tontinelaw21_begun_j0_ok (n : Nat) (r_6 : T_api_Letter × Int × T_client_Client) (r_13 : T_api_Told × Bool × T_api_Letter × Bool × T_client_Client) (r_22 : Int × Int × Bool) (A_7 : Option Addr) (c_8 : Nat) (b_11 : Nat) (A_14 : Option Addr) (c_15 : Nat) (b_20 : Nat) (w0 : World) (S0 : Fam) (b_24 : Bool) :
    GoO (tontinelaw21_begun.cx w0 S0) [(3, .pointer (some ⟨b_11, 0, none⟩)), (5, .pointer (some ⟨b_20, 0, none⟩)), (6, .bool r_13.2.1), (8, .bool r_13.2.2.2.1), (9, .int .u64 r_22.1), (10, .int .u64 r_22.2.1), (11, .bool r_22.2.2), (43, .bool b_24)] [⟨41, b_11, [.int .i64 r_6.1.Kind, .int .i64 r_6.1.From, .int .i64 r_6.1.To, .int .u64 r_6.1.Term, .int .u64 r_6.1.Index, .int .u64 r_6.1.Prev, .int .u64 r_6.1.Commit, .bool r_6.1.Ok, .slice A_7 r_6.1.Entries.length c_8, .string (bs r_6.1.Data)]⟩, ⟨42, b_20, [.int .i64 r_13.1.Client, .int .i64 r_13.1.Command.Kind, .int .u64 r_13.1.Command.Session, .int .u64 r_13.1.Command.Seq, .int .u64 r_13.1.Command.Saga, .slice A_14 r_13.1.Command.Steps.length c_15, .int .i64 r_13.1.Command.Step, .bool r_13.1.Command.Back, .int .i64 r_13.1.Command.Try, .bool r_13.1.Command.Ok, .int .u64 r_13.1.Command.Now, .int .i64 r_13.1.Reply.Err, .int .u64 r_13.1.Reply.Num, .int .u64 r_13.1.Reply.Extra]⟩] [Rd 0 kT_api_Entry A_7 c_8 r_6.1.Entries, Rd 0 kT_api_Step A_14 c_15 r_13.1.Command.Steps] [.inRegion r30_11 [6, 7, 8, 9, 10, 11, 12, 13, 14, 15, 16, 17, 18, 19, 20, 21, 22, 23, 24, 25, 26, 27, 28, 29, 30, 31, 32, 33, 34, 35, 36, 37, 38, 39, 40, 41], .code c30_12] (tontinelaw21_begun.j0 n r_6 r_13 r_22 b_24) := by
  unfold tontinelaw21_begun.j0
  refine GoO.exec (is := [6]) (hs := [.p]) (rest := [7, 8, 9, 10, 11, 12, 13, 14, 15, 16, 17, 18, 19, 20, 21, 22, 23, 24, 25, 26, 27, 28, 29, 30, 31, 32, 33, 34, 35, 36, 37, 38, 39, 40, 41]) (ks := [3, 5, 6, 8, 9, 10, 11, 44]) (env' := [(3, .pointer (some ⟨b_11, 0, none⟩)), (5, .pointer (some ⟨b_20, 0, none⟩)), (6, .bool r_13.2.1), (8, .bool r_13.2.2.2.1), (9, .int .u64 r_22.1), (10, .int .u64 r_22.2.1), (11, .bool r_22.2.2), (44, .bool b_24)]) (H' := [⟨41, b_11, [.int .i64 r_6.1.Kind, .int .i64 r_6.1.From, .int .i64 r_6.1.To, .int .u64 r_6.1.Term, .int .u64 r_6.1.Index, .int .u64 r_6.1.Prev, .int .u64 r_6.1.Commit, .bool r_6.1.Ok, .slice A_7 r_6.1.Entries.length c_8, .string (bs r_6.1.Data)]⟩, ⟨42, b_20, [.int .i64 r_13.1.Client, .int .i64 r_13.1.Command.Kind, .int .u64 r_13.1.Command.Session, .int .u64 r_13.1.Command.Seq, .int .u64 r_13.1.Command.Saga, .slice A_14 r_13.1.Command.Steps.length c_15, .int .i64 r_13.1.Command.Step, .bool r_13.1.Command.Back, .int .i64 r_13.1.Command.Try, .bool r_13.1.Command.Ok, .int .u64 r_13.1.Command.Now, .int .i64 r_13.1.Reply.Err, .int .u64 r_13.1.Reply.Num, .int .u64 r_13.1.Reply.Extra]⟩]) (ps := []) (by kernel_rfl) trivial ?_
  refine GoO.bsplit (t := 44) (by kernel_rfl) (fun h25 => ?_) (fun h25 => ?_)
  · refine GoO.exec (is := [7, 8, 9, 10]) (hs := [.p, .b 0, .p, .p]) (rest := [11, 12, 13, 14, 15, 16, 17, 18, 19, 20, 21, 22, 23, 24, 25, 26, 27, 28, 29, 30, 31, 32, 33, 34, 35, 36, 37, 38, 39, 40, 41]) (ks := [3, 5, 6, 8, 9, 10, 11, 48]) (env' := [(3, .pointer (some ⟨b_11, 0, none⟩)), (5, .pointer (some ⟨b_20, 0, none⟩)), (6, .bool r_13.2.1), (8, .bool r_13.2.2.2.1), (9, .int .u64 r_22.1), (10, .int .u64 r_22.2.1), (11, .bool r_22.2.2), (48, .bool (r_6.1.From == 201))]) (H' := [⟨41, b_11, [.int .i64 r_6.1.Kind, .int .i64 r_6.1.From, .int .i64 r_6.1.To, .int .u64 r_6.1.Term, .int .u64 r_6.1.Index, .int .u64 r_6.1.Prev, .int .u64 r_6.1.Commit, .bool r_6.1.Ok, .slice A_7 r_6.1.Entries.length c_8, .string (bs r_6.1.Data)]⟩, ⟨42, b_20, [.int .i64 r_13.1.Client, .int .i64 r_13.1.Command.Kind, .int .u64 r_13.1.Command.Session, .int .u64 r_13.1.Command.Seq, .int .u64 r_13.1.Command.Saga, .slice A_14 r_13.1.Command.Steps.length c_15, .int .i64 r_13.1.Command.Step, .bool r_13.1.Command.Back, .int .i64 r_13.1.Command.Try, .bool r_13.1.Command.Ok, .int .u64 r_13.1.Command.Now, .int .i64 r_13.1.Reply.Err, .int .u64 r_13.1.Reply.Num, .int .u64 r_13.1.Reply.Extra]⟩]) (ps := [b_11 = b_11]) (by kernel_rfl) (And.intro rfl trivial) ?_
    exact GoO.sub (ks := [3, 5, 6, 8, 9, 10, 11, 48]) (hk := [0, 1]) (bk := [0, 1]) (by kernel_rfl) (by kernel_rfl) (by kernel_rfl) (tontinelaw21_begun_j1_ok n r_6 r_13 r_22 A_7 c_8 b_11 A_14 c_15 b_20 w0 S0 (r_6.1.From == 201))
  · refine GoO.exec (is := [7, 8, 9, 10]) (hs := [.p, .p, .p, .p]) (rest := [11, 12, 13, 14, 15, 16, 17, 18, 19, 20, 21, 22, 23, 24, 25, 26, 27, 28, 29, 30, 31, 32, 33, 34, 35, 36, 37, 38, 39, 40, 41]) (ks := [3, 5, 6, 8, 9, 10, 11, 48]) (env' := [(3, .pointer (some ⟨b_11, 0, none⟩)), (5, .pointer (some ⟨b_20, 0, none⟩)), (6, .bool r_13.2.1), (8, .bool r_13.2.2.2.1), (9, .int .u64 r_22.1), (10, .int .u64 r_22.2.1), (11, .bool r_22.2.2), (48, .bool false)]) (H' := [⟨41, b_11, [.int .i64 r_6.1.Kind, .int .i64 r_6.1.From, .int .i64 r_6.1.To, .int .u64 r_6.1.Term, .int .u64 r_6.1.Index, .int .u64 r_6.1.Prev, .int .u64 r_6.1.Commit, .bool r_6.1.Ok, .slice A_7 r_6.1.Entries.length c_8, .string (bs r_6.1.Data)]⟩, ⟨42, b_20, [.int .i64 r_13.1.Client, .int .i64 r_13.1.Command.Kind, .int .u64 r_13.1.Command.Session, .int .u64 r_13.1.Command.Seq, .int .u64 r_13.1.Command.Saga, .slice A_14 r_13.1.Command.Steps.length c_15, .int .i64 r_13.1.Command.Step, .bool r_13.1.Command.Back, .int .i64 r_13.1.Command.Try, .bool r_13.1.Command.Ok, .int .u64 r_13.1.Command.Now, .int .i64 r_13.1.Reply.Err, .int .u64 r_13.1.Reply.Num, .int .u64 r_13.1.Reply.Extra]⟩]) (ps := []) (by kernel_rfl) trivial ?_
    exact GoO.sub (ks := [3, 5, 6, 8, 9, 10, 11, 48]) (hk := [0, 1]) (bk := [0, 1]) (by kernel_rfl) (by kernel_rfl) (by kernel_rfl) (tontinelaw21_begun_j1_ok n r_6 r_13 r_22 A_7 c_8 b_11 A_14 c_15 b_20 w0 S0 false)
theorem tontinelaw21_begun_ok (n : Nat) :
    Meets Try.prog 30 [] 0 [] [] [] (tontinelaw21_begun.f n) (tontinelaw21_begun.R) := by
  refine Meets.of (c := c30_0) (n := 79) Try.func30 (by kernel_rfl) (by kernel_rfl) (by kernel_rfl) fun w0 S0 => ?_
  unfold tontinelaw21_begun.f
  show GoO (tontinelaw21_begun.cx w0 S0) [] [] [] [.code c30_0] _
  refine GoO.seq' c30_0e ?_
  refine GoO.region' (is := [0]) c30_1e (by kernel_rfl) ?_
  refine GoO.exec (is := [0]) (hs := [.p]) (rest := []) (ks := []) (env' := []) (H' := []) (ps := []) (by kernel_rfl) trivial ?_
  refine GoO.regionEnd ?_
  refine GoO.seq' c30_2e ?_
  refine GoO.region' (is := [0, 1, 2, 3, 4, 5]) c30_3e (by kernel_rfl) ?_
  refine OpTo.go (GoO.call rfl (by kernel_rfl) (by kernel_rfl) (client_New_ok n 1) [[0]] [(40, 1)] [] [] (hks := []) (bks := []) (by kernel_rfl) (by kernel_rfl) (by kernel_rfl) (.inl rfl) rfl rfl (by kernel_rfl) (by kernel_rfl) _ (fun _ _ => rfl) _ _ (fun _ _ => rfl) (fun _ _ => rfl) (fun rr _ => by dsimp only [client_New.R]; cases rr.1 <;> kernel_rfl) (fun rr _ => by dsimp only [client_New.R]; cases rr.1 <;> kernel_rfl) (fun r_1 x_41 => ?_))
  obtain ⟨c_2, A_3, c_4⟩ := x_41
  rcases r_1 with ⟨(_ | o_5), r_1_q1⟩
  · refine GoO.shape (env' := [(13, .tuple ⟨[.pointer none, .int .i64 ((none, r_1_q1) : Option T_client_Client × Int).2]⟩)]) (H' := []) (B' := []) (ks := [13]) (by kernel_rfl) (by kernel_rfl) (by kernel_rfl) ?_
    refine GoO.exec (is := [1, 2, 3, 4, 5]) (hs := [.p, .p, .p, .p, .p]) (rest := []) (ks := [1, 2]) (env' := [(1, .pointer none), (2, .int .i64 ((none, r_1_q1) : Option T_client_Client × Int).2)]) (H' := []) (ps := []) (by kernel_rfl) trivial ?_
    refine GoO.regionEnd ?_
    refine GoO.seq' c30_4e ?_
    refine GoO.region' (is := [0, 1, 2, 3, 4, 5, 6, 7, 8]) c30_5e (by kernel_rfl) ?_
    refine GoO.exec (is := [0, 1]) (hs := [.p, .p]) (rest := [2, 3, 4, 5, 6, 7, 8]) (ks := [1, 2, 17, 18]) (env' := [(1, .pointer none), (2, .int .i64 ((none, r_1_q1) : Option T_client_Client × Int).2), (17, .pointer none), (18, .agg ⟨[.int .i64 1, .int .u64 0, .int .u64 0, .int .u64 0, .slice none ([] : List T_api_Step).length 0, .int .i64 0, .bool false, .int .i64 0, .bool false, .int .u64 0]⟩)]) (H' := []) (ps := []) (by kernel_rfl) trivial ?_
    exact GoO.stop
  · refine GoO.shape (env' := [(13, .tuple ⟨[.pointer (some ⟨c_2, 0, none⟩), .int .i64 ((some o_5, r_1_q1) : Option T_client_Client × Int).2]⟩)]) (H' := [⟨40, c_2, [.int .i64 o_5.id, .int .u64 o_5.session, .int .u64 o_5.seq, .int .u64 o_5.call, .bool o_5.busy, .int .i64 o_5.now.Kind, .int .u64 o_5.now.Session, .int .u64 o_5.now.Seq, .int .u64 o_5.now.Saga, .slice A_3 o_5.now.Steps.length c_4, .int .i64 o_5.now.Step, .bool o_5.now.Back, .int .i64 o_5.now.Try, .bool o_5.now.Ok, .int .u64 o_5.now.Now, .string (bs o_5.data), .int .i64 o_5.to_]⟩]) (B' := [Rd 0 kT_api_Step A_3 c_4 o_5.now.Steps]) (ks := [13]) (by kernel_rfl) (by kernel_rfl) (by kernel_rfl) ?_
    refine GoO.exec (is := [1, 2, 3, 4, 5]) (hs := [.p, .p, .p, .p, .p]) (rest := []) (ks := [1, 2]) (env' := [(1, .pointer (some ⟨c_2, 0, none⟩)), (2, .int .i64 ((some o_5, r_1_q1) : Option T_client_Client × Int).2)]) (H' := [⟨40, c_2, [.int .i64 o_5.id, .int .u64 o_5.session, .int .u64 o_5.seq, .int .u64 o_5.call, .bool o_5.busy, .int .i64 o_5.now.Kind, .int .u64 o_5.now.Session, .int .u64 o_5.now.Seq, .int .u64 o_5.now.Saga, .slice A_3 o_5.now.Steps.length c_4, .int .i64 o_5.now.Step, .bool o_5.now.Back, .int .i64 o_5.now.Try, .bool o_5.now.Ok, .int .u64 o_5.now.Now, .string (bs o_5.data), .int .i64 o_5.to_]⟩]) (ps := []) (by kernel_rfl) trivial ?_
    refine GoO.regionEnd ?_
    refine GoO.seq' c30_4e ?_
    refine GoO.region' (is := [0, 1, 2, 3, 4, 5, 6, 7, 8]) c30_5e (by kernel_rfl) ?_
    refine GoO.exec (is := [0, 1]) (hs := [.p, .p]) (rest := [2, 3, 4, 5, 6, 7, 8]) (ks := [1, 2, 17, 18]) (env' := [(1, .pointer (some ⟨c_2, 0, none⟩)), (2, .int .i64 ((some o_5, r_1_q1) : Option T_client_Client × Int).2), (17, .pointer (some ⟨c_2, 0, none⟩)), (18, .agg ⟨[.int .i64 1, .int .u64 0, .int .u64 0, .int .u64 0, .slice none ([] : List T_api_Step).length 0, .int .i64 0, .bool false, .int .i64 0, .bool false, .int .u64 0]⟩)]) (H' := [⟨40, c_2, [.int .i64 o_5.id, .int .u64 o_5.session, .int .u64 o_5.seq, .int .u64 o_5.call, .bool o_5.busy, .int .i64 o_5.now.Kind, .int .u64 o_5.now.Session, .int .u64 o_5.now.Seq, .int .u64 o_5.now.Saga, .slice A_3 o_5.now.Steps.length c_4, .int .i64 o_5.now.Step, .bool o_5.now.Back, .int .i64 o_5.now.Try, .bool o_5.now.Ok, .int .u64 o_5.now.Now, .string (bs o_5.data), .int .i64 o_5.to_]⟩]) (ps := []) (by kernel_rfl) trivial ?_
    refine GoO.nilRd kT_api_Step ?_
    refine OpTo.go (GoO.call rfl (by kernel_rfl) (by kernel_rfl) (client_Client_Call_ok n (⟨o_5.id, o_5.session, o_5.seq, o_5.call, o_5.busy, (⟨o_5.now.Kind, o_5.now.Session, o_5.now.Seq, o_5.now.Saga, o_5.now.Steps, o_5.now.Step, o_5.now.Back, o_5.now.Try, o_5.now.Ok, o_5.now.Now⟩ : T_api_Command), o_5.data, o_5.to_⟩ : T_client_Client) (⟨1, 0, 0, 0, [], 0, false, 0, false, 0⟩ : T_api_Command) c_2 A_3 c_4 none 0) [[0], [40]] [(40, 1)] [(1, 0)] [(0, 1), (0, 0)] (hks := []) (bks := [0, 1]) (by kernel_rfl) (by kernel_rfl) (by kernel_rfl) (.inl rfl) rfl rfl (by kernel_rfl) (by kernel_rfl) _ (fun _ _ => rfl) _ _ (fun _ _ => rfl) (fun _ _ => rfl) (fun _ _ => by kernel_rfl) (fun _ _ => by kernel_rfl) (fun r_6 x_40 => ?_))
    obtain ⟨A_7, c_8, A_9, c_10⟩ := x_40
    refine GoO.shape (env' := [(1, .pointer (some ⟨c_2, 0, none⟩)), (2, .int .i64 ((some o_5, r_1_q1) : Option T_client_Client × Int).2), (17, .pointer (some ⟨c_2, 0, none⟩)), (18, .agg ⟨[.int .i64 1, .int .u64 0, .int .u64 0, .int .u64 0, .slice none ([] : List T_api_Step).length 0, .int .i64 0, .bool false, .int .i64 0, .bool false, .int .u64 0]⟩), (19, .tuple ⟨[.agg ⟨[.int .i64 r_6.1.Kind, .int .i64 r_6.1.From, .int .i64 r_6.1.To, .int .u64 r_6.1.Term, .int .u64 r_6.1.Index, .int .u64 r_6.1.Prev, .int .u64 r_6.1.Commit, .bool r_6.1.Ok, .slice A_7 r_6.1.Entries.length c_8, .string (bs r_6.1.Data)]⟩, .int .i64 r_6.2.1]⟩)]) (H' := [⟨40, c_2, [.int .i64 r_6.2.2.id, .int .u64 r_6.2.2.session, .int .u64 r_6.2.2.seq, .int .u64 r_6.2.2.call, .bool r_6.2.2.busy, .int .i64 r_6.2.2.now.Kind, .int .u64 r_6.2.2.now.Session, .int .u64 r_6.2.2.now.Seq, .int .u64 r_6.2.2.now.Saga, .slice A_9 r_6.2.2.now.Steps.length c_10, .int .i64 r_6.2.2.now.Step, .bool r_6.2.2.now.Back, .int .i64 r_6.2.2.now.Try, .bool r_6.2.2.now.Ok, .int .u64 r_6.2.2.now.Now, .string (bs r_6.2.2.data), .int .i64 r_6.2.2.to_]⟩]) (B' := [Rd 0 kT_api_Entry A_7 c_8 r_6.1.Entries, Rd 0 kT_api_Step A_9 c_10 r_6.2.2.now.Steps, Rd 0 kT_api_Step none 0 ([] : List T_api_Step), Rd 0 kT_api_Step A_3 c_4 o_5.now.Steps]) (ks := [1, 2, 17, 18, 19]) (by kernel_rfl) (by kernel_rfl) (by kernel_rfl) ?_
    refine GoO.exec (is := [3, 4, 5]) (hs := [.p, .p, .p]) (rest := [6, 7, 8]) (ks := [1, 2, 20, 21]) (env' := [(1, .pointer (some ⟨c_2, 0, none⟩)), (2, .int .i64 ((some o_5, r_1_q1) : Option T_client_Client × Int).2), (20, .agg ⟨[.int .i64 r_6.1.Kind, .int .i64 r_6.1.From, .int .i64 r_6.1.To, .int .u64 r_6.1.Term, .int .u64 r_6.1.Index, .int .u64 r_6.1.Prev, .int .u64 r_6.1.Commit, .bool r_6.1.Ok, .slice A_7 r_6.1.Entries.length c_8, .string (bs r_6.1.Data)]⟩), (21, .int .i64 r_6.2.1)]) (H' := [⟨40, c_2, [.int .i64 r_6.2.2.id, .int .u64 r_6.2.2.session, .int .u64 r_6.2.2.seq, .int .u64 r_6.2.2.call, .bool r_6.2.2.busy, .int .i64 r_6.2.2.now.Kind, .int .u64 r_6.2.2.now.Session, .int .u64 r_6.2.2.now.Seq, .int .u64 r_6.2.2.now.Saga, .slice A_9 r_6.2.2.now.Steps.length c_10, .int .i64 r_6.2.2.now.Step, .bool r_6.2.2.now.Back, .int .i64 r_6.2.2.now.Try, .bool r_6.2.2.now.Ok, .int .u64 r_6.2.2.now.Now, .string (bs r_6.2.2.data), .int .i64 r_6.2.2.to_]⟩]) (ps := []) (by kernel_rfl) trivial ?_
    refine OpTo.go (GoO.new rfl 41 (cs := [.int .i64 0, .int .i64 0, .int .i64 0, .int .u64 0, .int .u64 0, .int .u64 0, .int .u64 0, .bool false, .slice none ([] : List T_api_Entry).length 0, .string (bs [])]) (by kernel_rfl) _ (fun _ => rfl) (fun b_11 => ?_))
    refine GoO.exec (is := [7, 8]) (hs := [.b 0, .p]) (rest := []) (ks := [1, 2, 3, 4]) (env' := [(1, .pointer (some ⟨c_2, 0, none⟩)), (2, .int .i64 ((some o_5, r_1_q1) : Option T_client_Client × Int).2), (3, .pointer (some ⟨b_11, 0, none⟩)), (4, .int .i64 r_6.2.1)]) (H' := [⟨41, b_11, [.int .i64 r_6.1.Kind, .int .i64 r_6.1.From, .int .i64 r_6.1.To, .int .u64 r_6.1.Term, .int .u64 r_6.1.Index, .int .u64 r_6.1.Prev, .int .u64 r_6.1.Commit, .bool r_6.1.Ok, .slice A_7 r_6.1.Entries.length c_8, .string (bs r_6.1.Data)]⟩, ⟨40, c_2, [.int .i64 r_6.2.2.id, .int .u64 r_6.2.2.session, .int .u64 r_6.2.2.seq, .int .u64 r_6.2.2.call, .bool r_6.2.2.busy, .int .i64 r_6.2.2.now.Kind, .int .u64 r_6.2.2.now.Session, .int .u64 r_6.2.2.now.Seq, .int .u64 r_6.2.2.now.Saga, .slice A_9 r_6.2.2.now.Steps.length c_10, .int .i64 r_6.2.2.now.Step, .bool r_6.2.2.now.Back, .int .i64 r_6.2.2.now.Try, .bool r_6.2.2.now.Ok, .int .u64 r_6.2.2.now.Now, .string (bs r_6.2.2.data), .int .i64 r_6.2.2.to_]⟩]) (ps := [b_11 = b_11]) (by kernel_rfl) (And.intro rfl trivial) ?_
    refine GoO.regionEnd ?_
    refine GoO.seq' c30_6e ?_
    refine GoO.region' (is := [0, 1, 2, 3, 4, 5, 6, 7, 8, 9, 10, 11, 12, 13, 14, 15]) c30_7e (by kernel_rfl) ?_
    refine GoO.exec (is := [0, 1]) (hs := [.p, .p]) (rest := [2, 3, 4, 5, 6, 7, 8, 9, 10, 11, 12, 13, 14, 15]) (ks := [1, 2, 3, 4, 23, 24]) (env' := [(1, .pointer (some ⟨c_2, 0, none⟩)), (2, .int .i64 ((some o_5, r_1_q1) : Option T_client_Client × Int).2), (3, .pointer (some ⟨b_11, 0, none⟩)), (4, .int .i64 r_6.2.1), (23, .pointer (some ⟨c_2, 0, none⟩)), (24, .agg ⟨[.int .i64 0, .int .u64 4, .int .u64 0]⟩)]) (H' := [⟨41, b_11, [.int .i64 r_6.1.Kind, .int .i64 r_6.1.From, .int .i64 r_6.1.To, .int .u64 r_6.1.Term, .int .u64 r_6.1.Index, .int .u64 r_6.1.Prev, .int .u64 r_6.1.Commit, .bool r_6.1.Ok, .slice A_7 r_6.1.Entries.length c_8, .string (bs r_6.1.Data)]⟩, ⟨40, c_2, [.int .i64 r_6.2.2.id, .int .u64 r_6.2.2.session, .int .u64 r_6.2.2.seq, .int .u64 r_6.2.2.call, .bool r_6.2.2.busy, .int .i64 r_6.2.2.now.Kind, .int .u64 r_6.2.2.now.Session, .int .u64 r_6.2.2.now.Seq, .int .u64 r_6.2.2.now.Saga, .slice A_9 r_6.2.2.now.Steps.length c_10, .int .i64 r_6.2.2.now.Step, .bool r_6.2.2.now.Back, .int .i64 r_6.2.2.now.Try, .bool r_6.2.2.now.Ok, .int .u64 r_6.2.2.now.Now, .string (bs r_6.2.2.data), .int .i64 r_6.2.2.to_]⟩]) (ps := []) (by kernel_rfl) trivial ?_
    refine OpTo.go (GoO.call rfl (by kernel_rfl) (by kernel_rfl) (tontineref16_Answer_ok n (⟨0, 4, 0⟩ : T_api_Reply)) [[0]] [] [] [] (hks := [0, 1]) (bks := [0, 1, 2, 3]) (by kernel_rfl) (by kernel_rfl) (by kernel_rfl) (.inl rfl) rfl rfl (by kernel_rfl) (by kernel_rfl) _ (fun _ _ => rfl) _ _ (fun _ _ => rfl) (fun _ _ => rfl) (fun _ _ => by kernel_rfl) (fun _ _ => by kernel_rfl) (fun r_12 x_39 => ?_))
    refine GoO.shape (env' := [(1, .pointer (some ⟨c_2, 0, none⟩)), (2, .int .i64 ((some o_5, r_1_q1) : Option T_client_Client × Int).2), (3, .pointer (some ⟨b_11, 0, none⟩)), (4, .int .i64 r_6.2.1), (23, .pointer (some ⟨c_2, 0, none⟩)), (24, .agg ⟨[.int .i64 0, .int .u64 4, .int .u64 0]⟩), (25, .string (bs r_12))]) (H' := [⟨41, b_11, [.int .i64 r_6.1.Kind, .int .i64 r_6.1.From, .int .i64 r_6.1.To, .int .u64 r_6.1.Term, .int .u64 r_6.1.Index, .int .u64 r_6.1.Prev, .int .u64 r_6.1.Commit, .bool r_6.1.Ok, .slice A_7 r_6.1.Entries.length c_8, .string (bs r_6.1.Data)]⟩, ⟨40, c_2, [.int .i64 r_6.2.2.id, .int .u64 r_6.2.2.session, .int .u64 r_6.2.2.seq, .int .u64 r_6.2.2.call, .bool r_6.2.2.busy, .int .i64 r_6.2.2.now.Kind, .int .u64 r_6.2.2.now.Session, .int .u64 r_6.2.2.now.Seq, .int .u64 r_6.2.2.now.Saga, .slice A_9 r_6.2.2.now.Steps.length c_10, .int .i64 r_6.2.2.now.Step, .bool r_6.2.2.now.Back, .int .i64 r_6.2.2.now.Try, .bool r_6.2.2.now.Ok, .int .u64 r_6.2.2.now.Now, .string (bs r_6.2.2.data), .int .i64 r_6.2.2.to_]⟩]) (B' := [Rd 0 kT_api_Entry A_7 c_8 r_6.1.Entries, Rd 0 kT_api_Step A_9 c_10 r_6.2.2.now.Steps, Rd 0 kT_api_Step none 0 ([] : List T_api_Step), Rd 0 kT_api_Step A_3 c_4 o_5.now.Steps]) (ks := [1, 2, 3, 4, 23, 24, 25]) (by kernel_rfl) (by kernel_rfl) (by kernel_rfl) ?_
    refine GoO.exec (is := [3]) (hs := [.p]) (rest := [4, 5, 6, 7, 8, 9, 10, 11, 12, 13, 14, 15]) (ks := [1, 2, 3, 4, 23, 26]) (env' := [(1, .pointer (some ⟨c_2, 0, none⟩)), (2, .int .i64 ((some o_5, r_1_q1) : Option T_client_Client × Int).2), (3, .pointer (some ⟨b_11, 0, none⟩)), (4, .int .i64 r_6.2.1), (23, .pointer (some ⟨c_2, 0, none⟩)), (26, .agg ⟨[.int .i64 9, .int .i64 0, .int .i64 201, .int .u64 0, .int .u64 1, .int .u64 0, .int .u64 0, .bool false, .slice none ([] : List T_api_Entry).length 0, .string (bs r_12)]⟩)]) (H' := [⟨41, b_11, [.int .i64 r_6.1.Kind, .int .i64 r_6.1.From, .int .i64 r_6.1.To, .int .u64 r_6.1.Term, .int .u64 r_6.1.Index, .int .u64 r_6.1.Prev, .int .u64 r_6.1.Commit, .bool r_6.1.Ok, .slice A_7 r_6.1.Entries.length c_8, .string (bs r_6.1.Data)]⟩, ⟨40, c_2, [.int .i64 r_6.2.2.id, .int .u64 r_6.2.2.session, .int .u64 r_6.2.2.seq, .int .u64 r_6.2.2.call, .bool r_6.2.2.busy, .int .i64 r_6.2.2.now.Kind, .int .u64 r_6.2.2.now.Session, .int .u64 r_6.2.2.now.Seq, .int .u64 r_6.2.2.now.Saga, .slice A_9 r_6.2.2.now.Steps.length c_10, .int .i64 r_6.2.2.now.Step, .bool r_6.2.2.now.Back, .int .i64 r_6.2.2.now.Try, .bool r_6.2.2.now.Ok, .int .u64 r_6.2.2.now.Now, .string (bs r_6.2.2.data), .int .i64 r_6.2.2.to_]⟩]) (ps := []) (by kernel_rfl) trivial ?_
    refine GoO.nilRd kT_api_Entry ?_
    refine OpTo.go (GoO.call rfl (by kernel_rfl) (by kernel_rfl) (client_Client_Hear_ok n (⟨r_6.2.2.id, r_6.2.2.session, r_6.2.2.seq, r_6.2.2.call, r_6.2.2.busy, (⟨r_6.2.2.now.Kind, r_6.2.2.now.Session, r_6.2.2.now.Seq, r_6.2.2.now.Saga, r_6.2.2.now.Steps, r_6.2.2.now.Step, r_6.2.2.now.Back, r_6.2.2.now.Try, r_6.2.2.now.Ok, r_6.2.2.now.Now⟩ : T_api_Command), r_6.2.2.data, r_6.2.2.to_⟩ : T_client_Client) (⟨9, 0, 201, 0, 1, 0, 0, false, [], r_12⟩ : T_api_Letter) c_2 A_9 c_10 none 0) [[0], [40]] [(40, 1)] [(1, 1)] [(0, 2), (0, 0)] (hks := [0]) (bks := [0, 1, 2, 3, 4]) (by kernel_rfl) (by kernel_rfl) (by kernel_rfl) (.inl rfl) rfl rfl (by kernel_rfl) (by kernel_rfl) _ (fun _ _ => rfl) _ _ (fun _ _ => rfl) (fun _ _ => rfl) (fun _ _ => by kernel_rfl) (fun _ _ => by kernel_rfl) (fun r_13 x_38 => ?_))
    obtain ⟨A_14, c_15, A_16, c_17, A_18, c_19⟩ := x_38
    refine GoO.shape (env' := [(1, .pointer (some ⟨c_2, 0, none⟩)), (2, .int .i64 ((some o_5, r_1_q1) : Option T_client_Client × Int).2), (3, .pointer (some ⟨b_11, 0, none⟩)), (4, .int .i64 r_6.2.1), (23, .pointer (some ⟨c_2, 0, none⟩)), (26, .agg ⟨[.int .i64 9, .int .i64 0, .int .i64 201, .int .u64 0, .int .u64 1, .int .u64 0, .int .u64 0, .bool false, .slice none ([] : List T_api_Entry).length 0, .string (bs r_12)]⟩), (27, .tuple ⟨[.agg ⟨[.int .i64 r_13.1.Client, .int .i64 r_13.1.Command.Kind, .int .u64 r_13.1.Command.Session, .int .u64 r_13.1.Command.Seq, .int .u64 r_13.1.Command.Saga, .slice A_14 r_13.1.Command.Steps.length c_15, .int .i64 r_13.1.Command.Step, .bool r_13.1.Command.Back, .int .i64 r_13.1.Command.Try, .bool r_13.1.Command.Ok, .int .u64 r_13.1.Command.Now, .int .i64 r_13.1.Reply.Err, .int .u64 r_13.1.Reply.Num, .int .u64 r_13.1.Reply.Extra]⟩, .bool r_13.2.1, .agg ⟨[.int .i64 r_13.2.2.1.Kind, .int .i64 r_13.2.2.1.From, .int .i64 r_13.2.2.1.To, .int .u64 r_13.2.2.1.Term, .int .u64 r_13.2.2.1.Index, .int .u64 r_13.2.2.1.Prev, .int .u64 r_13.2.2.1.Commit, .bool r_13.2.2.1.Ok, .slice A_16 r_13.2.2.1.Entries.length c_17, .string (bs r_13.2.2.1.Data)]⟩, .bool r_13.2.2.2.1]⟩)]) (H' := [⟨40, c_2, [.int .i64 r_13.2.2.2.2.id, .int .u64 r_13.2.2.2.2.session, .int .u64 r_13.2.2.2.2.seq, .int .u64 r_13.2.2.2.2.call, .bool r_13.2.2.2.2.busy, .int .i64 r_13.2.2.2.2.now.Kind, .int .u64 r_13.2.2.2.2.now.Session, .int .u64 r_13.2.2.2.2.now.Seq, .int .u64 r_13.2.2.2.2.now.Saga, .slice A_18 r_13.2.2.2.2.now.Steps.length c_19, .int .i64 r_13.2.2.2.2.now.Step, .bool r_13.2.2.2.2.now.Back, .int .i64 r_13.2.2.2.2.now.Try, .bool r_13.2.2.2.2.now.Ok, .int .u64 r_13.2.2.2.2.now.Now, .string (bs r_13.2.2.2.2.data), .int .i64 r_13.2.2.2.2.to_]⟩, ⟨41, b_11, [.int .i64 r_6.1.Kind, .int .i64 r_6.1.From, .int .i64 r_6.1.To, .int .u64 r_6.1.Term, .int .u64 r_6.1.Index, .int .u64 r_6.1.Prev, .int .u64 r_6.1.Commit, .bool r_6.1.Ok, .slice A_7 r_6.1.Entries.length c_8, .string (bs r_6.1.Data)]⟩]) (B' := [Rd 0 kT_api_Step A_14 c_15 r_13.1.Command.Steps, Rd 0 kT_api_Entry A_16 c_17 r_13.2.2.1.Entries, Rd 0 kT_api_Step A_18 c_19 r_13.2.2.2.2.now.Steps, Rd 0 kT_api_Entry none 0 ([] : List T_api_Entry), Rd 0 kT_api_Entry A_7 c_8 r_6.1.Entries, Rd 0 kT_api_Step A_9 c_10 r_6.2.2.now.Steps, Rd 0 kT_api_Step none 0 ([] : List T_api_Step), Rd 0 kT_api_Step A_3 c_4 o_5.now.Steps]) (ks := [1, 2, 3, 4, 23, 26, 27]) (by kernel_rfl) (by kernel_rfl) (by kernel_rfl) ?_
    refine GoO.exec (is := [5, 6, 7, 8, 9]) (hs := [.p, .p, .p, .p, .p]) (rest := [10, 11, 12, 13, 14, 15]) (ks := [1, 2, 3, 4, 28, 29, 30, 31]) (env' := [(1, .pointer (some ⟨c_2, 0, none⟩)), (2, .int .i64 ((some o_5, r_1_q1) : Option T_client_Client × Int).2), (3, .pointer (some ⟨b_11, 0, none⟩)), (4, .int .i64 r_6.2.1), (28, .agg ⟨[.int .i64 r_13.1.Client, .int .i64 r_13.1.Command.Kind, .int .u64 r_13.1.Command.Session, .int .u64 r_13.1.Command.Seq, .int .u64 r_13.1.Command.Saga, .slice A_14 r_13.1.Command.Steps.length c_15, .int .i64 r_13.1.Command.Step, .bool r_13.1.Command.Back, .int .i64 r_13.1.Command.Try, .bool r_13.1.Command.Ok, .int .u64 r_13.1.Command.Now, .int .i64 r_13.1.Reply.Err, .int .u64 r_13.1.Reply.Num, .int .u64 r_13.1.Reply.Extra]⟩), (29, .bool r_13.2.1), (30, .agg ⟨[.int .i64 r_13.2.2.1.Kind, .int .i64 r_13.2.2.1.From, .int .i64 r_13.2.2.1.To, .int .u64 r_13.2.2.1.Term, .int .u64 r_13.2.2.1.Index, .int .u64 r_13.2.2.1.Prev, .int .u64 r_13.2.2.1.Commit, .bool r_13.2.2.1.Ok, .slice A_16 r_13.2.2.1.Entries.length c_17, .string (bs r_13.2.2.1.Data)]⟩), (31, .bool r_13.2.2.2.1)]) (H' := [⟨40, c_2, [.int .i64 r_13.2.2.2.2.id, .int .u64 r_13.2.2.2.2.session, .int .u64 r_13.2.2.2.2.seq, .int .u64 r_13.2.2.2.2.call, .bool r_13.2.2.2.2.busy, .int .i64 r_13.2.2.2.2.now.Kind, .int .u64 r_13.2.2.2.2.now.Session, .int .u64 r_13.2.2.2.2.now.Seq, .int .u64 r_13.2.2.2.2.now.Saga, .slice A_18 r_13.2.2.2.2.now.Steps.length c_19, .int .i64 r_13.2.2.2.2.now.Step, .bool r_13.2.2.2.2.now.Back, .int .i64 r_13.2.2.2.2.now.Try, .bool r_13.2.2.2.2.now.Ok, .int .u64 r_13.2.2.2.2.now.Now, .string (bs r_13.2.2.2.2.data), .int .i64 r_13.2.2.2.2.to_]⟩, ⟨41, b_11, [.int .i64 r_6.1.Kind, .int .i64 r_6.1.From, .int .i64 r_6.1.To, .int .u64 r_6.1.Term, .int .u64 r_6.1.Index, .int .u64 r_6.1.Prev, .int .u64 r_6.1.Commit, .bool r_6.1.Ok, .slice A_7 r_6.1.Entries.length c_8, .string (bs r_6.1.Data)]⟩]) (ps := []) (by kernel_rfl) trivial ?_
    refine OpTo.go (GoO.new rfl 42 (cs := [.int .i64 0, .int .i64 0, .int .u64 0, .int .u64 0, .int .u64 0, .slice none ([] : List T_api_Step).length 0, .int .i64 0, .bool false, .int .i64 0, .bool false, .int .u64 0, .int .i64 0, .int .u64 0, .int .u64 0]) (by kernel_rfl) _ (fun _ => rfl) (fun b_20 => ?_))
    refine OpTo.go (GoO.new rfl 43 (cs := [.int .i64 0, .int .i64 0, .int .i64 0, .int .u64 0, .int .u64 0, .int .u64 0, .int .u64 0, .bool false, .slice none ([] : List T_api_Entry).length 0, .string (bs [])]) (by kernel_rfl) _ (fun _ => rfl) (fun b_21 => ?_))
    refine GoO.exec (is := [12, 13, 14, 15]) (hs := [.b 1, .p, .b 0, .p]) (rest := []) (ks := [1, 2, 3, 4, 5, 6, 8]) (env' := [(1, .pointer (some ⟨c_2, 0, none⟩)), (2, .int .i64 ((some o_5, r_1_q1) : Option T_client_Client × Int).2), (3, .pointer (some ⟨b_11, 0, none⟩)), (4, .int .i64 r_6.2.1), (5, .pointer (some ⟨b_20, 0, none⟩)), (6, .bool r_13.2.1), (8, .bool r_13.2.2.2.1)]) (H' := [⟨43, b_21, [.int .i64 r_13.2.2.1.Kind, .int .i64 r_13.2.2.1.From, .int .i64 r_13.2.2.1.To, .int .u64 r_13.2.2.1.Term, .int .u64 r_13.2.2.1.Index, .int .u64 r_13.2.2.1.Prev, .int .u64 r_13.2.2.1.Commit, .bool r_13.2.2.1.Ok, .slice A_16 r_13.2.2.1.Entries.length c_17, .string (bs r_13.2.2.1.Data)]⟩, ⟨42, b_20, [.int .i64 r_13.1.Client, .int .i64 r_13.1.Command.Kind, .int .u64 r_13.1.Command.Session, .int .u64 r_13.1.Command.Seq, .int .u64 r_13.1.Command.Saga, .slice A_14 r_13.1.Command.Steps.length c_15, .int .i64 r_13.1.Command.Step, .bool r_13.1.Command.Back, .int .i64 r_13.1.Command.Try, .bool r_13.1.Command.Ok, .int .u64 r_13.1.Command.Now, .int .i64 r_13.1.Reply.Err, .int .u64 r_13.1.Reply.Num, .int .u64 r_13.1.Reply.Extra]⟩, ⟨40, c_2, [.int .i64 r_13.2.2.2.2.id, .int .u64 r_13.2.2.2.2.session, .int .u64 r_13.2.2.2.2.seq, .int .u64 r_13.2.2.2.2.call, .bool r_13.2.2.2.2.busy, .int .i64 r_13.2.2.2.2.now.Kind, .int .u64 r_13.2.2.2.2.now.Session, .int .u64 r_13.2.2.2.2.now.Seq, .int .u64 r_13.2.2.2.2.now.Saga, .slice A_18 r_13.2.2.2.2.now.Steps.length c_19, .int .i64 r_13.2.2.2.2.now.Step, .bool r_13.2.2.2.2.now.Back, .int .i64 r_13.2.2.2.2.now.Try, .bool r_13.2.2.2.2.now.Ok, .int .u64 r_13.2.2.2.2.now.Now, .string (bs r_13.2.2.2.2.data), .int .i64 r_13.2.2.2.2.to_]⟩, ⟨41, b_11, [.int .i64 r_6.1.Kind, .int .i64 r_6.1.From, .int .i64 r_6.1.To, .int .u64 r_6.1.Term, .int .u64 r_6.1.Index, .int .u64 r_6.1.Prev, .int .u64 r_6.1.Commit, .bool r_6.1.Ok, .slice A_7 r_6.1.Entries.length c_8, .string (bs r_6.1.Data)]⟩]) (ps := [b_20 = b_20, b_21 = b_21]) (by kernel_rfl) (And.intro rfl (And.intro rfl trivial)) ?_
    refine GoO.regionEnd ?_
    refine GoO.seq' c30_8e ?_
    refine GoO.region' (is := [0, 1, 2, 3, 4, 5, 6, 7, 8]) c30_9e (by kernel_rfl) ?_
    refine GoO.exec (is := [0]) (hs := [.p]) (rest := [1, 2, 3, 4, 5, 6, 7, 8]) (ks := [2, 3, 4, 5, 6, 8, 33]) (env' := [(2, .int .i64 ((some o_5, r_1_q1) : Option T_client_Client × Int).2), (3, .pointer (some ⟨b_11, 0, none⟩)), (4, .int .i64 r_6.2.1), (5, .pointer (some ⟨b_20, 0, none⟩)), (6, .bool r_13.2.1), (8, .bool r_13.2.2.2.1), (33, .pointer (some ⟨c_2, 0, none⟩))]) (H' := [⟨43, b_21, [.int .i64 r_13.2.2.1.Kind, .int .i64 r_13.2.2.1.From, .int .i64 r_13.2.2.1.To, .int .u64 r_13.2.2.1.Term, .int .u64 r_13.2.2.1.Index, .int .u64 r_13.2.2.1.Prev, .int .u64 r_13.2.2.1.Commit, .bool r_13.2.2.1.Ok, .slice A_16 r_13.2.2.1.Entries.length c_17, .string (bs r_13.2.2.1.Data)]⟩, ⟨42, b_20, [.int .i64 r_13.1.Client, .int .i64 r_13.1.Command.Kind, .int .u64 r_13.1.Command.Session, .int .u64 r_13.1.Command.Seq, .int .u64 r_13.1.Command.Saga, .slice A_14 r_13.1.Command.Steps.length c_15, .int .i64 r_13.1.Command.Step, .bool r_13.1.Command.Back, .int .i64 r_13.1.Command.Try, .bool r_13.1.Command.Ok, .int .u64 r_13.1.Command.Now, .int .i64 r_13.1.Reply.Err, .int .u64 r_13.1.Reply.Num, .int .u64 r_13.1.Reply.Extra]⟩, ⟨40, c_2, [.int .i64 r_13.2.2.2.2.id, .int .u64 r_13.2.2.2.2.session, .int .u64 r_13.2.2.2.2.seq, .int .u64 r_13.2.2.2.2.call, .bool r_13.2.2.2.2.busy, .int .i64 r_13.2.2.2.2.now.Kind, .int .u64 r_13.2.2.2.2.now.Session, .int .u64 r_13.2.2.2.2.now.Seq, .int .u64 r_13.2.2.2.2.now.Saga, .slice A_18 r_13.2.2.2.2.now.Steps.length c_19, .int .i64 r_13.2.2.2.2.now.Step, .bool r_13.2.2.2.2.now.Back, .int .i64 r_13.2.2.2.2.now.Try, .bool r_13.2.2.2.2.now.Ok, .int .u64 r_13.2.2.2.2.now.Now, .string (bs r_13.2.2.2.2.data), .int .i64 r_13.2.2.2.2.to_]⟩, ⟨41, b_11, [.int .i64 r_6.1.Kind, .int .i64 r_6.1.From, .int .i64 r_6.1.To, .int .u64 r_6.1.Term, .int .u64 r_6.1.Index, .int .u64 r_6.1.Prev, .int .u64 r_6.1.Commit, .bool r_6.1.Ok, .slice A_7 r_6.1.Entries.length c_8, .string (bs r_6.1.Data)]⟩]) (ps := []) (by kernel_rfl) trivial ?_
    refine OpTo.go (GoO.call rfl (by kernel_rfl) (by kernel_rfl) (client_Client_Status_ok n (⟨r_13.2.2.2.2.id, r_13.2.2.2.2.session, r_13.2.2.2.2.seq, r_13.2.2.2.2.call, r_13.2.2.2.2.busy, (⟨r_13.2.2.2.2.now.Kind, r_13.2.2.2.2.now.Session, r_13.2.2.2.2.now.Seq, r_13.2.2.2.2.now.Saga, r_13.2.2.2.2.now.Steps, r_13.2.2.2.2.now.Step, r_13.2.2.2.2.now.Back, r_13.2.2.2.2.now.Try, r_13.2.2.2.2.now.Ok, r_13.2.2.2.2.now.Now⟩ : T_api_Command), r_13.2.2.2.2.data, r_13.2.2.2.2.to_⟩ : T_client_Client) c_2 A_18 c_19) [[0], [40]] [] [(1, 2)] [(0, 2)] (hks := [0, 1, 2, 3]) (bks := [0, 1, 2, 3, 4, 5, 6, 7]) (by kernel_rfl) (by kernel_rfl) (by kernel_rfl) (.inl rfl) rfl rfl (by kernel_rfl) (by kernel_rfl) _ (fun _ _ => rfl) _ _ (fun _ _ => rfl) (fun _ _ => rfl) (fun _ _ => by kernel_rfl) (fun _ _ => by kernel_rfl) (fun r_22 x_37 => ?_))
    refine GoO.shape (env' := [(2, .int .i64 ((some o_5, r_1_q1) : Option T_client_Client × Int).2), (3, .pointer (some ⟨b_11, 0, none⟩)), (4, .int .i64 r_6.2.1), (5, .pointer (some ⟨b_20, 0, none⟩)), (6, .bool r_13.2.1), (8, .bool r_13.2.2.2.1), (33, .pointer (some ⟨c_2, 0, none⟩)), (34, .tuple ⟨[.int .u64 r_22.1, .int .u64 r_22.2.1, .bool r_22.2.2]⟩)]) (H' := [⟨43, b_21, [.int .i64 r_13.2.2.1.Kind, .int .i64 r_13.2.2.1.From, .int .i64 r_13.2.2.1.To, .int .u64 r_13.2.2.1.Term, .int .u64 r_13.2.2.1.Index, .int .u64 r_13.2.2.1.Prev, .int .u64 r_13.2.2.1.Commit, .bool r_13.2.2.1.Ok, .slice A_16 r_13.2.2.1.Entries.length c_17, .string (bs r_13.2.2.1.Data)]⟩, ⟨42, b_20, [.int .i64 r_13.1.Client, .int .i64 r_13.1.Command.Kind, .int .u64 r_13.1.Command.Session, .int .u64 r_13.1.Command.Seq, .int .u64 r_13.1.Command.Saga, .slice A_14 r_13.1.Command.Steps.length c_15, .int .i64 r_13.1.Command.Step, .bool r_13.1.Command.Back, .int .i64 r_13.1.Command.Try, .bool r_13.1.Command.Ok, .int .u64 r_13.1.Command.Now, .int .i64 r_13.1.Reply.Err, .int .u64 r_13.1.Reply.Num, .int .u64 r_13.1.Reply.Extra]⟩, ⟨40, c_2, [.int .i64 r_13.2.2.2.2.id, .int .u64 r_13.2.2.2.2.session, .int .u64 r_13.2.2.2.2.seq, .int .u64 r_13.2.2.2.2.call, .bool r_13.2.2.2.2.busy, .int .i64 r_13.2.2.2.2.now.Kind, .int .u64 r_13.2.2.2.2.now.Session, .int .u64 r_13.2.2.2.2.now.Seq, .int .u64 r_13.2.2.2.2.now.Saga, .slice A_18 r_13.2.2.2.2.now.Steps.length c_19, .int .i64 r_13.2.2.2.2.now.Step, .bool r_13.2.2.2.2.now.Back, .int .i64 r_13.2.2.2.2.now.Try, .bool r_13.2.2.2.2.now.Ok, .int .u64 r_13.2.2.2.2.now.Now, .string (bs r_13.2.2.2.2.data), .int .i64 r_13.2.2.2.2.to_]⟩, ⟨41, b_11, [.int .i64 r_6.1.Kind, .int .i64 r_6.1.From, .int .i64 r_6.1.To, .int .u64 r_6.1.Term, .int .u64 r_6.1.Index, .int .u64 r_6.1.Prev, .int .u64 r_6.1.Commit, .bool r_6.1.Ok, .slice A_7 r_6.1.Entries.length c_8, .string (bs r_6.1.Data)]⟩]) (B' := [Rd 0 kT_api_Step A_14 c_15 r_13.1.Command.Steps, Rd 0 kT_api_Entry A_16 c_17 r_13.2.2.1.Entries, Rd 0 kT_api_Step A_18 c_19 r_13.2.2.2.2.now.Steps, Rd 0 kT_api_Entry none 0 ([] : List T_api_Entry), Rd 0 kT_api_Entry A_7 c_8 r_6.1.Entries, Rd 0 kT_api_Step A_9 c_10 r_6.2.2.now.Steps, Rd 0 kT_api_Step none 0 ([] : List T_api_Step), Rd 0 kT_api_Step A_3 c_4 o_5.now.Steps]) (ks := [2, 3, 4, 5, 6, 8, 33, 34]) (by kernel_rfl) (by kernel_rfl) (by kernel_rfl) ?_
    refine GoO.exec (is := [2, 3, 4, 5, 6, 7, 8]) (hs := [.p, .p, .p, .p, .p, .p, .p]) (rest := []) (ks := [2, 3, 4, 5, 6, 8, 9, 10, 11]) (env' := [(2, .int .i64 ((some o_5, r_1_q1) : Option T_client_Client × Int).2), (3, .pointer (some ⟨b_11, 0, none⟩)), (4, .int .i64 r_6.2.1), (5, .pointer (some ⟨b_20, 0, none⟩)), (6, .bool r_13.2.1), (8, .bool r_13.2.2.2.1), (9, .int .u64 r_22.1), (10, .int .u64 r_22.2.1), (11, .bool r_22.2.2)]) (H' := [⟨43, b_21, [.int .i64 r_13.2.2.1.Kind, .int .i64 r_13.2.2.1.From, .int .i64 r_13.2.2.1.To, .int .u64 r_13.2.2.1.Term, .int .u64 r_13.2.2.1.Index, .int .u64 r_13.2.2.1.Prev, .int .u64 r_13.2.2.1.Commit, .bool r_13.2.2.1.Ok, .slice A_16 r_13.2.2.1.Entries.length c_17, .string (bs r_13.2.2.1.Data)]⟩, ⟨42, b_20, [.int .i64 r_13.1.Client, .int .i64 r_13.1.Command.Kind, .int .u64 r_13.1.Command.Session, .int .u64 r_13.1.Command.Seq, .int .u64 r_13.1.Command.Saga, .slice A_14 r_13.1.Command.Steps.length c_15, .int .i64 r_13.1.Command.Step, .bool r_13.1.Command.Back, .int .i64 r_13.1.Command.Try, .bool r_13.1.Command.Ok, .int .u64 r_13.1.Command.Now, .int .i64 r_13.1.Reply.Err, .int .u64 r_13.1.Reply.Num, .int .u64 r_13.1.Reply.Extra]⟩, ⟨40, c_2, [.int .i64 r_13.2.2.2.2.id, .int .u64 r_13.2.2.2.2.session, .int .u64 r_13.2.2.2.2.seq, .int .u64 r_13.2.2.2.2.call, .bool r_13.2.2.2.2.busy, .int .i64 r_13.2.2.2.2.now.Kind, .int .u64 r_13.2.2.2.2.now.Session, .int .u64 r_13.2.2.2.2.now.Seq, .int .u64 r_13.2.2.2.2.now.Saga, .slice A_18 r_13.2.2.2.2.now.Steps.length c_19, .int .i64 r_13.2.2.2.2.now.Step, .bool r_13.2.2.2.2.now.Back, .int .i64 r_13.2.2.2.2.now.Try, .bool r_13.2.2.2.2.now.Ok, .int .u64 r_13.2.2.2.2.now.Now, .string (bs r_13.2.2.2.2.data), .int .i64 r_13.2.2.2.2.to_]⟩, ⟨41, b_11, [.int .i64 r_6.1.Kind, .int .i64 r_6.1.From, .int .i64 r_6.1.To, .int .u64 r_6.1.Term, .int .u64 r_6.1.Index, .int .u64 r_6.1.Prev, .int .u64 r_6.1.Commit, .bool r_6.1.Ok, .slice A_7 r_6.1.Entries.length c_8, .string (bs r_6.1.Data)]⟩]) (ps := []) (by kernel_rfl) trivial ?_
    refine GoO.regionEnd ?_
    refine GoO.seq' c30_10e ?_
    refine GoO.region' (is := [0, 1, 2, 3, 4, 5, 6, 7, 8, 9, 10, 11, 12, 13, 14, 15, 16, 17, 18, 19, 20, 21, 22, 23, 24, 25, 26, 27, 28, 29, 30, 31, 32, 33, 34, 35, 36, 37, 38, 39, 40, 41]) c30_11e (by kernel_rfl) ?_
    refine GoO.exec (is := [0, 1, 2]) (hs := [.p, .p, .p]) (rest := [3, 4, 5, 6, 7, 8, 9, 10, 11, 12, 13, 14, 15, 16, 17, 18, 19, 20, 21, 22, 23, 24, 25, 26, 27, 28, 29, 30, 31, 32, 33, 34, 35, 36, 37, 38, 39, 40, 41]) (ks := [3, 4, 5, 6, 8, 9, 10, 11, 40]) (env' := [(3, .pointer (some ⟨b_11, 0, none⟩)), (4, .int .i64 r_6.2.1), (5, .pointer (some ⟨b_20, 0, none⟩)), (6, .bool r_13.2.1), (8, .bool r_13.2.2.2.1), (9, .int .u64 r_22.1), (10, .int .u64 r_22.2.1), (11, .bool r_22.2.2), (40, .bool (((some o_5, r_1_q1) : Option T_client_Client × Int).2 == 0))]) (H' := [⟨43, b_21, [.int .i64 r_13.2.2.1.Kind, .int .i64 r_13.2.2.1.From, .int .i64 r_13.2.2.1.To, .int .u64 r_13.2.2.1.Term, .int .u64 r_13.2.2.1.Index, .int .u64 r_13.2.2.1.Prev, .int .u64 r_13.2.2.1.Commit, .bool r_13.2.2.1.Ok, .slice A_16 r_13.2.2.1.Entries.length c_17, .string (bs r_13.2.2.1.Data)]⟩, ⟨42, b_20, [.int .i64 r_13.1.Client, .int .i64 r_13.1.Command.Kind, .int .u64 r_13.1.Command.Session, .int .u64 r_13.1.Command.Seq, .int .u64 r_13.1.Command.Saga, .slice A_14 r_13.1.Command.Steps.length c_15, .int .i64 r_13.1.Command.Step, .bool r_13.1.Command.Back, .int .i64 r_13.1.Command.Try, .bool r_13.1.Command.Ok, .int .u64 r_13.1.Command.Now, .int .i64 r_13.1.Reply.Err, .int .u64 r_13.1.Reply.Num, .int .u64 r_13.1.Reply.Extra]⟩, ⟨40, c_2, [.int .i64 r_13.2.2.2.2.id, .int .u64 r_13.2.2.2.2.session, .int .u64 r_13.2.2.2.2.seq, .int .u64 r_13.2.2.2.2.call, .bool r_13.2.2.2.2.busy, .int .i64 r_13.2.2.2.2.now.Kind, .int .u64 r_13.2.2.2.2.now.Session, .int .u64 r_13.2.2.2.2.now.Seq, .int .u64 r_13.2.2.2.2.now.Saga, .slice A_18 r_13.2.2.2.2.now.Steps.length c_19, .int .i64 r_13.2.2.2.2.now.Step, .bool r_13.2.2.2.2.now.Back, .int .i64 r_13.2.2.2.2.now.Try, .bool r_13.2.2.2.2.now.Ok, .int .u64 r_13.2.2.2.2.now.Now, .string (bs r_13.2.2.2.2.data), .int .i64 r_13.2.2.2.2.to_]⟩, ⟨41, b_11, [.int .i64 r_6.1.Kind, .int .i64 r_6.1.From, .int .i64 r_6.1.To, .int .u64 r_6.1.Term, .int .u64 r_6.1.Index, .int .u64 r_6.1.Prev, .int .u64 r_6.1.Commit, .bool r_6.1.Ok, .slice A_7 r_6.1.Entries.length c_8, .string (bs r_6.1.Data)]⟩]) (ps := []) (by kernel_rfl) trivial ?_
    refine GoO.bsplit (t := 40) (by kernel_rfl) (fun h23 => ?_) (fun h23 => ?_)
    · refine GoO.exec (is := [3, 4, 5]) (hs := [.p, .p, .p]) (rest := [6, 7, 8, 9, 10, 11, 12, 13, 14, 15, 16, 17, 18, 19, 20, 21, 22, 23, 24, 25, 26, 27, 28, 29, 30, 31, 32, 33, 34, 35, 36, 37, 38, 39, 40, 41]) (ks := [3, 5, 6, 8, 9, 10, 11, 43]) (env' := [(3, .pointer (some ⟨b_11, 0, none⟩)), (5, .pointer (some ⟨b_20, 0, none⟩)), (6, .bool r_13.2.1), (8, .bool r_13.2.2.2.1), (9, .int .u64 r_22.1), (10, .int .u64 r_22.2.1), (11, .bool r_22.2.2), (43, .bool (r_6.2.1 == 0))]) (H' := [⟨43, b_21, [.int .i64 r_13.2.2.1.Kind, .int .i64 r_13.2.2.1.From, .int .i64 r_13.2.2.1.To, .int .u64 r_13.2.2.1.Term, .int .u64 r_13.2.2.1.Index, .int .u64 r_13.2.2.1.Prev, .int .u64 r_13.2.2.1.Commit, .bool r_13.2.2.1.Ok, .slice A_16 r_13.2.2.1.Entries.length c_17, .string (bs r_13.2.2.1.Data)]⟩, ⟨42, b_20, [.int .i64 r_13.1.Client, .int .i64 r_13.1.Command.Kind, .int .u64 r_13.1.Command.Session, .int .u64 r_13.1.Command.Seq, .int .u64 r_13.1.Command.Saga, .slice A_14 r_13.1.Command.Steps.length c_15, .int .i64 r_13.1.Command.Step, .bool r_13.1.Command.Back, .int .i64 r_13.1.Command.Try, .bool r_13.1.Command.Ok, .int .u64 r_13.1.Command.Now, .int .i64 r_13.1.Reply.Err, .int .u64 r_13.1.Reply.Num, .int .u64 r_13.1.Reply.Extra]⟩, ⟨40, c_2, [.int .i64 r_13.2.2.2.2.id, .int .u64 r_13.2.2.2.2.session, .int .u64 r_13.2.2.2.2.seq, .int .u64 r_13.2.2.2.2.call, .bool r_13.2.2.2.2.busy, .int .i64 r_13.2.2.2.2.now.Kind, .int .u64 r_13.2.2.2.2.now.Session, .int .u64 r_13.2.2.2.2.now.Seq, .int .u64 r_13.2.2.2.2.now.Saga, .slice A_18 r_13.2.2.2.2.now.Steps.length c_19, .int .i64 r_13.2.2.2.2.now.Step, .bool r_13.2.2.2.2.now.Back, .int .i64 r_13.2.2.2.2.now.Try, .bool r_13.2.2.2.2.now.Ok, .int .u64 r_13.2.2.2.2.now.Now, .string (bs r_13.2.2.2.2.data), .int .i64 r_13.2.2.2.2.to_]⟩, ⟨41, b_11, [.int .i64 r_6.1.Kind, .int .i64 r_6.1.From, .int .i64 r_6.1.To, .int .u64 r_6.1.Term, .int .u64 r_6.1.Index, .int .u64 r_6.1.Prev, .int .u64 r_6.1.Commit, .bool r_6.1.Ok, .slice A_7 r_6.1.Entries.length c_8, .string (bs r_6.1.Data)]⟩]) (ps := []) (by kernel_rfl) trivial ?_
      exact GoO.sub (ks := [3, 5, 6, 8, 9, 10, 11, 43]) (hk := [3, 1]) (bk := [4, 0]) (by kernel_rfl) (by kernel_rfl) (by kernel_rfl) (tontinelaw21_begun_j0_ok n r_6 r_13 r_22 A_7 c_8 b_11 A_14 c_15 b_20 w0 S0 (r_6.2.1 == 0))
    · refine GoO.exec (is := [3, 4, 5]) (hs := [.p, .p, .p]) (rest := [6, 7, 8, 9, 10, 11, 12, 13, 14, 15, 16, 17, 18, 19, 20, 21, 22, 23, 24, 25, 26, 27, 28, 29, 30, 31, 32, 33, 34, 35, 36, 37, 38, 39, 40, 41]) (ks := [3, 5, 6, 8, 9, 10, 11, 43]) (env' := [(3, .pointer (some ⟨b_11, 0, none⟩)), (5, .pointer (some ⟨b_20, 0, none⟩)), (6, .bool r_13.2.1), (8, .bool r_13.2.2.2.1), (9, .int .u64 r_22.1), (10, .int .u64 r_22.2.1), (11, .bool r_22.2.2), (43, .bool false)]) (H' := [⟨43, b_21, [.int .i64 r_13.2.2.1.Kind, .int .i64 r_13.2.2.1.From, .int .i64 r_13.2.2.1.To, .int .u64 r_13.2.2.1.Term, .int .u64 r_13.2.2.1.Index, .int .u64 r_13.2.2.1.Prev, .int .u64 r_13.2.2.1.Commit, .bool r_13.2.2.1.Ok, .slice A_16 r_13.2.2.1.Entries.length c_17, .string (bs r_13.2.2.1.Data)]⟩, ⟨42, b_20, [.int .i64 r_13.1.Client, .int .i64 r_13.1.Command.Kind, .int .u64 r_13.1.Command.Session, .int .u64 r_13.1.Command.Seq, .int .u64 r_13.1.Command.Saga, .slice A_14 r_13.1.Command.Steps.length c_15, .int .i64 r_13.1.Command.Step, .bool r_13.1.Command.Back, .int .i64 r_13.1.Command.Try, .bool r_13.1.Command.Ok, .int .u64 r_13.1.Command.Now, .int .i64 r_13.1.Reply.Err, .int .u64 r_13.1.Reply.Num, .int .u64 r_13.1.Reply.Extra]⟩, ⟨40, c_2, [.int .i64 r_13.2.2.2.2.id, .int .u64 r_13.2.2.2.2.session, .int .u64 r_13.2.2.2.2.seq, .int .u64 r_13.2.2.2.2.call, .bool r_13.2.2.2.2.busy, .int .i64 r_13.2.2.2.2.now.Kind, .int .u64 r_13.2.2.2.2.now.Session, .int .u64 r_13.2.2.2.2.now.Seq, .int .u64 r_13.2.2.2.2.now.Saga, .slice A_18 r_13.2.2.2.2.now.Steps.length c_19, .int .i64 r_13.2.2.2.2.now.Step, .bool r_13.2.2.2.2.now.Back, .int .i64 r_13.2.2.2.2.now.Try, .bool r_13.2.2.2.2.now.Ok, .int .u64 r_13.2.2.2.2.now.Now, .string (bs r_13.2.2.2.2.data), .int .i64 r_13.2.2.2.2.to_]⟩, ⟨41, b_11, [.int .i64 r_6.1.Kind, .int .i64 r_6.1.From, .int .i64 r_6.1.To, .int .u64 r_6.1.Term, .int .u64 r_6.1.Index, .int .u64 r_6.1.Prev, .int .u64 r_6.1.Commit, .bool r_6.1.Ok, .slice A_7 r_6.1.Entries.length c_8, .string (bs r_6.1.Data)]⟩]) (ps := []) (by kernel_rfl) trivial ?_
      exact GoO.sub (ks := [3, 5, 6, 8, 9, 10, 11, 43]) (hk := [3, 1]) (bk := [4, 0]) (by kernel_rfl) (by kernel_rfl) (by kernel_rfl) (tontinelaw21_begun_j0_ok n r_6 r_13 r_22 A_7 c_8 b_11 A_14 c_15 b_20 w0 S0 false)

/-! tontine/tontinelaw21.ClientGives$1 -/
noncomputable def c34_0 : Code := bodyOf Try.f34
noncomputable def c34_1 : Code := cdL c34_0
noncomputable def c34_2 : Code := cdR c34_0
noncomputable def c34_3 : Code := cdL c34_2
noncomputable def c34_4 : Code := cdR c34_2
noncomputable def r34_1 : Array Oper := cdO c34_1
noncomputable def r34_3 : Array Oper := cdO c34_3
theorem c34_0e : c34_0 = .seq c34_1 c34_2 := by kernel_rfl
theorem c34_1e : c34_1 = .region 0 r34_1 false := by kernel_rfl
theorem c34_2e : c34_2 = .seq c34_3 c34_4 := by kernel_rfl
theorem c34_3e : c34_3 = .region 1 r34_3 true := by kernel_rfl
theorem c34_4e : c34_4 = .ret := by kernel_rfl
noncomputable def tontinelaw21_ClientGives_1.R (b_4 : Nat) : Pst T_api_Letter where
  ε := Option Addr × Nat
  v := fun r x => .agg ⟨[.int .i64 r.Kind, .int .i64 r.From, .int .i64 r.To, .int .u64 r.Term, .int .u64 r.Index, .int .u64 r.Prev, .int .u64 r.Commit, .bool r.Ok, .slice x.1 r.Entries.length x.2, .string (bs r.Data)]⟩
  H := fun r x => []
  B := fun r x => [Rd 0 kT_api_Entry x.1 x.2 r.Entries]
noncomputable def tontinelaw21_ClientGives_1.cx (b_4 : Nat) (w0 : World) (S0 : Fam) : Cx T_api_Letter := ⟨Try.prog, 34, Try.f34, 11, w0, S0, [], 1, tontinelaw21_ClientGives_1.R b_4⟩
theorem tontinelaw21_ClientGives_1_ok (n : Nat) (index_1 : Int) (y_2 : T_api_Reply) (a_3 : Int) (b_4 : Nat) :
    Meets Try.prog 34 [.int .u64 index_1, .agg ⟨[.int .i64 y_2.Err, .int .u64 y_2.Num, .int .u64 y_2.Extra]⟩, .pointer (some ⟨b_4, 0, none⟩)] 1 [] [⟨1, b_4, [.int .i64 a_3]⟩] [] (tontinelaw21_ClientGives_1.f n index_1 y_2 a_3) (tontinelaw21_ClientGives_1.R b_4) := by
  refine Meets.of (c := c34_0) (n := 11) Try.func34 (by kernel_rfl) (by kernel_rfl) (by kernel_rfl) fun w0 S0 => ?_
  unfold tontinelaw21_ClientGives_1.f
  show GoO (tontinelaw21_ClientGives_1.cx b_4 w0 S0) [(0, .int .u64 index_1), (1, .agg ⟨[.int .i64 y_2.Err, .int .u64 y_2.Num, .int .u64 y_2.Extra]⟩), (2, .pointer (some ⟨b_4, 0, none⟩))] [⟨1, b_4, [.int .i64 a_3]⟩] [] [.code c34_0] _
  refine GoO.seq' c34_0e ?_
  refine GoO.region' (is := [0, 1]) c34_1e (by kernel_rfl) ?_
  refine OpTo.go (GoO.new rfl 40 (cs := [.int .i64 y_2.Err, .int .u64 y_2.Num, .int .u64 y_2.Extra]) (by kernel_rfl) _ (fun _ => rfl) (fun b_5 => ?_))
  refine OpTo.go (GoO.new rfl 41 (cs := [.int .i64 0, .int .i64 0, .int .i64 0, .int .u64 0, .int .u64 0, .int .u64 0, .int .u64 0, .bool false, .slice none ([] : List T_api_Entry).length 0, .string (bs [])]) (by kernel_rfl) _ (fun _ => rfl) (fun b_6 => ?_))
  refine GoO.regionEnd ?_
  refine GoO.seq' c34_2e ?_
  refine GoO.draw c34_3e (by kernel_rfl) [5] [⟨40, b_5, [.int .i64 y_2.Err, .int .u64 y_2.Num, .int .u64 y_2.Extra]⟩, ⟨1, b_4, [.int .i64 a_3]⟩] [] (n := 6) (by kernel_rfl) ?_
  simp only [List.replicate]
  refine GoF.take [0, 1, 2] [.b 1, .p, .b 0] (ks := [5, 6, 7, 8]) (fu := 3) (li := [true, true, true, false, false, false]) (env' := [(5, .pointer (some ⟨b_6, 0, none⟩)), (6, .int .i64 a_3), (7, .int .u64 index_1), (8, .agg ⟨[.int .i64 y_2.Err, .int .u64 y_2.Num, .int .u64 y_2.Extra]⟩)]) (ps := [b_4 = b_4, b_5 = b_5]) (hk := [1, 2]) (bk := []) (by kernel_rfl) (And.intro rfl (And.intro rfl trivial)) rfl rfl ?_
  refine OpTo.goF (i := 3) (by kernel_rfl) (hk := [1, 2]) (bk := []) (GoO.call rfl (by kernel_rfl) (by kernel_rfl) (tontineref16_Answer_ok n y_2) [[0]] [] [] [] (hks := [0, 1, 2]) (bks := []) (by kernel_rfl) (by kernel_rfl) (by kernel_rfl) (.inl rfl) rfl rfl (by kernel_rfl) (by kernel_rfl) _ (fun _ _ => rfl) _ _ (fun _ _ => rfl) (fun _ _ => rfl) (fun _ _ => by kernel_rfl) (fun _ _ => by kernel_rfl) (fun r_7 x_8 => ⟨rfl, rfl, ?_⟩))
  refine GoF.shape (env' := [(5, .pointer (some ⟨b_6, 0, none⟩)), (6, .int .i64 a_3), (7, .int .u64 index_1), (8, .agg ⟨[.int .i64 y_2.Err, .int .u64 y_2.Num, .int .u64 y_2.Extra]⟩), (9, .string (bs r_7))]) (H' := [⟨41, b_6, [.int .i64 0, .int .i64 0, .int .i64 0, .int .u64 0, .int .u64 0, .int .u64 0, .int .u64 0, .bool false, .slice none ([] : List T_api_Entry).length 0, .string (bs [])]⟩, ⟨40, b_5, [.int .i64 y_2.Err, .int .u64 y_2.Num, .int .u64 y_2.Extra]⟩, ⟨1, b_4, [.int .i64 a_3]⟩]) (B' := []) (ks := [5, 6, 7, 8, 9]) (by kernel_rfl) (by kernel_rfl) (by kernel_rfl) ?_
  refine GoF.take [4] [.p] (ks := [5, 10]) (fu := 1) (li := [true, true, true, true, true, false]) (env' := [(5, .pointer (some ⟨b_6, 0, none⟩)), (10, .agg ⟨[.int .i64 9, .int .i64 0, .int .i64 a_3, .int .u64 0, .int .u64 index_1, .int .u64 0, .int .u64 0, .bool false, .slice none ([] : List T_api_Entry).length 0, .string (bs r_7)]⟩)]) (ps := []) (hk := [1, 2]) (bk := []) (by kernel_rfl) trivial rfl rfl ?_
  refine GoF.fin1 (i := 5) (hint := .b 0) (ps := [b_6 = b_6]) (hk := []) (bk := []) (by kernel_rfl) rfl (And.intro rfl trivial) (.inl rfl) ?_
  refine GoF.done (by kernel_rfl) ?_
  refine GoO.nilRd kT_api_Entry ?_
  exact GoO.ret' (h := c34_4e) (hs := [0]) (ps := [b_6 = b_6]) (hk := []) (bk := [0]) Try.func34 (⟨none, 0⟩ : Option Addr × Nat) (by kernel_rfl) (And.intro rfl trivial) (by kernel_rfl) (by kernel_rfl)

/-! (*tontine/tontineref03.Reader).Fail -/
noncomputable def c89_0 : Code := bodyOf Try.f89
noncomputable def c89_1 : Code := cdL c89_0
noncomputable def c89_2 : Code := cdR c89_0
noncomputable def r89_1 : Array Oper := cdO c89_1
noncomputable def r89_2 : Array Oper := cdO c89_2
theorem c89_0e : c89_0 = .seq c89_1 c89_2 := by kernel_rfl
theorem c89_1e : c89_1 = .region 0 r89_1 false := by kernel_rfl
theorem c89_2e : c89_2 = .region 1 r89_2 false := by kernel_rfl
noncomputable def tontineref03_Reader_Fail.R (b_2 : Nat) : Pst T_tontineref03_Reader where
  ε := Unit
  v := fun r x => .tuple ⟨[]⟩
  H := fun r x => [⟨1, b_2, [.string (bs r.S_), .bool r.Bad]⟩]
  B := fun r x => []
noncomputable def tontineref03_Reader_Fail.cx (b_2 : Nat) (w0 : World) (S0 : Fam) : Cx T_tontineref03_Reader := ⟨Try.prog, 89, Try.f89, 8, w0, S0, [1], 1, tontineref03_Reader_Fail.R b_2⟩
theorem tontineref03_Reader_Fail_ok (n : Nat) (r_1 : T_tontineref03_Reader) (b_2 : Nat) :
    Meets Try.prog 89 [.pointer (some ⟨b_2, 0, none⟩)] 1 [1] [⟨1, b_2, [.string (bs r_1.S_), .bool r_1.Bad]⟩] [] (tontineref03_Reader_Fail.f n r_1) (tontineref03_Reader_Fail.R b_2) := by
  refine Meets.of (c := c89_0) (n := 8) Try.func89 (by kernel_rfl) (by kernel_rfl) (by kernel_rfl) fun w0 S0 => ?_
  unfold tontineref03_Reader_Fail.f
  show GoO (tontineref03_Reader_Fail.cx b_2 w0 S0) [(0, .pointer (some ⟨b_2, 0, none⟩))] [⟨1, b_2, [.string (bs r_1.S_), .bool r_1.Bad]⟩] [] [.code c89_0] _
  refine GoO.seq' c89_0e ?_
  refine GoO.region' (is := [0, 1, 2, 3]) c89_1e (by kernel_rfl) ?_
  refine GoO.exec (is := [0, 1, 2, 3]) (hs := [.p, .p, .p, .b 0]) (rest := []) (ks := [0]) (env' := [(0, .pointer (some ⟨b_2, 0, none⟩))]) (H' := [⟨1, b_2, [.string (bs []), .bool r_1.Bad]⟩]) (ps := [b_2 = b_2]) (by kernel_rfl) (And.intro rfl trivial) ?_
  refine GoO.regionEnd ?_
  refine GoO.region' (is := [0, 1, 2, 3]) c89_2e (by kernel_rfl) ?_
  refine GoO.exec (is := [0, 1, 2, 3]) (hs := [.p, .p, .p, .b 0]) (rest := []) (ks := []) (env' := []) (H' := [⟨1, b_2, [.string (bs []), .bool true]⟩]) (ps := [b_2 = b_2]) (by kernel_rfl) (And.intro rfl trivial) ?_
  refine GoO.regionEnd ?_
  exact GoO.fin (hs := []) (ps := []) (hk := [0]) (bk := []) Try.func89 () (by kernel_rfl) trivial (by kernel_rfl) (by kernel_rfl)

/-! (*tontine/tontineref03.Reader).Num -/
noncomputable def c72_0 : Code := bodyOf Try.f72
noncomputable def c72_1 : Code := cdL c72_0
noncomputable def c72_2 : Code := cdR c72_0
noncomputable def c72_3 : Code := cdL c72_2
noncomputable def c72_4 : Code := cdR c72_2
noncomputable def c72_5 : Code := cdL c72_4
noncomputable def c72_6 : Code := cdL c72_5
noncomputable def c72_7 : Code := cdR c72_5
noncomputable def c72_8 : Code := cdL c72_7
noncomputable def c72_9 : Code := cdR c72_7
noncomputable def c72_10 : Code := cdR c72_4
noncomputable def c72_11 : Code := cdL c72_10
noncomputable def c72_12 : Code := cdL c72_11
noncomputable def c72_13 : Code := cdR c72_11
noncomputable def c72_14 : Code := cdL c72_13
noncomputable def c72_15 : Code := cdL c72_14
noncomputable def c72_16 : Code := cdR c72_14
noncomputable def c72_17 : Code := cdL c72_16
noncomputable def c72_18 : Code := cdR c72_16
noncomputable def c72_19 : Code := cdR c72_13
noncomputable def c72_20 : Code := cdR c72_10
noncomputable def c72_21 : Code := cdL c72_20
noncomputable def c72_22 : Code := cdR c72_20
noncomputable def c72_23 : Code := cdL c72_22
noncomputable def c72_24 : Code := cdL c72_23
noncomputable def c72_25 : Code := cdR c72_23
noncomputable def c72_26 : Code := cdL c72_25
noncomputable def c72_27 : Code := cdL c72_26
noncomputable def c72_28 : Code := cdL c72_27
noncomputable def c72_29 : Code := cdL c72_28
noncomputable def c72_30 : Code := cdR c72_28
noncomputable def c72_31 : Code := cdL c72_30
noncomputable def c72_32 : Code := cdR c72_30
noncomputable def c72_33 : Code := cdR c72_27
noncomputable def c72_34 : Code := cdL c72_33
noncomputable def c72_35 : Code := cdL c72_34
noncomputable def c72_36 : Code := cdR c72_33
noncomputable def c72_37 : Code := cdR c72_22
noncomputable def c72_38 : Code := cdL c72_37
noncomputable def c72_39 : Code := cdR c72_37
noncomputable def c72_40 : Code := cdL c72_39
noncomputable def c72_41 : Code := cdR c72_39
noncomputable def r72_1 : Array Oper := cdO c72_1
noncomputable def r72_3 : Array Oper := cdO c72_3
noncomputable def r72_6 : Array Oper := cdO c72_6
noncomputable def r72_8 : Array Oper := cdO c72_8
noncomputable def r72_12 : Array Oper := cdO c72_12
noncomputable def r72_15 : Array Oper := cdO c72_15
noncomputable def r72_17 : Array Oper := cdO c72_17
noncomputable def r72_21 : Array Oper := cdO c72_21
noncomputable def r72_24 : Array Oper := cdO c72_24
noncomputable def r72_29 : Array Oper := cdO c72_29
noncomputable def r72_35 : Array Oper := cdO c72_35
noncomputable def r72_36 : Array Oper := cdO c72_36
noncomputable def r72_38 : Array Oper := cdO c72_38
noncomputable def r72_40 : Array Oper := cdO c72_40
theorem c72_0e : c72_0 = .seq c72_1 c72_2 := by kernel_rfl
theorem c72_1e : c72_1 = .region 0 r72_1 false := by kernel_rfl
theorem c72_2e : c72_2 = .seq c72_3 c72_4 := by kernel_rfl
theorem c72_3e : c72_3 = .region 1 r72_3 false := by kernel_rfl
theorem c72_4e : c72_4 = .seq c72_5 c72_10 := by kernel_rfl
theorem c72_5e : c72_5 = .seq c72_6 c72_7 := by kernel_rfl
theorem c72_6e : c72_6 = .region 2 r72_6 false := by kernel_rfl
theorem c72_7e : c72_7 = .cond (cdC c72_7) c72_8 c72_9 := by kernel_rfl
theorem c72_8e : c72_8 = .region 3 r72_8 false := by kernel_rfl
theorem c72_9e : c72_9 = .skip := by kernel_rfl
theorem c72_10e : c72_10 = .seq c72_11 c72_20 := by kernel_rfl
theorem c72_11e : c72_11 = .seq c72_12 c72_13 := by kernel_rfl
theorem c72_12e : c72_12 = .region 4 r72_12 false := by kernel_rfl
theorem c72_13e : c72_13 = .cond (cdC c72_13) c72_14 c72_19 := by kernel_rfl
theorem c72_14e : c72_14 = .seq c72_15 c72_16 := by kernel_rfl
theorem c72_15e : c72_15 = .region 5 r72_15 false := by kernel_rfl
theorem c72_16e : c72_16 = .seq c72_17 c72_18 := by kernel_rfl
theorem c72_17e : c72_17 = .region 6 r72_17 false := by kernel_rfl
theorem c72_18e : c72_18 = .ret := by kernel_rfl
theorem c72_19e : c72_19 = .skip := by kernel_rfl
theorem c72_20e : c72_20 = .seq c72_21 c72_22 := by kernel_rfl
theorem c72_21e : c72_21 = .region 7 r72_21 false := by kernel_rfl
theorem c72_22e : c72_22 = .seq c72_23 c72_37 := by kernel_rfl
theorem c72_23e : c72_23 = .seq c72_24 c72_25 := by kernel_rfl
theorem c72_24e : c72_24 = .region 8 r72_24 false := by kernel_rfl
theorem c72_25e : c72_25 = .block 0 c72_26 := by kernel_rfl
theorem c72_26e : c72_26 = .loop c72_27 := by kernel_rfl
theorem c72_27e : c72_27 = .seq c72_28 c72_33 := by kernel_rfl
theorem c72_28e : c72_28 = .seq c72_29 c72_30 := by kernel_rfl
theorem c72_29e : c72_29 = .region 9 r72_29 false := by kernel_rfl
theorem c72_30e : c72_30 = .cond (cdC c72_30) c72_31 c72_32 := by kernel_rfl
theorem c72_31e : c72_31 = .skip := by kernel_rfl
theorem c72_32e : c72_32 = .exit 0 := by kernel_rfl
theorem c72_33e : c72_33 = .seq c72_34 c72_36 := by kernel_rfl
theorem c72_34e : c72_34 = .block 1 c72_35 := by kernel_rfl
theorem c72_35e : c72_35 = .region 11 r72_35 false := by kernel_rfl
theorem c72_36e : c72_36 = .region 10 r72_36 false := by kernel_rfl
theorem c72_37e : c72_37 = .seq c72_38 c72_39 := by kernel_rfl
theorem c72_38e : c72_38 = .region 12 r72_38 false := by kernel_rfl
theorem c72_39e : c72_39 = .seq c72_40 c72_41 := by kernel_rfl
theorem c72_40e : c72_40 = .region 13 r72_40 false := by kernel_rfl
theorem c72_41e : c72_41 = .ret := by kernel_rfl
noncomputable def tontineref03_Reader_Num.R (b_2 : Nat) : Pst (Int × T_tontineref03_Reader) where
  ε := Unit
  v := fun r x => .int .u64 r.1
  H := fun r x => [⟨1, b_2, [.string (bs r.2.S_), .bool r.2.Bad]⟩]
  B := fun r x => []
noncomputable def tontineref03_Reader_Num.cx (b_2 : Nat) (w0 : World) (S0 : Fam) : Cx (Int × T_tontineref03_Reader) := ⟨Try.prog, 72, Try.f72, 74, w0, S0, [1], 1, tontineref03_Reader_Num.R b_2⟩
theorem tontineref03_Reader_Num_l0_ok (n : Nat) (r_1 : T_tontineref03_Reader) (n_5 : Int) (b_2 : Nat) (w0 : World) (S0 : Fam) :
    ∀ (k : Nat) (x_15 : Int) (i_16 : Int), GoO (tontineref03_Reader_Num.cx b_2 w0 S0) [(0, .pointer (some ⟨b_2, 0, none⟩)), (3, .int .i64 n_5), (4, .int .u64 x_15), (5, .int .i64 i_16)] [⟨1, b_2, [.string (bs r_1.S_), .bool r_1.Bad]⟩] [] [.code c72_27, .inLoop c72_27, .inBlock 0, .code c72_37] (tontineref03_Reader_Num.l0 n r_1 n_5 k x_15 i_16) := by
  intro k
  induction k with
  | zero => intros; rw [tontineref03_Reader_Num.l0.eq_1]; exact GoO.stop
  | succ k ih0 =>
    intro x_15 i_16
    rw [tontineref03_Reader_Num.l0.eq_2]
    refine GoO.seq' c72_27e ?_
    refine GoO.seq' c72_28e ?_
    refine GoO.region' (is := [0, 1, 2]) c72_29e (by kernel_rfl) ?_
    refine GoO.exec (is := [0, 1, 2]) (hs := [.p, .p, .p]) (rest := []) (ks := [0, 3, 4, 5, 50]) (env' := [(0, .pointer (some ⟨b_2, 0, none⟩)), (3, .int .i64 n_5), (4, .int .u64 x_15), (5, .int .i64 i_16), (50, .bool (decide (i_16 ≤ n_5)))]) (H' := [⟨1, b_2, [.string (bs r_1.S_), .bool r_1.Bad]⟩]) (ps := []) (by kernel_rfl) trivial ?_
    refine GoO.regionEnd ?_
    refine GoO.ite' c72_30e (by kernel_rfl) (fun h17 => ?_) (fun h17 => ?_)
    · refine GoO.skip' c72_31e ?_
      refine GoO.seq' c72_33e ?_
      refine GoO.block' c72_34e ?_
      refine GoO.region' (is := [0, 1, 2, 3, 4, 5, 6, 7, 8, 9, 10]) c72_35e (by kernel_rfl) ?_
      refine GoO.guard (fun h18 => ?_)
      refine GoO.exec (is := [0, 1, 2, 3, 4, 5, 6, 7, 8, 9, 10]) (hs := [.p, .p, .p, .p, .p, .b 0, .p, .p, .p, .p, .p]) (rest := []) (ks := [0, 3, 4, 5]) (env' := [(0, .pointer (some ⟨b_2, 0, none⟩)), (3, .int .i64 n_5), (4, .int .u64 (wu64 ((wu64 (256 * x_15)) + (wu64 ((rdB r_1.S_ i_16).toNat : Int))))), (5, .int .i64 i_16)]) (H' := [⟨1, b_2, [.string (bs r_1.S_), .bool r_1.Bad]⟩]) (ps := [b_2 = b_2, (0 : Int) ≤ i_16, i_16 < (r_1.S_.length : Int)]) (by kernel_rfl) (And.intro rfl (And.intro h18.1 (And.intro h18.2 trivial))) ?_
      refine GoO.regionEnd ?_
      refine GoO.inBlock ?_
      refine GoO.region' (is := [0, 1, 2]) c72_36e (by kernel_rfl) ?_
      refine GoO.exec (is := [0, 1, 2]) (hs := [.p, .p, .p]) (rest := []) (ks := [0, 3, 4, 5]) (env' := [(0, .pointer (some ⟨b_2, 0, none⟩)), (3, .int .i64 n_5), (4, .int .u64 (wu64 ((wu64 (256 * x_15)) + (wu64 ((rdB r_1.S_ i_16).toNat : Int))))), (5, .int .i64 (wi64 (i_16 + 1)))]) (H' := [⟨1, b_2, [.string (bs r_1.S_), .bool r_1.Bad]⟩]) (ps := []) (by kernel_rfl) trivial ?_
      refine GoO.regionEnd ?_
      refine GoO.inLoop ?_
      exact GoO.sub (ks := [0, 3, 4, 5]) (hk := [0]) (bk := []) (by kernel_rfl) (by kernel_rfl) (by kernel_rfl) (ih0 (wu64 ((wu64 (256 * x_15)) + (wu64 ((rdB r_1.S_ i_16).toNat : Int)))) (wi64 (i_16 + 1)))
    · refine GoO.exit' c72_32e rfl ?_
      refine GoO.seq' c72_37e ?_
      refine GoO.region' (is := [0, 1, 2, 3, 4, 5, 6, 7, 8, 9, 10]) c72_38e (by kernel_rfl) ?_
      refine GoO.guard (fun h19 => ?_)
      refine GoO.exec (is := [0, 1, 2, 3, 4, 5, 6, 7, 8, 9, 10]) (hs := [.p, .p, .p, .p, .b 0, .p, .p, .p, .p, .p, .b 0]) (rest := []) (ks := [4]) (env' := [(4, .int .u64 x_15)]) (H' := [⟨1, b_2, [.string (bs (r_1.S_.drop (wi64 (n_5 + 1)).toNat)), .bool r_1.Bad]⟩]) (ps := [b_2 = b_2, (0 : Int) ≤ (wi64 (n_5 + 1)), (wi64 (n_5 + 1)) ≤ (r_1.S_.length : Int), b_2 = b_2]) (by kernel_rfl) (And.intro rfl (And.intro h19.1 (And.intro h19.2 (And.intro rfl trivial)))) ?_
      refine GoO.regionEnd ?_
      refine GoO.seq' c72_39e ?_
      refine GoO.region' (is := [0, 1]) c72_40e (by kernel_rfl) ?_
      refine GoO.exec (is := [0, 1]) (hs := [.p, .p]) (rest := []) (ks := [2]) (env' := [(2, .int .u64 x_15)]) (H' := [⟨1, b_2, [.string (bs (r_1.S_.drop (wi64 (n_5 + 1)).toNat)), .bool r_1.Bad]⟩]) (ps := []) (by kernel_rfl) trivial ?_
      refine GoO.regionEnd ?_
      exact GoO.ret' (h := c72_41e) (hs := []) (ps := []) (hk := [0]) (bk := []) Try.func72 () (by kernel_rfl) trivial (by kernel_rfl) (by kernel_rfl)
theorem tontineref03_Reader_Num_j1_ok (n : Nat) (r_1 : T_tontineref03_Reader) (n_5 : Int) (b_2 : Nat) (w0 : World) (S0 : Fam) (b_11 : Bool) :
    GoO (tontineref03_Reader_Num.cx b_2 w0 S0) [(0, .pointer (some ⟨b_2, 0, none⟩)), (3, .int .i64 n_5), (45, .bool b_11)] [⟨1, b_2, [.string (bs r_1.S_), .bool r_1.Bad]⟩] [] [.code c72_13, .code c72_20] (tontineref03_Reader_Num.j1 n r_1 n_5 b_11) := by
  unfold tontineref03_Reader_Num.j1
  refine GoO.ite' c72_13e (by kernel_rfl) (fun h12 => ?_) (fun h12 => ?_)
  · refine GoO.seq' c72_14e ?_
    refine GoO.region' (is := [0, 1]) c72_15e (by kernel_rfl) ?_
    refine GoO.exec (is := [0]) (hs := [.p]) (rest := [1]) (ks := [46]) (env' := [(46, .pointer (some ⟨b_2, 0, none⟩))]) (H' := [⟨1, b_2, [.string (bs r_1.S_), .bool r_1.Bad]⟩]) (ps := []) (by kernel_rfl) trivial ?_
    refine OpTo.go (GoO.call rfl (by kernel_rfl) (by kernel_rfl) (tontineref03_Reader_Fail_ok n r_1 b_2) [[0], [1]] [(1, 1)] [(1, 0)] [] (hks := []) (bks := []) (by kernel_rfl) (by kernel_rfl) (by kernel_rfl) (.inl rfl) rfl rfl (by kernel_rfl) (by kernel_rfl) _ (fun _ _ => rfl) _ _ (fun _ _ => rfl) (fun _ _ => rfl) (fun _ _ => by kernel_rfl) (fun _ _ => by kernel_rfl) (fun r_13 x_14 => ?_))
    refine GoO.shape (env' := [(46, .pointer (some ⟨b_2, 0, none⟩)), (47, .tuple ⟨[]⟩)]) (H' := [⟨1, b_2, [.string (bs r_13.S_), .bool r_13.Bad]⟩]) (B' := []) (ks := [46, 47]) (by kernel_rfl) (by kernel_rfl) (by kernel_rfl) ?_
    refine GoO.regionEnd ?_
    refine GoO.seq' c72_16e ?_
    refine GoO.region' (is := [0]) c72_17e (by kernel_rfl) ?_
    refine GoO.exec (is := [0]) (hs := [.p]) (rest := []) (ks := [2]) (env' := [(2, .int .u64 0)]) (H' := [⟨1, b_2, [.string (bs r_13.S_), .bool r_13.Bad]⟩]) (ps := []) (by kernel_rfl) trivial ?_
    refine GoO.regionEnd ?_
    exact GoO.ret' (h := c72_18e) (hs := []) (ps := []) (hk := [0]) (bk := []) Try.func72 () (by kernel_rfl) trivial (by kernel_rfl) (by kernel_rfl)
  · refine GoO.skip' c72_19e ?_
    refine GoO.seq' c72_20e ?_
    refine GoO.region' (is := [0]) c72_21e (by kernel_rfl) ?_
    refine GoO.exec (is := [0]) (hs := [.p]) (rest := []) (ks := [0, 3, 4]) (env' := [(0, .pointer (some ⟨b_2, 0, none⟩)), (3, .int .i64 n_5), (4, .int .u64 0)]) (H' := [⟨1, b_2, [.string (bs r_1.S_), .bool r_1.Bad]⟩]) (ps := []) (by kernel_rfl) trivial ?_
    refine GoO.regionEnd ?_
    refine GoO.seq' c72_22e ?_
    refine GoO.seq' c72_23e ?_
    refine GoO.region' (is := [0]) c72_24e (by kernel_rfl) ?_
    refine GoO.exec (is := [0]) (hs := [.p]) (rest := []) (ks := [0, 3, 4, 5]) (env' := [(0, .pointer (some ⟨b_2, 0, none⟩)), (3, .int .i64 n_5), (4, .int .u64 0), (5, .int .i64 1)]) (H' := [⟨1, b_2, [.string (bs r_1.S_), .bool r_1.Bad]⟩]) (ps := []) (by kernel_rfl) trivial ?_
    refine GoO.regionEnd ?_
    refine GoO.block' c72_25e ?_
    refine GoO.loop' c72_26e ?_
    exact GoO.sub (ks := [0, 3, 4, 5]) (hk := [0]) (bk := []) (by kernel_rfl) (by kernel_rfl) (by kernel_rfl) (tontineref03_Reader_Num_l0_ok n r_1 n_5 b_2 w0 S0 n 0 1)
theorem tontineref03_Reader_Num_j0_ok (n : Nat) (r_1 : T_tontineref03_Reader) (b_2 : Nat) (w0 : World) (S0 : Fam) (n_5 : Int) :
    GoO (tontineref03_Reader_Num.cx b_2 w0 S0) [(0, .pointer (some ⟨b_2, 0, none⟩)), (3, .int .i64 n_5)] [⟨1, b_2, [.string (bs r_1.S_), .bool r_1.Bad]⟩] [] [.code c72_10] (tontineref03_Reader_Num.j0 n r_1 n_5) := by
  unfold tontineref03_Reader_Num.j0
  refine GoO.seq' c72_10e ?_
  refine GoO.seq' c72_11e ?_
  refine GoO.region' (is := [0, 1, 2, 3, 4, 5, 6, 7, 8, 9, 10, 11, 12, 13, 14, 15, 16, 17, 18, 19, 20, 21, 22, 23, 24, 25, 26, 27]) c72_12e (by kernel_rfl) ?_
  refine GoO.exec (is := [0, 1, 2]) (hs := [.p, .p, .p]) (rest := [3, 4, 5, 6, 7, 8, 9, 10, 11, 12, 13, 14, 15, 16, 17, 18, 19, 20, 21, 22, 23, 24, 25, 26, 27]) (ks := [0, 3, 20]) (env' := [(0, .pointer (some ⟨b_2, 0, none⟩)), (3, .int .i64 n_5), (20, .bool (decide (n_5 < 0)))]) (H' := [⟨1, b_2, [.string (bs r_1.S_), .bool r_1.Bad]⟩]) (ps := []) (by kernel_rfl) trivial ?_
  refine GoO.bsplit (t := 20) (by kernel_rfl) (fun h6 => ?_) (fun h6 => ?_)
  · refine GoO.exec (is := [3, 4, 5, 6, 7, 8, 9, 10, 11, 12, 13, 14, 15, 16, 17, 18, 19, 20, 21, 22, 23, 24, 25, 26, 27]) (hs := [.p, .p, .p, .p, .p, .p, .p, .p, .p, .p, .p, .p, .p, .p, .p, .p, .p, .p, .p, .p, .p, .p, .p, .p, .p]) (rest := []) (ks := [0, 3, 45]) (env' := [(0, .pointer (some ⟨b_2, 0, none⟩)), (3, .int .i64 n_5), (45, .bool true)]) (H' := [⟨1, b_2, [.string (bs r_1.S_), .bool r_1.Bad]⟩]) (ps := []) (by kernel_rfl) trivial ?_
    refine GoO.regionEnd ?_
    exact GoO.sub (ks := [0, 3, 45]) (hk := [0]) (bk := []) (by kernel_rfl) (by kernel_rfl) (by kernel_rfl) (tontineref03_Reader_Num_j1_ok n r_1 n_5 b_2 w0 S0 true)
  · refine GoO.exec (is := [3, 4, 5, 6]) (hs := [.p, .p, .p, .p]) (rest := [7, 8, 9, 10, 11, 12, 13, 14, 15, 16, 17, 18, 19, 20, 21, 22, 23, 24, 25, 26, 27]) (ks := [0, 3, 24]) (env' := [(0, .pointer (some ⟨b_2, 0, none⟩)), (3, .int .i64 n_5), (24, .bool (decide (n_5 > 8)))]) (H' := [⟨1, b_2, [.string (bs r_1.S_), .bool r_1.Bad]⟩]) (ps := []) (by kernel_rfl) trivial ?_
    refine GoO.bsplit (t := 24) (by kernel_rfl) (fun h7 => ?_) (fun h7 => ?_)
    · refine GoO.exec (is := [7, 8, 9, 10, 11, 12, 13, 14, 15, 16, 17, 18, 19, 20, 21, 22, 23, 24, 25, 26, 27]) (hs := [.p, .p, .p, .p, .p, .p, .p, .p, .p, .p, .p, .p, .p, .p, .p, .p, .p, .p, .p, .p, .p]) (rest := []) (ks := [0, 3, 45]) (env' := [(0, .pointer (some ⟨b_2, 0, none⟩)), (3, .int .i64 n_5), (45, .bool true)]) (H' := [⟨1, b_2, [.string (bs r_1.S_), .bool r_1.Bad]⟩]) (ps := []) (by kernel_rfl) trivial ?_
      refine GoO.regionEnd ?_
      exact GoO.sub (ks := [0, 3, 45]) (hk := [0]) (bk := []) (by kernel_rfl) (by kernel_rfl) (by kernel_rfl) (tontineref03_Reader_Num_j1_ok n r_1 n_5 b_2 w0 S0 true)
    · refine GoO.exec (is := [7, 8, 9, 10, 11, 12, 13, 14, 15, 16]) (hs := [.p, .p, .p, .b 0, .p, .p, .p, .p, .p, .p]) (rest := [17, 18, 19, 20, 21, 22, 23, 24, 25, 26, 27]) (ks := [0, 3, 34]) (env' := [(0, .pointer (some ⟨b_2, 0, none⟩)), (3, .int .i64 n_5), (34, .bool (decide ((r_1.S_.length : Int) < (wi64 (n_5 + 1)))))]) (H' := [⟨1, b_2, [.string (bs r_1.S_), .bool r_1.Bad]⟩]) (ps := [b_2 = b_2]) (by kernel_rfl) (And.intro rfl trivial) ?_
      refine GoO.bsplit (t := 34) (by kernel_rfl) (fun h8 => ?_) (fun h8 => ?_)
      · refine GoO.exec (is := [17, 18, 19, 20, 21, 22, 23, 24, 25, 26, 27]) (hs := [.p, .p, .p, .p, .p, .p, .p, .p, .p, .p, .p]) (rest := []) (ks := [0, 3, 45]) (env' := [(0, .pointer (some ⟨b_2, 0, none⟩)), (3, .int .i64 n_5), (45, .bool true)]) (H' := [⟨1, b_2, [.string (bs r_1.S_), .bool r_1.Bad]⟩]) (ps := []) (by kernel_rfl) trivial ?_
        refine GoO.regionEnd ?_
        exact GoO.sub (ks := [0, 3, 45]) (hk := [0]) (bk := []) (by kernel_rfl) (by kernel_rfl) (by kernel_rfl) (tontineref03_Reader_Num_j1_ok n r_1 n_5 b_2 w0 S0 true)
      · refine GoO.exec (is := [17, 18, 19]) (hs := [.p, .p, .p]) (rest := [20, 21, 22, 23, 24, 25, 26, 27]) (ks := [0, 3, 34, 37]) (env' := [(0, .pointer (some ⟨b_2, 0, none⟩)), (3, .int .i64 n_5), (34, .bool false), (37, .bool (decide (n_5 > 0)))]) (H' := [⟨1, b_2, [.string (bs r_1.S_), .bool r_1.Bad]⟩]) (ps := []) (by kernel_rfl) trivial ?_
        refine GoO.bsplit (t := 37) (by kernel_rfl) (fun h9 => ?_) (fun h9 => ?_)
        · refine GoO.guard (fun h10 => ?_)
          refine GoO.exec (is := [20, 21, 22, 23, 24, 25, 26, 27]) (hs := [.p, .p, .p, .b 0, .p, .p, .p, .p]) (rest := []) (ks := [0, 3, 45]) (env' := [(0, .pointer (some ⟨b_2, 0, none⟩)), (3, .int .i64 n_5), (45, .bool (((rdB r_1.S_ 1).toNat : Int) == 0))]) (H' := [⟨1, b_2, [.string (bs r_1.S_), .bool r_1.Bad]⟩]) (ps := [b_2 = b_2, (0 : Int) ≤ 1, 1 < (r_1.S_.length : Int)]) (by kernel_rfl) (And.intro rfl (And.intro h10.1 (And.intro h10.2 trivial))) ?_
          refine GoO.regionEnd ?_
          exact GoO.sub (ks := [0, 3, 45]) (hk := [0]) (bk := []) (by kernel_rfl) (by kernel_rfl) (by kernel_rfl) (tontineref03_Reader_Num_j1_ok n r_1 n_5 b_2 w0 S0 (((rdB r_1.S_ 1).toNat : Int) == 0))
        · refine GoO.exec (is := [20, 21, 22, 23, 24, 25, 26, 27]) (hs := [.p, .p, .p, .p, .p, .p, .p, .p]) (rest := []) (ks := [0, 3, 45]) (env' := [(0, .pointer (some ⟨b_2, 0, none⟩)), (3, .int .i64 n_5), (45, .bool false)]) (H' := [⟨1, b_2, [.string (bs r_1.S_), .bool r_1.Bad]⟩]) (ps := []) (by kernel_rfl) trivial ?_
          refine GoO.regionEnd ?_
          exact GoO.sub (ks := [0, 3, 45]) (hk := [0]) (bk := []) (by kernel_rfl) (by kernel_rfl) (by kernel_rfl) (tontineref03_Reader_Num_j1_ok n r_1 n_5 b_2 w0 S0 false)
theorem tontineref03_Reader_Num_ok (n : Nat) (r_1 : T_tontineref03_Reader) (b_2 : Nat) :
    Meets Try.prog 72 [.pointer (some ⟨b_2, 0, none⟩)] 1 [1] [⟨1, b_2, [.string (bs r_1.S_), .bool r_1.Bad]⟩] [] (tontineref03_Reader_Num.f n r_1) (tontineref03_Reader_Num.R b_2) := by
  refine Meets.of (c := c72_0) (n := 74) Try.func72 (by kernel_rfl) (by kernel_rfl) (by kernel_rfl) fun w0 S0 => ?_
  unfold tontineref03_Reader_Num.f
  show GoO (tontineref03_Reader_Num.cx b_2 w0 S0) [(0, .pointer (some ⟨b_2, 0, none⟩))] [⟨1, b_2, [.string (bs r_1.S_), .bool r_1.Bad]⟩] [] [.code c72_0] _
  refine GoO.seq' c72_0e ?_
  refine GoO.region' (is := [0]) c72_1e (by kernel_rfl) ?_
  refine GoO.exec (is := [0]) (hs := [.p]) (rest := []) (ks := [0]) (env' := [(0, .pointer (some ⟨b_2, 0, none⟩))]) (H' := [⟨1, b_2, [.string (bs r_1.S_), .bool r_1.Bad]⟩]) (ps := []) (by kernel_rfl) trivial ?_
  refine GoO.regionEnd ?_
  refine GoO.seq' c72_2e ?_
  refine GoO.region' (is := [0]) c72_3e (by kernel_rfl) ?_
  refine GoO.exec (is := [0]) (hs := [.p]) (rest := []) (ks := [0, 3]) (env' := [(0, .pointer (some ⟨b_2, 0, none⟩)), (3, .int .i64 (-1))]) (H' := [⟨1, b_2, [.string (bs r_1.S_), .bool r_1.Bad]⟩]) (ps := []) (by kernel_rfl) trivial ?_
  refine GoO.regionEnd ?_
  refine GoO.seq' c72_4e ?_
  refine GoO.seq' c72_5e ?_
  refine GoO.region' (is := [0, 1, 2, 3, 4, 5]) c72_6e (by kernel_rfl) ?_
  refine GoO.exec (is := [0, 1, 2, 3, 4, 5]) (hs := [.p, .p, .p, .b 0, .p, .p]) (rest := []) (ks := [0, 3, 11]) (env' := [(0, .pointer (some ⟨b_2, 0, none⟩)), (3, .int .i64 (-1)), (11, .bool (decide ((r_1.S_.length : Int) > 0)))]) (H' := [⟨1, b_2, [.string (bs r_1.S_), .bool r_1.Bad]⟩]) (ps := [b_2 = b_2]) (by kernel_rfl) (And.intro rfl trivial) ?_
  refine GoO.regionEnd ?_
  refine GoO.ite' c72_7e (by kernel_rfl) (fun h3 => ?_) (fun h3 => ?_)
  · refine GoO.region' (is := [0, 1, 2, 3, 4, 5, 6]) c72_8e (by kernel_rfl) ?_
    refine GoO.guard (fun h4 => ?_)
    refine GoO.exec (is := [0, 1, 2, 3, 4, 5, 6]) (hs := [.p, .p, .p, .b 0, .p, .p, .p]) (rest := []) (ks := [0, 3]) (env' := [(0, .pointer (some ⟨b_2, 0, none⟩)), (3, .int .i64 (wi64 ((rdB r_1.S_ 0).toNat : Int)))]) (H' := [⟨1, b_2, [.string (bs r_1.S_), .bool r_1.Bad]⟩]) (ps := [b_2 = b_2, (0 : Int) ≤ 0, 0 < (r_1.S_.length : Int)]) (by kernel_rfl) (And.intro rfl (And.intro h4.1 (And.intro h4.2 trivial))) ?_
    refine GoO.regionEnd ?_
    exact GoO.sub (ks := [0, 3]) (hk := [0]) (bk := []) (by kernel_rfl) (by kernel_rfl) (by kernel_rfl) (tontineref03_Reader_Num_j0_ok n r_1 b_2 w0 S0 (wi64 ((rdB r_1.S_ 0).toNat : Int)))
  · refine GoO.skip' c72_9e ?_
    exact GoO.sub (ks := [0, 3]) (hk := [0]) (bk := []) (by kernel_rfl) (by kernel_rfl) (by kernel_rfl) (tontineref03_Reader_Num_j0_ok n r_1 b_2 w0 S0 (-1))

/-! (*tontine/tontineref03.Reader).Up -/
noncomputable def c71_0 : Code := bodyOf Try.f71
noncomputable def c71_1 : Code := cdL c71_0
noncomputable def c71_2 : Code := cdR c71_0
noncomputable def c71_3 : Code := cdL c71_2
noncomputable def c71_4 : Code := cdR c71_2
noncomputable def c71_5 : Code := cdL c71_4
noncomputable def c71_6 : Code := cdL c71_5
noncomputable def c71_7 : Code := cdR c71_5
noncomputable def c71_8 : Code := cdL c71_7
noncomputable def c71_9 : Code := cdL c71_8
noncomputable def c71_10 : Code := cdR c71_8
noncomputable def c71_11 : Code := cdL c71_10
noncomputable def c71_12 : Code := cdR c71_10
noncomputable def c71_13 : Code := cdR c71_7
noncomputable def c71_14 : Code := cdR c71_4
noncomputable def c71_15 : Code := cdL c71_14
noncomputable def c71_16 : Code := cdR c71_14
noncomputable def r71_1 : Array Oper := cdO c71_1
noncomputable def r71_3 : Array Oper := cdO c71_3
noncomputable def r71_6 : Array Oper := cdO c71_6
noncomputable def r71_9 : Array Oper := cdO c71_9
noncomputable def r71_11 : Array Oper := cdO c71_11
noncomputable def r71_15 : Array Oper := cdO c71_15
theorem c71_0e : c71_0 = .seq c71_1 c71_2 := by kernel_rfl
theorem c71_1e : c71_1 = .region 0 r71_1 false := by kernel_rfl
theorem c71_2e : c71_2 = .seq c71_3 c71_4 := by kernel_rfl
theorem c71_3e : c71_3 = .region 1 r71_3 false := by kernel_rfl
theorem c71_4e : c71_4 = .seq c71_5 c71_14 := by kernel_rfl
theorem c71_5e : c71_5 = .seq c71_6 c71_7 := by kernel_rfl
theorem c71_6e : c71_6 = .region 2 r71_6 false := by kernel_rfl
theorem c71_7e : c71_7 = .cond (cdC c71_7) c71_8 c71_13 := by kernel_rfl
theorem c71_8e : c71_8 = .seq c71_9 c71_10 := by kernel_rfl
theorem c71_9e : c71_9 = .region 3 r71_9 false := by kernel_rfl
theorem c71_10e : c71_10 = .seq c71_11 c71_12 := by kernel_rfl
theorem c71_11e : c71_11 = .region 4 r71_11 false := by kernel_rfl
theorem c71_12e : c71_12 = .ret := by kernel_rfl
theorem c71_13e : c71_13 = .skip := by kernel_rfl
theorem c71_14e : c71_14 = .seq c71_15 c71_16 := by kernel_rfl
theorem c71_15e : c71_15 = .region 5 r71_15 false := by kernel_rfl
theorem c71_16e : c71_16 = .ret := by kernel_rfl
noncomputable def tontineref03_Reader_Up.R (b_2 : Nat) : Pst (Int × T_tontineref03_Reader) where
  ε := Unit
  v := fun r x => .int .i64 r.1
  H := fun r x => [⟨1, b_2, [.string (bs r.2.S_), .bool r.2.Bad]⟩]
  B := fun r x => []
noncomputable def tontineref03_Reader_Up.cx (b_2 : Nat) (w0 : World) (S0 : Fam) : Cx (Int × T_tontineref03_Reader) := ⟨Try.prog, 71, Try.f71, 20, w0, S0, [1], 1, tontineref03_Reader_Up.R b_2⟩
theorem tontineref03_Reader_Up_j0_ok (n : Nat) (r_4 : Int × T_tontineref03_Reader) (b_2 : Nat) (w0 : World) (S0 : Fam) (b_6 : Bool) :
    GoO (tontineref03_Reader_Up.cx b_2 w0 S0) [(0, .pointer (some ⟨b_2, 0, none⟩)), (5, .int .u64 r_4.1), (15, .bool b_6)] [⟨1, b_2, [.string (bs r_4.2.S_), .bool r_4.2.Bad]⟩] [] [.code c71_7, .code c71_14] (tontineref03_Reader_Up.j0 n r_4 b_6) := by
  unfold tontineref03_Reader_Up.j0
  refine GoO.ite' c71_7e (by kernel_rfl) (fun h7 => ?_) (fun h7 => ?_)
  · refine GoO.seq' c71_8e ?_
    refine GoO.region' (is := [0, 1]) c71_9e (by kernel_rfl) ?_
    refine GoO.exec (is := [0]) (hs := [.p]) (rest := [1]) (ks := [16]) (env' := [(16, .pointer (some ⟨b_2, 0, none⟩))]) (H' := [⟨1, b_2, [.string (bs r_4.2.S_), .bool r_4.2.Bad]⟩]) (ps := []) (by kernel_rfl) trivial ?_
    refine OpTo.go (GoO.call rfl (by kernel_rfl) (by kernel_rfl) (tontineref03_Reader_Fail_ok n r_4.2 b_2) [[0], [1]] [(1, 1)] [(1, 0)] [] (hks := []) (bks := []) (by kernel_rfl) (by kernel_rfl) (by kernel_rfl) (.inl rfl) rfl rfl (by kernel_rfl) (by kernel_rfl) _ (fun _ _ => rfl) _ _ (fun _ _ => rfl) (fun _ _ => rfl) (fun _ _ => by kernel_rfl) (fun _ _ => by kernel_rfl) (fun r_8 x_9 => ?_))
    refine GoO.shape (env' := [(16, .pointer (some ⟨b_2, 0, none⟩)), (17, .tuple ⟨[]⟩)]) (H' := [⟨1, b_2, [.string (bs r_8.S_), .bool r_8.Bad]⟩]) (B' := []) (ks := [16, 17]) (by kernel_rfl) (by kernel_rfl) (by kernel_rfl) ?_
    refine GoO.regionEnd ?_
    refine GoO.seq' c71_10e ?_
    refine GoO.region' (is := [0]) c71_11e (by kernel_rfl) ?_
    refine GoO.exec (is := [0]) (hs := [.p]) (rest := []) (ks := [4]) (env' := [(4, .int .i64 0)]) (H' := [⟨1, b_2, [.string (bs r_8.S_), .bool r_8.Bad]⟩]) (ps := []) (by kernel_rfl) trivial ?_
    refine GoO.regionEnd ?_
    exact GoO.ret' (h := c71_12e) (hs := []) (ps := []) (hk := [0]) (bk := []) Try.func71 () (by kernel_rfl) trivial (by kernel_rfl) (by kernel_rfl)
  · refine GoO.skip' c71_13e ?_
    refine GoO.seq' c71_14e ?_
    refine GoO.region' (is := [0, 1, 2]) c71_15e (by kernel_rfl) ?_
    refine GoO.exec (is := [0, 1, 2]) (hs := [.p, .p, .p]) (rest := []) (ks := [4]) (env' := [(4, .int .i64 (wi64 r_4.1))]) (H' := [⟨1, b_2, [.string (bs r_4.2.S_), .bool r_4.2.Bad]⟩]) (ps := []) (by kernel_rfl) trivial ?_
    refine GoO.regionEnd ?_
    exact GoO.ret' (h := c71_16e) (hs := []) (ps := []) (hk := [0]) (bk := []) Try.func71 () (by kernel_rfl) trivial (by kernel_rfl) (by kernel_rfl)
theorem tontineref03_Reader_Up_ok (n : Nat) (r_1 : T_tontineref03_Reader) (limit_3 : Int) (b_2 : Nat) :
    Meets Try.prog 71 [.pointer (some ⟨b_2, 0, none⟩), .int .i64 limit_3] 1 [1] [⟨1, b_2, [.string (bs r_1.S_), .bool r_1.Bad]⟩] [] (tontineref03_Reader_Up.f n r_1 limit_3) (tontineref03_Reader_Up.R b_2) := by
  refine Meets.of (c := c71_0) (n := 20) Try.func71 (by kernel_rfl) (by kernel_rfl) (by kernel_rfl) fun w0 S0 => ?_
  unfold tontineref03_Reader_Up.f
  show GoO (tontineref03_Reader_Up.cx b_2 w0 S0) [(0, .pointer (some ⟨b_2, 0, none⟩)), (1, .int .i64 limit_3)] [⟨1, b_2, [.string (bs r_1.S_), .bool r_1.Bad]⟩] [] [.code c71_0] _
  refine GoO.seq' c71_0e ?_
  refine GoO.region' (is := [0]) c71_1e (by kernel_rfl) ?_
  refine GoO.exec (is := [0]) (hs := [.p]) (rest := []) (ks := [0, 1]) (env' := [(0, .pointer (some ⟨b_2, 0, none⟩)), (1, .int .i64 limit_3)]) (H' := [⟨1, b_2, [.string (bs r_1.S_), .bool r_1.Bad]⟩]) (ps := []) (by kernel_rfl) trivial ?_
  refine GoO.regionEnd ?_
  refine GoO.seq' c71_2e ?_
  refine GoO.region' (is := [0, 1, 2]) c71_3e (by kernel_rfl) ?_
  refine GoO.exec (is := [0]) (hs := [.p]) (rest := [1, 2]) (ks := [0, 1, 6]) (env' := [(0, .pointer (some ⟨b_2, 0, none⟩)), (1, .int .i64 limit_3), (6, .pointer (some ⟨b_2, 0, none⟩))]) (H' := [⟨1, b_2, [.string (bs r_1.S_), .bool r_1.Bad]⟩]) (ps := []) (by kernel_rfl) trivial ?_
  refine OpTo.go (GoO.call rfl (by kernel_rfl) (by kernel_rfl) (tontineref03_Reader_Num_ok n r_1 b_2) [[0], [1]] [(1, 1)] [(1, 0)] [] (hks := []) (bks := []) (by kernel_rfl) (by kernel_rfl) (by kernel_rfl) (.inl rfl) rfl rfl (by kernel_rfl) (by kernel_rfl) _ (fun _ _ => rfl) _ _ (fun _ _ => rfl) (fun _ _ => rfl) (fun _ _ => by kernel_rfl) (fun _ _ => by kernel_rfl) (fun r_4 x_10 => ?_))
  refine GoO.shape (env' := [(0, .pointer (some ⟨b_2, 0, none⟩)), (1, .int .i64 limit_3), (6, .pointer (some ⟨b_2, 0, none⟩)), (7, .int .u64 r_4.1)]) (H' := [⟨1, b_2, [.string (bs r_4.2.S_), .bool r_4.2.Bad]⟩]) (B' := []) (ks := [0, 1, 6, 7]) (by kernel_rfl) (by kernel_rfl) (by kernel_rfl) ?_
  refine GoO.exec (is := [2]) (hs := [.p]) (rest := []) (ks := [0, 1, 5]) (env' := [(0, .pointer (some ⟨b_2, 0, none⟩)), (1, .int .i64 limit_3), (5, .int .u64 r_4.1)]) (H' := [⟨1, b_2, [.string (bs r_4.2.S_), .bool r_4.2.Bad]⟩]) (ps := []) (by kernel_rfl) trivial ?_
  refine GoO.regionEnd ?_
  refine GoO.seq' c71_4e ?_
  refine GoO.seq' c71_5e ?_
  refine GoO.region' (is := [0, 1, 2, 3, 4, 5, 6, 7]) c71_6e (by kernel_rfl) ?_
  refine GoO.exec (is := [0, 1, 2]) (hs := [.p, .p, .p]) (rest := [3, 4, 5, 6, 7]) (ks := [0, 1, 5, 10]) (env' := [(0, .pointer (some ⟨b_2, 0, none⟩)), (1, .int .i64 limit_3), (5, .int .u64 r_4.1), (10, .bool (decide (limit_3 < 0)))]) (H' := [⟨1, b_2, [.string (bs r_4.2.S_), .bool r_4.2.Bad]⟩]) (ps := []) (by kernel_rfl) trivial ?_
  refine GoO.bsplit (t := 10) (by kernel_rfl) (fun h5 => ?_) (fun h5 => ?_)
  · refine GoO.exec (is := [3, 4, 5, 6, 7]) (hs := [.p, .p, .p, .p, .p]) (rest := []) (ks := [0, 5, 15]) (env' := [(0, .pointer (some ⟨b_2, 0, none⟩)), (5, .int .u64 r_4.1), (15, .bool true)]) (H' := [⟨1, b_2, [.string (bs r_4.2.S_), .bool r_4.2.Bad]⟩]) (ps := []) (by kernel_rfl) trivial ?_
    refine GoO.regionEnd ?_
    exact GoO.sub (ks := [0, 5, 15]) (hk := [0]) (bk := []) (by kernel_rfl) (by kernel_rfl) (by kernel_rfl) (tontineref03_Reader_Up_j0_ok n r_4 b_2 w0 S0 true)
  · refine GoO.exec (is := [3, 4, 5, 6, 7]) (hs := [.p, .p, .p, .p, .p]) (rest := []) (ks := [0, 5, 15]) (env' := [(0, .pointer (some ⟨b_2, 0, none⟩)), (5, .int .u64 r_4.1), (15, .bool (decide (r_4.1 > (wu64 limit_3))))]) (H' := [⟨1, b_2, [.string (bs r_4.2.S_), .bool r_4.2.Bad]⟩]) (ps := []) (by kernel_rfl) trivial ?_
    refine GoO.regionEnd ?_
    exact GoO.sub (ks := [0, 5, 15]) (hk := [0]) (bk := []) (by kernel_rfl) (by kernel_rfl) (by kernel_rfl) (tontineref03_Reader_Up_j0_ok n r_4 b_2 w0 S0 (decide (r_4.1 > (wu64 limit_3))))

/-! (*tontine/tontineref03.Reader).Text -/
noncomputable def c90_0 : Code := bodyOf Try.f90
noncomputable def c90_1 : Code := cdL c90_0
noncomputable def c90_2 : Code := cdR c90_0
noncomputable def c90_3 : Code := cdL c90_2
noncomputable def c90_4 : Code := cdR c90_2
noncomputable def c90_5 : Code := cdL c90_4
noncomputable def c90_6 : Code := cdL c90_5
noncomputable def c90_7 : Code := cdR c90_5
noncomputable def c90_8 : Code := cdL c90_7
noncomputable def c90_9 : Code := cdL c90_8
noncomputable def c90_10 : Code := cdR c90_8
noncomputable def c90_11 : Code := cdL c90_10
noncomputable def c90_12 : Code := cdR c90_10
noncomputable def c90_13 : Code := cdR c90_7
noncomputable def c90_14 : Code := cdR c90_4
noncomputable def c90_15 : Code := cdL c90_14
noncomputable def c90_16 : Code := cdR c90_14
noncomputable def c90_17 : Code := cdL c90_16
noncomputable def c90_18 : Code := cdR c90_16
noncomputable def c90_19 : Code := cdL c90_18
noncomputable def c90_20 : Code := cdR c90_18
noncomputable def r90_1 : Array Oper := cdO c90_1
noncomputable def r90_3 : Array Oper := cdO c90_3
noncomputable def r90_6 : Array Oper := cdO c90_6
noncomputable def r90_9 : Array Oper := cdO c90_9
noncomputable def r90_11 : Array Oper := cdO c90_11
noncomputable def r90_15 : Array Oper := cdO c90_15
noncomputable def r90_17 : Array Oper := cdO c90_17
noncomputable def r90_19 : Array Oper := cdO c90_19
theorem c90_0e : c90_0 = .seq c90_1 c90_2 := by kernel_rfl
theorem c90_1e : c90_1 = .region 0 r90_1 false := by kernel_rfl
theorem c90_2e : c90_2 = .seq c90_3 c90_4 := by kernel_rfl
theorem c90_3e : c90_3 = .region 1 r90_3 false := by kernel_rfl
theorem c90_4e : c90_4 = .seq c90_5 c90_14 := by kernel_rfl
theorem c90_5e : c90_5 = .seq c90_6 c90_7 := by kernel_rfl
theorem c90_6e : c90_6 = .region 2 r90_6 false := by kernel_rfl
theorem c90_7e : c90_7 = .cond (cdC c90_7) c90_8 c90_13 := by kernel_rfl
theorem c90_8e : c90_8 = .seq c90_9 c90_10 := by kernel_rfl
theorem c90_9e : c90_9 = .region 3 r90_9 false := by kernel_rfl
theorem c90_10e : c90_10 = .seq c90_11 c90_12 := by kernel_rfl
theorem c90_11e : c90_11 = .region 4 r90_11 false := by kernel_rfl
theorem c90_12e : c90_12 = .ret := by kernel_rfl
theorem c90_13e : c90_13 = .skip := by kernel_rfl
theorem c90_14e : c90_14 = .seq c90_15 c90_16 := by kernel_rfl
theorem c90_15e : c90_15 = .region 5 r90_15 false := by kernel_rfl
theorem c90_16e : c90_16 = .seq c90_17 c90_18 := by kernel_rfl
theorem c90_17e : c90_17 = .region 6 r90_17 false := by kernel_rfl
theorem c90_18e : c90_18 = .seq c90_19 c90_20 := by kernel_rfl
theorem c90_19e : c90_19 = .region 7 r90_19 false := by kernel_rfl
theorem c90_20e : c90_20 = .ret := by kernel_rfl
noncomputable def tontineref03_Reader_Text.R (b_2 : Nat) : Pst ((List UInt8) × T_tontineref03_Reader) where
  ε := Unit
  v := fun r x => .string (bs r.1)
  H := fun r x => [⟨1, b_2, [.string (bs r.2.S_), .bool r.2.Bad]⟩]
  B := fun r x => []
noncomputable def tontineref03_Reader_Text.cx (b_2 : Nat) (w0 : World) (S0 : Fam) : Cx ((List UInt8) × T_tontineref03_Reader) := ⟨Try.prog, 90, Try.f90, 35, w0, S0, [1], 1, tontineref03_Reader_Text.R b_2⟩
theorem tontineref03_Reader_Text_ok (n : Nat) (r_1 : T_tontineref03_Reader) (limit_3 : Int) (b_2 : Nat) :
    Meets Try.prog 90 [.pointer (some ⟨b_2, 0, none⟩), .int .i64 limit_3] 1 [1] [⟨1, b_2, [.string (bs r_1.S_), .bool r_1.Bad]⟩] [] (tontineref03_Reader_Text.f n r_1 limit_3) (tontineref03_Reader_Text.R b_2) := by
  refine Meets.of (c := c90_0) (n := 35) Try.func90 (by kernel_rfl) (by kernel_rfl) (by kernel_rfl) fun w0 S0 => ?_
  unfold tontineref03_Reader_Text.f
  show GoO (tontineref03_Reader_Text.cx b_2 w0 S0) [(0, .pointer (some ⟨b_2, 0, none⟩)), (1, .int .i64 limit_3)] [⟨1, b_2, [.string (bs r_1.S_), .bool r_1.Bad]⟩] [] [.code c90_0] _
  refine GoO.seq' c90_0e ?_
  refine GoO.region' (is := [0]) c90_1e (by kernel_rfl) ?_
  refine GoO.exec (is := [0]) (hs := [.p]) (rest := []) (ks := [0, 1]) (env' := [(0, .pointer (some ⟨b_2, 0, none⟩)), (1, .int .i64 limit_3)]) (H' := [⟨1, b_2, [.string (bs r_1.S_), .bool r_1.Bad]⟩]) (ps := []) (by kernel_rfl) trivial ?_
  refine GoO.regionEnd ?_
  refine GoO.seq' c90_2e ?_
  refine GoO.region' (is := [0, 1, 2, 3]) c90_3e (by kernel_rfl) ?_
  refine GoO.exec (is := [0, 1]) (hs := [.p, .p]) (rest := [2, 3]) (ks := [0, 7, 8]) (env' := [(0, .pointer (some ⟨b_2, 0, none⟩)), (7, .pointer (some ⟨b_2, 0, none⟩)), (8, .int .i64 limit_3)]) (H' := [⟨1, b_2, [.string (bs r_1.S_), .bool r_1.Bad]⟩]) (ps := []) (by kernel_rfl) trivial ?_
  refine OpTo.go (GoO.call rfl (by kernel_rfl) (by kernel_rfl) (tontineref03_Reader_Up_ok n r_1 limit_3 b_2) [[0], [1]] [(1, 1)] [(1, 0)] [] (hks := []) (bks := []) (by kernel_rfl) (by kernel_rfl) (by kernel_rfl) (.inl rfl) rfl rfl (by kernel_rfl) (by kernel_rfl) _ (fun _ _ => rfl) _ _ (fun _ _ => rfl) (fun _ _ => rfl) (fun _ _ => by kernel_rfl) (fun _ _ => by kernel_rfl) (fun r_4 x_10 => ?_))
  refine GoO.shape (env' := [(0, .pointer (some ⟨b_2, 0, none⟩)), (7, .pointer (some ⟨b_2, 0, none⟩)), (8, .int .i64 limit_3), (9, .int .i64 r_4.1)]) (H' := [⟨1, b_2, [.string (bs r_4.2.S_), .bool r_4.2.Bad]⟩]) (B' := []) (ks := [0, 7, 8, 9]) (by kernel_rfl) (by kernel_rfl) (by kernel_rfl) ?_
  refine GoO.exec (is := [3]) (hs := [.p]) (rest := []) (ks := [0, 5]) (env' := [(0, .pointer (some ⟨b_2, 0, none⟩)), (5, .int .i64 r_4.1)]) (H' := [⟨1, b_2, [.string (bs r_4.2.S_), .bool r_4.2.Bad]⟩]) (ps := []) (by kernel_rfl) trivial ?_
  refine GoO.regionEnd ?_
  refine GoO.seq' c90_4e ?_
  refine GoO.seq' c90_5e ?_
  refine GoO.region' (is := [0, 1, 2, 3, 4, 5, 6]) c90_6e (by kernel_rfl) ?_
  refine GoO.exec (is := [0, 1, 2, 3, 4, 5, 6]) (hs := [.p, .p, .p, .p, .b 0, .p, .p]) (rest := []) (ks := [0, 5, 16]) (env' := [(0, .pointer (some ⟨b_2, 0, none⟩)), (5, .int .i64 r_4.1), (16, .bool (decide (r_4.1 > (r_4.2.S_.length : Int))))]) (H' := [⟨1, b_2, [.string (bs r_4.2.S_), .bool r_4.2.Bad]⟩]) (ps := [b_2 = b_2]) (by kernel_rfl) (And.intro rfl trivial) ?_
  refine GoO.regionEnd ?_
  refine GoO.ite' c90_7e (by kernel_rfl) (fun h5 => ?_) (fun h5 => ?_)
  · refine GoO.seq' c90_8e ?_
    refine GoO.region' (is := [0, 1]) c90_9e (by kernel_rfl) ?_
    refine GoO.exec (is := [0]) (hs := [.p]) (rest := [1]) (ks := [17]) (env' := [(17, .pointer (some ⟨b_2, 0, none⟩))]) (H' := [⟨1, b_2, [.string (bs r_4.2.S_), .bool r_4.2.Bad]⟩]) (ps := []) (by kernel_rfl) trivial ?_
    refine OpTo.go (GoO.call rfl (by kernel_rfl) (by kernel_rfl) (tontineref03_Reader_Fail_ok n r_4.2 b_2) [[0], [1]] [(1, 1)] [(1, 0)] [] (hks := []) (bks := []) (by kernel_rfl) (by kernel_rfl) (by kernel_rfl) (.inl rfl) rfl rfl (by kernel_rfl) (by kernel_rfl) _ (fun _ _ => rfl) _ _ (fun _ _ => rfl) (fun _ _ => rfl) (fun _ _ => by kernel_rfl) (fun _ _ => by kernel_rfl) (fun r_6 x_7 => ?_))
    refine GoO.shape (env' := [(17, .pointer (some ⟨b_2, 0, none⟩)), (18, .tuple ⟨[]⟩)]) (H' := [⟨1, b_2, [.string (bs r_6.S_), .bool r_6.Bad]⟩]) (B' := []) (ks := [17, 18]) (by kernel_rfl) (by kernel_rfl) (by kernel_rfl) ?_
    refine GoO.regionEnd ?_
    refine GoO.seq' c90_10e ?_
    refine GoO.region' (is := [0]) c90_11e (by kernel_rfl) ?_
    refine GoO.exec (is := [0]) (hs := [.p]) (rest := []) (ks := [4]) (env' := [(4, .string (bs []))]) (H' := [⟨1, b_2, [.string (bs r_6.S_), .bool r_6.Bad]⟩]) (ps := []) (by kernel_rfl) trivial ?_
    refine GoO.regionEnd ?_
    exact GoO.ret' (h := c90_12e) (hs := []) (ps := []) (hk := [0]) (bk := []) Try.func90 () (by kernel_rfl) trivial (by kernel_rfl) (by kernel_rfl)
  · refine GoO.skip' c90_13e ?_
    refine GoO.seq' c90_14e ?_
    refine GoO.region' (is := [0, 1, 2, 3, 4, 5, 6]) c90_15e (by kernel_rfl) ?_
    refine GoO.guard (fun h8 => ?_)
    refine GoO.exec (is := [0, 1, 2, 3, 4, 5, 6]) (hs := [.p, .p, .p, .b 0, .p, .p, .p]) (rest := []) (ks := [0, 5, 6]) (env' := [(0, .pointer (some ⟨b_2, 0, none⟩)), (5, .int .i64 r_4.1), (6, .string (bs (r_4.2.S_.take r_4.1.toNat)))]) (H' := [⟨1, b_2, [.string (bs r_4.2.S_), .bool r_4.2.Bad]⟩]) (ps := [b_2 = b_2, (0 : Int) ≤ r_4.1, r_4.1 ≤ (r_4.2.S_.length : Int)]) (by kernel_rfl) (And.intro rfl (And.intro h8.1 (And.intro h8.2 trivial))) ?_
    refine GoO.regionEnd ?_
    refine GoO.seq' c90_16e ?_
    refine GoO.region' (is := [0, 1, 2, 3, 4, 5, 6, 7, 8, 9]) c90_17e (by kernel_rfl) ?_
    refine GoO.guard (fun h9 => ?_)
    refine GoO.exec (is := [0, 1, 2, 3, 4, 5, 6, 7, 8, 9]) (hs := [.p, .p, .p, .p, .b 0, .p, .p, .p, .p, .b 0]) (rest := []) (ks := [6]) (env' := [(6, .string (bs (r_4.2.S_.take r_4.1.toNat)))]) (H' := [⟨1, b_2, [.string (bs (r_4.2.S_.drop r_4.1.toNat)), .bool r_4.2.Bad]⟩]) (ps := [b_2 = b_2, (0 : Int) ≤ r_4.1, r_4.1 ≤ (r_4.2.S_.length : Int), b_2 = b_2]) (by kernel_rfl) (And.intro rfl (And.intro h9.1 (And.intro h9.2 (And.intro rfl trivial)))) ?_
    refine GoO.regionEnd ?_
    refine GoO.seq' c90_18e ?_
    refine GoO.region' (is := [0, 1]) c90_19e (by kernel_rfl) ?_
    refine GoO.exec (is := [0, 1]) (hs := [.p, .p]) (rest := []) (ks := [4]) (env' := [(4, .string (bs (r_4.2.S_.take r_4.1.toNat)))]) (H' := [⟨1, b_2, [.string (bs (r_4.2.S_.drop r_4.1.toNat)), .bool r_4.2.Bad]⟩]) (ps := []) (by kernel_rfl) trivial ?_
    refine GoO.regionEnd ?_
    exact GoO.ret' (h := c90_20e) (hs := []) (ps := []) (hk := [0]) (bk := []) Try.func90 () (by kernel_rfl) trivial (by kernel_rfl) (by kernel_rfl)

/-! tontine/tontineref13.Read -/
noncomputable def c73_0 : Code := bodyOf Try.f73
noncomputable def c73_1 : Code := cdL c73_0
noncomputable def c73_2 : Code := cdR c73_0
noncomputable def c73_3 : Code := cdL c73_2
noncomputable def c73_4 : Code := cdR c73_2
noncomputable def c73_5 : Code := cdL c73_4
noncomputable def c73_6 : Code := cdR c73_4
noncomputable def c73_7 : Code := cdL c73_6
noncomputable def c73_8 : Code := cdL c73_7
noncomputable def c73_9 : Code := cdR c73_7
noncomputable def c73_10 : Code := cdL c73_9
noncomputable def c73_11 : Code := cdL c73_10
noncomputable def c73_12 : Code := cdL c73_11
noncomputable def c73_13 : Code := cdL c73_12
noncomputable def c73_14 : Code := cdR c73_12
noncomputable def c73_15 : Code := cdL c73_14
noncomputable def c73_16 : Code := cdR c73_14
noncomputable def c73_17 : Code := cdR c73_11
noncomputable def c73_18 : Code := cdL c73_17
noncomputable def c73_19 : Code := cdL c73_18
noncomputable def c73_20 : Code := cdL c73_19
noncomputable def c73_21 : Code := cdR c73_19
noncomputable def c73_22 : Code := cdL c73_21
noncomputable def c73_23 : Code := cdR c73_21
noncomputable def c73_24 : Code := cdL c73_23
noncomputable def c73_25 : Code := cdR c73_23
noncomputable def c73_26 : Code := cdR c73_17
noncomputable def c73_27 : Code := cdR c73_6
noncomputable def c73_28 : Code := cdL c73_27
noncomputable def c73_29 : Code := cdL c73_28
noncomputable def c73_30 : Code := cdR c73_28
noncomputable def c73_31 : Code := cdL c73_30
noncomputable def c73_32 : Code := cdL c73_31
noncomputable def c73_33 : Code := cdR c73_31
noncomputable def c73_34 : Code := cdR c73_30
noncomputable def c73_35 : Code := cdR c73_27
noncomputable def c73_36 : Code := cdL c73_35
noncomputable def c73_37 : Code := cdR c73_35
noncomputable def r73_1 : Array Oper := cdO c73_1
noncomputable def r73_3 : Array Oper := cdO c73_3
noncomputable def r73_5 : Array Oper := cdO c73_5
noncomputable def r73_8 : Array Oper := cdO c73_8
noncomputable def r73_13 : Array Oper := cdO c73_13
noncomputable def r73_20 : Array Oper := cdO c73_20
noncomputable def r73_22 : Array Oper := cdO c73_22
noncomputable def r73_24 : Array Oper := cdO c73_24
noncomputable def r73_25 : Array Oper := cdO c73_25
noncomputable def r73_26 : Array Oper := cdO c73_26
noncomputable def r73_29 : Array Oper := cdO c73_29
noncomputable def r73_32 : Array Oper := cdO c73_32
noncomputable def r73_36 : Array Oper := cdO c73_36
theorem c73_0e : c73_0 = .seq c73_1 c73_2 := by kernel_rfl
theorem c73_1e : c73_1 = .region 0 r73_1 false := by kernel_rfl
theorem c73_2e : c73_2 = .seq c73_3 c73_4 := by kernel_rfl
theorem c73_3e : c73_3 = .region 1 r73_3 false := by kernel_rfl
theorem c73_4e : c73_4 = .seq c73_5 c73_6 := by kernel_rfl
theorem c73_5e : c73_5 = .region 2 r73_5 false := by kernel_rfl
theorem c73_6e : c73_6 = .seq c73_7 c73_27 := by kernel_rfl
theorem c73_7e : c73_7 = .seq c73_8 c73_9 := by kernel_rfl
theorem c73_8e : c73_8 = .region 3 r73_8 false := by kernel_rfl
theorem c73_9e : c73_9 = .block 0 c73_10 := by kernel_rfl
theorem c73_10e : c73_10 = .loop c73_11 := by kernel_rfl
theorem c73_11e : c73_11 = .seq c73_12 c73_17 := by kernel_rfl
theorem c73_12e : c73_12 = .seq c73_13 c73_14 := by kernel_rfl
theorem c73_13e : c73_13 = .region 4 r73_13 false := by kernel_rfl
theorem c73_14e : c73_14 = .cond (cdC c73_14) c73_15 c73_16 := by kernel_rfl
theorem c73_15e : c73_15 = .skip := by kernel_rfl
theorem c73_16e : c73_16 = .exit 0 := by kernel_rfl
theorem c73_17e : c73_17 = .seq c73_18 c73_26 := by kernel_rfl
theorem c73_18e : c73_18 = .block 1 c73_19 := by kernel_rfl
theorem c73_19e : c73_19 = .seq c73_20 c73_21 := by kernel_rfl
theorem c73_20e : c73_20 = .region 6 r73_20 false := by kernel_rfl
theorem c73_21e : c73_21 = .seq c73_22 c73_23 := by kernel_rfl
theorem c73_22e : c73_22 = .region 7 r73_22 false := by kernel_rfl
theorem c73_23e : c73_23 = .seq c73_24 c73_25 := by kernel_rfl
theorem c73_24e : c73_24 = .region 8 r73_24 false := by kernel_rfl
theorem c73_25e : c73_25 = .region 9 r73_25 false := by kernel_rfl
theorem c73_26e : c73_26 = .region 5 r73_26 false := by kernel_rfl
theorem c73_27e : c73_27 = .seq c73_28 c73_35 := by kernel_rfl
theorem c73_28e : c73_28 = .seq c73_29 c73_30 := by kernel_rfl
theorem c73_29e : c73_29 = .region 10 r73_29 false := by kernel_rfl
theorem c73_30e : c73_30 = .cond (cdC c73_30) c73_31 c73_34 := by kernel_rfl
theorem c73_31e : c73_31 = .seq c73_32 c73_33 := by kernel_rfl
theorem c73_32e : c73_32 = .region 11 r73_32 false := by kernel_rfl
theorem c73_33e : c73_33 = .ret := by kernel_rfl
theorem c73_34e : c73_34 = .skip := by kernel_rfl
theorem c73_35e : c73_35 = .seq c73_36 c73_37 := by kernel_rfl
theorem c73_36e : c73_36 = .region 12 r73_36 false := by kernel_rfl
theorem c73_37e : c73_37 = .ret := by kernel_rfl
noncomputable def tontineref13_Read.R (b_2 : Nat) : Pst ((List T_api_Step) × T_tontineref03_Reader) where
  ε := Option Addr × Nat
  v := fun r x => .slice x.1 r.1.length x.2
  H := fun r x => [⟨1, b_2, [.string (bs r.2.S_), .bool r.2.Bad]⟩]
  B := fun r x => [Ow 2 kT_api_Step x.1 x.2 r.1]
noncomputable def tontineref13_Read.cx (b_2 : Nat) (w0 : World) (S0 : Fam) : Cx ((List T_api_Step) × T_tontineref03_Reader) := ⟨Try.prog, 73, Try.f73, 34, w0, S0, [1], 1, tontineref13_Read.R b_2⟩
theorem tontineref13_Read_l0_ok (n : Nat) (r_3 : Int × T_tontineref03_Reader) (b_2 : Nat) (w0 : World) (S0 : Fam) :
    ∀ (k : Nat) (f_4 : (List UInt8)) (f_5 : Bool) (l_6 : (List T_api_Step)) (i_9 : Int) (A_7 : Option Addr) (c_8 : Nat), GoO (tontineref13_Read.cx b_2 w0 S0) [(0, .pointer (some ⟨b_2, 0, none⟩)), (3, .slice A_7 l_6.length c_8), (4, .int .i64 r_3.1), (5, .int .i64 i_9)] [⟨1, b_2, [.string (bs f_4), .bool f_5]⟩] [Ow 41 kT_api_Step A_7 c_8 l_6] [.code c73_11, .inLoop c73_11, .inBlock 0, .code c73_27] (tontineref13_Read.l0 n r_3 k f_4 f_5 l_6 i_9) := by
  intro k
  induction k with
  | zero => intros; rw [tontineref13_Read.l0.eq_1]; exact GoO.stop
  | succ k ih0 =>
    intro f_4 f_5 l_6 i_9 A_7 c_8
    rw [tontineref13_Read.l0.eq_2]
    refine GoO.seq' c73_11e ?_
    refine GoO.seq' c73_12e ?_
    refine GoO.region' (is := [0, 1, 2]) c73_13e (by kernel_rfl) ?_
    refine GoO.exec (is := [0, 1, 2]) (hs := [.p, .p, .p]) (rest := []) (ks := [0, 3, 4, 5, 13]) (env' := [(0, .pointer (some ⟨b_2, 0, none⟩)), (3, .slice A_7 l_6.length c_8), (4, .int .i64 r_3.1), (5, .int .i64 i_9), (13, .bool (decide (i_9 < r_3.1)))]) (H' := [⟨1, b_2, [.string (bs f_4), .bool f_5]⟩]) (ps := []) (by kernel_rfl) trivial ?_
    refine GoO.regionEnd ?_
    refine GoO.ite' c73_14e (by kernel_rfl) (fun h10 => ?_) (fun h10 => ?_)
    · refine GoO.skip' c73_15e ?_
      refine GoO.seq' c73_17e ?_
      refine GoO.block' c73_18e ?_
      refine GoO.seq' c73_19e ?_
      refine GoO.region' (is := [0, 1, 2]) c73_20e (by kernel_rfl) ?_
      refine GoO.exec (is := [0]) (hs := [.p]) (rest := [1, 2]) (ks := [0, 3, 4, 5, 16]) (env' := [(0, .pointer (some ⟨b_2, 0, none⟩)), (3, .slice A_7 l_6.length c_8), (4, .int .i64 r_3.1), (5, .int .i64 i_9), (16, .pointer (some ⟨b_2, 0, none⟩))]) (H' := [⟨1, b_2, [.string (bs f_4), .bool f_5]⟩]) (ps := []) (by kernel_rfl) trivial ?_
      refine OpTo.go (GoO.call rfl (by kernel_rfl) (by kernel_rfl) (tontineref03_Reader_Up_ok n (⟨f_4, f_5⟩ : T_tontineref03_Reader) 3 b_2) [[0], [1]] [(1, 1)] [(1, 0)] [] (hks := []) (bks := [0]) (by kernel_rfl) (by kernel_rfl) (by kernel_rfl) (.inl rfl) rfl rfl (by kernel_rfl) (by kernel_rfl) _ (fun _ _ => rfl) _ _ (fun _ _ => rfl) (fun _ _ => rfl) (fun _ _ => by kernel_rfl) (fun _ _ => by kernel_rfl) (fun r_11 x_21 => ?_))
      refine GoO.shape (env' := [(0, .pointer (some ⟨b_2, 0, none⟩)), (3, .slice A_7 l_6.length c_8), (4, .int .i64 r_3.1), (5, .int .i64 i_9), (16, .pointer (some ⟨b_2, 0, none⟩)), (17, .int .i64 r_11.1)]) (H' := [⟨1, b_2, [.string (bs r_11.2.S_), .bool r_11.2.Bad]⟩]) (B' := [Ow 41 kT_api_Step A_7 c_8 l_6]) (ks := [0, 3, 4, 5, 16, 17]) (by kernel_rfl) (by kernel_rfl) (by kernel_rfl) ?_
      refine GoO.exec (is := [2]) (hs := [.p]) (rest := []) (ks := [0, 3, 4, 5, 6]) (env' := [(0, .pointer (some ⟨b_2, 0, none⟩)), (3, .slice A_7 l_6.length c_8), (4, .int .i64 r_3.1), (5, .int .i64 i_9), (6, .int .i64 r_11.1)]) (H' := [⟨1, b_2, [.string (bs r_11.2.S_), .bool r_11.2.Bad]⟩]) (ps := []) (by kernel_rfl) trivial ?_
      refine GoO.regionEnd ?_
      refine GoO.seq' c73_21e ?_
      refine GoO.region' (is := [0, 1, 2]) c73_22e (by kernel_rfl) ?_
      refine GoO.exec (is := [0]) (hs := [.p]) (rest := [1, 2]) (ks := [0, 3, 4, 5, 6, 18]) (env' := [(0, .pointer (some ⟨b_2, 0, none⟩)), (3, .slice A_7 l_6.length c_8), (4, .int .i64 r_3.1), (5, .int .i64 i_9), (6, .int .i64 r_11.1), (18, .pointer (some ⟨b_2, 0, none⟩))]) (H' := [⟨1, b_2, [.string (bs r_11.2.S_), .bool r_11.2.Bad]⟩]) (ps := []) (by kernel_rfl) trivial ?_
      refine OpTo.go (GoO.call rfl (by kernel_rfl) (by kernel_rfl) (tontineref03_Reader_Text_ok n r_11.2 16 b_2) [[0], [1]] [(1, 1)] [(1, 0)] [] (hks := []) (bks := [0]) (by kernel_rfl) (by kernel_rfl) (by kernel_rfl) (.inl rfl) rfl rfl (by kernel_rfl) (by kernel_rfl) _ (fun _ _ => rfl) _ _ (fun _ _ => rfl) (fun _ _ => rfl) (fun _ _ => by kernel_rfl) (fun _ _ => by kernel_rfl) (fun r_12 x_20 => ?_))
      refine GoO.shape (env' := [(0, .pointer (some ⟨b_2, 0, none⟩)), (3, .slice A_7 l_6.length c_8), (4, .int .i64 r_3.1), (5, .int .i64 i_9), (6, .int .i64 r_11.1), (18, .pointer (some ⟨b_2, 0, none⟩)), (19, .string (bs r_12.1))]) (H' := [⟨1, b_2, [.string (bs r_12.2.S_), .bool r_12.2.Bad]⟩]) (B' := [Ow 41 kT_api_Step A_7 c_8 l_6]) (ks := [0, 3, 4, 5, 6, 18, 19]) (by kernel_rfl) (by kernel_rfl) (by kernel_rfl) ?_
      refine GoO.exec (is := [2]) (hs := [.p]) (rest := []) (ks := [0, 3, 4, 5, 6, 7]) (env' := [(0, .pointer (some ⟨b_2, 0, none⟩)), (3, .slice A_7 l_6.length c_8), (4, .int .i64 r_3.1), (5, .int .i64 i_9), (6, .int .i64 r_11.1), (7, .string (bs r_12.1))]) (H' := [⟨1, b_2, [.string (bs r_12.2.S_), .bool r_12.2.Bad]⟩]) (ps := []) (by kernel_rfl) trivial ?_
      refine GoO.regionEnd ?_
      refine GoO.seq' c73_23e ?_
      refine GoO.region' (is := [0, 1, 2]) c73_24e (by kernel_rfl) ?_
      refine GoO.exec (is := [0]) (hs := [.p]) (rest := [1, 2]) (ks := [0, 3, 4, 5, 6, 7, 20]) (env' := [(0, .pointer (some ⟨b_2, 0, none⟩)), (3, .slice A_7 l_6.length c_8), (4, .int .i64 r_3.1), (5, .int .i64 i_9), (6, .int .i64 r_11.1), (7, .string (bs r_12.1)), (20, .pointer (some ⟨b_2, 0, none⟩))]) (H' := [⟨1, b_2, [.string (bs r_12.2.S_), .bool r_12.2.Bad]⟩]) (ps := []) (by kernel_rfl) trivial ?_
      refine OpTo.go (GoO.call rfl (by kernel_rfl) (by kernel_rfl) (tontineref03_Reader_Up_ok n r_12.2 9 b_2) [[0], [1]] [(1, 1)] [(1, 0)] [] (hks := []) (bks := [0]) (by kernel_rfl) (by kernel_rfl) (by kernel_rfl) (.inl rfl) rfl rfl (by kernel_rfl) (by kernel_rfl) _ (fun _ _ => rfl) _ _ (fun _ _ => rfl) (fun _ _ => rfl) (fun _ _ => by kernel_rfl) (fun _ _ => by kernel_rfl) (fun r_13 x_19 => ?_))
      refine GoO.shape (env' := [(0, .pointer (some ⟨b_2, 0, none⟩)), (3, .slice A_7 l_6.length c_8), (4, .int .i64 r_3.1), (5, .int .i64 i_9), (6, .int .i64 r_11.1), (7, .string (bs r_12.1)), (20, .pointer (some ⟨b_2, 0, none⟩)), (21, .int .i64 r_13.1)]) (H' := [⟨1, b_2, [.string (bs r_13.2.S_), .bool r_13.2.Bad]⟩]) (B' := [Ow 41 kT_api_Step A_7 c_8 l_6]) (ks := [0, 3, 4, 5, 6, 7, 20, 21]) (by kernel_rfl) (by kernel_rfl) (by kernel_rfl) ?_
      refine GoO.exec (is := [2]) (hs := [.p]) (rest := []) (ks := [0, 3, 4, 5, 6, 7, 8]) (env' := [(0, .pointer (some ⟨b_2, 0, none⟩)), (3, .slice A_7 l_6.length c_8), (4, .int .i64 r_3.1), (5, .int .i64 i_9), (6, .int .i64 r_11.1), (7, .string (bs r_12.1)), (8, .int .i64 r_13.1)]) (H' := [⟨1, b_2, [.string (bs r_13.2.S_), .bool r_13.2.Bad]⟩]) (ps := []) (by kernel_rfl) trivial ?_
      refine GoO.regionEnd ?_
      refine GoO.region' (is := [0, 1, 2, 3, 4, 5, 6, 7]) c73_25e (by kernel_rfl) ?_
      refine GoO.exec (is := [0, 1, 2, 3, 4]) (hs := [.p, .p, .p, .p, .p]) (rest := [5, 6, 7]) (ks := [0, 4, 5, 22, 26]) (env' := [(0, .pointer (some ⟨b_2, 0, none⟩)), (4, .int .i64 r_3.1), (5, .int .i64 i_9), (22, .slice A_7 l_6.length c_8), (26, .agg ⟨[.int .i64 r_11.1, .string (bs r_12.1), .int .i64 r_13.1]⟩)]) (H' := [⟨1, b_2, [.string (bs r_13.2.S_), .bool r_13.2.Bad]⟩]) (ps := []) (by kernel_rfl) trivial ?_
      refine OpTo.go (GoO.lit (e := 160) (K := kT_api_Step) rfl (by kernel_rfl) (by kernel_rfl) (cs := [.int .i64 r_11.1, .string (bs r_12.1), .int .i64 r_13.1]) (by kernel_rfl) [(⟨r_11.1, r_12.1, r_13.1⟩ : T_api_Step)] (by kernel_rfl) (by kernel_rfl) (fun w S hB => ⟨[.int .i64 r_11.1, .string (bs r_12.1), .int .i64 r_13.1], _, rfl, rfl, rfl⟩) 40 _ (fun _ _ => rfl) (fun A_14 c_15 => ?_))
      refine GoO.guard (fun h16 => ?_)
      refine OpTo.go (GoO.appW (e := 160) (K := kT_api_Step) (A := A_7) (c := c_8) (tg := 41) (bytes := 32) (zs := [.int .i64 0, .string (bs []), .int .i64 0]) (xs := l_6) (ys := [(⟨r_11.1, r_12.1, r_13.1⟩ : T_api_Step)]) (xv := .slice A_14 [(⟨r_11.1, r_12.1, r_13.1⟩ : T_api_Step)].length c_15) (j := 1) (bk := [0]) rfl (by kernel_rfl) (by kernel_rfl) (by kernel_rfl) (by kernel_rfl) rfl (by kernel_rfl) rfl (fun w S hB => SrcIs.row (Reads.own w S (hB _ (List.mem_of_getElem? (i := 0) rfl)))) h16 rfl rfl rfl rfl _ (fun _ _ => rfl) (fun A_17 c_18 => ?_))
      refine GoO.exec (is := [7]) (hs := [.p]) (rest := []) (ks := [0, 3, 4, 5]) (env' := [(0, .pointer (some ⟨b_2, 0, none⟩)), (3, .slice A_17 (l_6 ++ [(⟨r_11.1, r_12.1, r_13.1⟩ : T_api_Step)]).length c_18), (4, .int .i64 r_3.1), (5, .int .i64 i_9)]) (H' := [⟨1, b_2, [.string (bs r_13.2.S_), .bool r_13.2.Bad]⟩]) (ps := []) (by kernel_rfl) trivial ?_
      refine GoO.regionEnd ?_
      refine GoO.inBlock ?_
      refine GoO.region' (is := [0, 1, 2]) c73_26e (by kernel_rfl) ?_
      refine GoO.exec (is := [0, 1, 2]) (hs := [.p, .p, .p]) (rest := []) (ks := [0, 3, 4, 5]) (env' := [(0, .pointer (some ⟨b_2, 0, none⟩)), (3, .slice A_17 (l_6 ++ [(⟨r_11.1, r_12.1, r_13.1⟩ : T_api_Step)]).length c_18), (4, .int .i64 r_3.1), (5, .int .i64 (wi64 (i_9 + 1)))]) (H' := [⟨1, b_2, [.string (bs r_13.2.S_), .bool r_13.2.Bad]⟩]) (ps := []) (by kernel_rfl) trivial ?_
      refine GoO.regionEnd ?_
      refine GoO.inLoop ?_
      exact GoO.sub (ks := [0, 3, 4, 5]) (hk := [0]) (bk := [0]) (by kernel_rfl) (by kernel_rfl) (by kernel_rfl) (ih0 r_13.2.S_ r_13.2.Bad (l_6 ++ [(⟨r_11.1, r_12.1, r_13.1⟩ : T_api_Step)]) (wi64 (i_9 + 1)) A_17 c_18)
    · refine GoO.exit' c73_16e rfl ?_
      refine GoO.seq' c73_27e ?_
      refine GoO.seq' c73_28e ?_
      refine GoO.region' (is := [0, 1, 2, 3]) c73_29e (by kernel_rfl) ?_
      refine GoO.exec (is := [0, 1, 2, 3]) (hs := [.p, .p, .p, .b 0]) (rest := []) (ks := [3, 32]) (env' := [(3, .slice A_7 l_6.length c_8), (32, .bool f_5)]) (H' := [⟨1, b_2, [.string (bs f_4), .bool f_5]⟩]) (ps := [b_2 = b_2]) (by kernel_rfl) (And.intro rfl trivial) ?_
      refine GoO.regionEnd ?_
      refine GoO.ite' c73_30e (by kernel_rfl) (fun h22 => ?_) (fun h22 => ?_)
      · refine GoO.seq' c73_31e ?_
        refine GoO.region' (is := [0]) c73_32e (by kernel_rfl) ?_
        refine GoO.exec (is := [0]) (hs := [.p]) (rest := []) (ks := [2]) (env' := [(2, .slice none ([] : List T_api_Step).length 0)]) (H' := [⟨1, b_2, [.string (bs f_4), .bool f_5]⟩]) (ps := []) (by kernel_rfl) trivial ?_
        refine GoO.regionEnd ?_
        refine GoO.nilOwn kT_api_Step 2 ?_
        exact GoO.ret' (h := c73_33e) (hs := []) (ps := []) (hk := [0]) (bk := [0]) Try.func73 (⟨none, 0⟩ : Option Addr × Nat) (by kernel_rfl) trivial (by kernel_rfl) (by kernel_rfl)
      · refine GoO.skip' c73_34e ?_
        refine GoO.seq' c73_35e ?_
        refine GoO.region' (is := [0, 1]) c73_36e (by kernel_rfl) ?_
        refine GoO.exec (is := [0, 1]) (hs := [.p, .p]) (rest := []) (ks := [2]) (env' := [(2, .slice A_7 l_6.length c_8)]) (H' := [⟨1, b_2, [.string (bs f_4), .bool f_5]⟩]) (ps := []) (by kernel_rfl) trivial ?_
        refine GoO.regionEnd ?_
        refine GoO.retag (t := 41) (u := 2) (j := 0) (hk := [0]) (bk := []) rfl rfl rfl rfl rfl rfl (by kernel_rfl) (by kernel_rfl) ?_
        exact GoO.ret' (h := c73_37e) (hs := []) (ps := []) (hk := [0]) (bk := [0]) Try.func73 (⟨A_7, c_8⟩ : Option Addr × Nat) (by kernel_rfl) trivial (by kernel_rfl) (by kernel_rfl)
theorem tontineref13_Read_ok (n : Nat) (r_1 : T_tontineref03_Reader) (b_2 : Nat) :
    Meets Try.prog 73 [.pointer (some ⟨b_2, 0, none⟩)] 1 [1] [⟨1, b_2, [.string (bs r_1.S_), .bool r_1.Bad]⟩] [] (tontineref13_Read.f n r_1) (tontineref13_Read.R b_2) := by
  refine Meets.of (c := c73_0) (n := 34) Try.func73 (by kernel_rfl) (by kernel_rfl) (by kernel_rfl) fun w0 S0 => ?_
  unfold tontineref13_Read.f
  show GoO (tontineref13_Read.cx b_2 w0 S0) [(0, .pointer (some ⟨b_2, 0, none⟩))] [⟨1, b_2, [.string (bs r_1.S_), .bool r_1.Bad]⟩] [] [.code c73_0] _
  refine GoO.seq' c73_0e ?_
  refine GoO.region' (is := [0]) c73_1e (by kernel_rfl) ?_
  refine GoO.exec (is := [0]) (hs := [.p]) (rest := []) (ks := [0]) (env' := [(0, .pointer (some ⟨b_2, 0, none⟩))]) (H' := [⟨1, b_2, [.string (bs r_1.S_), .bool r_1.Bad]⟩]) (ps := []) (by kernel_rfl) trivial ?_
  refine GoO.regionEnd ?_
  refine GoO.seq' c73_2e ?_
  refine GoO.region' (is := [0]) c73_3e (by kernel_rfl) ?_
  refine GoO.exec (is := [0]) (hs := [.p]) (rest := []) (ks := [0, 3]) (env' := [(0, .pointer (some ⟨b_2, 0, none⟩)), (3, .slice none ([] : List T_api_Step).length 0)]) (H' := [⟨1, b_2, [.string (bs r_1.S_), .bool r_1.Bad]⟩]) (ps := []) (by kernel_rfl) trivial ?_
  refine GoO.regionEnd ?_
  refine GoO.seq' c73_4e ?_
  refine GoO.region' (is := [0, 1, 2]) c73_5e (by kernel_rfl) ?_
  refine GoO.exec (is := [0]) (hs := [.p]) (rest := [1, 2]) (ks := [0, 3, 9]) (env' := [(0, .pointer (some ⟨b_2, 0, none⟩)), (3, .slice none ([] : List T_api_Step).length 0), (9, .pointer (some ⟨b_2, 0, none⟩))]) (H' := [⟨1, b_2, [.string (bs r_1.S_), .bool r_1.Bad]⟩]) (ps := []) (by kernel_rfl) trivial ?_
  refine OpTo.go (GoO.call rfl (by kernel_rfl) (by kernel_rfl) (tontineref03_Reader_Up_ok n r_1 64 b_2) [[0], [1]] [(1, 1)] [(1, 0)] [] (hks := []) (bks := []) (by kernel_rfl) (by kernel_rfl) (by kernel_rfl) (.inl rfl) rfl rfl (by kernel_rfl) (by kernel_rfl) _ (fun _ _ => rfl) _ _ (fun _ _ => rfl) (fun _ _ => rfl) (fun _ _ => by kernel_rfl) (fun _ _ => by kernel_rfl) (fun r_3 x_23 => ?_))
  refine GoO.shape (env' := [(0, .pointer (some ⟨b_2, 0, none⟩)), (3, .slice none ([] : List T_api_Step).length 0), (9, .pointer (some ⟨b_2, 0, none⟩)), (10, .int .i64 r_3.1)]) (H' := [⟨1, b_2, [.string (bs r_3.2.S_), .bool r_3.2.Bad]⟩]) (B' := []) (ks := [0, 3, 9, 10]) (by kernel_rfl) (by kernel_rfl) (by kernel_rfl) ?_
  refine GoO.exec (is := [2]) (hs := [.p]) (rest := []) (ks := [0, 3, 4]) (env' := [(0, .pointer (some ⟨b_2, 0, none⟩)), (3, .slice none ([] : List T_api_Step).length 0), (4, .int .i64 r_3.1)]) (H' := [⟨1, b_2, [.string (bs r_3.2.S_), .bool r_3.2.Bad]⟩]) (ps := []) (by kernel_rfl) trivial ?_
  refine GoO.regionEnd ?_
  refine GoO.seq' c73_6e ?_
  refine GoO.seq' c73_7e ?_
  refine GoO.region' (is := [0]) c73_8e (by kernel_rfl) ?_
  refine GoO.exec (is := [0]) (hs := [.p]) (rest := []) (ks := [0, 3, 4, 5]) (env' := [(0, .pointer (some ⟨b_2, 0, none⟩)), (3, .slice none ([] : List T_api_Step).length 0), (4, .int .i64 r_3.1), (5, .int .i64 0)]) (H' := [⟨1, b_2, [.string (bs r_3.2.S_), .bool r_3.2.Bad]⟩]) (ps := []) (by kernel_rfl) trivial ?_
  refine GoO.regionEnd ?_
  refine GoO.block' c73_9e ?_
  refine GoO.loop' c73_10e ?_
  refine GoO.nilOwn kT_api_Step 41 ?_
  exact GoO.sub (ks := [0, 3, 4, 5]) (hk := [0]) (bk := [0]) (by kernel_rfl) (by kernel_rfl) (by kernel_rfl) (tontineref13_Read_l0_ok n r_3 b_2 w0 S0 n r_3.2.S_ r_3.2.Bad ([] : List T_api_Step) 0 none 0)

/-! tontine/tontineref13.Check -/
noncomputable def c91_0 : Code := bodyOf Try.f91
noncomputable def c91_1 : Code := cdL c91_0
noncomputable def c91_2 : Code := cdR c91_0
noncomputable def c91_3 : Code := cdL c91_2
noncomputable def c91_4 : Code := cdR c91_2
noncomputable def c91_5 : Code := cdL c91_4
noncomputable def c91_6 : Code := cdL c91_5
noncomputable def c91_7 : Code := cdR c91_5
noncomputable def c91_8 : Code := cdL c91_7
noncomputable def c91_9 : Code := cdL c91_8
noncomputable def c91_10 : Code := cdL c91_9
noncomputable def c91_11 : Code := cdL c91_10
noncomputable def c91_12 : Code := cdR c91_10
noncomputable def c91_13 : Code := cdL c91_12
noncomputable def c91_14 : Code := cdR c91_12
noncomputable def c91_15 : Code := cdR c91_9
noncomputable def c91_16 : Code := cdL c91_15
noncomputable def c91_17 : Code := cdL c91_16
noncomputable def c91_18 : Code := cdL c91_17
noncomputable def c91_19 : Code := cdR c91_17
noncomputable def c91_20 : Code := cdR c91_15
noncomputable def c91_21 : Code := cdR c91_4
noncomputable def c91_22 : Code := cdL c91_21
noncomputable def c91_23 : Code := cdL c91_22
noncomputable def c91_24 : Code := cdR c91_22
noncomputable def c91_25 : Code := cdL c91_24
noncomputable def c91_26 : Code := cdL c91_25
noncomputable def c91_27 : Code := cdR c91_25
noncomputable def c91_28 : Code := cdR c91_24
noncomputable def c91_29 : Code := cdR c91_21
noncomputable def c91_30 : Code := cdL c91_29
noncomputable def c91_31 : Code := cdR c91_29
noncomputable def r91_1 : Array Oper := cdO c91_1
noncomputable def r91_3 : Array Oper := cdO c91_3
noncomputable def r91_6 : Array Oper := cdO c91_6
noncomputable def r91_11 : Array Oper := cdO c91_11
noncomputable def r91_18 : Array Oper := cdO c91_18
noncomputable def r91_19 : Array Oper := cdO c91_19
noncomputable def r91_20 : Array Oper := cdO c91_20
noncomputable def r91_23 : Array Oper := cdO c91_23
noncomputable def r91_26 : Array Oper := cdO c91_26
noncomputable def r91_30 : Array Oper := cdO c91_30
theorem c91_0e : c91_0 = .seq c91_1 c91_2 := by kernel_rfl
theorem c91_1e : c91_1 = .region 0 r91_1 false := by kernel_rfl
theorem c91_2e : c91_2 = .seq c91_3 c91_4 := by kernel_rfl
theorem c91_3e : c91_3 = .region 1 r91_3 false := by kernel_rfl
theorem c91_4e : c91_4 = .seq c91_5 c91_21 := by kernel_rfl
theorem c91_5e : c91_5 = .seq c91_6 c91_7 := by kernel_rfl
theorem c91_6e : c91_6 = .region 2 r91_6 false := by kernel_rfl
theorem c91_7e : c91_7 = .block 0 c91_8 := by kernel_rfl
theorem c91_8e : c91_8 = .loop c91_9 := by kernel_rfl
theorem c91_9e : c91_9 = .seq c91_10 c91_15 := by kernel_rfl
theorem c91_10e : c91_10 = .seq c91_11 c91_12 := by kernel_rfl
theorem c91_11e : c91_11 = .region 3 r91_11 false := by kernel_rfl
theorem c91_12e : c91_12 = .cond (cdC c91_12) c91_13 c91_14 := by kernel_rfl
theorem c91_13e : c91_13 = .skip := by kernel_rfl
theorem c91_14e : c91_14 = .exit 0 := by kernel_rfl
theorem c91_15e : c91_15 = .seq c91_16 c91_20 := by kernel_rfl
theorem c91_16e : c91_16 = .block 1 c91_17 := by kernel_rfl
theorem c91_17e : c91_17 = .seq c91_18 c91_19 := by kernel_rfl
theorem c91_18e : c91_18 = .region 5 r91_18 false := by kernel_rfl
theorem c91_19e : c91_19 = .region 6 r91_19 false := by kernel_rfl
theorem c91_20e : c91_20 = .region 4 r91_20 false := by kernel_rfl
theorem c91_21e : c91_21 = .seq c91_22 c91_29 := by kernel_rfl
theorem c91_22e : c91_22 = .seq c91_23 c91_24 := by kernel_rfl
theorem c91_23e : c91_23 = .region 7 r91_23 false := by kernel_rfl
theorem c91_24e : c91_24 = .cond (cdC c91_24) c91_25 c91_28 := by kernel_rfl
theorem c91_25e : c91_25 = .seq c91_26 c91_27 := by kernel_rfl
theorem c91_26e : c91_26 = .region 8 r91_26 false := by kernel_rfl
theorem c91_27e : c91_27 = .ret := by kernel_rfl
theorem c91_28e : c91_28 = .skip := by kernel_rfl
theorem c91_29e : c91_29 = .seq c91_30 c91_31 := by kernel_rfl
theorem c91_30e : c91_30 = .region 9 r91_30 false := by kernel_rfl
theorem c91_31e : c91_31 = .ret := by kernel_rfl
noncomputable def tontineref13_Check.R (A_2 : Option Addr) (c_3 : Nat) : Pst Int where
  ε := Unit
  v := fun r x => .int .i64 r
  H := fun r x => []
  B := fun r x => []
noncomputable def tontineref13_Check.cx (A_2 : Option Addr) (c_3 : Nat) (w0 : World) (S0 : Fam) : Cx Int := ⟨Try.prog, 91, Try.f91, 59, w0, S0, [], 0, tontineref13_Check.R A_2 c_3⟩
theorem tontineref13_Check_j2_ok (n : Nat) (L0 : Bool → Int → Option Int) (l_1 : (List T_api_Step)) (bad_6 : Bool) (i_7 : Int) (A_2 : Option Addr) (c_3 : Nat) (w0 : World) (S0 : Fam) (ih0 : ∀ (bad_6 : Bool) (i_7 : Int), GoO (tontineref13_Check.cx A_2 c_3 w0 S0) [(0, .slice A_2 l_1.length c_3), (3, .bool bad_6), (4, .int .i64 i_7)] [] [Rd 0 kT_api_Step A_2 c_3 l_1] [.code c91_9, .inLoop c91_9, .inBlock 0, .code c91_21] (L0 bad_6 i_7)) (bad_18 : Bool) :
    GoO (tontineref13_Check.cx A_2 c_3 w0 S0) [(0, .slice A_2 l_1.length c_3), (3, .bool bad_18), (4, .int .i64 i_7)] [] [Rd 0 kT_api_Step A_2 c_3 l_1] [.inBlock 1, .code c91_20, .inLoop c91_9, .inBlock 0, .code c91_21] (tontineref13_Check.j2 n L0 i_7 bad_18) := by
  unfold tontineref13_Check.j2
  refine GoO.inBlock ?_
  refine GoO.region' (is := [0, 1, 2]) c91_20e (by kernel_rfl) ?_
  refine GoO.exec (is := [0, 1, 2]) (hs := [.p, .p, .p]) (rest := []) (ks := [0, 3, 4]) (env' := [(0, .slice A_2 l_1.length c_3), (3, .bool bad_18), (4, .int .i64 (wi64 (i_7 + 1)))]) (H' := []) (ps := []) (by kernel_rfl) trivial ?_
  refine GoO.regionEnd ?_
  refine GoO.inLoop ?_
  exact GoO.sub (ks := [0, 3, 4]) (hk := []) (bk := [0]) (by kernel_rfl) (by kernel_rfl) (by kernel_rfl) (ih0 bad_18 (wi64 (i_7 + 1)))
theorem tontineref13_Check_j1_ok (n : Nat) (L0 : Bool → Int → Option Int) (l_1 : (List T_api_Step)) (bad_6 : Bool) (i_7 : Int) (A_2 : Option Addr) (c_3 : Nat) (w0 : World) (S0 : Fam) (ih0 : ∀ (bad_6 : Bool) (i_7 : Int), GoO (tontineref13_Check.cx A_2 c_3 w0 S0) [(0, .slice A_2 l_1.length c_3), (3, .bool bad_6), (4, .int .i64 i_7)] [] [Rd 0 kT_api_Step A_2 c_3 l_1] [.code c91_9, .inLoop c91_9, .inBlock 0, .code c91_21] (L0 bad_6 i_7)) (b_9 : Bool) :
    GoO (tontineref13_Check.cx A_2 c_3 w0 S0) [(0, .slice A_2 l_1.length c_3), (3, .bool bad_6), (4, .int .i64 i_7), (21, .bool b_9)] [] [Rd 0 kT_api_Step A_2 c_3 l_1] [.code c91_12, .code c91_15, .inLoop c91_9, .inBlock 0, .code c91_21] (tontineref13_Check.j1 n L0 l_1 bad_6 i_7 b_9) := by
  unfold tontineref13_Check.j1
  refine GoO.ite' c91_12e (by kernel_rfl) (fun h10 => ?_) (fun h10 => ?_)
  · refine GoO.skip' c91_13e ?_
    refine GoO.seq' c91_15e ?_
    refine GoO.block' c91_16e ?_
    refine GoO.seq' c91_17e ?_
    refine GoO.region' (is := [0, 1, 2, 3, 4, 5]) c91_18e (by kernel_rfl) ?_
    refine GoO.exec (is := [0, 1]) (hs := [.p, .p]) (rest := [2, 3, 4, 5]) (ks := [0, 4, 24, 25]) (env' := [(0, .slice A_2 l_1.length c_3), (4, .int .i64 i_7), (24, .slice A_2 l_1.length c_3), (25, .int .i64 i_7)]) (H' := []) (ps := []) (by kernel_rfl) trivial ?_
    refine GoO.guard (fun h11 => ?_)
    refine OpTo.go (GoO.idx (kk := .i64) (e := 160) (K := kT_api_Step) (A := A_2) (c := c_3) (xs := l_1) (iv := i_7) (j := 0) rfl (by kernel_rfl) (by kernel_rfl) (by kernel_rfl) (by kernel_rfl) rfl Reads.rd rfl h11.1 h11.2 (by decide) rfl ?_)
    refine OpTo.go (GoO.ldE' (K := kT_api_Step) (A := A_2) (c := c_3) (xs := l_1) (iN := i_7.toNat) (off := 0) (j := 0) rfl (by kernel_rfl) rfl Reads.rd (by first | exact idx_lt h11.1 h11.2 | (simp only [List.length_set]; exact idx_lt h11.1 h11.2)) (by decide) (Opn.flat _ _ _ _ _) (v := fun _ => .agg ⟨[.int .i64 ((rdL l_1 i_7).Part), .string (bs ((rdL l_1 i_7).Name)), .int .i64 ((rdL l_1 i_7).Budget)]⟩) (fun _ => by kernel_rfl) _ (fun _ => rfl) (fun _ => ?_))
    refine OpTo.go (GoO.new rfl 40 (cs := [.int .i64 0, .string (bs []), .int .i64 0]) (by kernel_rfl) _ (fun _ => rfl) (fun b_12 => ?_))
    refine GoO.exec (is := [5]) (hs := [.b 0]) (rest := []) (ks := [0, 4, 5]) (env' := [(0, .slice A_2 l_1.length c_3), (4, .int .i64 i_7), (5, .pointer (some ⟨b_12, 0, none⟩))]) (H' := [⟨40, b_12, [.int .i64 ((rdL l_1 i_7).Part), .string (bs ((rdL l_1 i_7).Name)), .int .i64 ((rdL l_1 i_7).Budget)]⟩]) (ps := [b_12 = b_12]) (by kernel_rfl) (And.intro rfl trivial) ?_
    refine GoO.regionEnd ?_
    refine GoO.region' (is := [0, 1, 2, 3, 4, 5, 6, 7, 8, 9, 10, 11, 12, 13, 14, 15, 16, 17, 18, 19, 20, 21, 22, 23, 24, 25, 26, 27, 28, 29, 30]) c91_19e (by kernel_rfl) ?_
    refine GoO.exec (is := [0, 1, 2, 3]) (hs := [.p, .b 0, .p, .p]) (rest := [4, 5, 6, 7, 8, 9, 10, 11, 12, 13, 14, 15, 16, 17, 18, 19, 20, 21, 22, 23, 24, 25, 26, 27, 28, 29, 30]) (ks := [0, 4, 5, 31]) (env' := [(0, .slice A_2 l_1.length c_3), (4, .int .i64 i_7), (5, .pointer (some ⟨b_12, 0, none⟩)), (31, .bool (decide (((rdL l_1 i_7).Part) < 0)))]) (H' := [⟨40, b_12, [.int .i64 ((rdL l_1 i_7).Part), .string (bs ((rdL l_1 i_7).Name)), .int .i64 ((rdL l_1 i_7).Budget)]⟩]) (ps := [b_12 = b_12]) (by kernel_rfl) (And.intro rfl trivial) ?_
    refine GoO.bsplit (t := 31) (by kernel_rfl) (fun h13 => ?_) (fun h13 => ?_)
    · refine GoO.exec (is := [4, 5, 6, 7, 8, 9, 10, 11, 12, 13, 14, 15, 16, 17, 18, 19, 20, 21, 22, 23, 24, 25, 26, 27, 28, 29, 30]) (hs := [.p, .p, .p, .p, .p, .p, .p, .p, .p, .p, .p, .p, .p, .p, .p, .p, .p, .p, .p, .p, .p, .p, .p, .p, .p, .p, .p]) (rest := []) (ks := [0, 3, 4]) (env' := [(0, .slice A_2 l_1.length c_3), (3, .bool true), (4, .int .i64 i_7)]) (H' := [⟨40, b_12, [.int .i64 ((rdL l_1 i_7).Part), .string (bs ((rdL l_1 i_7).Name)), .int .i64 ((rdL l_1 i_7).Budget)]⟩]) (ps := []) (by kernel_rfl) trivial ?_
      refine GoO.regionEnd ?_
      exact GoO.sub (ks := [0, 3, 4]) (hk := []) (bk := [0]) (by kernel_rfl) (by kernel_rfl) (by kernel_rfl) (tontineref13_Check_j2_ok n L0 l_1 bad_6 i_7 A_2 c_3 w0 S0 ih0 true)
    · refine GoO.exec (is := [4, 5, 6, 7, 8]) (hs := [.p, .b 0, .p, .p, .p]) (rest := [9, 10, 11, 12, 13, 14, 15, 16, 17, 18, 19, 20, 21, 22, 23, 24, 25, 26, 27, 28, 29, 30]) (ks := [0, 4, 5, 36]) (env' := [(0, .slice A_2 l_1.length c_3), (4, .int .i64 i_7), (5, .pointer (some ⟨b_12, 0, none⟩)), (36, .bool (decide (((rdL l_1 i_7).Part) > 3)))]) (H' := [⟨40, b_12, [.int .i64 ((rdL l_1 i_7).Part), .string (bs ((rdL l_1 i_7).Name)), .int .i64 ((rdL l_1 i_7).Budget)]⟩]) (ps := [b_12 = b_12]) (by kernel_rfl) (And.intro rfl trivial) ?_
      refine GoO.bsplit (t := 36) (by kernel_rfl) (fun h14 => ?_) (fun h14 => ?_)
      · refine GoO.exec (is := [9, 10, 11, 12, 13, 14, 15, 16, 17, 18, 19, 20, 21, 22, 23, 24, 25, 26, 27, 28, 29, 30]) (hs := [.p, .p, .p, .p, .p, .p, .p, .p, .p, .p, .p, .p, .p, .p, .p, .p, .p, .p, .p, .p, .p, .p]) (rest := []) (ks := [0, 3, 4]) (env' := [(0, .slice A_2 l_1.length c_3), (3, .bool true), (4, .int .i64 i_7)]) (H' := [⟨40, b_12, [.int .i64 ((rdL l_1 i_7).Part), .string (bs ((rdL l_1 i_7).Name)), .int .i64 ((rdL l_1 i_7).Budget)]⟩]) (ps := []) (by kernel_rfl) trivial ?_
        refine GoO.regionEnd ?_
        exact GoO.sub (ks := [0, 3, 4]) (hk := []) (bk := [0]) (by kernel_rfl) (by kernel_rfl) (by kernel_rfl) (tontineref13_Check_j2_ok n L0 l_1 bad_6 i_7 A_2 c_3 w0 S0 ih0 true)
      · refine GoO.exec (is := [9, 10, 11, 12, 13, 14]) (hs := [.p, .b 0, .p, .p, .p, .p]) (rest := [15, 16, 17, 18, 19, 20, 21, 22, 23, 24, 25, 26, 27, 28, 29, 30]) (ks := [0, 4, 5, 42]) (env' := [(0, .slice A_2 l_1.length c_3), (4, .int .i64 i_7), (5, .pointer (some ⟨b_12, 0, none⟩)), (42, .bool (decide ((((rdL l_1 i_7).Name).length : Int) < 1)))]) (H' := [⟨40, b_12, [.int .i64 ((rdL l_1 i_7).Part), .string (bs ((rdL l_1 i_7).Name)), .int .i64 ((rdL l_1 i_7).Budget)]⟩]) (ps := [b_12 = b_12]) (by kernel_rfl) (And.intro rfl trivial) ?_
        refine GoO.bsplit (t := 42) (by kernel_rfl) (fun h15 => ?_) (fun h15 => ?_)
        · refine GoO.exec (is := [15, 16, 17, 18, 19, 20, 21, 22, 23, 24, 25, 26, 27, 28, 29, 30]) (hs := [.p, .p, .p, .p, .p, .p, .p, .p, .p, .p, .p, .p, .p, .p, .p, .p]) (rest := []) (ks := [0, 3, 4]) (env' := [(0, .slice A_2 l_1.length c_3), (3, .bool true), (4, .int .i64 i_7)]) (H' := [⟨40, b_12, [.int .i64 ((rdL l_1 i_7).Part), .string (bs ((rdL l_1 i_7).Name)), .int .i64 ((rdL l_1 i_7).Budget)]⟩]) (ps := []) (by kernel_rfl) trivial ?_
          refine GoO.regionEnd ?_
          exact GoO.sub (ks := [0, 3, 4]) (hk := []) (bk := [0]) (by kernel_rfl) (by kernel_rfl) (by kernel_rfl) (tontineref13_Check_j2_ok n L0 l_1 bad_6 i_7 A_2 c_3 w0 S0 ih0 true)
        · refine GoO.exec (is := [15, 16, 17, 18, 19, 20]) (hs := [.p, .b 0, .p, .p, .p, .p]) (rest := [21, 22, 23, 24, 25, 26, 27, 28, 29, 30]) (ks := [0, 4, 5, 48]) (env' := [(0, .slice A_2 l_1.length c_3), (4, .int .i64 i_7), (5, .pointer (some ⟨b_12, 0, none⟩)), (48, .bool (decide ((((rdL l_1 i_7).Name).length : Int) > 16)))]) (H' := [⟨40, b_12, [.int .i64 ((rdL l_1 i_7).Part), .string (bs ((rdL l_1 i_7).Name)), .int .i64 ((rdL l_1 i_7).Budget)]⟩]) (ps := [b_12 = b_12]) (by kernel_rfl) (And.intro rfl trivial) ?_
          refine GoO.bsplit (t := 48) (by kernel_rfl) (fun h16 => ?_) (fun h16 => ?_)
          · refine GoO.exec (is := [21, 22, 23, 24, 25, 26, 27, 28, 29, 30]) (hs := [.p, .p, .p, .p, .p, .p, .p, .p, .p, .p]) (rest := []) (ks := [0, 3, 4]) (env' := [(0, .slice A_2 l_1.length c_3), (3, .bool true), (4, .int .i64 i_7)]) (H' := [⟨40, b_12, [.int .i64 ((rdL l_1 i_7).Part), .string (bs ((rdL l_1 i_7).Name)), .int .i64 ((rdL l_1 i_7).Budget)]⟩]) (ps := []) (by kernel_rfl) trivial ?_
            refine GoO.regionEnd ?_
            exact GoO.sub (ks := [0, 3, 4]) (hk := []) (bk := [0]) (by kernel_rfl) (by kernel_rfl) (by kernel_rfl) (tontineref13_Check_j2_ok n L0 l_1 bad_6 i_7 A_2 c_3 w0 S0 ih0 true)
          · refine GoO.exec (is := [21, 22, 23, 24, 25]) (hs := [.p, .b 0, .p, .p, .p]) (rest := [26, 27, 28, 29, 30]) (ks := [0, 4, 5, 53]) (env' := [(0, .slice A_2 l_1.length c_3), (4, .int .i64 i_7), (5, .pointer (some ⟨b_12, 0, none⟩)), (53, .bool (decide (((rdL l_1 i_7).Budget) < 1)))]) (H' := [⟨40, b_12, [.int .i64 ((rdL l_1 i_7).Part), .string (bs ((rdL l_1 i_7).Name)), .int .i64 ((rdL l_1 i_7).Budget)]⟩]) (ps := [b_12 = b_12]) (by kernel_rfl) (And.intro rfl trivial) ?_
            refine GoO.bsplit (t := 53) (by kernel_rfl) (fun h17 => ?_) (fun h17 => ?_)
            · refine GoO.exec (is := [26, 27, 28, 29, 30]) (hs := [.p, .p, .p, .p, .p]) (rest := []) (ks := [0, 3, 4]) (env' := [(0, .slice A_2 l_1.length c_3), (3, .bool true), (4, .int .i64 i_7)]) (H' := [⟨40, b_12, [.int .i64 ((rdL l_1 i_7).Part), .string (bs ((rdL l_1 i_7).Name)), .int .i64 ((rdL l_1 i_7).Budget)]⟩]) (ps := []) (by kernel_rfl) trivial ?_
              refine GoO.regionEnd ?_
              exact GoO.sub (ks := [0, 3, 4]) (hk := []) (bk := [0]) (by kernel_rfl) (by kernel_rfl) (by kernel_rfl) (tontineref13_Check_j2_ok n L0 l_1 bad_6 i_7 A_2 c_3 w0 S0 ih0 true)
            · refine GoO.exec (is := [26, 27, 28, 29, 30]) (hs := [.p, .b 0, .p, .p, .p]) (rest := []) (ks := [0, 3, 4]) (env' := [(0, .slice A_2 l_1.length c_3), (3, .bool (decide (((rdL l_1 i_7).Budget) > 9))), (4, .int .i64 i_7)]) (H' := [⟨40, b_12, [.int .i64 ((rdL l_1 i_7).Part), .string (bs ((rdL l_1 i_7).Name)), .int .i64 ((rdL l_1 i_7).Budget)]⟩]) (ps := [b_12 = b_12]) (by kernel_rfl) (And.intro rfl trivial) ?_
              refine GoO.regionEnd ?_
              exact GoO.sub (ks := [0, 3, 4]) (hk := []) (bk := [0]) (by kernel_rfl) (by kernel_rfl) (by kernel_rfl) (tontineref13_Check_j2_ok n L0 l_1 bad_6 i_7 A_2 c_3 w0 S0 ih0 (decide (((rdL l_1 i_7).Budget) > 9)))
  · refine GoO.exit' c91_14e rfl ?_
    refine GoO.seq' c91_21e ?_
    refine GoO.seq' c91_22e ?_
    refine GoO.region' (is := [0]) c91_23e (by kernel_rfl) ?_
    refine GoO.exec (is := [0]) (hs := [.p]) (rest := []) (ks := [58]) (env' := [(58, .bool bad_6)]) (H' := []) (ps := []) (by kernel_rfl) trivial ?_
    refine GoO.regionEnd ?_
    refine GoO.ite' c91_24e (by kernel_rfl) (fun h19 => ?_) (fun h19 => ?_)
    · refine GoO.seq' c91_25e ?_
      refine GoO.region' (is := [0]) c91_26e (by kernel_rfl) ?_
      refine GoO.exec (is := [0]) (hs := [.p]) (rest := []) (ks := [2]) (env' := [(2, .int .i64 44)]) (H' := []) (ps := []) (by kernel_rfl) trivial ?_
      refine GoO.regionEnd ?_
      exact GoO.ret' (h := c91_27e) (hs := []) (ps := []) (hk := []) (bk := []) Try.func91 () (by kernel_rfl) trivial (by kernel_rfl) (by kernel_rfl)
    · refine GoO.skip' c91_28e ?_
      refine GoO.seq' c91_29e ?_
      refine GoO.region' (is := [0]) c91_30e (by kernel_rfl) ?_
      refine GoO.exec (is := [0]) (hs := [.p]) (rest := []) (ks := [2]) (env' := [(2, .int .i64 0)]) (H' := []) (ps := []) (by kernel_rfl) trivial ?_
      refine GoO.regionEnd ?_
      exact GoO.ret' (h := c91_31e) (hs := []) (ps := []) (hk := []) (bk := []) Try.func91 () (by kernel_rfl) trivial (by kernel_rfl) (by kernel_rfl)
theorem tontineref13_Check_l0_ok (n : Nat) (l_1 : (List T_api_Step)) (A_2 : Option Addr) (c_3 : Nat) (w0 : World) (S0 : Fam) :
    ∀ (k : Nat) (bad_6 : Bool) (i_7 : Int), GoO (tontineref13_Check.cx A_2 c_3 w0 S0) [(0, .slice A_2 l_1.length c_3), (3, .bool bad_6), (4, .int .i64 i_7)] [] [Rd 0 kT_api_Step A_2 c_3 l_1] [.code c91_9, .inLoop c91_9, .inBlock 0, .code c91_21] (tontineref13_Check.l0 n l_1 k bad_6 i_7) := by
  intro k
  induction k with
  | zero => intros; rw [tontineref13_Check.l0.eq_1]; exact GoO.stop
  | succ k ih0 =>
    intro bad_6 i_7
    rw [tontineref13_Check.l0.eq_2]
    refine GoO.seq' c91_9e ?_
    refine GoO.seq' c91_10e ?_
    refine GoO.region' (is := [0, 1, 2, 3, 4, 5, 6, 7]) c91_11e (by kernel_rfl) ?_
    refine GoO.exec (is := [0, 1, 2, 3, 4]) (hs := [.p, .p, .p, .p, .p]) (rest := [5, 6, 7]) (ks := [0, 3, 4, 18]) (env' := [(0, .slice A_2 l_1.length c_3), (3, .bool bad_6), (4, .int .i64 i_7), (18, .bool (decide (i_7 < (l_1.length : Int))))]) (H' := []) (ps := []) (by kernel_rfl) trivial ?_
    refine GoO.bsplit (t := 18) (by kernel_rfl) (fun h8 => ?_) (fun h8 => ?_)
    · refine GoO.exec (is := [5, 6, 7]) (hs := [.p, .p, .p]) (rest := []) (ks := [0, 3, 4, 21]) (env' := [(0, .slice A_2 l_1.length c_3), (3, .bool bad_6), (4, .int .i64 i_7), (21, .bool (!bad_6))]) (H' := []) (ps := []) (by kernel_rfl) trivial ?_
      refine GoO.regionEnd ?_
      exact GoO.sub (ks := [0, 3, 4, 21]) (hk := []) (bk := [0]) (by kernel_rfl) (by kernel_rfl) (by kernel_rfl) (tontineref13_Check_j1_ok n (tontineref13_Check.l0 n l_1 k) l_1 bad_6 i_7 A_2 c_3 w0 S0 ih0 (!bad_6))
    · refine GoO.exec (is := [5, 6, 7]) (hs := [.p, .p, .p]) (rest := []) (ks := [0, 3, 4, 21]) (env' := [(0, .slice A_2 l_1.length c_3), (3, .bool bad_6), (4, .int .i64 i_7), (21, .bool false)]) (H' := []) (ps := []) (by kernel_rfl) trivial ?_
      refine GoO.regionEnd ?_
      exact GoO.sub (ks := [0, 3, 4, 21]) (hk := []) (bk := [0]) (by kernel_rfl) (by kernel_rfl) (by kernel_rfl) (tontineref13_Check_j1_ok n (tontineref13_Check.l0 n l_1 k) l_1 bad_6 i_7 A_2 c_3 w0 S0 ih0 false)
theorem tontineref13_Check_j0_ok (n : Nat) (l_1 : (List T_api_Step)) (A_2 : Option Addr) (c_3 : Nat) (w0 : World) (S0 : Fam) (bad_5 : Bool) :
    GoO (tontineref13_Check.cx A_2 c_3 w0 S0) [(0, .slice A_2 l_1.length c_3), (3, .bool bad_5)] [] [Rd 0 kT_api_Step A_2 c_3 l_1] [.code c91_4] (tontineref13_Check.j0 n l_1 bad_5) := by
  unfold tontineref13_Check.j0
  refine GoO.seq' c91_4e ?_
  refine GoO.seq' c91_5e ?_
  refine GoO.region' (is := [0]) c91_6e (by kernel_rfl) ?_
  refine GoO.exec (is := [0]) (hs := [.p]) (rest := []) (ks := [0, 3, 4]) (env' := [(0, .slice A_2 l_1.length c_3), (3, .bool bad_5), (4, .int .i64 0)]) (H' := []) (ps := []) (by kernel_rfl) trivial ?_
  refine GoO.regionEnd ?_
  refine GoO.block' c91_7e ?_
  refine GoO.loop' c91_8e ?_
  exact GoO.sub (ks := [0, 3, 4]) (hk := []) (bk := [0]) (by kernel_rfl) (by kernel_rfl) (by kernel_rfl) (tontineref13_Check_l0_ok n l_1 A_2 c_3 w0 S0 n bad_5 0)
theorem tontineref13_Check_ok (n : Nat) (l_1 : (List T_api_Step)) (A_2 : Option Addr) (c_3 : Nat) :
    Meets Try.prog 91 [.slice A_2 l_1.length c_3] 0 [] [] [Rd 0 kT_api_Step A_2 c_3 l_1] (tontineref13_Check.f n l_1) (tontineref13_Check.R A_2 c_3) := by
  refine Meets.of (c := c91_0) (n := 59) Try.func91 (by kernel_rfl) (by kernel_rfl) (by kernel_rfl) fun w0 S0 => ?_
  unfold tontineref13_Check.f
  show GoO (tontineref13_Check.cx A_2 c_3 w0 S0) [(0, .slice A_2 l_1.length c_3)] [] [Rd 0 kT_api_Step A_2 c_3 l_1] [.code c91_0] _
  refine GoO.seq' c91_0e ?_
  refine GoO.region' (is := [0]) c91_1e (by kernel_rfl) ?_
  refine GoO.exec (is := [0]) (hs := [.p]) (rest := []) (ks := [0]) (env' := [(0, .slice A_2 l_1.length c_3)]) (H' := []) (ps := []) (by kernel_rfl) trivial ?_
  refine GoO.regionEnd ?_
  refine GoO.seq' c91_2e ?_
  refine GoO.region' (is := [0, 1, 2, 3, 4, 5, 6, 7, 8]) c91_3e (by kernel_rfl) ?_
  refine GoO.exec (is := [0, 1, 2, 3]) (hs := [.p, .p, .p, .p]) (rest := [4, 5, 6, 7, 8]) (ks := [0, 9]) (env' := [(0, .slice A_2 l_1.length c_3), (9, .bool ((l_1.length : Int) == 0))]) (H' := []) (ps := []) (by kernel_rfl) trivial ?_
  refine GoO.bsplit (t := 9) (by kernel_rfl) (fun h4 => ?_) (fun h4 => ?_)
  · refine GoO.exec (is := [4, 5, 6, 7, 8]) (hs := [.p, .p, .p, .p, .p]) (rest := []) (ks := [0, 3]) (env' := [(0, .slice A_2 l_1.length c_3), (3, .bool true)]) (H' := []) (ps := []) (by kernel_rfl) trivial ?_
    refine GoO.regionEnd ?_
    exact GoO.sub (ks := [0, 3]) (hk := []) (bk := [0]) (by kernel_rfl) (by kernel_rfl) (by kernel_rfl) (tontineref13_Check_j0_ok n l_1 A_2 c_3 w0 S0 true)
  · refine GoO.exec (is := [4, 5, 6, 7, 8]) (hs := [.p, .p, .p, .p, .p]) (rest := []) (ks := [0, 3]) (env' := [(0, .slice A_2 l_1.length c_3), (3, .bool (decide ((l_1.length : Int) > 64)))]) (H' := []) (ps := []) (by kernel_rfl) trivial ?_
    refine GoO.regionEnd ?_
    exact GoO.sub (ks := [0, 3]) (hk := []) (bk := [0]) (by kernel_rfl) (by kernel_rfl) (by kernel_rfl) (tontineref13_Check_j0_ok n l_1 A_2 c_3 w0 S0 (decide ((l_1.length : Int) > 64)))

/-! tontine/tontineref16.bare -/
noncomputable def c99_0 : Code := bodyOf Try.f99
noncomputable def c99_1 : Code := cdL c99_0
noncomputable def c99_2 : Code := cdR c99_0
noncomputable def c99_3 : Code := cdL c99_2
noncomputable def c99_4 : Code := cdR c99_2
noncomputable def r99_1 : Array Oper := cdO c99_1
noncomputable def r99_3 : Array Oper := cdO c99_3
theorem c99_0e : c99_0 = .seq c99_1 c99_2 := by kernel_rfl
theorem c99_1e : c99_1 = .region 0 r99_1 false := by kernel_rfl
theorem c99_2e : c99_2 = .seq c99_3 c99_4 := by kernel_rfl
theorem c99_3e : c99_3 = .region 1 r99_3 false := by kernel_rfl
end Go.GL
