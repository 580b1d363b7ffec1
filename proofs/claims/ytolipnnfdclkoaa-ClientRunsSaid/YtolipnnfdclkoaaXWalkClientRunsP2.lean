import Derived.Test.YtolipnnfdclkoaaXWalkClientRunsP1
import Derived.Test.YtolipnnfdclkoaaXKindsT2
import Derived.Test.YtolipnnfdclkoaaProg
set_option linter.unusedVariables false
set_option linter.unusedSimpArgs false
set_option maxRecDepth 100000
namespace Go.GL
open Go Go.Proofs
theorem pack_Reader_Done_ok (n : Nat) (r_1 : T_pack_Reader) (b_2 : Nat) :
    Meets Try.prog 82 [vP b_2] 1 [] [⟨1, b_2, [.string (bs r_1.s), .bool r_1.bad]⟩] [] (pack_Reader_Done.f n r_1) (pack_Reader_Done.R b_2) := by
  refine Meets.of (c := c82_0) (n := 15) Try.func82 (by kernel_rfl) (by kernel_rfl) (by kernel_rfl) fun w0 S0 => ?_
  unfold pack_Reader_Done.f
  show GoO (pack_Reader_Done.cx b_2 w0 S0) [(0, vP b_2)] [⟨1, b_2, [.string (bs r_1.s), .bool r_1.bad]⟩] [] [.code c82_0] _
  refine GoO.seq' c82_0e ?_
  refine GoO.region' (is := [0]) c82_1e (by kernel_rfl) ?_
  refine GoO.exec (is := [0]) (hs := [.p]) (rest := []) (ks := [0]) (env' := [(0, vP b_2)]) (H' := [⟨1, b_2, [.string (bs r_1.s), .bool r_1.bad]⟩]) (ps := []) (by kernel_rfl) trivial ?_
  refine GoO.regionEnd ?_
  refine GoO.seq' c82_2e ?_
  refine GoO.region' (is := [0, 1, 2, 3, 4, 5, 6]) c82_3e (by kernel_rfl) ?_
  refine GoO.exec (is := [0]) (hs := [.p]) (rest := [1, 2, 3, 4, 5, 6]) (ks := [6]) (env' := [(6, vP b_2)]) (H' := [⟨1, b_2, [.string (bs r_1.s), .bool r_1.bad]⟩]) (ps := []) (by kernel_rfl) trivial ?_
  refine OpTo.go (GoO.call rfl (by kernel_rfl) (by kernel_rfl) (pack_Reader_Left_ok n r_1 b_2) [[0], [1]] [] [(1, 0)] [] (hks := [0]) (bks := []) (by kernel_rfl) (by kernel_rfl) (by kernel_rfl) (.inl rfl) rfl rfl (by kernel_rfl) (by kernel_rfl) _ (fun _ _ => rfl) _ _ (fun _ _ => rfl) (fun _ _ => rfl) (fun _ _ => by kernel_rfl) (fun _ _ => by kernel_rfl) (fun r_3 x_5 => ?_))
  refine GoO.shape (env' := [(6, vP b_2), (7, .tuple ⟨[vI r_3.1, .bool r_3.2]⟩)]) (H' := [⟨1, b_2, [.string (bs r_1.s), .bool r_1.bad]⟩]) (B' := []) (ks := [6, 7]) (by kernel_rfl) (by kernel_rfl) (by kernel_rfl) ?_
  refine GoO.exec (is := [2, 3, 4, 5, 6]) (hs := [.p, .p, .p, .p, .p]) (rest := []) (ks := [3, 4]) (env' := [(3, vI r_3.1), (4, .bool r_3.2)]) (H' := [⟨1, b_2, [.string (bs r_1.s), .bool r_1.bad]⟩]) (ps := []) (by kernel_rfl) trivial ?_
  refine GoO.regionEnd ?_
  refine GoO.seq' c82_4e ?_
  refine GoO.region' (is := [0, 1, 2, 3, 4, 5]) c82_5e (by kernel_rfl) ?_
  refine GoO.exec (is := [0, 1, 2]) (hs := [.p, .p, .p]) (rest := [3, 4, 5]) (ks := [4, 12]) (env' := [(4, .bool r_3.2), (12, .bool (r_3.1 == 0))]) (H' := [⟨1, b_2, [.string (bs r_1.s), .bool r_1.bad]⟩]) (ps := []) (by kernel_rfl) trivial ?_
  refine GoO.bsplit (t := 12) (by kernel_rfl) (fun h4 => ?_) (fun h4 => ?_)
  · refine GoO.exec (is := [3, 4, 5]) (hs := [.p, .p, .p]) (rest := []) (ks := [2]) (env' := [(2, .bool r_3.2)]) (H' := [⟨1, b_2, [.string (bs r_1.s), .bool r_1.bad]⟩]) (ps := []) (by kernel_rfl) trivial ?_
    refine GoO.regionEnd ?_
    exact GoO.ret' (h := c82_6e) (hs := []) (ps := []) (hk := []) (bk := []) Try.func82 () (by kernel_rfl) trivial (by kernel_rfl) (by kernel_rfl)
  · refine GoO.exec (is := [3, 4, 5]) (hs := [.p, .p, .p]) (rest := []) (ks := [2]) (env' := [(2, .bool false)]) (H' := [⟨1, b_2, [.string (bs r_1.s), .bool r_1.bad]⟩]) (ps := []) (by kernel_rfl) trivial ?_
    refine GoO.regionEnd ?_
    exact GoO.ret' (h := c82_6e) (hs := []) (ps := []) (hk := []) (bk := []) Try.func82 () (by kernel_rfl) trivial (by kernel_rfl) (by kernel_rfl)
/-! tontine/command.Said -/
noncomputable def c70_0 : Code := bodyOf Try.f70
noncomputable def c70_1 : Code := cdL c70_0
noncomputable def c70_2 : Code := cdR c70_0
noncomputable def c70_3 : Code := cdL c70_2
noncomputable def c70_4 : Code := cdR c70_2
noncomputable def c70_5 : Code := cdL c70_4
noncomputable def c70_6 : Code := cdR c70_4
noncomputable def c70_7 : Code := cdL c70_6
noncomputable def c70_8 : Code := cdR c70_6
noncomputable def c70_9 : Code := cdL c70_8
noncomputable def c70_10 : Code := cdR c70_8
noncomputable def c70_11 : Code := cdL c70_10
noncomputable def c70_12 : Code := cdL c70_11
noncomputable def c70_13 : Code := cdR c70_11
noncomputable def c70_14 : Code := cdL c70_13
noncomputable def c70_15 : Code := cdL c70_14
noncomputable def c70_16 : Code := cdR c70_14
noncomputable def c70_17 : Code := cdR c70_13
noncomputable def c70_18 : Code := cdR c70_10
noncomputable def c70_19 : Code := cdL c70_18
noncomputable def c70_20 : Code := cdR c70_18
noncomputable def r70_1 : Array Oper := cdO c70_1
noncomputable def r70_3 : Array Oper := cdO c70_3
noncomputable def r70_5 : Array Oper := cdO c70_5
noncomputable def r70_7 : Array Oper := cdO c70_7
noncomputable def r70_9 : Array Oper := cdO c70_9
noncomputable def r70_12 : Array Oper := cdO c70_12
noncomputable def r70_15 : Array Oper := cdO c70_15
noncomputable def r70_19 : Array Oper := cdO c70_19
theorem c70_0e : c70_0 = .seq c70_1 c70_2 := by kernel_rfl
theorem c70_1e : c70_1 = .region 0 r70_1 false := by kernel_rfl
theorem c70_2e : c70_2 = .seq c70_3 c70_4 := by kernel_rfl
theorem c70_3e : c70_3 = .region 1 r70_3 false := by kernel_rfl
theorem c70_4e : c70_4 = .seq c70_5 c70_6 := by kernel_rfl
theorem c70_5e : c70_5 = .region 2 r70_5 false := by kernel_rfl
theorem c70_6e : c70_6 = .seq c70_7 c70_8 := by kernel_rfl
theorem c70_7e : c70_7 = .region 3 r70_7 false := by kernel_rfl
theorem c70_8e : c70_8 = .seq c70_9 c70_10 := by kernel_rfl
theorem c70_9e : c70_9 = .region 4 r70_9 false := by kernel_rfl
theorem c70_10e : c70_10 = .seq c70_11 c70_18 := by kernel_rfl
theorem c70_11e : c70_11 = .seq c70_12 c70_13 := by kernel_rfl
theorem c70_12e : c70_12 = .region 5 r70_12 false := by kernel_rfl
theorem c70_13e : c70_13 = .cond (cdC c70_13) c70_14 c70_17 := by kernel_rfl
theorem c70_14e : c70_14 = .seq c70_15 c70_16 := by kernel_rfl
theorem c70_15e : c70_15 = .region 6 r70_15 false := by kernel_rfl
theorem c70_16e : c70_16 = .ret := by kernel_rfl
theorem c70_17e : c70_17 = .skip := by kernel_rfl
theorem c70_18e : c70_18 = .seq c70_19 c70_20 := by kernel_rfl
theorem c70_19e : c70_19 = .region 7 r70_19 false := by kernel_rfl
theorem c70_20e : c70_20 = .ret := by kernel_rfl
noncomputable def command_Said.R : Pst (T_api_Reply × Int) where
  ε := Unit
  v := fun r x => .tuple ⟨[.agg ⟨[vI r.1.Err, vU r.1.Num, vU r.1.Extra]⟩, vI r.2]⟩
  H := fun r x => []
  B := fun r x => []
noncomputable def command_Said.cx (w0 : World) (S0 : Fam) : Cx (T_api_Reply × Int) := ⟨Try.prog, 70, Try.f70, 22, w0, S0, [], 0, command_Said.R⟩
theorem command_Said_ok (n : Nat) (s_1 : (List UInt8)) :
    Meets Try.prog 70 [.string (bs s_1)] 0 [] [] [] (command_Said.f n s_1) (command_Said.R) := by
  refine Meets.of (c := c70_0) (n := 22) Try.func70 (by kernel_rfl) (by kernel_rfl) (by kernel_rfl) fun w0 S0 => ?_
  unfold command_Said.f
  show GoO (command_Said.cx w0 S0) [(0, .string (bs s_1))] [] [] [.code c70_0] _
  refine GoO.seq' c70_0e ?_
  refine GoO.region' (is := [0, 1]) c70_1e (by kernel_rfl) ?_
  refine OpTo.go (GoO.new rfl 40 (cs := [vI 0, vU 0, vU 0]) (by kernel_rfl) _ (fun _ => rfl) (fun b_2 => ?_))
  refine GoO.exec (is := [1]) (hs := [.p]) (rest := []) (ks := [0, 2]) (env' := [(0, .string (bs s_1)), (2, vP b_2)]) (H' := [⟨40, b_2, [vI 0, vU 0, vU 0]⟩]) (ps := []) (by kernel_rfl) trivial ?_
  refine GoO.regionEnd ?_
  refine GoO.seq' c70_2e ?_
  refine GoO.region' (is := [0, 1, 2]) c70_3e (by kernel_rfl) ?_
  refine GoO.exec (is := [0]) (hs := [.p]) (rest := [1, 2]) (ks := [2, 6]) (env' := [(2, vP b_2), (6, .string (bs s_1))]) (H' := [⟨40, b_2, [vI 0, vU 0, vU 0]⟩]) (ps := []) (by kernel_rfl) trivial ?_
  refine OpTo.go (GoO.call rfl (by kernel_rfl) (by kernel_rfl) (pack_From_ok n s_1) [[0]] [(41, 1)] [] [] (hks := [0]) (bks := []) (by kernel_rfl) (by kernel_rfl) (by kernel_rfl) (.inl rfl) rfl rfl (by kernel_rfl) (by kernel_rfl) _ (fun _ _ => rfl) _ _ (fun _ _ => rfl) (fun _ _ => rfl) (fun _ _ => by kernel_rfl) (fun _ _ => by kernel_rfl) (fun r_3 b_4 => ?_))
  refine GoO.shape (env' := [(2, vP b_2), (6, .string (bs s_1)), (7, vP b_4)]) (H' := [⟨41, b_4, [.string (bs r_3.s), .bool r_3.bad]⟩, ⟨40, b_2, [vI 0, vU 0, vU 0]⟩]) (B' := []) (ks := [2, 6, 7]) (by kernel_rfl) (by kernel_rfl) (by kernel_rfl) ?_
  refine GoO.exec (is := [2]) (hs := [.p]) (rest := []) (ks := [2, 4]) (env' := [(2, vP b_2), (4, vP b_4)]) (H' := [⟨41, b_4, [.string (bs r_3.s), .bool r_3.bad]⟩, ⟨40, b_2, [vI 0, vU 0, vU 0]⟩]) (ps := []) (by kernel_rfl) trivial ?_
  refine GoO.regionEnd ?_
  refine GoO.seq' c70_4e ?_
  refine GoO.region' (is := [0, 1, 2, 3, 4]) c70_5e (by kernel_rfl) ?_
  refine GoO.exec (is := [0]) (hs := [.p]) (rest := [1, 2, 3, 4]) (ks := [2, 4, 8]) (env' := [(2, vP b_2), (4, vP b_4), (8, vP b_4)]) (H' := [⟨41, b_4, [.string (bs r_3.s), .bool r_3.bad]⟩, ⟨40, b_2, [vI 0, vU 0, vU 0]⟩]) (ps := []) (by kernel_rfl) trivial ?_
  refine OpTo.go (GoO.call rfl (by kernel_rfl) (by kernel_rfl) (pack_Reader_Up_ok n r_3 52 b_4) [[0], [41]] [(41, 1)] [(1, 0)] [] (hks := [1]) (bks := []) (by kernel_rfl) (by kernel_rfl) (by kernel_rfl) (.inl rfl) rfl rfl (by kernel_rfl) (by kernel_rfl) _ (fun _ _ => rfl) _ _ (fun _ _ => rfl) (fun _ _ => rfl) (fun _ _ => by kernel_rfl) (fun _ _ => by kernel_rfl) (fun r_5 x_14 => ?_))
  refine GoO.shape (env' := [(2, vP b_2), (4, vP b_4), (8, vP b_4), (9, vI r_5.1)]) (H' := [⟨41, b_4, [.string (bs r_5.2.s), .bool r_5.2.bad]⟩, ⟨40, b_2, [vI 0, vU 0, vU 0]⟩]) (B' := []) (ks := [2, 4, 8, 9]) (by kernel_rfl) (by kernel_rfl) (by kernel_rfl) ?_
  refine GoO.exec (is := [2]) (hs := [.p]) (rest := [3, 4]) (ks := [2, 4, 10]) (env' := [(2, vP b_2), (4, vP b_4), (10, .agg ⟨[vI r_5.1, vU 0, vU 0]⟩)]) (H' := [⟨41, b_4, [.string (bs r_5.2.s), .bool r_5.2.bad]⟩, ⟨40, b_2, [vI 0, vU 0, vU 0]⟩]) (ps := []) (by kernel_rfl) trivial ?_
  refine OpTo.go (GoO.new rfl 42 (cs := [vI 0, vU 0, vU 0]) (by kernel_rfl) _ (fun _ => rfl) (fun b_6 => ?_))
  refine GoO.exec (is := [4]) (hs := [.b 0]) (rest := []) (ks := [2, 4, 5]) (env' := [(2, vP b_2), (4, vP b_4), (5, vP b_6)]) (H' := [⟨42, b_6, [vI r_5.1, vU 0, vU 0]⟩, ⟨41, b_4, [.string (bs r_5.2.s), .bool r_5.2.bad]⟩, ⟨40, b_2, [vI 0, vU 0, vU 0]⟩]) (ps := [b_6 = b_6]) (by kernel_rfl) (And.intro rfl trivial) ?_
  refine GoO.regionEnd ?_
  refine GoO.seq' c70_6e ?_
  refine GoO.region' (is := [0, 1, 2, 3]) c70_7e (by kernel_rfl) ?_
  refine GoO.exec (is := [0]) (hs := [.p]) (rest := [1, 2, 3]) (ks := [2, 4, 5, 11]) (env' := [(2, vP b_2), (4, vP b_4), (5, vP b_6), (11, vP b_4)]) (H' := [⟨42, b_6, [vI r_5.1, vU 0, vU 0]⟩, ⟨41, b_4, [.string (bs r_5.2.s), .bool r_5.2.bad]⟩, ⟨40, b_2, [vI 0, vU 0, vU 0]⟩]) (ps := []) (by kernel_rfl) trivial ?_
  refine OpTo.go (GoO.call rfl (by kernel_rfl) (by kernel_rfl) (pack_Reader_Num_ok n r_5.2 b_4) [[0], [41]] [(41, 1)] [(1, 1)] [] (hks := [0, 2]) (bks := []) (by kernel_rfl) (by kernel_rfl) (by kernel_rfl) (.inl rfl) rfl rfl (by kernel_rfl) (by kernel_rfl) _ (fun _ _ => rfl) _ _ (fun _ _ => rfl) (fun _ _ => rfl) (fun _ _ => by kernel_rfl) (fun _ _ => by kernel_rfl) (fun r_7 x_13 => ?_))
  refine GoO.shape (env' := [(2, vP b_2), (4, vP b_4), (5, vP b_6), (11, vP b_4), (12, vU r_7.1)]) (H' := [⟨41, b_4, [.string (bs r_7.2.s), .bool r_7.2.bad]⟩, ⟨42, b_6, [vI r_5.1, vU 0, vU 0]⟩, ⟨40, b_2, [vI 0, vU 0, vU 0]⟩]) (B' := []) (ks := [2, 4, 5, 11, 12]) (by kernel_rfl) (by kernel_rfl) (by kernel_rfl) ?_
  refine GoO.exec (is := [2, 3]) (hs := [.p, .b 1]) (rest := []) (ks := [2, 4, 5]) (env' := [(2, vP b_2), (4, vP b_4), (5, vP b_6)]) (H' := [⟨41, b_4, [.string (bs r_7.2.s), .bool r_7.2.bad]⟩, ⟨42, b_6, [vI r_5.1, vU r_7.1, vU 0]⟩, ⟨40, b_2, [vI 0, vU 0, vU 0]⟩]) (ps := [b_6 = b_6]) (by kernel_rfl) (And.intro rfl trivial) ?_
  refine GoO.regionEnd ?_
  refine GoO.seq' c70_8e ?_
  refine GoO.region' (is := [0, 1, 2, 3]) c70_9e (by kernel_rfl) ?_
  refine GoO.exec (is := [0]) (hs := [.p]) (rest := [1, 2, 3]) (ks := [2, 4, 5, 14]) (env' := [(2, vP b_2), (4, vP b_4), (5, vP b_6), (14, vP b_4)]) (H' := [⟨41, b_4, [.string (bs r_7.2.s), .bool r_7.2.bad]⟩, ⟨42, b_6, [vI r_5.1, vU r_7.1, vU 0]⟩, ⟨40, b_2, [vI 0, vU 0, vU 0]⟩]) (ps := []) (by kernel_rfl) trivial ?_
  refine OpTo.go (GoO.call rfl (by kernel_rfl) (by kernel_rfl) (pack_Reader_Num_ok n r_7.2 b_4) [[0], [41]] [(41, 1)] [(1, 0)] [] (hks := [1, 2]) (bks := []) (by kernel_rfl) (by kernel_rfl) (by kernel_rfl) (.inl rfl) rfl rfl (by kernel_rfl) (by kernel_rfl) _ (fun _ _ => rfl) _ _ (fun _ _ => rfl) (fun _ _ => rfl) (fun _ _ => by kernel_rfl) (fun _ _ => by kernel_rfl) (fun r_8 x_12 => ?_))
  refine GoO.shape (env' := [(2, vP b_2), (4, vP b_4), (5, vP b_6), (14, vP b_4), (15, vU r_8.1)]) (H' := [⟨41, b_4, [.string (bs r_8.2.s), .bool r_8.2.bad]⟩, ⟨42, b_6, [vI r_5.1, vU r_7.1, vU 0]⟩, ⟨40, b_2, [vI 0, vU 0, vU 0]⟩]) (B' := []) (ks := [2, 4, 5, 14, 15]) (by kernel_rfl) (by kernel_rfl) (by kernel_rfl) ?_
  refine GoO.exec (is := [2, 3]) (hs := [.p, .b 1]) (rest := []) (ks := [2, 4, 5]) (env' := [(2, vP b_2), (4, vP b_4), (5, vP b_6)]) (H' := [⟨41, b_4, [.string (bs r_8.2.s), .bool r_8.2.bad]⟩, ⟨42, b_6, [vI r_5.1, vU r_7.1, vU r_8.1]⟩, ⟨40, b_2, [vI 0, vU 0, vU 0]⟩]) (ps := [b_6 = b_6]) (by kernel_rfl) (And.intro rfl trivial) ?_
  refine GoO.regionEnd ?_
  refine GoO.seq' c70_10e ?_
  refine GoO.seq' c70_11e ?_
  refine GoO.region' (is := [0, 1, 2]) c70_12e (by kernel_rfl) ?_
  refine GoO.exec (is := [0]) (hs := [.p]) (rest := [1, 2]) (ks := [2, 5, 17]) (env' := [(2, vP b_2), (5, vP b_6), (17, vP b_4)]) (H' := [⟨41, b_4, [.string (bs r_8.2.s), .bool r_8.2.bad]⟩, ⟨42, b_6, [vI r_5.1, vU r_7.1, vU r_8.1]⟩, ⟨40, b_2, [vI 0, vU 0, vU 0]⟩]) (ps := []) (by kernel_rfl) trivial ?_
  refine OpTo.go (GoO.call rfl (by kernel_rfl) (by kernel_rfl) (pack_Reader_Done_ok n r_8.2 b_4) [[0], [41]] [] [(1, 0)] [] (hks := [0, 1, 2]) (bks := []) (by kernel_rfl) (by kernel_rfl) (by kernel_rfl) (.inl rfl) rfl rfl (by kernel_rfl) (by kernel_rfl) _ (fun _ _ => rfl) _ _ (fun _ _ => rfl) (fun _ _ => rfl) (fun _ _ => by kernel_rfl) (fun _ _ => by kernel_rfl) (fun r_9 x_11 => ?_))
  refine GoO.shape (env' := [(2, vP b_2), (5, vP b_6), (17, vP b_4), (18, .bool r_9)]) (H' := [⟨41, b_4, [.string (bs r_8.2.s), .bool r_8.2.bad]⟩, ⟨42, b_6, [vI r_5.1, vU r_7.1, vU r_8.1]⟩, ⟨40, b_2, [vI 0, vU 0, vU 0]⟩]) (B' := []) (ks := [2, 5, 17, 18]) (by kernel_rfl) (by kernel_rfl) (by kernel_rfl) ?_
  refine GoO.exec (is := [2]) (hs := [.p]) (rest := []) (ks := [2, 5, 19]) (env' := [(2, vP b_2), (5, vP b_6), (19, .bool (!r_9))]) (H' := [⟨41, b_4, [.string (bs r_8.2.s), .bool r_8.2.bad]⟩, ⟨42, b_6, [vI r_5.1, vU r_7.1, vU r_8.1]⟩, ⟨40, b_2, [vI 0, vU 0, vU 0]⟩]) (ps := []) (by kernel_rfl) trivial ?_
  refine GoO.regionEnd ?_
  refine GoO.ite' c70_13e (by kernel_rfl) (fun h10 => ?_) (fun h10 => ?_)
  · refine GoO.seq' c70_14e ?_
    refine GoO.region' (is := [0, 1, 2]) c70_15e (by kernel_rfl) ?_
    refine GoO.exec (is := [0, 1, 2]) (hs := [.p, .b 2, .p]) (rest := []) (ks := [2, 3]) (env' := [(2, vP b_2), (3, vI 2)]) (H' := [⟨41, b_4, [.string (bs r_8.2.s), .bool r_8.2.bad]⟩, ⟨42, b_6, [vI r_5.1, vU r_7.1, vU r_8.1]⟩, ⟨40, b_2, [vI 0, vU 0, vU 0]⟩]) (ps := [b_2 = b_2]) (by kernel_rfl) (And.intro rfl trivial) ?_
    refine GoO.regionEnd ?_
    exact GoO.ret' (h := c70_16e) (hs := [2]) (ps := [b_2 = b_2]) (hk := []) (bk := []) Try.func70 () (by kernel_rfl) (And.intro rfl trivial) (by kernel_rfl) (by kernel_rfl)
  · refine GoO.skip' c70_17e ?_
    refine GoO.seq' c70_18e ?_
    refine GoO.region' (is := [0, 1, 2]) c70_19e (by kernel_rfl) ?_
    refine GoO.exec (is := [0, 1, 2]) (hs := [.b 1, .b 2, .p]) (rest := []) (ks := [2, 3]) (env' := [(2, vP b_2), (3, vI 0)]) (H' := [⟨41, b_4, [.string (bs r_8.2.s), .bool r_8.2.bad]⟩, ⟨42, b_6, [vI r_5.1, vU r_7.1, vU r_8.1]⟩, ⟨40, b_2, [vI r_5.1, vU r_7.1, vU r_8.1]⟩]) (ps := [b_6 = b_6, b_2 = b_2]) (by kernel_rfl) (And.intro rfl (And.intro rfl trivial)) ?_
    refine GoO.regionEnd ?_
    exact GoO.ret' (h := c70_20e) (hs := [2]) (ps := [b_2 = b_2]) (hk := []) (bk := []) Try.func70 () (by kernel_rfl) (And.intro rfl trivial) (by kernel_rfl) (by kernel_rfl)
/-! (*tontine/client.Client).Hear -/
noncomputable def c36_0 : Code := bodyOf Try.f36
noncomputable def c36_1 : Code := cdL c36_0
noncomputable def c36_2 : Code := cdR c36_0
noncomputable def c36_3 : Code := cdL c36_2
noncomputable def c36_4 : Code := cdR c36_2
noncomputable def c36_5 : Code := cdL c36_4
noncomputable def c36_6 : Code := cdL c36_5
noncomputable def c36_7 : Code := cdR c36_5
noncomputable def c36_8 : Code := cdL c36_7
noncomputable def c36_9 : Code := cdL c36_8
noncomputable def c36_10 : Code := cdR c36_8
noncomputable def c36_11 : Code := cdR c36_7
noncomputable def c36_12 : Code := cdR c36_4
noncomputable def c36_13 : Code := cdL c36_12
noncomputable def c36_14 : Code := cdR c36_12
noncomputable def c36_15 : Code := cdL c36_14
noncomputable def c36_16 : Code := cdL c36_15
noncomputable def c36_17 : Code := cdR c36_15
noncomputable def c36_18 : Code := cdL c36_17
noncomputable def c36_19 : Code := cdL c36_18
noncomputable def c36_20 : Code := cdR c36_18
noncomputable def c36_21 : Code := cdR c36_17
noncomputable def c36_22 : Code := cdR c36_14
noncomputable def c36_23 : Code := cdL c36_22
noncomputable def c36_24 : Code := cdL c36_23
noncomputable def c36_25 : Code := cdR c36_23
noncomputable def c36_26 : Code := cdL c36_25
noncomputable def c36_27 : Code := cdL c36_26
noncomputable def c36_28 : Code := cdL c36_27
noncomputable def c36_29 : Code := cdR c36_27
noncomputable def c36_30 : Code := cdL c36_29
noncomputable def c36_31 : Code := cdL c36_30
noncomputable def c36_32 : Code := cdR c36_30
noncomputable def c36_33 : Code := cdL c36_32
noncomputable def c36_34 : Code := cdR c36_32
noncomputable def c36_35 : Code := cdR c36_29
noncomputable def c36_36 : Code := cdR c36_26
noncomputable def c36_37 : Code := cdL c36_36
noncomputable def c36_38 : Code := cdR c36_36
noncomputable def c36_39 : Code := cdR c36_25
noncomputable def c36_40 : Code := cdR c36_22
noncomputable def c36_41 : Code := cdL c36_40
noncomputable def c36_42 : Code := cdR c36_40
noncomputable def c36_43 : Code := cdL c36_42
noncomputable def c36_44 : Code := cdL c36_43
noncomputable def c36_45 : Code := cdL c36_44
noncomputable def c36_46 : Code := cdR c36_44
noncomputable def c36_47 : Code := cdL c36_46
noncomputable def c36_48 : Code := cdL c36_47
noncomputable def c36_49 : Code := cdR c36_47
noncomputable def c36_50 : Code := cdL c36_49
noncomputable def c36_51 : Code := cdR c36_49
noncomputable def c36_52 : Code := cdR c36_46
noncomputable def c36_53 : Code := cdL c36_52
noncomputable def c36_54 : Code := cdR c36_52
noncomputable def c36_55 : Code := cdL c36_54
noncomputable def c36_56 : Code := cdR c36_54
noncomputable def c36_57 : Code := cdR c36_42
noncomputable def c36_58 : Code := cdL c36_57
noncomputable def c36_59 : Code := cdR c36_57
noncomputable def r36_1 : Array Oper := cdO c36_1
noncomputable def r36_3 : Array Oper := cdO c36_3
noncomputable def r36_6 : Array Oper := cdO c36_6
noncomputable def r36_9 : Array Oper := cdO c36_9
noncomputable def r36_13 : Array Oper := cdO c36_13
noncomputable def r36_16 : Array Oper := cdO c36_16
noncomputable def r36_19 : Array Oper := cdO c36_19
noncomputable def r36_24 : Array Oper := cdO c36_24
noncomputable def r36_28 : Array Oper := cdO c36_28
noncomputable def r36_31 : Array Oper := cdO c36_31
noncomputable def r36_33 : Array Oper := cdO c36_33
noncomputable def r36_37 : Array Oper := cdO c36_37
noncomputable def r36_41 : Array Oper := cdO c36_41
noncomputable def r36_45 : Array Oper := cdO c36_45
noncomputable def r36_48 : Array Oper := cdO c36_48
noncomputable def r36_50 : Array Oper := cdO c36_50
noncomputable def r36_53 : Array Oper := cdO c36_53
noncomputable def r36_55 : Array Oper := cdO c36_55
noncomputable def r36_56 : Array Oper := cdO c36_56
noncomputable def r36_58 : Array Oper := cdO c36_58
theorem c36_0e : c36_0 = .seq c36_1 c36_2 := by kernel_rfl
theorem c36_1e : c36_1 = .region 0 r36_1 false := by kernel_rfl
theorem c36_2e : c36_2 = .seq c36_3 c36_4 := by kernel_rfl
theorem c36_3e : c36_3 = .region 1 r36_3 false := by kernel_rfl
theorem c36_4e : c36_4 = .seq c36_5 c36_12 := by kernel_rfl
theorem c36_5e : c36_5 = .seq c36_6 c36_7 := by kernel_rfl
theorem c36_6e : c36_6 = .region 2 r36_6 true := by kernel_rfl
theorem c36_7e : c36_7 = .cond (cdC c36_7) c36_8 c36_11 := by kernel_rfl
theorem c36_8e : c36_8 = .seq c36_9 c36_10 := by kernel_rfl
theorem c36_9e : c36_9 = .region 3 r36_9 true := by kernel_rfl
theorem c36_10e : c36_10 = .ret := by kernel_rfl
theorem c36_11e : c36_11 = .skip := by kernel_rfl
theorem c36_12e : c36_12 = .seq c36_13 c36_14 := by kernel_rfl
theorem c36_13e : c36_13 = .region 4 r36_13 false := by kernel_rfl
theorem c36_14e : c36_14 = .seq c36_15 c36_22 := by kernel_rfl
theorem c36_15e : c36_15 = .seq c36_16 c36_17 := by kernel_rfl
theorem c36_16e : c36_16 = .region 5 r36_16 false := by kernel_rfl
theorem c36_17e : c36_17 = .cond (cdC c36_17) c36_18 c36_21 := by kernel_rfl
theorem c36_18e : c36_18 = .seq c36_19 c36_20 := by kernel_rfl
theorem c36_19e : c36_19 = .region 6 r36_19 true := by kernel_rfl
theorem c36_20e : c36_20 = .ret := by kernel_rfl
theorem c36_21e : c36_21 = .skip := by kernel_rfl
theorem c36_22e : c36_22 = .seq c36_23 c36_40 := by kernel_rfl
theorem c36_23e : c36_23 = .seq c36_24 c36_25 := by kernel_rfl
theorem c36_24e : c36_24 = .region 7 r36_24 false := by kernel_rfl
theorem c36_25e : c36_25 = .cond (cdC c36_25) c36_26 c36_39 := by kernel_rfl
theorem c36_26e : c36_26 = .seq c36_27 c36_36 := by kernel_rfl
theorem c36_27e : c36_27 = .seq c36_28 c36_29 := by kernel_rfl
theorem c36_28e : c36_28 = .region 8 r36_28 true := by kernel_rfl
theorem c36_29e : c36_29 = .cond (cdC c36_29) c36_30 c36_35 := by kernel_rfl
theorem c36_30e : c36_30 = .seq c36_31 c36_32 := by kernel_rfl
theorem c36_31e : c36_31 = .region 9 r36_31 false := by kernel_rfl
theorem c36_32e : c36_32 = .seq c36_33 c36_34 := by kernel_rfl
theorem c36_33e : c36_33 = .region 10 r36_33 false := by kernel_rfl
theorem c36_34e : c36_34 = .ret := by kernel_rfl
theorem c36_35e : c36_35 = .skip := by kernel_rfl
theorem c36_36e : c36_36 = .seq c36_37 c36_38 := by kernel_rfl
theorem c36_37e : c36_37 = .region 11 r36_37 true := by kernel_rfl
theorem c36_38e : c36_38 = .ret := by kernel_rfl
theorem c36_39e : c36_39 = .skip := by kernel_rfl
theorem c36_40e : c36_40 = .seq c36_41 c36_42 := by kernel_rfl
theorem c36_41e : c36_41 = .region 12 r36_41 false := by kernel_rfl
theorem c36_42e : c36_42 = .seq c36_43 c36_57 := by kernel_rfl
theorem c36_43e : c36_43 = .block 0 c36_44 := by kernel_rfl
theorem c36_44e : c36_44 = .seq c36_45 c36_46 := by kernel_rfl
theorem c36_45e : c36_45 = .region 14 r36_45 false := by kernel_rfl
theorem c36_46e : c36_46 = .cond (cdC c36_46) c36_47 c36_52 := by kernel_rfl
theorem c36_47e : c36_47 = .seq c36_48 c36_49 := by kernel_rfl
theorem c36_48e : c36_48 = .region 15 r36_48 false := by kernel_rfl
theorem c36_49e : c36_49 = .cond (cdC c36_49) c36_50 c36_51 := by kernel_rfl
theorem c36_50e : c36_50 = .region 16 r36_50 false := by kernel_rfl
theorem c36_51e : c36_51 = .skip := by kernel_rfl
theorem c36_52e : c36_52 = .seq c36_53 c36_54 := by kernel_rfl
theorem c36_53e : c36_53 = .region 17 r36_53 false := by kernel_rfl
theorem c36_54e : c36_54 = .cond (cdC c36_54) c36_55 c36_56 := by kernel_rfl
theorem c36_55e : c36_55 = .region 18 r36_55 false := by kernel_rfl
theorem c36_56e : c36_56 = .region 13 r36_56 false := by kernel_rfl
theorem c36_57e : c36_57 = .seq c36_58 c36_59 := by kernel_rfl
theorem c36_58e : c36_58 = .region 19 r36_58 true := by kernel_rfl
theorem c36_59e : c36_59 = .ret := by kernel_rfl
noncomputable def client_Client_Hear.R (b_2 : Nat) (A_3 : Option Addr) (c_4 : Nat) (A_6 : Option Addr) (c_7 : Nat) : Pst (T_api_Told × Bool × T_api_Letter × Bool × T_client_Client) where
  ε := Option Addr × Nat × Option Addr × Nat × Option Addr × Nat
  v := fun r x => .tuple ⟨[.agg ⟨[vI r.1.Client, vI r.1.Command.Kind, vU r.1.Command.Session, vU r.1.Command.Seq, vU r.1.Command.Saga, .slice x.1 r.1.Command.Steps.length x.2.1, vI r.1.Command.Step, .bool r.1.Command.Back, vI r.1.Command.Try, .bool r.1.Command.Ok, vU r.1.Command.Now, vI r.1.Reply.Err, vU r.1.Reply.Num, vU r.1.Reply.Extra]⟩, .bool r.2.1, .agg ⟨[vI r.2.2.1.Kind, vI r.2.2.1.From, vI r.2.2.1.To, vU r.2.2.1.Term, vU r.2.2.1.Index, vU r.2.2.1.Prev, vU r.2.2.1.Commit, .bool r.2.2.1.Ok, .slice x.2.2.1 r.2.2.1.Entries.length x.2.2.2.1, .string (bs r.2.2.1.Data)]⟩, .bool r.2.2.2.1]⟩
  H := fun r x => [⟨1, b_2, [vI r.2.2.2.2.id, vU r.2.2.2.2.session, vU r.2.2.2.2.seq, vU r.2.2.2.2.call, .bool r.2.2.2.2.busy, vI r.2.2.2.2.now.Kind, vU r.2.2.2.2.now.Session, vU r.2.2.2.2.now.Seq, vU r.2.2.2.2.now.Saga, .slice x.2.2.2.2.1 r.2.2.2.2.now.Steps.length x.2.2.2.2.2, vI r.2.2.2.2.now.Step, .bool r.2.2.2.2.now.Back, vI r.2.2.2.2.now.Try, .bool r.2.2.2.2.now.Ok, vU r.2.2.2.2.now.Now, .string (bs r.2.2.2.2.data), vI r.2.2.2.2.to_]⟩]
  B := fun r x => [Rd 0 kT_api_Step x.1 x.2.1 r.1.Command.Steps, Rd 0 kT_api_Entry x.2.2.1 x.2.2.2.1 r.2.2.1.Entries, Rd 0 kT_api_Step x.2.2.2.2.1 x.2.2.2.2.2 r.2.2.2.2.now.Steps]
noncomputable def client_Client_Hear.cx (b_2 : Nat) (A_3 : Option Addr) (c_4 : Nat) (A_6 : Option Addr) (c_7 : Nat) (w0 : World) (S0 : Fam) : Cx (T_api_Told × Bool × T_api_Letter × Bool × T_client_Client) := ⟨Try.prog, 36, Try.f36, 145, w0, S0, [1], 1, client_Client_Hear.R b_2 A_3 c_4 A_6 c_7⟩
theorem client_Client_Hear_j2_ok (n : Nat) (c_1 : T_client_Client) (x_5 : T_api_Letter) (b_2 : Nat) (A_3 : Option Addr) (c_4 : Nat) (A_6 : Option Addr) (c_7 : Nat) (b_8 : Nat) (b_9 : Nat) (b_10 : Nat) (b_11 : Nat) (w0 : World) (S0 : Fam) (b_25 : Bool) :
    GoO (client_Client_Hear.cx b_2 A_3 c_4 A_6 c_7 w0 S0) [(0, vP b_2), (3, vP b_8), (4, vP b_9), (6, vP b_10), (8, vP b_11), (83, .bool b_25)] [⟨1, b_2, [vI c_1.id, vU c_1.session, vU c_1.seq, vU c_1.call, .bool c_1.busy, vI c_1.now.Kind, vU c_1.now.Session, vU c_1.now.Seq, vU c_1.now.Saga, .slice A_3 c_1.now.Steps.length c_4, vI c_1.now.Step, .bool c_1.now.Back, vI c_1.now.Try, .bool c_1.now.Ok, vU c_1.now.Now, .string (bs c_1.data), vI c_1.to_]⟩, ⟨40, b_8, [vI x_5.Kind, vI x_5.From, vI x_5.To, vU x_5.Term, vU x_5.Index, vU x_5.Prev, vU x_5.Commit, .bool x_5.Ok, .slice A_6 x_5.Entries.length c_7, .string (bs x_5.Data)]⟩, ⟨41, b_9, [vI 0, vI 0, vU 0, vU 0, vU 0, .slice none ([] : List T_api_Step).length 0, vI 0, .bool false, vI 0, .bool false, vU 0, vI 0, vU 0, vU 0]⟩, ⟨42, b_10, [vI 0, vI 0, vI 0, vU 0, vU 0, vU 0, vU 0, .bool false, .slice none ([] : List T_api_Entry).length 0, .string (bs [])]⟩, ⟨43, b_11, [vI 0, vI 0, vI 0, vU 0, vU 0, vU 0, vU 0, .bool false, .slice none ([] : List T_api_Entry).length 0, .string (bs [])]⟩] [Rd 0 kT_api_Step A_3 c_4 c_1.now.Steps, Rd 0 kT_api_Entry A_6 c_7 x_5.Entries] [.code c36_29, .code c36_36, .code c36_40] (client_Client_Hear.j2 n c_1 x_5 b_25) := by
  unfold client_Client_Hear.j2
  refine GoO.ite' c36_29e (by kernel_rfl) (fun h26 => ?_) (fun h26 => ?_)
  · refine GoO.seq' c36_30e ?_
    refine GoO.region' (is := [0, 1, 2, 3, 4, 5, 6, 7]) c36_31e (by kernel_rfl) ?_
    refine GoO.exec (is := [0, 1, 2, 3, 4, 5, 6, 7]) (hs := [.p, .p, .b 1, .p, .p, .p, .p, .b 0]) (rest := []) (ks := [0, 4, 6]) (env' := [(0, vP b_2), (4, vP b_9), (6, vP b_10)]) (H' := [⟨1, b_2, [vI c_1.id, vU c_1.session, vU c_1.seq, vU c_1.call, .bool c_1.busy, vI c_1.now.Kind, vU c_1.now.Session, vU c_1.now.Seq, vU c_1.now.Saga, .slice A_3 c_1.now.Steps.length c_4, vI c_1.now.Step, .bool c_1.now.Back, vI c_1.now.Try, .bool c_1.now.Ok, vU c_1.now.Now, .string (bs c_1.data), vI (wi64 (wu64 (x_5.Commit - 1)))]⟩, ⟨40, b_8, [vI x_5.Kind, vI x_5.From, vI x_5.To, vU x_5.Term, vU x_5.Index, vU x_5.Prev, vU x_5.Commit, .bool x_5.Ok, .slice A_6 x_5.Entries.length c_7, .string (bs x_5.Data)]⟩, ⟨41, b_9, [vI 0, vI 0, vU 0, vU 0, vU 0, .slice none ([] : List T_api_Step).length 0, vI 0, .bool false, vI 0, .bool false, vU 0, vI 0, vU 0, vU 0]⟩, ⟨42, b_10, [vI 0, vI 0, vI 0, vU 0, vU 0, vU 0, vU 0, .bool false, .slice none ([] : List T_api_Entry).length 0, .string (bs [])]⟩, ⟨43, b_11, [vI 0, vI 0, vI 0, vU 0, vU 0, vU 0, vU 0, .bool false, .slice none ([] : List T_api_Entry).length 0, .string (bs [])]⟩]) (ps := [b_8 = b_8, b_2 = b_2]) (by kernel_rfl) (And.intro rfl (And.intro rfl trivial)) ?_
    refine GoO.regionEnd ?_
    refine GoO.seq' c36_32e ?_
    refine GoO.region' (is := [0, 1, 2, 3, 4, 5, 6]) c36_33e (by kernel_rfl) ?_
    refine GoO.exec (is := [0, 1]) (hs := [.p, .p]) (rest := [2, 3, 4, 5, 6]) (ks := [4, 6, 91, 92]) (env' := [(4, vP b_9), (6, vP b_10), (91, .agg ⟨[vI 0, vI 0, vU 0, vU 0, vU 0, .slice none ([] : List T_api_Step).length 0, vI 0, .bool false, vI 0, .bool false, vU 0, vI 0, vU 0, vU 0]⟩), (92, vP b_2)]) (H' := [⟨1, b_2, [vI c_1.id, vU c_1.session, vU c_1.seq, vU c_1.call, .bool c_1.busy, vI c_1.now.Kind, vU c_1.now.Session, vU c_1.now.Seq, vU c_1.now.Saga, .slice A_3 c_1.now.Steps.length c_4, vI c_1.now.Step, .bool c_1.now.Back, vI c_1.now.Try, .bool c_1.now.Ok, vU c_1.now.Now, .string (bs c_1.data), vI (wi64 (wu64 (x_5.Commit - 1)))]⟩, ⟨40, b_8, [vI x_5.Kind, vI x_5.From, vI x_5.To, vU x_5.Term, vU x_5.Index, vU x_5.Prev, vU x_5.Commit, .bool x_5.Ok, .slice A_6 x_5.Entries.length c_7, .string (bs x_5.Data)]⟩, ⟨41, b_9, [vI 0, vI 0, vU 0, vU 0, vU 0, .slice none ([] : List T_api_Step).length 0, vI 0, .bool false, vI 0, .bool false, vU 0, vI 0, vU 0, vU 0]⟩, ⟨42, b_10, [vI 0, vI 0, vI 0, vU 0, vU 0, vU 0, vU 0, .bool false, .slice none ([] : List T_api_Entry).length 0, .string (bs [])]⟩, ⟨43, b_11, [vI 0, vI 0, vI 0, vU 0, vU 0, vU 0, vU 0, .bool false, .slice none ([] : List T_api_Entry).length 0, .string (bs [])]⟩]) (ps := []) (by kernel_rfl) trivial ?_
    refine OpTo.go (GoO.call rfl (by kernel_rfl) (by kernel_rfl) (client_Client_letter_ok n (⟨c_1.id, c_1.session, c_1.seq, c_1.call, c_1.busy, (⟨c_1.now.Kind, c_1.now.Session, c_1.now.Seq, c_1.now.Saga, c_1.now.Steps, c_1.now.Step, c_1.now.Back, c_1.now.Try, c_1.now.Ok, c_1.now.Now⟩ : T_api_Command), c_1.data, wi64 (wu64 (x_5.Commit - 1))⟩ : T_client_Client) b_2 A_3 c_4) [[0], [1]] [] [(1, 0)] [(0, 0)] (hks := [0, 1, 2, 3, 4]) (bks := [0, 1]) (by kernel_rfl) (by kernel_rfl) (by kernel_rfl) (.inl rfl) rfl rfl (by kernel_rfl) (by kernel_rfl) _ (fun _ _ => rfl) _ _ (fun _ _ => rfl) (fun _ _ => rfl) (fun _ _ => by kernel_rfl) (fun _ _ => by kernel_rfl) (fun r_27 x_30 => ?_))
    obtain ⟨A_28, c_29⟩ := x_30
    refine GoO.shape (env' := [(4, vP b_9), (6, vP b_10), (91, .agg ⟨[vI 0, vI 0, vU 0, vU 0, vU 0, .slice none ([] : List T_api_Step).length 0, vI 0, .bool false, vI 0, .bool false, vU 0, vI 0, vU 0, vU 0]⟩), (92, vP b_2), (93, .agg ⟨[vI r_27.Kind, vI r_27.From, vI r_27.To, vU r_27.Term, vU r_27.Index, vU r_27.Prev, vU r_27.Commit, .bool r_27.Ok, .slice A_28 r_27.Entries.length c_29, .string (bs r_27.Data)]⟩)]) (H' := [⟨1, b_2, [vI c_1.id, vU c_1.session, vU c_1.seq, vU c_1.call, .bool c_1.busy, vI c_1.now.Kind, vU c_1.now.Session, vU c_1.now.Seq, vU c_1.now.Saga, .slice A_3 c_1.now.Steps.length c_4, vI c_1.now.Step, .bool c_1.now.Back, vI c_1.now.Try, .bool c_1.now.Ok, vU c_1.now.Now, .string (bs c_1.data), vI (wi64 (wu64 (x_5.Commit - 1)))]⟩, ⟨40, b_8, [vI x_5.Kind, vI x_5.From, vI x_5.To, vU x_5.Term, vU x_5.Index, vU x_5.Prev, vU x_5.Commit, .bool x_5.Ok, .slice A_6 x_5.Entries.length c_7, .string (bs x_5.Data)]⟩, ⟨41, b_9, [vI 0, vI 0, vU 0, vU 0, vU 0, .slice none ([] : List T_api_Step).length 0, vI 0, .bool false, vI 0, .bool false, vU 0, vI 0, vU 0, vU 0]⟩, ⟨42, b_10, [vI 0, vI 0, vI 0, vU 0, vU 0, vU 0, vU 0, .bool false, .slice none ([] : List T_api_Entry).length 0, .string (bs [])]⟩, ⟨43, b_11, [vI 0, vI 0, vI 0, vU 0, vU 0, vU 0, vU 0, .bool false, .slice none ([] : List T_api_Entry).length 0, .string (bs [])]⟩]) (B' := [Rd 0 kT_api_Entry A_28 c_29 r_27.Entries, Rd 0 kT_api_Step A_3 c_4 c_1.now.Steps, Rd 0 kT_api_Entry A_6 c_7 x_5.Entries]) (ks := [4, 6, 91, 92, 93]) (by kernel_rfl) (by kernel_rfl) (by kernel_rfl) ?_
    refine GoO.exec (is := [3, 4, 5, 6]) (hs := [.b 2, .p, .b 3, .p]) (rest := []) (ks := [4, 5, 6, 7]) (env' := [(4, vP b_9), (5, .bool false), (6, vP b_10), (7, .bool true)]) (H' := [⟨1, b_2, [vI c_1.id, vU c_1.session, vU c_1.seq, vU c_1.call, .bool c_1.busy, vI c_1.now.Kind, vU c_1.now.Session, vU c_1.now.Seq, vU c_1.now.Saga, .slice A_3 c_1.now.Steps.length c_4, vI c_1.now.Step, .bool c_1.now.Back, vI c_1.now.Try, .bool c_1.now.Ok, vU c_1.now.Now, .string (bs c_1.data), vI (wi64 (wu64 (x_5.Commit - 1)))]⟩, ⟨40, b_8, [vI x_5.Kind, vI x_5.From, vI x_5.To, vU x_5.Term, vU x_5.Index, vU x_5.Prev, vU x_5.Commit, .bool x_5.Ok, .slice A_6 x_5.Entries.length c_7, .string (bs x_5.Data)]⟩, ⟨41, b_9, [vI 0, vI 0, vU 0, vU 0, vU 0, .slice none ([] : List T_api_Step).length 0, vI 0, .bool false, vI 0, .bool false, vU 0, vI 0, vU 0, vU 0]⟩, ⟨42, b_10, [vI r_27.Kind, vI r_27.From, vI r_27.To, vU r_27.Term, vU r_27.Index, vU r_27.Prev, vU r_27.Commit, .bool r_27.Ok, .slice A_28 r_27.Entries.length c_29, .string (bs r_27.Data)]⟩, ⟨43, b_11, [vI 0, vI 0, vI 0, vU 0, vU 0, vU 0, vU 0, .bool false, .slice none ([] : List T_api_Entry).length 0, .string (bs [])]⟩]) (ps := [b_9 = b_9, b_10 = b_10]) (by kernel_rfl) (And.intro rfl (And.intro rfl trivial)) ?_
    refine GoO.regionEnd ?_
    refine GoO.nilRd kT_api_Step ?_
    exact GoO.ret' (h := c36_34e) (hs := [2, 3]) (ps := [b_9 = b_9, b_10 = b_10]) (hk := [0]) (bk := [0, 1, 2]) Try.func36 (⟨none, 0, A_28, c_29, A_3, c_4⟩ : Option Addr × Nat × Option Addr × Nat × Option Addr × Nat) (by kernel_rfl) (And.intro rfl (And.intro rfl trivial)) (by kernel_rfl) (by kernel_rfl)
  · refine GoO.skip' c36_35e ?_
    refine GoO.seq' c36_36e ?_
    refine GoO.draw c36_37e (by kernel_rfl) [4, 5] [⟨43, b_11, [vI 0, vI 0, vI 0, vU 0, vU 0, vU 0, vU 0, .bool false, .slice none ([] : List T_api_Entry).length 0, .string (bs [])]⟩] [] (n := 6) (by kernel_rfl) ?_
    simp only [List.replicate]
    refine GoF.take [0, 1] [.p, .b 0] (ks := [4, 6, 94, 95]) (fu := 4) (li := [true, true, false, false, false, false]) (env' := [(4, vP b_9), (6, vP b_10), (94, .agg ⟨[vI 0, vI 0, vU 0, vU 0, vU 0, .slice none ([] : List T_api_Step).length 0, vI 0, .bool false, vI 0, .bool false, vU 0, vI 0, vU 0, vU 0]⟩), (95, .agg ⟨[vI 0, vI 0, vI 0, vU 0, vU 0, vU 0, vU 0, .bool false, .slice none ([] : List T_api_Entry).length 0, .string (bs [])]⟩)]) (ps := [b_11 = b_11]) (hk := [4]) (bk := []) (by kernel_rfl) (And.intro rfl trivial) rfl rfl ?_
    refine GoF.fin1 (i := 2) (hint := .b 2) (ps := [b_9 = b_9]) (hk := [4]) (bk := []) (by kernel_rfl) rfl (And.intro rfl trivial) (.inr ⟨rfl, rfl⟩) ?_
    refine GoF.take [3] [.p] (ks := [4, 5, 6, 95]) (fu := 2) (li := [true, true, true, true, false, false]) (env' := [(4, vP b_9), (5, .bool false), (6, vP b_10), (95, .agg ⟨[vI 0, vI 0, vI 0, vU 0, vU 0, vU 0, vU 0, .bool false, .slice none ([] : List T_api_Entry).length 0, .string (bs [])]⟩)]) (ps := []) (hk := [4]) (bk := []) (by kernel_rfl) trivial rfl rfl ?_
    refine GoF.fin1 (i := 4) (hint := .b 3) (ps := [b_10 = b_10]) (hk := []) (bk := []) (by kernel_rfl) rfl (And.intro rfl trivial) (.inl rfl) ?_
    refine GoF.fin1 (i := 5) (hint := .p) (ps := []) (hk := []) (bk := []) (by kernel_rfl) rfl trivial (.inl rfl) ?_
    refine GoF.done (by kernel_rfl) ?_
    refine GoO.nilRd kT_api_Step ?_
    refine GoO.nilRd kT_api_Entry ?_
    exact GoO.ret' (h := c36_38e) (hs := [2, 3]) (ps := [b_9 = b_9, b_10 = b_10]) (hk := [0]) (bk := [1, 0, 2]) Try.func36 (⟨none, 0, none, 0, A_3, c_4⟩ : Option Addr × Nat × Option Addr × Nat × Option Addr × Nat) (by kernel_rfl) (And.intro rfl (And.intro rfl trivial)) (by kernel_rfl) (by kernel_rfl)
theorem client_Client_Hear_j3_ok (n : Nat) (c_1 : T_client_Client) (r_17 : T_api_Reply × Int) (b_2 : Nat) (A_3 : Option Addr) (c_4 : Nat) (b_9 : Nat) (b_10 : Nat) (b_11 : Nat) (b_18 : Nat) (A_6 : Option Addr) (c_7 : Nat) (w0 : World) (S0 : Fam) (f_34 : Int) (f_35 : Int) :
    GoO (client_Client_Hear.cx b_2 A_3 c_4 A_6 c_7 w0 S0) [(0, vP b_2), (4, vP b_9), (6, vP b_10), (8, vP b_11), (9, vP b_18)] [⟨1, b_2, [vI c_1.id, vU f_34, vU f_35, vU c_1.call, .bool false, vI c_1.now.Kind, vU c_1.now.Session, vU c_1.now.Seq, vU c_1.now.Saga, .slice A_3 c_1.now.Steps.length c_4, vI c_1.now.Step, .bool c_1.now.Back, vI c_1.now.Try, .bool c_1.now.Ok, vU c_1.now.Now, .string (bs c_1.data), vI c_1.to_]⟩, ⟨41, b_9, [vI 0, vI 0, vU 0, vU 0, vU 0, .slice none ([] : List T_api_Step).length 0, vI 0, .bool false, vI 0, .bool false, vU 0, vI 0, vU 0, vU 0]⟩, ⟨42, b_10, [vI 0, vI 0, vI 0, vU 0, vU 0, vU 0, vU 0, .bool false, .slice none ([] : List T_api_Entry).length 0, .string (bs [])]⟩, ⟨43, b_11, [vI 0, vI 0, vI 0, vU 0, vU 0, vU 0, vU 0, .bool false, .slice none ([] : List T_api_Entry).length 0, .string (bs [])]⟩, ⟨44, b_18, [vI r_17.1.Err, vU r_17.1.Num, vU r_17.1.Extra]⟩] [Rd 0 kT_api_Step A_3 c_4 c_1.now.Steps] [.inBlock 0, .code c36_57] (client_Client_Hear.j3 n c_1 r_17 f_34 f_35) := by
  unfold client_Client_Hear.j3
  refine GoO.inBlock ?_
  refine GoO.seq' c36_57e ?_
  refine GoO.draw c36_58e (by kernel_rfl) [13, 14] [⟨1, b_2, [vI c_1.id, vU f_34, vU f_35, vU c_1.call, .bool false, vI c_1.now.Kind, vU c_1.now.Session, vU c_1.now.Seq, vU c_1.now.Saga, .slice A_3 c_1.now.Steps.length c_4, vI c_1.now.Step, .bool c_1.now.Back, vI c_1.now.Try, .bool c_1.now.Ok, vU c_1.now.Now, .string (bs c_1.data), vI c_1.to_]⟩, ⟨43, b_11, [vI 0, vI 0, vI 0, vU 0, vU 0, vU 0, vU 0, .bool false, .slice none ([] : List T_api_Entry).length 0, .string (bs [])]⟩, ⟨44, b_18, [vI r_17.1.Err, vU r_17.1.Num, vU r_17.1.Extra]⟩] [] (n := 15) (by kernel_rfl) ?_
  simp only [List.replicate]
  refine GoF.take [0, 1, 2, 3, 4, 5, 6, 7, 8, 9, 10] [.p, .p, .p, .b 0, .p, .p, .p, .b 0, .b 2, .p, .b 1] (ks := [4, 6, 143, 144]) (fu := 4) (li := [true, true, true, true, true, true, true, true, true, true, true, false, false, false, false]) (env' := [(4, vP b_9), (6, vP b_10), (143, .agg ⟨[vI c_1.id, vI c_1.now.Kind, vU c_1.now.Session, vU c_1.now.Seq, vU c_1.now.Saga, .slice A_3 c_1.now.Steps.length c_4, vI c_1.now.Step, .bool c_1.now.Back, vI c_1.now.Try, .bool c_1.now.Ok, vU c_1.now.Now, vI r_17.1.Err, vU r_17.1.Num, vU r_17.1.Extra]⟩), (144, .agg ⟨[vI 0, vI 0, vI 0, vU 0, vU 0, vU 0, vU 0, .bool false, .slice none ([] : List T_api_Entry).length 0, .string (bs [])]⟩)]) (ps := [b_2 = b_2, b_2 = b_2, b_18 = b_18, b_11 = b_11]) (hk := [0, 3, 4]) (bk := []) (by kernel_rfl) (And.intro rfl (And.intro rfl (And.intro rfl (And.intro rfl trivial)))) rfl rfl ?_
  refine GoF.fin1 (i := 11) (hint := .b 1) (ps := [b_9 = b_9]) (hk := [0, 3, 4]) (bk := []) (by kernel_rfl) rfl (And.intro rfl trivial) (.inr ⟨rfl, rfl⟩) ?_
  refine GoF.take [12] [.p] (ks := [4, 5, 6, 144]) (fu := 2) (li := [true, true, true, true, true, true, true, true, true, true, true, true, true, false, false]) (env' := [(4, vP b_9), (5, .bool true), (6, vP b_10), (144, .agg ⟨[vI 0, vI 0, vI 0, vU 0, vU 0, vU 0, vU 0, .bool false, .slice none ([] : List T_api_Entry).length 0, .string (bs [])]⟩)]) (ps := []) (hk := [0, 3, 4]) (bk := []) (by kernel_rfl) trivial rfl rfl ?_
  refine GoF.fin1 (i := 13) (hint := .b 2) (ps := [b_10 = b_10]) (hk := []) (bk := []) (by kernel_rfl) rfl (And.intro rfl trivial) (.inl rfl) ?_
  refine GoF.fin1 (i := 14) (hint := .p) (ps := []) (hk := []) (bk := []) (by kernel_rfl) rfl trivial (.inl rfl) ?_
  refine GoF.done (by kernel_rfl) ?_
  refine GoO.nilRd kT_api_Entry ?_
  exact GoO.ret' (h := c36_59e) (hs := [1, 2]) (ps := [b_9 = b_9, b_10 = b_10]) (hk := [0]) (bk := [1, 0, 1]) Try.func36 (⟨A_3, c_4, none, 0, A_3, c_4⟩ : Option Addr × Nat × Option Addr × Nat × Option Addr × Nat) (by kernel_rfl) (And.intro rfl (And.intro rfl trivial)) (by kernel_rfl) (by kernel_rfl)
theorem client_Client_Hear_j1_ok (n : Nat) (c_1 : T_client_Client) (x_5 : T_api_Letter) (r_17 : T_api_Reply × Int) (b_2 : Nat) (A_3 : Option Addr) (c_4 : Nat) (A_6 : Option Addr) (c_7 : Nat) (b_8 : Nat) (b_9 : Nat) (b_10 : Nat) (b_11 : Nat) (b_18 : Nat) (w0 : World) (S0 : Fam) (b_21 : Bool) :
    GoO (client_Client_Hear.cx b_2 A_3 c_4 A_6 c_7 w0 S0) [(0, vP b_2), (3, vP b_8), (4, vP b_9), (6, vP b_10), (8, vP b_11), (9, vP b_18), (64, .bool b_21)] [⟨1, b_2, [vI c_1.id, vU c_1.session, vU c_1.seq, vU c_1.call, .bool c_1.busy, vI c_1.now.Kind, vU c_1.now.Session, vU c_1.now.Seq, vU c_1.now.Saga, .slice A_3 c_1.now.Steps.length c_4, vI c_1.now.Step, .bool c_1.now.Back, vI c_1.now.Try, .bool c_1.now.Ok, vU c_1.now.Now, .string (bs c_1.data), vI c_1.to_]⟩, ⟨40, b_8, [vI x_5.Kind, vI x_5.From, vI x_5.To, vU x_5.Term, vU x_5.Index, vU x_5.Prev, vU x_5.Commit, .bool x_5.Ok, .slice A_6 x_5.Entries.length c_7, .string (bs x_5.Data)]⟩, ⟨41, b_9, [vI 0, vI 0, vU 0, vU 0, vU 0, .slice none ([] : List T_api_Step).length 0, vI 0, .bool false, vI 0, .bool false, vU 0, vI 0, vU 0, vU 0]⟩, ⟨42, b_10, [vI 0, vI 0, vI 0, vU 0, vU 0, vU 0, vU 0, .bool false, .slice none ([] : List T_api_Entry).length 0, .string (bs [])]⟩, ⟨43, b_11, [vI 0, vI 0, vI 0, vU 0, vU 0, vU 0, vU 0, .bool false, .slice none ([] : List T_api_Entry).length 0, .string (bs [])]⟩, ⟨44, b_18, [vI r_17.1.Err, vU r_17.1.Num, vU r_17.1.Extra]⟩] [Rd 0 kT_api_Step A_3 c_4 c_1.now.Steps, Rd 0 kT_api_Entry A_6 c_7 x_5.Entries] [.code c36_25, .code c36_40] (client_Client_Hear.j1 n c_1 x_5 r_17 b_21) := by
  unfold client_Client_Hear.j1
  refine GoO.ite' c36_25e (by kernel_rfl) (fun h22 => ?_) (fun h22 => ?_)
  · refine GoO.seq' c36_26e ?_
    refine GoO.seq' c36_27e ?_
    refine GoO.draw c36_28e (by kernel_rfl) [] [⟨1, b_2, [vI c_1.id, vU c_1.session, vU c_1.seq, vU c_1.call, .bool c_1.busy, vI c_1.now.Kind, vU c_1.now.Session, vU c_1.now.Seq, vU c_1.now.Saga, .slice A_3 c_1.now.Steps.length c_4, vI c_1.now.Step, .bool c_1.now.Back, vI c_1.now.Try, .bool c_1.now.Ok, vU c_1.now.Now, .string (bs c_1.data), vI c_1.to_]⟩, ⟨40, b_8, [vI x_5.Kind, vI x_5.From, vI x_5.To, vU x_5.Term, vU x_5.Index, vU x_5.Prev, vU x_5.Commit, .bool x_5.Ok, .slice A_6 x_5.Entries.length c_7, .string (bs x_5.Data)]⟩] [] (n := 19) (by kernel_rfl) ?_
    simp only [List.replicate]
    refine GoF.take [0, 1, 2, 3] [.p, .b 1, .p, .p] (ks := [0, 3, 4, 6, 8, 68]) (fu := 15) (li := [true, true, true, true, false, false, false, false, false, false, false, false, false, false, false, false, false, false, false]) (env' := [(0, vP b_2), (3, vP b_8), (4, vP b_9), (6, vP b_10), (8, vP b_11), (68, .bool (decide (x_5.Commit ≥ 1)))]) (ps := [b_8 = b_8]) (hk := [0, 1]) (bk := []) (by kernel_rfl) (And.intro rfl trivial) rfl rfl ?_
    refine GoF.bsplit (t := 68) (by kernel_rfl) (fun h23 => ?_) (fun h23 => ?_)
    · refine GoF.take [4, 5, 6, 7, 8] [.p, .b 1, .p, .p, .p] (ks := [0, 3, 4, 6, 8, 73]) (fu := 10) (li := [true, true, true, true, true, true, true, true, true, false, false, false, false, false, false, false, false, false, false]) (env' := [(0, vP b_2), (3, vP b_8), (4, vP b_9), (6, vP b_10), (8, vP b_11), (73, .bool (decide (x_5.Commit ≤ 7)))]) (ps := [b_8 = b_8]) (hk := [0, 1]) (bk := []) (by kernel_rfl) (And.intro rfl trivial) rfl rfl ?_
      refine GoF.bsplit (t := 73) (by kernel_rfl) (fun h24 => ?_) (fun h24 => ?_)
      · refine GoF.take [9, 10, 11, 12, 13, 14, 15, 16, 17, 18] [.p, .b 1, .p, .p, .p, .p, .p, .b 0, .p, .p] (ks := [0, 3, 4, 6, 8, 83]) (fu := 0) (li := [true, true, true, true, true, true, true, true, true, true, true, true, true, true, true, true, true, true, true]) (env' := [(0, vP b_2), (3, vP b_8), (4, vP b_9), (6, vP b_10), (8, vP b_11), (83, .bool ((wi64 (wu64 (x_5.Commit - 1))) != c_1.to_))]) (ps := [b_8 = b_8, b_2 = b_2]) (hk := [0, 1]) (bk := []) (by kernel_rfl) (And.intro rfl (And.intro rfl trivial)) rfl rfl ?_
        refine GoF.done (by kernel_rfl) ?_
        exact GoO.sub (ks := [0, 3, 4, 6, 8, 83]) (hk := [0, 1, 2, 3, 4]) (bk := [0, 1]) (by kernel_rfl) (by kernel_rfl) (by kernel_rfl) (client_Client_Hear_j2_ok n c_1 x_5 b_2 A_3 c_4 A_6 c_7 b_8 b_9 b_10 b_11 w0 S0 ((wi64 (wu64 (x_5.Commit - 1))) != c_1.to_))
      · refine GoF.take [9, 10, 11, 12, 13, 14, 15, 16, 17, 18] [.p, .p, .p, .p, .p, .p, .p, .p, .p, .p] (ks := [0, 3, 4, 6, 8, 83]) (fu := 0) (li := [true, true, true, true, true, true, true, true, true, true, true, true, true, true, true, true, true, true, true]) (env' := [(0, vP b_2), (3, vP b_8), (4, vP b_9), (6, vP b_10), (8, vP b_11), (83, .bool false)]) (ps := []) (hk := [0, 1]) (bk := []) (by kernel_rfl) trivial rfl rfl ?_
        refine GoF.done (by kernel_rfl) ?_
        exact GoO.sub (ks := [0, 3, 4, 6, 8, 83]) (hk := [0, 1, 2, 3, 4]) (bk := [0, 1]) (by kernel_rfl) (by kernel_rfl) (by kernel_rfl) (client_Client_Hear_j2_ok n c_1 x_5 b_2 A_3 c_4 A_6 c_7 b_8 b_9 b_10 b_11 w0 S0 false)
    · refine GoF.take [4, 5, 6, 7, 8, 9, 10, 11, 12, 13, 14, 15, 16, 17, 18] [.p, .p, .p, .p, .p, .p, .p, .p, .p, .p, .p, .p, .p, .p, .p] (ks := [0, 3, 4, 6, 8, 83]) (fu := 0) (li := [true, true, true, true, true, true, true, true, true, true, true, true, true, true, true, true, true, true, true]) (env' := [(0, vP b_2), (3, vP b_8), (4, vP b_9), (6, vP b_10), (8, vP b_11), (83, .bool false)]) (ps := []) (hk := [0, 1]) (bk := []) (by kernel_rfl) trivial rfl rfl ?_
      refine GoF.done (by kernel_rfl) ?_
      exact GoO.sub (ks := [0, 3, 4, 6, 8, 83]) (hk := [0, 1, 2, 3, 4]) (bk := [0, 1]) (by kernel_rfl) (by kernel_rfl) (by kernel_rfl) (client_Client_Hear_j2_ok n c_1 x_5 b_2 A_3 c_4 A_6 c_7 b_8 b_9 b_10 b_11 w0 S0 false)
  · refine GoO.skip' c36_39e ?_
    refine GoO.seq' c36_40e ?_
    refine GoO.region' (is := [0, 1, 2, 3]) c36_41e (by kernel_rfl) ?_
    refine GoO.exec (is := [0, 1, 2, 3]) (hs := [.p, .p, .p, .b 0]) (rest := []) (ks := [0, 4, 6, 8, 9]) (env' := [(0, vP b_2), (4, vP b_9), (6, vP b_10), (8, vP b_11), (9, vP b_18)]) (H' := [⟨1, b_2, [vI c_1.id, vU c_1.session, vU c_1.seq, vU c_1.call, .bool false, vI c_1.now.Kind, vU c_1.now.Session, vU c_1.now.Seq, vU c_1.now.Saga, .slice A_3 c_1.now.Steps.length c_4, vI c_1.now.Step, .bool c_1.now.Back, vI c_1.now.Try, .bool c_1.now.Ok, vU c_1.now.Now, .string (bs c_1.data), vI c_1.to_]⟩, ⟨40, b_8, [vI x_5.Kind, vI x_5.From, vI x_5.To, vU x_5.Term, vU x_5.Index, vU x_5.Prev, vU x_5.Commit, .bool x_5.Ok, .slice A_6 x_5.Entries.length c_7, .string (bs x_5.Data)]⟩, ⟨41, b_9, [vI 0, vI 0, vU 0, vU 0, vU 0, .slice none ([] : List T_api_Step).length 0, vI 0, .bool false, vI 0, .bool false, vU 0, vI 0, vU 0, vU 0]⟩, ⟨42, b_10, [vI 0, vI 0, vI 0, vU 0, vU 0, vU 0, vU 0, .bool false, .slice none ([] : List T_api_Entry).length 0, .string (bs [])]⟩, ⟨43, b_11, [vI 0, vI 0, vI 0, vU 0, vU 0, vU 0, vU 0, .bool false, .slice none ([] : List T_api_Entry).length 0, .string (bs [])]⟩, ⟨44, b_18, [vI r_17.1.Err, vU r_17.1.Num, vU r_17.1.Extra]⟩]) (ps := [b_2 = b_2]) (by kernel_rfl) (And.intro rfl trivial) ?_
    refine GoO.regionEnd ?_
    refine GoO.seq' c36_42e ?_
    refine GoO.block' c36_43e ?_
    refine GoO.seq' c36_44e ?_
    refine GoO.region' (is := [0, 1, 2, 3, 4, 5, 6]) c36_45e (by kernel_rfl) ?_
    refine GoO.exec (is := [0, 1, 2, 3, 4, 5, 6]) (hs := [.p, .p, .p, .p, .b 0, .p, .p]) (rest := []) (ks := [0, 4, 6, 8, 9, 106]) (env' := [(0, vP b_2), (4, vP b_9), (6, vP b_10), (8, vP b_11), (9, vP b_18), (106, .bool (c_1.now.Kind == 1))]) (H' := [⟨1, b_2, [vI c_1.id, vU c_1.session, vU c_1.seq, vU c_1.call, .bool false, vI c_1.now.Kind, vU c_1.now.Session, vU c_1.now.Seq, vU c_1.now.Saga, .slice A_3 c_1.now.Steps.length c_4, vI c_1.now.Step, .bool c_1.now.Back, vI c_1.now.Try, .bool c_1.now.Ok, vU c_1.now.Now, .string (bs c_1.data), vI c_1.to_]⟩, ⟨40, b_8, [vI x_5.Kind, vI x_5.From, vI x_5.To, vU x_5.Term, vU x_5.Index, vU x_5.Prev, vU x_5.Commit, .bool x_5.Ok, .slice A_6 x_5.Entries.length c_7, .string (bs x_5.Data)]⟩, ⟨41, b_9, [vI 0, vI 0, vU 0, vU 0, vU 0, .slice none ([] : List T_api_Step).length 0, vI 0, .bool false, vI 0, .bool false, vU 0, vI 0, vU 0, vU 0]⟩, ⟨42, b_10, [vI 0, vI 0, vI 0, vU 0, vU 0, vU 0, vU 0, .bool false, .slice none ([] : List T_api_Entry).length 0, .string (bs [])]⟩, ⟨43, b_11, [vI 0, vI 0, vI 0, vU 0, vU 0, vU 0, vU 0, .bool false, .slice none ([] : List T_api_Entry).length 0, .string (bs [])]⟩, ⟨44, b_18, [vI r_17.1.Err, vU r_17.1.Num, vU r_17.1.Extra]⟩]) (ps := [b_2 = b_2]) (by kernel_rfl) (And.intro rfl trivial) ?_
    refine GoO.regionEnd ?_
    refine GoO.ite' c36_46e (by kernel_rfl) (fun h31 => ?_) (fun h31 => ?_)
    · refine GoO.seq' c36_47e ?_
      refine GoO.region' (is := [0, 1, 2]) c36_48e (by kernel_rfl) ?_
      refine GoO.exec (is := [0, 1, 2]) (hs := [.p, .b 5, .p]) (rest := []) (ks := [0, 4, 6, 8, 9, 115]) (env' := [(0, vP b_2), (4, vP b_9), (6, vP b_10), (8, vP b_11), (9, vP b_18), (115, .bool (r_17.1.Err == 0))]) (H' := [⟨1, b_2, [vI c_1.id, vU c_1.session, vU c_1.seq, vU c_1.call, .bool false, vI c_1.now.Kind, vU c_1.now.Session, vU c_1.now.Seq, vU c_1.now.Saga, .slice A_3 c_1.now.Steps.length c_4, vI c_1.now.Step, .bool c_1.now.Back, vI c_1.now.Try, .bool c_1.now.Ok, vU c_1.now.Now, .string (bs c_1.data), vI c_1.to_]⟩, ⟨40, b_8, [vI x_5.Kind, vI x_5.From, vI x_5.To, vU x_5.Term, vU x_5.Index, vU x_5.Prev, vU x_5.Commit, .bool x_5.Ok, .slice A_6 x_5.Entries.length c_7, .string (bs x_5.Data)]⟩, ⟨41, b_9, [vI 0, vI 0, vU 0, vU 0, vU 0, .slice none ([] : List T_api_Step).length 0, vI 0, .bool false, vI 0, .bool false, vU 0, vI 0, vU 0, vU 0]⟩, ⟨42, b_10, [vI 0, vI 0, vI 0, vU 0, vU 0, vU 0, vU 0, .bool false, .slice none ([] : List T_api_Entry).length 0, .string (bs [])]⟩, ⟨43, b_11, [vI 0, vI 0, vI 0, vU 0, vU 0, vU 0, vU 0, .bool false, .slice none ([] : List T_api_Entry).length 0, .string (bs [])]⟩, ⟨44, b_18, [vI r_17.1.Err, vU r_17.1.Num, vU r_17.1.Extra]⟩]) (ps := [b_18 = b_18]) (by kernel_rfl) (And.intro rfl trivial) ?_
      refine GoO.regionEnd ?_
      refine GoO.ite' c36_49e (by kernel_rfl) (fun h32 => ?_) (fun h32 => ?_)
      · refine GoO.region' (is := [0, 1, 2, 3, 4, 5, 6, 7, 8, 9]) c36_50e (by kernel_rfl) ?_
        refine GoO.exec (is := [0, 1, 2, 3, 4, 5, 6, 7, 8, 9]) (hs := [.p, .p, .p, .b 5, .p, .p, .b 0, .p, .p, .b 0]) (rest := []) (ks := [0, 4, 6, 8, 9]) (env' := [(0, vP b_2), (4, vP b_9), (6, vP b_10), (8, vP b_11), (9, vP b_18)]) (H' := [⟨1, b_2, [vI c_1.id, vU r_17.1.Num, vU 0, vU c_1.call, .bool false, vI c_1.now.Kind, vU c_1.now.Session, vU c_1.now.Seq, vU c_1.now.Saga, .slice A_3 c_1.now.Steps.length c_4, vI c_1.now.Step, .bool c_1.now.Back, vI c_1.now.Try, .bool c_1.now.Ok, vU c_1.now.Now, .string (bs c_1.data), vI c_1.to_]⟩, ⟨40, b_8, [vI x_5.Kind, vI x_5.From, vI x_5.To, vU x_5.Term, vU x_5.Index, vU x_5.Prev, vU x_5.Commit, .bool x_5.Ok, .slice A_6 x_5.Entries.length c_7, .string (bs x_5.Data)]⟩, ⟨41, b_9, [vI 0, vI 0, vU 0, vU 0, vU 0, .slice none ([] : List T_api_Step).length 0, vI 0, .bool false, vI 0, .bool false, vU 0, vI 0, vU 0, vU 0]⟩, ⟨42, b_10, [vI 0, vI 0, vI 0, vU 0, vU 0, vU 0, vU 0, .bool false, .slice none ([] : List T_api_Entry).length 0, .string (bs [])]⟩, ⟨43, b_11, [vI 0, vI 0, vI 0, vU 0, vU 0, vU 0, vU 0, .bool false, .slice none ([] : List T_api_Entry).length 0, .string (bs [])]⟩, ⟨44, b_18, [vI r_17.1.Err, vU r_17.1.Num, vU r_17.1.Extra]⟩]) (ps := [b_18 = b_18, b_2 = b_2, b_2 = b_2]) (by kernel_rfl) (And.intro rfl (And.intro rfl (And.intro rfl trivial))) ?_
        refine GoO.regionEnd ?_
        exact GoO.sub (ks := [0, 4, 6, 8, 9]) (hk := [0, 2, 3, 4, 5]) (bk := [0]) (by kernel_rfl) (by kernel_rfl) (by kernel_rfl) (client_Client_Hear_j3_ok n c_1 r_17 b_2 A_3 c_4 b_9 b_10 b_11 b_18 A_6 c_7 w0 S0 r_17.1.Num 0)
      · refine GoO.skip' c36_51e ?_
        exact GoO.sub (ks := [0, 4, 6, 8, 9]) (hk := [0, 2, 3, 4, 5]) (bk := [0]) (by kernel_rfl) (by kernel_rfl) (by kernel_rfl) (client_Client_Hear_j3_ok n c_1 r_17 b_2 A_3 c_4 b_9 b_10 b_11 b_18 A_6 c_7 w0 S0 c_1.session c_1.seq)
    · refine GoO.seq' c36_52e ?_
      refine GoO.region' (is := [0, 1, 2, 3]) c36_53e (by kernel_rfl) ?_
      refine GoO.exec (is := [0, 1, 2, 3]) (hs := [.p, .b 5, .p, .p]) (rest := []) (ks := [0, 4, 6, 8, 9, 124]) (env' := [(0, vP b_2), (4, vP b_9), (6, vP b_10), (8, vP b_11), (9, vP b_18), (124, .bool (r_17.1.Err == 40))]) (H' := [⟨1, b_2, [vI c_1.id, vU c_1.session, vU c_1.seq, vU c_1.call, .bool false, vI c_1.now.Kind, vU c_1.now.Session, vU c_1.now.Seq, vU c_1.now.Saga, .slice A_3 c_1.now.Steps.length c_4, vI c_1.now.Step, .bool c_1.now.Back, vI c_1.now.Try, .bool c_1.now.Ok, vU c_1.now.Now, .string (bs c_1.data), vI c_1.to_]⟩, ⟨40, b_8, [vI x_5.Kind, vI x_5.From, vI x_5.To, vU x_5.Term, vU x_5.Index, vU x_5.Prev, vU x_5.Commit, .bool x_5.Ok, .slice A_6 x_5.Entries.length c_7, .string (bs x_5.Data)]⟩, ⟨41, b_9, [vI 0, vI 0, vU 0, vU 0, vU 0, .slice none ([] : List T_api_Step).length 0, vI 0, .bool false, vI 0, .bool false, vU 0, vI 0, vU 0, vU 0]⟩, ⟨42, b_10, [vI 0, vI 0, vI 0, vU 0, vU 0, vU 0, vU 0, .bool false, .slice none ([] : List T_api_Entry).length 0, .string (bs [])]⟩, ⟨43, b_11, [vI 0, vI 0, vI 0, vU 0, vU 0, vU 0, vU 0, .bool false, .slice none ([] : List T_api_Entry).length 0, .string (bs [])]⟩, ⟨44, b_18, [vI r_17.1.Err, vU r_17.1.Num, vU r_17.1.Extra]⟩]) (ps := [b_18 = b_18]) (by kernel_rfl) (And.intro rfl trivial) ?_
      refine GoO.regionEnd ?_
      refine GoO.ite' c36_54e (by kernel_rfl) (fun h33 => ?_) (fun h33 => ?_)
      · refine GoO.region' (is := [0, 1, 2, 3, 4, 5, 6, 7]) c36_55e (by kernel_rfl) ?_
        refine GoO.exec (is := [0, 1, 2, 3, 4, 5, 6, 7]) (hs := [.p, .p, .p, .p, .b 0, .p, .p, .b 0]) (rest := []) (ks := [0, 4, 6, 8, 9]) (env' := [(0, vP b_2), (4, vP b_9), (6, vP b_10), (8, vP b_11), (9, vP b_18)]) (H' := [⟨1, b_2, [vI c_1.id, vU 0, vU 0, vU c_1.call, .bool false, vI c_1.now.Kind, vU c_1.now.Session, vU c_1.now.Seq, vU c_1.now.Saga, .slice A_3 c_1.now.Steps.length c_4, vI c_1.now.Step, .bool c_1.now.Back, vI c_1.now.Try, .bool c_1.now.Ok, vU c_1.now.Now, .string (bs c_1.data), vI c_1.to_]⟩, ⟨40, b_8, [vI x_5.Kind, vI x_5.From, vI x_5.To, vU x_5.Term, vU x_5.Index, vU x_5.Prev, vU x_5.Commit, .bool x_5.Ok, .slice A_6 x_5.Entries.length c_7, .string (bs x_5.Data)]⟩, ⟨41, b_9, [vI 0, vI 0, vU 0, vU 0, vU 0, .slice none ([] : List T_api_Step).length 0, vI 0, .bool false, vI 0, .bool false, vU 0, vI 0, vU 0, vU 0]⟩, ⟨42, b_10, [vI 0, vI 0, vI 0, vU 0, vU 0, vU 0, vU 0, .bool false, .slice none ([] : List T_api_Entry).length 0, .string (bs [])]⟩, ⟨43, b_11, [vI 0, vI 0, vI 0, vU 0, vU 0, vU 0, vU 0, .bool false, .slice none ([] : List T_api_Entry).length 0, .string (bs [])]⟩, ⟨44, b_18, [vI r_17.1.Err, vU r_17.1.Num, vU r_17.1.Extra]⟩]) (ps := [b_2 = b_2, b_2 = b_2]) (by kernel_rfl) (And.intro rfl (And.intro rfl trivial)) ?_
        refine GoO.regionEnd ?_
        exact GoO.sub (ks := [0, 4, 6, 8, 9]) (hk := [0, 2, 3, 4, 5]) (bk := [0]) (by kernel_rfl) (by kernel_rfl) (by kernel_rfl) (client_Client_Hear_j3_ok n c_1 r_17 b_2 A_3 c_4 b_9 b_10 b_11 b_18 A_6 c_7 w0 S0 0 0)
      · refine GoO.region' (is := [0, 1, 2, 3, 4, 5, 6, 7]) c36_56e (by kernel_rfl) ?_
        refine GoO.exec (is := [0, 1, 2, 3, 4, 5, 6, 7]) (hs := [.p, .p, .p, .b 0, .p, .p, .p, .b 0]) (rest := []) (ks := [0, 4, 6, 8, 9]) (env' := [(0, vP b_2), (4, vP b_9), (6, vP b_10), (8, vP b_11), (9, vP b_18)]) (H' := [⟨1, b_2, [vI c_1.id, vU c_1.session, vU (wu64 (c_1.seq + 1)), vU c_1.call, .bool false, vI c_1.now.Kind, vU c_1.now.Session, vU c_1.now.Seq, vU c_1.now.Saga, .slice A_3 c_1.now.Steps.length c_4, vI c_1.now.Step, .bool c_1.now.Back, vI c_1.now.Try, .bool c_1.now.Ok, vU c_1.now.Now, .string (bs c_1.data), vI c_1.to_]⟩, ⟨40, b_8, [vI x_5.Kind, vI x_5.From, vI x_5.To, vU x_5.Term, vU x_5.Index, vU x_5.Prev, vU x_5.Commit, .bool x_5.Ok, .slice A_6 x_5.Entries.length c_7, .string (bs x_5.Data)]⟩, ⟨41, b_9, [vI 0, vI 0, vU 0, vU 0, vU 0, .slice none ([] : List T_api_Step).length 0, vI 0, .bool false, vI 0, .bool false, vU 0, vI 0, vU 0, vU 0]⟩, ⟨42, b_10, [vI 0, vI 0, vI 0, vU 0, vU 0, vU 0, vU 0, .bool false, .slice none ([] : List T_api_Entry).length 0, .string (bs [])]⟩, ⟨43, b_11, [vI 0, vI 0, vI 0, vU 0, vU 0, vU 0, vU 0, .bool false, .slice none ([] : List T_api_Entry).length 0, .string (bs [])]⟩, ⟨44, b_18, [vI r_17.1.Err, vU r_17.1.Num, vU r_17.1.Extra]⟩]) (ps := [b_2 = b_2, b_2 = b_2]) (by kernel_rfl) (And.intro rfl (And.intro rfl trivial)) ?_
        refine GoO.regionEnd ?_
        exact GoO.sub (ks := [0, 4, 6, 8, 9]) (hk := [0, 2, 3, 4, 5]) (bk := [0]) (by kernel_rfl) (by kernel_rfl) (by kernel_rfl) (client_Client_Hear_j3_ok n c_1 r_17 b_2 A_3 c_4 b_9 b_10 b_11 b_18 A_6 c_7 w0 S0 c_1.session (wu64 (c_1.seq + 1)))
theorem client_Client_Hear_j0_ok (n : Nat) (c_1 : T_client_Client) (x_5 : T_api_Letter) (b_2 : Nat) (A_3 : Option Addr) (c_4 : Nat) (A_6 : Option Addr) (c_7 : Nat) (b_8 : Nat) (b_9 : Nat) (b_10 : Nat) (b_11 : Nat) (w0 : World) (S0 : Fam) (b_15 : Bool) :
    GoO (client_Client_Hear.cx b_2 A_3 c_4 A_6 c_7 w0 S0) [(0, vP b_2), (3, vP b_8), (4, vP b_9), (6, vP b_10), (8, vP b_11), (44, .bool b_15)] [⟨1, b_2, [vI c_1.id, vU c_1.session, vU c_1.seq, vU c_1.call, .bool c_1.busy, vI c_1.now.Kind, vU c_1.now.Session, vU c_1.now.Seq, vU c_1.now.Saga, .slice A_3 c_1.now.Steps.length c_4, vI c_1.now.Step, .bool c_1.now.Back, vI c_1.now.Try, .bool c_1.now.Ok, vU c_1.now.Now, .string (bs c_1.data), vI c_1.to_]⟩, ⟨40, b_8, [vI x_5.Kind, vI x_5.From, vI x_5.To, vU x_5.Term, vU x_5.Index, vU x_5.Prev, vU x_5.Commit, .bool x_5.Ok, .slice A_6 x_5.Entries.length c_7, .string (bs x_5.Data)]⟩, ⟨41, b_9, [vI 0, vI 0, vU 0, vU 0, vU 0, .slice none ([] : List T_api_Step).length 0, vI 0, .bool false, vI 0, .bool false, vU 0, vI 0, vU 0, vU 0]⟩, ⟨42, b_10, [vI 0, vI 0, vI 0, vU 0, vU 0, vU 0, vU 0, .bool false, .slice none ([] : List T_api_Entry).length 0, .string (bs [])]⟩, ⟨43, b_11, [vI 0, vI 0, vI 0, vU 0, vU 0, vU 0, vU 0, .bool false, .slice none ([] : List T_api_Entry).length 0, .string (bs [])]⟩] [Rd 0 kT_api_Step A_3 c_4 c_1.now.Steps, Rd 0 kT_api_Entry A_6 c_7 x_5.Entries] [.code c36_7, .code c36_12] (client_Client_Hear.j0 n c_1 x_5 b_15) := by
  unfold client_Client_Hear.j0
  refine GoO.ite' c36_7e (by kernel_rfl) (fun h16 => ?_) (fun h16 => ?_)
  · refine GoO.seq' c36_8e ?_
    refine GoO.draw c36_9e (by kernel_rfl) [4, 5] [⟨43, b_11, [vI 0, vI 0, vI 0, vU 0, vU 0, vU 0, vU 0, .bool false, .slice none ([] : List T_api_Entry).length 0, .string (bs [])]⟩] [] (n := 6) (by kernel_rfl) ?_
    simp only [List.replicate]
    refine GoF.take [0, 1] [.p, .b 0] (ks := [4, 6, 45, 46]) (fu := 4) (li := [true, true, false, false, false, false]) (env' := [(4, vP b_9), (6, vP b_10), (45, .agg ⟨[vI 0, vI 0, vU 0, vU 0, vU 0, .slice none ([] : List T_api_Step).length 0, vI 0, .bool false, vI 0, .bool false, vU 0, vI 0, vU 0, vU 0]⟩), (46, .agg ⟨[vI 0, vI 0, vI 0, vU 0, vU 0, vU 0, vU 0, .bool false, .slice none ([] : List T_api_Entry).length 0, .string (bs [])]⟩)]) (ps := [b_11 = b_11]) (hk := [4]) (bk := []) (by kernel_rfl) (And.intro rfl trivial) rfl rfl ?_
    refine GoF.fin1 (i := 2) (hint := .b 2) (ps := [b_9 = b_9]) (hk := [4]) (bk := []) (by kernel_rfl) rfl (And.intro rfl trivial) (.inr ⟨rfl, rfl⟩) ?_
    refine GoF.take [3] [.p] (ks := [4, 5, 6, 46]) (fu := 2) (li := [true, true, true, true, false, false]) (env' := [(4, vP b_9), (5, .bool false), (6, vP b_10), (46, .agg ⟨[vI 0, vI 0, vI 0, vU 0, vU 0, vU 0, vU 0, .bool false, .slice none ([] : List T_api_Entry).length 0, .string (bs [])]⟩)]) (ps := []) (hk := [4]) (bk := []) (by kernel_rfl) trivial rfl rfl ?_
    refine GoF.fin1 (i := 4) (hint := .b 3) (ps := [b_10 = b_10]) (hk := []) (bk := []) (by kernel_rfl) rfl (And.intro rfl trivial) (.inl rfl) ?_
    refine GoF.fin1 (i := 5) (hint := .p) (ps := []) (hk := []) (bk := []) (by kernel_rfl) rfl trivial (.inl rfl) ?_
    refine GoF.done (by kernel_rfl) ?_
    refine GoO.nilRd kT_api_Step ?_
    refine GoO.nilRd kT_api_Entry ?_
    exact GoO.ret' (h := c36_10e) (hs := [2, 3]) (ps := [b_9 = b_9, b_10 = b_10]) (hk := [0]) (bk := [1, 0, 2]) Try.func36 (⟨none, 0, none, 0, A_3, c_4⟩ : Option Addr × Nat × Option Addr × Nat × Option Addr × Nat) (by kernel_rfl) (And.intro rfl (And.intro rfl trivial)) (by kernel_rfl) (by kernel_rfl)
  · refine GoO.skip' c36_11e ?_
    refine GoO.seq' c36_12e ?_
    refine GoO.region' (is := [0, 1, 2, 3, 4, 5, 6, 7, 8]) c36_13e (by kernel_rfl) ?_
    refine GoO.exec (is := [0, 1]) (hs := [.p, .b 1]) (rest := [2, 3, 4, 5, 6, 7, 8]) (ks := [0, 3, 4, 6, 8, 49]) (env' := [(0, vP b_2), (3, vP b_8), (4, vP b_9), (6, vP b_10), (8, vP b_11), (49, .string (bs x_5.Data))]) (H' := [⟨1, b_2, [vI c_1.id, vU c_1.session, vU c_1.seq, vU c_1.call, .bool c_1.busy, vI c_1.now.Kind, vU c_1.now.Session, vU c_1.now.Seq, vU c_1.now.Saga, .slice A_3 c_1.now.Steps.length c_4, vI c_1.now.Step, .bool c_1.now.Back, vI c_1.now.Try, .bool c_1.now.Ok, vU c_1.now.Now, .string (bs c_1.data), vI c_1.to_]⟩, ⟨40, b_8, [vI x_5.Kind, vI x_5.From, vI x_5.To, vU x_5.Term, vU x_5.Index, vU x_5.Prev, vU x_5.Commit, .bool x_5.Ok, .slice A_6 x_5.Entries.length c_7, .string (bs x_5.Data)]⟩, ⟨41, b_9, [vI 0, vI 0, vU 0, vU 0, vU 0, .slice none ([] : List T_api_Step).length 0, vI 0, .bool false, vI 0, .bool false, vU 0, vI 0, vU 0, vU 0]⟩, ⟨42, b_10, [vI 0, vI 0, vI 0, vU 0, vU 0, vU 0, vU 0, .bool false, .slice none ([] : List T_api_Entry).length 0, .string (bs [])]⟩, ⟨43, b_11, [vI 0, vI 0, vI 0, vU 0, vU 0, vU 0, vU 0, .bool false, .slice none ([] : List T_api_Entry).length 0, .string (bs [])]⟩]) (ps := [b_8 = b_8]) (by kernel_rfl) (And.intro rfl trivial) ?_
    refine OpTo.go (GoO.call rfl (by kernel_rfl) (by kernel_rfl) (command_Said_ok n x_5.Data) [[0]] [] [] [] (hks := [0, 1, 2, 3, 4]) (bks := [0, 1]) (by kernel_rfl) (by kernel_rfl) (by kernel_rfl) (.inl rfl) rfl rfl (by kernel_rfl) (by kernel_rfl) _ (fun _ _ => rfl) _ _ (fun _ _ => rfl) (fun _ _ => rfl) (fun _ _ => by kernel_rfl) (fun _ _ => by kernel_rfl) (fun r_17 x_36 => ?_))
    refine GoO.shape (env' := [(0, vP b_2), (3, vP b_8), (4, vP b_9), (6, vP b_10), (8, vP b_11), (49, .string (bs x_5.Data)), (50, .tuple ⟨[.agg ⟨[vI r_17.1.Err, vU r_17.1.Num, vU r_17.1.Extra]⟩, vI r_17.2]⟩)]) (H' := [⟨1, b_2, [vI c_1.id, vU c_1.session, vU c_1.seq, vU c_1.call, .bool c_1.busy, vI c_1.now.Kind, vU c_1.now.Session, vU c_1.now.Seq, vU c_1.now.Saga, .slice A_3 c_1.now.Steps.length c_4, vI c_1.now.Step, .bool c_1.now.Back, vI c_1.now.Try, .bool c_1.now.Ok, vU c_1.now.Now, .string (bs c_1.data), vI c_1.to_]⟩, ⟨40, b_8, [vI x_5.Kind, vI x_5.From, vI x_5.To, vU x_5.Term, vU x_5.Index, vU x_5.Prev, vU x_5.Commit, .bool x_5.Ok, .slice A_6 x_5.Entries.length c_7, .string (bs x_5.Data)]⟩, ⟨41, b_9, [vI 0, vI 0, vU 0, vU 0, vU 0, .slice none ([] : List T_api_Step).length 0, vI 0, .bool false, vI 0, .bool false, vU 0, vI 0, vU 0, vU 0]⟩, ⟨42, b_10, [vI 0, vI 0, vI 0, vU 0, vU 0, vU 0, vU 0, .bool false, .slice none ([] : List T_api_Entry).length 0, .string (bs [])]⟩, ⟨43, b_11, [vI 0, vI 0, vI 0, vU 0, vU 0, vU 0, vU 0, .bool false, .slice none ([] : List T_api_Entry).length 0, .string (bs [])]⟩]) (B' := [Rd 0 kT_api_Step A_3 c_4 c_1.now.Steps, Rd 0 kT_api_Entry A_6 c_7 x_5.Entries]) (ks := [0, 3, 4, 6, 8, 49, 50]) (by kernel_rfl) (by kernel_rfl) (by kernel_rfl) ?_
    refine GoO.exec (is := [3, 4, 5]) (hs := [.p, .p, .p]) (rest := [6, 7, 8]) (ks := [0, 3, 4, 6, 8, 51, 52]) (env' := [(0, vP b_2), (3, vP b_8), (4, vP b_9), (6, vP b_10), (8, vP b_11), (51, .agg ⟨[vI r_17.1.Err, vU r_17.1.Num, vU r_17.1.Extra]⟩), (52, vI r_17.2)]) (H' := [⟨1, b_2, [vI c_1.id, vU c_1.session, vU c_1.seq, vU c_1.call, .bool c_1.busy, vI c_1.now.Kind, vU c_1.now.Session, vU c_1.now.Seq, vU c_1.now.Saga, .slice A_3 c_1.now.Steps.length c_4, vI c_1.now.Step, .bool c_1.now.Back, vI c_1.now.Try, .bool c_1.now.Ok, vU c_1.now.Now, .string (bs c_1.data), vI c_1.to_]⟩, ⟨40, b_8, [vI x_5.Kind, vI x_5.From, vI x_5.To, vU x_5.Term, vU x_5.Index, vU x_5.Prev, vU x_5.Commit, .bool x_5.Ok, .slice A_6 x_5.Entries.length c_7, .string (bs x_5.Data)]⟩, ⟨41, b_9, [vI 0, vI 0, vU 0, vU 0, vU 0, .slice none ([] : List T_api_Step).length 0, vI 0, .bool false, vI 0, .bool false, vU 0, vI 0, vU 0, vU 0]⟩, ⟨42, b_10, [vI 0, vI 0, vI 0, vU 0, vU 0, vU 0, vU 0, .bool false, .slice none ([] : List T_api_Entry).length 0, .string (bs [])]⟩, ⟨43, b_11, [vI 0, vI 0, vI 0, vU 0, vU 0, vU 0, vU 0, .bool false, .slice none ([] : List T_api_Entry).length 0, .string (bs [])]⟩]) (ps := []) (by kernel_rfl) trivial ?_
    refine OpTo.go (GoO.new rfl 44 (cs := [vI 0, vU 0, vU 0]) (by kernel_rfl) _ (fun _ => rfl) (fun b_18 => ?_))
    refine GoO.exec (is := [7, 8]) (hs := [.b 0, .p]) (rest := []) (ks := [0, 3, 4, 6, 8, 9, 10]) (env' := [(0, vP b_2), (3, vP b_8), (4, vP b_9), (6, vP b_10), (8, vP b_11), (9, vP b_18), (10, vI r_17.2)]) (H' := [⟨44, b_18, [vI r_17.1.Err, vU r_17.1.Num, vU r_17.1.Extra]⟩, ⟨1, b_2, [vI c_1.id, vU c_1.session, vU c_1.seq, vU c_1.call, .bool c_1.busy, vI c_1.now.Kind, vU c_1.now.Session, vU c_1.now.Seq, vU c_1.now.Saga, .slice A_3 c_1.now.Steps.length c_4, vI c_1.now.Step, .bool c_1.now.Back, vI c_1.now.Try, .bool c_1.now.Ok, vU c_1.now.Now, .string (bs c_1.data), vI c_1.to_]⟩, ⟨40, b_8, [vI x_5.Kind, vI x_5.From, vI x_5.To, vU x_5.Term, vU x_5.Index, vU x_5.Prev, vU x_5.Commit, .bool x_5.Ok, .slice A_6 x_5.Entries.length c_7, .string (bs x_5.Data)]⟩, ⟨41, b_9, [vI 0, vI 0, vU 0, vU 0, vU 0, .slice none ([] : List T_api_Step).length 0, vI 0, .bool false, vI 0, .bool false, vU 0, vI 0, vU 0, vU 0]⟩, ⟨42, b_10, [vI 0, vI 0, vI 0, vU 0, vU 0, vU 0, vU 0, .bool false, .slice none ([] : List T_api_Entry).length 0, .string (bs [])]⟩, ⟨43, b_11, [vI 0, vI 0, vI 0, vU 0, vU 0, vU 0, vU 0, .bool false, .slice none ([] : List T_api_Entry).length 0, .string (bs [])]⟩]) (ps := [b_18 = b_18]) (by kernel_rfl) (And.intro rfl trivial) ?_
    refine GoO.regionEnd ?_
    refine GoO.seq' c36_14e ?_
    refine GoO.seq' c36_15e ?_
    refine GoO.region' (is := [0, 1]) c36_16e (by kernel_rfl) ?_
    refine GoO.exec (is := [0, 1]) (hs := [.p, .p]) (rest := []) (ks := [0, 3, 4, 6, 8, 9, 54]) (env' := [(0, vP b_2), (3, vP b_8), (4, vP b_9), (6, vP b_10), (8, vP b_11), (9, vP b_18), (54, .bool (r_17.2 != 0))]) (H' := [⟨44, b_18, [vI r_17.1.Err, vU r_17.1.Num, vU r_17.1.Extra]⟩, ⟨1, b_2, [vI c_1.id, vU c_1.session, vU c_1.seq, vU c_1.call, .bool c_1.busy, vI c_1.now.Kind, vU c_1.now.Session, vU c_1.now.Seq, vU c_1.now.Saga, .slice A_3 c_1.now.Steps.length c_4, vI c_1.now.Step, .bool c_1.now.Back, vI c_1.now.Try, .bool c_1.now.Ok, vU c_1.now.Now, .string (bs c_1.data), vI c_1.to_]⟩, ⟨40, b_8, [vI x_5.Kind, vI x_5.From, vI x_5.To, vU x_5.Term, vU x_5.Index, vU x_5.Prev, vU x_5.Commit, .bool x_5.Ok, .slice A_6 x_5.Entries.length c_7, .string (bs x_5.Data)]⟩, ⟨41, b_9, [vI 0, vI 0, vU 0, vU 0, vU 0, .slice none ([] : List T_api_Step).length 0, vI 0, .bool false, vI 0, .bool false, vU 0, vI 0, vU 0, vU 0]⟩, ⟨42, b_10, [vI 0, vI 0, vI 0, vU 0, vU 0, vU 0, vU 0, .bool false, .slice none ([] : List T_api_Entry).length 0, .string (bs [])]⟩, ⟨43, b_11, [vI 0, vI 0, vI 0, vU 0, vU 0, vU 0, vU 0, .bool false, .slice none ([] : List T_api_Entry).length 0, .string (bs [])]⟩]) (ps := []) (by kernel_rfl) trivial ?_
    refine GoO.regionEnd ?_
    refine GoO.ite' c36_17e (by kernel_rfl) (fun h19 => ?_) (fun h19 => ?_)
    · refine GoO.seq' c36_18e ?_
      refine GoO.draw c36_19e (by kernel_rfl) [4, 5] [⟨43, b_11, [vI 0, vI 0, vI 0, vU 0, vU 0, vU 0, vU 0, .bool false, .slice none ([] : List T_api_Entry).length 0, .string (bs [])]⟩] [] (n := 6) (by kernel_rfl) ?_
      simp only [List.replicate]
      refine GoF.take [0, 1] [.p, .b 0] (ks := [4, 6, 55, 56]) (fu := 4) (li := [true, true, false, false, false, false]) (env' := [(4, vP b_9), (6, vP b_10), (55, .agg ⟨[vI 0, vI 0, vU 0, vU 0, vU 0, .slice none ([] : List T_api_Step).length 0, vI 0, .bool false, vI 0, .bool false, vU 0, vI 0, vU 0, vU 0]⟩), (56, .agg ⟨[vI 0, vI 0, vI 0, vU 0, vU 0, vU 0, vU 0, .bool false, .slice none ([] : List T_api_Entry).length 0, .string (bs [])]⟩)]) (ps := [b_11 = b_11]) (hk := [5]) (bk := []) (by kernel_rfl) (And.intro rfl trivial) rfl rfl ?_
      refine GoF.fin1 (i := 2) (hint := .b 3) (ps := [b_9 = b_9]) (hk := [5]) (bk := []) (by kernel_rfl) rfl (And.intro rfl trivial) (.inr ⟨rfl, rfl⟩) ?_
      refine GoF.take [3] [.p] (ks := [4, 5, 6, 56]) (fu := 2) (li := [true, true, true, true, false, false]) (env' := [(4, vP b_9), (5, .bool false), (6, vP b_10), (56, .agg ⟨[vI 0, vI 0, vI 0, vU 0, vU 0, vU 0, vU 0, .bool false, .slice none ([] : List T_api_Entry).length 0, .string (bs [])]⟩)]) (ps := []) (hk := [5]) (bk := []) (by kernel_rfl) trivial rfl rfl ?_
      refine GoF.fin1 (i := 4) (hint := .b 4) (ps := [b_10 = b_10]) (hk := []) (bk := []) (by kernel_rfl) rfl (And.intro rfl trivial) (.inl rfl) ?_
      refine GoF.fin1 (i := 5) (hint := .p) (ps := []) (hk := []) (bk := []) (by kernel_rfl) rfl trivial (.inl rfl) ?_
      refine GoF.done (by kernel_rfl) ?_
      refine GoO.nilRd kT_api_Step ?_
      refine GoO.nilRd kT_api_Entry ?_
      exact GoO.ret' (h := c36_20e) (hs := [3, 4]) (ps := [b_9 = b_9, b_10 = b_10]) (hk := [1]) (bk := [1, 0, 2]) Try.func36 (⟨none, 0, none, 0, A_3, c_4⟩ : Option Addr × Nat × Option Addr × Nat × Option Addr × Nat) (by kernel_rfl) (And.intro rfl (And.intro rfl trivial)) (by kernel_rfl) (by kernel_rfl)
    · refine GoO.skip' c36_21e ?_
      refine GoO.seq' c36_22e ?_
      refine GoO.seq' c36_23e ?_
      refine GoO.region' (is := [0, 1, 2, 3, 4, 5, 6, 7]) c36_24e (by kernel_rfl) ?_
      refine GoO.exec (is := [0, 1, 2, 3]) (hs := [.p, .b 0, .p, .p]) (rest := [4, 5, 6, 7]) (ks := [0, 3, 4, 6, 8, 9, 60]) (env' := [(0, vP b_2), (3, vP b_8), (4, vP b_9), (6, vP b_10), (8, vP b_11), (9, vP b_18), (60, .bool (r_17.1.Err == 30))]) (H' := [⟨44, b_18, [vI r_17.1.Err, vU r_17.1.Num, vU r_17.1.Extra]⟩, ⟨1, b_2, [vI c_1.id, vU c_1.session, vU c_1.seq, vU c_1.call, .bool c_1.busy, vI c_1.now.Kind, vU c_1.now.Session, vU c_1.now.Seq, vU c_1.now.Saga, .slice A_3 c_1.now.Steps.length c_4, vI c_1.now.Step, .bool c_1.now.Back, vI c_1.now.Try, .bool c_1.now.Ok, vU c_1.now.Now, .string (bs c_1.data), vI c_1.to_]⟩, ⟨40, b_8, [vI x_5.Kind, vI x_5.From, vI x_5.To, vU x_5.Term, vU x_5.Index, vU x_5.Prev, vU x_5.Commit, .bool x_5.Ok, .slice A_6 x_5.Entries.length c_7, .string (bs x_5.Data)]⟩, ⟨41, b_9, [vI 0, vI 0, vU 0, vU 0, vU 0, .slice none ([] : List T_api_Step).length 0, vI 0, .bool false, vI 0, .bool false, vU 0, vI 0, vU 0, vU 0]⟩, ⟨42, b_10, [vI 0, vI 0, vI 0, vU 0, vU 0, vU 0, vU 0, .bool false, .slice none ([] : List T_api_Entry).length 0, .string (bs [])]⟩, ⟨43, b_11, [vI 0, vI 0, vI 0, vU 0, vU 0, vU 0, vU 0, .bool false, .slice none ([] : List T_api_Entry).length 0, .string (bs [])]⟩]) (ps := [b_18 = b_18]) (by kernel_rfl) (And.intro rfl trivial) ?_
      refine GoO.bsplit (t := 60) (by kernel_rfl) (fun h20 => ?_) (fun h20 => ?_)
      · refine GoO.exec (is := [4, 5, 6, 7]) (hs := [.p, .p, .p, .p]) (rest := []) (ks := [0, 3, 4, 6, 8, 9, 64]) (env' := [(0, vP b_2), (3, vP b_8), (4, vP b_9), (6, vP b_10), (8, vP b_11), (9, vP b_18), (64, .bool true)]) (H' := [⟨44, b_18, [vI r_17.1.Err, vU r_17.1.Num, vU r_17.1.Extra]⟩, ⟨1, b_2, [vI c_1.id, vU c_1.session, vU c_1.seq, vU c_1.call, .bool c_1.busy, vI c_1.now.Kind, vU c_1.now.Session, vU c_1.now.Seq, vU c_1.now.Saga, .slice A_3 c_1.now.Steps.length c_4, vI c_1.now.Step, .bool c_1.now.Back, vI c_1.now.Try, .bool c_1.now.Ok, vU c_1.now.Now, .string (bs c_1.data), vI c_1.to_]⟩, ⟨40, b_8, [vI x_5.Kind, vI x_5.From, vI x_5.To, vU x_5.Term, vU x_5.Index, vU x_5.Prev, vU x_5.Commit, .bool x_5.Ok, .slice A_6 x_5.Entries.length c_7, .string (bs x_5.Data)]⟩, ⟨41, b_9, [vI 0, vI 0, vU 0, vU 0, vU 0, .slice none ([] : List T_api_Step).length 0, vI 0, .bool false, vI 0, .bool false, vU 0, vI 0, vU 0, vU 0]⟩, ⟨42, b_10, [vI 0, vI 0, vI 0, vU 0, vU 0, vU 0, vU 0, .bool false, .slice none ([] : List T_api_Entry).length 0, .string (bs [])]⟩, ⟨43, b_11, [vI 0, vI 0, vI 0, vU 0, vU 0, vU 0, vU 0, .bool false, .slice none ([] : List T_api_Entry).length 0, .string (bs [])]⟩]) (ps := []) (by kernel_rfl) trivial ?_
        refine GoO.regionEnd ?_
        exact GoO.sub (ks := [0, 3, 4, 6, 8, 9, 64]) (hk := [1, 2, 3, 4, 5, 0]) (bk := [0, 1]) (by kernel_rfl) (by kernel_rfl) (by kernel_rfl) (client_Client_Hear_j1_ok n c_1 x_5 r_17 b_2 A_3 c_4 A_6 c_7 b_8 b_9 b_10 b_11 b_18 w0 S0 true)
      · refine GoO.exec (is := [4, 5, 6, 7]) (hs := [.p, .b 0, .p, .p]) (rest := []) (ks := [0, 3, 4, 6, 8, 9, 64]) (env' := [(0, vP b_2), (3, vP b_8), (4, vP b_9), (6, vP b_10), (8, vP b_11), (9, vP b_18), (64, .bool (r_17.1.Err == 31))]) (H' := [⟨44, b_18, [vI r_17.1.Err, vU r_17.1.Num, vU r_17.1.Extra]⟩, ⟨1, b_2, [vI c_1.id, vU c_1.session, vU c_1.seq, vU c_1.call, .bool c_1.busy, vI c_1.now.Kind, vU c_1.now.Session, vU c_1.now.Seq, vU c_1.now.Saga, .slice A_3 c_1.now.Steps.length c_4, vI c_1.now.Step, .bool c_1.now.Back, vI c_1.now.Try, .bool c_1.now.Ok, vU c_1.now.Now, .string (bs c_1.data), vI c_1.to_]⟩, ⟨40, b_8, [vI x_5.Kind, vI x_5.From, vI x_5.To, vU x_5.Term, vU x_5.Index, vU x_5.Prev, vU x_5.Commit, .bool x_5.Ok, .slice A_6 x_5.Entries.length c_7, .string (bs x_5.Data)]⟩, ⟨41, b_9, [vI 0, vI 0, vU 0, vU 0, vU 0, .slice none ([] : List T_api_Step).length 0, vI 0, .bool false, vI 0, .bool false, vU 0, vI 0, vU 0, vU 0]⟩, ⟨42, b_10, [vI 0, vI 0, vI 0, vU 0, vU 0, vU 0, vU 0, .bool false, .slice none ([] : List T_api_Entry).length 0, .string (bs [])]⟩, ⟨43, b_11, [vI 0, vI 0, vI 0, vU 0, vU 0, vU 0, vU 0, .bool false, .slice none ([] : List T_api_Entry).length 0, .string (bs [])]⟩]) (ps := [b_18 = b_18]) (by kernel_rfl) (And.intro rfl trivial) ?_
        refine GoO.regionEnd ?_
        exact GoO.sub (ks := [0, 3, 4, 6, 8, 9, 64]) (hk := [1, 2, 3, 4, 5, 0]) (bk := [0, 1]) (by kernel_rfl) (by kernel_rfl) (by kernel_rfl) (client_Client_Hear_j1_ok n c_1 x_5 r_17 b_2 A_3 c_4 A_6 c_7 b_8 b_9 b_10 b_11 b_18 w0 S0 (r_17.1.Err == 31))
theorem client_Client_Hear_ok (n : Nat) (c_1 : T_client_Client) (x_5 : T_api_Letter) (b_2 : Nat) (A_3 : Option Addr) (c_4 : Nat) (A_6 : Option Addr) (c_7 : Nat) :
    Meets Try.prog 36 [vP b_2, .agg ⟨[vI x_5.Kind, vI x_5.From, vI x_5.To, vU x_5.Term, vU x_5.Index, vU x_5.Prev, vU x_5.Commit, .bool x_5.Ok, .slice A_6 x_5.Entries.length c_7, .string (bs x_5.Data)]⟩] 1 [1] [⟨1, b_2, [vI c_1.id, vU c_1.session, vU c_1.seq, vU c_1.call, .bool c_1.busy, vI c_1.now.Kind, vU c_1.now.Session, vU c_1.now.Seq, vU c_1.now.Saga, .slice A_3 c_1.now.Steps.length c_4, vI c_1.now.Step, .bool c_1.now.Back, vI c_1.now.Try, .bool c_1.now.Ok, vU c_1.now.Now, .string (bs c_1.data), vI c_1.to_]⟩] [Rd 0 kT_api_Step A_3 c_4 c_1.now.Steps, Rd 0 kT_api_Entry A_6 c_7 x_5.Entries] (client_Client_Hear.f n c_1 x_5) (client_Client_Hear.R b_2 A_3 c_4 A_6 c_7) := by
  refine Meets.of (c := c36_0) (n := 145) Try.func36 (by kernel_rfl) (by kernel_rfl) (by kernel_rfl) fun w0 S0 => ?_
  unfold client_Client_Hear.f
  show GoO (client_Client_Hear.cx b_2 A_3 c_4 A_6 c_7 w0 S0) [(0, vP b_2), (1, .agg ⟨[vI x_5.Kind, vI x_5.From, vI x_5.To, vU x_5.Term, vU x_5.Index, vU x_5.Prev, vU x_5.Commit, .bool x_5.Ok, .slice A_6 x_5.Entries.length c_7, .string (bs x_5.Data)]⟩)] [⟨1, b_2, [vI c_1.id, vU c_1.session, vU c_1.seq, vU c_1.call, .bool c_1.busy, vI c_1.now.Kind, vU c_1.now.Session, vU c_1.now.Seq, vU c_1.now.Saga, .slice A_3 c_1.now.Steps.length c_4, vI c_1.now.Step, .bool c_1.now.Back, vI c_1.now.Try, .bool c_1.now.Ok, vU c_1.now.Now, .string (bs c_1.data), vI c_1.to_]⟩] [Rd 0 kT_api_Step A_3 c_4 c_1.now.Steps, Rd 0 kT_api_Entry A_6 c_7 x_5.Entries] [.code c36_0] _
  refine GoO.seq' c36_0e ?_
  refine GoO.region' (is := [0, 1, 2, 3, 4]) c36_1e (by kernel_rfl) ?_
  refine OpTo.go (GoO.new rfl 40 (cs := [vI x_5.Kind, vI x_5.From, vI x_5.To, vU x_5.Term, vU x_5.Index, vU x_5.Prev, vU x_5.Commit, .bool x_5.Ok, .slice A_6 x_5.Entries.length c_7, .string (bs x_5.Data)]) (by kernel_rfl) _ (fun _ => rfl) (fun b_8 => ?_))
  refine OpTo.go (GoO.new rfl 41 (cs := [vI 0, vI 0, vU 0, vU 0, vU 0, .slice none ([] : List T_api_Step).length 0, vI 0, .bool false, vI 0, .bool false, vU 0, vI 0, vU 0, vU 0]) (by kernel_rfl) _ (fun _ => rfl) (fun b_9 => ?_))
  refine GoO.exec (is := [2]) (hs := [.p]) (rest := [3, 4]) (ks := [0, 3, 4]) (env' := [(0, vP b_2), (3, vP b_8), (4, vP b_9)]) (H' := [⟨41, b_9, [vI 0, vI 0, vU 0, vU 0, vU 0, .slice none ([] : List T_api_Step).length 0, vI 0, .bool false, vI 0, .bool false, vU 0, vI 0, vU 0, vU 0]⟩, ⟨40, b_8, [vI x_5.Kind, vI x_5.From, vI x_5.To, vU x_5.Term, vU x_5.Index, vU x_5.Prev, vU x_5.Commit, .bool x_5.Ok, .slice A_6 x_5.Entries.length c_7, .string (bs x_5.Data)]⟩, ⟨1, b_2, [vI c_1.id, vU c_1.session, vU c_1.seq, vU c_1.call, .bool c_1.busy, vI c_1.now.Kind, vU c_1.now.Session, vU c_1.now.Seq, vU c_1.now.Saga, .slice A_3 c_1.now.Steps.length c_4, vI c_1.now.Step, .bool c_1.now.Back, vI c_1.now.Try, .bool c_1.now.Ok, vU c_1.now.Now, .string (bs c_1.data), vI c_1.to_]⟩]) (ps := []) (by kernel_rfl) trivial ?_
  refine OpTo.go (GoO.new rfl 42 (cs := [vI 0, vI 0, vI 0, vU 0, vU 0, vU 0, vU 0, .bool false, .slice none ([] : List T_api_Entry).length 0, .string (bs [])]) (by kernel_rfl) _ (fun _ => rfl) (fun b_10 => ?_))
  refine GoO.exec (is := [4]) (hs := [.p]) (rest := []) (ks := [0, 3, 4, 6]) (env' := [(0, vP b_2), (3, vP b_8), (4, vP b_9), (6, vP b_10)]) (H' := [⟨42, b_10, [vI 0, vI 0, vI 0, vU 0, vU 0, vU 0, vU 0, .bool false, .slice none ([] : List T_api_Entry).length 0, .string (bs [])]⟩, ⟨41, b_9, [vI 0, vI 0, vU 0, vU 0, vU 0, .slice none ([] : List T_api_Step).length 0, vI 0, .bool false, vI 0, .bool false, vU 0, vI 0, vU 0, vU 0]⟩, ⟨40, b_8, [vI x_5.Kind, vI x_5.From, vI x_5.To, vU x_5.Term, vU x_5.Index, vU x_5.Prev, vU x_5.Commit, .bool x_5.Ok, .slice A_6 x_5.Entries.length c_7, .string (bs x_5.Data)]⟩, ⟨1, b_2, [vI c_1.id, vU c_1.session, vU c_1.seq, vU c_1.call, .bool c_1.busy, vI c_1.now.Kind, vU c_1.now.Session, vU c_1.now.Seq, vU c_1.now.Saga, .slice A_3 c_1.now.Steps.length c_4, vI c_1.now.Step, .bool c_1.now.Back, vI c_1.now.Try, .bool c_1.now.Ok, vU c_1.now.Now, .string (bs c_1.data), vI c_1.to_]⟩]) (ps := []) (by kernel_rfl) trivial ?_
  refine GoO.regionEnd ?_
  refine GoO.seq' c36_2e ?_
  refine GoO.region' (is := [0, 1, 2]) c36_3e (by kernel_rfl) ?_
  refine GoO.exec (is := [0]) (hs := [.p]) (rest := [1, 2]) (ks := [0, 3, 4, 6, 11]) (env' := [(0, vP b_2), (3, vP b_8), (4, vP b_9), (6, vP b_10), (11, .agg ⟨[vI 0, vI 0, vI 0, vU 0, vU 0, vU 0, vU 0, .bool false, .slice none ([] : List T_api_Entry).length 0, .string (bs [])]⟩)]) (H' := [⟨42, b_10, [vI 0, vI 0, vI 0, vU 0, vU 0, vU 0, vU 0, .bool false, .slice none ([] : List T_api_Entry).length 0, .string (bs [])]⟩, ⟨41, b_9, [vI 0, vI 0, vU 0, vU 0, vU 0, .slice none ([] : List T_api_Step).length 0, vI 0, .bool false, vI 0, .bool false, vU 0, vI 0, vU 0, vU 0]⟩, ⟨40, b_8, [vI x_5.Kind, vI x_5.From, vI x_5.To, vU x_5.Term, vU x_5.Index, vU x_5.Prev, vU x_5.Commit, .bool x_5.Ok, .slice A_6 x_5.Entries.length c_7, .string (bs x_5.Data)]⟩, ⟨1, b_2, [vI c_1.id, vU c_1.session, vU c_1.seq, vU c_1.call, .bool c_1.busy, vI c_1.now.Kind, vU c_1.now.Session, vU c_1.now.Seq, vU c_1.now.Saga, .slice A_3 c_1.now.Steps.length c_4, vI c_1.now.Step, .bool c_1.now.Back, vI c_1.now.Try, .bool c_1.now.Ok, vU c_1.now.Now, .string (bs c_1.data), vI c_1.to_]⟩]) (ps := []) (by kernel_rfl) trivial ?_
  refine OpTo.go (GoO.new rfl 43 (cs := [vI 0, vI 0, vI 0, vU 0, vU 0, vU 0, vU 0, .bool false, .slice none ([] : List T_api_Entry).length 0, .string (bs [])]) (by kernel_rfl) _ (fun _ => rfl) (fun b_11 => ?_))
  refine GoO.exec (is := [2]) (hs := [.b 0]) (rest := []) (ks := [0, 3, 4, 6, 8]) (env' := [(0, vP b_2), (3, vP b_8), (4, vP b_9), (6, vP b_10), (8, vP b_11)]) (H' := [⟨43, b_11, [vI 0, vI 0, vI 0, vU 0, vU 0, vU 0, vU 0, .bool false, .slice none ([] : List T_api_Entry).length 0, .string (bs [])]⟩, ⟨42, b_10, [vI 0, vI 0, vI 0, vU 0, vU 0, vU 0, vU 0, .bool false, .slice none ([] : List T_api_Entry).length 0, .string (bs [])]⟩, ⟨41, b_9, [vI 0, vI 0, vU 0, vU 0, vU 0, .slice none ([] : List T_api_Step).length 0, vI 0, .bool false, vI 0, .bool false, vU 0, vI 0, vU 0, vU 0]⟩, ⟨40, b_8, [vI x_5.Kind, vI x_5.From, vI x_5.To, vU x_5.Term, vU x_5.Index, vU x_5.Prev, vU x_5.Commit, .bool x_5.Ok, .slice A_6 x_5.Entries.length c_7, .string (bs x_5.Data)]⟩, ⟨1, b_2, [vI c_1.id, vU c_1.session, vU c_1.seq, vU c_1.call, .bool c_1.busy, vI c_1.now.Kind, vU c_1.now.Session, vU c_1.now.Seq, vU c_1.now.Saga, .slice A_3 c_1.now.Steps.length c_4, vI c_1.now.Step, .bool c_1.now.Back, vI c_1.now.Try, .bool c_1.now.Ok, vU c_1.now.Now, .string (bs c_1.data), vI c_1.to_]⟩]) (ps := [b_11 = b_11]) (by kernel_rfl) (And.intro rfl trivial) ?_
  refine GoO.regionEnd ?_
  refine GoO.seq' c36_4e ?_
  refine GoO.seq' c36_5e ?_
  refine GoO.draw c36_6e (by kernel_rfl) [] [⟨40, b_8, [vI x_5.Kind, vI x_5.From, vI x_5.To, vU x_5.Term, vU x_5.Index, vU x_5.Prev, vU x_5.Commit, .bool x_5.Ok, .slice A_6 x_5.Entries.length c_7, .string (bs x_5.Data)]⟩, ⟨1, b_2, [vI c_1.id, vU c_1.session, vU c_1.seq, vU c_1.call, .bool c_1.busy, vI c_1.now.Kind, vU c_1.now.Session, vU c_1.now.Seq, vU c_1.now.Saga, .slice A_3 c_1.now.Steps.length c_4, vI c_1.now.Step, .bool c_1.now.Back, vI c_1.now.Try, .bool c_1.now.Ok, vU c_1.now.Now, .string (bs c_1.data), vI c_1.to_]⟩] [] (n := 33) (by kernel_rfl) ?_
  simp only [List.replicate]
  refine GoF.take [0, 1, 2, 3, 4, 5, 6, 7, 8, 9] [.p, .p, .p, .p, .p, .p, .b 1, .p, .p, .p] (ks := [0, 3, 4, 6, 8, 21]) (fu := 23) (li := [true, true, true, true, true, true, true, true, true, true, false, false, false, false, false, false, false, false, false, false, false, false, false, false, false, false, false, false, false, false, false, false, false]) (env' := [(0, vP b_2), (3, vP b_8), (4, vP b_9), (6, vP b_10), (8, vP b_11), (21, .bool (!c_1.busy))]) (ps := [b_2 = b_2]) (hk := [3, 4]) (bk := []) (by kernel_rfl) (And.intro rfl trivial) rfl rfl ?_
  refine GoF.bsplit (t := 21) (by kernel_rfl) (fun h12 => ?_) (fun h12 => ?_)
  · refine GoF.take [10, 11, 12, 13, 14, 15, 16, 17, 18, 19, 20, 21, 22, 23, 24, 25, 26, 27, 28, 29, 30, 31, 32] [.p, .p, .p, .p, .p, .p, .p, .p, .p, .p, .p, .p, .p, .p, .p, .p, .p, .p, .p, .p, .p, .p, .p] (ks := [0, 3, 4, 6, 8, 44]) (fu := 0) (li := [true, true, true, true, true, true, true, true, true, true, true, true, true, true, true, true, true, true, true, true, true, true, true, true, true, true, true, true, true, true, true, true, true]) (env' := [(0, vP b_2), (3, vP b_8), (4, vP b_9), (6, vP b_10), (8, vP b_11), (44, .bool true)]) (ps := []) (hk := [3, 4]) (bk := []) (by kernel_rfl) trivial rfl rfl ?_
    refine GoF.done (by kernel_rfl) ?_
    exact GoO.sub (ks := [0, 3, 4, 6, 8, 44]) (hk := [4, 3, 2, 1, 0]) (bk := [0, 1]) (by kernel_rfl) (by kernel_rfl) (by kernel_rfl) (client_Client_Hear_j0_ok n c_1 x_5 b_2 A_3 c_4 A_6 c_7 b_8 b_9 b_10 b_11 w0 S0 true)
  · refine GoF.take [10, 11, 12, 13, 14] [.p, .b 0, .p, .p, .p] (ks := [0, 3, 4, 6, 8, 26]) (fu := 18) (li := [true, true, true, true, true, true, true, true, true, true, true, true, true, true, true, false, false, false, false, false, false, false, false, false, false, false, false, false, false, false, false, false, false]) (env' := [(0, vP b_2), (3, vP b_8), (4, vP b_9), (6, vP b_10), (8, vP b_11), (26, .bool (x_5.Kind != 9))]) (ps := [b_8 = b_8]) (hk := [3, 4]) (bk := []) (by kernel_rfl) (And.intro rfl trivial) rfl rfl ?_
    refine GoF.bsplit (t := 26) (by kernel_rfl) (fun h13 => ?_) (fun h13 => ?_)
    · refine GoF.take [15, 16, 17, 18, 19, 20, 21, 22, 23, 24, 25, 26, 27, 28, 29, 30, 31, 32] [.p, .p, .p, .p, .p, .p, .p, .p, .p, .p, .p, .p, .p, .p, .p, .p, .p, .p] (ks := [0, 3, 4, 6, 8, 44]) (fu := 0) (li := [true, true, true, true, true, true, true, true, true, true, true, true, true, true, true, true, true, true, true, true, true, true, true, true, true, true, true, true, true, true, true, true, true]) (env' := [(0, vP b_2), (3, vP b_8), (4, vP b_9), (6, vP b_10), (8, vP b_11), (44, .bool true)]) (ps := []) (hk := [3, 4]) (bk := []) (by kernel_rfl) trivial rfl rfl ?_
      refine GoF.done (by kernel_rfl) ?_
      exact GoO.sub (ks := [0, 3, 4, 6, 8, 44]) (hk := [4, 3, 2, 1, 0]) (bk := [0, 1]) (by kernel_rfl) (by kernel_rfl) (by kernel_rfl) (client_Client_Hear_j0_ok n c_1 x_5 b_2 A_3 c_4 A_6 c_7 b_8 b_9 b_10 b_11 w0 S0 true)
    · refine GoF.take [15, 16, 17, 18, 19, 20, 21, 22, 23, 24] [.p, .b 0, .p, .p, .p, .b 1, .p, .p, .p, .p] (ks := [0, 3, 4, 6, 8, 36]) (fu := 8) (li := [true, true, true, true, true, true, true, true, true, true, true, true, true, true, true, true, true, true, true, true, true, true, true, true, true, false, false, false, false, false, false, false, false]) (env' := [(0, vP b_2), (3, vP b_8), (4, vP b_9), (6, vP b_10), (8, vP b_11), (36, .bool (x_5.To != (wi64 (200 + c_1.id))))]) (ps := [b_8 = b_8, b_2 = b_2]) (hk := [3, 4]) (bk := []) (by kernel_rfl) (And.intro rfl (And.intro rfl trivial)) rfl rfl ?_
      refine GoF.bsplit (t := 36) (by kernel_rfl) (fun h14 => ?_) (fun h14 => ?_)
      · refine GoF.take [25, 26, 27, 28, 29, 30, 31, 32] [.p, .p, .p, .p, .p, .p, .p, .p] (ks := [0, 3, 4, 6, 8, 44]) (fu := 0) (li := [true, true, true, true, true, true, true, true, true, true, true, true, true, true, true, true, true, true, true, true, true, true, true, true, true, true, true, true, true, true, true, true, true]) (env' := [(0, vP b_2), (3, vP b_8), (4, vP b_9), (6, vP b_10), (8, vP b_11), (44, .bool true)]) (ps := []) (hk := [3, 4]) (bk := []) (by kernel_rfl) trivial rfl rfl ?_
        refine GoF.done (by kernel_rfl) ?_
        exact GoO.sub (ks := [0, 3, 4, 6, 8, 44]) (hk := [4, 3, 2, 1, 0]) (bk := [0, 1]) (by kernel_rfl) (by kernel_rfl) (by kernel_rfl) (client_Client_Hear_j0_ok n c_1 x_5 b_2 A_3 c_4 A_6 c_7 b_8 b_9 b_10 b_11 w0 S0 true)
      · refine GoF.take [25, 26, 27, 28, 29, 30, 31, 32] [.p, .b 0, .p, .p, .p, .b 1, .p, .p] (ks := [0, 3, 4, 6, 8, 44]) (fu := 0) (li := [true, true, true, true, true, true, true, true, true, true, true, true, true, true, true, true, true, true, true, true, true, true, true, true, true, true, true, true, true, true, true, true, true]) (env' := [(0, vP b_2), (3, vP b_8), (4, vP b_9), (6, vP b_10), (8, vP b_11), (44, .bool (x_5.Index != c_1.call))]) (ps := [b_8 = b_8, b_2 = b_2]) (hk := [3, 4]) (bk := []) (by kernel_rfl) (And.intro rfl (And.intro rfl trivial)) rfl rfl ?_
        refine GoF.done (by kernel_rfl) ?_
        exact GoO.sub (ks := [0, 3, 4, 6, 8, 44]) (hk := [4, 3, 2, 1, 0]) (bk := [0, 1]) (by kernel_rfl) (by kernel_rfl) (by kernel_rfl) (client_Client_Hear_j0_ok n c_1 x_5 b_2 A_3 c_4 A_6 c_7 b_8 b_9 b_10 b_11 w0 S0 (x_5.Index != c_1.call))
/-! (*tontine/client.Client).Status -/
noncomputable def c39_0 : Code := bodyOf Try.f39
noncomputable def c39_1 : Code := cdL c39_0
noncomputable def c39_2 : Code := cdR c39_0
noncomputable def c39_3 : Code := cdL c39_2
noncomputable def c39_4 : Code := cdL c39_3
noncomputable def c39_5 : Code := cdR c39_3
noncomputable def c39_9 : Code := cdR c39_5
noncomputable def c39_10 : Code := cdR c39_2
noncomputable def c39_11 : Code := cdL c39_10
noncomputable def c39_12 : Code := cdR c39_10
noncomputable def c39_6 : Code := cdL c39_5
noncomputable def r39_1 : Array Oper := cdO c39_1
noncomputable def r39_4 : Array Oper := cdO c39_4
noncomputable def r39_11 : Array Oper := cdO c39_11
theorem c39_0e : c39_0 = .seq c39_1 c39_2 := by kernel_rfl
theorem c39_1e : c39_1 = .region 0 r39_1 false := by kernel_rfl
theorem c39_2e : c39_2 = .seq c39_3 c39_10 := by kernel_rfl
theorem c39_3e : c39_3 = .seq c39_4 c39_5 := by kernel_rfl
theorem c39_4e : c39_4 = .region 1 r39_4 false := by kernel_rfl
theorem c39_5e : c39_5 = .cond (cdC c39_5) c39_6 c39_9 := by kernel_rfl
theorem c39_9e : c39_9 = .skip := by kernel_rfl
theorem c39_10e : c39_10 = .seq c39_11 c39_12 := by kernel_rfl
theorem c39_11e : c39_11 = .region 3 r39_11 true := by kernel_rfl
theorem c39_12e : c39_12 = .ret := by kernel_rfl
noncomputable def client_Client_Status.R (b_2 : Nat) (A_3 : Option Addr) (c_4 : Nat) : Pst (Int × Int × Bool) where
  ε := Unit
  v := fun r x => .tuple ⟨[vU r.1, vU r.2.1, .bool r.2.2]⟩
  H := fun r x => []
  B := fun r x => []
noncomputable def client_Client_Status.cx (b_2 : Nat) (A_3 : Option Addr) (c_4 : Nat) (w0 : World) (S0 : Fam) : Cx (Int × Int × Bool) := ⟨Try.prog, 39, Try.f39, 19, w0, S0, [], 1, client_Client_Status.R b_2 A_3 c_4⟩
theorem client_Client_Status_ok (n : Nat) (c_1 : T_client_Client) (b_2 : Nat) (A_3 : Option Addr) (c_4 : Nat) :
    Meets Try.prog 39 [vP b_2] 1 [] [⟨1, b_2, [vI c_1.id, vU c_1.session, vU c_1.seq, vU c_1.call, .bool c_1.busy, vI c_1.now.Kind, vU c_1.now.Session, vU c_1.now.Seq, vU c_1.now.Saga, .slice A_3 c_1.now.Steps.length c_4, vI c_1.now.Step, .bool c_1.now.Back, vI c_1.now.Try, .bool c_1.now.Ok, vU c_1.now.Now, .string (bs c_1.data), vI c_1.to_]⟩] [Rd 0 kT_api_Step A_3 c_4 c_1.now.Steps] (client_Client_Status.f n c_1) (client_Client_Status.R b_2 A_3 c_4) := by
  refine Meets.of (c := c39_0) (n := 19) Try.func39 (by kernel_rfl) (by kernel_rfl) (by kernel_rfl) fun w0 S0 => ?_
  unfold client_Client_Status.f
  show GoO (client_Client_Status.cx b_2 A_3 c_4 w0 S0) [(0, vP b_2)] [⟨1, b_2, [vI c_1.id, vU c_1.session, vU c_1.seq, vU c_1.call, .bool c_1.busy, vI c_1.now.Kind, vU c_1.now.Session, vU c_1.now.Seq, vU c_1.now.Saga, .slice A_3 c_1.now.Steps.length c_4, vI c_1.now.Step, .bool c_1.now.Back, vI c_1.now.Try, .bool c_1.now.Ok, vU c_1.now.Now, .string (bs c_1.data), vI c_1.to_]⟩] [Rd 0 kT_api_Step A_3 c_4 c_1.now.Steps] [.code c39_0] _
  refine GoO.seq' c39_0e ?_
  refine GoO.region' (is := [0, 1, 2]) c39_1e (by kernel_rfl) ?_
  refine GoO.exec (is := [0, 1, 2]) (hs := [.p, .p, .p]) (rest := []) (ks := [0]) (env' := [(0, vP b_2)]) (H' := [⟨1, b_2, [vI c_1.id, vU c_1.session, vU c_1.seq, vU c_1.call, .bool c_1.busy, vI c_1.now.Kind, vU c_1.now.Session, vU c_1.now.Seq, vU c_1.now.Saga, .slice A_3 c_1.now.Steps.length c_4, vI c_1.now.Step, .bool c_1.now.Back, vI c_1.now.Try, .bool c_1.now.Ok, vU c_1.now.Now, .string (bs c_1.data), vI c_1.to_]⟩]) (ps := []) (by kernel_rfl) trivial ?_
  refine GoO.regionEnd ?_
  refine GoO.seq' c39_2e ?_
  refine GoO.seq' c39_3e ?_
  refine GoO.region' (is := [0, 1]) c39_4e (by kernel_rfl) ?_
  refine GoO.exec (is := [0, 1]) (hs := [.p, .p]) (rest := []) (ks := [0, 6]) (env' := [(0, vP b_2), (6, .bool false)]) (H' := [⟨1, b_2, [vI c_1.id, vU c_1.session, vU c_1.seq, vU c_1.call, .bool c_1.busy, vI c_1.now.Kind, vU c_1.now.Session, vU c_1.now.Seq, vU c_1.now.Saga, .slice A_3 c_1.now.Steps.length c_4, vI c_1.now.Step, .bool c_1.now.Back, vI c_1.now.Try, .bool c_1.now.Ok, vU c_1.now.Now, .string (bs c_1.data), vI c_1.to_]⟩]) (ps := []) (by kernel_rfl) trivial ?_
  refine GoO.regionEnd ?_
  refine GoO.condF c39_5e (by kernel_rfl) ?_
  refine GoO.skip' c39_9e ?_
  refine GoO.seq' c39_10e ?_
  refine GoO.draw c39_11e (by kernel_rfl) [14] [⟨1, b_2, [vI c_1.id, vU c_1.session, vU c_1.seq, vU c_1.call, .bool c_1.busy, vI c_1.now.Kind, vU c_1.now.Session, vU c_1.now.Seq, vU c_1.now.Saga, .slice A_3 c_1.now.Steps.length c_4, vI c_1.now.Step, .bool c_1.now.Back, vI c_1.now.Try, .bool c_1.now.Ok, vU c_1.now.Now, .string (bs c_1.data), vI c_1.to_]⟩] [] (n := 15) (by kernel_rfl) ?_
  simp only [List.replicate]
  refine GoF.take [0, 1, 2, 3, 4, 5, 6, 7, 8, 9, 10, 11, 12, 13] [.p, .p, .p, .b 0, .p, .p, .p, .b 0, .p, .p, .p, .b 0, .p, .p] (ks := [2, 3, 18]) (fu := 1) (li := [true, true, true, true, true, true, true, true, true, true, true, true, true, true, false]) (env' := [(2, vU c_1.session), (3, vU c_1.seq), (18, .bool c_1.busy)]) (ps := [b_2 = b_2, b_2 = b_2, b_2 = b_2]) (hk := [0]) (bk := []) (by kernel_rfl) (And.intro rfl (And.intro rfl (And.intro rfl trivial))) rfl rfl ?_
  refine GoF.fin1 (i := 14) (hint := .p) (ps := []) (hk := []) (bk := []) (by kernel_rfl) rfl trivial (.inl rfl) ?_
  refine GoF.done (by kernel_rfl) ?_
  exact GoO.ret' (h := c39_12e) (hs := []) (ps := []) (hk := []) (bk := []) Try.func39 () (by kernel_rfl) trivial (by kernel_rfl) (by kernel_rfl)
/-! tontine/tontinelaw21.begun -/
noncomputable def c30_0 : Code := bodyOf Try.f30
noncomputable def c30_1 : Code := cdL c30_0
noncomputable def c30_2 : Code := cdR c30_0
noncomputable def c30_3 : Code := cdL c30_2
noncomputable def c30_4 : Code := cdR c30_2
noncomputable def c30_5 : Code := cdL c30_4
noncomputable def c30_6 : Code := cdR c30_4
noncomputable def c30_7 : Code := cdL c30_6
noncomputable def c30_8 : Code := cdR c30_6
noncomputable def c30_9 : Code := cdL c30_8
noncomputable def c30_10 : Code := cdR c30_8
noncomputable def c30_11 : Code := cdL c30_10
noncomputable def c30_12 : Code := cdR c30_10
noncomputable def r30_1 : Array Oper := cdO c30_1
noncomputable def r30_3 : Array Oper := cdO c30_3
noncomputable def r30_5 : Array Oper := cdO c30_5
noncomputable def r30_7 : Array Oper := cdO c30_7
noncomputable def r30_9 : Array Oper := cdO c30_9
noncomputable def r30_11 : Array Oper := cdO c30_11
theorem c30_0e : c30_0 = .seq c30_1 c30_2 := by kernel_rfl
theorem c30_1e : c30_1 = .region 0 r30_1 false := by kernel_rfl
theorem c30_2e : c30_2 = .seq c30_3 c30_4 := by kernel_rfl
theorem c30_3e : c30_3 = .region 1 r30_3 false := by kernel_rfl
theorem c30_4e : c30_4 = .seq c30_5 c30_6 := by kernel_rfl
theorem c30_5e : c30_5 = .region 2 r30_5 false := by kernel_rfl
theorem c30_6e : c30_6 = .seq c30_7 c30_8 := by kernel_rfl
theorem c30_7e : c30_7 = .region 3 r30_7 false := by kernel_rfl
theorem c30_8e : c30_8 = .seq c30_9 c30_10 := by kernel_rfl
theorem c30_9e : c30_9 = .region 4 r30_9 false := by kernel_rfl
theorem c30_10e : c30_10 = .seq c30_11 c30_12 := by kernel_rfl
theorem c30_11e : c30_11 = .region 5 r30_11 false := by kernel_rfl
theorem c30_12e : c30_12 = .ret := by kernel_rfl
noncomputable def tontinelaw21_begun.R : Pst Bool where
  ε := Unit
  v := fun r x => .bool r
  H := fun r x => []
  B := fun r x => []
noncomputable def tontinelaw21_begun.cx (w0 : World) (S0 : Fam) : Cx Bool := ⟨Try.prog, 30, Try.f30, 79, w0, S0, [], 0, tontinelaw21_begun.R⟩
theorem tontinelaw21_begun_j4_ok (n : Nat) (r_13 : T_api_Told × Bool × T_api_Letter × Bool × T_client_Client) (r_22 : Int × Int × Bool) (A_14 : Option Addr) (c_15 : Nat) (b_20 : Nat) (w0 : World) (S0 : Fam) (b_32 : Bool) :
    GoO (tontinelaw21_begun.cx w0 S0) [(5, vP b_20), (9, vU r_22.1), (10, vU r_22.2.1), (11, .bool r_22.2.2), (60, .bool b_32)] [⟨42, b_20, [vI r_13.1.Client, vI r_13.1.Command.Kind, vU r_13.1.Command.Session, vU r_13.1.Command.Seq, vU r_13.1.Command.Saga, .slice A_14 r_13.1.Command.Steps.length c_15, vI r_13.1.Command.Step, .bool r_13.1.Command.Back, vI r_13.1.Command.Try, .bool r_13.1.Command.Ok, vU r_13.1.Command.Now, vI r_13.1.Reply.Err, vU r_13.1.Reply.Num, vU r_13.1.Reply.Extra]⟩] [Rd 0 kT_api_Step A_14 c_15 r_13.1.Command.Steps] [.inRegion r30_11 [23, 24, 25, 26, 27, 28, 29, 30, 31, 32, 33, 34, 35, 36, 37, 38, 39, 40, 41], .code c30_12] (tontinelaw21_begun.j4 n r_13 r_22 b_32) := by
  unfold tontinelaw21_begun.j4
  refine GoO.exec (is := [23]) (hs := [.p]) (rest := [24, 25, 26, 27, 28, 29, 30, 31, 32, 33, 34, 35, 36, 37, 38, 39, 40, 41]) (ks := [5, 9, 10, 11, 61]) (env' := [(5, vP b_20), (9, vU r_22.1), (10, vU r_22.2.1), (11, .bool r_22.2.2), (61, .bool b_32)]) (H' := [⟨42, b_20, [vI r_13.1.Client, vI r_13.1.Command.Kind, vU r_13.1.Command.Session, vU r_13.1.Command.Seq, vU r_13.1.Command.Saga, .slice A_14 r_13.1.Command.Steps.length c_15, vI r_13.1.Command.Step, .bool r_13.1.Command.Back, vI r_13.1.Command.Try, .bool r_13.1.Command.Ok, vU r_13.1.Command.Now, vI r_13.1.Reply.Err, vU r_13.1.Reply.Num, vU r_13.1.Reply.Extra]⟩]) (ps := []) (by kernel_rfl) trivial ?_
  refine GoO.bsplit (t := 61) (by kernel_rfl) (fun h33 => ?_) (fun h33 => ?_)
  · refine GoO.exec (is := [24, 25, 26, 27, 28, 29]) (hs := [.p, .p, .b 0, .p, .p, .p]) (rest := [30, 31, 32, 33, 34, 35, 36, 37, 38, 39, 40, 41]) (ks := [9, 10, 11, 67]) (env' := [(9, vU r_22.1), (10, vU r_22.2.1), (11, .bool r_22.2.2), (67, .bool (r_13.1.Reply.Num == 4))]) (H' := [⟨42, b_20, [vI r_13.1.Client, vI r_13.1.Command.Kind, vU r_13.1.Command.Session, vU r_13.1.Command.Seq, vU r_13.1.Command.Saga, .slice A_14 r_13.1.Command.Steps.length c_15, vI r_13.1.Command.Step, .bool r_13.1.Command.Back, vI r_13.1.Command.Try, .bool r_13.1.Command.Ok, vU r_13.1.Command.Now, vI r_13.1.Reply.Err, vU r_13.1.Reply.Num, vU r_13.1.Reply.Extra]⟩]) (ps := [b_20 = b_20]) (by kernel_rfl) (And.intro rfl trivial) ?_
    refine GoO.bsplit (t := 67) (by kernel_rfl) (fun h34 => ?_) (fun h34 => ?_)
    · refine GoO.exec (is := [30, 31, 32, 33]) (hs := [.p, .p, .p, .p]) (rest := [34, 35, 36, 37, 38, 39, 40, 41]) (ks := [10, 11, 71]) (env' := [(10, vU r_22.2.1), (11, .bool r_22.2.2), (71, .bool (r_22.1 == 4))]) (H' := [⟨42, b_20, [vI r_13.1.Client, vI r_13.1.Command.Kind, vU r_13.1.Command.Session, vU r_13.1.Command.Seq, vU r_13.1.Command.Saga, .slice A_14 r_13.1.Command.Steps.length c_15, vI r_13.1.Command.Step, .bool r_13.1.Command.Back, vI r_13.1.Command.Try, .bool r_13.1.Command.Ok, vU r_13.1.Command.Now, vI r_13.1.Reply.Err, vU r_13.1.Reply.Num, vU r_13.1.Reply.Extra]⟩]) (ps := []) (by kernel_rfl) trivial ?_
      refine GoO.bsplit (t := 71) (by kernel_rfl) (fun h35 => ?_) (fun h35 => ?_)
      · refine GoO.exec (is := [34, 35, 36, 37]) (hs := [.p, .p, .p, .p]) (rest := [38, 39, 40, 41]) (ks := [11, 75]) (env' := [(11, .bool r_22.2.2), (75, .bool (r_22.2.1 == 0))]) (H' := [⟨42, b_20, [vI r_13.1.Client, vI r_13.1.Command.Kind, vU r_13.1.Command.Session, vU r_13.1.Command.Seq, vU r_13.1.Command.Saga, .slice A_14 r_13.1.Command.Steps.length c_15, vI r_13.1.Command.Step, .bool r_13.1.Command.Back, vI r_13.1.Command.Try, .bool r_13.1.Command.Ok, vU r_13.1.Command.Now, vI r_13.1.Reply.Err, vU r_13.1.Reply.Num, vU r_13.1.Reply.Extra]⟩]) (ps := []) (by kernel_rfl) trivial ?_
        refine GoO.bsplit (t := 75) (by kernel_rfl) (fun h36 => ?_) (fun h36 => ?_)
        · refine GoO.exec (is := [38, 39, 40, 41]) (hs := [.p, .p, .p, .p]) (rest := []) (ks := [0]) (env' := [(0, .bool (!r_22.2.2))]) (H' := [⟨42, b_20, [vI r_13.1.Client, vI r_13.1.Command.Kind, vU r_13.1.Command.Session, vU r_13.1.Command.Seq, vU r_13.1.Command.Saga, .slice A_14 r_13.1.Command.Steps.length c_15, vI r_13.1.Command.Step, .bool r_13.1.Command.Back, vI r_13.1.Command.Try, .bool r_13.1.Command.Ok, vU r_13.1.Command.Now, vI r_13.1.Reply.Err, vU r_13.1.Reply.Num, vU r_13.1.Reply.Extra]⟩]) (ps := []) (by kernel_rfl) trivial ?_
          refine GoO.regionEnd ?_
          exact GoO.ret' (h := c30_12e) (hs := []) (ps := []) (hk := []) (bk := []) Try.func30 () (by kernel_rfl) trivial (by kernel_rfl) (by kernel_rfl)
        · refine GoO.exec (is := [38, 39, 40, 41]) (hs := [.p, .p, .p, .p]) (rest := []) (ks := [0]) (env' := [(0, .bool false)]) (H' := [⟨42, b_20, [vI r_13.1.Client, vI r_13.1.Command.Kind, vU r_13.1.Command.Session, vU r_13.1.Command.Seq, vU r_13.1.Command.Saga, .slice A_14 r_13.1.Command.Steps.length c_15, vI r_13.1.Command.Step, .bool r_13.1.Command.Back, vI r_13.1.Command.Try, .bool r_13.1.Command.Ok, vU r_13.1.Command.Now, vI r_13.1.Reply.Err, vU r_13.1.Reply.Num, vU r_13.1.Reply.Extra]⟩]) (ps := []) (by kernel_rfl) trivial ?_
          refine GoO.regionEnd ?_
          exact GoO.ret' (h := c30_12e) (hs := []) (ps := []) (hk := []) (bk := []) Try.func30 () (by kernel_rfl) trivial (by kernel_rfl) (by kernel_rfl)
      · refine GoO.exec (is := [34, 35, 36, 37, 38, 39, 40, 41]) (hs := [.p, .p, .p, .p, .p, .p, .p, .p]) (rest := []) (ks := [0]) (env' := [(0, .bool false)]) (H' := [⟨42, b_20, [vI r_13.1.Client, vI r_13.1.Command.Kind, vU r_13.1.Command.Session, vU r_13.1.Command.Seq, vU r_13.1.Command.Saga, .slice A_14 r_13.1.Command.Steps.length c_15, vI r_13.1.Command.Step, .bool r_13.1.Command.Back, vI r_13.1.Command.Try, .bool r_13.1.Command.Ok, vU r_13.1.Command.Now, vI r_13.1.Reply.Err, vU r_13.1.Reply.Num, vU r_13.1.Reply.Extra]⟩]) (ps := []) (by kernel_rfl) trivial ?_
        refine GoO.regionEnd ?_
        exact GoO.ret' (h := c30_12e) (hs := []) (ps := []) (hk := []) (bk := []) Try.func30 () (by kernel_rfl) trivial (by kernel_rfl) (by kernel_rfl)
    · refine GoO.exec (is := [30, 31, 32, 33, 34, 35, 36, 37, 38, 39, 40, 41]) (hs := [.p, .p, .p, .p, .p, .p, .p, .p, .p, .p, .p, .p]) (rest := []) (ks := [0]) (env' := [(0, .bool false)]) (H' := [⟨42, b_20, [vI r_13.1.Client, vI r_13.1.Command.Kind, vU r_13.1.Command.Session, vU r_13.1.Command.Seq, vU r_13.1.Command.Saga, .slice A_14 r_13.1.Command.Steps.length c_15, vI r_13.1.Command.Step, .bool r_13.1.Command.Back, vI r_13.1.Command.Try, .bool r_13.1.Command.Ok, vU r_13.1.Command.Now, vI r_13.1.Reply.Err, vU r_13.1.Reply.Num, vU r_13.1.Reply.Extra]⟩]) (ps := []) (by kernel_rfl) trivial ?_
      refine GoO.regionEnd ?_
      exact GoO.ret' (h := c30_12e) (hs := []) (ps := []) (hk := []) (bk := []) Try.func30 () (by kernel_rfl) trivial (by kernel_rfl) (by kernel_rfl)
  · refine GoO.exec (is := [24, 25, 26, 27, 28, 29, 30, 31, 32, 33, 34, 35, 36, 37, 38, 39, 40, 41]) (hs := [.p, .p, .p, .p, .p, .p, .p, .p, .p, .p, .p, .p, .p, .p, .p, .p, .p, .p]) (rest := []) (ks := [0]) (env' := [(0, .bool false)]) (H' := [⟨42, b_20, [vI r_13.1.Client, vI r_13.1.Command.Kind, vU r_13.1.Command.Session, vU r_13.1.Command.Seq, vU r_13.1.Command.Saga, .slice A_14 r_13.1.Command.Steps.length c_15, vI r_13.1.Command.Step, .bool r_13.1.Command.Back, vI r_13.1.Command.Try, .bool r_13.1.Command.Ok, vU r_13.1.Command.Now, vI r_13.1.Reply.Err, vU r_13.1.Reply.Num, vU r_13.1.Reply.Extra]⟩]) (ps := []) (by kernel_rfl) trivial ?_
    refine GoO.regionEnd ?_
    exact GoO.ret' (h := c30_12e) (hs := []) (ps := []) (hk := []) (bk := []) Try.func30 () (by kernel_rfl) trivial (by kernel_rfl) (by kernel_rfl)
theorem tontinelaw21_begun_j3_ok (n : Nat) (r_13 : T_api_Told × Bool × T_api_Letter × Bool × T_client_Client) (r_22 : Int × Int × Bool) (A_14 : Option Addr) (c_15 : Nat) (b_20 : Nat) (w0 : World) (S0 : Fam) (b_30 : Bool) :
    GoO (tontinelaw21_begun.cx w0 S0) [(5, vP b_20), (8, .bool r_13.2.2.2.1), (9, vU r_22.1), (10, vU r_22.2.1), (11, .bool r_22.2.2), (56, .bool b_30)] [⟨42, b_20, [vI r_13.1.Client, vI r_13.1.Command.Kind, vU r_13.1.Command.Session, vU r_13.1.Command.Seq, vU r_13.1.Command.Saga, .slice A_14 r_13.1.Command.Steps.length c_15, vI r_13.1.Command.Step, .bool r_13.1.Command.Back, vI r_13.1.Command.Try, .bool r_13.1.Command.Ok, vU r_13.1.Command.Now, vI r_13.1.Reply.Err, vU r_13.1.Reply.Num, vU r_13.1.Reply.Extra]⟩] [Rd 0 kT_api_Step A_14 c_15 r_13.1.Command.Steps] [.inRegion r30_11 [19, 20, 21, 22, 23, 24, 25, 26, 27, 28, 29, 30, 31, 32, 33, 34, 35, 36, 37, 38, 39, 40, 41], .code c30_12] (tontinelaw21_begun.j3 n r_13 r_22 b_30) := by
  unfold tontinelaw21_begun.j3
  refine GoO.exec (is := [19]) (hs := [.p]) (rest := [20, 21, 22, 23, 24, 25, 26, 27, 28, 29, 30, 31, 32, 33, 34, 35, 36, 37, 38, 39, 40, 41]) (ks := [5, 8, 9, 10, 11, 57]) (env' := [(5, vP b_20), (8, .bool r_13.2.2.2.1), (9, vU r_22.1), (10, vU r_22.2.1), (11, .bool r_22.2.2), (57, .bool b_30)]) (H' := [⟨42, b_20, [vI r_13.1.Client, vI r_13.1.Command.Kind, vU r_13.1.Command.Session, vU r_13.1.Command.Seq, vU r_13.1.Command.Saga, .slice A_14 r_13.1.Command.Steps.length c_15, vI r_13.1.Command.Step, .bool r_13.1.Command.Back, vI r_13.1.Command.Try, .bool r_13.1.Command.Ok, vU r_13.1.Command.Now, vI r_13.1.Reply.Err, vU r_13.1.Reply.Num, vU r_13.1.Reply.Extra]⟩]) (ps := []) (by kernel_rfl) trivial ?_
  refine GoO.bsplit (t := 57) (by kernel_rfl) (fun h31 => ?_) (fun h31 => ?_)
  · refine GoO.exec (is := [20, 21, 22]) (hs := [.p, .p, .p]) (rest := [23, 24, 25, 26, 27, 28, 29, 30, 31, 32, 33, 34, 35, 36, 37, 38, 39, 40, 41]) (ks := [5, 9, 10, 11, 60]) (env' := [(5, vP b_20), (9, vU r_22.1), (10, vU r_22.2.1), (11, .bool r_22.2.2), (60, .bool (!r_13.2.2.2.1))]) (H' := [⟨42, b_20, [vI r_13.1.Client, vI r_13.1.Command.Kind, vU r_13.1.Command.Session, vU r_13.1.Command.Seq, vU r_13.1.Command.Saga, .slice A_14 r_13.1.Command.Steps.length c_15, vI r_13.1.Command.Step, .bool r_13.1.Command.Back, vI r_13.1.Command.Try, .bool r_13.1.Command.Ok, vU r_13.1.Command.Now, vI r_13.1.Reply.Err, vU r_13.1.Reply.Num, vU r_13.1.Reply.Extra]⟩]) (ps := []) (by kernel_rfl) trivial ?_
    exact GoO.sub (ks := [5, 9, 10, 11, 60]) (hk := [0]) (bk := [0]) (by kernel_rfl) (by kernel_rfl) (by kernel_rfl) (tontinelaw21_begun_j4_ok n r_13 r_22 A_14 c_15 b_20 w0 S0 (!r_13.2.2.2.1))
  · refine GoO.exec (is := [20, 21, 22]) (hs := [.p, .p, .p]) (rest := [23, 24, 25, 26, 27, 28, 29, 30, 31, 32, 33, 34, 35, 36, 37, 38, 39, 40, 41]) (ks := [5, 9, 10, 11, 60]) (env' := [(5, vP b_20), (9, vU r_22.1), (10, vU r_22.2.1), (11, .bool r_22.2.2), (60, .bool false)]) (H' := [⟨42, b_20, [vI r_13.1.Client, vI r_13.1.Command.Kind, vU r_13.1.Command.Session, vU r_13.1.Command.Seq, vU r_13.1.Command.Saga, .slice A_14 r_13.1.Command.Steps.length c_15, vI r_13.1.Command.Step, .bool r_13.1.Command.Back, vI r_13.1.Command.Try, .bool r_13.1.Command.Ok, vU r_13.1.Command.Now, vI r_13.1.Reply.Err, vU r_13.1.Reply.Num, vU r_13.1.Reply.Extra]⟩]) (ps := []) (by kernel_rfl) trivial ?_
    exact GoO.sub (ks := [5, 9, 10, 11, 60]) (hk := [0]) (bk := [0]) (by kernel_rfl) (by kernel_rfl) (by kernel_rfl) (tontinelaw21_begun_j4_ok n r_13 r_22 A_14 c_15 b_20 w0 S0 false)
theorem tontinelaw21_begun_j2_ok (n : Nat) (r_13 : T_api_Told × Bool × T_api_Letter × Bool × T_client_Client) (r_22 : Int × Int × Bool) (A_14 : Option Addr) (c_15 : Nat) (b_20 : Nat) (w0 : World) (S0 : Fam) (b_28 : Bool) :
    GoO (tontinelaw21_begun.cx w0 S0) [(5, vP b_20), (6, .bool r_13.2.1), (8, .bool r_13.2.2.2.1), (9, vU r_22.1), (10, vU r_22.2.1), (11, .bool r_22.2.2), (53, .bool b_28)] [⟨42, b_20, [vI r_13.1.Client, vI r_13.1.Command.Kind, vU r_13.1.Command.Session, vU r_13.1.Command.Seq, vU r_13.1.Command.Saga, .slice A_14 r_13.1.Command.Steps.length c_15, vI r_13.1.Command.Step, .bool r_13.1.Command.Back, vI r_13.1.Command.Try, .bool r_13.1.Command.Ok, vU r_13.1.Command.Now, vI r_13.1.Reply.Err, vU r_13.1.Reply.Num, vU r_13.1.Reply.Extra]⟩] [Rd 0 kT_api_Step A_14 c_15 r_13.1.Command.Steps] [.inRegion r30_11 [16, 17, 18, 19, 20, 21, 22, 23, 24, 25, 26, 27, 28, 29, 30, 31, 32, 33, 34, 35, 36, 37, 38, 39, 40, 41], .code c30_12] (tontinelaw21_begun.j2 n r_13 r_22 b_28) := by
  unfold tontinelaw21_begun.j2
  refine GoO.exec (is := [16]) (hs := [.p]) (rest := [17, 18, 19, 20, 21, 22, 23, 24, 25, 26, 27, 28, 29, 30, 31, 32, 33, 34, 35, 36, 37, 38, 39, 40, 41]) (ks := [5, 6, 8, 9, 10, 11, 54]) (env' := [(5, vP b_20), (6, .bool r_13.2.1), (8, .bool r_13.2.2.2.1), (9, vU r_22.1), (10, vU r_22.2.1), (11, .bool r_22.2.2), (54, .bool b_28)]) (H' := [⟨42, b_20, [vI r_13.1.Client, vI r_13.1.Command.Kind, vU r_13.1.Command.Session, vU r_13.1.Command.Seq, vU r_13.1.Command.Saga, .slice A_14 r_13.1.Command.Steps.length c_15, vI r_13.1.Command.Step, .bool r_13.1.Command.Back, vI r_13.1.Command.Try, .bool r_13.1.Command.Ok, vU r_13.1.Command.Now, vI r_13.1.Reply.Err, vU r_13.1.Reply.Num, vU r_13.1.Reply.Extra]⟩]) (ps := []) (by kernel_rfl) trivial ?_
  refine GoO.bsplit (t := 54) (by kernel_rfl) (fun h29 => ?_) (fun h29 => ?_)
  · refine GoO.exec (is := [17, 18]) (hs := [.p, .p]) (rest := [19, 20, 21, 22, 23, 24, 25, 26, 27, 28, 29, 30, 31, 32, 33, 34, 35, 36, 37, 38, 39, 40, 41]) (ks := [5, 8, 9, 10, 11, 56]) (env' := [(5, vP b_20), (8, .bool r_13.2.2.2.1), (9, vU r_22.1), (10, vU r_22.2.1), (11, .bool r_22.2.2), (56, .bool r_13.2.1)]) (H' := [⟨42, b_20, [vI r_13.1.Client, vI r_13.1.Command.Kind, vU r_13.1.Command.Session, vU r_13.1.Command.Seq, vU r_13.1.Command.Saga, .slice A_14 r_13.1.Command.Steps.length c_15, vI r_13.1.Command.Step, .bool r_13.1.Command.Back, vI r_13.1.Command.Try, .bool r_13.1.Command.Ok, vU r_13.1.Command.Now, vI r_13.1.Reply.Err, vU r_13.1.Reply.Num, vU r_13.1.Reply.Extra]⟩]) (ps := []) (by kernel_rfl) trivial ?_
    exact GoO.sub (ks := [5, 8, 9, 10, 11, 56]) (hk := [0]) (bk := [0]) (by kernel_rfl) (by kernel_rfl) (by kernel_rfl) (tontinelaw21_begun_j3_ok n r_13 r_22 A_14 c_15 b_20 w0 S0 r_13.2.1)
  · refine GoO.exec (is := [17, 18]) (hs := [.p, .p]) (rest := [19, 20, 21, 22, 23, 24, 25, 26, 27, 28, 29, 30, 31, 32, 33, 34, 35, 36, 37, 38, 39, 40, 41]) (ks := [5, 8, 9, 10, 11, 56]) (env' := [(5, vP b_20), (8, .bool r_13.2.2.2.1), (9, vU r_22.1), (10, vU r_22.2.1), (11, .bool r_22.2.2), (56, .bool false)]) (H' := [⟨42, b_20, [vI r_13.1.Client, vI r_13.1.Command.Kind, vU r_13.1.Command.Session, vU r_13.1.Command.Seq, vU r_13.1.Command.Saga, .slice A_14 r_13.1.Command.Steps.length c_15, vI r_13.1.Command.Step, .bool r_13.1.Command.Back, vI r_13.1.Command.Try, .bool r_13.1.Command.Ok, vU r_13.1.Command.Now, vI r_13.1.Reply.Err, vU r_13.1.Reply.Num, vU r_13.1.Reply.Extra]⟩]) (ps := []) (by kernel_rfl) trivial ?_
    exact GoO.sub (ks := [5, 8, 9, 10, 11, 56]) (hk := [0]) (bk := [0]) (by kernel_rfl) (by kernel_rfl) (by kernel_rfl) (tontinelaw21_begun_j3_ok n r_13 r_22 A_14 c_15 b_20 w0 S0 false)
theorem tontinelaw21_begun_j1_ok (n : Nat) (r_6 : T_api_Letter × Int × T_client_Client) (r_13 : T_api_Told × Bool × T_api_Letter × Bool × T_client_Client) (r_22 : Int × Int × Bool) (A_7 : Option Addr) (c_8 : Nat) (b_11 : Nat) (A_14 : Option Addr) (c_15 : Nat) (b_20 : Nat) (w0 : World) (S0 : Fam) (b_26 : Bool) :
    GoO (tontinelaw21_begun.cx w0 S0) [(3, vP b_11), (5, vP b_20), (6, .bool r_13.2.1), (8, .bool r_13.2.2.2.1), (9, vU r_22.1), (10, vU r_22.2.1), (11, .bool r_22.2.2), (48, .bool b_26)] [⟨41, b_11, [vI r_6.1.Kind, vI r_6.1.From, vI r_6.1.To, vU r_6.1.Term, vU r_6.1.Index, vU r_6.1.Prev, vU r_6.1.Commit, .bool r_6.1.Ok, .slice A_7 r_6.1.Entries.length c_8, .string (bs r_6.1.Data)]⟩, ⟨42, b_20, [vI r_13.1.Client, vI r_13.1.Command.Kind, vU r_13.1.Command.Session, vU r_13.1.Command.Seq, vU r_13.1.Command.Saga, .slice A_14 r_13.1.Command.Steps.length c_15, vI r_13.1.Command.Step, .bool r_13.1.Command.Back, vI r_13.1.Command.Try, .bool r_13.1.Command.Ok, vU r_13.1.Command.Now, vI r_13.1.Reply.Err, vU r_13.1.Reply.Num, vU r_13.1.Reply.Extra]⟩] [Rd 0 kT_api_Entry A_7 c_8 r_6.1.Entries, Rd 0 kT_api_Step A_14 c_15 r_13.1.Command.Steps] [.inRegion r30_11 [11, 12, 13, 14, 15, 16, 17, 18, 19, 20, 21, 22, 23, 24, 25, 26, 27, 28, 29, 30, 31, 32, 33, 34, 35, 36, 37, 38, 39, 40, 41], .code c30_12] (tontinelaw21_begun.j1 n r_6 r_13 r_22 b_26) := by
  unfold tontinelaw21_begun.j1
  refine GoO.exec (is := [11]) (hs := [.p]) (rest := [12, 13, 14, 15, 16, 17, 18, 19, 20, 21, 22, 23, 24, 25, 26, 27, 28, 29, 30, 31, 32, 33, 34, 35, 36, 37, 38, 39, 40, 41]) (ks := [3, 5, 6, 8, 9, 10, 11, 49]) (env' := [(3, vP b_11), (5, vP b_20), (6, .bool r_13.2.1), (8, .bool r_13.2.2.2.1), (9, vU r_22.1), (10, vU r_22.2.1), (11, .bool r_22.2.2), (49, .bool b_26)]) (H' := [⟨41, b_11, [vI r_6.1.Kind, vI r_6.1.From, vI r_6.1.To, vU r_6.1.Term, vU r_6.1.Index, vU r_6.1.Prev, vU r_6.1.Commit, .bool r_6.1.Ok, .slice A_7 r_6.1.Entries.length c_8, .string (bs r_6.1.Data)]⟩, ⟨42, b_20, [vI r_13.1.Client, vI r_13.1.Command.Kind, vU r_13.1.Command.Session, vU r_13.1.Command.Seq, vU r_13.1.Command.Saga, .slice A_14 r_13.1.Command.Steps.length c_15, vI r_13.1.Command.Step, .bool r_13.1.Command.Back, vI r_13.1.Command.Try, .bool r_13.1.Command.Ok, vU r_13.1.Command.Now, vI r_13.1.Reply.Err, vU r_13.1.Reply.Num, vU r_13.1.Reply.Extra]⟩]) (ps := []) (by kernel_rfl) trivial ?_
  refine GoO.bsplit (t := 49) (by kernel_rfl) (fun h27 => ?_) (fun h27 => ?_)
  · refine GoO.exec (is := [12, 13, 14, 15]) (hs := [.p, .b 0, .p, .p]) (rest := [16, 17, 18, 19, 20, 21, 22, 23, 24, 25, 26, 27, 28, 29, 30, 31, 32, 33, 34, 35, 36, 37, 38, 39, 40, 41]) (ks := [5, 6, 8, 9, 10, 11, 53]) (env' := [(5, vP b_20), (6, .bool r_13.2.1), (8, .bool r_13.2.2.2.1), (9, vU r_22.1), (10, vU r_22.2.1), (11, .bool r_22.2.2), (53, .bool (r_6.1.Index == 1))]) (H' := [⟨41, b_11, [vI r_6.1.Kind, vI r_6.1.From, vI r_6.1.To, vU r_6.1.Term, vU r_6.1.Index, vU r_6.1.Prev, vU r_6.1.Commit, .bool r_6.1.Ok, .slice A_7 r_6.1.Entries.length c_8, .string (bs r_6.1.Data)]⟩, ⟨42, b_20, [vI r_13.1.Client, vI r_13.1.Command.Kind, vU r_13.1.Command.Session, vU r_13.1.Command.Seq, vU r_13.1.Command.Saga, .slice A_14 r_13.1.Command.Steps.length c_15, vI r_13.1.Command.Step, .bool r_13.1.Command.Back, vI r_13.1.Command.Try, .bool r_13.1.Command.Ok, vU r_13.1.Command.Now, vI r_13.1.Reply.Err, vU r_13.1.Reply.Num, vU r_13.1.Reply.Extra]⟩]) (ps := [b_11 = b_11]) (by kernel_rfl) (And.intro rfl trivial) ?_
    exact GoO.sub (ks := [5, 6, 8, 9, 10, 11, 53]) (hk := [1]) (bk := [1]) (by kernel_rfl) (by kernel_rfl) (by kernel_rfl) (tontinelaw21_begun_j2_ok n r_13 r_22 A_14 c_15 b_20 w0 S0 (r_6.1.Index == 1))
  · refine GoO.exec (is := [12, 13, 14, 15]) (hs := [.p, .p, .p, .p]) (rest := [16, 17, 18, 19, 20, 21, 22, 23, 24, 25, 26, 27, 28, 29, 30, 31, 32, 33, 34, 35, 36, 37, 38, 39, 40, 41]) (ks := [5, 6, 8, 9, 10, 11, 53]) (env' := [(5, vP b_20), (6, .bool r_13.2.1), (8, .bool r_13.2.2.2.1), (9, vU r_22.1), (10, vU r_22.2.1), (11, .bool r_22.2.2), (53, .bool false)]) (H' := [⟨41, b_11, [vI r_6.1.Kind, vI r_6.1.From, vI r_6.1.To, vU r_6.1.Term, vU r_6.1.Index, vU r_6.1.Prev, vU r_6.1.Commit, .bool r_6.1.Ok, .slice A_7 r_6.1.Entries.length c_8, .string (bs r_6.1.Data)]⟩, ⟨42, b_20, [vI r_13.1.Client, vI r_13.1.Command.Kind, vU r_13.1.Command.Session, vU r_13.1.Command.Seq, vU r_13.1.Command.Saga, .slice A_14 r_13.1.Command.Steps.length c_15, vI r_13.1.Command.Step, .bool r_13.1.Command.Back, vI r_13.1.Command.Try, .bool r_13.1.Command.Ok, vU r_13.1.Command.Now, vI r_13.1.Reply.Err, vU r_13.1.Reply.Num, vU r_13.1.Reply.Extra]⟩]) (ps := []) (by kernel_rfl) trivial ?_
    exact GoO.sub (ks := [5, 6, 8, 9, 10, 11, 53]) (hk := [1]) (bk := [1]) (by kernel_rfl) (by kernel_rfl) (by kernel_rfl) (tontinelaw21_begun_j2_ok n r_13 r_22 A_14 c_15 b_20 w0 S0 false)
theorem tontinelaw21_begun_j0_ok (n : Nat) (r_6 : T_api_Letter × Int × T_client_Client) (r_13 : T_api_Told × Bool × T_api_Letter × Bool × T_client_Client) (r_22 : Int × Int × Bool) (A_7 : Option Addr) (c_8 : Nat) (b_11 : Nat) (A_14 : Option Addr) (c_15 : Nat) (b_20 : Nat) (w0 : World) (S0 : Fam) (b_24 : Bool) :
    GoO (tontinelaw21_begun.cx w0 S0) [(3, vP b_11), (5, vP b_20), (6, .bool r_13.2.1), (8, .bool r_13.2.2.2.1), (9, vU r_22.1), (10, vU r_22.2.1), (11, .bool r_22.2.2), (43, .bool b_24)] [⟨41, b_11, [vI r_6.1.Kind, vI r_6.1.From, vI r_6.1.To, vU r_6.1.Term, vU r_6.1.Index, vU r_6.1.Prev, vU r_6.1.Commit, .bool r_6.1.Ok, .slice A_7 r_6.1.Entries.length c_8, .string (bs r_6.1.Data)]⟩, ⟨42, b_20, [vI r_13.1.Client, vI r_13.1.Command.Kind, vU r_13.1.Command.Session, vU r_13.1.Command.Seq, vU r_13.1.Command.Saga, .slice A_14 r_13.1.Command.Steps.length c_15, vI r_13.1.Command.Step, .bool r_13.1.Command.Back, vI r_13.1.Command.Try, .bool r_13.1.Command.Ok, vU r_13.1.Command.Now, vI r_13.1.Reply.Err, vU r_13.1.Reply.Num, vU r_13.1.Reply.Extra]⟩] [Rd 0 kT_api_Entry A_7 c_8 r_6.1.Entries, Rd 0 kT_api_Step A_14 c_15 r_13.1.Command.Steps] [.inRegion r30_11 [6, 7, 8, 9, 10, 11, 12, 13, 14, 15, 16, 17, 18, 19, 20, 21, 22, 23, 24, 25, 26, 27, 28, 29, 30, 31, 32, 33, 34, 35, 36, 37, 38, 39, 40, 41], .code c30_12] (tontinelaw21_begun.j0 n r_6 r_13 r_22 b_24) := by
  unfold tontinelaw21_begun.j0
  refine GoO.exec (is := [6]) (hs := [.p]) (rest := [7, 8, 9, 10, 11, 12, 13, 14, 15, 16, 17, 18, 19, 20, 21, 22, 23, 24, 25, 26, 27, 28, 29, 30, 31, 32, 33, 34, 35, 36, 37, 38, 39, 40, 41]) (ks := [3, 5, 6, 8, 9, 10, 11, 44]) (env' := [(3, vP b_11), (5, vP b_20), (6, .bool r_13.2.1), (8, .bool r_13.2.2.2.1), (9, vU r_22.1), (10, vU r_22.2.1), (11, .bool r_22.2.2), (44, .bool b_24)]) (H' := [⟨41, b_11, [vI r_6.1.Kind, vI r_6.1.From, vI r_6.1.To, vU r_6.1.Term, vU r_6.1.Index, vU r_6.1.Prev, vU r_6.1.Commit, .bool r_6.1.Ok, .slice A_7 r_6.1.Entries.length c_8, .string (bs r_6.1.Data)]⟩, ⟨42, b_20, [vI r_13.1.Client, vI r_13.1.Command.Kind, vU r_13.1.Command.Session, vU r_13.1.Command.Seq, vU r_13.1.Command.Saga, .slice A_14 r_13.1.Command.Steps.length c_15, vI r_13.1.Command.Step, .bool r_13.1.Command.Back, vI r_13.1.Command.Try, .bool r_13.1.Command.Ok, vU r_13.1.Command.Now, vI r_13.1.Reply.Err, vU r_13.1.Reply.Num, vU r_13.1.Reply.Extra]⟩]) (ps := []) (by kernel_rfl) trivial ?_
  refine GoO.bsplit (t := 44) (by kernel_rfl) (fun h25 => ?_) (fun h25 => ?_)
  · refine GoO.exec (is := [7, 8, 9, 10]) (hs := [.p, .b 0, .p, .p]) (rest := [11, 12, 13, 14, 15, 16, 17, 18, 19, 20, 21, 22, 23, 24, 25, 26, 27, 28, 29, 30, 31, 32, 33, 34, 35, 36, 37, 38, 39, 40, 41]) (ks := [3, 5, 6, 8, 9, 10, 11, 48]) (env' := [(3, vP b_11), (5, vP b_20), (6, .bool r_13.2.1), (8, .bool r_13.2.2.2.1), (9, vU r_22.1), (10, vU r_22.2.1), (11, .bool r_22.2.2), (48, .bool (r_6.1.From == 201))]) (H' := [⟨41, b_11, [vI r_6.1.Kind, vI r_6.1.From, vI r_6.1.To, vU r_6.1.Term, vU r_6.1.Index, vU r_6.1.Prev, vU r_6.1.Commit, .bool r_6.1.Ok, .slice A_7 r_6.1.Entries.length c_8, .string (bs r_6.1.Data)]⟩, ⟨42, b_20, [vI r_13.1.Client, vI r_13.1.Command.Kind, vU r_13.1.Command.Session, vU r_13.1.Command.Seq, vU r_13.1.Command.Saga, .slice A_14 r_13.1.Command.Steps.length c_15, vI r_13.1.Command.Step, .bool r_13.1.Command.Back, vI r_13.1.Command.Try, .bool r_13.1.Command.Ok, vU r_13.1.Command.Now, vI r_13.1.Reply.Err, vU r_13.1.Reply.Num, vU r_13.1.Reply.Extra]⟩]) (ps := [b_11 = b_11]) (by kernel_rfl) (And.intro rfl trivial) ?_
    exact GoO.sub (ks := [3, 5, 6, 8, 9, 10, 11, 48]) (hk := [0, 1]) (bk := [0, 1]) (by kernel_rfl) (by kernel_rfl) (by kernel_rfl) (tontinelaw21_begun_j1_ok n r_6 r_13 r_22 A_7 c_8 b_11 A_14 c_15 b_20 w0 S0 (r_6.1.From == 201))
  · refine GoO.exec (is := [7, 8, 9, 10]) (hs := [.p, .p, .p, .p]) (rest := [11, 12, 13, 14, 15, 16, 17, 18, 19, 20, 21, 22, 23, 24, 25, 26, 27, 28, 29, 30, 31, 32, 33, 34, 35, 36, 37, 38, 39, 40, 41]) (ks := [3, 5, 6, 8, 9, 10, 11, 48]) (env' := [(3, vP b_11), (5, vP b_20), (6, .bool r_13.2.1), (8, .bool r_13.2.2.2.1), (9, vU r_22.1), (10, vU r_22.2.1), (11, .bool r_22.2.2), (48, .bool false)]) (H' := [⟨41, b_11, [vI r_6.1.Kind, vI r_6.1.From, vI r_6.1.To, vU r_6.1.Term, vU r_6.1.Index, vU r_6.1.Prev, vU r_6.1.Commit, .bool r_6.1.Ok, .slice A_7 r_6.1.Entries.length c_8, .string (bs r_6.1.Data)]⟩, ⟨42, b_20, [vI r_13.1.Client, vI r_13.1.Command.Kind, vU r_13.1.Command.Session, vU r_13.1.Command.Seq, vU r_13.1.Command.Saga, .slice A_14 r_13.1.Command.Steps.length c_15, vI r_13.1.Command.Step, .bool r_13.1.Command.Back, vI r_13.1.Command.Try, .bool r_13.1.Command.Ok, vU r_13.1.Command.Now, vI r_13.1.Reply.Err, vU r_13.1.Reply.Num, vU r_13.1.Reply.Extra]⟩]) (ps := []) (by kernel_rfl) trivial ?_
    exact GoO.sub (ks := [3, 5, 6, 8, 9, 10, 11, 48]) (hk := [0, 1]) (bk := [0, 1]) (by kernel_rfl) (by kernel_rfl) (by kernel_rfl) (tontinelaw21_begun_j1_ok n r_6 r_13 r_22 A_7 c_8 b_11 A_14 c_15 b_20 w0 S0 false)
theorem tontinelaw21_begun_ok (n : Nat) :
    Meets Try.prog 30 [] 0 [] [] [] (tontinelaw21_begun.f n) (tontinelaw21_begun.R) := by
  refine Meets.of (c := c30_0) (n := 79) Try.func30 (by kernel_rfl) (by kernel_rfl) (by kernel_rfl) fun w0 S0 => ?_
  unfold tontinelaw21_begun.f
  show GoO (tontinelaw21_begun.cx w0 S0) [] [] [] [.code c30_0] _
  refine GoO.seq' c30_0e ?_
  refine GoO.region' (is := [0]) c30_1e (by kernel_rfl) ?_
  refine GoO.exec (is := [0]) (hs := [.p]) (rest := []) (ks := []) (env' := []) (H' := []) (ps := []) (by kernel_rfl) trivial ?_
  refine GoO.regionEnd ?_
  refine GoO.seq' c30_2e ?_
  refine GoO.region' (is := [0, 1, 2, 3, 4, 5]) c30_3e (by kernel_rfl) ?_
  refine OpTo.go (GoO.call rfl (by kernel_rfl) (by kernel_rfl) (client_New_ok n 1) [[0]] [(40, 1)] [] [] (hks := []) (bks := []) (by kernel_rfl) (by kernel_rfl) (by kernel_rfl) (.inl rfl) rfl rfl (by kernel_rfl) (by kernel_rfl) _ (fun _ _ => rfl) _ _ (fun _ _ => rfl) (fun _ _ => rfl) (fun rr _ => by dsimp only [client_New.R]; cases rr.1 <;> kernel_rfl) (fun rr _ => by dsimp only [client_New.R]; cases rr.1 <;> kernel_rfl) (fun r_1 x_41 => ?_))
  obtain ⟨c_2, A_3, c_4⟩ := x_41
  rcases r_1 with ⟨(_ | o_5), r_1_q1⟩
  · refine GoO.shape (env' := [(13, .tuple ⟨[.pointer none, vI ((none, r_1_q1) : Option T_client_Client × Int).2]⟩)]) (H' := []) (B' := []) (ks := [13]) (by kernel_rfl) (by kernel_rfl) (by kernel_rfl) ?_
    refine GoO.exec (is := [1, 2, 3, 4, 5]) (hs := [.p, .p, .p, .p, .p]) (rest := []) (ks := [1, 2]) (env' := [(1, .pointer none), (2, vI ((none, r_1_q1) : Option T_client_Client × Int).2)]) (H' := []) (ps := []) (by kernel_rfl) trivial ?_
    refine GoO.regionEnd ?_
    refine GoO.seq' c30_4e ?_
    refine GoO.region' (is := [0, 1, 2, 3, 4, 5, 6, 7, 8]) c30_5e (by kernel_rfl) ?_
    refine GoO.exec (is := [0, 1]) (hs := [.p, .p]) (rest := [2, 3, 4, 5, 6, 7, 8]) (ks := [1, 2, 17, 18]) (env' := [(1, .pointer none), (2, vI ((none, r_1_q1) : Option T_client_Client × Int).2), (17, .pointer none), (18, .agg ⟨[vI 1, vU 0, vU 0, vU 0, .slice none ([] : List T_api_Step).length 0, vI 0, .bool false, vI 0, .bool false, vU 0]⟩)]) (H' := []) (ps := []) (by kernel_rfl) trivial ?_
    exact GoO.stop
  · refine GoO.shape (env' := [(13, .tuple ⟨[vP c_2, vI ((some o_5, r_1_q1) : Option T_client_Client × Int).2]⟩)]) (H' := [⟨40, c_2, [vI o_5.id, vU o_5.session, vU o_5.seq, vU o_5.call, .bool o_5.busy, vI o_5.now.Kind, vU o_5.now.Session, vU o_5.now.Seq, vU o_5.now.Saga, .slice A_3 o_5.now.Steps.length c_4, vI o_5.now.Step, .bool o_5.now.Back, vI o_5.now.Try, .bool o_5.now.Ok, vU o_5.now.Now, .string (bs o_5.data), vI o_5.to_]⟩]) (B' := [Rd 0 kT_api_Step A_3 c_4 o_5.now.Steps]) (ks := [13]) (by kernel_rfl) (by kernel_rfl) (by kernel_rfl) ?_
    refine GoO.exec (is := [1, 2, 3, 4, 5]) (hs := [.p, .p, .p, .p, .p]) (rest := []) (ks := [1, 2]) (env' := [(1, vP c_2), (2, vI ((some o_5, r_1_q1) : Option T_client_Client × Int).2)]) (H' := [⟨40, c_2, [vI o_5.id, vU o_5.session, vU o_5.seq, vU o_5.call, .bool o_5.busy, vI o_5.now.Kind, vU o_5.now.Session, vU o_5.now.Seq, vU o_5.now.Saga, .slice A_3 o_5.now.Steps.length c_4, vI o_5.now.Step, .bool o_5.now.Back, vI o_5.now.Try, .bool o_5.now.Ok, vU o_5.now.Now, .string (bs o_5.data), vI o_5.to_]⟩]) (ps := []) (by kernel_rfl) trivial ?_
    refine GoO.regionEnd ?_
    refine GoO.seq' c30_4e ?_
    refine GoO.region' (is := [0, 1, 2, 3, 4, 5, 6, 7, 8]) c30_5e (by kernel_rfl) ?_
    refine GoO.exec (is := [0, 1]) (hs := [.p, .p]) (rest := [2, 3, 4, 5, 6, 7, 8]) (ks := [1, 2, 17, 18]) (env' := [(1, vP c_2), (2, vI ((some o_5, r_1_q1) : Option T_client_Client × Int).2), (17, vP c_2), (18, .agg ⟨[vI 1, vU 0, vU 0, vU 0, .slice none ([] : List T_api_Step).length 0, vI 0, .bool false, vI 0, .bool false, vU 0]⟩)]) (H' := [⟨40, c_2, [vI o_5.id, vU o_5.session, vU o_5.seq, vU o_5.call, .bool o_5.busy, vI o_5.now.Kind, vU o_5.now.Session, vU o_5.now.Seq, vU o_5.now.Saga, .slice A_3 o_5.now.Steps.length c_4, vI o_5.now.Step, .bool o_5.now.Back, vI o_5.now.Try, .bool o_5.now.Ok, vU o_5.now.Now, .string (bs o_5.data), vI o_5.to_]⟩]) (ps := []) (by kernel_rfl) trivial ?_
    refine GoO.nilRd kT_api_Step ?_
    refine OpTo.go (GoO.call rfl (by kernel_rfl) (by kernel_rfl) (client_Client_Call_ok n (⟨o_5.id, o_5.session, o_5.seq, o_5.call, o_5.busy, (⟨o_5.now.Kind, o_5.now.Session, o_5.now.Seq, o_5.now.Saga, o_5.now.Steps, o_5.now.Step, o_5.now.Back, o_5.now.Try, o_5.now.Ok, o_5.now.Now⟩ : T_api_Command), o_5.data, o_5.to_⟩ : T_client_Client) (⟨1, 0, 0, 0, [], 0, false, 0, false, 0⟩ : T_api_Command) c_2 A_3 c_4 none 0) [[0], [40]] [(40, 1)] [(1, 0)] [(0, 1), (0, 0)] (hks := []) (bks := [0, 1]) (by kernel_rfl) (by kernel_rfl) (by kernel_rfl) (.inl rfl) rfl rfl (by kernel_rfl) (by kernel_rfl) _ (fun _ _ => rfl) _ _ (fun _ _ => rfl) (fun _ _ => rfl) (fun _ _ => by kernel_rfl) (fun _ _ => by kernel_rfl) (fun r_6 x_40 => ?_))
    obtain ⟨A_7, c_8, A_9, c_10⟩ := x_40
    refine GoO.shape (env' := [(1, vP c_2), (2, vI ((some o_5, r_1_q1) : Option T_client_Client × Int).2), (17, vP c_2), (18, .agg ⟨[vI 1, vU 0, vU 0, vU 0, .slice none ([] : List T_api_Step).length 0, vI 0, .bool false, vI 0, .bool false, vU 0]⟩), (19, .tuple ⟨[.agg ⟨[vI r_6.1.Kind, vI r_6.1.From, vI r_6.1.To, vU r_6.1.Term, vU r_6.1.Index, vU r_6.1.Prev, vU r_6.1.Commit, .bool r_6.1.Ok, .slice A_7 r_6.1.Entries.length c_8, .string (bs r_6.1.Data)]⟩, vI r_6.2.1]⟩)]) (H' := [⟨40, c_2, [vI r_6.2.2.id, vU r_6.2.2.session, vU r_6.2.2.seq, vU r_6.2.2.call, .bool r_6.2.2.busy, vI r_6.2.2.now.Kind, vU r_6.2.2.now.Session, vU r_6.2.2.now.Seq, vU r_6.2.2.now.Saga, .slice A_9 r_6.2.2.now.Steps.length c_10, vI r_6.2.2.now.Step, .bool r_6.2.2.now.Back, vI r_6.2.2.now.Try, .bool r_6.2.2.now.Ok, vU r_6.2.2.now.Now, .string (bs r_6.2.2.data), vI r_6.2.2.to_]⟩]) (B' := [Rd 0 kT_api_Entry A_7 c_8 r_6.1.Entries, Rd 0 kT_api_Step A_9 c_10 r_6.2.2.now.Steps, Rd 0 kT_api_Step none 0 ([] : List T_api_Step), Rd 0 kT_api_Step A_3 c_4 o_5.now.Steps]) (ks := [1, 2, 17, 18, 19]) (by kernel_rfl) (by kernel_rfl) (by kernel_rfl) ?_
    refine GoO.exec (is := [3, 4, 5]) (hs := [.p, .p, .p]) (rest := [6, 7, 8]) (ks := [1, 2, 20, 21]) (env' := [(1, vP c_2), (2, vI ((some o_5, r_1_q1) : Option T_client_Client × Int).2), (20, .agg ⟨[vI r_6.1.Kind, vI r_6.1.From, vI r_6.1.To, vU r_6.1.Term, vU r_6.1.Index, vU r_6.1.Prev, vU r_6.1.Commit, .bool r_6.1.Ok, .slice A_7 r_6.1.Entries.length c_8, .string (bs r_6.1.Data)]⟩), (21, vI r_6.2.1)]) (H' := [⟨40, c_2, [vI r_6.2.2.id, vU r_6.2.2.session, vU r_6.2.2.seq, vU r_6.2.2.call, .bool r_6.2.2.busy, vI r_6.2.2.now.Kind, vU r_6.2.2.now.Session, vU r_6.2.2.now.Seq, vU r_6.2.2.now.Saga, .slice A_9 r_6.2.2.now.Steps.length c_10, vI r_6.2.2.now.Step, .bool r_6.2.2.now.Back, vI r_6.2.2.now.Try, .bool r_6.2.2.now.Ok, vU r_6.2.2.now.Now, .string (bs r_6.2.2.data), vI r_6.2.2.to_]⟩]) (ps := []) (by kernel_rfl) trivial ?_
    refine OpTo.go (GoO.new rfl 41 (cs := [vI 0, vI 0, vI 0, vU 0, vU 0, vU 0, vU 0, .bool false, .slice none ([] : List T_api_Entry).length 0, .string (bs [])]) (by kernel_rfl) _ (fun _ => rfl) (fun b_11 => ?_))
    refine GoO.exec (is := [7, 8]) (hs := [.b 0, .p]) (rest := []) (ks := [1, 2, 3, 4]) (env' := [(1, vP c_2), (2, vI ((some o_5, r_1_q1) : Option T_client_Client × Int).2), (3, vP b_11), (4, vI r_6.2.1)]) (H' := [⟨41, b_11, [vI r_6.1.Kind, vI r_6.1.From, vI r_6.1.To, vU r_6.1.Term, vU r_6.1.Index, vU r_6.1.Prev, vU r_6.1.Commit, .bool r_6.1.Ok, .slice A_7 r_6.1.Entries.length c_8, .string (bs r_6.1.Data)]⟩, ⟨40, c_2, [vI r_6.2.2.id, vU r_6.2.2.session, vU r_6.2.2.seq, vU r_6.2.2.call, .bool r_6.2.2.busy, vI r_6.2.2.now.Kind, vU r_6.2.2.now.Session, vU r_6.2.2.now.Seq, vU r_6.2.2.now.Saga, .slice A_9 r_6.2.2.now.Steps.length c_10, vI r_6.2.2.now.Step, .bool r_6.2.2.now.Back, vI r_6.2.2.now.Try, .bool r_6.2.2.now.Ok, vU r_6.2.2.now.Now, .string (bs r_6.2.2.data), vI r_6.2.2.to_]⟩]) (ps := [b_11 = b_11]) (by kernel_rfl) (And.intro rfl trivial) ?_
    refine GoO.regionEnd ?_
    refine GoO.seq' c30_6e ?_
    refine GoO.region' (is := [0, 1, 2, 3, 4, 5, 6, 7, 8, 9, 10, 11, 12, 13, 14, 15]) c30_7e (by kernel_rfl) ?_
    refine GoO.exec (is := [0, 1]) (hs := [.p, .p]) (rest := [2, 3, 4, 5, 6, 7, 8, 9, 10, 11, 12, 13, 14, 15]) (ks := [1, 2, 3, 4, 23, 24]) (env' := [(1, vP c_2), (2, vI ((some o_5, r_1_q1) : Option T_client_Client × Int).2), (3, vP b_11), (4, vI r_6.2.1), (23, vP c_2), (24, .agg ⟨[vI 0, vU 4, vU 0]⟩)]) (H' := [⟨41, b_11, [vI r_6.1.Kind, vI r_6.1.From, vI r_6.1.To, vU r_6.1.Term, vU r_6.1.Index, vU r_6.1.Prev, vU r_6.1.Commit, .bool r_6.1.Ok, .slice A_7 r_6.1.Entries.length c_8, .string (bs r_6.1.Data)]⟩, ⟨40, c_2, [vI r_6.2.2.id, vU r_6.2.2.session, vU r_6.2.2.seq, vU r_6.2.2.call, .bool r_6.2.2.busy, vI r_6.2.2.now.Kind, vU r_6.2.2.now.Session, vU r_6.2.2.now.Seq, vU r_6.2.2.now.Saga, .slice A_9 r_6.2.2.now.Steps.length c_10, vI r_6.2.2.now.Step, .bool r_6.2.2.now.Back, vI r_6.2.2.now.Try, .bool r_6.2.2.now.Ok, vU r_6.2.2.now.Now, .string (bs r_6.2.2.data), vI r_6.2.2.to_]⟩]) (ps := []) (by kernel_rfl) trivial ?_
    refine OpTo.go (GoO.call rfl (by kernel_rfl) (by kernel_rfl) (tontineref16_Answer_ok n (⟨0, 4, 0⟩ : T_api_Reply)) [[0]] [] [] [] (hks := [0, 1]) (bks := [0, 1, 2, 3]) (by kernel_rfl) (by kernel_rfl) (by kernel_rfl) (.inl rfl) rfl rfl (by kernel_rfl) (by kernel_rfl) _ (fun _ _ => rfl) _ _ (fun _ _ => rfl) (fun _ _ => rfl) (fun _ _ => by kernel_rfl) (fun _ _ => by kernel_rfl) (fun r_12 x_39 => ?_))
    refine GoO.shape (env' := [(1, vP c_2), (2, vI ((some o_5, r_1_q1) : Option T_client_Client × Int).2), (3, vP b_11), (4, vI r_6.2.1), (23, vP c_2), (24, .agg ⟨[vI 0, vU 4, vU 0]⟩), (25, .string (bs r_12))]) (H' := [⟨41, b_11, [vI r_6.1.Kind, vI r_6.1.From, vI r_6.1.To, vU r_6.1.Term, vU r_6.1.Index, vU r_6.1.Prev, vU r_6.1.Commit, .bool r_6.1.Ok, .slice A_7 r_6.1.Entries.length c_8, .string (bs r_6.1.Data)]⟩, ⟨40, c_2, [vI r_6.2.2.id, vU r_6.2.2.session, vU r_6.2.2.seq, vU r_6.2.2.call, .bool r_6.2.2.busy, vI r_6.2.2.now.Kind, vU r_6.2.2.now.Session, vU r_6.2.2.now.Seq, vU r_6.2.2.now.Saga, .slice A_9 r_6.2.2.now.Steps.length c_10, vI r_6.2.2.now.Step, .bool r_6.2.2.now.Back, vI r_6.2.2.now.Try, .bool r_6.2.2.now.Ok, vU r_6.2.2.now.Now, .string (bs r_6.2.2.data), vI r_6.2.2.to_]⟩]) (B' := [Rd 0 kT_api_Entry A_7 c_8 r_6.1.Entries, Rd 0 kT_api_Step A_9 c_10 r_6.2.2.now.Steps, Rd 0 kT_api_Step none 0 ([] : List T_api_Step), Rd 0 kT_api_Step A_3 c_4 o_5.now.Steps]) (ks := [1, 2, 3, 4, 23, 24, 25]) (by kernel_rfl) (by kernel_rfl) (by kernel_rfl) ?_
    refine GoO.exec (is := [3]) (hs := [.p]) (rest := [4, 5, 6, 7, 8, 9, 10, 11, 12, 13, 14, 15]) (ks := [1, 2, 3, 4, 23, 26]) (env' := [(1, vP c_2), (2, vI ((some o_5, r_1_q1) : Option T_client_Client × Int).2), (3, vP b_11), (4, vI r_6.2.1), (23, vP c_2), (26, .agg ⟨[vI 9, vI 0, vI 201, vU 0, vU 1, vU 0, vU 0, .bool false, .slice none ([] : List T_api_Entry).length 0, .string (bs r_12)]⟩)]) (H' := [⟨41, b_11, [vI r_6.1.Kind, vI r_6.1.From, vI r_6.1.To, vU r_6.1.Term, vU r_6.1.Index, vU r_6.1.Prev, vU r_6.1.Commit, .bool r_6.1.Ok, .slice A_7 r_6.1.Entries.length c_8, .string (bs r_6.1.Data)]⟩, ⟨40, c_2, [vI r_6.2.2.id, vU r_6.2.2.session, vU r_6.2.2.seq, vU r_6.2.2.call, .bool r_6.2.2.busy, vI r_6.2.2.now.Kind, vU r_6.2.2.now.Session, vU r_6.2.2.now.Seq, vU r_6.2.2.now.Saga, .slice A_9 r_6.2.2.now.Steps.length c_10, vI r_6.2.2.now.Step, .bool r_6.2.2.now.Back, vI r_6.2.2.now.Try, .bool r_6.2.2.now.Ok, vU r_6.2.2.now.Now, .string (bs r_6.2.2.data), vI r_6.2.2.to_]⟩]) (ps := []) (by kernel_rfl) trivial ?_
    refine GoO.nilRd kT_api_Entry ?_
    refine OpTo.go (GoO.call rfl (by kernel_rfl) (by kernel_rfl) (client_Client_Hear_ok n (⟨r_6.2.2.id, r_6.2.2.session, r_6.2.2.seq, r_6.2.2.call, r_6.2.2.busy, (⟨r_6.2.2.now.Kind, r_6.2.2.now.Session, r_6.2.2.now.Seq, r_6.2.2.now.Saga, r_6.2.2.now.Steps, r_6.2.2.now.Step, r_6.2.2.now.Back, r_6.2.2.now.Try, r_6.2.2.now.Ok, r_6.2.2.now.Now⟩ : T_api_Command), r_6.2.2.data, r_6.2.2.to_⟩ : T_client_Client) (⟨9, 0, 201, 0, 1, 0, 0, false, [], r_12⟩ : T_api_Letter) c_2 A_9 c_10 none 0) [[0], [40]] [(40, 1)] [(1, 1)] [(0, 2), (0, 0)] (hks := [0]) (bks := [0, 1, 2, 3, 4]) (by kernel_rfl) (by kernel_rfl) (by kernel_rfl) (.inl rfl) rfl rfl (by kernel_rfl) (by kernel_rfl) _ (fun _ _ => rfl) _ _ (fun _ _ => rfl) (fun _ _ => rfl) (fun _ _ => by kernel_rfl) (fun _ _ => by kernel_rfl) (fun r_13 x_38 => ?_))
    obtain ⟨A_14, c_15, A_16, c_17, A_18, c_19⟩ := x_38
    refine GoO.shape (env' := [(1, vP c_2), (2, vI ((some o_5, r_1_q1) : Option T_client_Client × Int).2), (3, vP b_11), (4, vI r_6.2.1), (23, vP c_2), (26, .agg ⟨[vI 9, vI 0, vI 201, vU 0, vU 1, vU 0, vU 0, .bool false, .slice none ([] : List T_api_Entry).length 0, .string (bs r_12)]⟩), (27, .tuple ⟨[.agg ⟨[vI r_13.1.Client, vI r_13.1.Command.Kind, vU r_13.1.Command.Session, vU r_13.1.Command.Seq, vU r_13.1.Command.Saga, .slice A_14 r_13.1.Command.Steps.length c_15, vI r_13.1.Command.Step, .bool r_13.1.Command.Back, vI r_13.1.Command.Try, .bool r_13.1.Command.Ok, vU r_13.1.Command.Now, vI r_13.1.Reply.Err, vU r_13.1.Reply.Num, vU r_13.1.Reply.Extra]⟩, .bool r_13.2.1, .agg ⟨[vI r_13.2.2.1.Kind, vI r_13.2.2.1.From, vI r_13.2.2.1.To, vU r_13.2.2.1.Term, vU r_13.2.2.1.Index, vU r_13.2.2.1.Prev, vU r_13.2.2.1.Commit, .bool r_13.2.2.1.Ok, .slice A_16 r_13.2.2.1.Entries.length c_17, .string (bs r_13.2.2.1.Data)]⟩, .bool r_13.2.2.2.1]⟩)]) (H' := [⟨40, c_2, [vI r_13.2.2.2.2.id, vU r_13.2.2.2.2.session, vU r_13.2.2.2.2.seq, vU r_13.2.2.2.2.call, .bool r_13.2.2.2.2.busy, vI r_13.2.2.2.2.now.Kind, vU r_13.2.2.2.2.now.Session, vU r_13.2.2.2.2.now.Seq, vU r_13.2.2.2.2.now.Saga, .slice A_18 r_13.2.2.2.2.now.Steps.length c_19, vI r_13.2.2.2.2.now.Step, .bool r_13.2.2.2.2.now.Back, vI r_13.2.2.2.2.now.Try, .bool r_13.2.2.2.2.now.Ok, vU r_13.2.2.2.2.now.Now, .string (bs r_13.2.2.2.2.data), vI r_13.2.2.2.2.to_]⟩, ⟨41, b_11, [vI r_6.1.Kind, vI r_6.1.From, vI r_6.1.To, vU r_6.1.Term, vU r_6.1.Index, vU r_6.1.Prev, vU r_6.1.Commit, .bool r_6.1.Ok, .slice A_7 r_6.1.Entries.length c_8, .string (bs r_6.1.Data)]⟩]) (B' := [Rd 0 kT_api_Step A_14 c_15 r_13.1.Command.Steps, Rd 0 kT_api_Entry A_16 c_17 r_13.2.2.1.Entries, Rd 0 kT_api_Step A_18 c_19 r_13.2.2.2.2.now.Steps, Rd 0 kT_api_Entry none 0 ([] : List T_api_Entry), Rd 0 kT_api_Entry A_7 c_8 r_6.1.Entries, Rd 0 kT_api_Step A_9 c_10 r_6.2.2.now.Steps, Rd 0 kT_api_Step none 0 ([] : List T_api_Step), Rd 0 kT_api_Step A_3 c_4 o_5.now.Steps]) (ks := [1, 2, 3, 4, 23, 26, 27]) (by kernel_rfl) (by kernel_rfl) (by kernel_rfl) ?_
    refine GoO.exec (is := [5, 6, 7, 8, 9]) (hs := [.p, .p, .p, .p, .p]) (rest := [10, 11, 12, 13, 14, 15]) (ks := [1, 2, 3, 4, 28, 29, 30, 31]) (env' := [(1, vP c_2), (2, vI ((some o_5, r_1_q1) : Option T_client_Client × Int).2), (3, vP b_11), (4, vI r_6.2.1), (28, .agg ⟨[vI r_13.1.Client, vI r_13.1.Command.Kind, vU r_13.1.Command.Session, vU r_13.1.Command.Seq, vU r_13.1.Command.Saga, .slice A_14 r_13.1.Command.Steps.length c_15, vI r_13.1.Command.Step, .bool r_13.1.Command.Back, vI r_13.1.Command.Try, .bool r_13.1.Command.Ok, vU r_13.1.Command.Now, vI r_13.1.Reply.Err, vU r_13.1.Reply.Num, vU r_13.1.Reply.Extra]⟩), (29, .bool r_13.2.1), (30, .agg ⟨[vI r_13.2.2.1.Kind, vI r_13.2.2.1.From, vI r_13.2.2.1.To, vU r_13.2.2.1.Term, vU r_13.2.2.1.Index, vU r_13.2.2.1.Prev, vU r_13.2.2.1.Commit, .bool r_13.2.2.1.Ok, .slice A_16 r_13.2.2.1.Entries.length c_17, .string (bs r_13.2.2.1.Data)]⟩), (31, .bool r_13.2.2.2.1)]) (H' := [⟨40, c_2, [vI r_13.2.2.2.2.id, vU r_13.2.2.2.2.session, vU r_13.2.2.2.2.seq, vU r_13.2.2.2.2.call, .bool r_13.2.2.2.2.busy, vI r_13.2.2.2.2.now.Kind, vU r_13.2.2.2.2.now.Session, vU r_13.2.2.2.2.now.Seq, vU r_13.2.2.2.2.now.Saga, .slice A_18 r_13.2.2.2.2.now.Steps.length c_19, vI r_13.2.2.2.2.now.Step, .bool r_13.2.2.2.2.now.Back, vI r_13.2.2.2.2.now.Try, .bool r_13.2.2.2.2.now.Ok, vU r_13.2.2.2.2.now.Now, .string (bs r_13.2.2.2.2.data), vI r_13.2.2.2.2.to_]⟩, ⟨41, b_11, [vI r_6.1.Kind, vI r_6.1.From, vI r_6.1.To, vU r_6.1.Term, vU r_6.1.Index, vU r_6.1.Prev, vU r_6.1.Commit, .bool r_6.1.Ok, .slice A_7 r_6.1.Entries.length c_8, .string (bs r_6.1.Data)]⟩]) (ps := []) (by kernel_rfl) trivial ?_
    refine OpTo.go (GoO.new rfl 42 (cs := [vI 0, vI 0, vU 0, vU 0, vU 0, .slice none ([] : List T_api_Step).length 0, vI 0, .bool false, vI 0, .bool false, vU 0, vI 0, vU 0, vU 0]) (by kernel_rfl) _ (fun _ => rfl) (fun b_20 => ?_))
    refine OpTo.go (GoO.new rfl 43 (cs := [vI 0, vI 0, vI 0, vU 0, vU 0, vU 0, vU 0, .bool false, .slice none ([] : List T_api_Entry).length 0, .string (bs [])]) (by kernel_rfl) _ (fun _ => rfl) (fun b_21 => ?_))
    refine GoO.exec (is := [12, 13, 14, 15]) (hs := [.b 1, .p, .b 0, .p]) (rest := []) (ks := [1, 2, 3, 4, 5, 6, 8]) (env' := [(1, vP c_2), (2, vI ((some o_5, r_1_q1) : Option T_client_Client × Int).2), (3, vP b_11), (4, vI r_6.2.1), (5, vP b_20), (6, .bool r_13.2.1), (8, .bool r_13.2.2.2.1)]) (H' := [⟨43, b_21, [vI r_13.2.2.1.Kind, vI r_13.2.2.1.From, vI r_13.2.2.1.To, vU r_13.2.2.1.Term, vU r_13.2.2.1.Index, vU r_13.2.2.1.Prev, vU r_13.2.2.1.Commit, .bool r_13.2.2.1.Ok, .slice A_16 r_13.2.2.1.Entries.length c_17, .string (bs r_13.2.2.1.Data)]⟩, ⟨42, b_20, [vI r_13.1.Client, vI r_13.1.Command.Kind, vU r_13.1.Command.Session, vU r_13.1.Command.Seq, vU r_13.1.Command.Saga, .slice A_14 r_13.1.Command.Steps.length c_15, vI r_13.1.Command.Step, .bool r_13.1.Command.Back, vI r_13.1.Command.Try, .bool r_13.1.Command.Ok, vU r_13.1.Command.Now, vI r_13.1.Reply.Err, vU r_13.1.Reply.Num, vU r_13.1.Reply.Extra]⟩, ⟨40, c_2, [vI r_13.2.2.2.2.id, vU r_13.2.2.2.2.session, vU r_13.2.2.2.2.seq, vU r_13.2.2.2.2.call, .bool r_13.2.2.2.2.busy, vI r_13.2.2.2.2.now.Kind, vU r_13.2.2.2.2.now.Session, vU r_13.2.2.2.2.now.Seq, vU r_13.2.2.2.2.now.Saga, .slice A_18 r_13.2.2.2.2.now.Steps.length c_19, vI r_13.2.2.2.2.now.Step, .bool r_13.2.2.2.2.now.Back, vI r_13.2.2.2.2.now.Try, .bool r_13.2.2.2.2.now.Ok, vU r_13.2.2.2.2.now.Now, .string (bs r_13.2.2.2.2.data), vI r_13.2.2.2.2.to_]⟩, ⟨41, b_11, [vI r_6.1.Kind, vI r_6.1.From, vI r_6.1.To, vU r_6.1.Term, vU r_6.1.Index, vU r_6.1.Prev, vU r_6.1.Commit, .bool r_6.1.Ok, .slice A_7 r_6.1.Entries.length c_8, .string (bs r_6.1.Data)]⟩]) (ps := [b_20 = b_20, b_21 = b_21]) (by kernel_rfl) (And.intro rfl (And.intro rfl trivial)) ?_
    refine GoO.regionEnd ?_
    refine GoO.seq' c30_8e ?_
    refine GoO.region' (is := [0, 1, 2, 3, 4, 5, 6, 7, 8]) c30_9e (by kernel_rfl) ?_
    refine GoO.exec (is := [0]) (hs := [.p]) (rest := [1, 2, 3, 4, 5, 6, 7, 8]) (ks := [2, 3, 4, 5, 6, 8, 33]) (env' := [(2, vI ((some o_5, r_1_q1) : Option T_client_Client × Int).2), (3, vP b_11), (4, vI r_6.2.1), (5, vP b_20), (6, .bool r_13.2.1), (8, .bool r_13.2.2.2.1), (33, vP c_2)]) (H' := [⟨43, b_21, [vI r_13.2.2.1.Kind, vI r_13.2.2.1.From, vI r_13.2.2.1.To, vU r_13.2.2.1.Term, vU r_13.2.2.1.Index, vU r_13.2.2.1.Prev, vU r_13.2.2.1.Commit, .bool r_13.2.2.1.Ok, .slice A_16 r_13.2.2.1.Entries.length c_17, .string (bs r_13.2.2.1.Data)]⟩, ⟨42, b_20, [vI r_13.1.Client, vI r_13.1.Command.Kind, vU r_13.1.Command.Session, vU r_13.1.Command.Seq, vU r_13.1.Command.Saga, .slice A_14 r_13.1.Command.Steps.length c_15, vI r_13.1.Command.Step, .bool r_13.1.Command.Back, vI r_13.1.Command.Try, .bool r_13.1.Command.Ok, vU r_13.1.Command.Now, vI r_13.1.Reply.Err, vU r_13.1.Reply.Num, vU r_13.1.Reply.Extra]⟩, ⟨40, c_2, [vI r_13.2.2.2.2.id, vU r_13.2.2.2.2.session, vU r_13.2.2.2.2.seq, vU r_13.2.2.2.2.call, .bool r_13.2.2.2.2.busy, vI r_13.2.2.2.2.now.Kind, vU r_13.2.2.2.2.now.Session, vU r_13.2.2.2.2.now.Seq, vU r_13.2.2.2.2.now.Saga, .slice A_18 r_13.2.2.2.2.now.Steps.length c_19, vI r_13.2.2.2.2.now.Step, .bool r_13.2.2.2.2.now.Back, vI r_13.2.2.2.2.now.Try, .bool r_13.2.2.2.2.now.Ok, vU r_13.2.2.2.2.now.Now, .string (bs r_13.2.2.2.2.data), vI r_13.2.2.2.2.to_]⟩, ⟨41, b_11, [vI r_6.1.Kind, vI r_6.1.From, vI r_6.1.To, vU r_6.1.Term, vU r_6.1.Index, vU r_6.1.Prev, vU r_6.1.Commit, .bool r_6.1.Ok, .slice A_7 r_6.1.Entries.length c_8, .string (bs r_6.1.Data)]⟩]) (ps := []) (by kernel_rfl) trivial ?_
    refine OpTo.go (GoO.call rfl (by kernel_rfl) (by kernel_rfl) (client_Client_Status_ok n (⟨r_13.2.2.2.2.id, r_13.2.2.2.2.session, r_13.2.2.2.2.seq, r_13.2.2.2.2.call, r_13.2.2.2.2.busy, (⟨r_13.2.2.2.2.now.Kind, r_13.2.2.2.2.now.Session, r_13.2.2.2.2.now.Seq, r_13.2.2.2.2.now.Saga, r_13.2.2.2.2.now.Steps, r_13.2.2.2.2.now.Step, r_13.2.2.2.2.now.Back, r_13.2.2.2.2.now.Try, r_13.2.2.2.2.now.Ok, r_13.2.2.2.2.now.Now⟩ : T_api_Command), r_13.2.2.2.2.data, r_13.2.2.2.2.to_⟩ : T_client_Client) c_2 A_18 c_19) [[0], [40]] [] [(1, 2)] [(0, 2)] (hks := [0, 1, 2, 3]) (bks := [0, 1, 2, 3, 4, 5, 6, 7]) (by kernel_rfl) (by kernel_rfl) (by kernel_rfl) (.inl rfl) rfl rfl (by kernel_rfl) (by kernel_rfl) _ (fun _ _ => rfl) _ _ (fun _ _ => rfl) (fun _ _ => rfl) (fun _ _ => by kernel_rfl) (fun _ _ => by kernel_rfl) (fun r_22 x_37 => ?_))
    refine GoO.shape (env' := [(2, vI ((some o_5, r_1_q1) : Option T_client_Client × Int).2), (3, vP b_11), (4, vI r_6.2.1), (5, vP b_20), (6, .bool r_13.2.1), (8, .bool r_13.2.2.2.1), (33, vP c_2), (34, .tuple ⟨[vU r_22.1, vU r_22.2.1, .bool r_22.2.2]⟩)]) (H' := [⟨43, b_21, [vI r_13.2.2.1.Kind, vI r_13.2.2.1.From, vI r_13.2.2.1.To, vU r_13.2.2.1.Term, vU r_13.2.2.1.Index, vU r_13.2.2.1.Prev, vU r_13.2.2.1.Commit, .bool r_13.2.2.1.Ok, .slice A_16 r_13.2.2.1.Entries.length c_17, .string (bs r_13.2.2.1.Data)]⟩, ⟨42, b_20, [vI r_13.1.Client, vI r_13.1.Command.Kind, vU r_13.1.Command.Session, vU r_13.1.Command.Seq, vU r_13.1.Command.Saga, .slice A_14 r_13.1.Command.Steps.length c_15, vI r_13.1.Command.Step, .bool r_13.1.Command.Back, vI r_13.1.Command.Try, .bool r_13.1.Command.Ok, vU r_13.1.Command.Now, vI r_13.1.Reply.Err, vU r_13.1.Reply.Num, vU r_13.1.Reply.Extra]⟩, ⟨40, c_2, [vI r_13.2.2.2.2.id, vU r_13.2.2.2.2.session, vU r_13.2.2.2.2.seq, vU r_13.2.2.2.2.call, .bool r_13.2.2.2.2.busy, vI r_13.2.2.2.2.now.Kind, vU r_13.2.2.2.2.now.Session, vU r_13.2.2.2.2.now.Seq, vU r_13.2.2.2.2.now.Saga, .slice A_18 r_13.2.2.2.2.now.Steps.length c_19, vI r_13.2.2.2.2.now.Step, .bool r_13.2.2.2.2.now.Back, vI r_13.2.2.2.2.now.Try, .bool r_13.2.2.2.2.now.Ok, vU r_13.2.2.2.2.now.Now, .string (bs r_13.2.2.2.2.data), vI r_13.2.2.2.2.to_]⟩, ⟨41, b_11, [vI r_6.1.Kind, vI r_6.1.From, vI r_6.1.To, vU r_6.1.Term, vU r_6.1.Index, vU r_6.1.Prev, vU r_6.1.Commit, .bool r_6.1.Ok, .slice A_7 r_6.1.Entries.length c_8, .string (bs r_6.1.Data)]⟩]) (B' := [Rd 0 kT_api_Step A_14 c_15 r_13.1.Command.Steps, Rd 0 kT_api_Entry A_16 c_17 r_13.2.2.1.Entries, Rd 0 kT_api_Step A_18 c_19 r_13.2.2.2.2.now.Steps, Rd 0 kT_api_Entry none 0 ([] : List T_api_Entry), Rd 0 kT_api_Entry A_7 c_8 r_6.1.Entries, Rd 0 kT_api_Step A_9 c_10 r_6.2.2.now.Steps, Rd 0 kT_api_Step none 0 ([] : List T_api_Step), Rd 0 kT_api_Step A_3 c_4 o_5.now.Steps]) (ks := [2, 3, 4, 5, 6, 8, 33, 34]) (by kernel_rfl) (by kernel_rfl) (by kernel_rfl) ?_
    refine GoO.exec (is := [2, 3, 4, 5, 6, 7, 8]) (hs := [.p, .p, .p, .p, .p, .p, .p]) (rest := []) (ks := [2, 3, 4, 5, 6, 8, 9, 10, 11]) (env' := [(2, vI ((some o_5, r_1_q1) : Option T_client_Client × Int).2), (3, vP b_11), (4, vI r_6.2.1), (5, vP b_20), (6, .bool r_13.2.1), (8, .bool r_13.2.2.2.1), (9, vU r_22.1), (10, vU r_22.2.1), (11, .bool r_22.2.2)]) (H' := [⟨43, b_21, [vI r_13.2.2.1.Kind, vI r_13.2.2.1.From, vI r_13.2.2.1.To, vU r_13.2.2.1.Term, vU r_13.2.2.1.Index, vU r_13.2.2.1.Prev, vU r_13.2.2.1.Commit, .bool r_13.2.2.1.Ok, .slice A_16 r_13.2.2.1.Entries.length c_17, .string (bs r_13.2.2.1.Data)]⟩, ⟨42, b_20, [vI r_13.1.Client, vI r_13.1.Command.Kind, vU r_13.1.Command.Session, vU r_13.1.Command.Seq, vU r_13.1.Command.Saga, .slice A_14 r_13.1.Command.Steps.length c_15, vI r_13.1.Command.Step, .bool r_13.1.Command.Back, vI r_13.1.Command.Try, .bool r_13.1.Command.Ok, vU r_13.1.Command.Now, vI r_13.1.Reply.Err, vU r_13.1.Reply.Num, vU r_13.1.Reply.Extra]⟩, ⟨40, c_2, [vI r_13.2.2.2.2.id, vU r_13.2.2.2.2.session, vU r_13.2.2.2.2.seq, vU r_13.2.2.2.2.call, .bool r_13.2.2.2.2.busy, vI r_13.2.2.2.2.now.Kind, vU r_13.2.2.2.2.now.Session, vU r_13.2.2.2.2.now.Seq, vU r_13.2.2.2.2.now.Saga, .slice A_18 r_13.2.2.2.2.now.Steps.length c_19, vI r_13.2.2.2.2.now.Step, .bool r_13.2.2.2.2.now.Back, vI r_13.2.2.2.2.now.Try, .bool r_13.2.2.2.2.now.Ok, vU r_13.2.2.2.2.now.Now, .string (bs r_13.2.2.2.2.data), vI r_13.2.2.2.2.to_]⟩, ⟨41, b_11, [vI r_6.1.Kind, vI r_6.1.From, vI r_6.1.To, vU r_6.1.Term, vU r_6.1.Index, vU r_6.1.Prev, vU r_6.1.Commit, .bool r_6.1.Ok, .slice A_7 r_6.1.Entries.length c_8, .string (bs r_6.1.Data)]⟩]) (ps := []) (by kernel_rfl) trivial ?_
    refine GoO.regionEnd ?_
    refine GoO.seq' c30_10e ?_
    refine GoO.region' (is := [0, 1, 2, 3, 4, 5, 6, 7, 8, 9, 10, 11, 12, 13, 14, 15, 16, 17, 18, 19, 20, 21, 22, 23, 24, 25, 26, 27, 28, 29, 30, 31, 32, 33, 34, 35, 36, 37, 38, 39, 40, 41]) c30_11e (by kernel_rfl) ?_
    refine GoO.exec (is := [0, 1, 2]) (hs := [.p, .p, .p]) (rest := [3, 4, 5, 6, 7, 8, 9, 10, 11, 12, 13, 14, 15, 16, 17, 18, 19, 20, 21, 22, 23, 24, 25, 26, 27, 28, 29, 30, 31, 32, 33, 34, 35, 36, 37, 38, 39, 40, 41]) (ks := [3, 4, 5, 6, 8, 9, 10, 11, 40]) (env' := [(3, vP b_11), (4, vI r_6.2.1), (5, vP b_20), (6, .bool r_13.2.1), (8, .bool r_13.2.2.2.1), (9, vU r_22.1), (10, vU r_22.2.1), (11, .bool r_22.2.2), (40, .bool (((some o_5, r_1_q1) : Option T_client_Client × Int).2 == 0))]) (H' := [⟨43, b_21, [vI r_13.2.2.1.Kind, vI r_13.2.2.1.From, vI r_13.2.2.1.To, vU r_13.2.2.1.Term, vU r_13.2.2.1.Index, vU r_13.2.2.1.Prev, vU r_13.2.2.1.Commit, .bool r_13.2.2.1.Ok, .slice A_16 r_13.2.2.1.Entries.length c_17, .string (bs r_13.2.2.1.Data)]⟩, ⟨42, b_20, [vI r_13.1.Client, vI r_13.1.Command.Kind, vU r_13.1.Command.Session, vU r_13.1.Command.Seq, vU r_13.1.Command.Saga, .slice A_14 r_13.1.Command.Steps.length c_15, vI r_13.1.Command.Step, .bool r_13.1.Command.Back, vI r_13.1.Command.Try, .bool r_13.1.Command.Ok, vU r_13.1.Command.Now, vI r_13.1.Reply.Err, vU r_13.1.Reply.Num, vU r_13.1.Reply.Extra]⟩, ⟨40, c_2, [vI r_13.2.2.2.2.id, vU r_13.2.2.2.2.session, vU r_13.2.2.2.2.seq, vU r_13.2.2.2.2.call, .bool r_13.2.2.2.2.busy, vI r_13.2.2.2.2.now.Kind, vU r_13.2.2.2.2.now.Session, vU r_13.2.2.2.2.now.Seq, vU r_13.2.2.2.2.now.Saga, .slice A_18 r_13.2.2.2.2.now.Steps.length c_19, vI r_13.2.2.2.2.now.Step, .bool r_13.2.2.2.2.now.Back, vI r_13.2.2.2.2.now.Try, .bool r_13.2.2.2.2.now.Ok, vU r_13.2.2.2.2.now.Now, .string (bs r_13.2.2.2.2.data), vI r_13.2.2.2.2.to_]⟩, ⟨41, b_11, [vI r_6.1.Kind, vI r_6.1.From, vI r_6.1.To, vU r_6.1.Term, vU r_6.1.Index, vU r_6.1.Prev, vU r_6.1.Commit, .bool r_6.1.Ok, .slice A_7 r_6.1.Entries.length c_8, .string (bs r_6.1.Data)]⟩]) (ps := []) (by kernel_rfl) trivial ?_
    refine GoO.bsplit (t := 40) (by kernel_rfl) (fun h23 => ?_) (fun h23 => ?_)
    · refine GoO.exec (is := [3, 4, 5]) (hs := [.p, .p, .p]) (rest := [6, 7, 8, 9, 10, 11, 12, 13, 14, 15, 16, 17, 18, 19, 20, 21, 22, 23, 24, 25, 26, 27, 28, 29, 30, 31, 32, 33, 34, 35, 36, 37, 38, 39, 40, 41]) (ks := [3, 5, 6, 8, 9, 10, 11, 43]) (env' := [(3, vP b_11), (5, vP b_20), (6, .bool r_13.2.1), (8, .bool r_13.2.2.2.1), (9, vU r_22.1), (10, vU r_22.2.1), (11, .bool r_22.2.2), (43, .bool (r_6.2.1 == 0))]) (H' := [⟨43, b_21, [vI r_13.2.2.1.Kind, vI r_13.2.2.1.From, vI r_13.2.2.1.To, vU r_13.2.2.1.Term, vU r_13.2.2.1.Index, vU r_13.2.2.1.Prev, vU r_13.2.2.1.Commit, .bool r_13.2.2.1.Ok, .slice A_16 r_13.2.2.1.Entries.length c_17, .string (bs r_13.2.2.1.Data)]⟩, ⟨42, b_20, [vI r_13.1.Client, vI r_13.1.Command.Kind, vU r_13.1.Command.Session, vU r_13.1.Command.Seq, vU r_13.1.Command.Saga, .slice A_14 r_13.1.Command.Steps.length c_15, vI r_13.1.Command.Step, .bool r_13.1.Command.Back, vI r_13.1.Command.Try, .bool r_13.1.Command.Ok, vU r_13.1.Command.Now, vI r_13.1.Reply.Err, vU r_13.1.Reply.Num, vU r_13.1.Reply.Extra]⟩, ⟨40, c_2, [vI r_13.2.2.2.2.id, vU r_13.2.2.2.2.session, vU r_13.2.2.2.2.seq, vU r_13.2.2.2.2.call, .bool r_13.2.2.2.2.busy, vI r_13.2.2.2.2.now.Kind, vU r_13.2.2.2.2.now.Session, vU r_13.2.2.2.2.now.Seq, vU r_13.2.2.2.2.now.Saga, .slice A_18 r_13.2.2.2.2.now.Steps.length c_19, vI r_13.2.2.2.2.now.Step, .bool r_13.2.2.2.2.now.Back, vI r_13.2.2.2.2.now.Try, .bool r_13.2.2.2.2.now.Ok, vU r_13.2.2.2.2.now.Now, .string (bs r_13.2.2.2.2.data), vI r_13.2.2.2.2.to_]⟩, ⟨41, b_11, [vI r_6.1.Kind, vI r_6.1.From, vI r_6.1.To, vU r_6.1.Term, vU r_6.1.Index, vU r_6.1.Prev, vU r_6.1.Commit, .bool r_6.1.Ok, .slice A_7 r_6.1.Entries.length c_8, .string (bs r_6.1.Data)]⟩]) (ps := []) (by kernel_rfl) trivial ?_
      exact GoO.sub (ks := [3, 5, 6, 8, 9, 10, 11, 43]) (hk := [3, 1]) (bk := [4, 0]) (by kernel_rfl) (by kernel_rfl) (by kernel_rfl) (tontinelaw21_begun_j0_ok n r_6 r_13 r_22 A_7 c_8 b_11 A_14 c_15 b_20 w0 S0 (r_6.2.1 == 0))
    · refine GoO.exec (is := [3, 4, 5]) (hs := [.p, .p, .p]) (rest := [6, 7, 8, 9, 10, 11, 12, 13, 14, 15, 16, 17, 18, 19, 20, 21, 22, 23, 24, 25, 26, 27, 28, 29, 30, 31, 32, 33, 34, 35, 36, 37, 38, 39, 40, 41]) (ks := [3, 5, 6, 8, 9, 10, 11, 43]) (env' := [(3, vP b_11), (5, vP b_20), (6, .bool r_13.2.1), (8, .bool r_13.2.2.2.1), (9, vU r_22.1), (10, vU r_22.2.1), (11, .bool r_22.2.2), (43, .bool false)]) (H' := [⟨43, b_21, [vI r_13.2.2.1.Kind, vI r_13.2.2.1.From, vI r_13.2.2.1.To, vU r_13.2.2.1.Term, vU r_13.2.2.1.Index, vU r_13.2.2.1.Prev, vU r_13.2.2.1.Commit, .bool r_13.2.2.1.Ok, .slice A_16 r_13.2.2.1.Entries.length c_17, .string (bs r_13.2.2.1.Data)]⟩, ⟨42, b_20, [vI r_13.1.Client, vI r_13.1.Command.Kind, vU r_13.1.Command.Session, vU r_13.1.Command.Seq, vU r_13.1.Command.Saga, .slice A_14 r_13.1.Command.Steps.length c_15, vI r_13.1.Command.Step, .bool r_13.1.Command.Back, vI r_13.1.Command.Try, .bool r_13.1.Command.Ok, vU r_13.1.Command.Now, vI r_13.1.Reply.Err, vU r_13.1.Reply.Num, vU r_13.1.Reply.Extra]⟩, ⟨40, c_2, [vI r_13.2.2.2.2.id, vU r_13.2.2.2.2.session, vU r_13.2.2.2.2.seq, vU r_13.2.2.2.2.call, .bool r_13.2.2.2.2.busy, vI r_13.2.2.2.2.now.Kind, vU r_13.2.2.2.2.now.Session, vU r_13.2.2.2.2.now.Seq, vU r_13.2.2.2.2.now.Saga, .slice A_18 r_13.2.2.2.2.now.Steps.length c_19, vI r_13.2.2.2.2.now.Step, .bool r_13.2.2.2.2.now.Back, vI r_13.2.2.2.2.now.Try, .bool r_13.2.2.2.2.now.Ok, vU r_13.2.2.2.2.now.Now, .string (bs r_13.2.2.2.2.data), vI r_13.2.2.2.2.to_]⟩, ⟨41, b_11, [vI r_6.1.Kind, vI r_6.1.From, vI r_6.1.To, vU r_6.1.Term, vU r_6.1.Index, vU r_6.1.Prev, vU r_6.1.Commit, .bool r_6.1.Ok, .slice A_7 r_6.1.Entries.length c_8, .string (bs r_6.1.Data)]⟩]) (ps := []) (by kernel_rfl) trivial ?_
      exact GoO.sub (ks := [3, 5, 6, 8, 9, 10, 11, 43]) (hk := [3, 1]) (bk := [4, 0]) (by kernel_rfl) (by kernel_rfl) (by kernel_rfl) (tontinelaw21_begun_j0_ok n r_6 r_13 r_22 A_7 c_8 b_11 A_14 c_15 b_20 w0 S0 false)
/-! tontine/tontinelaw21.light -/
noncomputable def c44_0 : Code := bodyOf Try.f44
noncomputable def c44_1 : Code := cdL c44_0
noncomputable def c44_2 : Code := cdR c44_0
noncomputable def c44_3 : Code := cdL c44_2
noncomputable def c44_4 : Code := cdR c44_2
noncomputable def c44_5 : Code := cdL c44_4
noncomputable def c44_6 : Code := cdL c44_5
noncomputable def c44_7 : Code := cdR c44_5
noncomputable def c44_8 : Code := cdL c44_7
noncomputable def c44_9 : Code := cdL c44_8
noncomputable def c44_10 : Code := cdL c44_9
noncomputable def c44_11 : Code := cdR c44_9
noncomputable def c44_12 : Code := cdL c44_11
noncomputable def c44_13 : Code := cdL c44_12
noncomputable def c44_14 : Code := cdR c44_12
noncomputable def c44_15 : Code := cdR c44_11
noncomputable def c44_16 : Code := cdL c44_15
noncomputable def c44_17 : Code := cdL c44_16
noncomputable def c44_18 : Code := cdL c44_17
noncomputable def c44_19 : Code := cdR c44_17
noncomputable def c44_20 : Code := cdR c44_15
noncomputable def c44_21 : Code := cdR c44_4
noncomputable def c44_22 : Code := cdL c44_21
noncomputable def c44_23 : Code := cdR c44_21
noncomputable def r44_1 : Array Oper := cdO c44_1
noncomputable def r44_3 : Array Oper := cdO c44_3
noncomputable def r44_6 : Array Oper := cdO c44_6
noncomputable def r44_10 : Array Oper := cdO c44_10
noncomputable def r44_18 : Array Oper := cdO c44_18
noncomputable def r44_19 : Array Oper := cdO c44_19
noncomputable def r44_20 : Array Oper := cdO c44_20
noncomputable def r44_22 : Array Oper := cdO c44_22
theorem c44_0e : c44_0 = .seq c44_1 c44_2 := by kernel_rfl
theorem c44_1e : c44_1 = .region 0 r44_1 false := by kernel_rfl
theorem c44_2e : c44_2 = .seq c44_3 c44_4 := by kernel_rfl
theorem c44_3e : c44_3 = .region 1 r44_3 false := by kernel_rfl
theorem c44_4e : c44_4 = .seq c44_5 c44_21 := by kernel_rfl
theorem c44_5e : c44_5 = .seq c44_6 c44_7 := by kernel_rfl
theorem c44_6e : c44_6 = .region 2 r44_6 false := by kernel_rfl
theorem c44_7e : c44_7 = .block 0 c44_8 := by kernel_rfl
theorem c44_8e : c44_8 = .loop c44_9 := by kernel_rfl
theorem c44_9e : c44_9 = .seq c44_10 c44_11 := by kernel_rfl
theorem c44_10e : c44_10 = .region 3 r44_10 false := by kernel_rfl
theorem c44_11e : c44_11 = .seq c44_12 c44_15 := by kernel_rfl
theorem c44_12e : c44_12 = .cond (cdC c44_12) c44_13 c44_14 := by kernel_rfl
theorem c44_13e : c44_13 = .skip := by kernel_rfl
theorem c44_14e : c44_14 = .exit 0 := by kernel_rfl
theorem c44_15e : c44_15 = .seq c44_16 c44_20 := by kernel_rfl
theorem c44_16e : c44_16 = .block 1 c44_17 := by kernel_rfl
theorem c44_17e : c44_17 = .seq c44_18 c44_19 := by kernel_rfl
theorem c44_18e : c44_18 = .region 4 r44_18 false := by kernel_rfl
theorem c44_19e : c44_19 = .region 5 r44_19 false := by kernel_rfl
theorem c44_20e : c44_20 = .region 6 r44_20 false := by kernel_rfl
theorem c44_21e : c44_21 = .seq c44_22 c44_23 := by kernel_rfl
theorem c44_22e : c44_22 = .region 7 r44_22 false := by kernel_rfl
theorem c44_23e : c44_23 = .ret := by kernel_rfl
noncomputable def tontinelaw21_light.R (A_2 : Option Addr) (c_3 : Nat) : Pst Bool where
  ε := Unit
  v := fun r x => .bool r
  H := fun r x => []
  B := fun r x => []
noncomputable def tontinelaw21_light.cx (A_2 : Option Addr) (c_3 : Nat) (w0 : World) (S0 : Fam) : Cx Bool := ⟨Try.prog, 44, Try.f44, 29, w0, S0, [], 0, tontinelaw21_light.R A_2 c_3⟩
theorem tontinelaw21_light_l0_ok (n : Nat) (calls_1 : (List T_tontinelaw21_Call)) (A_2 : Option Addr) (c_3 : Nat) (w0 : World) (S0 : Fam) :
    ∀ (k : Nat) (n_4 : Int) (x_5 : Int), GoO (tontinelaw21_light.cx A_2 c_3 w0 S0) [(3, vI n_4), (8, .slice A_2 calls_1.length c_3), (9, vI (calls_1.length : Int)), (10, vI x_5)] [] [Rd 0 kT_tontinelaw21_Call A_2 c_3 calls_1] [.code c44_9, .inLoop c44_9, .inBlock 0, .code c44_21] (tontinelaw21_light.l0 n calls_1 k n_4 x_5) := by
  intro k
  induction k with
  | zero => intros; rw [tontinelaw21_light.l0.eq_1]; exact GoO.stop
  | succ k ih0 =>
    intro n_4 x_5
    rw [tontinelaw21_light.l0.eq_2]
    refine GoO.seq' c44_9e ?_
    refine GoO.region' (is := [0]) c44_10e (by kernel_rfl) ?_
    refine GoO.exec (is := [0]) (hs := [.p]) (rest := []) (ks := [3, 8, 9, 10, 11]) (env' := [(3, vI n_4), (8, .slice A_2 calls_1.length c_3), (9, vI (calls_1.length : Int)), (10, vI x_5), (11, .bool (decide (x_5 < (calls_1.length : Int))))]) (H' := []) (ps := []) (by kernel_rfl) trivial ?_
    refine GoO.regionEnd ?_
    refine GoO.seq' c44_11e ?_
    refine GoO.ite' c44_12e (by kernel_rfl) (fun h6 => ?_) (fun h6 => ?_)
    · refine GoO.skip' c44_13e ?_
      refine GoO.seq' c44_15e ?_
      refine GoO.block' c44_16e ?_
      refine GoO.seq' c44_17e ?_
      refine GoO.region' (is := [0, 1, 2, 3]) c44_18e (by kernel_rfl) ?_
      refine GoO.guard (fun h7 => ?_)
      refine OpTo.go (GoO.idx (kk := .i64) (e := 99) (K := kT_tontinelaw21_Call) (A := A_2) (c := c_3) (xs := calls_1) (iv := x_5) (j := 0) rfl (by kernel_rfl) (by kernel_rfl) (by kernel_rfl) (by kernel_rfl) rfl Reads.rd rfl h7.1 h7.2 (by decide) rfl ?_)
      refine OpTo.go (GoO.ldE' (K := kT_tontinelaw21_Call) (A := A_2) (c := c_3) (xs := calls_1) (iN := x_5.toNat) (off := 0) (j := 0) rfl (by kernel_rfl) rfl Reads.rd (by first | exact idx_lt h7.1 h7.2 | (simp only [List.length_set]; exact idx_lt h7.1 h7.2)) (by decide) (oT_tontinelaw21_Call _) (v := fun e => .agg ⟨[vI ((rdL calls_1 x_5).Kind), vI ((rdL calls_1 x_5).Command.Kind), vU ((rdL calls_1 x_5).Command.Session), vU ((rdL calls_1 x_5).Command.Seq), vU ((rdL calls_1 x_5).Command.Saga), .slice e.1 ((rdL calls_1 x_5).Command.Steps).length e.2.1, vI ((rdL calls_1 x_5).Command.Step), .bool ((rdL calls_1 x_5).Command.Back), vI ((rdL calls_1 x_5).Command.Try), .bool ((rdL calls_1 x_5).Command.Ok), vU ((rdL calls_1 x_5).Command.Now), vI ((rdL calls_1 x_5).Letter.Kind), vI ((rdL calls_1 x_5).Letter.From), vI ((rdL calls_1 x_5).Letter.To), vU ((rdL calls_1 x_5).Letter.Term), vU ((rdL calls_1 x_5).Letter.Index), vU ((rdL calls_1 x_5).Letter.Prev), vU ((rdL calls_1 x_5).Letter.Commit), .bool ((rdL calls_1 x_5).Letter.Ok), .slice e.2.2.1 ((rdL calls_1 x_5).Letter.Entries).length e.2.2.2, .string (bs ((rdL calls_1 x_5).Letter.Data))]⟩) (fun _ => by kernel_rfl) _ (fun _ => rfl) ?_)
      rintro ⟨A_8, c_9, A_10, c_11⟩
      refine OpTo.go (GoO.new rfl 40 (cs := [vI 0, vI 0, vU 0, vU 0, vU 0, .slice none ([] : List T_api_Step).length 0, vI 0, .bool false, vI 0, .bool false, vU 0, vI 0, vI 0, vI 0, vU 0, vU 0, vU 0, vU 0, .bool false, .slice none ([] : List T_api_Entry).length 0, .string (bs [])]) (by kernel_rfl) _ (fun _ => rfl) (fun b_12 => ?_))
      refine GoO.exec (is := [3]) (hs := [.b 0]) (rest := []) (ks := [3, 5, 8, 9, 10]) (env' := [(3, vI n_4), (5, vP b_12), (8, .slice A_2 calls_1.length c_3), (9, vI (calls_1.length : Int)), (10, vI x_5)]) (H' := [⟨40, b_12, [vI ((rdL calls_1 x_5).Kind), vI ((rdL calls_1 x_5).Command.Kind), vU ((rdL calls_1 x_5).Command.Session), vU ((rdL calls_1 x_5).Command.Seq), vU ((rdL calls_1 x_5).Command.Saga), .slice A_8 ((rdL calls_1 x_5).Command.Steps).length c_9, vI ((rdL calls_1 x_5).Command.Step), .bool ((rdL calls_1 x_5).Command.Back), vI ((rdL calls_1 x_5).Command.Try), .bool ((rdL calls_1 x_5).Command.Ok), vU ((rdL calls_1 x_5).Command.Now), vI ((rdL calls_1 x_5).Letter.Kind), vI ((rdL calls_1 x_5).Letter.From), vI ((rdL calls_1 x_5).Letter.To), vU ((rdL calls_1 x_5).Letter.Term), vU ((rdL calls_1 x_5).Letter.Index), vU ((rdL calls_1 x_5).Letter.Prev), vU ((rdL calls_1 x_5).Letter.Commit), .bool ((rdL calls_1 x_5).Letter.Ok), .slice A_10 ((rdL calls_1 x_5).Letter.Entries).length c_11, .string (bs ((rdL calls_1 x_5).Letter.Data))]⟩]) (ps := [b_12 = b_12]) (by kernel_rfl) (And.intro rfl trivial) ?_
      refine GoO.regionEnd ?_
      refine GoO.region' (is := [0, 1, 2, 3, 4, 5, 6, 7, 8, 9, 10, 11, 12]) c44_19e (by kernel_rfl) ?_
      refine GoO.exec (is := [0, 1, 2, 3, 4, 5, 6, 7, 8, 9, 10, 11, 12]) (hs := [.p, .p, .p, .b 0, .p, .p, .p, .b 0, .p, .p, .p, .p, .p]) (rest := []) (ks := [3, 8, 9, 10]) (env' := [(3, vI (wi64 (n_4 + (wi64 ((((rdL calls_1 x_5).Command.Steps).length : Int) + (wi64 ((((rdL calls_1 x_5).Letter.Data).length : Int).tdiv 50))))))), (8, .slice A_2 calls_1.length c_3), (9, vI (calls_1.length : Int)), (10, vI x_5)]) (H' := [⟨40, b_12, [vI ((rdL calls_1 x_5).Kind), vI ((rdL calls_1 x_5).Command.Kind), vU ((rdL calls_1 x_5).Command.Session), vU ((rdL calls_1 x_5).Command.Seq), vU ((rdL calls_1 x_5).Command.Saga), .slice A_8 ((rdL calls_1 x_5).Command.Steps).length c_9, vI ((rdL calls_1 x_5).Command.Step), .bool ((rdL calls_1 x_5).Command.Back), vI ((rdL calls_1 x_5).Command.Try), .bool ((rdL calls_1 x_5).Command.Ok), vU ((rdL calls_1 x_5).Command.Now), vI ((rdL calls_1 x_5).Letter.Kind), vI ((rdL calls_1 x_5).Letter.From), vI ((rdL calls_1 x_5).Letter.To), vU ((rdL calls_1 x_5).Letter.Term), vU ((rdL calls_1 x_5).Letter.Index), vU ((rdL calls_1 x_5).Letter.Prev), vU ((rdL calls_1 x_5).Letter.Commit), .bool ((rdL calls_1 x_5).Letter.Ok), .slice A_10 ((rdL calls_1 x_5).Letter.Entries).length c_11, .string (bs ((rdL calls_1 x_5).Letter.Data))]⟩]) (ps := [b_12 = b_12, b_12 = b_12, (50 : Int) ≠ 0]) (by kernel_rfl) (And.intro rfl (And.intro rfl (And.intro (by decide) trivial))) ?_
      refine GoO.regionEnd ?_
      refine GoO.inBlock ?_
      refine GoO.region' (is := [0, 1]) c44_20e (by kernel_rfl) ?_
      refine GoO.exec (is := [0, 1]) (hs := [.p, .p]) (rest := []) (ks := [3, 8, 9, 10]) (env' := [(3, vI (wi64 (n_4 + (wi64 ((((rdL calls_1 x_5).Command.Steps).length : Int) + (wi64 ((((rdL calls_1 x_5).Letter.Data).length : Int).tdiv 50))))))), (8, .slice A_2 calls_1.length c_3), (9, vI (calls_1.length : Int)), (10, vI (wi64 (x_5 + 1)))]) (H' := [⟨40, b_12, [vI ((rdL calls_1 x_5).Kind), vI ((rdL calls_1 x_5).Command.Kind), vU ((rdL calls_1 x_5).Command.Session), vU ((rdL calls_1 x_5).Command.Seq), vU ((rdL calls_1 x_5).Command.Saga), .slice A_8 ((rdL calls_1 x_5).Command.Steps).length c_9, vI ((rdL calls_1 x_5).Command.Step), .bool ((rdL calls_1 x_5).Command.Back), vI ((rdL calls_1 x_5).Command.Try), .bool ((rdL calls_1 x_5).Command.Ok), vU ((rdL calls_1 x_5).Command.Now), vI ((rdL calls_1 x_5).Letter.Kind), vI ((rdL calls_1 x_5).Letter.From), vI ((rdL calls_1 x_5).Letter.To), vU ((rdL calls_1 x_5).Letter.Term), vU ((rdL calls_1 x_5).Letter.Index), vU ((rdL calls_1 x_5).Letter.Prev), vU ((rdL calls_1 x_5).Letter.Commit), .bool ((rdL calls_1 x_5).Letter.Ok), .slice A_10 ((rdL calls_1 x_5).Letter.Entries).length c_11, .string (bs ((rdL calls_1 x_5).Letter.Data))]⟩]) (ps := []) (by kernel_rfl) trivial ?_
      refine GoO.regionEnd ?_
      refine GoO.inLoop ?_
      exact GoO.sub (ks := [3, 8, 9, 10]) (hk := []) (bk := [2]) (by kernel_rfl) (by kernel_rfl) (by kernel_rfl) (ih0 (wi64 (n_4 + (wi64 ((((rdL calls_1 x_5).Command.Steps).length : Int) + (wi64 ((((rdL calls_1 x_5).Letter.Data).length : Int).tdiv 50)))))) (wi64 (x_5 + 1)))
    · refine GoO.exit' c44_14e rfl ?_
      refine GoO.seq' c44_21e ?_
      refine GoO.region' (is := [0, 1, 2]) c44_22e (by kernel_rfl) ?_
      refine GoO.exec (is := [0, 1, 2]) (hs := [.p, .p, .p]) (rest := []) (ks := [2]) (env' := [(2, .bool (decide (n_4 ≤ 2000)))]) (H' := []) (ps := []) (by kernel_rfl) trivial ?_
      refine GoO.regionEnd ?_
      exact GoO.ret' (h := c44_23e) (hs := []) (ps := []) (hk := []) (bk := []) Try.func44 () (by kernel_rfl) trivial (by kernel_rfl) (by kernel_rfl)
theorem tontinelaw21_light_ok (n : Nat) (calls_1 : (List T_tontinelaw21_Call)) (A_2 : Option Addr) (c_3 : Nat) :
    Meets Try.prog 44 [.slice A_2 calls_1.length c_3] 0 [] [] [Rd 0 kT_tontinelaw21_Call A_2 c_3 calls_1] (tontinelaw21_light.f n calls_1) (tontinelaw21_light.R A_2 c_3) := by
  refine Meets.of (c := c44_0) (n := 29) Try.func44 (by kernel_rfl) (by kernel_rfl) (by kernel_rfl) fun w0 S0 => ?_
  unfold tontinelaw21_light.f
  show GoO (tontinelaw21_light.cx A_2 c_3 w0 S0) [(0, .slice A_2 calls_1.length c_3)] [] [Rd 0 kT_tontinelaw21_Call A_2 c_3 calls_1] [.code c44_0] _
  refine GoO.seq' c44_0e ?_
  refine GoO.region' (is := [0]) c44_1e (by kernel_rfl) ?_
  refine GoO.exec (is := [0]) (hs := [.p]) (rest := []) (ks := [0]) (env' := [(0, .slice A_2 calls_1.length c_3)]) (H' := []) (ps := []) (by kernel_rfl) trivial ?_
  refine GoO.regionEnd ?_
  refine GoO.seq' c44_2e ?_
  refine GoO.region' (is := [0, 1, 2]) c44_3e (by kernel_rfl) ?_
  refine GoO.exec (is := [0, 1, 2]) (hs := [.p, .p, .p]) (rest := []) (ks := [0, 3]) (env' := [(0, .slice A_2 calls_1.length c_3), (3, vI (calls_1.length : Int))]) (H' := []) (ps := []) (by kernel_rfl) trivial ?_
  refine GoO.regionEnd ?_
  refine GoO.seq' c44_4e ?_
  refine GoO.seq' c44_5e ?_
  refine GoO.region' (is := [0, 1, 2]) c44_6e (by kernel_rfl) ?_
  refine GoO.exec (is := [0, 1, 2]) (hs := [.p, .p, .p]) (rest := []) (ks := [3, 8, 9, 10]) (env' := [(3, vI (calls_1.length : Int)), (8, .slice A_2 calls_1.length c_3), (9, vI (calls_1.length : Int)), (10, vI 0)]) (H' := []) (ps := []) (by kernel_rfl) trivial ?_
  refine GoO.regionEnd ?_
  refine GoO.block' c44_7e ?_
  refine GoO.loop' c44_8e ?_
  exact GoO.sub (ks := [3, 8, 9, 10]) (hk := []) (bk := [0]) (by kernel_rfl) (by kernel_rfl) (by kernel_rfl) (tontinelaw21_light_l0_ok n calls_1 A_2 c_3 w0 S0 n (calls_1.length : Int) 0)
/-! tontine/tontineref13.Check -/
noncomputable def c91_0 : Code := bodyOf Try.f91
noncomputable def c91_1 : Code := cdL c91_0
noncomputable def c91_2 : Code := cdR c91_0
noncomputable def c91_3 : Code := cdL c91_2
noncomputable def c91_4 : Code := cdR c91_2
noncomputable def c91_5 : Code := cdL c91_4
noncomputable def c91_6 : Code := cdL c91_5
noncomputable def c91_7 : Code := cdR c91_5
noncomputable def c91_8 : Code := cdL c91_7
noncomputable def c91_9 : Code := cdL c91_8
noncomputable def c91_10 : Code := cdL c91_9
noncomputable def c91_11 : Code := cdL c91_10
noncomputable def c91_12 : Code := cdR c91_10
noncomputable def c91_13 : Code := cdL c91_12
noncomputable def c91_14 : Code := cdR c91_12
noncomputable def c91_15 : Code := cdR c91_9
noncomputable def c91_16 : Code := cdL c91_15
noncomputable def c91_17 : Code := cdL c91_16
noncomputable def c91_18 : Code := cdL c91_17
noncomputable def c91_19 : Code := cdR c91_17
noncomputable def c91_20 : Code := cdR c91_15
noncomputable def c91_21 : Code := cdR c91_4
noncomputable def c91_22 : Code := cdL c91_21
noncomputable def c91_23 : Code := cdL c91_22
noncomputable def c91_24 : Code := cdR c91_22
noncomputable def c91_25 : Code := cdL c91_24
noncomputable def c91_26 : Code := cdL c91_25
noncomputable def c91_27 : Code := cdR c91_25
noncomputable def c91_28 : Code := cdR c91_24
noncomputable def c91_29 : Code := cdR c91_21
noncomputable def c91_30 : Code := cdL c91_29
noncomputable def c91_31 : Code := cdR c91_29
noncomputable def r91_1 : Array Oper := cdO c91_1
noncomputable def r91_3 : Array Oper := cdO c91_3
noncomputable def r91_6 : Array Oper := cdO c91_6
noncomputable def r91_11 : Array Oper := cdO c91_11
noncomputable def r91_18 : Array Oper := cdO c91_18
noncomputable def r91_19 : Array Oper := cdO c91_19
noncomputable def r91_20 : Array Oper := cdO c91_20
noncomputable def r91_23 : Array Oper := cdO c91_23
noncomputable def r91_26 : Array Oper := cdO c91_26
noncomputable def r91_30 : Array Oper := cdO c91_30
theorem c91_0e : c91_0 = .seq c91_1 c91_2 := by kernel_rfl
theorem c91_1e : c91_1 = .region 0 r91_1 false := by kernel_rfl
theorem c91_2e : c91_2 = .seq c91_3 c91_4 := by kernel_rfl
theorem c91_3e : c91_3 = .region 1 r91_3 false := by kernel_rfl
theorem c91_4e : c91_4 = .seq c91_5 c91_21 := by kernel_rfl
theorem c91_5e : c91_5 = .seq c91_6 c91_7 := by kernel_rfl
theorem c91_6e : c91_6 = .region 2 r91_6 false := by kernel_rfl
theorem c91_7e : c91_7 = .block 0 c91_8 := by kernel_rfl
theorem c91_8e : c91_8 = .loop c91_9 := by kernel_rfl
theorem c91_9e : c91_9 = .seq c91_10 c91_15 := by kernel_rfl
theorem c91_10e : c91_10 = .seq c91_11 c91_12 := by kernel_rfl
theorem c91_11e : c91_11 = .region 3 r91_11 false := by kernel_rfl
theorem c91_12e : c91_12 = .cond (cdC c91_12) c91_13 c91_14 := by kernel_rfl
theorem c91_13e : c91_13 = .skip := by kernel_rfl
theorem c91_14e : c91_14 = .exit 0 := by kernel_rfl
theorem c91_15e : c91_15 = .seq c91_16 c91_20 := by kernel_rfl
theorem c91_16e : c91_16 = .block 1 c91_17 := by kernel_rfl
theorem c91_17e : c91_17 = .seq c91_18 c91_19 := by kernel_rfl
theorem c91_18e : c91_18 = .region 5 r91_18 false := by kernel_rfl
theorem c91_19e : c91_19 = .region 6 r91_19 false := by kernel_rfl
theorem c91_20e : c91_20 = .region 4 r91_20 false := by kernel_rfl
theorem c91_21e : c91_21 = .seq c91_22 c91_29 := by kernel_rfl
theorem c91_22e : c91_22 = .seq c91_23 c91_24 := by kernel_rfl
theorem c91_23e : c91_23 = .region 7 r91_23 false := by kernel_rfl
theorem c91_24e : c91_24 = .cond (cdC c91_24) c91_25 c91_28 := by kernel_rfl
theorem c91_25e : c91_25 = .seq c91_26 c91_27 := by kernel_rfl
theorem c91_26e : c91_26 = .region 8 r91_26 false := by kernel_rfl
theorem c91_27e : c91_27 = .ret := by kernel_rfl
theorem c91_28e : c91_28 = .skip := by kernel_rfl
theorem c91_29e : c91_29 = .seq c91_30 c91_31 := by kernel_rfl
theorem c91_30e : c91_30 = .region 9 r91_30 false := by kernel_rfl
theorem c91_31e : c91_31 = .ret := by kernel_rfl
noncomputable def tontineref13_Check.R (A_2 : Option Addr) (c_3 : Nat) : Pst Int where
  ε := Unit
  v := fun r x => vI r
  H := fun r x => []
  B := fun r x => []
noncomputable def tontineref13_Check.cx (A_2 : Option Addr) (c_3 : Nat) (w0 : World) (S0 : Fam) : Cx Int := ⟨Try.prog, 91, Try.f91, 59, w0, S0, [], 0, tontineref13_Check.R A_2 c_3⟩
theorem tontineref13_Check_j2_ok (n : Nat) (L0 : Bool → Int → Option Int) (l_1 : (List T_api_Step)) (bad_6 : Bool) (i_7 : Int) (A_2 : Option Addr) (c_3 : Nat) (w0 : World) (S0 : Fam) (ih0 : ∀ (bad_6 : Bool) (i_7 : Int), GoO (tontineref13_Check.cx A_2 c_3 w0 S0) [(0, .slice A_2 l_1.length c_3), (3, .bool bad_6), (4, vI i_7)] [] [Rd 0 kT_api_Step A_2 c_3 l_1] [.code c91_9, .inLoop c91_9, .inBlock 0, .code c91_21] (L0 bad_6 i_7)) (bad_18 : Bool) :
    GoO (tontineref13_Check.cx A_2 c_3 w0 S0) [(0, .slice A_2 l_1.length c_3), (3, .bool bad_18), (4, vI i_7)] [] [Rd 0 kT_api_Step A_2 c_3 l_1] [.inBlock 1, .code c91_20, .inLoop c91_9, .inBlock 0, .code c91_21] (tontineref13_Check.j2 n L0 i_7 bad_18) := by
  unfold tontineref13_Check.j2
  refine GoO.inBlock ?_
  refine GoO.region' (is := [0, 1, 2]) c91_20e (by kernel_rfl) ?_
  refine GoO.exec (is := [0, 1, 2]) (hs := [.p, .p, .p]) (rest := []) (ks := [0, 3, 4]) (env' := [(0, .slice A_2 l_1.length c_3), (3, .bool bad_18), (4, vI (wi64 (i_7 + 1)))]) (H' := []) (ps := []) (by kernel_rfl) trivial ?_
  refine GoO.regionEnd ?_
  refine GoO.inLoop ?_
  exact GoO.sub (ks := [0, 3, 4]) (hk := []) (bk := [0]) (by kernel_rfl) (by kernel_rfl) (by kernel_rfl) (ih0 bad_18 (wi64 (i_7 + 1)))
theorem tontineref13_Check_j1_ok (n : Nat) (L0 : Bool → Int → Option Int) (l_1 : (List T_api_Step)) (bad_6 : Bool) (i_7 : Int) (A_2 : Option Addr) (c_3 : Nat) (w0 : World) (S0 : Fam) (ih0 : ∀ (bad_6 : Bool) (i_7 : Int), GoO (tontineref13_Check.cx A_2 c_3 w0 S0) [(0, .slice A_2 l_1.length c_3), (3, .bool bad_6), (4, vI i_7)] [] [Rd 0 kT_api_Step A_2 c_3 l_1] [.code c91_9, .inLoop c91_9, .inBlock 0, .code c91_21] (L0 bad_6 i_7)) (b_9 : Bool) :
    GoO (tontineref13_Check.cx A_2 c_3 w0 S0) [(0, .slice A_2 l_1.length c_3), (3, .bool bad_6), (4, vI i_7), (21, .bool b_9)] [] [Rd 0 kT_api_Step A_2 c_3 l_1] [.code c91_12, .code c91_15, .inLoop c91_9, .inBlock 0, .code c91_21] (tontineref13_Check.j1 n L0 l_1 bad_6 i_7 b_9) := by
  unfold tontineref13_Check.j1
  refine GoO.ite' c91_12e (by kernel_rfl) (fun h10 => ?_) (fun h10 => ?_)
  · refine GoO.skip' c91_13e ?_
    refine GoO.seq' c91_15e ?_
    refine GoO.block' c91_16e ?_
    refine GoO.seq' c91_17e ?_
    refine GoO.region' (is := [0, 1, 2, 3, 4, 5]) c91_18e (by kernel_rfl) ?_
    refine GoO.exec (is := [0, 1]) (hs := [.p, .p]) (rest := [2, 3, 4, 5]) (ks := [0, 4, 24, 25]) (env' := [(0, .slice A_2 l_1.length c_3), (4, vI i_7), (24, .slice A_2 l_1.length c_3), (25, vI i_7)]) (H' := []) (ps := []) (by kernel_rfl) trivial ?_
    refine GoO.guard (fun h11 => ?_)
    refine OpTo.go (GoO.idx (kk := .i64) (e := 160) (K := kT_api_Step) (A := A_2) (c := c_3) (xs := l_1) (iv := i_7) (j := 0) rfl (by kernel_rfl) (by kernel_rfl) (by kernel_rfl) (by kernel_rfl) rfl Reads.rd rfl h11.1 h11.2 (by decide) rfl ?_)
    refine OpTo.go (GoO.ldE' (K := kT_api_Step) (A := A_2) (c := c_3) (xs := l_1) (iN := i_7.toNat) (off := 0) (j := 0) rfl (by kernel_rfl) rfl Reads.rd (by first | exact idx_lt h11.1 h11.2 | (simp only [List.length_set]; exact idx_lt h11.1 h11.2)) (by decide) (Opn.flat _ _ _ _ _) (v := fun _ => .agg ⟨[vI ((rdL l_1 i_7).Part), .string (bs ((rdL l_1 i_7).Name)), vI ((rdL l_1 i_7).Budget)]⟩) (fun _ => by kernel_rfl) _ (fun _ => rfl) (fun _ => ?_))
    refine OpTo.go (GoO.new rfl 40 (cs := [vI 0, .string (bs []), vI 0]) (by kernel_rfl) _ (fun _ => rfl) (fun b_12 => ?_))
    refine GoO.exec (is := [5]) (hs := [.b 0]) (rest := []) (ks := [0, 4, 5]) (env' := [(0, .slice A_2 l_1.length c_3), (4, vI i_7), (5, vP b_12)]) (H' := [⟨40, b_12, [vI ((rdL l_1 i_7).Part), .string (bs ((rdL l_1 i_7).Name)), vI ((rdL l_1 i_7).Budget)]⟩]) (ps := [b_12 = b_12]) (by kernel_rfl) (And.intro rfl trivial) ?_
    refine GoO.regionEnd ?_
    refine GoO.region' (is := [0, 1, 2, 3, 4, 5, 6, 7, 8, 9, 10, 11, 12, 13, 14, 15, 16, 17, 18, 19, 20, 21, 22, 23, 24, 25, 26, 27, 28, 29, 30]) c91_19e (by kernel_rfl) ?_
    refine GoO.exec (is := [0, 1, 2, 3]) (hs := [.p, .b 0, .p, .p]) (rest := [4, 5, 6, 7, 8, 9, 10, 11, 12, 13, 14, 15, 16, 17, 18, 19, 20, 21, 22, 23, 24, 25, 26, 27, 28, 29, 30]) (ks := [0, 4, 5, 31]) (env' := [(0, .slice A_2 l_1.length c_3), (4, vI i_7), (5, vP b_12), (31, .bool (decide (((rdL l_1 i_7).Part) < 0)))]) (H' := [⟨40, b_12, [vI ((rdL l_1 i_7).Part), .string (bs ((rdL l_1 i_7).Name)), vI ((rdL l_1 i_7).Budget)]⟩]) (ps := [b_12 = b_12]) (by kernel_rfl) (And.intro rfl trivial) ?_
    refine GoO.bsplit (t := 31) (by kernel_rfl) (fun h13 => ?_) (fun h13 => ?_)
    · refine GoO.exec (is := [4, 5, 6, 7, 8, 9, 10, 11, 12, 13, 14, 15, 16, 17, 18, 19, 20, 21, 22, 23, 24, 25, 26, 27, 28, 29, 30]) (hs := [.p, .p, .p, .p, .p, .p, .p, .p, .p, .p, .p, .p, .p, .p, .p, .p, .p, .p, .p, .p, .p, .p, .p, .p, .p, .p, .p]) (rest := []) (ks := [0, 3, 4]) (env' := [(0, .slice A_2 l_1.length c_3), (3, .bool true), (4, vI i_7)]) (H' := [⟨40, b_12, [vI ((rdL l_1 i_7).Part), .string (bs ((rdL l_1 i_7).Name)), vI ((rdL l_1 i_7).Budget)]⟩]) (ps := []) (by kernel_rfl) trivial ?_
      refine GoO.regionEnd ?_
      exact GoO.sub (ks := [0, 3, 4]) (hk := []) (bk := [0]) (by kernel_rfl) (by kernel_rfl) (by kernel_rfl) (tontineref13_Check_j2_ok n L0 l_1 bad_6 i_7 A_2 c_3 w0 S0 ih0 true)
    · refine GoO.exec (is := [4, 5, 6, 7, 8]) (hs := [.p, .b 0, .p, .p, .p]) (rest := [9, 10, 11, 12, 13, 14, 15, 16, 17, 18, 19, 20, 21, 22, 23, 24, 25, 26, 27, 28, 29, 30]) (ks := [0, 4, 5, 36]) (env' := [(0, .slice A_2 l_1.length c_3), (4, vI i_7), (5, vP b_12), (36, .bool (decide (((rdL l_1 i_7).Part) > 3)))]) (H' := [⟨40, b_12, [vI ((rdL l_1 i_7).Part), .string (bs ((rdL l_1 i_7).Name)), vI ((rdL l_1 i_7).Budget)]⟩]) (ps := [b_12 = b_12]) (by kernel_rfl) (And.intro rfl trivial) ?_
      refine GoO.bsplit (t := 36) (by kernel_rfl) (fun h14 => ?_) (fun h14 => ?_)
      · refine GoO.exec (is := [9, 10, 11, 12, 13, 14, 15, 16, 17, 18, 19, 20, 21, 22, 23, 24, 25, 26, 27, 28, 29, 30]) (hs := [.p, .p, .p, .p, .p, .p, .p, .p, .p, .p, .p, .p, .p, .p, .p, .p, .p, .p, .p, .p, .p, .p]) (rest := []) (ks := [0, 3, 4]) (env' := [(0, .slice A_2 l_1.length c_3), (3, .bool true), (4, vI i_7)]) (H' := [⟨40, b_12, [vI ((rdL l_1 i_7).Part), .string (bs ((rdL l_1 i_7).Name)), vI ((rdL l_1 i_7).Budget)]⟩]) (ps := []) (by kernel_rfl) trivial ?_
        refine GoO.regionEnd ?_
        exact GoO.sub (ks := [0, 3, 4]) (hk := []) (bk := [0]) (by kernel_rfl) (by kernel_rfl) (by kernel_rfl) (tontineref13_Check_j2_ok n L0 l_1 bad_6 i_7 A_2 c_3 w0 S0 ih0 true)
      · refine GoO.exec (is := [9, 10, 11, 12, 13, 14]) (hs := [.p, .b 0, .p, .p, .p, .p]) (rest := [15, 16, 17, 18, 19, 20, 21, 22, 23, 24, 25, 26, 27, 28, 29, 30]) (ks := [0, 4, 5, 42]) (env' := [(0, .slice A_2 l_1.length c_3), (4, vI i_7), (5, vP b_12), (42, .bool (decide ((((rdL l_1 i_7).Name).length : Int) < 1)))]) (H' := [⟨40, b_12, [vI ((rdL l_1 i_7).Part), .string (bs ((rdL l_1 i_7).Name)), vI ((rdL l_1 i_7).Budget)]⟩]) (ps := [b_12 = b_12]) (by kernel_rfl) (And.intro rfl trivial) ?_
        refine GoO.bsplit (t := 42) (by kernel_rfl) (fun h15 => ?_) (fun h15 => ?_)
        · refine GoO.exec (is := [15, 16, 17, 18, 19, 20, 21, 22, 23, 24, 25, 26, 27, 28, 29, 30]) (hs := [.p, .p, .p, .p, .p, .p, .p, .p, .p, .p, .p, .p, .p, .p, .p, .p]) (rest := []) (ks := [0, 3, 4]) (env' := [(0, .slice A_2 l_1.length c_3), (3, .bool true), (4, vI i_7)]) (H' := [⟨40, b_12, [vI ((rdL l_1 i_7).Part), .string (bs ((rdL l_1 i_7).Name)), vI ((rdL l_1 i_7).Budget)]⟩]) (ps := []) (by kernel_rfl) trivial ?_
          refine GoO.regionEnd ?_
          exact GoO.sub (ks := [0, 3, 4]) (hk := []) (bk := [0]) (by kernel_rfl) (by kernel_rfl) (by kernel_rfl) (tontineref13_Check_j2_ok n L0 l_1 bad_6 i_7 A_2 c_3 w0 S0 ih0 true)
        · refine GoO.exec (is := [15, 16, 17, 18, 19, 20]) (hs := [.p, .b 0, .p, .p, .p, .p]) (rest := [21, 22, 23, 24, 25, 26, 27, 28, 29, 30]) (ks := [0, 4, 5, 48]) (env' := [(0, .slice A_2 l_1.length c_3), (4, vI i_7), (5, vP b_12), (48, .bool (decide ((((rdL l_1 i_7).Name).length : Int) > 16)))]) (H' := [⟨40, b_12, [vI ((rdL l_1 i_7).Part), .string (bs ((rdL l_1 i_7).Name)), vI ((rdL l_1 i_7).Budget)]⟩]) (ps := [b_12 = b_12]) (by kernel_rfl) (And.intro rfl trivial) ?_
          refine GoO.bsplit (t := 48) (by kernel_rfl) (fun h16 => ?_) (fun h16 => ?_)
          · refine GoO.exec (is := [21, 22, 23, 24, 25, 26, 27, 28, 29, 30]) (hs := [.p, .p, .p, .p, .p, .p, .p, .p, .p, .p]) (rest := []) (ks := [0, 3, 4]) (env' := [(0, .slice A_2 l_1.length c_3), (3, .bool true), (4, vI i_7)]) (H' := [⟨40, b_12, [vI ((rdL l_1 i_7).Part), .string (bs ((rdL l_1 i_7).Name)), vI ((rdL l_1 i_7).Budget)]⟩]) (ps := []) (by kernel_rfl) trivial ?_
            refine GoO.regionEnd ?_
            exact GoO.sub (ks := [0, 3, 4]) (hk := []) (bk := [0]) (by kernel_rfl) (by kernel_rfl) (by kernel_rfl) (tontineref13_Check_j2_ok n L0 l_1 bad_6 i_7 A_2 c_3 w0 S0 ih0 true)
          · refine GoO.exec (is := [21, 22, 23, 24, 25]) (hs := [.p, .b 0, .p, .p, .p]) (rest := [26, 27, 28, 29, 30]) (ks := [0, 4, 5, 53]) (env' := [(0, .slice A_2 l_1.length c_3), (4, vI i_7), (5, vP b_12), (53, .bool (decide (((rdL l_1 i_7).Budget) < 1)))]) (H' := [⟨40, b_12, [vI ((rdL l_1 i_7).Part), .string (bs ((rdL l_1 i_7).Name)), vI ((rdL l_1 i_7).Budget)]⟩]) (ps := [b_12 = b_12]) (by kernel_rfl) (And.intro rfl trivial) ?_
            refine GoO.bsplit (t := 53) (by kernel_rfl) (fun h17 => ?_) (fun h17 => ?_)
            · refine GoO.exec (is := [26, 27, 28, 29, 30]) (hs := [.p, .p, .p, .p, .p]) (rest := []) (ks := [0, 3, 4]) (env' := [(0, .slice A_2 l_1.length c_3), (3, .bool true), (4, vI i_7)]) (H' := [⟨40, b_12, [vI ((rdL l_1 i_7).Part), .string (bs ((rdL l_1 i_7).Name)), vI ((rdL l_1 i_7).Budget)]⟩]) (ps := []) (by kernel_rfl) trivial ?_
              refine GoO.regionEnd ?_
              exact GoO.sub (ks := [0, 3, 4]) (hk := []) (bk := [0]) (by kernel_rfl) (by kernel_rfl) (by kernel_rfl) (tontineref13_Check_j2_ok n L0 l_1 bad_6 i_7 A_2 c_3 w0 S0 ih0 true)
            · refine GoO.exec (is := [26, 27, 28, 29, 30]) (hs := [.p, .b 0, .p, .p, .p]) (rest := []) (ks := [0, 3, 4]) (env' := [(0, .slice A_2 l_1.length c_3), (3, .bool (decide (((rdL l_1 i_7).Budget) > 9))), (4, vI i_7)]) (H' := [⟨40, b_12, [vI ((rdL l_1 i_7).Part), .string (bs ((rdL l_1 i_7).Name)), vI ((rdL l_1 i_7).Budget)]⟩]) (ps := [b_12 = b_12]) (by kernel_rfl) (And.intro rfl trivial) ?_
              refine GoO.regionEnd ?_
              exact GoO.sub (ks := [0, 3, 4]) (hk := []) (bk := [0]) (by kernel_rfl) (by kernel_rfl) (by kernel_rfl) (tontineref13_Check_j2_ok n L0 l_1 bad_6 i_7 A_2 c_3 w0 S0 ih0 (decide (((rdL l_1 i_7).Budget) > 9)))
  · refine GoO.exit' c91_14e rfl ?_
    refine GoO.seq' c91_21e ?_
    refine GoO.seq' c91_22e ?_
    refine GoO.region' (is := [0]) c91_23e (by kernel_rfl) ?_
    refine GoO.exec (is := [0]) (hs := [.p]) (rest := []) (ks := [58]) (env' := [(58, .bool bad_6)]) (H' := []) (ps := []) (by kernel_rfl) trivial ?_
    refine GoO.regionEnd ?_
    refine GoO.ite' c91_24e (by kernel_rfl) (fun h19 => ?_) (fun h19 => ?_)
    · refine GoO.seq' c91_25e ?_
      refine GoO.region' (is := [0]) c91_26e (by kernel_rfl) ?_
      refine GoO.exec (is := [0]) (hs := [.p]) (rest := []) (ks := [2]) (env' := [(2, vI 44)]) (H' := []) (ps := []) (by kernel_rfl) trivial ?_
      refine GoO.regionEnd ?_
      exact GoO.ret' (h := c91_27e) (hs := []) (ps := []) (hk := []) (bk := []) Try.func91 () (by kernel_rfl) trivial (by kernel_rfl) (by kernel_rfl)
    · refine GoO.skip' c91_28e ?_
      refine GoO.seq' c91_29e ?_
      refine GoO.region' (is := [0]) c91_30e (by kernel_rfl) ?_
      refine GoO.exec (is := [0]) (hs := [.p]) (rest := []) (ks := [2]) (env' := [(2, vI 0)]) (H' := []) (ps := []) (by kernel_rfl) trivial ?_
      refine GoO.regionEnd ?_
      exact GoO.ret' (h := c91_31e) (hs := []) (ps := []) (hk := []) (bk := []) Try.func91 () (by kernel_rfl) trivial (by kernel_rfl) (by kernel_rfl)
theorem tontineref13_Check_l0_ok (n : Nat) (l_1 : (List T_api_Step)) (A_2 : Option Addr) (c_3 : Nat) (w0 : World) (S0 : Fam) :
    ∀ (k : Nat) (bad_6 : Bool) (i_7 : Int), GoO (tontineref13_Check.cx A_2 c_3 w0 S0) [(0, .slice A_2 l_1.length c_3), (3, .bool bad_6), (4, vI i_7)] [] [Rd 0 kT_api_Step A_2 c_3 l_1] [.code c91_9, .inLoop c91_9, .inBlock 0, .code c91_21] (tontineref13_Check.l0 n l_1 k bad_6 i_7) := by
  intro k
  induction k with
  | zero => intros; rw [tontineref13_Check.l0.eq_1]; exact GoO.stop
  | succ k ih0 =>
    intro bad_6 i_7
    rw [tontineref13_Check.l0.eq_2]
    refine GoO.seq' c91_9e ?_
    refine GoO.seq' c91_10e ?_
    refine GoO.region' (is := [0, 1, 2, 3, 4, 5, 6, 7]) c91_11e (by kernel_rfl) ?_
    refine GoO.exec (is := [0, 1, 2, 3, 4]) (hs := [.p, .p, .p, .p, .p]) (rest := [5, 6, 7]) (ks := [0, 3, 4, 18]) (env' := [(0, .slice A_2 l_1.length c_3), (3, .bool bad_6), (4, vI i_7), (18, .bool (decide (i_7 < (l_1.length : Int))))]) (H' := []) (ps := []) (by kernel_rfl) trivial ?_
    refine GoO.bsplit (t := 18) (by kernel_rfl) (fun h8 => ?_) (fun h8 => ?_)
    · refine GoO.exec (is := [5, 6, 7]) (hs := [.p, .p, .p]) (rest := []) (ks := [0, 3, 4, 21]) (env' := [(0, .slice A_2 l_1.length c_3), (3, .bool bad_6), (4, vI i_7), (21, .bool (!bad_6))]) (H' := []) (ps := []) (by kernel_rfl) trivial ?_
      refine GoO.regionEnd ?_
      exact GoO.sub (ks := [0, 3, 4, 21]) (hk := []) (bk := [0]) (by kernel_rfl) (by kernel_rfl) (by kernel_rfl) (tontineref13_Check_j1_ok n (tontineref13_Check.l0 n l_1 k) l_1 bad_6 i_7 A_2 c_3 w0 S0 ih0 (!bad_6))
    · refine GoO.exec (is := [5, 6, 7]) (hs := [.p, .p, .p]) (rest := []) (ks := [0, 3, 4, 21]) (env' := [(0, .slice A_2 l_1.length c_3), (3, .bool bad_6), (4, vI i_7), (21, .bool false)]) (H' := []) (ps := []) (by kernel_rfl) trivial ?_
      refine GoO.regionEnd ?_
      exact GoO.sub (ks := [0, 3, 4, 21]) (hk := []) (bk := [0]) (by kernel_rfl) (by kernel_rfl) (by kernel_rfl) (tontineref13_Check_j1_ok n (tontineref13_Check.l0 n l_1 k) l_1 bad_6 i_7 A_2 c_3 w0 S0 ih0 false)
theorem tontineref13_Check_j0_ok (n : Nat) (l_1 : (List T_api_Step)) (A_2 : Option Addr) (c_3 : Nat) (w0 : World) (S0 : Fam) (bad_5 : Bool) :
    GoO (tontineref13_Check.cx A_2 c_3 w0 S0) [(0, .slice A_2 l_1.length c_3), (3, .bool bad_5)] [] [Rd 0 kT_api_Step A_2 c_3 l_1] [.code c91_4] (tontineref13_Check.j0 n l_1 bad_5) := by
  unfold tontineref13_Check.j0
  refine GoO.seq' c91_4e ?_
  refine GoO.seq' c91_5e ?_
  refine GoO.region' (is := [0]) c91_6e (by kernel_rfl) ?_
  refine GoO.exec (is := [0]) (hs := [.p]) (rest := []) (ks := [0, 3, 4]) (env' := [(0, .slice A_2 l_1.length c_3), (3, .bool bad_5), (4, vI 0)]) (H' := []) (ps := []) (by kernel_rfl) trivial ?_
  refine GoO.regionEnd ?_
  refine GoO.block' c91_7e ?_
  refine GoO.loop' c91_8e ?_
  exact GoO.sub (ks := [0, 3, 4]) (hk := []) (bk := [0]) (by kernel_rfl) (by kernel_rfl) (by kernel_rfl) (tontineref13_Check_l0_ok n l_1 A_2 c_3 w0 S0 n bad_5 0)
theorem tontineref13_Check_ok (n : Nat) (l_1 : (List T_api_Step)) (A_2 : Option Addr) (c_3 : Nat) :
    Meets Try.prog 91 [.slice A_2 l_1.length c_3] 0 [] [] [Rd 0 kT_api_Step A_2 c_3 l_1] (tontineref13_Check.f n l_1) (tontineref13_Check.R A_2 c_3) := by
  refine Meets.of (c := c91_0) (n := 59) Try.func91 (by kernel_rfl) (by kernel_rfl) (by kernel_rfl) fun w0 S0 => ?_
  unfold tontineref13_Check.f
  show GoO (tontineref13_Check.cx A_2 c_3 w0 S0) [(0, .slice A_2 l_1.length c_3)] [] [Rd 0 kT_api_Step A_2 c_3 l_1] [.code c91_0] _
  refine GoO.seq' c91_0e ?_
  refine GoO.region' (is := [0]) c91_1e (by kernel_rfl) ?_
  refine GoO.exec (is := [0]) (hs := [.p]) (rest := []) (ks := [0]) (env' := [(0, .slice A_2 l_1.length c_3)]) (H' := []) (ps := []) (by kernel_rfl) trivial ?_
  refine GoO.regionEnd ?_
  refine GoO.seq' c91_2e ?_
  refine GoO.region' (is := [0, 1, 2, 3, 4, 5, 6, 7, 8]) c91_3e (by kernel_rfl) ?_
  refine GoO.exec (is := [0, 1, 2, 3]) (hs := [.p, .p, .p, .p]) (rest := [4, 5, 6, 7, 8]) (ks := [0, 9]) (env' := [(0, .slice A_2 l_1.length c_3), (9, .bool ((l_1.length : Int) == 0))]) (H' := []) (ps := []) (by kernel_rfl) trivial ?_
  refine GoO.bsplit (t := 9) (by kernel_rfl) (fun h4 => ?_) (fun h4 => ?_)
  · refine GoO.exec (is := [4, 5, 6, 7, 8]) (hs := [.p, .p, .p, .p, .p]) (rest := []) (ks := [0, 3]) (env' := [(0, .slice A_2 l_1.length c_3), (3, .bool true)]) (H' := []) (ps := []) (by kernel_rfl) trivial ?_
    refine GoO.regionEnd ?_
    exact GoO.sub (ks := [0, 3]) (hk := []) (bk := [0]) (by kernel_rfl) (by kernel_rfl) (by kernel_rfl) (tontineref13_Check_j0_ok n l_1 A_2 c_3 w0 S0 true)
  · refine GoO.exec (is := [4, 5, 6, 7, 8]) (hs := [.p, .p, .p, .p, .p]) (rest := []) (ks := [0, 3]) (env' := [(0, .slice A_2 l_1.length c_3), (3, .bool (decide ((l_1.length : Int) > 64)))]) (H' := []) (ps := []) (by kernel_rfl) trivial ?_
    refine GoO.regionEnd ?_
    exact GoO.sub (ks := [0, 3]) (hk := []) (bk := [0]) (by kernel_rfl) (by kernel_rfl) (by kernel_rfl) (tontineref13_Check_j0_ok n l_1 A_2 c_3 w0 S0 (decide ((l_1.length : Int) > 64)))
/-! tontine/tontineref16.bare -/
noncomputable def c99_0 : Code := bodyOf Try.f99
noncomputable def c99_1 : Code := cdL c99_0
noncomputable def c99_2 : Code := cdR c99_0
noncomputable def c99_3 : Code := cdL c99_2
noncomputable def c99_4 : Code := cdR c99_2
noncomputable def r99_1 : Array Oper := cdO c99_1
noncomputable def r99_3 : Array Oper := cdO c99_3
theorem c99_0e : c99_0 = .seq c99_1 c99_2 := by kernel_rfl
theorem c99_1e : c99_1 = .region 0 r99_1 false := by kernel_rfl
theorem c99_2e : c99_2 = .seq c99_3 c99_4 := by kernel_rfl
theorem c99_3e : c99_3 = .region 1 r99_3 false := by kernel_rfl
theorem c99_4e : c99_4 = .ret := by kernel_rfl
noncomputable def tontineref16_bare.R (A_2 : Option Addr) (c_3 : Nat) : Pst Bool where
  ε := Unit
  v := fun r x => .bool r
  H := fun r x => []
  B := fun r x => []
noncomputable def tontineref16_bare.cx (A_2 : Option Addr) (c_3 : Nat) (w0 : World) (S0 : Fam) : Cx Bool := ⟨Try.prog, 99, Try.f99, 21, w0, S0, [], 0, tontineref16_bare.R A_2 c_3⟩
theorem tontineref16_bare_ok (n : Nat) (c_1 : T_api_Command) (A_2 : Option Addr) (c_3 : Nat) :
    Meets Try.prog 99 [.agg ⟨[vI c_1.Kind, vU c_1.Session, vU c_1.Seq, vU c_1.Saga, .slice A_2 c_1.Steps.length c_3, vI c_1.Step, .bool c_1.Back, vI c_1.Try, .bool c_1.Ok, vU c_1.Now]⟩] 0 [] [] [Rd 0 kT_api_Step A_2 c_3 c_1.Steps] (tontineref16_bare.f n c_1) (tontineref16_bare.R A_2 c_3) := by
  refine Meets.of (c := c99_0) (n := 21) Try.func99 (by kernel_rfl) (by kernel_rfl) (by kernel_rfl) fun w0 S0 => ?_
  unfold tontineref16_bare.f
  show GoO (tontineref16_bare.cx A_2 c_3 w0 S0) [(0, .agg ⟨[vI c_1.Kind, vU c_1.Session, vU c_1.Seq, vU c_1.Saga, .slice A_2 c_1.Steps.length c_3, vI c_1.Step, .bool c_1.Back, vI c_1.Try, .bool c_1.Ok, vU c_1.Now]⟩)] [] [Rd 0 kT_api_Step A_2 c_3 c_1.Steps] [.code c99_0] _
  refine GoO.seq' c99_0e ?_
  refine GoO.region' (is := [0, 1]) c99_1e (by kernel_rfl) ?_
  refine OpTo.go (GoO.new rfl 40 (cs := [vI c_1.Kind, vU c_1.Session, vU c_1.Seq, vU c_1.Saga, .slice A_2 c_1.Steps.length c_3, vI c_1.Step, .bool c_1.Back, vI c_1.Try, .bool c_1.Ok, vU c_1.Now]) (by kernel_rfl) _ (fun _ => rfl) (fun b_4 => ?_))
  refine GoO.exec (is := [1]) (hs := [.p]) (rest := []) (ks := [1]) (env' := [(1, vP b_4)]) (H' := [⟨40, b_4, [vI c_1.Kind, vU c_1.Session, vU c_1.Seq, vU c_1.Saga, .slice A_2 c_1.Steps.length c_3, vI c_1.Step, .bool c_1.Back, vI c_1.Try, .bool c_1.Ok, vU c_1.Now]⟩]) (ps := []) (by kernel_rfl) trivial ?_
  refine GoO.regionEnd ?_
  refine GoO.seq' c99_2e ?_
  refine GoO.region' (is := [0, 1, 2, 3, 4, 5, 6, 7, 8, 9, 10, 11, 12, 13, 14, 15, 16, 17, 18]) c99_3e (by kernel_rfl) ?_
  refine GoO.exec (is := [0, 1, 2, 3]) (hs := [.p, .b 0, .p, .p]) (rest := [4, 5, 6, 7, 8, 9, 10, 11, 12, 13, 14, 15, 16, 17, 18]) (ks := [1, 6]) (env' := [(1, vP b_4), (6, .bool (c_1.Step == 0))]) (H' := [⟨40, b_4, [vI c_1.Kind, vU c_1.Session, vU c_1.Seq, vU c_1.Saga, .slice A_2 c_1.Steps.length c_3, vI c_1.Step, .bool c_1.Back, vI c_1.Try, .bool c_1.Ok, vU c_1.Now]⟩]) (ps := [b_4 = b_4]) (by kernel_rfl) (And.intro rfl trivial) ?_
  refine GoO.bsplit (t := 6) (by kernel_rfl) (fun h5 => ?_) (fun h5 => ?_)
  · refine GoO.exec (is := [4, 5, 6, 7, 8]) (hs := [.p, .b 0, .p, .p, .p]) (rest := [9, 10, 11, 12, 13, 14, 15, 16, 17, 18]) (ks := [1, 11]) (env' := [(1, vP b_4), (11, .bool (!c_1.Back))]) (H' := [⟨40, b_4, [vI c_1.Kind, vU c_1.Session, vU c_1.Seq, vU c_1.Saga, .slice A_2 c_1.Steps.length c_3, vI c_1.Step, .bool c_1.Back, vI c_1.Try, .bool c_1.Ok, vU c_1.Now]⟩]) (ps := [b_4 = b_4]) (by kernel_rfl) (And.intro rfl trivial) ?_
    refine GoO.bsplit (t := 11) (by kernel_rfl) (fun h6 => ?_) (fun h6 => ?_)
    · refine GoO.exec (is := [9, 10, 11, 12, 13]) (hs := [.p, .b 0, .p, .p, .p]) (rest := [14, 15, 16, 17, 18]) (ks := [1, 16]) (env' := [(1, vP b_4), (16, .bool (c_1.Try == 0))]) (H' := [⟨40, b_4, [vI c_1.Kind, vU c_1.Session, vU c_1.Seq, vU c_1.Saga, .slice A_2 c_1.Steps.length c_3, vI c_1.Step, .bool c_1.Back, vI c_1.Try, .bool c_1.Ok, vU c_1.Now]⟩]) (ps := [b_4 = b_4]) (by kernel_rfl) (And.intro rfl trivial) ?_
      refine GoO.bsplit (t := 16) (by kernel_rfl) (fun h7 => ?_) (fun h7 => ?_)
      · refine GoO.exec (is := [14, 15, 16, 17, 18]) (hs := [.p, .b 0, .p, .p, .p]) (rest := []) (ks := [2]) (env' := [(2, .bool (!c_1.Ok))]) (H' := [⟨40, b_4, [vI c_1.Kind, vU c_1.Session, vU c_1.Seq, vU c_1.Saga, .slice A_2 c_1.Steps.length c_3, vI c_1.Step, .bool c_1.Back, vI c_1.Try, .bool c_1.Ok, vU c_1.Now]⟩]) (ps := [b_4 = b_4]) (by kernel_rfl) (And.intro rfl trivial) ?_
        refine GoO.regionEnd ?_
        exact GoO.ret' (h := c99_4e) (hs := []) (ps := []) (hk := []) (bk := []) Try.func99 () (by kernel_rfl) trivial (by kernel_rfl) (by kernel_rfl)
      · refine GoO.exec (is := [14, 15, 16, 17, 18]) (hs := [.p, .p, .p, .p, .p]) (rest := []) (ks := [2]) (env' := [(2, .bool false)]) (H' := [⟨40, b_4, [vI c_1.Kind, vU c_1.Session, vU c_1.Seq, vU c_1.Saga, .slice A_2 c_1.Steps.length c_3, vI c_1.Step, .bool c_1.Back, vI c_1.Try, .bool c_1.Ok, vU c_1.Now]⟩]) (ps := []) (by kernel_rfl) trivial ?_
        refine GoO.regionEnd ?_
        exact GoO.ret' (h := c99_4e) (hs := []) (ps := []) (hk := []) (bk := []) Try.func99 () (by kernel_rfl) trivial (by kernel_rfl) (by kernel_rfl)
    · refine GoO.exec (is := [9, 10, 11, 12, 13, 14, 15, 16, 17, 18]) (hs := [.p, .p, .p, .p, .p, .p, .p, .p, .p, .p]) (rest := []) (ks := [2]) (env' := [(2, .bool false)]) (H' := [⟨40, b_4, [vI c_1.Kind, vU c_1.Session, vU c_1.Seq, vU c_1.Saga, .slice A_2 c_1.Steps.length c_3, vI c_1.Step, .bool c_1.Back, vI c_1.Try, .bool c_1.Ok, vU c_1.Now]⟩]) (ps := []) (by kernel_rfl) trivial ?_
      refine GoO.regionEnd ?_
      exact GoO.ret' (h := c99_4e) (hs := []) (ps := []) (hk := []) (bk := []) Try.func99 () (by kernel_rfl) trivial (by kernel_rfl) (by kernel_rfl)
  · refine GoO.exec (is := [4, 5, 6, 7, 8, 9, 10, 11, 12, 13, 14, 15, 16, 17, 18]) (hs := [.p, .p, .p, .p, .p, .p, .p, .p, .p, .p, .p, .p, .p, .p, .p]) (rest := []) (ks := [2]) (env' := [(2, .bool false)]) (H' := [⟨40, b_4, [vI c_1.Kind, vU c_1.Session, vU c_1.Seq, vU c_1.Saga, .slice A_2 c_1.Steps.length c_3, vI c_1.Step, .bool c_1.Back, vI c_1.Try, .bool c_1.Ok, vU c_1.Now]⟩]) (ps := []) (by kernel_rfl) trivial ?_
    refine GoO.regionEnd ?_
    exact GoO.ret' (h := c99_4e) (hs := []) (ps := []) (hk := []) (bk := []) Try.func99 () (by kernel_rfl) trivial (by kernel_rfl) (by kernel_rfl)
/-! tontine/tontineref16.May -/
noncomputable def c92_0 : Code := bodyOf Try.f92
noncomputable def c92_1 : Code := cdL c92_0
noncomputable def c92_2 : Code := cdR c92_0
noncomputable def c92_3 : Code := cdL c92_2
noncomputable def c92_4 : Code := cdL c92_3
noncomputable def c92_5 : Code := cdR c92_3
noncomputable def c92_6 : Code := cdL c92_5
noncomputable def c92_7 : Code := cdL c92_6
noncomputable def c92_8 : Code := cdL c92_7
noncomputable def c92_9 : Code := cdR c92_7
noncomputable def c92_10 : Code := cdL c92_9
noncomputable def c92_11 : Code := cdR c92_9
noncomputable def c92_12 : Code := cdL c92_11
noncomputable def c92_13 : Code := cdR c92_11
noncomputable def c92_14 : Code := cdL c92_13
noncomputable def c92_15 : Code := cdR c92_13
noncomputable def c92_16 : Code := cdR c92_6
noncomputable def c92_17 : Code := cdL c92_16
noncomputable def c92_18 : Code := cdL c92_17
noncomputable def c92_19 : Code := cdR c92_17
noncomputable def c92_20 : Code := cdR c92_16
noncomputable def c92_21 : Code := cdL c92_20
noncomputable def c92_22 : Code := cdR c92_20
noncomputable def c92_23 : Code := cdL c92_22
noncomputable def c92_24 : Code := cdL c92_23
noncomputable def c92_25 : Code := cdR c92_23
noncomputable def c92_26 : Code := cdR c92_22
noncomputable def c92_27 : Code := cdL c92_26
noncomputable def c92_28 : Code := cdR c92_26
noncomputable def c92_29 : Code := cdL c92_28
noncomputable def c92_30 : Code := cdL c92_29
noncomputable def c92_31 : Code := cdR c92_29
noncomputable def c92_32 : Code := cdR c92_28
noncomputable def c92_33 : Code := cdR c92_2
noncomputable def c92_34 : Code := cdL c92_33
noncomputable def c92_35 : Code := cdR c92_33
noncomputable def r92_1 : Array Oper := cdO c92_1
noncomputable def r92_4 : Array Oper := cdO c92_4
noncomputable def r92_8 : Array Oper := cdO c92_8
noncomputable def r92_12 : Array Oper := cdO c92_12
noncomputable def r92_15 : Array Oper := cdO c92_15
noncomputable def r92_18 : Array Oper := cdO c92_18
noncomputable def r92_21 : Array Oper := cdO c92_21
noncomputable def r92_24 : Array Oper := cdO c92_24
noncomputable def r92_27 : Array Oper := cdO c92_27
noncomputable def r92_30 : Array Oper := cdO c92_30
noncomputable def r92_34 : Array Oper := cdO c92_34
theorem c92_0e : c92_0 = .seq c92_1 c92_2 := by kernel_rfl
theorem c92_1e : c92_1 = .region 0 r92_1 false := by kernel_rfl
theorem c92_2e : c92_2 = .seq c92_3 c92_33 := by kernel_rfl
theorem c92_3e : c92_3 = .seq c92_4 c92_5 := by kernel_rfl
theorem c92_4e : c92_4 = .region 1 r92_4 false := by kernel_rfl
theorem c92_5e : c92_5 = .block 0 c92_6 := by kernel_rfl
theorem c92_6e : c92_6 = .seq c92_7 c92_16 := by kernel_rfl
theorem c92_7e : c92_7 = .seq c92_8 c92_9 := by kernel_rfl
theorem c92_8e : c92_8 = .region 2 r92_8 false := by kernel_rfl
theorem c92_9e : c92_9 = .cond (cdC c92_9) c92_10 c92_11 := by kernel_rfl
theorem c92_10e : c92_10 = .skip := by kernel_rfl
theorem c92_11e : c92_11 = .seq c92_12 c92_13 := by kernel_rfl
theorem c92_12e : c92_12 = .region 3 r92_12 false := by kernel_rfl
theorem c92_13e : c92_13 = .cond (cdC c92_13) c92_14 c92_15 := by kernel_rfl
theorem c92_14e : c92_14 = .skip := by kernel_rfl
theorem c92_15e : c92_15 = .region 4 r92_15 false := by kernel_rfl
theorem c92_16e : c92_16 = .cond (cdC c92_16) c92_17 c92_20 := by kernel_rfl
theorem c92_17e : c92_17 = .seq c92_18 c92_19 := by kernel_rfl
theorem c92_18e : c92_18 = .region 5 r92_18 false := by kernel_rfl
theorem c92_19e : c92_19 = .ret := by kernel_rfl
theorem c92_20e : c92_20 = .seq c92_21 c92_22 := by kernel_rfl
theorem c92_21e : c92_21 = .region 6 r92_21 false := by kernel_rfl
theorem c92_22e : c92_22 = .cond (cdC c92_22) c92_23 c92_26 := by kernel_rfl
theorem c92_23e : c92_23 = .seq c92_24 c92_25 := by kernel_rfl
theorem c92_24e : c92_24 = .region 7 r92_24 false := by kernel_rfl
theorem c92_25e : c92_25 = .ret := by kernel_rfl
theorem c92_26e : c92_26 = .seq c92_27 c92_28 := by kernel_rfl
theorem c92_27e : c92_27 = .region 8 r92_27 false := by kernel_rfl
theorem c92_28e : c92_28 = .cond (cdC c92_28) c92_29 c92_32 := by kernel_rfl
theorem c92_29e : c92_29 = .seq c92_30 c92_31 := by kernel_rfl
theorem c92_30e : c92_30 = .region 9 r92_30 false := by kernel_rfl
theorem c92_31e : c92_31 = .ret := by kernel_rfl
theorem c92_32e : c92_32 = .skip := by kernel_rfl
theorem c92_33e : c92_33 = .seq c92_34 c92_35 := by kernel_rfl
theorem c92_34e : c92_34 = .region 10 r92_34 false := by kernel_rfl
theorem c92_35e : c92_35 = .ret := by kernel_rfl
noncomputable def tontineref16_May.R (A_2 : Option Addr) (c_3 : Nat) : Pst Bool where
  ε := Unit
  v := fun r x => .bool r
  H := fun r x => []
  B := fun r x => []
noncomputable def tontineref16_May.cx (A_2 : Option Addr) (c_3 : Nat) (w0 : World) (S0 : Fam) : Cx Bool := ⟨Try.prog, 92, Try.f92, 63, w0, S0, [], 0, tontineref16_May.R A_2 c_3⟩
theorem tontineref16_May_j1_ok (n : Nat) (A_2 : Option Addr) (c_3 : Nat) (w0 : World) (S0 : Fam) (b_25 : Bool) :
    GoO (tontineref16_May.cx A_2 c_3 w0 S0) [(2, .bool b_25)] [] [] [.code c92_31, .inBlock 0, .code c92_33] (tontineref16_May.j1 n b_25) := by
  unfold tontineref16_May.j1
  exact GoO.ret' (h := c92_31e) (hs := []) (ps := []) (hk := []) (bk := []) Try.func92 () (by kernel_rfl) trivial (by kernel_rfl) (by kernel_rfl)
theorem tontineref16_May_j0_ok (n : Nat) (c_1 : T_api_Command) (A_2 : Option Addr) (c_3 : Nat) (b_4 : Nat) (w0 : World) (S0 : Fam) (b_7 : Bool) :
    GoO (tontineref16_May.cx A_2 c_3 w0 S0) [(1, vP b_4), (4, vI c_1.Kind), (5, .bool b_7)] [⟨40, b_4, [vI c_1.Kind, vU c_1.Session, vU c_1.Seq, vU c_1.Saga, .slice A_2 c_1.Steps.length c_3, vI c_1.Step, .bool c_1.Back, vI c_1.Try, .bool c_1.Ok, vU c_1.Now]⟩] [Rd 0 kT_api_Step A_2 c_3 c_1.Steps] [.code c92_16, .inBlock 0, .code c92_33] (tontineref16_May.j0 n c_1 b_7) := by
  unfold tontineref16_May.j0
  refine GoO.ite' c92_16e (by kernel_rfl) (fun h8 => ?_) (fun h8 => ?_)
  · refine GoO.seq' c92_17e ?_
    refine GoO.region' (is := [0, 1, 2, 3, 4, 5, 6, 7, 8]) c92_18e (by kernel_rfl) ?_
    refine GoO.exec (is := [0, 1, 2, 3, 4]) (hs := [.p, .b 0, .p, .p, .p]) (rest := [5, 6, 7, 8]) (ks := [1, 13]) (env' := [(1, vP b_4), (13, .bool ((c_1.Steps.length : Int) == 0))]) (H' := [⟨40, b_4, [vI c_1.Kind, vU c_1.Session, vU c_1.Seq, vU c_1.Saga, .slice A_2 c_1.Steps.length c_3, vI c_1.Step, .bool c_1.Back, vI c_1.Try, .bool c_1.Ok, vU c_1.Now]⟩]) (ps := [b_4 = b_4]) (by kernel_rfl) (And.intro rfl trivial) ?_
    refine GoO.bsplit (t := 13) (by kernel_rfl) (fun h9 => ?_) (fun h9 => ?_)
    · refine GoO.exec (is := [5]) (hs := [.b 0]) (rest := [6, 7, 8]) (ks := [13, 14]) (env' := [(13, .bool true), (14, .agg ⟨[vI c_1.Kind, vU c_1.Session, vU c_1.Seq, vU c_1.Saga, .slice A_2 c_1.Steps.length c_3, vI c_1.Step, .bool c_1.Back, vI c_1.Try, .bool c_1.Ok, vU c_1.Now]⟩)]) (H' := [⟨40, b_4, [vI c_1.Kind, vU c_1.Session, vU c_1.Seq, vU c_1.Saga, .slice A_2 c_1.Steps.length c_3, vI c_1.Step, .bool c_1.Back, vI c_1.Try, .bool c_1.Ok, vU c_1.Now]⟩]) (ps := [b_4 = b_4]) (by kernel_rfl) (And.intro rfl trivial) ?_
      refine OpTo.go (GoO.call rfl (by kernel_rfl) (by kernel_rfl) (tontineref16_bare_ok n c_1 A_2 c_3) [[0]] [] [] [(0, 0)] (hks := [0]) (bks := [0]) (by kernel_rfl) (by kernel_rfl) (by kernel_rfl) (.inl rfl) rfl rfl (by kernel_rfl) (by kernel_rfl) _ (fun _ _ => rfl) _ _ (fun _ _ => rfl) (fun _ _ => rfl) (fun _ _ => by kernel_rfl) (fun _ _ => by kernel_rfl) (fun r_10 x_11 => ?_))
      refine GoO.shape (env' := [(13, .bool true), (14, .agg ⟨[vI c_1.Kind, vU c_1.Session, vU c_1.Seq, vU c_1.Saga, .slice A_2 c_1.Steps.length c_3, vI c_1.Step, .bool c_1.Back, vI c_1.Try, .bool c_1.Ok, vU c_1.Now]⟩), (15, .bool r_10)]) (H' := [⟨40, b_4, [vI c_1.Kind, vU c_1.Session, vU c_1.Seq, vU c_1.Saga, .slice A_2 c_1.Steps.length c_3, vI c_1.Step, .bool c_1.Back, vI c_1.Try, .bool c_1.Ok, vU c_1.Now]⟩]) (B' := [Rd 0 kT_api_Step A_2 c_3 c_1.Steps]) (ks := [13, 14, 15]) (by kernel_rfl) (by kernel_rfl) (by kernel_rfl) ?_
      refine GoO.exec (is := [7, 8]) (hs := [.p, .p]) (rest := []) (ks := [2]) (env' := [(2, .bool r_10)]) (H' := [⟨40, b_4, [vI c_1.Kind, vU c_1.Session, vU c_1.Seq, vU c_1.Saga, .slice A_2 c_1.Steps.length c_3, vI c_1.Step, .bool c_1.Back, vI c_1.Try, .bool c_1.Ok, vU c_1.Now]⟩]) (ps := []) (by kernel_rfl) trivial ?_
      refine GoO.regionEnd ?_
      exact GoO.ret' (h := c92_19e) (hs := []) (ps := []) (hk := []) (bk := []) Try.func92 () (by kernel_rfl) trivial (by kernel_rfl) (by kernel_rfl)
    · refine GoO.exec (is := [5, 6, 7, 8]) (hs := [.p, .p, .p, .p]) (rest := []) (ks := [2]) (env' := [(2, .bool false)]) (H' := [⟨40, b_4, [vI c_1.Kind, vU c_1.Session, vU c_1.Seq, vU c_1.Saga, .slice A_2 c_1.Steps.length c_3, vI c_1.Step, .bool c_1.Back, vI c_1.Try, .bool c_1.Ok, vU c_1.Now]⟩]) (ps := []) (by kernel_rfl) trivial ?_
      refine GoO.regionEnd ?_
      exact GoO.ret' (h := c92_19e) (hs := []) (ps := []) (hk := []) (bk := []) Try.func92 () (by kernel_rfl) trivial (by kernel_rfl) (by kernel_rfl)
  · refine GoO.seq' c92_20e ?_
    refine GoO.region' (is := [0, 1]) c92_21e (by kernel_rfl) ?_
    refine GoO.exec (is := [0, 1]) (hs := [.p, .p]) (rest := []) (ks := [1, 4, 17]) (env' := [(1, vP b_4), (4, vI c_1.Kind), (17, .bool (c_1.Kind == 2))]) (H' := [⟨40, b_4, [vI c_1.Kind, vU c_1.Session, vU c_1.Seq, vU c_1.Saga, .slice A_2 c_1.Steps.length c_3, vI c_1.Step, .bool c_1.Back, vI c_1.Try, .bool c_1.Ok, vU c_1.Now]⟩]) (ps := []) (by kernel_rfl) trivial ?_
    refine GoO.regionEnd ?_
    refine GoO.ite' c92_22e (by kernel_rfl) (fun h12 => ?_) (fun h12 => ?_)
    · refine GoO.seq' c92_23e ?_
      refine GoO.region' (is := [0, 1, 2, 3, 4, 5, 6, 7, 8]) c92_24e (by kernel_rfl) ?_
      refine GoO.exec (is := [0, 1]) (hs := [.p, .b 0]) (rest := [2, 3, 4, 5, 6, 7, 8]) (ks := [1, 20]) (env' := [(1, vP b_4), (20, .slice A_2 c_1.Steps.length c_3)]) (H' := [⟨40, b_4, [vI c_1.Kind, vU c_1.Session, vU c_1.Seq, vU c_1.Saga, .slice A_2 c_1.Steps.length c_3, vI c_1.Step, .bool c_1.Back, vI c_1.Try, .bool c_1.Ok, vU c_1.Now]⟩]) (ps := [b_4 = b_4]) (by kernel_rfl) (And.intro rfl trivial) ?_
      refine OpTo.go (GoO.call rfl (by kernel_rfl) (by kernel_rfl) (tontineref13_Check_ok n c_1.Steps A_2 c_3) [[0]] [] [] [(0, 0)] (hks := [0]) (bks := [0]) (by kernel_rfl) (by kernel_rfl) (by kernel_rfl) (.inl rfl) rfl rfl (by kernel_rfl) (by kernel_rfl) _ (fun _ _ => rfl) _ _ (fun _ _ => rfl) (fun _ _ => rfl) (fun _ _ => by kernel_rfl) (fun _ _ => by kernel_rfl) (fun r_13 x_17 => ?_))
      refine GoO.shape (env' := [(1, vP b_4), (20, .slice A_2 c_1.Steps.length c_3), (21, vI r_13)]) (H' := [⟨40, b_4, [vI c_1.Kind, vU c_1.Session, vU c_1.Seq, vU c_1.Saga, .slice A_2 c_1.Steps.length c_3, vI c_1.Step, .bool c_1.Back, vI c_1.Try, .bool c_1.Ok, vU c_1.Now]⟩]) (B' := [Rd 0 kT_api_Step A_2 c_3 c_1.Steps]) (ks := [1, 20, 21]) (by kernel_rfl) (by kernel_rfl) (by kernel_rfl) ?_
      refine GoO.exec (is := [3, 4]) (hs := [.p, .p]) (rest := [5, 6, 7, 8]) (ks := [1, 23]) (env' := [(1, vP b_4), (23, .bool (r_13 == 0))]) (H' := [⟨40, b_4, [vI c_1.Kind, vU c_1.Session, vU c_1.Seq, vU c_1.Saga, .slice A_2 c_1.Steps.length c_3, vI c_1.Step, .bool c_1.Back, vI c_1.Try, .bool c_1.Ok, vU c_1.Now]⟩]) (ps := []) (by kernel_rfl) trivial ?_
      refine GoO.bsplit (t := 23) (by kernel_rfl) (fun h14 => ?_) (fun h14 => ?_)
      · refine GoO.exec (is := [5]) (hs := [.b 0]) (rest := [6, 7, 8]) (ks := [23, 24]) (env' := [(23, .bool true), (24, .agg ⟨[vI c_1.Kind, vU c_1.Session, vU c_1.Seq, vU c_1.Saga, .slice A_2 c_1.Steps.length c_3, vI c_1.Step, .bool c_1.Back, vI c_1.Try, .bool c_1.Ok, vU c_1.Now]⟩)]) (H' := [⟨40, b_4, [vI c_1.Kind, vU c_1.Session, vU c_1.Seq, vU c_1.Saga, .slice A_2 c_1.Steps.length c_3, vI c_1.Step, .bool c_1.Back, vI c_1.Try, .bool c_1.Ok, vU c_1.Now]⟩]) (ps := [b_4 = b_4]) (by kernel_rfl) (And.intro rfl trivial) ?_
        refine OpTo.go (GoO.call rfl (by kernel_rfl) (by kernel_rfl) (tontineref16_bare_ok n c_1 A_2 c_3) [[0]] [] [] [(0, 0)] (hks := [0]) (bks := [0]) (by kernel_rfl) (by kernel_rfl) (by kernel_rfl) (.inl rfl) rfl rfl (by kernel_rfl) (by kernel_rfl) _ (fun _ _ => rfl) _ _ (fun _ _ => rfl) (fun _ _ => rfl) (fun _ _ => by kernel_rfl) (fun _ _ => by kernel_rfl) (fun r_15 x_16 => ?_))
        refine GoO.shape (env' := [(23, .bool true), (24, .agg ⟨[vI c_1.Kind, vU c_1.Session, vU c_1.Seq, vU c_1.Saga, .slice A_2 c_1.Steps.length c_3, vI c_1.Step, .bool c_1.Back, vI c_1.Try, .bool c_1.Ok, vU c_1.Now]⟩), (25, .bool r_15)]) (H' := [⟨40, b_4, [vI c_1.Kind, vU c_1.Session, vU c_1.Seq, vU c_1.Saga, .slice A_2 c_1.Steps.length c_3, vI c_1.Step, .bool c_1.Back, vI c_1.Try, .bool c_1.Ok, vU c_1.Now]⟩]) (B' := [Rd 0 kT_api_Step A_2 c_3 c_1.Steps]) (ks := [23, 24, 25]) (by kernel_rfl) (by kernel_rfl) (by kernel_rfl) ?_
        refine GoO.exec (is := [7, 8]) (hs := [.p, .p]) (rest := []) (ks := [2]) (env' := [(2, .bool r_15)]) (H' := [⟨40, b_4, [vI c_1.Kind, vU c_1.Session, vU c_1.Seq, vU c_1.Saga, .slice A_2 c_1.Steps.length c_3, vI c_1.Step, .bool c_1.Back, vI c_1.Try, .bool c_1.Ok, vU c_1.Now]⟩]) (ps := []) (by kernel_rfl) trivial ?_
        refine GoO.regionEnd ?_
        exact GoO.ret' (h := c92_25e) (hs := []) (ps := []) (hk := []) (bk := []) Try.func92 () (by kernel_rfl) trivial (by kernel_rfl) (by kernel_rfl)
      · refine GoO.exec (is := [5, 6, 7, 8]) (hs := [.p, .p, .p, .p]) (rest := []) (ks := [2]) (env' := [(2, .bool false)]) (H' := [⟨40, b_4, [vI c_1.Kind, vU c_1.Session, vU c_1.Seq, vU c_1.Saga, .slice A_2 c_1.Steps.length c_3, vI c_1.Step, .bool c_1.Back, vI c_1.Try, .bool c_1.Ok, vU c_1.Now]⟩]) (ps := []) (by kernel_rfl) trivial ?_
        refine GoO.regionEnd ?_
        exact GoO.ret' (h := c92_25e) (hs := []) (ps := []) (hk := []) (bk := []) Try.func92 () (by kernel_rfl) trivial (by kernel_rfl) (by kernel_rfl)
    · refine GoO.seq' c92_26e ?_
      refine GoO.region' (is := [0, 1]) c92_27e (by kernel_rfl) ?_
      refine GoO.exec (is := [0, 1]) (hs := [.p, .p]) (rest := []) (ks := [1, 27]) (env' := [(1, vP b_4), (27, .bool (c_1.Kind == 4))]) (H' := [⟨40, b_4, [vI c_1.Kind, vU c_1.Session, vU c_1.Seq, vU c_1.Saga, .slice A_2 c_1.Steps.length c_3, vI c_1.Step, .bool c_1.Back, vI c_1.Try, .bool c_1.Ok, vU c_1.Now]⟩]) (ps := []) (by kernel_rfl) trivial ?_
      refine GoO.regionEnd ?_
      refine GoO.ite' c92_28e (by kernel_rfl) (fun h18 => ?_) (fun h18 => ?_)
      · refine GoO.seq' c92_29e ?_
        refine GoO.region' (is := [0, 1, 2, 3, 4, 5, 6, 7, 8, 9, 10, 11, 12, 13, 14, 15, 16, 17, 18, 19, 20, 21, 22, 23, 24, 25, 26, 27, 28, 29, 30, 31, 32, 33, 34]) c92_30e (by kernel_rfl) ?_
        refine GoO.exec (is := [0, 1, 2, 3, 4]) (hs := [.p, .b 0, .p, .p, .p]) (rest := [5, 6, 7, 8, 9, 10, 11, 12, 13, 14, 15, 16, 17, 18, 19, 20, 21, 22, 23, 24, 25, 26, 27, 28, 29, 30, 31, 32, 33, 34]) (ks := [1, 33]) (env' := [(1, vP b_4), (33, .bool ((c_1.Steps.length : Int) == 0))]) (H' := [⟨40, b_4, [vI c_1.Kind, vU c_1.Session, vU c_1.Seq, vU c_1.Saga, .slice A_2 c_1.Steps.length c_3, vI c_1.Step, .bool c_1.Back, vI c_1.Try, .bool c_1.Ok, vU c_1.Now]⟩]) (ps := [b_4 = b_4]) (by kernel_rfl) (And.intro rfl trivial) ?_
        refine GoO.bsplit (t := 33) (by kernel_rfl) (fun h19 => ?_) (fun h19 => ?_)
        · refine GoO.exec (is := [5, 6, 7, 8, 9]) (hs := [.p, .b 0, .p, .p, .p]) (rest := [10, 11, 12, 13, 14, 15, 16, 17, 18, 19, 20, 21, 22, 23, 24, 25, 26, 27, 28, 29, 30, 31, 32, 33, 34]) (ks := [1, 38]) (env' := [(1, vP b_4), (38, .bool (decide (c_1.Step ≥ 0)))]) (H' := [⟨40, b_4, [vI c_1.Kind, vU c_1.Session, vU c_1.Seq, vU c_1.Saga, .slice A_2 c_1.Steps.length c_3, vI c_1.Step, .bool c_1.Back, vI c_1.Try, .bool c_1.Ok, vU c_1.Now]⟩]) (ps := [b_4 = b_4]) (by kernel_rfl) (And.intro rfl trivial) ?_
          refine GoO.bsplit (t := 38) (by kernel_rfl) (fun h20 => ?_) (fun h20 => ?_)
          · refine GoO.exec (is := [10, 11, 12, 13, 14]) (hs := [.p, .b 0, .p, .p, .p]) (rest := [15, 16, 17, 18, 19, 20, 21, 22, 23, 24, 25, 26, 27, 28, 29, 30, 31, 32, 33, 34]) (ks := [1, 43]) (env' := [(1, vP b_4), (43, .bool (decide (c_1.Step ≤ 63)))]) (H' := [⟨40, b_4, [vI c_1.Kind, vU c_1.Session, vU c_1.Seq, vU c_1.Saga, .slice A_2 c_1.Steps.length c_3, vI c_1.Step, .bool c_1.Back, vI c_1.Try, .bool c_1.Ok, vU c_1.Now]⟩]) (ps := [b_4 = b_4]) (by kernel_rfl) (And.intro rfl trivial) ?_
            refine GoO.bsplit (t := 43) (by kernel_rfl) (fun h21 => ?_) (fun h21 => ?_)
            · refine GoO.exec (is := [15, 16, 17, 18, 19]) (hs := [.p, .b 0, .p, .p, .p]) (rest := [20, 21, 22, 23, 24, 25, 26, 27, 28, 29, 30, 31, 32, 33, 34]) (ks := [1, 48]) (env' := [(1, vP b_4), (48, .bool (decide (c_1.Try ≥ 0)))]) (H' := [⟨40, b_4, [vI c_1.Kind, vU c_1.Session, vU c_1.Seq, vU c_1.Saga, .slice A_2 c_1.Steps.length c_3, vI c_1.Step, .bool c_1.Back, vI c_1.Try, .bool c_1.Ok, vU c_1.Now]⟩]) (ps := [b_4 = b_4]) (by kernel_rfl) (And.intro rfl trivial) ?_
              refine GoO.bsplit (t := 48) (by kernel_rfl) (fun h22 => ?_) (fun h22 => ?_)
              · refine GoO.exec (is := [20, 21, 22, 23, 24]) (hs := [.p, .b 0, .p, .p, .p]) (rest := [25, 26, 27, 28, 29, 30, 31, 32, 33, 34]) (ks := [1, 53]) (env' := [(1, vP b_4), (53, .bool (decide (c_1.Try ≤ 8)))]) (H' := [⟨40, b_4, [vI c_1.Kind, vU c_1.Session, vU c_1.Seq, vU c_1.Saga, .slice A_2 c_1.Steps.length c_3, vI c_1.Step, .bool c_1.Back, vI c_1.Try, .bool c_1.Ok, vU c_1.Now]⟩]) (ps := [b_4 = b_4]) (by kernel_rfl) (And.intro rfl trivial) ?_
                refine GoO.bsplit (t := 53) (by kernel_rfl) (fun h23 => ?_) (fun h23 => ?_)
                · refine GoO.exec (is := [25, 26, 27, 28, 29]) (hs := [.p, .b 0, .p, .p, .p]) (rest := [30, 31, 32, 33, 34]) (ks := [1, 58]) (env' := [(1, vP b_4), (58, .bool (c_1.Session == 0))]) (H' := [⟨40, b_4, [vI c_1.Kind, vU c_1.Session, vU c_1.Seq, vU c_1.Saga, .slice A_2 c_1.Steps.length c_3, vI c_1.Step, .bool c_1.Back, vI c_1.Try, .bool c_1.Ok, vU c_1.Now]⟩]) (ps := [b_4 = b_4]) (by kernel_rfl) (And.intro rfl trivial) ?_
                  refine GoO.bsplit (t := 58) (by kernel_rfl) (fun h24 => ?_) (fun h24 => ?_)
                  · refine GoO.exec (is := [30, 31, 32, 33, 34]) (hs := [.p, .b 0, .p, .p, .p]) (rest := []) (ks := [2]) (env' := [(2, .bool (c_1.Seq == 0))]) (H' := [⟨40, b_4, [vI c_1.Kind, vU c_1.Session, vU c_1.Seq, vU c_1.Saga, .slice A_2 c_1.Steps.length c_3, vI c_1.Step, .bool c_1.Back, vI c_1.Try, .bool c_1.Ok, vU c_1.Now]⟩]) (ps := [b_4 = b_4]) (by kernel_rfl) (And.intro rfl trivial) ?_
                    refine GoO.regionEnd ?_
                    exact GoO.sub (ks := [2]) (hk := []) (bk := []) (by kernel_rfl) (by kernel_rfl) (by kernel_rfl) (tontineref16_May_j1_ok n A_2 c_3 w0 S0 (c_1.Seq == 0))
                  · refine GoO.exec (is := [30, 31, 32, 33, 34]) (hs := [.p, .p, .p, .p, .p]) (rest := []) (ks := [2]) (env' := [(2, .bool false)]) (H' := [⟨40, b_4, [vI c_1.Kind, vU c_1.Session, vU c_1.Seq, vU c_1.Saga, .slice A_2 c_1.Steps.length c_3, vI c_1.Step, .bool c_1.Back, vI c_1.Try, .bool c_1.Ok, vU c_1.Now]⟩]) (ps := []) (by kernel_rfl) trivial ?_
                    refine GoO.regionEnd ?_
                    exact GoO.sub (ks := [2]) (hk := []) (bk := []) (by kernel_rfl) (by kernel_rfl) (by kernel_rfl) (tontineref16_May_j1_ok n A_2 c_3 w0 S0 false)
                · refine GoO.exec (is := [25, 26, 27, 28, 29, 30, 31, 32, 33, 34]) (hs := [.p, .p, .p, .p, .p, .p, .p, .p, .p, .p]) (rest := []) (ks := [2]) (env' := [(2, .bool false)]) (H' := [⟨40, b_4, [vI c_1.Kind, vU c_1.Session, vU c_1.Seq, vU c_1.Saga, .slice A_2 c_1.Steps.length c_3, vI c_1.Step, .bool c_1.Back, vI c_1.Try, .bool c_1.Ok, vU c_1.Now]⟩]) (ps := []) (by kernel_rfl) trivial ?_
                  refine GoO.regionEnd ?_
                  exact GoO.sub (ks := [2]) (hk := []) (bk := []) (by kernel_rfl) (by kernel_rfl) (by kernel_rfl) (tontineref16_May_j1_ok n A_2 c_3 w0 S0 false)
              · refine GoO.exec (is := [20, 21, 22, 23, 24, 25, 26, 27, 28, 29, 30, 31, 32, 33, 34]) (hs := [.p, .p, .p, .p, .p, .p, .p, .p, .p, .p, .p, .p, .p, .p, .p]) (rest := []) (ks := [2]) (env' := [(2, .bool false)]) (H' := [⟨40, b_4, [vI c_1.Kind, vU c_1.Session, vU c_1.Seq, vU c_1.Saga, .slice A_2 c_1.Steps.length c_3, vI c_1.Step, .bool c_1.Back, vI c_1.Try, .bool c_1.Ok, vU c_1.Now]⟩]) (ps := []) (by kernel_rfl) trivial ?_
                refine GoO.regionEnd ?_
                exact GoO.sub (ks := [2]) (hk := []) (bk := []) (by kernel_rfl) (by kernel_rfl) (by kernel_rfl) (tontineref16_May_j1_ok n A_2 c_3 w0 S0 false)
            · refine GoO.exec (is := [15, 16, 17, 18, 19, 20, 21, 22, 23, 24, 25, 26, 27, 28, 29, 30, 31, 32, 33, 34]) (hs := [.p, .p, .p, .p, .p, .p, .p, .p, .p, .p, .p, .p, .p, .p, .p, .p, .p, .p, .p, .p]) (rest := []) (ks := [2]) (env' := [(2, .bool false)]) (H' := [⟨40, b_4, [vI c_1.Kind, vU c_1.Session, vU c_1.Seq, vU c_1.Saga, .slice A_2 c_1.Steps.length c_3, vI c_1.Step, .bool c_1.Back, vI c_1.Try, .bool c_1.Ok, vU c_1.Now]⟩]) (ps := []) (by kernel_rfl) trivial ?_
              refine GoO.regionEnd ?_
              exact GoO.sub (ks := [2]) (hk := []) (bk := []) (by kernel_rfl) (by kernel_rfl) (by kernel_rfl) (tontineref16_May_j1_ok n A_2 c_3 w0 S0 false)
          · refine GoO.exec (is := [10, 11, 12, 13, 14, 15, 16, 17, 18, 19, 20, 21, 22, 23, 24, 25, 26, 27, 28, 29, 30, 31, 32, 33, 34]) (hs := [.p, .p, .p, .p, .p, .p, .p, .p, .p, .p, .p, .p, .p, .p, .p, .p, .p, .p, .p, .p, .p, .p, .p, .p, .p]) (rest := []) (ks := [2]) (env' := [(2, .bool false)]) (H' := [⟨40, b_4, [vI c_1.Kind, vU c_1.Session, vU c_1.Seq, vU c_1.Saga, .slice A_2 c_1.Steps.length c_3, vI c_1.Step, .bool c_1.Back, vI c_1.Try, .bool c_1.Ok, vU c_1.Now]⟩]) (ps := []) (by kernel_rfl) trivial ?_
            refine GoO.regionEnd ?_
            exact GoO.sub (ks := [2]) (hk := []) (bk := []) (by kernel_rfl) (by kernel_rfl) (by kernel_rfl) (tontineref16_May_j1_ok n A_2 c_3 w0 S0 false)
        · refine GoO.exec (is := [5, 6, 7, 8, 9, 10, 11, 12, 13, 14, 15, 16, 17, 18, 19, 20, 21, 22, 23, 24, 25, 26, 27, 28, 29, 30, 31, 32, 33, 34]) (hs := [.p, .p, .p, .p, .p, .p, .p, .p, .p, .p, .p, .p, .p, .p, .p, .p, .p, .p, .p, .p, .p, .p, .p, .p, .p, .p, .p, .p, .p, .p]) (rest := []) (ks := [2]) (env' := [(2, .bool false)]) (H' := [⟨40, b_4, [vI c_1.Kind, vU c_1.Session, vU c_1.Seq, vU c_1.Saga, .slice A_2 c_1.Steps.length c_3, vI c_1.Step, .bool c_1.Back, vI c_1.Try, .bool c_1.Ok, vU c_1.Now]⟩]) (ps := []) (by kernel_rfl) trivial ?_
          refine GoO.regionEnd ?_
          exact GoO.sub (ks := [2]) (hk := []) (bk := []) (by kernel_rfl) (by kernel_rfl) (by kernel_rfl) (tontineref16_May_j1_ok n A_2 c_3 w0 S0 false)
      · refine GoO.skip' c92_32e ?_
        refine GoO.inBlock ?_
        refine GoO.seq' c92_33e ?_
        refine GoO.region' (is := [0]) c92_34e (by kernel_rfl) ?_
        refine GoO.exec (is := [0]) (hs := [.p]) (rest := []) (ks := [2]) (env' := [(2, .bool false)]) (H' := [⟨40, b_4, [vI c_1.Kind, vU c_1.Session, vU c_1.Seq, vU c_1.Saga, .slice A_2 c_1.Steps.length c_3, vI c_1.Step, .bool c_1.Back, vI c_1.Try, .bool c_1.Ok, vU c_1.Now]⟩]) (ps := []) (by kernel_rfl) trivial ?_
        refine GoO.regionEnd ?_
        exact GoO.ret' (h := c92_35e) (hs := []) (ps := []) (hk := []) (bk := []) Try.func92 () (by kernel_rfl) trivial (by kernel_rfl) (by kernel_rfl)
theorem tontineref16_May_ok (n : Nat) (c_1 : T_api_Command) (A_2 : Option Addr) (c_3 : Nat) :
    Meets Try.prog 92 [.agg ⟨[vI c_1.Kind, vU c_1.Session, vU c_1.Seq, vU c_1.Saga, .slice A_2 c_1.Steps.length c_3, vI c_1.Step, .bool c_1.Back, vI c_1.Try, .bool c_1.Ok, vU c_1.Now]⟩] 0 [] [] [Rd 0 kT_api_Step A_2 c_3 c_1.Steps] (tontineref16_May.f n c_1) (tontineref16_May.R A_2 c_3) := by
  refine Meets.of (c := c92_0) (n := 63) Try.func92 (by kernel_rfl) (by kernel_rfl) (by kernel_rfl) fun w0 S0 => ?_
  unfold tontineref16_May.f
  show GoO (tontineref16_May.cx A_2 c_3 w0 S0) [(0, .agg ⟨[vI c_1.Kind, vU c_1.Session, vU c_1.Seq, vU c_1.Saga, .slice A_2 c_1.Steps.length c_3, vI c_1.Step, .bool c_1.Back, vI c_1.Try, .bool c_1.Ok, vU c_1.Now]⟩)] [] [Rd 0 kT_api_Step A_2 c_3 c_1.Steps] [.code c92_0] _
  refine GoO.seq' c92_0e ?_
  refine GoO.region' (is := [0, 1]) c92_1e (by kernel_rfl) ?_
  refine OpTo.go (GoO.new rfl 40 (cs := [vI c_1.Kind, vU c_1.Session, vU c_1.Seq, vU c_1.Saga, .slice A_2 c_1.Steps.length c_3, vI c_1.Step, .bool c_1.Back, vI c_1.Try, .bool c_1.Ok, vU c_1.Now]) (by kernel_rfl) _ (fun _ => rfl) (fun b_4 => ?_))
  refine GoO.exec (is := [1]) (hs := [.p]) (rest := []) (ks := [1]) (env' := [(1, vP b_4)]) (H' := [⟨40, b_4, [vI c_1.Kind, vU c_1.Session, vU c_1.Seq, vU c_1.Saga, .slice A_2 c_1.Steps.length c_3, vI c_1.Step, .bool c_1.Back, vI c_1.Try, .bool c_1.Ok, vU c_1.Now]⟩]) (ps := []) (by kernel_rfl) trivial ?_
  refine GoO.regionEnd ?_
  refine GoO.seq' c92_2e ?_
  refine GoO.seq' c92_3e ?_
  refine GoO.region' (is := [0, 1]) c92_4e (by kernel_rfl) ?_
  refine GoO.exec (is := [0, 1]) (hs := [.p, .b 0]) (rest := []) (ks := [1, 4]) (env' := [(1, vP b_4), (4, vI c_1.Kind)]) (H' := [⟨40, b_4, [vI c_1.Kind, vU c_1.Session, vU c_1.Seq, vU c_1.Saga, .slice A_2 c_1.Steps.length c_3, vI c_1.Step, .bool c_1.Back, vI c_1.Try, .bool c_1.Ok, vU c_1.Now]⟩]) (ps := [b_4 = b_4]) (by kernel_rfl) (And.intro rfl trivial) ?_
  refine GoO.regionEnd ?_
  refine GoO.block' c92_5e ?_
  refine GoO.seq' c92_6e ?_
  refine GoO.seq' c92_7e ?_
  refine GoO.region' (is := [0, 1]) c92_8e (by kernel_rfl) ?_
  refine GoO.exec (is := [0, 1]) (hs := [.p, .p]) (rest := []) (ks := [1, 4, 5]) (env' := [(1, vP b_4), (4, vI c_1.Kind), (5, .bool (c_1.Kind == 1))]) (H' := [⟨40, b_4, [vI c_1.Kind, vU c_1.Session, vU c_1.Seq, vU c_1.Saga, .slice A_2 c_1.Steps.length c_3, vI c_1.Step, .bool c_1.Back, vI c_1.Try, .bool c_1.Ok, vU c_1.Now]⟩]) (ps := []) (by kernel_rfl) trivial ?_
  refine GoO.regionEnd ?_
  refine GoO.ite' c92_9e (by kernel_rfl) (fun h5 => ?_) (fun h5 => ?_)
  · refine GoO.skip' c92_10e ?_
    exact GoO.sub (ks := [1, 4, 5]) (hk := [0]) (bk := [0]) (by kernel_rfl) (by kernel_rfl) (by kernel_rfl) (tontineref16_May_j0_ok n c_1 A_2 c_3 b_4 w0 S0 (c_1.Kind == 1))
  · refine GoO.seq' c92_11e ?_
    refine GoO.region' (is := [0, 1]) c92_12e (by kernel_rfl) ?_
    refine GoO.exec (is := [0, 1]) (hs := [.p, .p]) (rest := []) (ks := [1, 4, 5]) (env' := [(1, vP b_4), (4, vI c_1.Kind), (5, .bool (c_1.Kind == 3))]) (H' := [⟨40, b_4, [vI c_1.Kind, vU c_1.Session, vU c_1.Seq, vU c_1.Saga, .slice A_2 c_1.Steps.length c_3, vI c_1.Step, .bool c_1.Back, vI c_1.Try, .bool c_1.Ok, vU c_1.Now]⟩]) (ps := []) (by kernel_rfl) trivial ?_
    refine GoO.regionEnd ?_
    refine GoO.ite' c92_13e (by kernel_rfl) (fun h6 => ?_) (fun h6 => ?_)
    · refine GoO.skip' c92_14e ?_
      exact GoO.sub (ks := [1, 4, 5]) (hk := [0]) (bk := [0]) (by kernel_rfl) (by kernel_rfl) (by kernel_rfl) (tontineref16_May_j0_ok n c_1 A_2 c_3 b_4 w0 S0 (c_1.Kind == 3))
    · refine GoO.region' (is := [0, 1]) c92_15e (by kernel_rfl) ?_
      refine GoO.exec (is := [0, 1]) (hs := [.p, .p]) (rest := []) (ks := [1, 4, 5]) (env' := [(1, vP b_4), (4, vI c_1.Kind), (5, .bool (c_1.Kind == 5))]) (H' := [⟨40, b_4, [vI c_1.Kind, vU c_1.Session, vU c_1.Seq, vU c_1.Saga, .slice A_2 c_1.Steps.length c_3, vI c_1.Step, .bool c_1.Back, vI c_1.Try, .bool c_1.Ok, vU c_1.Now]⟩]) (ps := []) (by kernel_rfl) trivial ?_
      refine GoO.regionEnd ?_
      exact GoO.sub (ks := [1, 4, 5]) (hk := [0]) (bk := [0]) (by kernel_rfl) (by kernel_rfl) (by kernel_rfl) (tontineref16_May_j0_ok n c_1 A_2 c_3 b_4 w0 S0 (c_1.Kind == 5))
/-! tontine/tontineref03.Text -/
noncomputable def c100_0 : Code := bodyOf Try.f100
noncomputable def c100_1 : Code := cdL c100_0
noncomputable def c100_2 : Code := cdR c100_0
noncomputable def c100_3 : Code := cdL c100_2
noncomputable def c100_4 : Code := cdR c100_2
noncomputable def r100_1 : Array Oper := cdO c100_1
noncomputable def r100_3 : Array Oper := cdO c100_3
theorem c100_0e : c100_0 = .seq c100_1 c100_2 := by kernel_rfl
theorem c100_1e : c100_1 = .region 0 r100_1 false := by kernel_rfl
theorem c100_2e : c100_2 = .seq c100_3 c100_4 := by kernel_rfl
theorem c100_3e : c100_3 = .region 1 r100_3 false := by kernel_rfl
theorem c100_4e : c100_4 = .ret := by kernel_rfl
noncomputable def tontineref03_Text.R : Pst (List UInt8) where
  ε := Unit
  v := fun r x => .string (bs r)
  H := fun r x => []
  B := fun r x => []
noncomputable def tontineref03_Text.cx (w0 : World) (S0 : Fam) : Cx (List UInt8) := ⟨Try.prog, 100, Try.f100, 9, w0, S0, [], 0, tontineref03_Text.R⟩
theorem tontineref03_Text_ok (n : Nat) (s_1 : (List UInt8)) :
    Meets Try.prog 100 [.string (bs s_1)] 0 [] [] [] (tontineref03_Text.f n s_1) (tontineref03_Text.R) := by
  refine Meets.of (c := c100_0) (n := 9) Try.func100 (by kernel_rfl) (by kernel_rfl) (by kernel_rfl) fun w0 S0 => ?_
  unfold tontineref03_Text.f
  show GoO (tontineref03_Text.cx w0 S0) [(0, .string (bs s_1))] [] [] [.code c100_0] _
  refine GoO.seq' c100_0e ?_
  refine GoO.region' (is := [0]) c100_1e (by kernel_rfl) ?_
  refine GoO.exec (is := [0]) (hs := [.p]) (rest := []) (ks := [0]) (env' := [(0, .string (bs s_1))]) (H' := []) (ps := []) (by kernel_rfl) trivial ?_
  refine GoO.regionEnd ?_
  refine GoO.seq' c100_2e ?_
  refine GoO.region' (is := [0, 1, 2, 3, 4, 5, 6]) c100_3e (by kernel_rfl) ?_
  refine GoO.exec (is := [0, 1, 2]) (hs := [.p, .p, .p]) (rest := [3, 4, 5, 6]) (ks := [0, 5]) (env' := [(0, .string (bs s_1)), (5, vU (wu64 (s_1.length : Int)))]) (H' := []) (ps := []) (by kernel_rfl) trivial ?_
  refine OpTo.go (GoO.call rfl (by kernel_rfl) (by kernel_rfl) (tontineref03_Num_ok n (wu64 (s_1.length : Int))) [[0]] [] [] [] (hks := []) (bks := []) (by kernel_rfl) (by kernel_rfl) (by kernel_rfl) (.inl rfl) rfl rfl (by kernel_rfl) (by kernel_rfl) _ (fun _ _ => rfl) _ _ (fun _ _ => rfl) (fun _ _ => rfl) (fun _ _ => by kernel_rfl) (fun _ _ => by kernel_rfl) (fun r_2 x_4 => ?_))
  refine GoO.shape (env' := [(0, .string (bs s_1)), (5, vU (wu64 (s_1.length : Int))), (6, .string (bs r_2))]) (H' := []) (B' := []) (ks := [0, 5, 6]) (by kernel_rfl) (by kernel_rfl) (by kernel_rfl) ?_
  refine GoO.guard (fun h3 => ?_)
  refine GoO.exec (is := [4, 5, 6]) (hs := [.p, .p, .p]) (rest := []) (ks := [2]) (env' := [(2, .string (bs (r_2 ++ s_1)))]) (H' := []) (ps := [r_2.length + s_1.length ≤ i64max]) (by kernel_rfl) (And.intro h3 trivial) ?_
  refine GoO.regionEnd ?_
  exact GoO.ret' (h := c100_4e) (hs := []) (ps := []) (hk := []) (bk := []) Try.func100 () (by kernel_rfl) trivial (by kernel_rfl) (by kernel_rfl)
/-! tontine/tontineref13.Bytes -/
noncomputable def c93_0 : Code := bodyOf Try.f93
noncomputable def c93_1 : Code := cdL c93_0
noncomputable def c93_2 : Code := cdR c93_0
noncomputable def c93_3 : Code := cdL c93_2
noncomputable def c93_4 : Code := cdR c93_2
noncomputable def c93_5 : Code := cdL c93_4
noncomputable def c93_6 : Code := cdL c93_5
noncomputable def c93_7 : Code := cdR c93_5
noncomputable def c93_8 : Code := cdL c93_7
noncomputable def c93_9 : Code := cdL c93_8
noncomputable def c93_10 : Code := cdL c93_9
noncomputable def c93_11 : Code := cdL c93_10
noncomputable def c93_12 : Code := cdR c93_10
noncomputable def c93_13 : Code := cdL c93_12
noncomputable def c93_14 : Code := cdR c93_12
noncomputable def c93_15 : Code := cdR c93_9
noncomputable def c93_16 : Code := cdL c93_15
noncomputable def c93_17 : Code := cdL c93_16
noncomputable def c93_18 : Code := cdR c93_15
noncomputable def c93_19 : Code := cdR c93_4
noncomputable def c93_20 : Code := cdL c93_19
noncomputable def c93_21 : Code := cdR c93_19
noncomputable def r93_1 : Array Oper := cdO c93_1
noncomputable def r93_3 : Array Oper := cdO c93_3
noncomputable def r93_6 : Array Oper := cdO c93_6
noncomputable def r93_11 : Array Oper := cdO c93_11
noncomputable def r93_17 : Array Oper := cdO c93_17
noncomputable def r93_18 : Array Oper := cdO c93_18
noncomputable def r93_20 : Array Oper := cdO c93_20
theorem c93_0e : c93_0 = .seq c93_1 c93_2 := by kernel_rfl
theorem c93_1e : c93_1 = .region 0 r93_1 false := by kernel_rfl
theorem c93_2e : c93_2 = .seq c93_3 c93_4 := by kernel_rfl
theorem c93_3e : c93_3 = .region 1 r93_3 false := by kernel_rfl
theorem c93_4e : c93_4 = .seq c93_5 c93_19 := by kernel_rfl
theorem c93_5e : c93_5 = .seq c93_6 c93_7 := by kernel_rfl
theorem c93_6e : c93_6 = .region 2 r93_6 false := by kernel_rfl
theorem c93_7e : c93_7 = .block 0 c93_8 := by kernel_rfl
theorem c93_8e : c93_8 = .loop c93_9 := by kernel_rfl
theorem c93_9e : c93_9 = .seq c93_10 c93_15 := by kernel_rfl
theorem c93_10e : c93_10 = .seq c93_11 c93_12 := by kernel_rfl
theorem c93_11e : c93_11 = .region 3 r93_11 false := by kernel_rfl
theorem c93_12e : c93_12 = .cond (cdC c93_12) c93_13 c93_14 := by kernel_rfl
theorem c93_13e : c93_13 = .skip := by kernel_rfl
theorem c93_14e : c93_14 = .exit 0 := by kernel_rfl
theorem c93_15e : c93_15 = .seq c93_16 c93_18 := by kernel_rfl
theorem c93_16e : c93_16 = .block 1 c93_17 := by kernel_rfl
theorem c93_17e : c93_17 = .region 5 r93_17 true := by kernel_rfl
theorem c93_18e : c93_18 = .region 4 r93_18 false := by kernel_rfl
theorem c93_19e : c93_19 = .seq c93_20 c93_21 := by kernel_rfl
theorem c93_20e : c93_20 = .region 6 r93_20 false := by kernel_rfl
theorem c93_21e : c93_21 = .ret := by kernel_rfl
noncomputable def tontineref13_Bytes.R (A_2 : Option Addr) (c_3 : Nat) : Pst (List UInt8) where
  ε := Unit
  v := fun r x => .string (bs r)
  H := fun r x => []
  B := fun r x => []
noncomputable def tontineref13_Bytes.cx (A_2 : Option Addr) (c_3 : Nat) (w0 : World) (S0 : Fam) : Cx (List UInt8) := ⟨Try.prog, 93, Try.f93, 40, w0, S0, [], 0, tontineref13_Bytes.R A_2 c_3⟩
end Go.GL
