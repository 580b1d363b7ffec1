import Derived.Test.YtolipnnfdclkoaaXWalkClientNumbersP1
import Derived.Test.YtolipnnfdclkoaaXKindsT2
import Derived.Test.YtolipnnfdclkoaaProg
set_option linter.unusedVariables false
set_option linter.unusedSimpArgs false
set_option maxRecDepth 100000
namespace Go.GL
open Go Go.Proofs
theorem pack_Reader_Done_ok (n : Nat) (r_1 : T_pack_Reader) (b_2 : Nat) :
    Meets Try.prog 82 [vP b_2] 1 [] [⟨1, b_2, [.string (bs r_1.s), .bool r_1.bad]⟩] [] (pack_Reader_Done.f n r_1) (pack_Reader_Done.R b_2) := by
  refine Meets.of (c := c82_0) (n := 15) Try.func82 (by kernel_rfl) (by kernel_rfl) (by kernel_rfl) fun w0 S0 => ?_
  unfold pack_Reader_Done.f
  show GoO (pack_Reader_Done.cx b_2 w0 S0) [(0, vP b_2)] [⟨1, b_2, [.string (bs r_1.s), .bool r_1.bad]⟩] [] [.code c82_0] _
  refine GoO.seq' c82_0e ?_
  refine GoO.region' (is := [0]) c82_1e (by kernel_rfl) ?_
  refine GoO.exec (is := [0]) (hs := [.p]) (rest := []) (ks := [0]) (env' := [(0, vP b_2)]) (H' := [⟨1, b_2, [.string (bs r_1.s), .bool r_1.bad]⟩]) (ps := []) (by kernel_rfl) trivial ?_
  refine GoO.regionEnd ?_
  refine GoO.seq' c82_2e ?_
  refine GoO.region' (is := [0, 1, 2, 3, 4, 5, 6]) c82_3e (by kernel_rfl) ?_
  refine GoO.exec (is := [0]) (hs := [.p]) (rest := [1, 2, 3, 4, 5, 6]) (ks := [6]) (env' := [(6, vP b_2)]) (H' := [⟨1, b_2, [.string (bs r_1.s), .bool r_1.bad]⟩]) (ps := []) (by kernel_rfl) trivial ?_
  refine OpTo.go (GoO.call rfl (by kernel_rfl) (by kernel_rfl) (pack_Reader_Left_ok n r_1 b_2) [[0], [1]] [] [(1, 0)] [] (hks := [0]) (bks := []) (by kernel_rfl) (by kernel_rfl) (by kernel_rfl) (.inl rfl) rfl rfl (by kernel_rfl) (by kernel_rfl) _ (fun _ _ => rfl) _ _ (fun _ _ => rfl) (fun _ _ => rfl) (fun _ _ => by kernel_rfl) (fun _ _ => by kernel_rfl) (fun r_3 x_5 => ?_))
  refine GoO.shape (env' := [(6, vP b_2), (7, .tuple ⟨[vI r_3.1, .bool r_3.2]⟩)]) (H' := [⟨1, b_2, [.string (bs r_1.s), .bool r_1.bad]⟩]) (B' := []) (ks := [6, 7]) (by kernel_rfl) (by kernel_rfl) (by kernel_rfl) ?_
  refine GoO.exec (is := [2, 3, 4, 5, 6]) (hs := [.p, .p, .p, .p, .p]) (rest := []) (ks := [3, 4]) (env' := [(3, vI r_3.1), (4, .bool r_3.2)]) (H' := [⟨1, b_2, [.string (bs r_1.s), .bool r_1.bad]⟩]) (ps := []) (by kernel_rfl) trivial ?_
  refine GoO.regionEnd ?_
  refine GoO.seq' c82_4e ?_
  refine GoO.region' (is := [0, 1, 2, 3, 4, 5]) c82_5e (by kernel_rfl) ?_
  refine GoO.exec (is := [0, 1, 2]) (hs := [.p, .p, .p]) (rest := [3, 4, 5]) (ks := [4, 12]) (env' := [(4, .bool r_3.2), (12, .bool (r_3.1 == 0))]) (H' := [⟨1, b_2, [.string (bs r_1.s), .bool r_1.bad]⟩]) (ps := []) (by kernel_rfl) trivial ?_
  refine GoO.bsplit (t := 12) (by kernel_rfl) (fun h4 => ?_) (fun h4 => ?_)
  · refine GoO.exec (is := [3, 4, 5]) (hs := [.p, .p, .p]) (rest := []) (ks := [2]) (env' := [(2, .bool r_3.2)]) (H' := [⟨1, b_2, [.string (bs r_1.s), .bool r_1.bad]⟩]) (ps := []) (by kernel_rfl) trivial ?_
    refine GoO.regionEnd ?_
    exact GoO.ret' (h := c82_6e) (hs := []) (ps := []) (hk := []) (bk := []) Try.func82 () (by kernel_rfl) trivial (by kernel_rfl) (by kernel_rfl)
  · refine GoO.exec (is := [3, 4, 5]) (hs := [.p, .p, .p]) (rest := []) (ks := [2]) (env' := [(2, .bool false)]) (H' := [⟨1, b_2, [.string (bs r_1.s), .bool r_1.bad]⟩]) (ps := []) (by kernel_rfl) trivial ?_
    refine GoO.regionEnd ?_
    exact GoO.ret' (h := c82_6e) (hs := []) (ps := []) (hk := []) (bk := []) Try.func82 () (by kernel_rfl) trivial (by kernel_rfl) (by kernel_rfl)
/-! tontine/command.Said -/
noncomputable def c70_0 : Code := bodyOf Try.f70
noncomputable def c70_1 : Code := cdL c70_0
noncomputable def c70_2 : Code := cdR c70_0
noncomputable def c70_3 : Code := cdL c70_2
noncomputable def c70_4 : Code := cdR c70_2
noncomputable def c70_5 : Code := cdL c70_4
noncomputable def c70_6 : Code := cdR c70_4
noncomputable def c70_7 : Code := cdL c70_6
noncomputable def c70_8 : Code := cdR c70_6
noncomputable def c70_9 : Code := cdL c70_8
noncomputable def c70_10 : Code := cdR c70_8
noncomputable def c70_11 : Code := cdL c70_10
noncomputable def c70_12 : Code := cdL c70_11
noncomputable def c70_13 : Code := cdR c70_11
noncomputable def c70_14 : Code := cdL c70_13
noncomputable def c70_15 : Code := cdL c70_14
noncomputable def c70_16 : Code := cdR c70_14
noncomputable def c70_17 : Code := cdR c70_13
noncomputable def c70_18 : Code := cdR c70_10
noncomputable def c70_19 : Code := cdL c70_18
noncomputable def c70_20 : Code := cdR c70_18
noncomputable def r70_1 : Array Oper := cdO c70_1
noncomputable def r70_3 : Array Oper := cdO c70_3
noncomputable def r70_5 : Array Oper := cdO c70_5
noncomputable def r70_7 : Array Oper := cdO c70_7
noncomputable def r70_9 : Array Oper := cdO c70_9
noncomputable def r70_12 : Array Oper := cdO c70_12
noncomputable def r70_15 : Array Oper := cdO c70_15
noncomputable def r70_19 : Array Oper := cdO c70_19
theorem c70_0e : c70_0 = .seq c70_1 c70_2 := by kernel_rfl
theorem c70_1e : c70_1 = .region 0 r70_1 false := by kernel_rfl
theorem c70_2e : c70_2 = .seq c70_3 c70_4 := by kernel_rfl
theorem c70_3e : c70_3 = .region 1 r70_3 false := by kernel_rfl
theorem c70_4e : c70_4 = .seq c70_5 c70_6 := by kernel_rfl
theorem c70_5e : c70_5 = .region 2 r70_5 false := by kernel_rfl
theorem c70_6e : c70_6 = .seq c70_7 c70_8 := by kernel_rfl
theorem c70_7e : c70_7 = .region 3 r70_7 false := by kernel_rfl
theorem c70_8e : c70_8 = .seq c70_9 c70_10 := by kernel_rfl
theorem c70_9e : c70_9 = .region 4 r70_9 false := by kernel_rfl
theorem c70_10e : c70_10 = .seq c70_11 c70_18 := by kernel_rfl
theorem c70_11e : c70_11 = .seq c70_12 c70_13 := by kernel_rfl
theorem c70_12e : c70_12 = .region 5 r70_12 false := by kernel_rfl
theorem c70_13e : c70_13 = .cond (cdC c70_13) c70_14 c70_17 := by kernel_rfl
theorem c70_14e : c70_14 = .seq c70_15 c70_16 := by kernel_rfl
theorem c70_15e : c70_15 = .region 6 r70_15 false := by kernel_rfl
theorem c70_16e : c70_16 = .ret := by kernel_rfl
theorem c70_17e : c70_17 = .skip := by kernel_rfl
theorem c70_18e : c70_18 = .seq c70_19 c70_20 := by kernel_rfl
theorem c70_19e : c70_19 = .region 7 r70_19 false := by kernel_rfl
theorem c70_20e : c70_20 = .ret := by kernel_rfl
noncomputable def command_Said.R : Pst (T_api_Reply × Int) where
  ε := Unit
  v := fun r x => .tuple ⟨[.agg ⟨[vI r.1.Err, vU r.1.Num, vU r.1.Extra]⟩, vI r.2]⟩
  H := fun r x => []
  B := fun r x => []
noncomputable def command_Said.cx (w0 : World) (S0 : Fam) : Cx (T_api_Reply × Int) := ⟨Try.prog, 70, Try.f70, 22, w0, S0, [], 0, command_Said.R⟩
theorem command_Said_ok (n : Nat) (s_1 : (List UInt8)) :
    Meets Try.prog 70 [.string (bs s_1)] 0 [] [] [] (command_Said.f n s_1) (command_Said.R) := by
  refine Meets.of (c := c70_0) (n := 22) Try.func70 (by kernel_rfl) (by kernel_rfl) (by kernel_rfl) fun w0 S0 => ?_
  unfold command_Said.f
  show GoO (command_Said.cx w0 S0) [(0, .string (bs s_1))] [] [] [.code c70_0] _
  refine GoO.seq' c70_0e ?_
  refine GoO.region' (is := [0, 1]) c70_1e (by kernel_rfl) ?_
  refine OpTo.go (GoO.new rfl 40 (cs := [vI 0, vU 0, vU 0]) (by kernel_rfl) _ (fun _ => rfl) (fun b_2 => ?_))
  refine GoO.exec (is := [1]) (hs := [.p]) (rest := []) (ks := [0, 2]) (env' := [(0, .string (bs s_1)), (2, vP b_2)]) (H' := [⟨40, b_2, [vI 0, vU 0, vU 0]⟩]) (ps := []) (by kernel_rfl) trivial ?_
  refine GoO.regionEnd ?_
  refine GoO.seq' c70_2e ?_
  refine GoO.region' (is := [0, 1, 2]) c70_3e (by kernel_rfl) ?_
  refine GoO.exec (is := [0]) (hs := [.p]) (rest := [1, 2]) (ks := [2, 6]) (env' := [(2, vP b_2), (6, .string (bs s_1))]) (H' := [⟨40, b_2, [vI 0, vU 0, vU 0]⟩]) (ps := []) (by kernel_rfl) trivial ?_
  refine OpTo.go (GoO.call rfl (by kernel_rfl) (by kernel_rfl) (pack_From_ok n s_1) [[0]] [(41, 1)] [] [] (hks := [0]) (bks := []) (by kernel_rfl) (by kernel_rfl) (by kernel_rfl) (.inl rfl) rfl rfl (by kernel_rfl) (by kernel_rfl) _ (fun _ _ => rfl) _ _ (fun _ _ => rfl) (fun _ _ => rfl) (fun _ _ => by kernel_rfl) (fun _ _ => by kernel_rfl) (fun r_3 b_4 => ?_))
  refine GoO.shape (env' := [(2, vP b_2), (6, .string (bs s_1)), (7, vP b_4)]) (H' := [⟨41, b_4, [.string (bs r_3.s), .bool r_3.bad]⟩, ⟨40, b_2, [vI 0, vU 0, vU 0]⟩]) (B' := []) (ks := [2, 6, 7]) (by kernel_rfl) (by kernel_rfl) (by kernel_rfl) ?_
  refine GoO.exec (is := [2]) (hs := [.p]) (rest := []) (ks := [2, 4]) (env' := [(2, vP b_2), (4, vP b_4)]) (H' := [⟨41, b_4, [.string (bs r_3.s), .bool r_3.bad]⟩, ⟨40, b_2, [vI 0, vU 0, vU 0]⟩]) (ps := []) (by kernel_rfl) trivial ?_
  refine GoO.regionEnd ?_
  refine GoO.seq' c70_4e ?_
  refine GoO.region' (is := [0, 1, 2, 3, 4]) c70_5e (by kernel_rfl) ?_
  refine GoO.exec (is := [0]) (hs := [.p]) (rest := [1, 2, 3, 4]) (ks := [2, 4, 8]) (env' := [(2, vP b_2), (4, vP b_4), (8, vP b_4)]) (H' := [⟨41, b_4, [.string (bs r_3.s), .bool r_3.bad]⟩, ⟨40, b_2, [vI 0, vU 0, vU 0]⟩]) (ps := []) (by kernel_rfl) trivial ?_
  refine OpTo.go (GoO.call rfl (by kernel_rfl) (by kernel_rfl) (pack_Reader_Up_ok n r_3 52 b_4) [[0], [41]] [(41, 1)] [(1, 0)] [] (hks := [1]) (bks := []) (by kernel_rfl) (by kernel_rfl) (by kernel_rfl) (.inl rfl) rfl rfl (by kernel_rfl) (by kernel_rfl) _ (fun _ _ => rfl) _ _ (fun _ _ => rfl) (fun _ _ => rfl) (fun _ _ => by kernel_rfl) (fun _ _ => by kernel_rfl) (fun r_5 x_14 => ?_))
  refine GoO.shape (env' := [(2, vP b_2), (4, vP b_4), (8, vP b_4), (9, vI r_5.1)]) (H' := [⟨41, b_4, [.string (bs r_5.2.s), .bool r_5.2.bad]⟩, ⟨40, b_2, [vI 0, vU 0, vU 0]⟩]) (B' := []) (ks := [2, 4, 8, 9]) (by kernel_rfl) (by kernel_rfl) (by kernel_rfl) ?_
  refine GoO.exec (is := [2]) (hs := [.p]) (rest := [3, 4]) (ks := [2, 4, 10]) (env' := [(2, vP b_2), (4, vP b_4), (10, .agg ⟨[vI r_5.1, vU 0, vU 0]⟩)]) (H' := [⟨41, b_4, [.string (bs r_5.2.s), .bool r_5.2.bad]⟩, ⟨40, b_2, [vI 0, vU 0, vU 0]⟩]) (ps := []) (by kernel_rfl) trivial ?_
  refine OpTo.go (GoO.new rfl 42 (cs := [vI 0, vU 0, vU 0]) (by kernel_rfl) _ (fun _ => rfl) (fun b_6 => ?_))
  refine GoO.exec (is := [4]) (hs := [.b 0]) (rest := []) (ks := [2, 4, 5]) (env' := [(2, vP b_2), (4, vP b_4), (5, vP b_6)]) (H' := [⟨42, b_6, [vI r_5.1, vU 0, vU 0]⟩, ⟨41, b_4, [.string (bs r_5.2.s), .bool r_5.2.bad]⟩, ⟨40, b_2, [vI 0, vU 0, vU 0]⟩]) (ps := [b_6 = b_6]) (by kernel_rfl) (And.intro rfl trivial) ?_
  refine GoO.regionEnd ?_
  refine GoO.seq' c70_6e ?_
  refine GoO.region' (is := [0, 1, 2, 3]) c70_7e (by kernel_rfl) ?_
  refine GoO.exec (is := [0]) (hs := [.p]) (rest := [1, 2, 3]) (ks := [2, 4, 5, 11]) (env' := [(2, vP b_2), (4, vP b_4), (5, vP b_6), (11, vP b_4)]) (H' := [⟨42, b_6, [vI r_5.1, vU 0, vU 0]⟩, ⟨41, b_4, [.string (bs r_5.2.s), .bool r_5.2.bad]⟩, ⟨40, b_2, [vI 0, vU 0, vU 0]⟩]) (ps := []) (by kernel_rfl) trivial ?_
  refine OpTo.go (GoO.call rfl (by kernel_rfl) (by kernel_rfl) (pack_Reader_Num_ok n r_5.2 b_4) [[0], [41]] [(41, 1)] [(1, 1)] [] (hks := [0, 2]) (bks := []) (by kernel_rfl) (by kernel_rfl) (by kernel_rfl) (.inl rfl) rfl rfl (by kernel_rfl) (by kernel_rfl) _ (fun _ _ => rfl) _ _ (fun _ _ => rfl) (fun _ _ => rfl) (fun _ _ => by kernel_rfl) (fun _ _ => by kernel_rfl) (fun r_7 x_13 => ?_))
  refine GoO.shape (env' := [(2, vP b_2), (4, vP b_4), (5, vP b_6), (11, vP b_4), (12, vU r_7.1)]) (H' := [⟨41, b_4, [.string (bs r_7.2.s), .bool r_7.2.bad]⟩, ⟨42, b_6, [vI r_5.1, vU 0, vU 0]⟩, ⟨40, b_2, [vI 0, vU 0, vU 0]⟩]) (B' := []) (ks := [2, 4, 5, 11, 12]) (by kernel_rfl) (by kernel_rfl) (by kernel_rfl) ?_
  refine GoO.exec (is := [2, 3]) (hs := [.p, .b 1]) (rest := []) (ks := [2, 4, 5]) (env' := [(2, vP b_2), (4, vP b_4), (5, vP b_6)]) (H' := [⟨41, b_4, [.string (bs r_7.2.s), .bool r_7.2.bad]⟩, ⟨42, b_6, [vI r_5.1, vU r_7.1, vU 0]⟩, ⟨40, b_2, [vI 0, vU 0, vU 0]⟩]) (ps := [b_6 = b_6]) (by kernel_rfl) (And.intro rfl trivial) ?_
  refine GoO.regionEnd ?_
  refine GoO.seq' c70_8e ?_
  refine GoO.region' (is := [0, 1, 2, 3]) c70_9e (by kernel_rfl) ?_
  refine GoO.exec (is := [0]) (hs := [.p]) (rest := [1, 2, 3]) (ks := [2, 4, 5, 14]) (env' := [(2, vP b_2), (4, vP b_4), (5, vP b_6), (14, vP b_4)]) (H' := [⟨41, b_4, [.string (bs r_7.2.s), .bool r_7.2.bad]⟩, ⟨42, b_6, [vI r_5.1, vU r_7.1, vU 0]⟩, ⟨40, b_2, [vI 0, vU 0, vU 0]⟩]) (ps := []) (by kernel_rfl) trivial ?_
  refine OpTo.go (GoO.call rfl (by kernel_rfl) (by kernel_rfl) (pack_Reader_Num_ok n r_7.2 b_4) [[0], [41]] [(41, 1)] [(1, 0)] [] (hks := [1, 2]) (bks := []) (by kernel_rfl) (by kernel_rfl) (by kernel_rfl) (.inl rfl) rfl rfl (by kernel_rfl) (by kernel_rfl) _ (fun _ _ => rfl) _ _ (fun _ _ => rfl) (fun _ _ => rfl) (fun _ _ => by kernel_rfl) (fun _ _ => by kernel_rfl) (fun r_8 x_12 => ?_))
  refine GoO.shape (env' := [(2, vP b_2), (4, vP b_4), (5, vP b_6), (14, vP b_4), (15, vU r_8.1)]) (H' := [⟨41, b_4, [.string (bs r_8.2.s), .bool r_8.2.bad]⟩, ⟨42, b_6, [vI r_5.1, vU r_7.1, vU 0]⟩, ⟨40, b_2, [vI 0, vU 0, vU 0]⟩]) (B' := []) (ks := [2, 4, 5, 14, 15]) (by kernel_rfl) (by kernel_rfl) (by kernel_rfl) ?_
  refine GoO.exec (is := [2, 3]) (hs := [.p, .b 1]) (rest := []) (ks := [2, 4, 5]) (env' := [(2, vP b_2), (4, vP b_4), (5, vP b_6)]) (H' := [⟨41, b_4, [.string (bs r_8.2.s), .bool r_8.2.bad]⟩, ⟨42, b_6, [vI r_5.1, vU r_7.1, vU r_8.1]⟩, ⟨40, b_2, [vI 0, vU 0, vU 0]⟩]) (ps := [b_6 = b_6]) (by kernel_rfl) (And.intro rfl trivial) ?_
  refine GoO.regionEnd ?_
  refine GoO.seq' c70_10e ?_
  refine GoO.seq' c70_11e ?_
  refine GoO.region' (is := [0, 1, 2]) c70_12e (by kernel_rfl) ?_
  refine GoO.exec (is := [0]) (hs := [.p]) (rest := [1, 2]) (ks := [2, 5, 17]) (env' := [(2, vP b_2), (5, vP b_6), (17, vP b_4)]) (H' := [⟨41, b_4, [.string (bs r_8.2.s), .bool r_8.2.bad]⟩, ⟨42, b_6, [vI r_5.1, vU r_7.1, vU r_8.1]⟩, ⟨40, b_2, [vI 0, vU 0, vU 0]⟩]) (ps := []) (by kernel_rfl) trivial ?_
  refine OpTo.go (GoO.call rfl (by kernel_rfl) (by kernel_rfl) (pack_Reader_Done_ok n r_8.2 b_4) [[0], [41]] [] [(1, 0)] [] (hks := [0, 1, 2]) (bks := []) (by kernel_rfl) (by kernel_rfl) (by kernel_rfl) (.inl rfl) rfl rfl (by kernel_rfl) (by kernel_rfl) _ (fun _ _ => rfl) _ _ (fun _ _ => rfl) (fun _ _ => rfl) (fun _ _ => by kernel_rfl) (fun _ _ => by kernel_rfl) (fun r_9 x_11 => ?_))
  refine GoO.shape (env' := [(2, vP b_2), (5, vP b_6), (17, vP b_4), (18, .bool r_9)]) (H' := [⟨41, b_4, [.string (bs r_8.2.s), .bool r_8.2.bad]⟩, ⟨42, b_6, [vI r_5.1, vU r_7.1, vU r_8.1]⟩, ⟨40, b_2, [vI 0, vU 0, vU 0]⟩]) (B' := []) (ks := [2, 5, 17, 18]) (by kernel_rfl) (by kernel_rfl) (by kernel_rfl) ?_
  refine GoO.exec (is := [2]) (hs := [.p]) (rest := []) (ks := [2, 5, 19]) (env' := [(2, vP b_2), (5, vP b_6), (19, .bool (!r_9))]) (H' := [⟨41, b_4, [.string (bs r_8.2.s), .bool r_8.2.bad]⟩, ⟨42, b_6, [vI r_5.1, vU r_7.1, vU r_8.1]⟩, ⟨40, b_2, [vI 0, vU 0, vU 0]⟩]) (ps := []) (by kernel_rfl) trivial ?_
  refine GoO.regionEnd ?_
  refine GoO.ite' c70_13e (by kernel_rfl) (fun h10 => ?_) (fun h10 => ?_)
  · refine GoO.seq' c70_14e ?_
    refine GoO.region' (is := [0, 1, 2]) c70_15e (by kernel_rfl) ?_
    refine GoO.exec (is := [0, 1, 2]) (hs := [.p, .b 2, .p]) (rest := []) (ks := [2, 3]) (env' := [(2, vP b_2), (3, vI 2)]) (H' := [⟨41, b_4, [.string (bs r_8.2.s), .bool r_8.2.bad]⟩, ⟨42, b_6, [vI r_5.1, vU r_7.1, vU r_8.1]⟩, ⟨40, b_2, [vI 0, vU 0, vU 0]⟩]) (ps := [b_2 = b_2]) (by kernel_rfl) (And.intro rfl trivial) ?_
    refine GoO.regionEnd ?_
    exact GoO.ret' (h := c70_16e) (hs := [2]) (ps := [b_2 = b_2]) (hk := []) (bk := []) Try.func70 () (by kernel_rfl) (And.intro rfl trivial) (by kernel_rfl) (by kernel_rfl)
  · refine GoO.skip' c70_17e ?_
    refine GoO.seq' c70_18e ?_
    refine GoO.region' (is := [0, 1, 2]) c70_19e (by kernel_rfl) ?_
    refine GoO.exec (is := [0, 1, 2]) (hs := [.b 1, .b 2, .p]) (rest := []) (ks := [2, 3]) (env' := [(2, vP b_2), (3, vI 0)]) (H' := [⟨41, b_4, [.string (bs r_8.2.s), .bool r_8.2.bad]⟩, ⟨42, b_6, [vI r_5.1, vU r_7.1, vU r_8.1]⟩, ⟨40, b_2, [vI r_5.1, vU r_7.1, vU r_8.1]⟩]) (ps := [b_6 = b_6, b_2 = b_2]) (by kernel_rfl) (And.intro rfl (And.intro rfl trivial)) ?_
    refine GoO.regionEnd ?_
    exact GoO.ret' (h := c70_20e) (hs := [2]) (ps := [b_2 = b_2]) (hk := []) (bk := []) Try.func70 () (by kernel_rfl) (And.intro rfl trivial) (by kernel_rfl) (by kernel_rfl)
/-! (*tontine/client.Client).Hear -/
noncomputable def c36_0 : Code := bodyOf Try.f36
noncomputable def c36_1 : Code := cdL c36_0
noncomputable def c36_2 : Code := cdR c36_0
noncomputable def c36_3 : Code := cdL c36_2
noncomputable def c36_4 : Code := cdR c36_2
noncomputable def c36_5 : Code := cdL c36_4
noncomputable def c36_6 : Code := cdL c36_5
noncomputable def c36_7 : Code := cdR c36_5
noncomputable def c36_8 : Code := cdL c36_7
noncomputable def c36_9 : Code := cdL c36_8
noncomputable def c36_10 : Code := cdR c36_8
noncomputable def c36_11 : Code := cdR c36_7
noncomputable def c36_12 : Code := cdR c36_4
noncomputable def c36_13 : Code := cdL c36_12
noncomputable def c36_14 : Code := cdR c36_12
noncomputable def c36_15 : Code := cdL c36_14
noncomputable def c36_16 : Code := cdL c36_15
noncomputable def c36_17 : Code := cdR c36_15
noncomputable def c36_18 : Code := cdL c36_17
noncomputable def c36_19 : Code := cdL c36_18
noncomputable def c36_20 : Code := cdR c36_18
noncomputable def c36_21 : Code := cdR c36_17
noncomputable def c36_22 : Code := cdR c36_14
noncomputable def c36_23 : Code := cdL c36_22
noncomputable def c36_24 : Code := cdL c36_23
noncomputable def c36_25 : Code := cdR c36_23
noncomputable def c36_26 : Code := cdL c36_25
noncomputable def c36_27 : Code := cdL c36_26
noncomputable def c36_28 : Code := cdL c36_27
noncomputable def c36_29 : Code := cdR c36_27
noncomputable def c36_30 : Code := cdL c36_29
noncomputable def c36_31 : Code := cdL c36_30
noncomputable def c36_32 : Code := cdR c36_30
noncomputable def c36_33 : Code := cdL c36_32
noncomputable def c36_34 : Code := cdR c36_32
noncomputable def c36_35 : Code := cdR c36_29
noncomputable def c36_36 : Code := cdR c36_26
noncomputable def c36_37 : Code := cdL c36_36
noncomputable def c36_38 : Code := cdR c36_36
noncomputable def c36_39 : Code := cdR c36_25
noncomputable def c36_40 : Code := cdR c36_22
noncomputable def c36_41 : Code := cdL c36_40
noncomputable def c36_42 : Code := cdR c36_40
noncomputable def c36_43 : Code := cdL c36_42
noncomputable def c36_44 : Code := cdL c36_43
noncomputable def c36_45 : Code := cdL c36_44
noncomputable def c36_46 : Code := cdR c36_44
noncomputable def c36_47 : Code := cdL c36_46
noncomputable def c36_48 : Code := cdL c36_47
noncomputable def c36_49 : Code := cdR c36_47
noncomputable def c36_50 : Code := cdL c36_49
noncomputable def c36_51 : Code := cdR c36_49
noncomputable def c36_52 : Code := cdR c36_46
noncomputable def c36_53 : Code := cdL c36_52
noncomputable def c36_54 : Code := cdR c36_52
noncomputable def c36_55 : Code := cdL c36_54
noncomputable def c36_56 : Code := cdR c36_54
noncomputable def c36_57 : Code := cdR c36_42
noncomputable def c36_58 : Code := cdL c36_57
noncomputable def c36_59 : Code := cdR c36_57
noncomputable def r36_1 : Array Oper := cdO c36_1
noncomputable def r36_3 : Array Oper := cdO c36_3
noncomputable def r36_6 : Array Oper := cdO c36_6
noncomputable def r36_9 : Array Oper := cdO c36_9
noncomputable def r36_13 : Array Oper := cdO c36_13
noncomputable def r36_16 : Array Oper := cdO c36_16
noncomputable def r36_19 : Array Oper := cdO c36_19
noncomputable def r36_24 : Array Oper := cdO c36_24
noncomputable def r36_28 : Array Oper := cdO c36_28
noncomputable def r36_31 : Array Oper := cdO c36_31
noncomputable def r36_33 : Array Oper := cdO c36_33
noncomputable def r36_37 : Array Oper := cdO c36_37
noncomputable def r36_41 : Array Oper := cdO c36_41
noncomputable def r36_45 : Array Oper := cdO c36_45
noncomputable def r36_48 : Array Oper := cdO c36_48
noncomputable def r36_50 : Array Oper := cdO c36_50
noncomputable def r36_53 : Array Oper := cdO c36_53
noncomputable def r36_55 : Array Oper := cdO c36_55
noncomputable def r36_56 : Array Oper := cdO c36_56
noncomputable def r36_58 : Array Oper := cdO c36_58
theorem c36_0e : c36_0 = .seq c36_1 c36_2 := by kernel_rfl
theorem c36_1e : c36_1 = .region 0 r36_1 false := by kernel_rfl
theorem c36_2e : c36_2 = .seq c36_3 c36_4 := by kernel_rfl
theorem c36_3e : c36_3 = .region 1 r36_3 false := by kernel_rfl
theorem c36_4e : c36_4 = .seq c36_5 c36_12 := by kernel_rfl
theorem c36_5e : c36_5 = .seq c36_6 c36_7 := by kernel_rfl
theorem c36_6e : c36_6 = .region 2 r36_6 true := by kernel_rfl
theorem c36_7e : c36_7 = .cond (cdC c36_7) c36_8 c36_11 := by kernel_rfl
theorem c36_8e : c36_8 = .seq c36_9 c36_10 := by kernel_rfl
theorem c36_9e : c36_9 = .region 3 r36_9 true := by kernel_rfl
theorem c36_10e : c36_10 = .ret := by kernel_rfl
theorem c36_11e : c36_11 = .skip := by kernel_rfl
theorem c36_12e : c36_12 = .seq c36_13 c36_14 := by kernel_rfl
theorem c36_13e : c36_13 = .region 4 r36_13 false := by kernel_rfl
theorem c36_14e : c36_14 = .seq c36_15 c36_22 := by kernel_rfl
theorem c36_15e : c36_15 = .seq c36_16 c36_17 := by kernel_rfl
theorem c36_16e : c36_16 = .region 5 r36_16 false := by kernel_rfl
theorem c36_17e : c36_17 = .cond (cdC c36_17) c36_18 c36_21 := by kernel_rfl
theorem c36_18e : c36_18 = .seq c36_19 c36_20 := by kernel_rfl
theorem c36_19e : c36_19 = .region 6 r36_19 true := by kernel_rfl
theorem c36_20e : c36_20 = .ret := by kernel_rfl
theorem c36_21e : c36_21 = .skip := by kernel_rfl
theorem c36_22e : c36_22 = .seq c36_23 c36_40 := by kernel_rfl
theorem c36_23e : c36_23 = .seq c36_24 c36_25 := by kernel_rfl
theorem c36_24e : c36_24 = .region 7 r36_24 false := by kernel_rfl
theorem c36_25e : c36_25 = .cond (cdC c36_25) c36_26 c36_39 := by kernel_rfl
theorem c36_26e : c36_26 = .seq c36_27 c36_36 := by kernel_rfl
theorem c36_27e : c36_27 = .seq c36_28 c36_29 := by kernel_rfl
theorem c36_28e : c36_28 = .region 8 r36_28 true := by kernel_rfl
theorem c36_29e : c36_29 = .cond (cdC c36_29) c36_30 c36_35 := by kernel_rfl
theorem c36_30e : c36_30 = .seq c36_31 c36_32 := by kernel_rfl
theorem c36_31e : c36_31 = .region 9 r36_31 false := by kernel_rfl
theorem c36_32e : c36_32 = .seq c36_33 c36_34 := by kernel_rfl
theorem c36_33e : c36_33 = .region 10 r36_33 false := by kernel_rfl
theorem c36_34e : c36_34 = .ret := by kernel_rfl
theorem c36_35e : c36_35 = .skip := by kernel_rfl
theorem c36_36e : c36_36 = .seq c36_37 c36_38 := by kernel_rfl
theorem c36_37e : c36_37 = .region 11 r36_37 true := by kernel_rfl
theorem c36_38e : c36_38 = .ret := by kernel_rfl
theorem c36_39e : c36_39 = .skip := by kernel_rfl
theorem c36_40e : c36_40 = .seq c36_41 c36_42 := by kernel_rfl
theorem c36_41e : c36_41 = .region 12 r36_41 false := by kernel_rfl
theorem c36_42e : c36_42 = .seq c36_43 c36_57 := by kernel_rfl
theorem c36_43e : c36_43 = .block 0 c36_44 := by kernel_rfl
theorem c36_44e : c36_44 = .seq c36_45 c36_46 := by kernel_rfl
theorem c36_45e : c36_45 = .region 14 r36_45 false := by kernel_rfl
theorem c36_46e : c36_46 = .cond (cdC c36_46) c36_47 c36_52 := by kernel_rfl
theorem c36_47e : c36_47 = .seq c36_48 c36_49 := by kernel_rfl
theorem c36_48e : c36_48 = .region 15 r36_48 false := by kernel_rfl
theorem c36_49e : c36_49 = .cond (cdC c36_49) c36_50 c36_51 := by kernel_rfl
theorem c36_50e : c36_50 = .region 16 r36_50 false := by kernel_rfl
theorem c36_51e : c36_51 = .skip := by kernel_rfl
theorem c36_52e : c36_52 = .seq c36_53 c36_54 := by kernel_rfl
theorem c36_53e : c36_53 = .region 17 r36_53 false := by kernel_rfl
theorem c36_54e : c36_54 = .cond (cdC c36_54) c36_55 c36_56 := by kernel_rfl
theorem c36_55e : c36_55 = .region 18 r36_55 false := by kernel_rfl
theorem c36_56e : c36_56 = .region 13 r36_56 false := by kernel_rfl
theorem c36_57e : c36_57 = .seq c36_58 c36_59 := by kernel_rfl
theorem c36_58e : c36_58 = .region 19 r36_58 true := by kernel_rfl
theorem c36_59e : c36_59 = .ret := by kernel_rfl
noncomputable def client_Client_Hear.R (b_2 : Nat) (A_3 : Option Addr) (c_4 : Nat) (A_6 : Option Addr) (c_7 : Nat) : Pst (T_api_Told × Bool × T_api_Letter × Bool × T_client_Client) where
  ε := Option Addr × Nat × Option Addr × Nat × Option Addr × Nat
  v := fun r x => .tuple ⟨[.agg ⟨[vI r.1.Client, vI r.1.Command.Kind, vU r.1.Command.Session, vU r.1.Command.Seq, vU r.1.Command.Saga, .slice x.1 r.1.Command.Steps.length x.2.1, vI r.1.Command.Step, .bool r.1.Command.Back, vI r.1.Command.Try, .bool r.1.Command.Ok, vU r.1.Command.Now, vI r.1.Reply.Err, vU r.1.Reply.Num, vU r.1.Reply.Extra]⟩, .bool r.2.1, .agg ⟨[vI r.2.2.1.Kind, vI r.2.2.1.From, vI r.2.2.1.To, vU r.2.2.1.Term, vU r.2.2.1.Index, vU r.2.2.1.Prev, vU r.2.2.1.Commit, .bool r.2.2.1.Ok, .slice x.2.2.1 r.2.2.1.Entries.length x.2.2.2.1, .string (bs r.2.2.1.Data)]⟩, .bool r.2.2.2.1]⟩
  H := fun r x => [⟨1, b_2, [vI r.2.2.2.2.id, vU r.2.2.2.2.session, vU r.2.2.2.2.seq, vU r.2.2.2.2.call, .bool r.2.2.2.2.busy, vI r.2.2.2.2.now.Kind, vU r.2.2.2.2.now.Session, vU r.2.2.2.2.now.Seq, vU r.2.2.2.2.now.Saga, .slice x.2.2.2.2.1 r.2.2.2.2.now.Steps.length x.2.2.2.2.2, vI r.2.2.2.2.now.Step, .bool r.2.2.2.2.now.Back, vI r.2.2.2.2.now.Try, .bool r.2.2.2.2.now.Ok, vU r.2.2.2.2.now.Now, .string (bs r.2.2.2.2.data), vI r.2.2.2.2.to_]⟩]
  B := fun r x => [Rd 0 kT_api_Step x.1 x.2.1 r.1.Command.Steps, Rd 0 kT_api_Entry x.2.2.1 x.2.2.2.1 r.2.2.1.Entries, Rd 0 kT_api_Step x.2.2.2.2.1 x.2.2.2.2.2 r.2.2.2.2.now.Steps]
noncomputable def client_Client_Hear.cx (b_2 : Nat) (A_3 : Option Addr) (c_4 : Nat) (A_6 : Option Addr) (c_7 : Nat) (w0 : World) (S0 : Fam) : Cx (T_api_Told × Bool × T_api_Letter × Bool × T_client_Client) := ⟨Try.prog, 36, Try.f36, 145, w0, S0, [1], 1, client_Client_Hear.R b_2 A_3 c_4 A_6 c_7⟩
theorem client_Client_Hear_j2_ok (n : Nat) (c_1 : T_client_Client) (x_5 : T_api_Letter) (b_2 : Nat) (A_3 : Option Addr) (c_4 : Nat) (A_6 : Option Addr) (c_7 : Nat) (b_8 : Nat) (b_9 : Nat) (b_10 : Nat) (b_11 : Nat) (w0 : World) (S0 : Fam) (b_25 : Bool) :
    GoO (client_Client_Hear.cx b_2 A_3 c_4 A_6 c_7 w0 S0) [(0, vP b_2), (3, vP b_8), (4, vP b_9), (6, vP b_10), (8, vP b_11), (83, .bool b_25)] [⟨1, b_2, [vI c_1.id, vU c_1.session, vU c_1.seq, vU c_1.call, .bool c_1.busy, vI c_1.now.Kind, vU c_1.now.Session, vU c_1.now.Seq, vU c_1.now.Saga, .slice A_3 c_1.now.Steps.length c_4, vI c_1.now.Step, .bool c_1.now.Back, vI c_1.now.Try, .bool c_1.now.Ok, vU c_1.now.Now, .string (bs c_1.data), vI c_1.to_]⟩, ⟨40, b_8, [vI x_5.Kind, vI x_5.From, vI x_5.To, vU x_5.Term, vU x_5.Index, vU x_5.Prev, vU x_5.Commit, .bool x_5.Ok, .slice A_6 x_5.Entries.length c_7, .string (bs x_5.Data)]⟩, ⟨41, b_9, [vI 0, vI 0, vU 0, vU 0, vU 0, .slice none ([] : List T_api_Step).length 0, vI 0, .bool false, vI 0, .bool false, vU 0, vI 0, vU 0, vU 0]⟩, ⟨42, b_10, [vI 0, vI 0, vI 0, vU 0, vU 0, vU 0, vU 0, .bool false, .slice none ([] : List T_api_Entry).length 0, .string (bs [])]⟩, ⟨43, b_11, [vI 0, vI 0, vI 0, vU 0, vU 0, vU 0, vU 0, .bool false, .slice none ([] : List T_api_Entry).length 0, .string (bs [])]⟩] [Rd 0 kT_api_Step A_3 c_4 c_1.now.Steps, Rd 0 kT_api_Entry A_6 c_7 x_5.Entries] [.code c36_29, .code c36_36, .code c36_40] (client_Client_Hear.j2 n c_1 x_5 b_25) := by
  unfold client_Client_Hear.j2
  refine GoO.ite' c36_29e (by kernel_rfl) (fun h26 => ?_) (fun h26 => ?_)
  · refine GoO.seq' c36_30e ?_
    refine GoO.region' (is := [0, 1, 2, 3, 4, 5, 6, 7]) c36_31e (by kernel_rfl) ?_
    refine GoO.exec (is := [0, 1, 2, 3, 4, 5, 6, 7]) (hs := [.p, .p, .b 1, .p, .p, .p, .p, .b 0]) (rest := []) (ks := [0, 4, 6]) (env' := [(0, vP b_2), (4, vP b_9), (6, vP b_10)]) (H' := [⟨1, b_2, [vI c_1.id, vU c_1.session, vU c_1.seq, vU c_1.call, .bool c_1.busy, vI c_1.now.Kind, vU c_1.now.Session, vU c_1.now.Seq, vU c_1.now.Saga, .slice A_3 c_1.now.Steps.length c_4, vI c_1.now.Step, .bool c_1.now.Back, vI c_1.now.Try, .bool c_1.now.Ok, vU c_1.now.Now, .string (bs c_1.data), vI (wi64 (wu64 (x_5.Commit - 1)))]⟩, ⟨40, b_8, [vI x_5.Kind, vI x_5.From, vI x_5.To, vU x_5.Term, vU x_5.Index, vU x_5.Prev, vU x_5.Commit, .bool x_5.Ok, .slice A_6 x_5.Entries.length c_7, .string (bs x_5.Data)]⟩, ⟨41, b_9, [vI 0, vI 0, vU 0, vU 0, vU 0, .slice none ([] : List T_api_Step).length 0, vI 0, .bool false, vI 0, .bool false, vU 0, vI 0, vU 0, vU 0]⟩, ⟨42, b_10, [vI 0, vI 0, vI 0, vU 0, vU 0, vU 0, vU 0, .bool false, .slice none ([] : List T_api_Entry).length 0, .string (bs [])]⟩, ⟨43, b_11, [vI 0, vI 0, vI 0, vU 0, vU 0, vU 0, vU 0, .bool false, .slice none ([] : List T_api_Entry).length 0, .string (bs [])]⟩]) (ps := [b_8 = b_8, b_2 = b_2]) (by kernel_rfl) (And.intro rfl (And.intro rfl trivial)) ?_
    refine GoO.regionEnd ?_
    refine GoO.seq' c36_32e ?_
    refine GoO.region' (is := [0, 1, 2, 3, 4, 5, 6]) c36_33e (by kernel_rfl) ?_
    refine GoO.exec (is := [0, 1]) (hs := [.p, .p]) (rest := [2, 3, 4, 5, 6]) (ks := [4, 6, 91, 92]) (env' := [(4, vP b_9), (6, vP b_10), (91, .agg ⟨[vI 0, vI 0, vU 0, vU 0, vU 0, .slice none ([] : List T_api_Step).length 0, vI 0, .bool false, vI 0, .bool false, vU 0, vI 0, vU 0, vU 0]⟩), (92, vP b_2)]) (H' := [⟨1, b_2, [vI c_1.id, vU c_1.session, vU c_1.seq, vU c_1.call, .bool c_1.busy, vI c_1.now.Kind, vU c_1.now.Session, vU c_1.now.Seq, vU c_1.now.Saga, .slice A_3 c_1.now.Steps.length c_4, vI c_1.now.Step, .bool c_1.now.Back, vI c_1.now.Try, .bool c_1.now.Ok, vU c_1.now.Now, .string (bs c_1.data), vI (wi64 (wu64 (x_5.Commit - 1)))]⟩, ⟨40, b_8, [vI x_5.Kind, vI x_5.From, vI x_5.To, vU x_5.Term, vU x_5.Index, vU x_5.Prev, vU x_5.Commit, .bool x_5.Ok, .slice A_6 x_5.Entries.length c_7, .string (bs x_5.Data)]⟩, ⟨41, b_9, [vI 0, vI 0, vU 0, vU 0, vU 0, .slice none ([] : List T_api_Step).length 0, vI 0, .bool false, vI 0, .bool false, vU 0, vI 0, vU 0, vU 0]⟩, ⟨42, b_10, [vI 0, vI 0, vI 0, vU 0, vU 0, vU 0, vU 0, .bool false, .slice none ([] : List T_api_Entry).length 0, .string (bs [])]⟩, ⟨43, b_11, [vI 0, vI 0, vI 0, vU 0, vU 0, vU 0, vU 0, .bool false, .slice none ([] : List T_api_Entry).length 0, .string (bs [])]⟩]) (ps := []) (by kernel_rfl) trivial ?_
    refine OpTo.go (GoO.call rfl (by kernel_rfl) (by kernel_rfl) (client_Client_letter_ok n (⟨c_1.id, c_1.session, c_1.seq, c_1.call, c_1.busy, (⟨c_1.now.Kind, c_1.now.Session, c_1.now.Seq, c_1.now.Saga, c_1.now.Steps, c_1.now.Step, c_1.now.Back, c_1.now.Try, c_1.now.Ok, c_1.now.Now⟩ : T_api_Command), c_1.data, wi64 (wu64 (x_5.Commit - 1))⟩ : T_client_Client) b_2 A_3 c_4) [[0], [1]] [] [(1, 0)] [(0, 0)] (hks := [0, 1, 2, 3, 4]) (bks := [0, 1]) (by kernel_rfl) (by kernel_rfl) (by kernel_rfl) (.inl rfl) rfl rfl (by kernel_rfl) (by kernel_rfl) _ (fun _ _ => rfl) _ _ (fun _ _ => rfl) (fun _ _ => rfl) (fun _ _ => by kernel_rfl) (fun _ _ => by kernel_rfl) (fun r_27 x_30 => ?_))
    obtain ⟨A_28, c_29⟩ := x_30
    refine GoO.shape (env' := [(4, vP b_9), (6, vP b_10), (91, .agg ⟨[vI 0, vI 0, vU 0, vU 0, vU 0, .slice none ([] : List T_api_Step).length 0, vI 0, .bool false, vI 0, .bool false, vU 0, vI 0, vU 0, vU 0]⟩), (92, vP b_2), (93, .agg ⟨[vI r_27.Kind, vI r_27.From, vI r_27.To, vU r_27.Term, vU r_27.Index, vU r_27.Prev, vU r_27.Commit, .bool r_27.Ok, .slice A_28 r_27.Entries.length c_29, .string (bs r_27.Data)]⟩)]) (H' := [⟨1, b_2, [vI c_1.id, vU c_1.session, vU c_1.seq, vU c_1.call, .bool c_1.busy, vI c_1.now.Kind, vU c_1.now.Session, vU c_1.now.Seq, vU c_1.now.Saga, .slice A_3 c_1.now.Steps.length c_4, vI c_1.now.Step, .bool c_1.now.Back, vI c_1.now.Try, .bool c_1.now.Ok, vU c_1.now.Now, .string (bs c_1.data), vI (wi64 (wu64 (x_5.Commit - 1)))]⟩, ⟨40, b_8, [vI x_5.Kind, vI x_5.From, vI x_5.To, vU x_5.Term, vU x_5.Index, vU x_5.Prev, vU x_5.Commit, .bool x_5.Ok, .slice A_6 x_5.Entries.length c_7, .string (bs x_5.Data)]⟩, ⟨41, b_9, [vI 0, vI 0, vU 0, vU 0, vU 0, .slice none ([] : List T_api_Step).length 0, vI 0, .bool false, vI 0, .bool false, vU 0, vI 0, vU 0, vU 0]⟩, ⟨42, b_10, [vI 0, vI 0, vI 0, vU 0, vU 0, vU 0, vU 0, .bool false, .slice none ([] : List T_api_Entry).length 0, .string (bs [])]⟩, ⟨43, b_11, [vI 0, vI 0, vI 0, vU 0, vU 0, vU 0, vU 0, .bool false, .slice none ([] : List T_api_Entry).length 0, .string (bs [])]⟩]) (B' := [Rd 0 kT_api_Entry A_28 c_29 r_27.Entries, Rd 0 kT_api_Step A_3 c_4 c_1.now.Steps, Rd 0 kT_api_Entry A_6 c_7 x_5.Entries]) (ks := [4, 6, 91, 92, 93]) (by kernel_rfl) (by kernel_rfl) (by kernel_rfl) ?_
    refine GoO.exec (is := [3, 4, 5, 6]) (hs := [.b 2, .p, .b 3, .p]) (rest := []) (ks := [4, 5, 6, 7]) (env' := [(4, vP b_9), (5, .bool false), (6, vP b_10), (7, .bool true)]) (H' := [⟨1, b_2, [vI c_1.id, vU c_1.session, vU c_1.seq, vU c_1.call, .bool c_1.busy, vI c_1.now.Kind, vU c_1.now.Session, vU c_1.now.Seq, vU c_1.now.Saga, .slice A_3 c_1.now.Steps.length c_4, vI c_1.now.Step, .bool c_1.now.Back, vI c_1.now.Try, .bool c_1.now.Ok, vU c_1.now.Now, .string (bs c_1.data), vI (wi64 (wu64 (x_5.Commit - 1)))]⟩, ⟨40, b_8, [vI x_5.Kind, vI x_5.From, vI x_5.To, vU x_5.Term, vU x_5.Index, vU x_5.Prev, vU x_5.Commit, .bool x_5.Ok, .slice A_6 x_5.Entries.length c_7, .string (bs x_5.Data)]⟩, ⟨41, b_9, [vI 0, vI 0, vU 0, vU 0, vU 0, .slice none ([] : List T_api_Step).length 0, vI 0, .bool false, vI 0, .bool false, vU 0, vI 0, vU 0, vU 0]⟩, ⟨42, b_10, [vI r_27.Kind, vI r_27.From, vI r_27.To, vU r_27.Term, vU r_27.Index, vU r_27.Prev, vU r_27.Commit, .bool r_27.Ok, .slice A_28 r_27.Entries.length c_29, .string (bs r_27.Data)]⟩, ⟨43, b_11, [vI 0, vI 0, vI 0, vU 0, vU 0, vU 0, vU 0, .bool false, .slice none ([] : List T_api_Entry).length 0, .string (bs [])]⟩]) (ps := [b_9 = b_9, b_10 = b_10]) (by kernel_rfl) (And.intro rfl (And.intro rfl trivial)) ?_
    refine GoO.regionEnd ?_
    refine GoO.nilRd kT_api_Step ?_
    exact GoO.ret' (h := c36_34e) (hs := [2, 3]) (ps := [b_9 = b_9, b_10 = b_10]) (hk := [0]) (bk := [0, 1, 2]) Try.func36 (⟨none, 0, A_28, c_29, A_3, c_4⟩ : Option Addr × Nat × Option Addr × Nat × Option Addr × Nat) (by kernel_rfl) (And.intro rfl (And.intro rfl trivial)) (by kernel_rfl) (by kernel_rfl)
  · refine GoO.skip' c36_35e ?_
    refine GoO.seq' c36_36e ?_
    refine GoO.draw c36_37e (by kernel_rfl) [4, 5] [⟨43, b_11, [vI 0, vI 0, vI 0, vU 0, vU 0, vU 0, vU 0, .bool false, .slice none ([] : List T_api_Entry).length 0, .string (bs [])]⟩] [] (n := 6) (by kernel_rfl) ?_
    simp only [List.replicate]
    refine GoF.take [0, 1] [.p, .b 0] (ks := [4, 6, 94, 95]) (fu := 4) (li := [true, true, false, false, false, false]) (env' := [(4, vP b_9), (6, vP b_10), (94, .agg ⟨[vI 0, vI 0, vU 0, vU 0, vU 0, .slice none ([] : List T_api_Step).length 0, vI 0, .bool false, vI 0, .bool false, vU 0, vI 0, vU 0, vU 0]⟩), (95, .agg ⟨[vI 0, vI 0, vI 0, vU 0, vU 0, vU 0, vU 0, .bool false, .slice none ([] : List T_api_Entry).length 0, .string (bs [])]⟩)]) (ps := [b_11 = b_11]) (hk := [4]) (bk := []) (by kernel_rfl) (And.intro rfl trivial) rfl rfl ?_
    refine GoF.fin1 (i := 2) (hint := .b 2) (ps := [b_9 = b_9]) (hk := [4]) (bk := []) (by kernel_rfl) rfl (And.intro rfl trivial) (.inr ⟨rfl, rfl⟩) ?_
    refine GoF.take [3] [.p] (ks := [4, 5, 6, 95]) (fu := 2) (li := [true, true, true, true, false, false]) (env' := [(4, vP b_9), (5, .bool false), (6, vP b_10), (95, .agg ⟨[vI 0, vI 0, vI 0, vU 0, vU 0, vU 0, vU 0, .bool false, .slice none ([] : List T_api_Entry).length 0, .string (bs [])]⟩)]) (ps := []) (hk := [4]) (bk := []) (by kernel_rfl) trivial rfl rfl ?_
    refine GoF.fin1 (i := 4) (hint := .b 3) (ps := [b_10 = b_10]) (hk := []) (bk := []) (by kernel_rfl) rfl (And.intro rfl trivial) (.inl rfl) ?_
    refine GoF.fin1 (i := 5) (hint := .p) (ps := []) (hk := []) (bk := []) (by kernel_rfl) rfl trivial (.inl rfl) ?_
    refine GoF.done (by kernel_rfl) ?_
    refine GoO.nilRd kT_api_Step ?_
    refine GoO.nilRd kT_api_Entry ?_
    exact GoO.ret' (h := c36_38e) (hs := [2, 3]) (ps := [b_9 = b_9, b_10 = b_10]) (hk := [0]) (bk := [1, 0, 2]) Try.func36 (⟨none, 0, none, 0, A_3, c_4⟩ : Option Addr × Nat × Option Addr × Nat × Option Addr × Nat) (by kernel_rfl) (And.intro rfl (And.intro rfl trivial)) (by kernel_rfl) (by kernel_rfl)
theorem client_Client_Hear_j3_ok (n : Nat) (c_1 : T_client_Client) (r_17 : T_api_Reply × Int) (b_2 : Nat) (A_3 : Option Addr) (c_4 : Nat) (b_9 : Nat) (b_10 : Nat) (b_11 : Nat) (b_18 : Nat) (A_6 : Option Addr) (c_7 : Nat) (w0 : World) (S0 : Fam) (f_34 : Int) (f_35 : Int) :
    GoO (client_Client_Hear.cx b_2 A_3 c_4 A_6 c_7 w0 S0) [(0, vP b_2), (4, vP b_9), (6, vP b_10), (8, vP b_11), (9, vP b_18)] [⟨1, b_2, [vI c_1.id, vU f_34, vU f_35, vU c_1.call, .bool false, vI c_1.now.Kind, vU c_1.now.Session, vU c_1.now.Seq, vU c_1.now.Saga, .slice A_3 c_1.now.Steps.length c_4, vI c_1.now.Step, .bool c_1.now.Back, vI c_1.now.Try, .bool c_1.now.Ok, vU c_1.now.Now, .string (bs c_1.data), vI c_1.to_]⟩, ⟨41, b_9, [vI 0, vI 0, vU 0, vU 0, vU 0, .slice none ([] : List T_api_Step).length 0, vI 0, .bool false, vI 0, .bool false, vU 0, vI 0, vU 0, vU 0]⟩, ⟨42, b_10, [vI 0, vI 0, vI 0, vU 0, vU 0, vU 0, vU 0, .bool false, .slice none ([] : List T_api_Entry).length 0, .string (bs [])]⟩, ⟨43, b_11, [vI 0, vI 0, vI 0, vU 0, vU 0, vU 0, vU 0, .bool false, .slice none ([] : List T_api_Entry).length 0, .string (bs [])]⟩, ⟨44, b_18, [vI r_17.1.Err, vU r_17.1.Num, vU r_17.1.Extra]⟩] [Rd 0 kT_api_Step A_3 c_4 c_1.now.Steps] [.inBlock 0, .code c36_57] (client_Client_Hear.j3 n c_1 r_17 f_34 f_35) := by
  unfold client_Client_Hear.j3
  refine GoO.inBlock ?_
  refine GoO.seq' c36_57e ?_
  refine GoO.draw c36_58e (by kernel_rfl) [13, 14] [⟨1, b_2, [vI c_1.id, vU f_34, vU f_35, vU c_1.call, .bool false, vI c_1.now.Kind, vU c_1.now.Session, vU c_1.now.Seq, vU c_1.now.Saga, .slice A_3 c_1.now.Steps.length c_4, vI c_1.now.Step, .bool c_1.now.Back, vI c_1.now.Try, .bool c_1.now.Ok, vU c_1.now.Now, .string (bs c_1.data), vI c_1.to_]⟩, ⟨43, b_11, [vI 0, vI 0, vI 0, vU 0, vU 0, vU 0, vU 0, .bool false, .slice none ([] : List T_api_Entry).length 0, .string (bs [])]⟩, ⟨44, b_18, [vI r_17.1.Err, vU r_17.1.Num, vU r_17.1.Extra]⟩] [] (n := 15) (by kernel_rfl) ?_
  simp only [List.replicate]
  refine GoF.take [0, 1, 2, 3, 4, 5, 6, 7, 8, 9, 10] [.p, .p, .p, .b 0, .p, .p, .p, .b 0, .b 2, .p, .b 1] (ks := [4, 6, 143, 144]) (fu := 4) (li := [true, true, true, true, true, true, true, true, true, true, true, false, false, false, false]) (env' := [(4, vP b_9), (6, vP b_10), (143, .agg ⟨[vI c_1.id, vI c_1.now.Kind, vU c_1.now.Session, vU c_1.now.Seq, vU c_1.now.Saga, .slice A_3 c_1.now.Steps.length c_4, vI c_1.now.Step, .bool c_1.now.Back, vI c_1.now.Try, .bool c_1.now.Ok, vU c_1.now.Now, vI r_17.1.Err, vU r_17.1.Num, vU r_17.1.Extra]⟩), (144, .agg ⟨[vI 0, vI 0, vI 0, vU 0, vU 0, vU 0, vU 0, .bool false, .slice none ([] : List T_api_Entry).length 0, .string (bs [])]⟩)]) (ps := [b_2 = b_2, b_2 = b_2, b_18 = b_18, b_11 = b_11]) (hk := [0, 3, 4]) (bk := []) (by kernel_rfl) (And.intro rfl (And.intro rfl (And.intro rfl (And.intro rfl trivial)))) rfl rfl ?_
  refine GoF.fin1 (i := 11) (hint := .b 1) (ps := [b_9 = b_9]) (hk := [0, 3, 4]) (bk := []) (by kernel_rfl) rfl (And.intro rfl trivial) (.inr ⟨rfl, rfl⟩) ?_
  refine GoF.take [12] [.p] (ks := [4, 5, 6, 144]) (fu := 2) (li := [true, true, true, true, true, true, true, true, true, true, true, true, true, false, false]) (env' := [(4, vP b_9), (5, .bool true), (6, vP b_10), (144, .agg ⟨[vI 0, vI 0, vI 0, vU 0, vU 0, vU 0, vU 0, .bool false, .slice none ([] : List T_api_Entry).length 0, .string (bs [])]⟩)]) (ps := []) (hk := [0, 3, 4]) (bk := []) (by kernel_rfl) trivial rfl rfl ?_
  refine GoF.fin1 (i := 13) (hint := .b 2) (ps := [b_10 = b_10]) (hk := []) (bk := []) (by kernel_rfl) rfl (And.intro rfl trivial) (.inl rfl) ?_
  refine GoF.fin1 (i := 14) (hint := .p) (ps := []) (hk := []) (bk := []) (by kernel_rfl) rfl trivial (.inl rfl) ?_
  refine GoF.done (by kernel_rfl) ?_
  refine GoO.nilRd kT_api_Entry ?_
  exact GoO.ret' (h := c36_59e) (hs := [1, 2]) (ps := [b_9 = b_9, b_10 = b_10]) (hk := [0]) (bk := [1, 0, 1]) Try.func36 (⟨A_3, c_4, none, 0, A_3, c_4⟩ : Option Addr × Nat × Option Addr × Nat × Option Addr × Nat) (by kernel_rfl) (And.intro rfl (And.intro rfl trivial)) (by kernel_rfl) (by kernel_rfl)
theorem client_Client_Hear_j1_ok (n : Nat) (c_1 : T_client_Client) (x_5 : T_api_Letter) (r_17 : T_api_Reply × Int) (b_2 : Nat) (A_3 : Option Addr) (c_4 : Nat) (A_6 : Option Addr) (c_7 : Nat) (b_8 : Nat) (b_9 : Nat) (b_10 : Nat) (b_11 : Nat) (b_18 : Nat) (w0 : World) (S0 : Fam) (b_21 : Bool) :
    GoO (client_Client_Hear.cx b_2 A_3 c_4 A_6 c_7 w0 S0) [(0, vP b_2), (3, vP b_8), (4, vP b_9), (6, vP b_10), (8, vP b_11), (9, vP b_18), (64, .bool b_21)] [⟨1, b_2, [vI c_1.id, vU c_1.session, vU c_1.seq, vU c_1.call, .bool c_1.busy, vI c_1.now.Kind, vU c_1.now.Session, vU c_1.now.Seq, vU c_1.now.Saga, .slice A_3 c_1.now.Steps.length c_4, vI c_1.now.Step, .bool c_1.now.Back, vI c_1.now.Try, .bool c_1.now.Ok, vU c_1.now.Now, .string (bs c_1.data), vI c_1.to_]⟩, ⟨40, b_8, [vI x_5.Kind, vI x_5.From, vI x_5.To, vU x_5.Term, vU x_5.Index, vU x_5.Prev, vU x_5.Commit, .bool x_5.Ok, .slice A_6 x_5.Entries.length c_7, .string (bs x_5.Data)]⟩, ⟨41, b_9, [vI 0, vI 0, vU 0, vU 0, vU 0, .slice none ([] : List T_api_Step).length 0, vI 0, .bool false, vI 0, .bool false, vU 0, vI 0, vU 0, vU 0]⟩, ⟨42, b_10, [vI 0, vI 0, vI 0, vU 0, vU 0, vU 0, vU 0, .bool false, .slice none ([] : List T_api_Entry).length 0, .string (bs [])]⟩, ⟨43, b_11, [vI 0, vI 0, vI 0, vU 0, vU 0, vU 0, vU 0, .bool false, .slice none ([] : List T_api_Entry).length 0, .string (bs [])]⟩, ⟨44, b_18, [vI r_17.1.Err, vU r_17.1.Num, vU r_17.1.Extra]⟩] [Rd 0 kT_api_Step A_3 c_4 c_1.now.Steps, Rd 0 kT_api_Entry A_6 c_7 x_5.Entries] [.code c36_25, .code c36_40] (client_Client_Hear.j1 n c_1 x_5 r_17 b_21) := by
  unfold client_Client_Hear.j1
  refine GoO.ite' c36_25e (by kernel_rfl) (fun h22 => ?_) (fun h22 => ?_)
  · refine GoO.seq' c36_26e ?_
    refine GoO.seq' c36_27e ?_
    refine GoO.draw c36_28e (by kernel_rfl) [] [⟨1, b_2, [vI c_1.id, vU c_1.session, vU c_1.seq, vU c_1.call, .bool c_1.busy, vI c_1.now.Kind, vU c_1.now.Session, vU c_1.now.Seq, vU c_1.now.Saga, .slice A_3 c_1.now.Steps.length c_4, vI c_1.now.Step, .bool c_1.now.Back, vI c_1.now.Try, .bool c_1.now.Ok, vU c_1.now.Now, .string (bs c_1.data), vI c_1.to_]⟩, ⟨40, b_8, [vI x_5.Kind, vI x_5.From, vI x_5.To, vU x_5.Term, vU x_5.Index, vU x_5.Prev, vU x_5.Commit, .bool x_5.Ok, .slice A_6 x_5.Entries.length c_7, .string (bs x_5.Data)]⟩] [] (n := 19) (by kernel_rfl) ?_
    simp only [List.replicate]
    refine GoF.take [0, 1, 2, 3] [.p, .b 1, .p, .p] (ks := [0, 3, 4, 6, 8, 68]) (fu := 15) (li := [true, true, true, true, false, false, false, false, false, false, false, false, false, false, false, false, false, false, false]) (env' := [(0, vP b_2), (3, vP b_8), (4, vP b_9), (6, vP b_10), (8, vP b_11), (68, .bool (decide (x_5.Commit ≥ 1)))]) (ps := [b_8 = b_8]) (hk := [0, 1]) (bk := []) (by kernel_rfl) (And.intro rfl trivial) rfl rfl ?_
    refine GoF.bsplit (t := 68) (by kernel_rfl) (fun h23 => ?_) (fun h23 => ?_)
    · refine GoF.take [4, 5, 6, 7, 8] [.p, .b 1, .p, .p, .p] (ks := [0, 3, 4, 6, 8, 73]) (fu := 10) (li := [true, true, true, true, true, true, true, true, true, false, false, false, false, false, false, false, false, false, false]) (env' := [(0, vP b_2), (3, vP b_8), (4, vP b_9), (6, vP b_10), (8, vP b_11), (73, .bool (decide (x_5.Commit ≤ 7)))]) (ps := [b_8 = b_8]) (hk := [0, 1]) (bk := []) (by kernel_rfl) (And.intro rfl trivial) rfl rfl ?_
      refine GoF.bsplit (t := 73) (by kernel_rfl) (fun h24 => ?_) (fun h24 => ?_)
      · refine GoF.take [9, 10, 11, 12, 13, 14, 15, 16, 17, 18] [.p, .b 1, .p, .p, .p, .p, .p, .b 0, .p, .p] (ks := [0, 3, 4, 6, 8, 83]) (fu := 0) (li := [true, true, true, true, true, true, true, true, true, true, true, true, true, true, true, true, true, true, true]) (env' := [(0, vP b_2), (3, vP b_8), (4, vP b_9), (6, vP b_10), (8, vP b_11), (83, .bool ((wi64 (wu64 (x_5.Commit - 1))) != c_1.to_))]) (ps := [b_8 = b_8, b_2 = b_2]) (hk := [0, 1]) (bk := []) (by kernel_rfl) (And.intro rfl (And.intro rfl trivial)) rfl rfl ?_
        refine GoF.done (by kernel_rfl) ?_
        exact GoO.sub (ks := [0, 3, 4, 6, 8, 83]) (hk := [0, 1, 2, 3, 4]) (bk := [0, 1]) (by kernel_rfl) (by kernel_rfl) (by kernel_rfl) (client_Client_Hear_j2_ok n c_1 x_5 b_2 A_3 c_4 A_6 c_7 b_8 b_9 b_10 b_11 w0 S0 ((wi64 (wu64 (x_5.Commit - 1))) != c_1.to_))
      · refine GoF.take [9, 10, 11, 12, 13, 14, 15, 16, 17, 18] [.p, .p, .p, .p, .p, .p, .p, .p, .p, .p] (ks := [0, 3, 4, 6, 8, 83]) (fu := 0) (li := [true, true, true, true, true, true, true, true, true, true, true, true, true, true, true, true, true, true, true]) (env' := [(0, vP b_2), (3, vP b_8), (4, vP b_9), (6, vP b_10), (8, vP b_11), (83, .bool false)]) (ps := []) (hk := [0, 1]) (bk := []) (by kernel_rfl) trivial rfl rfl ?_
        refine GoF.done (by kernel_rfl) ?_
        exact GoO.sub (ks := [0, 3, 4, 6, 8, 83]) (hk := [0, 1, 2, 3, 4]) (bk := [0, 1]) (by kernel_rfl) (by kernel_rfl) (by kernel_rfl) (client_Client_Hear_j2_ok n c_1 x_5 b_2 A_3 c_4 A_6 c_7 b_8 b_9 b_10 b_11 w0 S0 false)
    · refine GoF.take [4, 5, 6, 7, 8, 9, 10, 11, 12, 13, 14, 15, 16, 17, 18] [.p, .p, .p, .p, .p, .p, .p, .p, .p, .p, .p, .p, .p, .p, .p] (ks := [0, 3, 4, 6, 8, 83]) (fu := 0) (li := [true, true, true, true, true, true, true, true, true, true, true, true, true, true, true, true, true, true, true]) (env' := [(0, vP b_2), (3, vP b_8), (4, vP b_9), (6, vP b_10), (8, vP b_11), (83, .bool false)]) (ps := []) (hk := [0, 1]) (bk := []) (by kernel_rfl) trivial rfl rfl ?_
      refine GoF.done (by kernel_rfl) ?_
      exact GoO.sub (ks := [0, 3, 4, 6, 8, 83]) (hk := [0, 1, 2, 3, 4]) (bk := [0, 1]) (by kernel_rfl) (by kernel_rfl) (by kernel_rfl) (client_Client_Hear_j2_ok n c_1 x_5 b_2 A_3 c_4 A_6 c_7 b_8 b_9 b_10 b_11 w0 S0 false)
  · refine GoO.skip' c36_39e ?_
    refine GoO.seq' c36_40e ?_
    refine GoO.region' (is := [0, 1, 2, 3]) c36_41e (by kernel_rfl) ?_
    refine GoO.exec (is := [0, 1, 2, 3]) (hs := [.p, .p, .p, .b 0]) (rest := []) (ks := [0, 4, 6, 8, 9]) (env' := [(0, vP b_2), (4, vP b_9), (6, vP b_10), (8, vP b_11), (9, vP b_18)]) (H' := [⟨1, b_2, [vI c_1.id, vU c_1.session, vU c_1.seq, vU c_1.call, .bool false, vI c_1.now.Kind, vU c_1.now.Session, vU c_1.now.Seq, vU c_1.now.Saga, .slice A_3 c_1.now.Steps.length c_4, vI c_1.now.Step, .bool c_1.now.Back, vI c_1.now.Try, .bool c_1.now.Ok, vU c_1.now.Now, .string (bs c_1.data), vI c_1.to_]⟩, ⟨40, b_8, [vI x_5.Kind, vI x_5.From, vI x_5.To, vU x_5.Term, vU x_5.Index, vU x_5.Prev, vU x_5.Commit, .bool x_5.Ok, .slice A_6 x_5.Entries.length c_7, .string (bs x_5.Data)]⟩, ⟨41, b_9, [vI 0, vI 0, vU 0, vU 0, vU 0, .slice none ([] : List T_api_Step).length 0, vI 0, .bool false, vI 0, .bool false, vU 0, vI 0, vU 0, vU 0]⟩, ⟨42, b_10, [vI 0, vI 0, vI 0, vU 0, vU 0, vU 0, vU 0, .bool false, .slice none ([] : List T_api_Entry).length 0, .string (bs [])]⟩, ⟨43, b_11, [vI 0, vI 0, vI 0, vU 0, vU 0, vU 0, vU 0, .bool false, .slice none ([] : List T_api_Entry).length 0, .string (bs [])]⟩, ⟨44, b_18, [vI r_17.1.Err, vU r_17.1.Num, vU r_17.1.Extra]⟩]) (ps := [b_2 = b_2]) (by kernel_rfl) (And.intro rfl trivial) ?_
    refine GoO.regionEnd ?_
    refine GoO.seq' c36_42e ?_
    refine GoO.block' c36_43e ?_
    refine GoO.seq' c36_44e ?_
    refine GoO.region' (is := [0, 1, 2, 3, 4, 5, 6]) c36_45e (by kernel_rfl) ?_
    refine GoO.exec (is := [0, 1, 2, 3, 4, 5, 6]) (hs := [.p, .p, .p, .p, .b 0, .p, .p]) (rest := []) (ks := [0, 4, 6, 8, 9, 106]) (env' := [(0, vP b_2), (4, vP b_9), (6, vP b_10), (8, vP b_11), (9, vP b_18), (106, .bool (c_1.now.Kind == 1))]) (H' := [⟨1, b_2, [vI c_1.id, vU c_1.session, vU c_1.seq, vU c_1.call, .bool false, vI c_1.now.Kind, vU c_1.now.Session, vU c_1.now.Seq, vU c_1.now.Saga, .slice A_3 c_1.now.Steps.length c_4, vI c_1.now.Step, .bool c_1.now.Back, vI c_1.now.Try, .bool c_1.now.Ok, vU c_1.now.Now, .string (bs c_1.data), vI c_1.to_]⟩, ⟨40, b_8, [vI x_5.Kind, vI x_5.From, vI x_5.To, vU x_5.Term, vU x_5.Index, vU x_5.Prev, vU x_5.Commit, .bool x_5.Ok, .slice A_6 x_5.Entries.length c_7, .string (bs x_5.Data)]⟩, ⟨41, b_9, [vI 0, vI 0, vU 0, vU 0, vU 0, .slice none ([] : List T_api_Step).length 0, vI 0, .bool false, vI 0, .bool false, vU 0, vI 0, vU 0, vU 0]⟩, ⟨42, b_10, [vI 0, vI 0, vI 0, vU 0, vU 0, vU 0, vU 0, .bool false, .slice none ([] : List T_api_Entry).length 0, .string (bs [])]⟩, ⟨43, b_11, [vI 0, vI 0, vI 0, vU 0, vU 0, vU 0, vU 0, .bool false, .slice none ([] : List T_api_Entry).length 0, .string (bs [])]⟩, ⟨44, b_18, [vI r_17.1.Err, vU r_17.1.Num, vU r_17.1.Extra]⟩]) (ps := [b_2 = b_2]) (by kernel_rfl) (And.intro rfl trivial) ?_
    refine GoO.regionEnd ?_
    refine GoO.ite' c36_46e (by kernel_rfl) (fun h31 => ?_) (fun h31 => ?_)
    · refine GoO.seq' c36_47e ?_
      refine GoO.region' (is := [0, 1, 2]) c36_48e (by kernel_rfl) ?_
      refine GoO.exec (is := [0, 1, 2]) (hs := [.p, .b 5, .p]) (rest := []) (ks := [0, 4, 6, 8, 9, 115]) (env' := [(0, vP b_2), (4, vP b_9), (6, vP b_10), (8, vP b_11), (9, vP b_18), (115, .bool (r_17.1.Err == 0))]) (H' := [⟨1, b_2, [vI c_1.id, vU c_1.session, vU c_1.seq, vU c_1.call, .bool false, vI c_1.now.Kind, vU c_1.now.Session, vU c_1.now.Seq, vU c_1.now.Saga, .slice A_3 c_1.now.Steps.length c_4, vI c_1.now.Step, .bool c_1.now.Back, vI c_1.now.Try, .bool c_1.now.Ok, vU c_1.now.Now, .string (bs c_1.data), vI c_1.to_]⟩, ⟨40, b_8, [vI x_5.Kind, vI x_5.From, vI x_5.To, vU x_5.Term, vU x_5.Index, vU x_5.Prev, vU x_5.Commit, .bool x_5.Ok, .slice A_6 x_5.Entries.length c_7, .string (bs x_5.Data)]⟩, ⟨41, b_9, [vI 0, vI 0, vU 0, vU 0, vU 0, .slice none ([] : List T_api_Step).length 0, vI 0, .bool false, vI 0, .bool false, vU 0, vI 0, vU 0, vU 0]⟩, ⟨42, b_10, [vI 0, vI 0, vI 0, vU 0, vU 0, vU 0, vU 0, .bool false, .slice none ([] : List T_api_Entry).length 0, .string (bs [])]⟩, ⟨43, b_11, [vI 0, vI 0, vI 0, vU 0, vU 0, vU 0, vU 0, .bool false, .slice none ([] : List T_api_Entry).length 0, .string (bs [])]⟩, ⟨44, b_18, [vI r_17.1.Err, vU r_17.1.Num, vU r_17.1.Extra]⟩]) (ps := [b_18 = b_18]) (by kernel_rfl) (And.intro rfl trivial) ?_
      refine GoO.regionEnd ?_
      refine GoO.ite' c36_49e (by kernel_rfl) (fun h32 => ?_) (fun h32 => ?_)
      · refine GoO.region' (is := [0, 1, 2, 3, 4, 5, 6, 7, 8, 9]) c36_50e (by kernel_rfl) ?_
        refine GoO.exec (is := [0, 1, 2, 3, 4, 5, 6, 7, 8, 9]) (hs := [.p, .p, .p, .b 5, .p, .p, .b 0, .p, .p, .b 0]) (rest := []) (ks := [0, 4, 6, 8, 9]) (env' := [(0, vP b_2), (4, vP b_9), (6, vP b_10), (8, vP b_11), (9, vP b_18)]) (H' := [⟨1, b_2, [vI c_1.id, vU r_17.1.Num, vU 0, vU c_1.call, .bool false, vI c_1.now.Kind, vU c_1.now.Session, vU c_1.now.Seq, vU c_1.now.Saga, .slice A_3 c_1.now.Steps.length c_4, vI c_1.now.Step, .bool c_1.now.Back, vI c_1.now.Try, .bool c_1.now.Ok, vU c_1.now.Now, .string (bs c_1.data), vI c_1.to_]⟩, ⟨40, b_8, [vI x_5.Kind, vI x_5.From, vI x_5.To, vU x_5.Term, vU x_5.Index, vU x_5.Prev, vU x_5.Commit, .bool x_5.Ok, .slice A_6 x_5.Entries.length c_7, .string (bs x_5.Data)]⟩, ⟨41, b_9, [vI 0, vI 0, vU 0, vU 0, vU 0, .slice none ([] : List T_api_Step).length 0, vI 0, .bool false, vI 0, .bool false, vU 0, vI 0, vU 0, vU 0]⟩, ⟨42, b_10, [vI 0, vI 0, vI 0, vU 0, vU 0, vU 0, vU 0, .bool false, .slice none ([] : List T_api_Entry).length 0, .string (bs [])]⟩, ⟨43, b_11, [vI 0, vI 0, vI 0, vU 0, vU 0, vU 0, vU 0, .bool false, .slice none ([] : List T_api_Entry).length 0, .string (bs [])]⟩, ⟨44, b_18, [vI r_17.1.Err, vU r_17.1.Num, vU r_17.1.Extra]⟩]) (ps := [b_18 = b_18, b_2 = b_2, b_2 = b_2]) (by kernel_rfl) (And.intro rfl (And.intro rfl (And.intro rfl trivial))) ?_
        refine GoO.regionEnd ?_
        exact GoO.sub (ks := [0, 4, 6, 8, 9]) (hk := [0, 2, 3, 4, 5]) (bk := [0]) (by kernel_rfl) (by kernel_rfl) (by kernel_rfl) (client_Client_Hear_j3_ok n c_1 r_17 b_2 A_3 c_4 b_9 b_10 b_11 b_18 A_6 c_7 w0 S0 r_17.1.Num 0)
      · refine GoO.skip' c36_51e ?_
        exact GoO.sub (ks := [0, 4, 6, 8, 9]) (hk := [0, 2, 3, 4, 5]) (bk := [0]) (by kernel_rfl) (by kernel_rfl) (by kernel_rfl) (client_Client_Hear_j3_ok n c_1 r_17 b_2 A_3 c_4 b_9 b_10 b_11 b_18 A_6 c_7 w0 S0 c_1.session c_1.seq)
    · refine GoO.seq' c36_52e ?_
      refine GoO.region' (is := [0, 1, 2, 3]) c36_53e (by kernel_rfl) ?_
      refine GoO.exec (is := [0, 1, 2, 3]) (hs := [.p, .b 5, .p, .p]) (rest := []) (ks := [0, 4, 6, 8, 9, 124]) (env' := [(0, vP b_2), (4, vP b_9), (6, vP b_10), (8, vP b_11), (9, vP b_18), (124, .bool (r_17.1.Err == 40))]) (H' := [⟨1, b_2, [vI c_1.id, vU c_1.session, vU c_1.seq, vU c_1.call, .bool false, vI c_1.now.Kind, vU c_1.now.Session, vU c_1.now.Seq, vU c_1.now.Saga, .slice A_3 c_1.now.Steps.length c_4, vI c_1.now.Step, .bool c_1.now.Back, vI c_1.now.Try, .bool c_1.now.Ok, vU c_1.now.Now, .string (bs c_1.data), vI c_1.to_]⟩, ⟨40, b_8, [vI x_5.Kind, vI x_5.From, vI x_5.To, vU x_5.Term, vU x_5.Index, vU x_5.Prev, vU x_5.Commit, .bool x_5.Ok, .slice A_6 x_5.Entries.length c_7, .string (bs x_5.Data)]⟩, ⟨41, b_9, [vI 0, vI 0, vU 0, vU 0, vU 0, .slice none ([] : List T_api_Step).length 0, vI 0, .bool false, vI 0, .bool false, vU 0, vI 0, vU 0, vU 0]⟩, ⟨42, b_10, [vI 0, vI 0, vI 0, vU 0, vU 0, vU 0, vU 0, .bool false, .slice none ([] : List T_api_Entry).length 0, .string (bs [])]⟩, ⟨43, b_11, [vI 0, vI 0, vI 0, vU 0, vU 0, vU 0, vU 0, .bool false, .slice none ([] : List T_api_Entry).length 0, .string (bs [])]⟩, ⟨44, b_18, [vI r_17.1.Err, vU r_17.1.Num, vU r_17.1.Extra]⟩]) (ps := [b_18 = b_18]) (by kernel_rfl) (And.intro rfl trivial) ?_
      refine GoO.regionEnd ?_
      refine GoO.ite' c36_54e (by kernel_rfl) (fun h33 => ?_) (fun h33 => ?_)
      · refine GoO.region' (is := [0, 1, 2, 3, 4, 5, 6, 7]) c36_55e (by kernel_rfl) ?_
        refine GoO.exec (is := [0, 1, 2, 3, 4, 5, 6, 7]) (hs := [.p, .p, .p, .p, .b 0, .p, .p, .b 0]) (rest := []) (ks := [0, 4, 6, 8, 9]) (env' := [(0, vP b_2), (4, vP b_9), (6, vP b_10), (8, vP b_11), (9, vP b_18)]) (H' := [⟨1, b_2, [vI c_1.id, vU 0, vU 0, vU c_1.call, .bool false, vI c_1.now.Kind, vU c_1.now.Session, vU c_1.now.Seq, vU c_1.now.Saga, .slice A_3 c_1.now.Steps.length c_4, vI c_1.now.Step, .bool c_1.now.Back, vI c_1.now.Try, .bool c_1.now.Ok, vU c_1.now.Now, .string (bs c_1.data), vI c_1.to_]⟩, ⟨40, b_8, [vI x_5.Kind, vI x_5.From, vI x_5.To, vU x_5.Term, vU x_5.Index, vU x_5.Prev, vU x_5.Commit, .bool x_5.Ok, .slice A_6 x_5.Entries.length c_7, .string (bs x_5.Data)]⟩, ⟨41, b_9, [vI 0, vI 0, vU 0, vU 0, vU 0, .slice none ([] : List T_api_Step).length 0, vI 0, .bool false, vI 0, .bool false, vU 0, vI 0, vU 0, vU 0]⟩, ⟨42, b_10, [vI 0, vI 0, vI 0, vU 0, vU 0, vU 0, vU 0, .bool false, .slice none ([] : List T_api_Entry).length 0, .string (bs [])]⟩, ⟨43, b_11, [vI 0, vI 0, vI 0, vU 0, vU 0, vU 0, vU 0, .bool false, .slice none ([] : List T_api_Entry).length 0, .string (bs [])]⟩, ⟨44, b_18, [vI r_17.1.Err, vU r_17.1.Num, vU r_17.1.Extra]⟩]) (ps := [b_2 = b_2, b_2 = b_2]) (by kernel_rfl) (And.intro rfl (And.intro rfl trivial)) ?_
        refine GoO.regionEnd ?_
        exact GoO.sub (ks := [0, 4, 6, 8, 9]) (hk := [0, 2, 3, 4, 5]) (bk := [0]) (by kernel_rfl) (by kernel_rfl) (by kernel_rfl) (client_Client_Hear_j3_ok n c_1 r_17 b_2 A_3 c_4 b_9 b_10 b_11 b_18 A_6 c_7 w0 S0 0 0)
      · refine GoO.region' (is := [0, 1, 2, 3, 4, 5, 6, 7]) c36_56e (by kernel_rfl) ?_
        refine GoO.exec (is := [0, 1, 2, 3, 4, 5, 6, 7]) (hs := [.p, .p, .p, .b 0, .p, .p, .p, .b 0]) (rest := []) (ks := [0, 4, 6, 8, 9]) (env' := [(0, vP b_2), (4, vP b_9), (6, vP b_10), (8, vP b_11), (9, vP b_18)]) (H' := [⟨1, b_2, [vI c_1.id, vU c_1.session, vU (wu64 (c_1.seq + 1)), vU c_1.call, .bool false, vI c_1.now.Kind, vU c_1.now.Session, vU c_1.now.Seq, vU c_1.now.Saga, .slice A_3 c_1.now.Steps.length c_4, vI c_1.now.Step, .bool c_1.now.Back, vI c_1.now.Try, .bool c_1.now.Ok, vU c_1.now.Now, .string (bs c_1.data), vI c_1.to_]⟩, ⟨40, b_8, [vI x_5.Kind, vI x_5.From, vI x_5.To, vU x_5.Term, vU x_5.Index, vU x_5.Prev, vU x_5.Commit, .bool x_5.Ok, .slice A_6 x_5.Entries.length c_7, .string (bs x_5.Data)]⟩, ⟨41, b_9, [vI 0, vI 0, vU 0, vU 0, vU 0, .slice none ([] : List T_api_Step).length 0, vI 0, .bool false, vI 0, .bool false, vU 0, vI 0, vU 0, vU 0]⟩, ⟨42, b_10, [vI 0, vI 0, vI 0, vU 0, vU 0, vU 0, vU 0, .bool false, .slice none ([] : List T_api_Entry).length 0, .string (bs [])]⟩, ⟨43, b_11, [vI 0, vI 0, vI 0, vU 0, vU 0, vU 0, vU 0, .bool false, .slice none ([] : List T_api_Entry).length 0, .string (bs [])]⟩, ⟨44, b_18, [vI r_17.1.Err, vU r_17.1.Num, vU r_17.1.Extra]⟩]) (ps := [b_2 = b_2, b_2 = b_2]) (by kernel_rfl) (And.intro rfl (And.intro rfl trivial)) ?_
        refine GoO.regionEnd ?_
        exact GoO.sub (ks := [0, 4, 6, 8, 9]) (hk := [0, 2, 3, 4, 5]) (bk := [0]) (by kernel_rfl) (by kernel_rfl) (by kernel_rfl) (client_Client_Hear_j3_ok n c_1 r_17 b_2 A_3 c_4 b_9 b_10 b_11 b_18 A_6 c_7 w0 S0 c_1.session (wu64 (c_1.seq + 1)))
theorem client_Client_Hear_j0_ok (n : Nat) (c_1 : T_client_Client) (x_5 : T_api_Letter) (b_2 : Nat) (A_3 : Option Addr) (c_4 : Nat) (A_6 : Option Addr) (c_7 : Nat) (b_8 : Nat) (b_9 : Nat) (b_10 : Nat) (b_11 : Nat) (w0 : World) (S0 : Fam) (b_15 : Bool) :
    GoO (client_Client_Hear.cx b_2 A_3 c_4 A_6 c_7 w0 S0) [(0, vP b_2), (3, vP b_8), (4, vP b_9), (6, vP b_10), (8, vP b_11), (44, .bool b_15)] [⟨1, b_2, [vI c_1.id, vU c_1.session, vU c_1.seq, vU c_1.call, .bool c_1.busy, vI c_1.now.Kind, vU c_1.now.Session, vU c_1.now.Seq, vU c_1.now.Saga, .slice A_3 c_1.now.Steps.length c_4, vI c_1.now.Step, .bool c_1.now.Back, vI c_1.now.Try, .bool c_1.now.Ok, vU c_1.now.Now, .string (bs c_1.data), vI c_1.to_]⟩, ⟨40, b_8, [vI x_5.Kind, vI x_5.From, vI x_5.To, vU x_5.Term, vU x_5.Index, vU x_5.Prev, vU x_5.Commit, .bool x_5.Ok, .slice A_6 x_5.Entries.length c_7, .string (bs x_5.Data)]⟩, ⟨41, b_9, [vI 0, vI 0, vU 0, vU 0, vU 0, .slice none ([] : List T_api_Step).length 0, vI 0, .bool false, vI 0, .bool false, vU 0, vI 0, vU 0, vU 0]⟩, ⟨42, b_10, [vI 0, vI 0, vI 0, vU 0, vU 0, vU 0, vU 0, .bool false, .slice none ([] : List T_api_Entry).length 0, .string (bs [])]⟩, ⟨43, b_11, [vI 0, vI 0, vI 0, vU 0, vU 0, vU 0, vU 0, .bool false, .slice none ([] : List T_api_Entry).length 0, .string (bs [])]⟩] [Rd 0 kT_api_Step A_3 c_4 c_1.now.Steps, Rd 0 kT_api_Entry A_6 c_7 x_5.Entries] [.code c36_7, .code c36_12] (client_Client_Hear.j0 n c_1 x_5 b_15) := by
  unfold client_Client_Hear.j0
  refine GoO.ite' c36_7e (by kernel_rfl) (fun h16 => ?_) (fun h16 => ?_)
  · refine GoO.seq' c36_8e ?_
    refine GoO.draw c36_9e (by kernel_rfl) [4, 5] [⟨43, b_11, [vI 0, vI 0, vI 0, vU 0, vU 0, vU 0, vU 0, .bool false, .slice none ([] : List T_api_Entry).length 0, .string (bs [])]⟩] [] (n := 6) (by kernel_rfl) ?_
    simp only [List.replicate]
    refine GoF.take [0, 1] [.p, .b 0] (ks := [4, 6, 45, 46]) (fu := 4) (li := [true, true, false, false, false, false]) (env' := [(4, vP b_9), (6, vP b_10), (45, .agg ⟨[vI 0, vI 0, vU 0, vU 0, vU 0, .slice none ([] : List T_api_Step).length 0, vI 0, .bool false, vI 0, .bool false, vU 0, vI 0, vU 0, vU 0]⟩), (46, .agg ⟨[vI 0, vI 0, vI 0, vU 0, vU 0, vU 0, vU 0, .bool false, .slice none ([] : List T_api_Entry).length 0, .string (bs [])]⟩)]) (ps := [b_11 = b_11]) (hk := [4]) (bk := []) (by kernel_rfl) (And.intro rfl trivial) rfl rfl ?_
    refine GoF.fin1 (i := 2) (hint := .b 2) (ps := [b_9 = b_9]) (hk := [4]) (bk := []) (by kernel_rfl) rfl (And.intro rfl trivial) (.inr ⟨rfl, rfl⟩) ?_
    refine GoF.take [3] [.p] (ks := [4, 5, 6, 46]) (fu := 2) (li := [true, true, true, true, false, false]) (env' := [(4, vP b_9), (5, .bool false), (6, vP b_10), (46, .agg ⟨[vI 0, vI 0, vI 0, vU 0, vU 0, vU 0, vU 0, .bool false, .slice none ([] : List T_api_Entry).length 0, .string (bs [])]⟩)]) (ps := []) (hk := [4]) (bk := []) (by kernel_rfl) trivial rfl rfl ?_
    refine GoF.fin1 (i := 4) (hint := .b 3) (ps := [b_10 = b_10]) (hk := []) (bk := []) (by kernel_rfl) rfl (And.intro rfl trivial) (.inl rfl) ?_
    refine GoF.fin1 (i := 5) (hint := .p) (ps := []) (hk := []) (bk := []) (by kernel_rfl) rfl trivial (.inl rfl) ?_
    refine GoF.done (by kernel_rfl) ?_
    refine GoO.nilRd kT_api_Step ?_
    refine GoO.nilRd kT_api_Entry ?_
    exact GoO.ret' (h := c36_10e) (hs := [2, 3]) (ps := [b_9 = b_9, b_10 = b_10]) (hk := [0]) (bk := [1, 0, 2]) Try.func36 (⟨none, 0, none, 0, A_3, c_4⟩ : Option Addr × Nat × Option Addr × Nat × Option Addr × Nat) (by kernel_rfl) (And.intro rfl (And.intro rfl trivial)) (by kernel_rfl) (by kernel_rfl)
  · refine GoO.skip' c36_11e ?_
    refine GoO.seq' c36_12e ?_
    refine GoO.region' (is := [0, 1, 2, 3, 4, 5, 6, 7, 8]) c36_13e (by kernel_rfl) ?_
    refine GoO.exec (is := [0, 1]) (hs := [.p, .b 1]) (rest := [2, 3, 4, 5, 6, 7, 8]) (ks := [0, 3, 4, 6, 8, 49]) (env' := [(0, vP b_2), (3, vP b_8), (4, vP b_9), (6, vP b_10), (8, vP b_11), (49, .string (bs x_5.Data))]) (H' := [⟨1, b_2, [vI c_1.id, vU c_1.session, vU c_1.seq, vU c_1.call, .bool c_1.busy, vI c_1.now.Kind, vU c_1.now.Session, vU c_1.now.Seq, vU c_1.now.Saga, .slice A_3 c_1.now.Steps.length c_4, vI c_1.now.Step, .bool c_1.now.Back, vI c_1.now.Try, .bool c_1.now.Ok, vU c_1.now.Now, .string (bs c_1.data), vI c_1.to_]⟩, ⟨40, b_8, [vI x_5.Kind, vI x_5.From, vI x_5.To, vU x_5.Term, vU x_5.Index, vU x_5.Prev, vU x_5.Commit, .bool x_5.Ok, .slice A_6 x_5.Entries.length c_7, .string (bs x_5.Data)]⟩, ⟨41, b_9, [vI 0, vI 0, vU 0, vU 0, vU 0, .slice none ([] : List T_api_Step).length 0, vI 0, .bool false, vI 0, .bool false, vU 0, vI 0, vU 0, vU 0]⟩, ⟨42, b_10, [vI 0, vI 0, vI 0, vU 0, vU 0, vU 0, vU 0, .bool false, .slice none ([] : List T_api_Entry).length 0, .string (bs [])]⟩, ⟨43, b_11, [vI 0, vI 0, vI 0, vU 0, vU 0, vU 0, vU 0, .bool false, .slice none ([] : List T_api_Entry).length 0, .string (bs [])]⟩]) (ps := [b_8 = b_8]) (by kernel_rfl) (And.intro rfl trivial) ?_
    refine OpTo.go (GoO.call rfl (by kernel_rfl) (by kernel_rfl) (command_Said_ok n x_5.Data) [[0]] [] [] [] (hks := [0, 1, 2, 3, 4]) (bks := [0, 1]) (by kernel_rfl) (by kernel_rfl) (by kernel_rfl) (.inl rfl) rfl rfl (by kernel_rfl) (by kernel_rfl) _ (fun _ _ => rfl) _ _ (fun _ _ => rfl) (fun _ _ => rfl) (fun _ _ => by kernel_rfl) (fun _ _ => by kernel_rfl) (fun r_17 x_36 => ?_))
    refine GoO.shape (env' := [(0, vP b_2), (3, vP b_8), (4, vP b_9), (6, vP b_10), (8, vP b_11), (49, .string (bs x_5.Data)), (50, .tuple ⟨[.agg ⟨[vI r_17.1.Err, vU r_17.1.Num, vU r_17.1.Extra]⟩, vI r_17.2]⟩)]) (H' := [⟨1, b_2, [vI c_1.id, vU c_1.session, vU c_1.seq, vU c_1.call, .bool c_1.busy, vI c_1.now.Kind, vU c_1.now.Session, vU c_1.now.Seq, vU c_1.now.Saga, .slice A_3 c_1.now.Steps.length c_4, vI c_1.now.Step, .bool c_1.now.Back, vI c_1.now.Try, .bool c_1.now.Ok, vU c_1.now.Now, .string (bs c_1.data), vI c_1.to_]⟩, ⟨40, b_8, [vI x_5.Kind, vI x_5.From, vI x_5.To, vU x_5.Term, vU x_5.Index, vU x_5.Prev, vU x_5.Commit, .bool x_5.Ok, .slice A_6 x_5.Entries.length c_7, .string (bs x_5.Data)]⟩, ⟨41, b_9, [vI 0, vI 0, vU 0, vU 0, vU 0, .slice none ([] : List T_api_Step).length 0, vI 0, .bool false, vI 0, .bool false, vU 0, vI 0, vU 0, vU 0]⟩, ⟨42, b_10, [vI 0, vI 0, vI 0, vU 0, vU 0, vU 0, vU 0, .bool false, .slice none ([] : List T_api_Entry).length 0, .string (bs [])]⟩, ⟨43, b_11, [vI 0, vI 0, vI 0, vU 0, vU 0, vU 0, vU 0, .bool false, .slice none ([] : List T_api_Entry).length 0, .string (bs [])]⟩]) (B' := [Rd 0 kT_api_Step A_3 c_4 c_1.now.Steps, Rd 0 kT_api_Entry A_6 c_7 x_5.Entries]) (ks := [0, 3, 4, 6, 8, 49, 50]) (by kernel_rfl) (by kernel_rfl) (by kernel_rfl) ?_
    refine GoO.exec (is := [3, 4, 5]) (hs := [.p, .p, .p]) (rest := [6, 7, 8]) (ks := [0, 3, 4, 6, 8, 51, 52]) (env' := [(0, vP b_2), (3, vP b_8), (4, vP b_9), (6, vP b_10), (8, vP b_11), (51, .agg ⟨[vI r_17.1.Err, vU r_17.1.Num, vU r_17.1.Extra]⟩), (52, vI r_17.2)]) (H' := [⟨1, b_2, [vI c_1.id, vU c_1.session, vU c_1.seq, vU c_1.call, .bool c_1.busy, vI c_1.now.Kind, vU c_1.now.Session, vU c_1.now.Seq, vU c_1.now.Saga, .slice A_3 c_1.now.Steps.length c_4, vI c_1.now.Step, .bool c_1.now.Back, vI c_1.now.Try, .bool c_1.now.Ok, vU c_1.now.Now, .string (bs c_1.data), vI c_1.to_]⟩, ⟨40, b_8, [vI x_5.Kind, vI x_5.From, vI x_5.To, vU x_5.Term, vU x_5.Index, vU x_5.Prev, vU x_5.Commit, .bool x_5.Ok, .slice A_6 x_5.Entries.length c_7, .string (bs x_5.Data)]⟩, ⟨41, b_9, [vI 0, vI 0, vU 0, vU 0, vU 0, .slice none ([] : List T_api_Step).length 0, vI 0, .bool false, vI 0, .bool false, vU 0, vI 0, vU 0, vU 0]⟩, ⟨42, b_10, [vI 0, vI 0, vI 0, vU 0, vU 0, vU 0, vU 0, .bool false, .slice none ([] : List T_api_Entry).length 0, .string (bs [])]⟩, ⟨43, b_11, [vI 0, vI 0, vI 0, vU 0, vU 0, vU 0, vU 0, .bool false, .slice none ([] : List T_api_Entry).length 0, .string (bs [])]⟩]) (ps := []) (by kernel_rfl) trivial ?_
    refine OpTo.go (GoO.new rfl 44 (cs := [vI 0, vU 0, vU 0]) (by kernel_rfl) _ (fun _ => rfl) (fun b_18 => ?_))
    refine GoO.exec (is := [7, 8]) (hs := [.b 0, .p]) (rest := []) (ks := [0, 3, 4, 6, 8, 9, 10]) (env' := [(0, vP b_2), (3, vP b_8), (4, vP b_9), (6, vP b_10), (8, vP b_11), (9, vP b_18), (10, vI r_17.2)]) (H' := [⟨44, b_18, [vI r_17.1.Err, vU r_17.1.Num, vU r_17.1.Extra]⟩, ⟨1, b_2, [vI c_1.id, vU c_1.session, vU c_1.seq, vU c_1.call, .bool c_1.busy, vI c_1.now.Kind, vU c_1.now.Session, vU c_1.now.Seq, vU c_1.now.Saga, .slice A_3 c_1.now.Steps.length c_4, vI c_1.now.Step, .bool c_1.now.Back, vI c_1.now.Try, .bool c_1.now.Ok, vU c_1.now.Now, .string (bs c_1.data), vI c_1.to_]⟩, ⟨40, b_8, [vI x_5.Kind, vI x_5.From, vI x_5.To, vU x_5.Term, vU x_5.Index, vU x_5.Prev, vU x_5.Commit, .bool x_5.Ok, .slice A_6 x_5.Entries.length c_7, .string (bs x_5.Data)]⟩, ⟨41, b_9, [vI 0, vI 0, vU 0, vU 0, vU 0, .slice none ([] : List T_api_Step).length 0, vI 0, .bool false, vI 0, .bool false, vU 0, vI 0, vU 0, vU 0]⟩, ⟨42, b_10, [vI 0, vI 0, vI 0, vU 0, vU 0, vU 0, vU 0, .bool false, .slice none ([] : List T_api_Entry).length 0, .string (bs [])]⟩, ⟨43, b_11, [vI 0, vI 0, vI 0, vU 0, vU 0, vU 0, vU 0, .bool false, .slice none ([] : List T_api_Entry).length 0, .string (bs [])]⟩]) (ps := [b_18 = b_18]) (by kernel_rfl) (And.intro rfl trivial) ?_
    refine GoO.regionEnd ?_
    refine GoO.seq' c36_14e ?_
    refine GoO.seq' c36_15e ?_
    refine GoO.region' (is := [0, 1]) c36_16e (by kernel_rfl) ?_
    refine GoO.exec (is := [0, 1]) (hs := [.p, .p]) (rest := []) (ks := [0, 3, 4, 6, 8, 9, 54]) (env' := [(0, vP b_2), (3, vP b_8), (4, vP b_9), (6, vP b_10), (8, vP b_11), (9, vP b_18), (54, .bool (r_17.2 != 0))]) (H' := [⟨44, b_18, [vI r_17.1.Err, vU r_17.1.Num, vU r_17.1.Extra]⟩, ⟨1, b_2, [vI c_1.id, vU c_1.session, vU c_1.seq, vU c_1.call, .bool c_1.busy, vI c_1.now.Kind, vU c_1.now.Session, vU c_1.now.Seq, vU c_1.now.Saga, .slice A_3 c_1.now.Steps.length c_4, vI c_1.now.Step, .bool c_1.now.Back, vI c_1.now.Try, .bool c_1.now.Ok, vU c_1.now.Now, .string (bs c_1.data), vI c_1.to_]⟩, ⟨40, b_8, [vI x_5.Kind, vI x_5.From, vI x_5.To, vU x_5.Term, vU x_5.Index, vU x_5.Prev, vU x_5.Commit, .bool x_5.Ok, .slice A_6 x_5.Entries.length c_7, .string (bs x_5.Data)]⟩, ⟨41, b_9, [vI 0, vI 0, vU 0, vU 0, vU 0, .slice none ([] : List T_api_Step).length 0, vI 0, .bool false, vI 0, .bool false, vU 0, vI 0, vU 0, vU 0]⟩, ⟨42, b_10, [vI 0, vI 0, vI 0, vU 0, vU 0, vU 0, vU 0, .bool false, .slice none ([] : List T_api_Entry).length 0, .string (bs [])]⟩, ⟨43, b_11, [vI 0, vI 0, vI 0, vU 0, vU 0, vU 0, vU 0, .bool false, .slice none ([] : List T_api_Entry).length 0, .string (bs [])]⟩]) (ps := []) (by kernel_rfl) trivial ?_
    refine GoO.regionEnd ?_
    refine GoO.ite' c36_17e (by kernel_rfl) (fun h19 => ?_) (fun h19 => ?_)
    · refine GoO.seq' c36_18e ?_
      refine GoO.draw c36_19e (by kernel_rfl) [4, 5] [⟨43, b_11, [vI 0, vI 0, vI 0, vU 0, vU 0, vU 0, vU 0, .bool false, .slice none ([] : List T_api_Entry).length 0, .string (bs [])]⟩] [] (n := 6) (by kernel_rfl) ?_
      simp only [List.replicate]
      refine GoF.take [0, 1] [.p, .b 0] (ks := [4, 6, 55, 56]) (fu := 4) (li := [true, true, false, false, false, false]) (env' := [(4, vP b_9), (6, vP b_10), (55, .agg ⟨[vI 0, vI 0, vU 0, vU 0, vU 0, .slice none ([] : List T_api_Step).length 0, vI 0, .bool false, vI 0, .bool false, vU 0, vI 0, vU 0, vU 0]⟩), (56, .agg ⟨[vI 0, vI 0, vI 0, vU 0, vU 0, vU 0, vU 0, .bool false, .slice none ([] : List T_api_Entry).length 0, .string (bs [])]⟩)]) (ps := [b_11 = b_11]) (hk := [5]) (bk := []) (by kernel_rfl) (And.intro rfl trivial) rfl rfl ?_
      refine GoF.fin1 (i := 2) (hint := .b 3) (ps := [b_9 = b_9]) (hk := [5]) (bk := []) (by kernel_rfl) rfl (And.intro rfl trivial) (.inr ⟨rfl, rfl⟩) ?_
      refine GoF.take [3] [.p] (ks := [4, 5, 6, 56]) (fu := 2) (li := [true, true, true, true, false, false]) (env' := [(4, vP b_9), (5, .bool false), (6, vP b_10), (56, .agg ⟨[vI 0, vI 0, vI 0, vU 0, vU 0, vU 0, vU 0, .bool false, .slice none ([] : List T_api_Entry).length 0, .string (bs [])]⟩)]) (ps := []) (hk := [5]) (bk := []) (by kernel_rfl) trivial rfl rfl ?_
      refine GoF.fin1 (i := 4) (hint := .b 4) (ps := [b_10 = b_10]) (hk := []) (bk := []) (by kernel_rfl) rfl (And.intro rfl trivial) (.inl rfl) ?_
      refine GoF.fin1 (i := 5) (hint := .p) (ps := []) (hk := []) (bk := []) (by kernel_rfl) rfl trivial (.inl rfl) ?_
      refine GoF.done (by kernel_rfl) ?_
      refine GoO.nilRd kT_api_Step ?_
      refine GoO.nilRd kT_api_Entry ?_
      exact GoO.ret' (h := c36_20e) (hs := [3, 4]) (ps := [b_9 = b_9, b_10 = b_10]) (hk := [1]) (bk := [1, 0, 2]) Try.func36 (⟨none, 0, none, 0, A_3, c_4⟩ : Option Addr × Nat × Option Addr × Nat × Option Addr × Nat) (by kernel_rfl) (And.intro rfl (And.intro rfl trivial)) (by kernel_rfl) (by kernel_rfl)
    · refine GoO.skip' c36_21e ?_
      refine GoO.seq' c36_22e ?_
      refine GoO.seq' c36_23e ?_
      refine GoO.region' (is := [0, 1, 2, 3, 4, 5, 6, 7]) c36_24e (by kernel_rfl) ?_
      refine GoO.exec (is := [0, 1, 2, 3]) (hs := [.p, .b 0, .p, .p]) (rest := [4, 5, 6, 7]) (ks := [0, 3, 4, 6, 8, 9, 60]) (env' := [(0, vP b_2), (3, vP b_8), (4, vP b_9), (6, vP b_10), (8, vP b_11), (9, vP b_18), (60, .bool (r_17.1.Err == 30))]) (H' := [⟨44, b_18, [vI r_17.1.Err, vU r_17.1.Num, vU r_17.1.Extra]⟩, ⟨1, b_2, [vI c_1.id, vU c_1.session, vU c_1.seq, vU c_1.call, .bool c_1.busy, vI c_1.now.Kind, vU c_1.now.Session, vU c_1.now.Seq, vU c_1.now.Saga, .slice A_3 c_1.now.Steps.length c_4, vI c_1.now.Step, .bool c_1.now.Back, vI c_1.now.Try, .bool c_1.now.Ok, vU c_1.now.Now, .string (bs c_1.data), vI c_1.to_]⟩, ⟨40, b_8, [vI x_5.Kind, vI x_5.From, vI x_5.To, vU x_5.Term, vU x_5.Index, vU x_5.Prev, vU x_5.Commit, .bool x_5.Ok, .slice A_6 x_5.Entries.length c_7, .string (bs x_5.Data)]⟩, ⟨41, b_9, [vI 0, vI 0, vU 0, vU 0, vU 0, .slice none ([] : List T_api_Step).length 0, vI 0, .bool false, vI 0, .bool false, vU 0, vI 0, vU 0, vU 0]⟩, ⟨42, b_10, [vI 0, vI 0, vI 0, vU 0, vU 0, vU 0, vU 0, .bool false, .slice none ([] : List T_api_Entry).length 0, .string (bs [])]⟩, ⟨43, b_11, [vI 0, vI 0, vI 0, vU 0, vU 0, vU 0, vU 0, .bool false, .slice none ([] : List T_api_Entry).length 0, .string (bs [])]⟩]) (ps := [b_18 = b_18]) (by kernel_rfl) (And.intro rfl trivial) ?_
      refine GoO.bsplit (t := 60) (by kernel_rfl) (fun h20 => ?_) (fun h20 => ?_)
      · refine GoO.exec (is := [4, 5, 6, 7]) (hs := [.p, .p, .p, .p]) (rest := []) (ks := [0, 3, 4, 6, 8, 9, 64]) (env' := [(0, vP b_2), (3, vP b_8), (4, vP b_9), (6, vP b_10), (8, vP b_11), (9, vP b_18), (64, .bool true)]) (H' := [⟨44, b_18, [vI r_17.1.Err, vU r_17.1.Num, vU r_17.1.Extra]⟩, ⟨1, b_2, [vI c_1.id, vU c_1.session, vU c_1.seq, vU c_1.call, .bool c_1.busy, vI c_1.now.Kind, vU c_1.now.Session, vU c_1.now.Seq, vU c_1.now.Saga, .slice A_3 c_1.now.Steps.length c_4, vI c_1.now.Step, .bool c_1.now.Back, vI c_1.now.Try, .bool c_1.now.Ok, vU c_1.now.Now, .string (bs c_1.data), vI c_1.to_]⟩, ⟨40, b_8, [vI x_5.Kind, vI x_5.From, vI x_5.To, vU x_5.Term, vU x_5.Index, vU x_5.Prev, vU x_5.Commit, .bool x_5.Ok, .slice A_6 x_5.Entries.length c_7, .string (bs x_5.Data)]⟩, ⟨41, b_9, [vI 0, vI 0, vU 0, vU 0, vU 0, .slice none ([] : List T_api_Step).length 0, vI 0, .bool false, vI 0, .bool false, vU 0, vI 0, vU 0, vU 0]⟩, ⟨42, b_10, [vI 0, vI 0, vI 0, vU 0, vU 0, vU 0, vU 0, .bool false, .slice none ([] : List T_api_Entry).length 0, .string (bs [])]⟩, ⟨43, b_11, [vI 0, vI 0, vI 0, vU 0, vU 0, vU 0, vU 0, .bool false, .slice none ([] : List T_api_Entry).length 0, .string (bs [])]⟩]) (ps := []) (by kernel_rfl) trivial ?_
        refine GoO.regionEnd ?_
        exact GoO.sub (ks := [0, 3, 4, 6, 8, 9, 64]) (hk := [1, 2, 3, 4, 5, 0]) (bk := [0, 1]) (by kernel_rfl) (by kernel_rfl) (by kernel_rfl) (client_Client_Hear_j1_ok n c_1 x_5 r_17 b_2 A_3 c_4 A_6 c_7 b_8 b_9 b_10 b_11 b_18 w0 S0 true)
      · refine GoO.exec (is := [4, 5, 6, 7]) (hs := [.p, .b 0, .p, .p]) (rest := []) (ks := [0, 3, 4, 6, 8, 9, 64]) (env' := [(0, vP b_2), (3, vP b_8), (4, vP b_9), (6, vP b_10), (8, vP b_11), (9, vP b_18), (64, .bool (r_17.1.Err == 31))]) (H' := [⟨44, b_18, [vI r_17.1.Err, vU r_17.1.Num, vU r_17.1.Extra]⟩, ⟨1, b_2, [vI c_1.id, vU c_1.session, vU c_1.seq, vU c_1.call, .bool c_1.busy, vI c_1.now.Kind, vU c_1.now.Session, vU c_1.now.Seq, vU c_1.now.Saga, .slice A_3 c_1.now.Steps.length c_4, vI c_1.now.Step, .bool c_1.now.Back, vI c_1.now.Try, .bool c_1.now.Ok, vU c_1.now.Now, .string (bs c_1.data), vI c_1.to_]⟩, ⟨40, b_8, [vI x_5.Kind, vI x_5.From, vI x_5.To, vU x_5.Term, vU x_5.Index, vU x_5.Prev, vU x_5.Commit, .bool x_5.Ok, .slice A_6 x_5.Entries.length c_7, .string (bs x_5.Data)]⟩, ⟨41, b_9, [vI 0, vI 0, vU 0, vU 0, vU 0, .slice none ([] : List T_api_Step).length 0, vI 0, .bool false, vI 0, .bool false, vU 0, vI 0, vU 0, vU 0]⟩, ⟨42, b_10, [vI 0, vI 0, vI 0, vU 0, vU 0, vU 0, vU 0, .bool false, .slice none ([] : List T_api_Entry).length 0, .string (bs [])]⟩, ⟨43, b_11, [vI 0, vI 0, vI 0, vU 0, vU 0, vU 0, vU 0, .bool false, .slice none ([] : List T_api_Entry).length 0, .string (bs [])]⟩]) (ps := [b_18 = b_18]) (by kernel_rfl) (And.intro rfl trivial) ?_
        refine GoO.regionEnd ?_
        exact GoO.sub (ks := [0, 3, 4, 6, 8, 9, 64]) (hk := [1, 2, 3, 4, 5, 0]) (bk := [0, 1]) (by kernel_rfl) (by kernel_rfl) (by kernel_rfl) (client_Client_Hear_j1_ok n c_1 x_5 r_17 b_2 A_3 c_4 A_6 c_7 b_8 b_9 b_10 b_11 b_18 w0 S0 (r_17.1.Err == 31))
theorem client_Client_Hear_ok (n : Nat) (c_1 : T_client_Client) (x_5 : T_api_Letter) (b_2 : Nat) (A_3 : Option Addr) (c_4 : Nat) (A_6 : Option Addr) (c_7 : Nat) :
    Meets Try.prog 36 [vP b_2, .agg ⟨[vI x_5.Kind, vI x_5.From, vI x_5.To, vU x_5.Term, vU x_5.Index, vU x_5.Prev, vU x_5.Commit, .bool x_5.Ok, .slice A_6 x_5.Entries.length c_7, .string (bs x_5.Data)]⟩] 1 [1] [⟨1, b_2, [vI c_1.id, vU c_1.session, vU c_1.seq, vU c_1.call, .bool c_1.busy, vI c_1.now.Kind, vU c_1.now.Session, vU c_1.now.Seq, vU c_1.now.Saga, .slice A_3 c_1.now.Steps.length c_4, vI c_1.now.Step, .bool c_1.now.Back, vI c_1.now.Try, .bool c_1.now.Ok, vU c_1.now.Now, .string (bs c_1.data), vI c_1.to_]⟩] [Rd 0 kT_api_Step A_3 c_4 c_1.now.Steps, Rd 0 kT_api_Entry A_6 c_7 x_5.Entries] (client_Client_Hear.f n c_1 x_5) (client_Client_Hear.R b_2 A_3 c_4 A_6 c_7) := by
  refine Meets.of (c := c36_0) (n := 145) Try.func36 (by kernel_rfl) (by kernel_rfl) (by kernel_rfl) fun w0 S0 => ?_
  unfold client_Client_Hear.f
  show GoO (client_Client_Hear.cx b_2 A_3 c_4 A_6 c_7 w0 S0) [(0, vP b_2), (1, .agg ⟨[vI x_5.Kind, vI x_5.From, vI x_5.To, vU x_5.Term, vU x_5.Index, vU x_5.Prev, vU x_5.Commit, .bool x_5.Ok, .slice A_6 x_5.Entries.length c_7, .string (bs x_5.Data)]⟩)] [⟨1, b_2, [vI c_1.id, vU c_1.session, vU c_1.seq, vU c_1.call, .bool c_1.busy, vI c_1.now.Kind, vU c_1.now.Session, vU c_1.now.Seq, vU c_1.now.Saga, .slice A_3 c_1.now.Steps.length c_4, vI c_1.now.Step, .bool c_1.now.Back, vI c_1.now.Try, .bool c_1.now.Ok, vU c_1.now.Now, .string (bs c_1.data), vI c_1.to_]⟩] [Rd 0 kT_api_Step A_3 c_4 c_1.now.Steps, Rd 0 kT_api_Entry A_6 c_7 x_5.Entries] [.code c36_0] _
  refine GoO.seq' c36_0e ?_
  refine GoO.region' (is := [0, 1, 2, 3, 4]) c36_1e (by kernel_rfl) ?_
  refine OpTo.go (GoO.new rfl 40 (cs := [vI x_5.Kind, vI x_5.From, vI x_5.To, vU x_5.Term, vU x_5.Index, vU x_5.Prev, vU x_5.Commit, .bool x_5.Ok, .slice A_6 x_5.Entries.length c_7, .string (bs x_5.Data)]) (by kernel_rfl) _ (fun _ => rfl) (fun b_8 => ?_))
  refine OpTo.go (GoO.new rfl 41 (cs := [vI 0, vI 0, vU 0, vU 0, vU 0, .slice none ([] : List T_api_Step).length 0, vI 0, .bool false, vI 0, .bool false, vU 0, vI 0, vU 0, vU 0]) (by kernel_rfl) _ (fun _ => rfl) (fun b_9 => ?_))
  refine GoO.exec (is := [2]) (hs := [.p]) (rest := [3, 4]) (ks := [0, 3, 4]) (env' := [(0, vP b_2), (3, vP b_8), (4, vP b_9)]) (H' := [⟨41, b_9, [vI 0, vI 0, vU 0, vU 0, vU 0, .slice none ([] : List T_api_Step).length 0, vI 0, .bool false, vI 0, .bool false, vU 0, vI 0, vU 0, vU 0]⟩, ⟨40, b_8, [vI x_5.Kind, vI x_5.From, vI x_5.To, vU x_5.Term, vU x_5.Index, vU x_5.Prev, vU x_5.Commit, .bool x_5.Ok, .slice A_6 x_5.Entries.length c_7, .string (bs x_5.Data)]⟩, ⟨1, b_2, [vI c_1.id, vU c_1.session, vU c_1.seq, vU c_1.call, .bool c_1.busy, vI c_1.now.Kind, vU c_1.now.Session, vU c_1.now.Seq, vU c_1.now.Saga, .slice A_3 c_1.now.Steps.length c_4, vI c_1.now.Step, .bool c_1.now.Back, vI c_1.now.Try, .bool c_1.now.Ok, vU c_1.now.Now, .string (bs c_1.data), vI c_1.to_]⟩]) (ps := []) (by kernel_rfl) trivial ?_
  refine OpTo.go (GoO.new rfl 42 (cs := [vI 0, vI 0, vI 0, vU 0, vU 0, vU 0, vU 0, .bool false, .slice none ([] : List T_api_Entry).length 0, .string (bs [])]) (by kernel_rfl) _ (fun _ => rfl) (fun b_10 => ?_))
  refine GoO.exec (is := [4]) (hs := [.p]) (rest := []) (ks := [0, 3, 4, 6]) (env' := [(0, vP b_2), (3, vP b_8), (4, vP b_9), (6, vP b_10)]) (H' := [⟨42, b_10, [vI 0, vI 0, vI 0, vU 0, vU 0, vU 0, vU 0, .bool false, .slice none ([] : List T_api_Entry).length 0, .string (bs [])]⟩, ⟨41, b_9, [vI 0, vI 0, vU 0, vU 0, vU 0, .slice none ([] : List T_api_Step).length 0, vI 0, .bool false, vI 0, .bool false, vU 0, vI 0, vU 0, vU 0]⟩, ⟨40, b_8, [vI x_5.Kind, vI x_5.From, vI x_5.To, vU x_5.Term, vU x_5.Index, vU x_5.Prev, vU x_5.Commit, .bool x_5.Ok, .slice A_6 x_5.Entries.length c_7, .string (bs x_5.Data)]⟩, ⟨1, b_2, [vI c_1.id, vU c_1.session, vU c_1.seq, vU c_1.call, .bool c_1.busy, vI c_1.now.Kind, vU c_1.now.Session, vU c_1.now.Seq, vU c_1.now.Saga, .slice A_3 c_1.now.Steps.length c_4, vI c_1.now.Step, .bool c_1.now.Back, vI c_1.now.Try, .bool c_1.now.Ok, vU c_1.now.Now, .string (bs c_1.data), vI c_1.to_]⟩]) (ps := []) (by kernel_rfl) trivial ?_
  refine GoO.regionEnd ?_
  refine GoO.seq' c36_2e ?_
  refine GoO.region' (is := [0, 1, 2]) c36_3e (by kernel_rfl) ?_
  refine GoO.exec (is := [0]) (hs := [.p]) (rest := [1, 2]) (ks := [0, 3, 4, 6, 11]) (env' := [(0, vP b_2), (3, vP b_8), (4, vP b_9), (6, vP b_10), (11, .agg ⟨[vI 0, vI 0, vI 0, vU 0, vU 0, vU 0, vU 0, .bool false, .slice none ([] : List T_api_Entry).length 0, .string (bs [])]⟩)]) (H' := [⟨42, b_10, [vI 0, vI 0, vI 0, vU 0, vU 0, vU 0, vU 0, .bool false, .slice none ([] : List T_api_Entry).length 0, .string (bs [])]⟩, ⟨41, b_9, [vI 0, vI 0, vU 0, vU 0, vU 0, .slice none ([] : List T_api_Step).length 0, vI 0, .bool false, vI 0, .bool false, vU 0, vI 0, vU 0, vU 0]⟩, ⟨40, b_8, [vI x_5.Kind, vI x_5.From, vI x_5.To, vU x_5.Term, vU x_5.Index, vU x_5.Prev, vU x_5.Commit, .bool x_5.Ok, .slice A_6 x_5.Entries.length c_7, .string (bs x_5.Data)]⟩, ⟨1, b_2, [vI c_1.id, vU c_1.session, vU c_1.seq, vU c_1.call, .bool c_1.busy, vI c_1.now.Kind, vU c_1.now.Session, vU c_1.now.Seq, vU c_1.now.Saga, .slice A_3 c_1.now.Steps.length c_4, vI c_1.now.Step, .bool c_1.now.Back, vI c_1.now.Try, .bool c_1.now.Ok, vU c_1.now.Now, .string (bs c_1.data), vI c_1.to_]⟩]) (ps := []) (by kernel_rfl) trivial ?_
  refine OpTo.go (GoO.new rfl 43 (cs := [vI 0, vI 0, vI 0, vU 0, vU 0, vU 0, vU 0, .bool false, .slice none ([] : List T_api_Entry).length 0, .string (bs [])]) (by kernel_rfl) _ (fun _ => rfl) (fun b_11 => ?_))
  refine GoO.exec (is := [2]) (hs := [.b 0]) (rest := []) (ks := [0, 3, 4, 6, 8]) (env' := [(0, vP b_2), (3, vP b_8), (4, vP b_9), (6, vP b_10), (8, vP b_11)]) (H' := [⟨43, b_11, [vI 0, vI 0, vI 0, vU 0, vU 0, vU 0, vU 0, .bool false, .slice none ([] : List T_api_Entry).length 0, .string (bs [])]⟩, ⟨42, b_10, [vI 0, vI 0, vI 0, vU 0, vU 0, vU 0, vU 0, .bool false, .slice none ([] : List T_api_Entry).length 0, .string (bs [])]⟩, ⟨41, b_9, [vI 0, vI 0, vU 0, vU 0, vU 0, .slice none ([] : List T_api_Step).length 0, vI 0, .bool false, vI 0, .bool false, vU 0, vI 0, vU 0, vU 0]⟩, ⟨40, b_8, [vI x_5.Kind, vI x_5.From, vI x_5.To, vU x_5.Term, vU x_5.Index, vU x_5.Prev, vU x_5.Commit, .bool x_5.Ok, .slice A_6 x_5.Entries.length c_7, .string (bs x_5.Data)]⟩, ⟨1, b_2, [vI c_1.id, vU c_1.session, vU c_1.seq, vU c_1.call, .bool c_1.busy, vI c_1.now.Kind, vU c_1.now.Session, vU c_1.now.Seq, vU c_1.now.Saga, .slice A_3 c_1.now.Steps.length c_4, vI c_1.now.Step, .bool c_1.now.Back, vI c_1.now.Try, .bool c_1.now.Ok, vU c_1.now.Now, .string (bs c_1.data), vI c_1.to_]⟩]) (ps := [b_11 = b_11]) (by kernel_rfl) (And.intro rfl trivial) ?_
  refine GoO.regionEnd ?_
  refine GoO.seq' c36_4e ?_
  refine GoO.seq' c36_5e ?_
  refine GoO.draw c36_6e (by kernel_rfl) [] [⟨40, b_8, [vI x_5.Kind, vI x_5.From, vI x_5.To, vU x_5.Term, vU x_5.Index, vU x_5.Prev, vU x_5.Commit, .bool x_5.Ok, .slice A_6 x_5.Entries.length c_7, .string (bs x_5.Data)]⟩, ⟨1, b_2, [vI c_1.id, vU c_1.session, vU c_1.seq, vU c_1.call, .bool c_1.busy, vI c_1.now.Kind, vU c_1.now.Session, vU c_1.now.Seq, vU c_1.now.Saga, .slice A_3 c_1.now.Steps.length c_4, vI c_1.now.Step, .bool c_1.now.Back, vI c_1.now.Try, .bool c_1.now.Ok, vU c_1.now.Now, .string (bs c_1.data), vI c_1.to_]⟩] [] (n := 33) (by kernel_rfl) ?_
  simp only [List.replicate]
  refine GoF.take [0, 1, 2, 3, 4, 5, 6, 7, 8, 9] [.p, .p, .p, .p, .p, .p, .b 1, .p, .p, .p] (ks := [0, 3, 4, 6, 8, 21]) (fu := 23) (li := [true, true, true, true, true, true, true, true, true, true, false, false, false, false, false, false, false, false, false, false, false, false, false, false, false, false, false, false, false, false, false, false, false]) (env' := [(0, vP b_2), (3, vP b_8), (4, vP b_9), (6, vP b_10), (8, vP b_11), (21, .bool (!c_1.busy))]) (ps := [b_2 = b_2]) (hk := [3, 4]) (bk := []) (by kernel_rfl) (And.intro rfl trivial) rfl rfl ?_
  refine GoF.bsplit (t := 21) (by kernel_rfl) (fun h12 => ?_) (fun h12 => ?_)
  · refine GoF.take [10, 11, 12, 13, 14, 15, 16, 17, 18, 19, 20, 21, 22, 23, 24, 25, 26, 27, 28, 29, 30, 31, 32] [.p, .p, .p, .p, .p, .p, .p, .p, .p, .p, .p, .p, .p, .p, .p, .p, .p, .p, .p, .p, .p, .p, .p] (ks := [0, 3, 4, 6, 8, 44]) (fu := 0) (li := [true, true, true, true, true, true, true, true, true, true, true, true, true, true, true, true, true, true, true, true, true, true, true, true, true, true, true, true, true, true, true, true, true]) (env' := [(0, vP b_2), (3, vP b_8), (4, vP b_9), (6, vP b_10), (8, vP b_11), (44, .bool true)]) (ps := []) (hk := [3, 4]) (bk := []) (by kernel_rfl) trivial rfl rfl ?_
    refine GoF.done (by kernel_rfl) ?_
    exact GoO.sub (ks := [0, 3, 4, 6, 8, 44]) (hk := [4, 3, 2, 1, 0]) (bk := [0, 1]) (by kernel_rfl) (by kernel_rfl) (by kernel_rfl) (client_Client_Hear_j0_ok n c_1 x_5 b_2 A_3 c_4 A_6 c_7 b_8 b_9 b_10 b_11 w0 S0 true)
  · refine GoF.take [10, 11, 12, 13, 14] [.p, .b 0, .p, .p, .p] (ks := [0, 3, 4, 6, 8, 26]) (fu := 18) (li := [true, true, true, true, true, true, true, true, true, true, true, true, true, true, true, false, false, false, false, false, false, false, false, false, false, false, false, false, false, false, false, false, false]) (env' := [(0, vP b_2), (3, vP b_8), (4, vP b_9), (6, vP b_10), (8, vP b_11), (26, .bool (x_5.Kind != 9))]) (ps := [b_8 = b_8]) (hk := [3, 4]) (bk := []) (by kernel_rfl) (And.intro rfl trivial) rfl rfl ?_
    refine GoF.bsplit (t := 26) (by kernel_rfl) (fun h13 => ?_) (fun h13 => ?_)
    · refine GoF.take [15, 16, 17, 18, 19, 20, 21, 22, 23, 24, 25, 26, 27, 28, 29, 30, 31, 32] [.p, .p, .p, .p, .p, .p, .p, .p, .p, .p, .p, .p, .p, .p, .p, .p, .p, .p] (ks := [0, 3, 4, 6, 8, 44]) (fu := 0) (li := [true, true, true, true, true, true, true, true, true, true, true, true, true, true, true, true, true, true, true, true, true, true, true, true, true, true, true, true, true, true, true, true, true]) (env' := [(0, vP b_2), (3, vP b_8), (4, vP b_9), (6, vP b_10), (8, vP b_11), (44, .bool true)]) (ps := []) (hk := [3, 4]) (bk := []) (by kernel_rfl) trivial rfl rfl ?_
      refine GoF.done (by kernel_rfl) ?_
      exact GoO.sub (ks := [0, 3, 4, 6, 8, 44]) (hk := [4, 3, 2, 1, 0]) (bk := [0, 1]) (by kernel_rfl) (by kernel_rfl) (by kernel_rfl) (client_Client_Hear_j0_ok n c_1 x_5 b_2 A_3 c_4 A_6 c_7 b_8 b_9 b_10 b_11 w0 S0 true)
    · refine GoF.take [15, 16, 17, 18, 19, 20, 21, 22, 23, 24] [.p, .b 0, .p, .p, .p, .b 1, .p, .p, .p, .p] (ks := [0, 3, 4, 6, 8, 36]) (fu := 8) (li := [true, true, true, true, true, true, true, true, true, true, true, true, true, true, true, true, true, true, true, true, true, true, true, true, true, false, false, false, false, false, false, false, false]) (env' := [(0, vP b_2), (3, vP b_8), (4, vP b_9), (6, vP b_10), (8, vP b_11), (36, .bool (x_5.To != (wi64 (200 + c_1.id))))]) (ps := [b_8 = b_8, b_2 = b_2]) (hk := [3, 4]) (bk := []) (by kernel_rfl) (And.intro rfl (And.intro rfl trivial)) rfl rfl ?_
      refine GoF.bsplit (t := 36) (by kernel_rfl) (fun h14 => ?_) (fun h14 => ?_)
      · refine GoF.take [25, 26, 27, 28, 29, 30, 31, 32] [.p, .p, .p, .p, .p, .p, .p, .p] (ks := [0, 3, 4, 6, 8, 44]) (fu := 0) (li := [true, true, true, true, true, true, true, true, true, true, true, true, true, true, true, true, true, true, true, true, true, true, true, true, true, true, true, true, true, true, true, true, true]) (env' := [(0, vP b_2), (3, vP b_8), (4, vP b_9), (6, vP b_10), (8, vP b_11), (44, .bool true)]) (ps := []) (hk := [3, 4]) (bk := []) (by kernel_rfl) trivial rfl rfl ?_
        refine GoF.done (by kernel_rfl) ?_
        exact GoO.sub (ks := [0, 3, 4, 6, 8, 44]) (hk := [4, 3, 2, 1, 0]) (bk := [0, 1]) (by kernel_rfl) (by kernel_rfl) (by kernel_rfl) (client_Client_Hear_j0_ok n c_1 x_5 b_2 A_3 c_4 A_6 c_7 b_8 b_9 b_10 b_11 w0 S0 true)
      · refine GoF.take [25, 26, 27, 28, 29, 30, 31, 32] [.p, .b 0, .p, .p, .p, .b 1, .p, .p] (ks := [0, 3, 4, 6, 8, 44]) (fu := 0) (li := [true, true, true, true, true, true, true, true, true, true, true, true, true, true, true, true, true, true, true, true, true, true, true, true, true, true, true, true, true, true, true, true, true]) (env' := [(0, vP b_2), (3, vP b_8), (4, vP b_9), (6, vP b_10), (8, vP b_11), (44, .bool (x_5.Index != c_1.call))]) (ps := [b_8 = b_8, b_2 = b_2]) (hk := [3, 4]) (bk := []) (by kernel_rfl) (And.intro rfl (And.intro rfl trivial)) rfl rfl ?_
        refine GoF.done (by kernel_rfl) ?_
        exact GoO.sub (ks := [0, 3, 4, 6, 8, 44]) (hk := [4, 3, 2, 1, 0]) (bk := [0, 1]) (by kernel_rfl) (by kernel_rfl) (by kernel_rfl) (client_Client_Hear_j0_ok n c_1 x_5 b_2 A_3 c_4 A_6 c_7 b_8 b_9 b_10 b_11 w0 S0 (x_5.Index != c_1.call))
/-! (*tontine/client.Client).Status -/
noncomputable def c39_0 : Code := bodyOf Try.f39
noncomputable def c39_1 : Code := cdL c39_0
noncomputable def c39_2 : Code := cdR c39_0
noncomputable def c39_3 : Code := cdL c39_2
noncomputable def c39_4 : Code := cdL c39_3
noncomputable def c39_5 : Code := cdR c39_3
noncomputable def c39_9 : Code := cdR c39_5
noncomputable def c39_10 : Code := cdR c39_2
noncomputable def c39_11 : Code := cdL c39_10
noncomputable def c39_12 : Code := cdR c39_10
noncomputable def c39_6 : Code := cdL c39_5
noncomputable def r39_1 : Array Oper := cdO c39_1
noncomputable def r39_4 : Array Oper := cdO c39_4
noncomputable def r39_11 : Array Oper := cdO c39_11
theorem c39_0e : c39_0 = .seq c39_1 c39_2 := by kernel_rfl
theorem c39_1e : c39_1 = .region 0 r39_1 false := by kernel_rfl
theorem c39_2e : c39_2 = .seq c39_3 c39_10 := by kernel_rfl
theorem c39_3e : c39_3 = .seq c39_4 c39_5 := by kernel_rfl
theorem c39_4e : c39_4 = .region 1 r39_4 false := by kernel_rfl
theorem c39_5e : c39_5 = .cond (cdC c39_5) c39_6 c39_9 := by kernel_rfl
theorem c39_9e : c39_9 = .skip := by kernel_rfl
theorem c39_10e : c39_10 = .seq c39_11 c39_12 := by kernel_rfl
theorem c39_11e : c39_11 = .region 3 r39_11 true := by kernel_rfl
theorem c39_12e : c39_12 = .ret := by kernel_rfl
noncomputable def client_Client_Status.R (b_2 : Nat) (A_3 : Option Addr) (c_4 : Nat) : Pst (Int × Int × Bool) where
  ε := Unit
  v := fun r x => .tuple ⟨[vU r.1, vU r.2.1, .bool r.2.2]⟩
  H := fun r x => []
  B := fun r x => []
noncomputable def client_Client_Status.cx (b_2 : Nat) (A_3 : Option Addr) (c_4 : Nat) (w0 : World) (S0 : Fam) : Cx (Int × Int × Bool) := ⟨Try.prog, 39, Try.f39, 19, w0, S0, [], 1, client_Client_Status.R b_2 A_3 c_4⟩
theorem client_Client_Status_ok (n : Nat) (c_1 : T_client_Client) (b_2 : Nat) (A_3 : Option Addr) (c_4 : Nat) :
    Meets Try.prog 39 [vP b_2] 1 [] [⟨1, b_2, [vI c_1.id, vU c_1.session, vU c_1.seq, vU c_1.call, .bool c_1.busy, vI c_1.now.Kind, vU c_1.now.Session, vU c_1.now.Seq, vU c_1.now.Saga, .slice A_3 c_1.now.Steps.length c_4, vI c_1.now.Step, .bool c_1.now.Back, vI c_1.now.Try, .bool c_1.now.Ok, vU c_1.now.Now, .string (bs c_1.data), vI c_1.to_]⟩] [Rd 0 kT_api_Step A_3 c_4 c_1.now.Steps] (client_Client_Status.f n c_1) (client_Client_Status.R b_2 A_3 c_4) := by
  refine Meets.of (c := c39_0) (n := 19) Try.func39 (by kernel_rfl) (by kernel_rfl) (by kernel_rfl) fun w0 S0 => ?_
  unfold client_Client_Status.f
  show GoO (client_Client_Status.cx b_2 A_3 c_4 w0 S0) [(0, vP b_2)] [⟨1, b_2, [vI c_1.id, vU c_1.session, vU c_1.seq, vU c_1.call, .bool c_1.busy, vI c_1.now.Kind, vU c_1.now.Session, vU c_1.now.Seq, vU c_1.now.Saga, .slice A_3 c_1.now.Steps.length c_4, vI c_1.now.Step, .bool c_1.now.Back, vI c_1.now.Try, .bool c_1.now.Ok, vU c_1.now.Now, .string (bs c_1.data), vI c_1.to_]⟩] [Rd 0 kT_api_Step A_3 c_4 c_1.now.Steps] [.code c39_0] _
  refine GoO.seq' c39_0e ?_
  refine GoO.region' (is := [0, 1, 2]) c39_1e (by kernel_rfl) ?_
  refine GoO.exec (is := [0, 1, 2]) (hs := [.p, .p, .p]) (rest := []) (ks := [0]) (env' := [(0, vP b_2)]) (H' := [⟨1, b_2, [vI c_1.id, vU c_1.session, vU c_1.seq, vU c_1.call, .bool c_1.busy, vI c_1.now.Kind, vU c_1.now.Session, vU c_1.now.Seq, vU c_1.now.Saga, .slice A_3 c_1.now.Steps.length c_4, vI c_1.now.Step, .bool c_1.now.Back, vI c_1.now.Try, .bool c_1.now.Ok, vU c_1.now.Now, .string (bs c_1.data), vI c_1.to_]⟩]) (ps := []) (by kernel_rfl) trivial ?_
  refine GoO.regionEnd ?_
  refine GoO.seq' c39_2e ?_
  refine GoO.seq' c39_3e ?_
  refine GoO.region' (is := [0, 1]) c39_4e (by kernel_rfl) ?_
  refine GoO.exec (is := [0, 1]) (hs := [.p, .p]) (rest := []) (ks := [0, 6]) (env' := [(0, vP b_2), (6, .bool false)]) (H' := [⟨1, b_2, [vI c_1.id, vU c_1.session, vU c_1.seq, vU c_1.call, .bool c_1.busy, vI c_1.now.Kind, vU c_1.now.Session, vU c_1.now.Seq, vU c_1.now.Saga, .slice A_3 c_1.now.Steps.length c_4, vI c_1.now.Step, .bool c_1.now.Back, vI c_1.now.Try, .bool c_1.now.Ok, vU c_1.now.Now, .string (bs c_1.data), vI c_1.to_]⟩]) (ps := []) (by kernel_rfl) trivial ?_
  refine GoO.regionEnd ?_
  refine GoO.condF c39_5e (by kernel_rfl) ?_
  refine GoO.skip' c39_9e ?_
  refine GoO.seq' c39_10e ?_
  refine GoO.draw c39_11e (by kernel_rfl) [14] [⟨1, b_2, [vI c_1.id, vU c_1.session, vU c_1.seq, vU c_1.call, .bool c_1.busy, vI c_1.now.Kind, vU c_1.now.Session, vU c_1.now.Seq, vU c_1.now.Saga, .slice A_3 c_1.now.Steps.length c_4, vI c_1.now.Step, .bool c_1.now.Back, vI c_1.now.Try, .bool c_1.now.Ok, vU c_1.now.Now, .string (bs c_1.data), vI c_1.to_]⟩] [] (n := 15) (by kernel_rfl) ?_
  simp only [List.replicate]
  refine GoF.take [0, 1, 2, 3, 4, 5, 6, 7, 8, 9, 10, 11, 12, 13] [.p, .p, .p, .b 0, .p, .p, .p, .b 0, .p, .p, .p, .b 0, .p, .p] (ks := [2, 3, 18]) (fu := 1) (li := [true, true, true, true, true, true, true, true, true, true, true, true, true, true, false]) (env' := [(2, vU c_1.session), (3, vU c_1.seq), (18, .bool c_1.busy)]) (ps := [b_2 = b_2, b_2 = b_2, b_2 = b_2]) (hk := [0]) (bk := []) (by kernel_rfl) (And.intro rfl (And.intro rfl (And.intro rfl trivial))) rfl rfl ?_
  refine GoF.fin1 (i := 14) (hint := .p) (ps := []) (hk := []) (bk := []) (by kernel_rfl) rfl trivial (.inl rfl) ?_
  refine GoF.done (by kernel_rfl) ?_
  exact GoO.ret' (h := c39_12e) (hs := []) (ps := []) (hk := []) (bk := []) Try.func39 () (by kernel_rfl) trivial (by kernel_rfl) (by kernel_rfl)
/-! tontine/tontinelaw21.begun -/
noncomputable def c30_0 : Code := bodyOf Try.f30
noncomputable def c30_1 : Code := cdL c30_0
noncomputable def c30_2 : Code := cdR c30_0
noncomputable def c30_3 : Code := cdL c30_2
noncomputable def c30_4 : Code := cdR c30_2
noncomputable def c30_5 : Code := cdL c30_4
noncomputable def c30_6 : Code := cdR c30_4
noncomputable def c30_7 : Code := cdL c30_6
noncomputable def c30_8 : Code := cdR c30_6
noncomputable def c30_9 : Code := cdL c30_8
noncomputable def c30_10 : Code := cdR c30_8
noncomputable def c30_11 : Code := cdL c30_10
noncomputable def c30_12 : Code := cdR c30_10
noncomputable def r30_1 : Array Oper := cdO c30_1
noncomputable def r30_3 : Array Oper := cdO c30_3
noncomputable def r30_5 : Array Oper := cdO c30_5
noncomputable def r30_7 : Array Oper := cdO c30_7
noncomputable def r30_9 : Array Oper := cdO c30_9
noncomputable def r30_11 : Array Oper := cdO c30_11
theorem c30_0e : c30_0 = .seq c30_1 c30_2 := by kernel_rfl
theorem c30_1e : c30_1 = .region 0 r30_1 false := by kernel_rfl
theorem c30_2e : c30_2 = .seq c30_3 c30_4 := by kernel_rfl
theorem c30_3e : c30_3 = .region 1 r30_3 false := by kernel_rfl
theorem c30_4e : c30_4 = .seq c30_5 c30_6 := by kernel_rfl
theorem c30_5e : c30_5 = .region 2 r30_5 false := by kernel_rfl
theorem c30_6e : c30_6 = .seq c30_7 c30_8 := by kernel_rfl
theorem c30_7e : c30_7 = .region 3 r30_7 false := by kernel_rfl
theorem c30_8e : c30_8 = .seq c30_9 c30_10 := by kernel_rfl
theorem c30_9e : c30_9 = .region 4 r30_9 false := by kernel_rfl
theorem c30_10e : c30_10 = .seq c30_11 c30_12 := by kernel_rfl
theorem c30_11e : c30_11 = .region 5 r30_11 false := by kernel_rfl
theorem c30_12e : c30_12 = .ret := by kernel_rfl
noncomputable def tontinelaw21_begun.R : Pst Bool where
  ε := Unit
  v := fun r x => .bool r
  H := fun r x => []
  B := fun r x => []
noncomputable def tontinelaw21_begun.cx (w0 : World) (S0 : Fam) : Cx Bool := ⟨Try.prog, 30, Try.f30, 79, w0, S0, [], 0, tontinelaw21_begun.R⟩
theorem tontinelaw21_begun_j4_ok (n : Nat) (r_13 : T_api_Told × Bool × T_api_Letter × Bool × T_client_Client) (r_22 : Int × Int × Bool) (A_14 : Option Addr) (c_15 : Nat) (b_20 : Nat) (w0 : World) (S0 : Fam) (b_32 : Bool) :
    GoO (tontinelaw21_begun.cx w0 S0) [(5, vP b_20), (9, vU r_22.1), (10, vU r_22.2.1), (11, .bool r_22.2.2), (60, .bool b_32)] [⟨42, b_20, [vI r_13.1.Client, vI r_13.1.Command.Kind, vU r_13.1.Command.Session, vU r_13.1.Command.Seq, vU r_13.1.Command.Saga, .slice A_14 r_13.1.Command.Steps.length c_15, vI r_13.1.Command.Step, .bool r_13.1.Command.Back, vI r_13.1.Command.Try, .bool r_13.1.Command.Ok, vU r_13.1.Command.Now, vI r_13.1.Reply.Err, vU r_13.1.Reply.Num, vU r_13.1.Reply.Extra]⟩] [Rd 0 kT_api_Step A_14 c_15 r_13.1.Command.Steps] [.inRegion r30_11 [23, 24, 25, 26, 27, 28, 29, 30, 31, 32, 33, 34, 35, 36, 37, 38, 39, 40, 41], .code c30_12] (tontinelaw21_begun.j4 n r_13 r_22 b_32) := by
  unfold tontinelaw21_begun.j4
  refine GoO.exec (is := [23]) (hs := [.p]) (rest := [24, 25, 26, 27, 28, 29, 30, 31, 32, 33, 34, 35, 36, 37, 38, 39, 40, 41]) (ks := [5, 9, 10, 11, 61]) (env' := [(5, vP b_20), (9, vU r_22.1), (10, vU r_22.2.1), (11, .bool r_22.2.2), (61, .bool b_32)]) (H' := [⟨42, b_20, [vI r_13.1.Client, vI r_13.1.Command.Kind, vU r_13.1.Command.Session, vU r_13.1.Command.Seq, vU r_13.1.Command.Saga, .slice A_14 r_13.1.Command.Steps.length c_15, vI r_13.1.Command.Step, .bool r_13.1.Command.Back, vI r_13.1.Command.Try, .bool r_13.1.Command.Ok, vU r_13.1.Command.Now, vI r_13.1.Reply.Err, vU r_13.1.Reply.Num, vU r_13.1.Reply.Extra]⟩]) (ps := []) (by kernel_rfl) trivial ?_
  refine GoO.bsplit (t := 61) (by kernel_rfl) (fun h33 => ?_) (fun h33 => ?_)
  · refine GoO.exec (is := [24, 25, 26, 27, 28, 29]) (hs := [.p, .p, .b 0, .p, .p, .p]) (rest := [30, 31, 32, 33, 34, 35, 36, 37, 38, 39, 40, 41]) (ks := [9, 10, 11, 67]) (env' := [(9, vU r_22.1), (10, vU r_22.2.1), (11, .bool r_22.2.2), (67, .bool (r_13.1.Reply.Num == 4))]) (H' := [⟨42, b_20, [vI r_13.1.Client, vI r_13.1.Command.Kind, vU r_13.1.Command.Session, vU r_13.1.Command.Seq, vU r_13.1.Command.Saga, .slice A_14 r_13.1.Command.Steps.length c_15, vI r_13.1.Command.Step, .bool r_13.1.Command.Back, vI r_13.1.Command.Try, .bool r_13.1.Command.Ok, vU r_13.1.Command.Now, vI r_13.1.Reply.Err, vU r_13.1.Reply.Num, vU r_13.1.Reply.Extra]⟩]) (ps := [b_20 = b_20]) (by kernel_rfl) (And.intro rfl trivial) ?_
    refine GoO.bsplit (t := 67) (by kernel_rfl) (fun h34 => ?_) (fun h34 => ?_)
    · refine GoO.exec (is := [30, 31, 32, 33]) (hs := [.p, .p, .p, .p]) (rest := [34, 35, 36, 37, 38, 39, 40, 41]) (ks := [10, 11, 71]) (env' := [(10, vU r_22.2.1), (11, .bool r_22.2.2), (71, .bool (r_22.1 == 4))]) (H' := [⟨42, b_20, [vI r_13.1.Client, vI r_13.1.Command.Kind, vU r_13.1.Command.Session, vU r_13.1.Command.Seq, vU r_13.1.Command.Saga, .slice A_14 r_13.1.Command.Steps.length c_15, vI r_13.1.Command.Step, .bool r_13.1.Command.Back, vI r_13.1.Command.Try, .bool r_13.1.Command.Ok, vU r_13.1.Command.Now, vI r_13.1.Reply.Err, vU r_13.1.Reply.Num, vU r_13.1.Reply.Extra]⟩]) (ps := []) (by kernel_rfl) trivial ?_
      refine GoO.bsplit (t := 71) (by kernel_rfl) (fun h35 => ?_) (fun h35 => ?_)
      · refine GoO.exec (is := [34, 35, 36, 37]) (hs := [.p, .p, .p, .p]) (rest := [38, 39, 40, 41]) (ks := [11, 75]) (env' := [(11, .bool r_22.2.2), (75, .bool (r_22.2.1 == 0))]) (H' := [⟨42, b_20, [vI r_13.1.Client, vI r_13.1.Command.Kind, vU r_13.1.Command.Session, vU r_13.1.Command.Seq, vU r_13.1.Command.Saga, .slice A_14 r_13.1.Command.Steps.length c_15, vI r_13.1.Command.Step, .bool r_13.1.Command.Back, vI r_13.1.Command.Try, .bool r_13.1.Command.Ok, vU r_13.1.Command.Now, vI r_13.1.Reply.Err, vU r_13.1.Reply.Num, vU r_13.1.Reply.Extra]⟩]) (ps := []) (by kernel_rfl) trivial ?_
        refine GoO.bsplit (t := 75) (by kernel_rfl) (fun h36 => ?_) (fun h36 => ?_)
        · refine GoO.exec (is := [38, 39, 40, 41]) (hs := [.p, .p, .p, .p]) (rest := []) (ks := [0]) (env' := [(0, .bool (!r_22.2.2))]) (H' := [⟨42, b_20, [vI r_13.1.Client, vI r_13.1.Command.Kind, vU r_13.1.Command.Session, vU r_13.1.Command.Seq, vU r_13.1.Command.Saga, .slice A_14 r_13.1.Command.Steps.length c_15, vI r_13.1.Command.Step, .bool r_13.1.Command.Back, vI r_13.1.Command.Try, .bool r_13.1.Command.Ok, vU r_13.1.Command.Now, vI r_13.1.Reply.Err, vU r_13.1.Reply.Num, vU r_13.1.Reply.Extra]⟩]) (ps := []) (by kernel_rfl) trivial ?_
          refine GoO.regionEnd ?_
          exact GoO.ret' (h := c30_12e) (hs := []) (ps := []) (hk := []) (bk := []) Try.func30 () (by kernel_rfl) trivial (by kernel_rfl) (by kernel_rfl)
        · refine GoO.exec (is := [38, 39, 40, 41]) (hs := [.p, .p, .p, .p]) (rest := []) (ks := [0]) (env' := [(0, .bool false)]) (H' := [⟨42, b_20, [vI r_13.1.Client, vI r_13.1.Command.Kind, vU r_13.1.Command.Session, vU r_13.1.Command.Seq, vU r_13.1.Command.Saga, .slice A_14 r_13.1.Command.Steps.length c_15, vI r_13.1.Command.Step, .bool r_13.1.Command.Back, vI r_13.1.Command.Try, .bool r_13.1.Command.Ok, vU r_13.1.Command.Now, vI r_13.1.Reply.Err, vU r_13.1.Reply.Num, vU r_13.1.Reply.Extra]⟩]) (ps := []) (by kernel_rfl) trivial ?_
          refine GoO.regionEnd ?_
          exact GoO.ret' (h := c30_12e) (hs := []) (ps := []) (hk := []) (bk := []) Try.func30 () (by kernel_rfl) trivial (by kernel_rfl) (by kernel_rfl)
      · refine GoO.exec (is := [34, 35, 36, 37, 38, 39, 40, 41]) (hs := [.p, .p, .p, .p, .p, .p, .p, .p]) (rest := []) (ks := [0]) (env' := [(0, .bool false)]) (H' := [⟨42, b_20, [vI r_13.1.Client, vI r_13.1.Command.Kind, vU r_13.1.Command.Session, vU r_13.1.Command.Seq, vU r_13.1.Command.Saga, .slice A_14 r_13.1.Command.Steps.length c_15, vI r_13.1.Command.Step, .bool r_13.1.Command.Back, vI r_13.1.Command.Try, .bool r_13.1.Command.Ok, vU r_13.1.Command.Now, vI r_13.1.Reply.Err, vU r_13.1.Reply.Num, vU r_13.1.Reply.Extra]⟩]) (ps := []) (by kernel_rfl) trivial ?_
        refine GoO.regionEnd ?_
        exact GoO.ret' (h := c30_12e) (hs := []) (ps := []) (hk := []) (bk := []) Try.func30 () (by kernel_rfl) trivial (by kernel_rfl) (by kernel_rfl)
    · refine GoO.exec (is := [30, 31, 32, 33, 34, 35, 36, 37, 38, 39, 40, 41]) (hs := [.p, .p, .p, .p, .p, .p, .p, .p, .p, .p, .p, .p]) (rest := []) (ks := [0]) (env' := [(0, .bool false)]) (H' := [⟨42, b_20, [vI r_13.1.Client, vI r_13.1.Command.Kind, vU r_13.1.Command.Session, vU r_13.1.Command.Seq, vU r_13.1.Command.Saga, .slice A_14 r_13.1.Command.Steps.length c_15, vI r_13.1.Command.Step, .bool r_13.1.Command.Back, vI r_13.1.Command.Try, .bool r_13.1.Command.Ok, vU r_13.1.Command.Now, vI r_13.1.Reply.Err, vU r_13.1.Reply.Num, vU r_13.1.Reply.Extra]⟩]) (ps := []) (by kernel_rfl) trivial ?_
      refine GoO.regionEnd ?_
      exact GoO.ret' (h := c30_12e) (hs := []) (ps := []) (hk := []) (bk := []) Try.func30 () (by kernel_rfl) trivial (by kernel_rfl) (by kernel_rfl)
  · refine GoO.exec (is := [24, 25, 26, 27, 28, 29, 30, 31, 32, 33, 34, 35, 36, 37, 38, 39, 40, 41]) (hs := [.p, .p, .p, .p, .p, .p, .p, .p, .p, .p, .p, .p, .p, .p, .p, .p, .p, .p]) (rest := []) (ks := [0]) (env' := [(0, .bool false)]) (H' := [⟨42, b_20, [vI r_13.1.Client, vI r_13.1.Command.Kind, vU r_13.1.Command.Session, vU r_13.1.Command.Seq, vU r_13.1.Command.Saga, .slice A_14 r_13.1.Command.Steps.length c_15, vI r_13.1.Command.Step, .bool r_13.1.Command.Back, vI r_13.1.Command.Try, .bool r_13.1.Command.Ok, vU r_13.1.Command.Now, vI r_13.1.Reply.Err, vU r_13.1.Reply.Num, vU r_13.1.Reply.Extra]⟩]) (ps := []) (by kernel_rfl) trivial ?_
    refine GoO.regionEnd ?_
    exact GoO.ret' (h := c30_12e) (hs := []) (ps := []) (hk := []) (bk := []) Try.func30 () (by kernel_rfl) trivial (by kernel_rfl) (by kernel_rfl)
theorem tontinelaw21_begun_j3_ok (n : Nat) (r_13 : T_api_Told × Bool × T_api_Letter × Bool × T_client_Client) (r_22 : Int × Int × Bool) (A_14 : Option Addr) (c_15 : Nat) (b_20 : Nat) (w0 : World) (S0 : Fam) (b_30 : Bool) :
    GoO (tontinelaw21_begun.cx w0 S0) [(5, vP b_20), (8, .bool r_13.2.2.2.1), (9, vU r_22.1), (10, vU r_22.2.1), (11, .bool r_22.2.2), (56, .bool b_30)] [⟨42, b_20, [vI r_13.1.Client, vI r_13.1.Command.Kind, vU r_13.1.Command.Session, vU r_13.1.Command.Seq, vU r_13.1.Command.Saga, .slice A_14 r_13.1.Command.Steps.length c_15, vI r_13.1.Command.Step, .bool r_13.1.Command.Back, vI r_13.1.Command.Try, .bool r_13.1.Command.Ok, vU r_13.1.Command.Now, vI r_13.1.Reply.Err, vU r_13.1.Reply.Num, vU r_13.1.Reply.Extra]⟩] [Rd 0 kT_api_Step A_14 c_15 r_13.1.Command.Steps] [.inRegion r30_11 [19, 20, 21, 22, 23, 24, 25, 26, 27, 28, 29, 30, 31, 32, 33, 34, 35, 36, 37, 38, 39, 40, 41], .code c30_12] (tontinelaw21_begun.j3 n r_13 r_22 b_30) := by
  unfold tontinelaw21_begun.j3
  refine GoO.exec (is := [19]) (hs := [.p]) (rest := [20, 21, 22, 23, 24, 25, 26, 27, 28, 29, 30, 31, 32, 33, 34, 35, 36, 37, 38, 39, 40, 41]) (ks := [5, 8, 9, 10, 11, 57]) (env' := [(5, vP b_20), (8, .bool r_13.2.2.2.1), (9, vU r_22.1), (10, vU r_22.2.1), (11, .bool r_22.2.2), (57, .bool b_30)]) (H' := [⟨42, b_20, [vI r_13.1.Client, vI r_13.1.Command.Kind, vU r_13.1.Command.Session, vU r_13.1.Command.Seq, vU r_13.1.Command.Saga, .slice A_14 r_13.1.Command.Steps.length c_15, vI r_13.1.Command.Step, .bool r_13.1.Command.Back, vI r_13.1.Command.Try, .bool r_13.1.Command.Ok, vU r_13.1.Command.Now, vI r_13.1.Reply.Err, vU r_13.1.Reply.Num, vU r_13.1.Reply.Extra]⟩]) (ps := []) (by kernel_rfl) trivial ?_
  refine GoO.bsplit (t := 57) (by kernel_rfl) (fun h31 => ?_) (fun h31 => ?_)
  · refine GoO.exec (is := [20, 21, 22]) (hs := [.p, .p, .p]) (rest := [23, 24, 25, 26, 27, 28, 29, 30, 31, 32, 33, 34, 35, 36, 37, 38, 39, 40, 41]) (ks := [5, 9, 10, 11, 60]) (env' := [(5, vP b_20), (9, vU r_22.1), (10, vU r_22.2.1), (11, .bool r_22.2.2), (60, .bool (!r_13.2.2.2.1))]) (H' := [⟨42, b_20, [vI r_13.1.Client, vI r_13.1.Command.Kind, vU r_13.1.Command.Session, vU r_13.1.Command.Seq, vU r_13.1.Command.Saga, .slice A_14 r_13.1.Command.Steps.length c_15, vI r_13.1.Command.Step, .bool r_13.1.Command.Back, vI r_13.1.Command.Try, .bool r_13.1.Command.Ok, vU r_13.1.Command.Now, vI r_13.1.Reply.Err, vU r_13.1.Reply.Num, vU r_13.1.Reply.Extra]⟩]) (ps := []) (by kernel_rfl) trivial ?_
    exact GoO.sub (ks := [5, 9, 10, 11, 60]) (hk := [0]) (bk := [0]) (by kernel_rfl) (by kernel_rfl) (by kernel_rfl) (tontinelaw21_begun_j4_ok n r_13 r_22 A_14 c_15 b_20 w0 S0 (!r_13.2.2.2.1))
  · refine GoO.exec (is := [20, 21, 22]) (hs := [.p, .p, .p]) (rest := [23, 24, 25, 26, 27, 28, 29, 30, 31, 32, 33, 34, 35, 36, 37, 38, 39, 40, 41]) (ks := [5, 9, 10, 11, 60]) (env' := [(5, vP b_20), (9, vU r_22.1), (10, vU r_22.2.1), (11, .bool r_22.2.2), (60, .bool false)]) (H' := [⟨42, b_20, [vI r_13.1.Client, vI r_13.1.Command.Kind, vU r_13.1.Command.Session, vU r_13.1.Command.Seq, vU r_13.1.Command.Saga, .slice A_14 r_13.1.Command.Steps.length c_15, vI r_13.1.Command.Step, .bool r_13.1.Command.Back, vI r_13.1.Command.Try, .bool r_13.1.Command.Ok, vU r_13.1.Command.Now, vI r_13.1.Reply.Err, vU r_13.1.Reply.Num, vU r_13.1.Reply.Extra]⟩]) (ps := []) (by kernel_rfl) trivial ?_
    exact GoO.sub (ks := [5, 9, 10, 11, 60]) (hk := [0]) (bk := [0]) (by kernel_rfl) (by kernel_rfl) (by kernel_rfl) (tontinelaw21_begun_j4_ok n r_13 r_22 A_14 c_15 b_20 w0 S0 false)
theorem tontinelaw21_begun_j2_ok (n : Nat) (r_13 : T_api_Told × Bool × T_api_Letter × Bool × T_client_Client) (r_22 : Int × Int × Bool) (A_14 : Option Addr) (c_15 : Nat) (b_20 : Nat) (w0 : World) (S0 : Fam) (b_28 : Bool) :
    GoO (tontinelaw21_begun.cx w0 S0) [(5, vP b_20), (6, .bool r_13.2.1), (8, .bool r_13.2.2.2.1), (9, vU r_22.1), (10, vU r_22.2.1), (11, .bool r_22.2.2), (53, .bool b_28)] [⟨42, b_20, [vI r_13.1.Client, vI r_13.1.Command.Kind, vU r_13.1.Command.Session, vU r_13.1.Command.Seq, vU r_13.1.Command.Saga, .slice A_14 r_13.1.Command.Steps.length c_15, vI r_13.1.Command.Step, .bool r_13.1.Command.Back, vI r_13.1.Command.Try, .bool r_13.1.Command.Ok, vU r_13.1.Command.Now, vI r_13.1.Reply.Err, vU r_13.1.Reply.Num, vU r_13.1.Reply.Extra]⟩] [Rd 0 kT_api_Step A_14 c_15 r_13.1.Command.Steps] [.inRegion r30_11 [16, 17, 18, 19, 20, 21, 22, 23, 24, 25, 26, 27, 28, 29, 30, 31, 32, 33, 34, 35, 36, 37, 38, 39, 40, 41], .code c30_12] (tontinelaw21_begun.j2 n r_13 r_22 b_28) := by
  unfold tontinelaw21_begun.j2
  refine GoO.exec (is := [16]) (hs := [.p]) (rest := [17, 18, 19, 20, 21, 22, 23, 24, 25, 26, 27, 28, 29, 30, 31, 32, 33, 34, 35, 36, 37, 38, 39, 40, 41]) (ks := [5, 6, 8, 9, 10, 11, 54]) (env' := [(5, vP b_20), (6, .bool r_13.2.1), (8, .bool r_13.2.2.2.1), (9, vU r_22.1), (10, vU r_22.2.1), (11, .bool r_22.2.2), (54, .bool b_28)]) (H' := [⟨42, b_20, [vI r_13.1.Client, vI r_13.1.Command.Kind, vU r_13.1.Command.Session, vU r_13.1.Command.Seq, vU r_13.1.Command.Saga, .slice A_14 r_13.1.Command.Steps.length c_15, vI r_13.1.Command.Step, .bool r_13.1.Command.Back, vI r_13.1.Command.Try, .bool r_13.1.Command.Ok, vU r_13.1.Command.Now, vI r_13.1.Reply.Err, vU r_13.1.Reply.Num, vU r_13.1.Reply.Extra]⟩]) (ps := []) (by kernel_rfl) trivial ?_
  refine GoO.bsplit (t := 54) (by kernel_rfl) (fun h29 => ?_) (fun h29 => ?_)
  · refine GoO.exec (is := [17, 18]) (hs := [.p, .p]) (rest := [19, 20, 21, 22, 23, 24, 25, 26, 27, 28, 29, 30, 31, 32, 33, 34, 35, 36, 37, 38, 39, 40, 41]) (ks := [5, 8, 9, 10, 11, 56]) (env' := [(5, vP b_20), (8, .bool r_13.2.2.2.1), (9, vU r_22.1), (10, vU r_22.2.1), (11, .bool r_22.2.2), (56, .bool r_13.2.1)]) (H' := [⟨42, b_20, [vI r_13.1.Client, vI r_13.1.Command.Kind, vU r_13.1.Command.Session, vU r_13.1.Command.Seq, vU r_13.1.Command.Saga, .slice A_14 r_13.1.Command.Steps.length c_15, vI r_13.1.Command.Step, .bool r_13.1.Command.Back, vI r_13.1.Command.Try, .bool r_13.1.Command.Ok, vU r_13.1.Command.Now, vI r_13.1.Reply.Err, vU r_13.1.Reply.Num, vU r_13.1.Reply.Extra]⟩]) (ps := []) (by kernel_rfl) trivial ?_
    exact GoO.sub (ks := [5, 8, 9, 10, 11, 56]) (hk := [0]) (bk := [0]) (by kernel_rfl) (by kernel_rfl) (by kernel_rfl) (tontinelaw21_begun_j3_ok n r_13 r_22 A_14 c_15 b_20 w0 S0 r_13.2.1)
  · refine GoO.exec (is := [17, 18]) (hs := [.p, .p]) (rest := [19, 20, 21, 22, 23, 24, 25, 26, 27, 28, 29, 30, 31, 32, 33, 34, 35, 36, 37, 38, 39, 40, 41]) (ks := [5, 8, 9, 10, 11, 56]) (env' := [(5, vP b_20), (8, .bool r_13.2.2.2.1), (9, vU r_22.1), (10, vU r_22.2.1), (11, .bool r_22.2.2), (56, .bool false)]) (H' := [⟨42, b_20, [vI r_13.1.Client, vI r_13.1.Command.Kind, vU r_13.1.Command.Session, vU r_13.1.Command.Seq, vU r_13.1.Command.Saga, .slice A_14 r_13.1.Command.Steps.length c_15, vI r_13.1.Command.Step, .bool r_13.1.Command.Back, vI r_13.1.Command.Try, .bool r_13.1.Command.Ok, vU r_13.1.Command.Now, vI r_13.1.Reply.Err, vU r_13.1.Reply.Num, vU r_13.1.Reply.Extra]⟩]) (ps := []) (by kernel_rfl) trivial ?_
    exact GoO.sub (ks := [5, 8, 9, 10, 11, 56]) (hk := [0]) (bk := [0]) (by kernel_rfl) (by kernel_rfl) (by kernel_rfl) (tontinelaw21_begun_j3_ok n r_13 r_22 A_14 c_15 b_20 w0 S0 false)
theorem tontinelaw21_begun_j1_ok (n : Nat) (r_6 : T_api_Letter × Int × T_client_Client) (r_13 : T_api_Told × Bool × T_api_Letter × Bool × T_client_Client) (r_22 : Int × Int × Bool) (A_7 : Option Addr) (c_8 : Nat) (b_11 : Nat) (A_14 : Option Addr) (c_15 : Nat) (b_20 : Nat) (w0 : World) (S0 : Fam) (b_26 : Bool) :
    GoO (tontinelaw21_begun.cx w0 S0) [(3, vP b_11), (5, vP b_20), (6, .bool r_13.2.1), (8, .bool r_13.2.2.2.1), (9, vU r_22.1), (10, vU r_22.2.1), (11, .bool r_22.2.2), (48, .bool b_26)] [⟨41, b_11, [vI r_6.1.Kind, vI r_6.1.From, vI r_6.1.To, vU r_6.1.Term, vU r_6.1.Index, vU r_6.1.Prev, vU r_6.1.Commit, .bool r_6.1.Ok, .slice A_7 r_6.1.Entries.length c_8, .string (bs r_6.1.Data)]⟩, ⟨42, b_20, [vI r_13.1.Client, vI r_13.1.Command.Kind, vU r_13.1.Command.Session, vU r_13.1.Command.Seq, vU r_13.1.Command.Saga, .slice A_14 r_13.1.Command.Steps.length c_15, vI r_13.1.Command.Step, .bool r_13.1.Command.Back, vI r_13.1.Command.Try, .bool r_13.1.Command.Ok, vU r_13.1.Command.Now, vI r_13.1.Reply.Err, vU r_13.1.Reply.Num, vU r_13.1.Reply.Extra]⟩] [Rd 0 kT_api_Entry A_7 c_8 r_6.1.Entries, Rd 0 kT_api_Step A_14 c_15 r_13.1.Command.Steps] [.inRegion r30_11 [11, 12, 13, 14, 15, 16, 17, 18, 19, 20, 21, 22, 23, 24, 25, 26, 27, 28, 29, 30, 31, 32, 33, 34, 35, 36, 37, 38, 39, 40, 41], .code c30_12] (tontinelaw21_begun.j1 n r_6 r_13 r_22 b_26) := by
  unfold tontinelaw21_begun.j1
  refine GoO.exec (is := [11]) (hs := [.p]) (rest := [12, 13, 14, 15, 16, 17, 18, 19, 20, 21, 22, 23, 24, 25, 26, 27, 28, 29, 30, 31, 32, 33, 34, 35, 36, 37, 38, 39, 40, 41]) (ks := [3, 5, 6, 8, 9, 10, 11, 49]) (env' := [(3, vP b_11), (5, vP b_20), (6, .bool r_13.2.1), (8, .bool r_13.2.2.2.1), (9, vU r_22.1), (10, vU r_22.2.1), (11, .bool r_22.2.2), (49, .bool b_26)]) (H' := [⟨41, b_11, [vI r_6.1.Kind, vI r_6.1.From, vI r_6.1.To, vU r_6.1.Term, vU r_6.1.Index, vU r_6.1.Prev, vU r_6.1.Commit, .bool r_6.1.Ok, .slice A_7 r_6.1.Entries.length c_8, .string (bs r_6.1.Data)]⟩, ⟨42, b_20, [vI r_13.1.Client, vI r_13.1.Command.Kind, vU r_13.1.Command.Session, vU r_13.1.Command.Seq, vU r_13.1.Command.Saga, .slice A_14 r_13.1.Command.Steps.length c_15, vI r_13.1.Command.Step, .bool r_13.1.Command.Back, vI r_13.1.Command.Try, .bool r_13.1.Command.Ok, vU r_13.1.Command.Now, vI r_13.1.Reply.Err, vU r_13.1.Reply.Num, vU r_13.1.Reply.Extra]⟩]) (ps := []) (by kernel_rfl) trivial ?_
  refine GoO.bsplit (t := 49) (by kernel_rfl) (fun h27 => ?_) (fun h27 => ?_)
  · refine GoO.exec (is := [12, 13, 14, 15]) (hs := [.p, .b 0, .p, .p]) (rest := [16, 17, 18, 19, 20, 21, 22, 23, 24, 25, 26, 27, 28, 29, 30, 31, 32, 33, 34, 35, 36, 37, 38, 39, 40, 41]) (ks := [5, 6, 8, 9, 10, 11, 53]) (env' := [(5, vP b_20), (6, .bool r_13.2.1), (8, .bool r_13.2.2.2.1), (9, vU r_22.1), (10, vU r_22.2.1), (11, .bool r_22.2.2), (53, .bool (r_6.1.Index == 1))]) (H' := [⟨41, b_11, [vI r_6.1.Kind, vI r_6.1.From, vI r_6.1.To, vU r_6.1.Term, vU r_6.1.Index, vU r_6.1.Prev, vU r_6.1.Commit, .bool r_6.1.Ok, .slice A_7 r_6.1.Entries.length c_8, .string (bs r_6.1.Data)]⟩, ⟨42, b_20, [vI r_13.1.Client, vI r_13.1.Command.Kind, vU r_13.1.Command.Session, vU r_13.1.Command.Seq, vU r_13.1.Command.Saga, .slice A_14 r_13.1.Command.Steps.length c_15, vI r_13.1.Command.Step, .bool r_13.1.Command.Back, vI r_13.1.Command.Try, .bool r_13.1.Command.Ok, vU r_13.1.Command.Now, vI r_13.1.Reply.Err, vU r_13.1.Reply.Num, vU r_13.1.Reply.Extra]⟩]) (ps := [b_11 = b_11]) (by kernel_rfl) (And.intro rfl trivial) ?_
    exact GoO.sub (ks := [5, 6, 8, 9, 10, 11, 53]) (hk := [1]) (bk := [1]) (by kernel_rfl) (by kernel_rfl) (by kernel_rfl) (tontinelaw21_begun_j2_ok n r_13 r_22 A_14 c_15 b_20 w0 S0 (r_6.1.Index == 1))
  · refine GoO.exec (is := [12, 13, 14, 15]) (hs := [.p, .p, .p, .p]) (rest := [16, 17, 18, 19, 20, 21, 22, 23, 24, 25, 26, 27, 28, 29, 30, 31, 32, 33, 34, 35, 36, 37, 38, 39, 40, 41]) (ks := [5, 6, 8, 9, 10, 11, 53]) (env' := [(5, vP b_20), (6, .bool r_13.2.1), (8, .bool r_13.2.2.2.1), (9, vU r_22.1), (10, vU r_22.2.1), (11, .bool r_22.2.2), (53, .bool false)]) (H' := [⟨41, b_11, [vI r_6.1.Kind, vI r_6.1.From, vI r_6.1.To, vU r_6.1.Term, vU r_6.1.Index, vU r_6.1.Prev, vU r_6.1.Commit, .bool r_6.1.Ok, .slice A_7 r_6.1.Entries.length c_8, .string (bs r_6.1.Data)]⟩, ⟨42, b_20, [vI r_13.1.Client, vI r_13.1.Command.Kind, vU r_13.1.Command.Session, vU r_13.1.Command.Seq, vU r_13.1.Command.Saga, .slice A_14 r_13.1.Command.Steps.length c_15, vI r_13.1.Command.Step, .bool r_13.1.Command.Back, vI r_13.1.Command.Try, .bool r_13.1.Command.Ok, vU r_13.1.Command.Now, vI r_13.1.Reply.Err, vU r_13.1.Reply.Num, vU r_13.1.Reply.Extra]⟩]) (ps := []) (by kernel_rfl) trivial ?_
    exact GoO.sub (ks := [5, 6, 8, 9, 10, 11, 53]) (hk := [1]) (bk := [1]) (by kernel_rfl) (by kernel_rfl) (by kernel_rfl) (tontinelaw21_begun_j2_ok n r_13 r_22 A_14 c_15 b_20 w0 S0 false)
theorem tontinelaw21_begun_j0_ok (n : Nat) (r_6 : T_api_Letter × Int × T_client_Client) (r_13 : T_api_Told × Bool × T_api_Letter × Bool × T_client_Client) (r_22 : Int × Int × Bool) (A_7 : Option Addr) (c_8 : Nat) (b_11 : Nat) (A_14 : Option Addr) (c_15 : Nat) (b_20 : Nat) (w0 : World) (S0 : Fam) (b_24 : Bool) :
    GoO (tontinelaw21_begun.cx w0 S0) [(3, vP b_11), (5, vP b_20), (6, .bool r_13.2.1), (8, .bool r_13.2.2.2.1), (9, vU r_22.1), (10, vU r_22.2.1), (11, .bool r_22.2.2), (43, .bool b_24)] [⟨41, b_11, [vI r_6.1.Kind, vI r_6.1.From, vI r_6.1.To, vU r_6.1.Term, vU r_6.1.Index, vU r_6.1.Prev, vU r_6.1.Commit, .bool r_6.1.Ok, .slice A_7 r_6.1.Entries.length c_8, .string (bs r_6.1.Data)]⟩, ⟨42, b_20, [vI r_13.1.Client, vI r_13.1.Command.Kind, vU r_13.1.Command.Session, vU r_13.1.Command.Seq, vU r_13.1.Command.Saga, .slice A_14 r_13.1.Command.Steps.length c_15, vI r_13.1.Command.Step, .bool r_13.1.Command.Back, vI r_13.1.Command.Try, .bool r_13.1.Command.Ok, vU r_13.1.Command.Now, vI r_13.1.Reply.Err, vU r_13.1.Reply.Num, vU r_13.1.Reply.Extra]⟩] [Rd 0 kT_api_Entry A_7 c_8 r_6.1.Entries, Rd 0 kT_api_Step A_14 c_15 r_13.1.Command.Steps] [.inRegion r30_11 [6, 7, 8, 9, 10, 11, 12, 13, 14, 15, 16, 17, 18, 19, 20, 21, 22, 23, 24, 25, 26, 27, 28, 29, 30, 31, 32, 33, 34, 35, 36, 37, 38, 39, 40, 41], .code c30_12] (tontinelaw21_begun.j0 n r_6 r_13 r_22 b_24) := by
  unfold tontinelaw21_begun.j0
  refine GoO.exec (is := [6]) (hs := [.p]) (rest := [7, 8, 9, 10, 11, 12, 13, 14, 15, 16, 17, 18, 19, 20, 21, 22, 23, 24, 25, 26, 27, 28, 29, 30, 31, 32, 33, 34, 35, 36, 37, 38, 39, 40, 41]) (ks := [3, 5, 6, 8, 9, 10, 11, 44]) (env' := [(3, vP b_11), (5, vP b_20), (6, .bool r_13.2.1), (8, .bool r_13.2.2.2.1), (9, vU r_22.1), (10, vU r_22.2.1), (11, .bool r_22.2.2), (44, .bool b_24)]) (H' := [⟨41, b_11, [vI r_6.1.Kind, vI r_6.1.From, vI r_6.1.To, vU r_6.1.Term, vU r_6.1.Index, vU r_6.1.Prev, vU r_6.1.Commit, .bool r_6.1.Ok, .slice A_7 r_6.1.Entries.length c_8, .string (bs r_6.1.Data)]⟩, ⟨42, b_20, [vI r_13.1.Client, vI r_13.1.Command.Kind, vU r_13.1.Command.Session, vU r_13.1.Command.Seq, vU r_13.1.Command.Saga, .slice A_14 r_13.1.Command.Steps.length c_15, vI r_13.1.Command.Step, .bool r_13.1.Command.Back, vI r_13.1.Command.Try, .bool r_13.1.Command.Ok, vU r_13.1.Command.Now, vI r_13.1.Reply.Err, vU r_13.1.Reply.Num, vU r_13.1.Reply.Extra]⟩]) (ps := []) (by kernel_rfl) trivial ?_
  refine GoO.bsplit (t := 44) (by kernel_rfl) (fun h25 => ?_) (fun h25 => ?_)
  · refine GoO.exec (is := [7, 8, 9, 10]) (hs := [.p, .b 0, .p, .p]) (rest := [11, 12, 13, 14, 15, 16, 17, 18, 19, 20, 21, 22, 23, 24, 25, 26, 27, 28, 29, 30, 31, 32, 33, 34, 35, 36, 37, 38, 39, 40, 41]) (ks := [3, 5, 6, 8, 9, 10, 11, 48]) (env' := [(3, vP b_11), (5, vP b_20), (6, .bool r_13.2.1), (8, .bool r_13.2.2.2.1), (9, vU r_22.1), (10, vU r_22.2.1), (11, .bool r_22.2.2), (48, .bool (r_6.1.From == 201))]) (H' := [⟨41, b_11, [vI r_6.1.Kind, vI r_6.1.From, vI r_6.1.To, vU r_6.1.Term, vU r_6.1.Index, vU r_6.1.Prev, vU r_6.1.Commit, .bool r_6.1.Ok, .slice A_7 r_6.1.Entries.length c_8, .string (bs r_6.1.Data)]⟩, ⟨42, b_20, [vI r_13.1.Client, vI r_13.1.Command.Kind, vU r_13.1.Command.Session, vU r_13.1.Command.Seq, vU r_13.1.Command.Saga, .slice A_14 r_13.1.Command.Steps.length c_15, vI r_13.1.Command.Step, .bool r_13.1.Command.Back, vI r_13.1.Command.Try, .bool r_13.1.Command.Ok, vU r_13.1.Command.Now, vI r_13.1.Reply.Err, vU r_13.1.Reply.Num, vU r_13.1.Reply.Extra]⟩]) (ps := [b_11 = b_11]) (by kernel_rfl) (And.intro rfl trivial) ?_
    exact GoO.sub (ks := [3, 5, 6, 8, 9, 10, 11, 48]) (hk := [0, 1]) (bk := [0, 1]) (by kernel_rfl) (by kernel_rfl) (by kernel_rfl) (tontinelaw21_begun_j1_ok n r_6 r_13 r_22 A_7 c_8 b_11 A_14 c_15 b_20 w0 S0 (r_6.1.From == 201))
  · refine GoO.exec (is := [7, 8, 9, 10]) (hs := [.p, .p, .p, .p]) (rest := [11, 12, 13, 14, 15, 16, 17, 18, 19, 20, 21, 22, 23, 24, 25, 26, 27, 28, 29, 30, 31, 32, 33, 34, 35, 36, 37, 38, 39, 40, 41]) (ks := [3, 5, 6, 8, 9, 10, 11, 48]) (env' := [(3, vP b_11), (5, vP b_20), (6, .bool r_13.2.1), (8, .bool r_13.2.2.2.1), (9, vU r_22.1), (10, vU r_22.2.1), (11, .bool r_22.2.2), (48, .bool false)]) (H' := [⟨41, b_11, [vI r_6.1.Kind, vI r_6.1.From, vI r_6.1.To, vU r_6.1.Term, vU r_6.1.Index, vU r_6.1.Prev, vU r_6.1.Commit, .bool r_6.1.Ok, .slice A_7 r_6.1.Entries.length c_8, .string (bs r_6.1.Data)]⟩, ⟨42, b_20, [vI r_13.1.Client, vI r_13.1.Command.Kind, vU r_13.1.Command.Session, vU r_13.1.Command.Seq, vU r_13.1.Command.Saga, .slice A_14 r_13.1.Command.Steps.length c_15, vI r_13.1.Command.Step, .bool r_13.1.Command.Back, vI r_13.1.Command.Try, .bool r_13.1.Command.Ok, vU r_13.1.Command.Now, vI r_13.1.Reply.Err, vU r_13.1.Reply.Num, vU r_13.1.Reply.Extra]⟩]) (ps := []) (by kernel_rfl) trivial ?_
    exact GoO.sub (ks := [3, 5, 6, 8, 9, 10, 11, 48]) (hk := [0, 1]) (bk := [0, 1]) (by kernel_rfl) (by kernel_rfl) (by kernel_rfl) (tontinelaw21_begun_j1_ok n r_6 r_13 r_22 A_7 c_8 b_11 A_14 c_15 b_20 w0 S0 false)
theorem tontinelaw21_begun_ok (n : Nat) :
    Meets Try.prog 30 [] 0 [] [] [] (tontinelaw21_begun.f n) (tontinelaw21_begun.R) := by
  refine Meets.of (c := c30_0) (n := 79) Try.func30 (by kernel_rfl) (by kernel_rfl) (by kernel_rfl) fun w0 S0 => ?_
  unfold tontinelaw21_begun.f
  show GoO (tontinelaw21_begun.cx w0 S0) [] [] [] [.code c30_0] _
  refine GoO.seq' c30_0e ?_
  refine GoO.region' (is := [0]) c30_1e (by kernel_rfl) ?_
  refine GoO.exec (is := [0]) (hs := [.p]) (rest := []) (ks := []) (env' := []) (H' := []) (ps := []) (by kernel_rfl) trivial ?_
  refine GoO.regionEnd ?_
  refine GoO.seq' c30_2e ?_
  refine GoO.region' (is := [0, 1, 2, 3, 4, 5]) c30_3e (by kernel_rfl) ?_
  refine OpTo.go (GoO.call rfl (by kernel_rfl) (by kernel_rfl) (client_New_ok n 1) [[0]] [(40, 1)] [] [] (hks := []) (bks := []) (by kernel_rfl) (by kernel_rfl) (by kernel_rfl) (.inl rfl) rfl rfl (by kernel_rfl) (by kernel_rfl) _ (fun _ _ => rfl) _ _ (fun _ _ => rfl) (fun _ _ => rfl) (fun rr _ => by dsimp only [client_New.R]; cases rr.1 <;> kernel_rfl) (fun rr _ => by dsimp only [client_New.R]; cases rr.1 <;> kernel_rfl) (fun r_1 x_41 => ?_))
  obtain ⟨c_2, A_3, c_4⟩ := x_41
  rcases r_1 with ⟨(_ | o_5), r_1_q1⟩
  · refine GoO.shape (env' := [(13, .tuple ⟨[.pointer none, vI ((none, r_1_q1) : Option T_client_Client × Int).2]⟩)]) (H' := []) (B' := []) (ks := [13]) (by kernel_rfl) (by kernel_rfl) (by kernel_rfl) ?_
    refine GoO.exec (is := [1, 2, 3, 4, 5]) (hs := [.p, .p, .p, .p, .p]) (rest := []) (ks := [1, 2]) (env' := [(1, .pointer none), (2, vI ((none, r_1_q1) : Option T_client_Client × Int).2)]) (H' := []) (ps := []) (by kernel_rfl) trivial ?_
    refine GoO.regionEnd ?_
    refine GoO.seq' c30_4e ?_
    refine GoO.region' (is := [0, 1, 2, 3, 4, 5, 6, 7, 8]) c30_5e (by kernel_rfl) ?_
    refine GoO.exec (is := [0, 1]) (hs := [.p, .p]) (rest := [2, 3, 4, 5, 6, 7, 8]) (ks := [1, 2, 17, 18]) (env' := [(1, .pointer none), (2, vI ((none, r_1_q1) : Option T_client_Client × Int).2), (17, .pointer none), (18, .agg ⟨[vI 1, vU 0, vU 0, vU 0, .slice none ([] : List T_api_Step).length 0, vI 0, .bool false, vI 0, .bool false, vU 0]⟩)]) (H' := []) (ps := []) (by kernel_rfl) trivial ?_
    exact GoO.stop
  · refine GoO.shape (env' := [(13, .tuple ⟨[vP c_2, vI ((some o_5, r_1_q1) : Option T_client_Client × Int).2]⟩)]) (H' := [⟨40, c_2, [vI o_5.id, vU o_5.session, vU o_5.seq, vU o_5.call, .bool o_5.busy, vI o_5.now.Kind, vU o_5.now.Session, vU o_5.now.Seq, vU o_5.now.Saga, .slice A_3 o_5.now.Steps.length c_4, vI o_5.now.Step, .bool o_5.now.Back, vI o_5.now.Try, .bool o_5.now.Ok, vU o_5.now.Now, .string (bs o_5.data), vI o_5.to_]⟩]) (B' := [Rd 0 kT_api_Step A_3 c_4 o_5.now.Steps]) (ks := [13]) (by kernel_rfl) (by kernel_rfl) (by kernel_rfl) ?_
    refine GoO.exec (is := [1, 2, 3, 4, 5]) (hs := [.p, .p, .p, .p, .p]) (rest := []) (ks := [1, 2]) (env' := [(1, vP c_2), (2, vI ((some o_5, r_1_q1) : Option T_client_Client × Int).2)]) (H' := [⟨40, c_2, [vI o_5.id, vU o_5.session, vU o_5.seq, vU o_5.call, .bool o_5.busy, vI o_5.now.Kind, vU o_5.now.Session, vU o_5.now.Seq, vU o_5.now.Saga, .slice A_3 o_5.now.Steps.length c_4, vI o_5.now.Step, .bool o_5.now.Back, vI o_5.now.Try, .bool o_5.now.Ok, vU o_5.now.Now, .string (bs o_5.data), vI o_5.to_]⟩]) (ps := []) (by kernel_rfl) trivial ?_
    refine GoO.regionEnd ?_
    refine GoO.seq' c30_4e ?_
    refine GoO.region' (is := [0, 1, 2, 3, 4, 5, 6, 7, 8]) c30_5e (by kernel_rfl) ?_
    refine GoO.exec (is := [0, 1]) (hs := [.p, .p]) (rest := [2, 3, 4, 5, 6, 7, 8]) (ks := [1, 2, 17, 18]) (env' := [(1, vP c_2), (2, vI ((some o_5, r_1_q1) : Option T_client_Client × Int).2), (17, vP c_2), (18, .agg ⟨[vI 1, vU 0, vU 0, vU 0, .slice none ([] : List T_api_Step).length 0, vI 0, .bool false, vI 0, .bool false, vU 0]⟩)]) (H' := [⟨40, c_2, [vI o_5.id, vU o_5.session, vU o_5.seq, vU o_5.call, .bool o_5.busy, vI o_5.now.Kind, vU o_5.now.Session, vU o_5.now.Seq, vU o_5.now.Saga, .slice A_3 o_5.now.Steps.length c_4, vI o_5.now.Step, .bool o_5.now.Back, vI o_5.now.Try, .bool o_5.now.Ok, vU o_5.now.Now, .string (bs o_5.data), vI o_5.to_]⟩]) (ps := []) (by kernel_rfl) trivial ?_
    refine GoO.nilRd kT_api_Step ?_
    refine OpTo.go (GoO.call rfl (by kernel_rfl) (by kernel_rfl) (client_Client_Call_ok n (⟨o_5.id, o_5.session, o_5.seq, o_5.call, o_5.busy, (⟨o_5.now.Kind, o_5.now.Session, o_5.now.Seq, o_5.now.Saga, o_5.now.Steps, o_5.now.Step, o_5.now.Back, o_5.now.Try, o_5.now.Ok, o_5.now.Now⟩ : T_api_Command), o_5.data, o_5.to_⟩ : T_client_Client) (⟨1, 0, 0, 0, [], 0, false, 0, false, 0⟩ : T_api_Command) c_2 A_3 c_4 none 0) [[0], [40]] [(40, 1)] [(1, 0)] [(0, 1), (0, 0)] (hks := []) (bks := [0, 1]) (by kernel_rfl) (by kernel_rfl) (by kernel_rfl) (.inl rfl) rfl rfl (by kernel_rfl) (by kernel_rfl) _ (fun _ _ => rfl) _ _ (fun _ _ => rfl) (fun _ _ => rfl) (fun _ _ => by kernel_rfl) (fun _ _ => by kernel_rfl) (fun r_6 x_40 => ?_))
    obtain ⟨A_7, c_8, A_9, c_10⟩ := x_40
    refine GoO.shape (env' := [(1, vP c_2), (2, vI ((some o_5, r_1_q1) : Option T_client_Client × Int).2), (17, vP c_2), (18, .agg ⟨[vI 1, vU 0, vU 0, vU 0, .slice none ([] : List T_api_Step).length 0, vI 0, .bool false, vI 0, .bool false, vU 0]⟩), (19, .tuple ⟨[.agg ⟨[vI r_6.1.Kind, vI r_6.1.From, vI r_6.1.To, vU r_6.1.Term, vU r_6.1.Index, vU r_6.1.Prev, vU r_6.1.Commit, .bool r_6.1.Ok, .slice A_7 r_6.1.Entries.length c_8, .string (bs r_6.1.Data)]⟩, vI r_6.2.1]⟩)]) (H' := [⟨40, c_2, [vI r_6.2.2.id, vU r_6.2.2.session, vU r_6.2.2.seq, vU r_6.2.2.call, .bool r_6.2.2.busy, vI r_6.2.2.now.Kind, vU r_6.2.2.now.Session, vU r_6.2.2.now.Seq, vU r_6.2.2.now.Saga, .slice A_9 r_6.2.2.now.Steps.length c_10, vI r_6.2.2.now.Step, .bool r_6.2.2.now.Back, vI r_6.2.2.now.Try, .bool r_6.2.2.now.Ok, vU r_6.2.2.now.Now, .string (bs r_6.2.2.data), vI r_6.2.2.to_]⟩]) (B' := [Rd 0 kT_api_Entry A_7 c_8 r_6.1.Entries, Rd 0 kT_api_Step A_9 c_10 r_6.2.2.now.Steps, Rd 0 kT_api_Step none 0 ([] : List T_api_Step), Rd 0 kT_api_Step A_3 c_4 o_5.now.Steps]) (ks := [1, 2, 17, 18, 19]) (by kernel_rfl) (by kernel_rfl) (by kernel_rfl) ?_
    refine GoO.exec (is := [3, 4, 5]) (hs := [.p, .p, .p]) (rest := [6, 7, 8]) (ks := [1, 2, 20, 21]) (env' := [(1, vP c_2), (2, vI ((some o_5, r_1_q1) : Option T_client_Client × Int).2), (20, .agg ⟨[vI r_6.1.Kind, vI r_6.1.From, vI r_6.1.To, vU r_6.1.Term, vU r_6.1.Index, vU r_6.1.Prev, vU r_6.1.Commit, .bool r_6.1.Ok, .slice A_7 r_6.1.Entries.length c_8, .string (bs r_6.1.Data)]⟩), (21, vI r_6.2.1)]) (H' := [⟨40, c_2, [vI r_6.2.2.id, vU r_6.2.2.session, vU r_6.2.2.seq, vU r_6.2.2.call, .bool r_6.2.2.busy, vI r_6.2.2.now.Kind, vU r_6.2.2.now.Session, vU r_6.2.2.now.Seq, vU r_6.2.2.now.Saga, .slice A_9 r_6.2.2.now.Steps.length c_10, vI r_6.2.2.now.Step, .bool r_6.2.2.now.Back, vI r_6.2.2.now.Try, .bool r_6.2.2.now.Ok, vU r_6.2.2.now.Now, .string (bs r_6.2.2.data), vI r_6.2.2.to_]⟩]) (ps := []) (by kernel_rfl) trivial ?_
    refine OpTo.go (GoO.new rfl 41 (cs := [vI 0, vI 0, vI 0, vU 0, vU 0, vU 0, vU 0, .bool false, .slice none ([] : List T_api_Entry).length 0, .string (bs [])]) (by kernel_rfl) _ (fun _ => rfl) (fun b_11 => ?_))
    refine GoO.exec (is := [7, 8]) (hs := [.b 0, .p]) (rest := []) (ks := [1, 2, 3, 4]) (env' := [(1, vP c_2), (2, vI ((some o_5, r_1_q1) : Option T_client_Client × Int).2), (3, vP b_11), (4, vI r_6.2.1)]) (H' := [⟨41, b_11, [vI r_6.1.Kind, vI r_6.1.From, vI r_6.1.To, vU r_6.1.Term, vU r_6.1.Index, vU r_6.1.Prev, vU r_6.1.Commit, .bool r_6.1.Ok, .slice A_7 r_6.1.Entries.length c_8, .string (bs r_6.1.Data)]⟩, ⟨40, c_2, [vI r_6.2.2.id, vU r_6.2.2.session, vU r_6.2.2.seq, vU r_6.2.2.call, .bool r_6.2.2.busy, vI r_6.2.2.now.Kind, vU r_6.2.2.now.Session, vU r_6.2.2.now.Seq, vU r_6.2.2.now.Saga, .slice A_9 r_6.2.2.now.Steps.length c_10, vI r_6.2.2.now.Step, .bool r_6.2.2.now.Back, vI r_6.2.2.now.Try, .bool r_6.2.2.now.Ok, vU r_6.2.2.now.Now, .string (bs r_6.2.2.data), vI r_6.2.2.to_]⟩]) (ps := [b_11 = b_11]) (by kernel_rfl) (And.intro rfl trivial) ?_
    refine GoO.regionEnd ?_
    refine GoO.seq' c30_6e ?_
    refine GoO.region' (is := [0, 1, 2, 3, 4, 5, 6, 7, 8, 9, 10, 11, 12, 13, 14, 15]) c30_7e (by kernel_rfl) ?_
    refine GoO.exec (is := [0, 1]) (hs := [.p, .p]) (rest := [2, 3, 4, 5, 6, 7, 8, 9, 10, 11, 12, 13, 14, 15]) (ks := [1, 2, 3, 4, 23, 24]) (env' := [(1, vP c_2), (2, vI ((some o_5, r_1_q1) : Option T_client_Client × Int).2), (3, vP b_11), (4, vI r_6.2.1), (23, vP c_2), (24, .agg ⟨[vI 0, vU 4, vU 0]⟩)]) (H' := [⟨41, b_11, [vI r_6.1.Kind, vI r_6.1.From, vI r_6.1.To, vU r_6.1.Term, vU r_6.1.Index, vU r_6.1.Prev, vU r_6.1.Commit, .bool r_6.1.Ok, .slice A_7 r_6.1.Entries.length c_8, .string (bs r_6.1.Data)]⟩, ⟨40, c_2, [vI r_6.2.2.id, vU r_6.2.2.session, vU r_6.2.2.seq, vU r_6.2.2.call, .bool r_6.2.2.busy, vI r_6.2.2.now.Kind, vU r_6.2.2.now.Session, vU r_6.2.2.now.Seq, vU r_6.2.2.now.Saga, .slice A_9 r_6.2.2.now.Steps.length c_10, vI r_6.2.2.now.Step, .bool r_6.2.2.now.Back, vI r_6.2.2.now.Try, .bool r_6.2.2.now.Ok, vU r_6.2.2.now.Now, .string (bs r_6.2.2.data), vI r_6.2.2.to_]⟩]) (ps := []) (by kernel_rfl) trivial ?_
    refine OpTo.go (GoO.call rfl (by kernel_rfl) (by kernel_rfl) (tontineref16_Answer_ok n (⟨0, 4, 0⟩ : T_api_Reply)) [[0]] [] [] [] (hks := [0, 1]) (bks := [0, 1, 2, 3]) (by kernel_rfl) (by kernel_rfl) (by kernel_rfl) (.inl rfl) rfl rfl (by kernel_rfl) (by kernel_rfl) _ (fun _ _ => rfl) _ _ (fun _ _ => rfl) (fun _ _ => rfl) (fun _ _ => by kernel_rfl) (fun _ _ => by kernel_rfl) (fun r_12 x_39 => ?_))
    refine GoO.shape (env' := [(1, vP c_2), (2, vI ((some o_5, r_1_q1) : Option T_client_Client × Int).2), (3, vP b_11), (4, vI r_6.2.1), (23, vP c_2), (24, .agg ⟨[vI 0, vU 4, vU 0]⟩), (25, .string (bs r_12))]) (H' := [⟨41, b_11, [vI r_6.1.Kind, vI r_6.1.From, vI r_6.1.To, vU r_6.1.Term, vU r_6.1.Index, vU r_6.1.Prev, vU r_6.1.Commit, .bool r_6.1.Ok, .slice A_7 r_6.1.Entries.length c_8, .string (bs r_6.1.Data)]⟩, ⟨40, c_2, [vI r_6.2.2.id, vU r_6.2.2.session, vU r_6.2.2.seq, vU r_6.2.2.call, .bool r_6.2.2.busy, vI r_6.2.2.now.Kind, vU r_6.2.2.now.Session, vU r_6.2.2.now.Seq, vU r_6.2.2.now.Saga, .slice A_9 r_6.2.2.now.Steps.length c_10, vI r_6.2.2.now.Step, .bool r_6.2.2.now.Back, vI r_6.2.2.now.Try, .bool r_6.2.2.now.Ok, vU r_6.2.2.now.Now, .string (bs r_6.2.2.data), vI r_6.2.2.to_]⟩]) (B' := [Rd 0 kT_api_Entry A_7 c_8 r_6.1.Entries, Rd 0 kT_api_Step A_9 c_10 r_6.2.2.now.Steps, Rd 0 kT_api_Step none 0 ([] : List T_api_Step), Rd 0 kT_api_Step A_3 c_4 o_5.now.Steps]) (ks := [1, 2, 3, 4, 23, 24, 25]) (by kernel_rfl) (by kernel_rfl) (by kernel_rfl) ?_
    refine GoO.exec (is := [3]) (hs := [.p]) (rest := [4, 5, 6, 7, 8, 9, 10, 11, 12, 13, 14, 15]) (ks := [1, 2, 3, 4, 23, 26]) (env' := [(1, vP c_2), (2, vI ((some o_5, r_1_q1) : Option T_client_Client × Int).2), (3, vP b_11), (4, vI r_6.2.1), (23, vP c_2), (26, .agg ⟨[vI 9, vI 0, vI 201, vU 0, vU 1, vU 0, vU 0, .bool false, .slice none ([] : List T_api_Entry).length 0, .string (bs r_12)]⟩)]) (H' := [⟨41, b_11, [vI r_6.1.Kind, vI r_6.1.From, vI r_6.1.To, vU r_6.1.Term, vU r_6.1.Index, vU r_6.1.Prev, vU r_6.1.Commit, .bool r_6.1.Ok, .slice A_7 r_6.1.Entries.length c_8, .string (bs r_6.1.Data)]⟩, ⟨40, c_2, [vI r_6.2.2.id, vU r_6.2.2.session, vU r_6.2.2.seq, vU r_6.2.2.call, .bool r_6.2.2.busy, vI r_6.2.2.now.Kind, vU r_6.2.2.now.Session, vU r_6.2.2.now.Seq, vU r_6.2.2.now.Saga, .slice A_9 r_6.2.2.now.Steps.length c_10, vI r_6.2.2.now.Step, .bool r_6.2.2.now.Back, vI r_6.2.2.now.Try, .bool r_6.2.2.now.Ok, vU r_6.2.2.now.Now, .string (bs r_6.2.2.data), vI r_6.2.2.to_]⟩]) (ps := []) (by kernel_rfl) trivial ?_
    refine GoO.nilRd kT_api_Entry ?_
    refine OpTo.go (GoO.call rfl (by kernel_rfl) (by kernel_rfl) (client_Client_Hear_ok n (⟨r_6.2.2.id, r_6.2.2.session, r_6.2.2.seq, r_6.2.2.call, r_6.2.2.busy, (⟨r_6.2.2.now.Kind, r_6.2.2.now.Session, r_6.2.2.now.Seq, r_6.2.2.now.Saga, r_6.2.2.now.Steps, r_6.2.2.now.Step, r_6.2.2.now.Back, r_6.2.2.now.Try, r_6.2.2.now.Ok, r_6.2.2.now.Now⟩ : T_api_Command), r_6.2.2.data, r_6.2.2.to_⟩ : T_client_Client) (⟨9, 0, 201, 0, 1, 0, 0, false, [], r_12⟩ : T_api_Letter) c_2 A_9 c_10 none 0) [[0], [40]] [(40, 1)] [(1, 1)] [(0, 2), (0, 0)] (hks := [0]) (bks := [0, 1, 2, 3, 4]) (by kernel_rfl) (by kernel_rfl) (by kernel_rfl) (.inl rfl) rfl rfl (by kernel_rfl) (by kernel_rfl) _ (fun _ _ => rfl) _ _ (fun _ _ => rfl) (fun _ _ => rfl) (fun _ _ => by kernel_rfl) (fun _ _ => by kernel_rfl) (fun r_13 x_38 => ?_))
    obtain ⟨A_14, c_15, A_16, c_17, A_18, c_19⟩ := x_38
    refine GoO.shape (env' := [(1, vP c_2), (2, vI ((some o_5, r_1_q1) : Option T_client_Client × Int).2), (3, vP b_11), (4, vI r_6.2.1), (23, vP c_2), (26, .agg ⟨[vI 9, vI 0, vI 201, vU 0, vU 1, vU 0, vU 0, .bool false, .slice none ([] : List T_api_Entry).length 0, .string (bs r_12)]⟩), (27, .tuple ⟨[.agg ⟨[vI r_13.1.Client, vI r_13.1.Command.Kind, vU r_13.1.Command.Session, vU r_13.1.Command.Seq, vU r_13.1.Command.Saga, .slice A_14 r_13.1.Command.Steps.length c_15, vI r_13.1.Command.Step, .bool r_13.1.Command.Back, vI r_13.1.Command.Try, .bool r_13.1.Command.Ok, vU r_13.1.Command.Now, vI r_13.1.Reply.Err, vU r_13.1.Reply.Num, vU r_13.1.Reply.Extra]⟩, .bool r_13.2.1, .agg ⟨[vI r_13.2.2.1.Kind, vI r_13.2.2.1.From, vI r_13.2.2.1.To, vU r_13.2.2.1.Term, vU r_13.2.2.1.Index, vU r_13.2.2.1.Prev, vU r_13.2.2.1.Commit, .bool r_13.2.2.1.Ok, .slice A_16 r_13.2.2.1.Entries.length c_17, .string (bs r_13.2.2.1.Data)]⟩, .bool r_13.2.2.2.1]⟩)]) (H' := [⟨40, c_2, [vI r_13.2.2.2.2.id, vU r_13.2.2.2.2.session, vU r_13.2.2.2.2.seq, vU r_13.2.2.2.2.call, .bool r_13.2.2.2.2.busy, vI r_13.2.2.2.2.now.Kind, vU r_13.2.2.2.2.now.Session, vU r_13.2.2.2.2.now.Seq, vU r_13.2.2.2.2.now.Saga, .slice A_18 r_13.2.2.2.2.now.Steps.length c_19, vI r_13.2.2.2.2.now.Step, .bool r_13.2.2.2.2.now.Back, vI r_13.2.2.2.2.now.Try, .bool r_13.2.2.2.2.now.Ok, vU r_13.2.2.2.2.now.Now, .string (bs r_13.2.2.2.2.data), vI r_13.2.2.2.2.to_]⟩, ⟨41, b_11, [vI r_6.1.Kind, vI r_6.1.From, vI r_6.1.To, vU r_6.1.Term, vU r_6.1.Index, vU r_6.1.Prev, vU r_6.1.Commit, .bool r_6.1.Ok, .slice A_7 r_6.1.Entries.length c_8, .string (bs r_6.1.Data)]⟩]) (B' := [Rd 0 kT_api_Step A_14 c_15 r_13.1.Command.Steps, Rd 0 kT_api_Entry A_16 c_17 r_13.2.2.1.Entries, Rd 0 kT_api_Step A_18 c_19 r_13.2.2.2.2.now.Steps, Rd 0 kT_api_Entry none 0 ([] : List T_api_Entry), Rd 0 kT_api_Entry A_7 c_8 r_6.1.Entries, Rd 0 kT_api_Step A_9 c_10 r_6.2.2.now.Steps, Rd 0 kT_api_Step none 0 ([] : List T_api_Step), Rd 0 kT_api_Step A_3 c_4 o_5.now.Steps]) (ks := [1, 2, 3, 4, 23, 26, 27]) (by kernel_rfl) (by kernel_rfl) (by kernel_rfl) ?_
    refine GoO.exec (is := [5, 6, 7, 8, 9]) (hs := [.p, .p, .p, .p, .p]) (rest := [10, 11, 12, 13, 14, 15]) (ks := [1, 2, 3, 4, 28, 29, 30, 31]) (env' := [(1, vP c_2), (2, vI ((some o_5, r_1_q1) : Option T_client_Client × Int).2), (3, vP b_11), (4, vI r_6.2.1), (28, .agg ⟨[vI r_13.1.Client, vI r_13.1.Command.Kind, vU r_13.1.Command.Session, vU r_13.1.Command.Seq, vU r_13.1.Command.Saga, .slice A_14 r_13.1.Command.Steps.length c_15, vI r_13.1.Command.Step, .bool r_13.1.Command.Back, vI r_13.1.Command.Try, .bool r_13.1.Command.Ok, vU r_13.1.Command.Now, vI r_13.1.Reply.Err, vU r_13.1.Reply.Num, vU r_13.1.Reply.Extra]⟩), (29, .bool r_13.2.1), (30, .agg ⟨[vI r_13.2.2.1.Kind, vI r_13.2.2.1.From, vI r_13.2.2.1.To, vU r_13.2.2.1.Term, vU r_13.2.2.1.Index, vU r_13.2.2.1.Prev, vU r_13.2.2.1.Commit, .bool r_13.2.2.1.Ok, .slice A_16 r_13.2.2.1.Entries.length c_17, .string (bs r_13.2.2.1.Data)]⟩), (31, .bool r_13.2.2.2.1)]) (H' := [⟨40, c_2, [vI r_13.2.2.2.2.id, vU r_13.2.2.2.2.session, vU r_13.2.2.2.2.seq, vU r_13.2.2.2.2.call, .bool r_13.2.2.2.2.busy, vI r_13.2.2.2.2.now.Kind, vU r_13.2.2.2.2.now.Session, vU r_13.2.2.2.2.now.Seq, vU r_13.2.2.2.2.now.Saga, .slice A_18 r_13.2.2.2.2.now.Steps.length c_19, vI r_13.2.2.2.2.now.Step, .bool r_13.2.2.2.2.now.Back, vI r_13.2.2.2.2.now.Try, .bool r_13.2.2.2.2.now.Ok, vU r_13.2.2.2.2.now.Now, .string (bs r_13.2.2.2.2.data), vI r_13.2.2.2.2.to_]⟩, ⟨41, b_11, [vI r_6.1.Kind, vI r_6.1.From, vI r_6.1.To, vU r_6.1.Term, vU r_6.1.Index, vU r_6.1.Prev, vU r_6.1.Commit, .bool r_6.1.Ok, .slice A_7 r_6.1.Entries.length c_8, .string (bs r_6.1.Data)]⟩]) (ps := []) (by kernel_rfl) trivial ?_
    refine OpTo.go (GoO.new rfl 42 (cs := [vI 0, vI 0, vU 0, vU 0, vU 0, .slice none ([] : List T_api_Step).length 0, vI 0, .bool false, vI 0, .bool false, vU 0, vI 0, vU 0, vU 0]) (by kernel_rfl) _ (fun _ => rfl) (fun b_20 => ?_))
    refine OpTo.go (GoO.new rfl 43 (cs := [vI 0, vI 0, vI 0, vU 0, vU 0, vU 0, vU 0, .bool false, .slice none ([] : List T_api_Entry).length 0, .string (bs [])]) (by kernel_rfl) _ (fun _ => rfl) (fun b_21 => ?_))
    refine GoO.exec (is := [12, 13, 14, 15]) (hs := [.b 1, .p, .b 0, .p]) (rest := []) (ks := [1, 2, 3, 4, 5, 6, 8]) (env' := [(1, vP c_2), (2, vI ((some o_5, r_1_q1) : Option T_client_Client × Int).2), (3, vP b_11), (4, vI r_6.2.1), (5, vP b_20), (6, .bool r_13.2.1), (8, .bool r_13.2.2.2.1)]) (H' := [⟨43, b_21, [vI r_13.2.2.1.Kind, vI r_13.2.2.1.From, vI r_13.2.2.1.To, vU r_13.2.2.1.Term, vU r_13.2.2.1.Index, vU r_13.2.2.1.Prev, vU r_13.2.2.1.Commit, .bool r_13.2.2.1.Ok, .slice A_16 r_13.2.2.1.Entries.length c_17, .string (bs r_13.2.2.1.Data)]⟩, ⟨42, b_20, [vI r_13.1.Client, vI r_13.1.Command.Kind, vU r_13.1.Command.Session, vU r_13.1.Command.Seq, vU r_13.1.Command.Saga, .slice A_14 r_13.1.Command.Steps.length c_15, vI r_13.1.Command.Step, .bool r_13.1.Command.Back, vI r_13.1.Command.Try, .bool r_13.1.Command.Ok, vU r_13.1.Command.Now, vI r_13.1.Reply.Err, vU r_13.1.Reply.Num, vU r_13.1.Reply.Extra]⟩, ⟨40, c_2, [vI r_13.2.2.2.2.id, vU r_13.2.2.2.2.session, vU r_13.2.2.2.2.seq, vU r_13.2.2.2.2.call, .bool r_13.2.2.2.2.busy, vI r_13.2.2.2.2.now.Kind, vU r_13.2.2.2.2.now.Session, vU r_13.2.2.2.2.now.Seq, vU r_13.2.2.2.2.now.Saga, .slice A_18 r_13.2.2.2.2.now.Steps.length c_19, vI r_13.2.2.2.2.now.Step, .bool r_13.2.2.2.2.now.Back, vI r_13.2.2.2.2.now.Try, .bool r_13.2.2.2.2.now.Ok, vU r_13.2.2.2.2.now.Now, .string (bs r_13.2.2.2.2.data), vI r_13.2.2.2.2.to_]⟩, ⟨41, b_11, [vI r_6.1.Kind, vI r_6.1.From, vI r_6.1.To, vU r_6.1.Term, vU r_6.1.Index, vU r_6.1.Prev, vU r_6.1.Commit, .bool r_6.1.Ok, .slice A_7 r_6.1.Entries.length c_8, .string (bs r_6.1.Data)]⟩]) (ps := [b_20 = b_20, b_21 = b_21]) (by kernel_rfl) (And.intro rfl (And.intro rfl trivial)) ?_
    refine GoO.regionEnd ?_
    refine GoO.seq' c30_8e ?_
    refine GoO.region' (is := [0, 1, 2, 3, 4, 5, 6, 7, 8]) c30_9e (by kernel_rfl) ?_
    refine GoO.exec (is := [0]) (hs := [.p]) (rest := [1, 2, 3, 4, 5, 6, 7, 8]) (ks := [2, 3, 4, 5, 6, 8, 33]) (env' := [(2, vI ((some o_5, r_1_q1) : Option T_client_Client × Int).2), (3, vP b_11), (4, vI r_6.2.1), (5, vP b_20), (6, .bool r_13.2.1), (8, .bool r_13.2.2.2.1), (33, vP c_2)]) (H' := [⟨43, b_21, [vI r_13.2.2.1.Kind, vI r_13.2.2.1.From, vI r_13.2.2.1.To, vU r_13.2.2.1.Term, vU r_13.2.2.1.Index, vU r_13.2.2.1.Prev, vU r_13.2.2.1.Commit, .bool r_13.2.2.1.Ok, .slice A_16 r_13.2.2.1.Entries.length c_17, .string (bs r_13.2.2.1.Data)]⟩, ⟨42, b_20, [vI r_13.1.Client, vI r_13.1.Command.Kind, vU r_13.1.Command.Session, vU r_13.1.Command.Seq, vU r_13.1.Command.Saga, .slice A_14 r_13.1.Command.Steps.length c_15, vI r_13.1.Command.Step, .bool r_13.1.Command.Back, vI r_13.1.Command.Try, .bool r_13.1.Command.Ok, vU r_13.1.Command.Now, vI r_13.1.Reply.Err, vU r_13.1.Reply.Num, vU r_13.1.Reply.Extra]⟩, ⟨40, c_2, [vI r_13.2.2.2.2.id, vU r_13.2.2.2.2.session, vU r_13.2.2.2.2.seq, vU r_13.2.2.2.2.call, .bool r_13.2.2.2.2.busy, vI r_13.2.2.2.2.now.Kind, vU r_13.2.2.2.2.now.Session, vU r_13.2.2.2.2.now.Seq, vU r_13.2.2.2.2.now.Saga, .slice A_18 r_13.2.2.2.2.now.Steps.length c_19, vI r_13.2.2.2.2.now.Step, .bool r_13.2.2.2.2.now.Back, vI r_13.2.2.2.2.now.Try, .bool r_13.2.2.2.2.now.Ok, vU r_13.2.2.2.2.now.Now, .string (bs r_13.2.2.2.2.data), vI r_13.2.2.2.2.to_]⟩, ⟨41, b_11, [vI r_6.1.Kind, vI r_6.1.From, vI r_6.1.To, vU r_6.1.Term, vU r_6.1.Index, vU r_6.1.Prev, vU r_6.1.Commit, .bool r_6.1.Ok, .slice A_7 r_6.1.Entries.length c_8, .string (bs r_6.1.Data)]⟩]) (ps := []) (by kernel_rfl) trivial ?_
    refine OpTo.go (GoO.call rfl (by kernel_rfl) (by kernel_rfl) (client_Client_Status_ok n (⟨r_13.2.2.2.2.id, r_13.2.2.2.2.session, r_13.2.2.2.2.seq, r_13.2.2.2.2.call, r_13.2.2.2.2.busy, (⟨r_13.2.2.2.2.now.Kind, r_13.2.2.2.2.now.Session, r_13.2.2.2.2.now.Seq, r_13.2.2.2.2.now.Saga, r_13.2.2.2.2.now.Steps, r_13.2.2.2.2.now.Step, r_13.2.2.2.2.now.Back, r_13.2.2.2.2.now.Try, r_13.2.2.2.2.now.Ok, r_13.2.2.2.2.now.Now⟩ : T_api_Command), r_13.2.2.2.2.data, r_13.2.2.2.2.to_⟩ : T_client_Client) c_2 A_18 c_19) [[0], [40]] [] [(1, 2)] [(0, 2)] (hks := [0, 1, 2, 3]) (bks := [0, 1, 2, 3, 4, 5, 6, 7]) (by kernel_rfl) (by kernel_rfl) (by kernel_rfl) (.inl rfl) rfl rfl (by kernel_rfl) (by kernel_rfl) _ (fun _ _ => rfl) _ _ (fun _ _ => rfl) (fun _ _ => rfl) (fun _ _ => by kernel_rfl) (fun _ _ => by kernel_rfl) (fun r_22 x_37 => ?_))
    refine GoO.shape (env' := [(2, vI ((some o_5, r_1_q1) : Option T_client_Client × Int).2), (3, vP b_11), (4, vI r_6.2.1), (5, vP b_20), (6, .bool r_13.2.1), (8, .bool r_13.2.2.2.1), (33, vP c_2), (34, .tuple ⟨[vU r_22.1, vU r_22.2.1, .bool r_22.2.2]⟩)]) (H' := [⟨43, b_21, [vI r_13.2.2.1.Kind, vI r_13.2.2.1.From, vI r_13.2.2.1.To, vU r_13.2.2.1.Term, vU r_13.2.2.1.Index, vU r_13.2.2.1.Prev, vU r_13.2.2.1.Commit, .bool r_13.2.2.1.Ok, .slice A_16 r_13.2.2.1.Entries.length c_17, .string (bs r_13.2.2.1.Data)]⟩, ⟨42, b_20, [vI r_13.1.Client, vI r_13.1.Command.Kind, vU r_13.1.Command.Session, vU r_13.1.Command.Seq, vU r_13.1.Command.Saga, .slice A_14 r_13.1.Command.Steps.length c_15, vI r_13.1.Command.Step, .bool r_13.1.Command.Back, vI r_13.1.Command.Try, .bool r_13.1.Command.Ok, vU r_13.1.Command.Now, vI r_13.1.Reply.Err, vU r_13.1.Reply.Num, vU r_13.1.Reply.Extra]⟩, ⟨40, c_2, [vI r_13.2.2.2.2.id, vU r_13.2.2.2.2.session, vU r_13.2.2.2.2.seq, vU r_13.2.2.2.2.call, .bool r_13.2.2.2.2.busy, vI r_13.2.2.2.2.now.Kind, vU r_13.2.2.2.2.now.Session, vU r_13.2.2.2.2.now.Seq, vU r_13.2.2.2.2.now.Saga, .slice A_18 r_13.2.2.2.2.now.Steps.length c_19, vI r_13.2.2.2.2.now.Step, .bool r_13.2.2.2.2.now.Back, vI r_13.2.2.2.2.now.Try, .bool r_13.2.2.2.2.now.Ok, vU r_13.2.2.2.2.now.Now, .string (bs r_13.2.2.2.2.data), vI r_13.2.2.2.2.to_]⟩, ⟨41, b_11, [vI r_6.1.Kind, vI r_6.1.From, vI r_6.1.To, vU r_6.1.Term, vU r_6.1.Index, vU r_6.1.Prev, vU r_6.1.Commit, .bool r_6.1.Ok, .slice A_7 r_6.1.Entries.length c_8, .string (bs r_6.1.Data)]⟩]) (B' := [Rd 0 kT_api_Step A_14 c_15 r_13.1.Command.Steps, Rd 0 kT_api_Entry A_16 c_17 r_13.2.2.1.Entries, Rd 0 kT_api_Step A_18 c_19 r_13.2.2.2.2.now.Steps, Rd 0 kT_api_Entry none 0 ([] : List T_api_Entry), Rd 0 kT_api_Entry A_7 c_8 r_6.1.Entries, Rd 0 kT_api_Step A_9 c_10 r_6.2.2.now.Steps, Rd 0 kT_api_Step none 0 ([] : List T_api_Step), Rd 0 kT_api_Step A_3 c_4 o_5.now.Steps]) (ks := [2, 3, 4, 5, 6, 8, 33, 34]) (by kernel_rfl) (by kernel_rfl) (by kernel_rfl) ?_
    refine GoO.exec (is := [2, 3, 4, 5, 6, 7, 8]) (hs := [.p, .p, .p, .p, .p, .p, .p]) (rest := []) (ks := [2, 3, 4, 5, 6, 8, 9, 10, 11]) (env' := [(2, vI ((some o_5, r_1_q1) : Option T_client_Client × Int).2), (3, vP b_11), (4, vI r_6.2.1), (5, vP b_20), (6, .bool r_13.2.1), (8, .bool r_13.2.2.2.1), (9, vU r_22.1), (10, vU r_22.2.1), (11, .bool r_22.2.2)]) (H' := [⟨43, b_21, [vI r_13.2.2.1.Kind, vI r_13.2.2.1.From, vI r_13.2.2.1.To, vU r_13.2.2.1.Term, vU r_13.2.2.1.Index, vU r_13.2.2.1.Prev, vU r_13.2.2.1.Commit, .bool r_13.2.2.1.Ok, .slice A_16 r_13.2.2.1.Entries.length c_17, .string (bs r_13.2.2.1.Data)]⟩, ⟨42, b_20, [vI r_13.1.Client, vI r_13.1.Command.Kind, vU r_13.1.Command.Session, vU r_13.1.Command.Seq, vU r_13.1.Command.Saga, .slice A_14 r_13.1.Command.Steps.length c_15, vI r_13.1.Command.Step, .bool r_13.1.Command.Back, vI r_13.1.Command.Try, .bool r_13.1.Command.Ok, vU r_13.1.Command.Now, vI r_13.1.Reply.Err, vU r_13.1.Reply.Num, vU r_13.1.Reply.Extra]⟩, ⟨40, c_2, [vI r_13.2.2.2.2.id, vU r_13.2.2.2.2.session, vU r_13.2.2.2.2.seq, vU r_13.2.2.2.2.call, .bool r_13.2.2.2.2.busy, vI r_13.2.2.2.2.now.Kind, vU r_13.2.2.2.2.now.Session, vU r_13.2.2.2.2.now.Seq, vU r_13.2.2.2.2.now.Saga, .slice A_18 r_13.2.2.2.2.now.Steps.length c_19, vI r_13.2.2.2.2.now.Step, .bool r_13.2.2.2.2.now.Back, vI r_13.2.2.2.2.now.Try, .bool r_13.2.2.2.2.now.Ok, vU r_13.2.2.2.2.now.Now, .string (bs r_13.2.2.2.2.data), vI r_13.2.2.2.2.to_]⟩, ⟨41, b_11, [vI r_6.1.Kind, vI r_6.1.From, vI r_6.1.To, vU r_6.1.Term, vU r_6.1.Index, vU r_6.1.Prev, vU r_6.1.Commit, .bool r_6.1.Ok, .slice A_7 r_6.1.Entries.length c_8, .string (bs r_6.1.Data)]⟩]) (ps := []) (by kernel_rfl) trivial ?_
    refine GoO.regionEnd ?_
    refine GoO.seq' c30_10e ?_
    refine GoO.region' (is := [0, 1, 2, 3, 4, 5, 6, 7, 8, 9, 10, 11, 12, 13, 14, 15, 16, 17, 18, 19, 20, 21, 22, 23, 24, 25, 26, 27, 28, 29, 30, 31, 32, 33, 34, 35, 36, 37, 38, 39, 40, 41]) c30_11e (by kernel_rfl) ?_
    refine GoO.exec (is := [0, 1, 2]) (hs := [.p, .p, .p]) (rest := [3, 4, 5, 6, 7, 8, 9, 10, 11, 12, 13, 14, 15, 16, 17, 18, 19, 20, 21, 22, 23, 24, 25, 26, 27, 28, 29, 30, 31, 32, 33, 34, 35, 36, 37, 38, 39, 40, 41]) (ks := [3, 4, 5, 6, 8, 9, 10, 11, 40]) (env' := [(3, vP b_11), (4, vI r_6.2.1), (5, vP b_20), (6, .bool r_13.2.1), (8, .bool r_13.2.2.2.1), (9, vU r_22.1), (10, vU r_22.2.1), (11, .bool r_22.2.2), (40, .bool (((some o_5, r_1_q1) : Option T_client_Client × Int).2 == 0))]) (H' := [⟨43, b_21, [vI r_13.2.2.1.Kind, vI r_13.2.2.1.From, vI r_13.2.2.1.To, vU r_13.2.2.1.Term, vU r_13.2.2.1.Index, vU r_13.2.2.1.Prev, vU r_13.2.2.1.Commit, .bool r_13.2.2.1.Ok, .slice A_16 r_13.2.2.1.Entries.length c_17, .string (bs r_13.2.2.1.Data)]⟩, ⟨42, b_20, [vI r_13.1.Client, vI r_13.1.Command.Kind, vU r_13.1.Command.Session, vU r_13.1.Command.Seq, vU r_13.1.Command.Saga, .slice A_14 r_13.1.Command.Steps.length c_15, vI r_13.1.Command.Step, .bool r_13.1.Command.Back, vI r_13.1.Command.Try, .bool r_13.1.Command.Ok, vU r_13.1.Command.Now, vI r_13.1.Reply.Err, vU r_13.1.Reply.Num, vU r_13.1.Reply.Extra]⟩, ⟨40, c_2, [vI r_13.2.2.2.2.id, vU r_13.2.2.2.2.session, vU r_13.2.2.2.2.seq, vU r_13.2.2.2.2.call, .bool r_13.2.2.2.2.busy, vI r_13.2.2.2.2.now.Kind, vU r_13.2.2.2.2.now.Session, vU r_13.2.2.2.2.now.Seq, vU r_13.2.2.2.2.now.Saga, .slice A_18 r_13.2.2.2.2.now.Steps.length c_19, vI r_13.2.2.2.2.now.Step, .bool r_13.2.2.2.2.now.Back, vI r_13.2.2.2.2.now.Try, .bool r_13.2.2.2.2.now.Ok, vU r_13.2.2.2.2.now.Now, .string (bs r_13.2.2.2.2.data), vI r_13.2.2.2.2.to_]⟩, ⟨41, b_11, [vI r_6.1.Kind, vI r_6.1.From, vI r_6.1.To, vU r_6.1.Term, vU r_6.1.Index, vU r_6.1.Prev, vU r_6.1.Commit, .bool r_6.1.Ok, .slice A_7 r_6.1.Entries.length c_8, .string (bs r_6.1.Data)]⟩]) (ps := []) (by kernel_rfl) trivial ?_
    refine GoO.bsplit (t := 40) (by kernel_rfl) (fun h23 => ?_) (fun h23 => ?_)
    · refine GoO.exec (is := [3, 4, 5]) (hs := [.p, .p, .p]) (rest := [6, 7, 8, 9, 10, 11, 12, 13, 14, 15, 16, 17, 18, 19, 20, 21, 22, 23, 24, 25, 26, 27, 28, 29, 30, 31, 32, 33, 34, 35, 36, 37, 38, 39, 40, 41]) (ks := [3, 5, 6, 8, 9, 10, 11, 43]) (env' := [(3, vP b_11), (5, vP b_20), (6, .bool r_13.2.1), (8, .bool r_13.2.2.2.1), (9, vU r_22.1), (10, vU r_22.2.1), (11, .bool r_22.2.2), (43, .bool (r_6.2.1 == 0))]) (H' := [⟨43, b_21, [vI r_13.2.2.1.Kind, vI r_13.2.2.1.From, vI r_13.2.2.1.To, vU r_13.2.2.1.Term, vU r_13.2.2.1.Index, vU r_13.2.2.1.Prev, vU r_13.2.2.1.Commit, .bool r_13.2.2.1.Ok, .slice A_16 r_13.2.2.1.Entries.length c_17, .string (bs r_13.2.2.1.Data)]⟩, ⟨42, b_20, [vI r_13.1.Client, vI r_13.1.Command.Kind, vU r_13.1.Command.Session, vU r_13.1.Command.Seq, vU r_13.1.Command.Saga, .slice A_14 r_13.1.Command.Steps.length c_15, vI r_13.1.Command.Step, .bool r_13.1.Command.Back, vI r_13.1.Command.Try, .bool r_13.1.Command.Ok, vU r_13.1.Command.Now, vI r_13.1.Reply.Err, vU r_13.1.Reply.Num, vU r_13.1.Reply.Extra]⟩, ⟨40, c_2, [vI r_13.2.2.2.2.id, vU r_13.2.2.2.2.session, vU r_13.2.2.2.2.seq, vU r_13.2.2.2.2.call, .bool r_13.2.2.2.2.busy, vI r_13.2.2.2.2.now.Kind, vU r_13.2.2.2.2.now.Session, vU r_13.2.2.2.2.now.Seq, vU r_13.2.2.2.2.now.Saga, .slice A_18 r_13.2.2.2.2.now.Steps.length c_19, vI r_13.2.2.2.2.now.Step, .bool r_13.2.2.2.2.now.Back, vI r_13.2.2.2.2.now.Try, .bool r_13.2.2.2.2.now.Ok, vU r_13.2.2.2.2.now.Now, .string (bs r_13.2.2.2.2.data), vI r_13.2.2.2.2.to_]⟩, ⟨41, b_11, [vI r_6.1.Kind, vI r_6.1.From, vI r_6.1.To, vU r_6.1.Term, vU r_6.1.Index, vU r_6.1.Prev, vU r_6.1.Commit, .bool r_6.1.Ok, .slice A_7 r_6.1.Entries.length c_8, .string (bs r_6.1.Data)]⟩]) (ps := []) (by kernel_rfl) trivial ?_
      exact GoO.sub (ks := [3, 5, 6, 8, 9, 10, 11, 43]) (hk := [3, 1]) (bk := [4, 0]) (by kernel_rfl) (by kernel_rfl) (by kernel_rfl) (tontinelaw21_begun_j0_ok n r_6 r_13 r_22 A_7 c_8 b_11 A_14 c_15 b_20 w0 S0 (r_6.2.1 == 0))
    · refine GoO.exec (is := [3, 4, 5]) (hs := [.p, .p, .p]) (rest := [6, 7, 8, 9, 10, 11, 12, 13, 14, 15, 16, 17, 18, 19, 20, 21, 22, 23, 24, 25, 26, 27, 28, 29, 30, 31, 32, 33, 34, 35, 36, 37, 38, 39, 40, 41]) (ks := [3, 5, 6, 8, 9, 10, 11, 43]) (env' := [(3, vP b_11), (5, vP b_20), (6, .bool r_13.2.1), (8, .bool r_13.2.2.2.1), (9, vU r_22.1), (10, vU r_22.2.1), (11, .bool r_22.2.2), (43, .bool false)]) (H' := [⟨43, b_21, [vI r_13.2.2.1.Kind, vI r_13.2.2.1.From, vI r_13.2.2.1.To, vU r_13.2.2.1.Term, vU r_13.2.2.1.Index, vU r_13.2.2.1.Prev, vU r_13.2.2.1.Commit, .bool r_13.2.2.1.Ok, .slice A_16 r_13.2.2.1.Entries.length c_17, .string (bs r_13.2.2.1.Data)]⟩, ⟨42, b_20, [vI r_13.1.Client, vI r_13.1.Command.Kind, vU r_13.1.Command.Session, vU r_13.1.Command.Seq, vU r_13.1.Command.Saga, .slice A_14 r_13.1.Command.Steps.length c_15, vI r_13.1.Command.Step, .bool r_13.1.Command.Back, vI r_13.1.Command.Try, .bool r_13.1.Command.Ok, vU r_13.1.Command.Now, vI r_13.1.Reply.Err, vU r_13.1.Reply.Num, vU r_13.1.Reply.Extra]⟩, ⟨40, c_2, [vI r_13.2.2.2.2.id, vU r_13.2.2.2.2.session, vU r_13.2.2.2.2.seq, vU r_13.2.2.2.2.call, .bool r_13.2.2.2.2.busy, vI r_13.2.2.2.2.now.Kind, vU r_13.2.2.2.2.now.Session, vU r_13.2.2.2.2.now.Seq, vU r_13.2.2.2.2.now.Saga, .slice A_18 r_13.2.2.2.2.now.Steps.length c_19, vI r_13.2.2.2.2.now.Step, .bool r_13.2.2.2.2.now.Back, vI r_13.2.2.2.2.now.Try, .bool r_13.2.2.2.2.now.Ok, vU r_13.2.2.2.2.now.Now, .string (bs r_13.2.2.2.2.data), vI r_13.2.2.2.2.to_]⟩, ⟨41, b_11, [vI r_6.1.Kind, vI r_6.1.From, vI r_6.1.To, vU r_6.1.Term, vU r_6.1.Index, vU r_6.1.Prev, vU r_6.1.Commit, .bool r_6.1.Ok, .slice A_7 r_6.1.Entries.length c_8, .string (bs r_6.1.Data)]⟩]) (ps := []) (by kernel_rfl) trivial ?_
      exact GoO.sub (ks := [3, 5, 6, 8, 9, 10, 11, 43]) (hk := [3, 1]) (bk := [4, 0]) (by kernel_rfl) (by kernel_rfl) (by kernel_rfl) (tontinelaw21_begun_j0_ok n r_6 r_13 r_22 A_7 c_8 b_11 A_14 c_15 b_20 w0 S0 false)
/-! tontine/tontinelaw21.light -/
noncomputable def c44_0 : Code := bodyOf Try.f44
noncomputable def c44_1 : Code := cdL c44_0
noncomputable def c44_2 : Code := cdR c44_0
noncomputable def c44_3 : Code := cdL c44_2
noncomputable def c44_4 : Code := cdR c44_2
noncomputable def c44_5 : Code := cdL c44_4
noncomputable def c44_6 : Code := cdL c44_5
noncomputable def c44_7 : Code := cdR c44_5
noncomputable def c44_8 : Code := cdL c44_7
noncomputable def c44_9 : Code := cdL c44_8
noncomputable def c44_10 : Code := cdL c44_9
noncomputable def c44_11 : Code := cdR c44_9
noncomputable def c44_12 : Code := cdL c44_11
noncomputable def c44_13 : Code := cdL c44_12
noncomputable def c44_14 : Code := cdR c44_12
noncomputable def c44_15 : Code := cdR c44_11
noncomputable def c44_16 : Code := cdL c44_15
noncomputable def c44_17 : Code := cdL c44_16
noncomputable def c44_18 : Code := cdL c44_17
noncomputable def c44_19 : Code := cdR c44_17
noncomputable def c44_20 : Code := cdR c44_15
noncomputable def c44_21 : Code := cdR c44_4
noncomputable def c44_22 : Code := cdL c44_21
noncomputable def c44_23 : Code := cdR c44_21
noncomputable def r44_1 : Array Oper := cdO c44_1
noncomputable def r44_3 : Array Oper := cdO c44_3
noncomputable def r44_6 : Array Oper := cdO c44_6
noncomputable def r44_10 : Array Oper := cdO c44_10
noncomputable def r44_18 : Array Oper := cdO c44_18
noncomputable def r44_19 : Array Oper := cdO c44_19
noncomputable def r44_20 : Array Oper := cdO c44_20
noncomputable def r44_22 : Array Oper := cdO c44_22
theorem c44_0e : c44_0 = .seq c44_1 c44_2 := by kernel_rfl
theorem c44_1e : c44_1 = .region 0 r44_1 false := by kernel_rfl
theorem c44_2e : c44_2 = .seq c44_3 c44_4 := by kernel_rfl
theorem c44_3e : c44_3 = .region 1 r44_3 false := by kernel_rfl
theorem c44_4e : c44_4 = .seq c44_5 c44_21 := by kernel_rfl
theorem c44_5e : c44_5 = .seq c44_6 c44_7 := by kernel_rfl
theorem c44_6e : c44_6 = .region 2 r44_6 false := by kernel_rfl
theorem c44_7e : c44_7 = .block 0 c44_8 := by kernel_rfl
theorem c44_8e : c44_8 = .loop c44_9 := by kernel_rfl
theorem c44_9e : c44_9 = .seq c44_10 c44_11 := by kernel_rfl
theorem c44_10e : c44_10 = .region 3 r44_10 false := by kernel_rfl
theorem c44_11e : c44_11 = .seq c44_12 c44_15 := by kernel_rfl
theorem c44_12e : c44_12 = .cond (cdC c44_12) c44_13 c44_14 := by kernel_rfl
theorem c44_13e : c44_13 = .skip := by kernel_rfl
theorem c44_14e : c44_14 = .exit 0 := by kernel_rfl
theorem c44_15e : c44_15 = .seq c44_16 c44_20 := by kernel_rfl
theorem c44_16e : c44_16 = .block 1 c44_17 := by kernel_rfl
theorem c44_17e : c44_17 = .seq c44_18 c44_19 := by kernel_rfl
theorem c44_18e : c44_18 = .region 4 r44_18 false := by kernel_rfl
theorem c44_19e : c44_19 = .region 5 r44_19 false := by kernel_rfl
theorem c44_20e : c44_20 = .region 6 r44_20 false := by kernel_rfl
theorem c44_21e : c44_21 = .seq c44_22 c44_23 := by kernel_rfl
theorem c44_22e : c44_22 = .region 7 r44_22 false := by kernel_rfl
theorem c44_23e : c44_23 = .ret := by kernel_rfl
noncomputable def tontinelaw21_light.R (A_2 : Option Addr) (c_3 : Nat) : Pst Bool where
  ε := Unit
  v := fun r x => .bool r
  H := fun r x => []
  B := fun r x => []
noncomputable def tontinelaw21_light.cx (A_2 : Option Addr) (c_3 : Nat) (w0 : World) (S0 : Fam) : Cx Bool := ⟨Try.prog, 44, Try.f44, 29, w0, S0, [], 0, tontinelaw21_light.R A_2 c_3⟩
theorem tontinelaw21_light_l0_ok (n : Nat) (calls_1 : (List T_tontinelaw21_Call)) (A_2 : Option Addr) (c_3 : Nat) (w0 : World) (S0 : Fam) :
    ∀ (k : Nat) (n_4 : Int) (x_5 : Int), GoO (tontinelaw21_light.cx A_2 c_3 w0 S0) [(3, vI n_4), (8, .slice A_2 calls_1.length c_3), (9, vI (calls_1.length : Int)), (10, vI x_5)] [] [Rd 0 kT_tontinelaw21_Call A_2 c_3 calls_1] [.code c44_9, .inLoop c44_9, .inBlock 0, .code c44_21] (tontinelaw21_light.l0 n calls_1 k n_4 x_5) := by
  intro k
  induction k with
  | zero => intros; rw [tontinelaw21_light.l0.eq_1]; exact GoO.stop
  | succ k ih0 =>
    intro n_4 x_5
    rw [tontinelaw21_light.l0.eq_2]
    refine GoO.seq' c44_9e ?_
    refine GoO.region' (is := [0]) c44_10e (by kernel_rfl) ?_
    refine GoO.exec (is := [0]) (hs := [.p]) (rest := []) (ks := [3, 8, 9, 10, 11]) (env' := [(3, vI n_4), (8, .slice A_2 calls_1.length c_3), (9, vI (calls_1.length : Int)), (10, vI x_5), (11, .bool (decide (x_5 < (calls_1.length : Int))))]) (H' := []) (ps := []) (by kernel_rfl) trivial ?_
    refine GoO.regionEnd ?_
    refine GoO.seq' c44_11e ?_
    refine GoO.ite' c44_12e (by kernel_rfl) (fun h6 => ?_) (fun h6 => ?_)
    · refine GoO.skip' c44_13e ?_
      refine GoO.seq' c44_15e ?_
      refine GoO.block' c44_16e ?_
      refine GoO.seq' c44_17e ?_
      refine GoO.region' (is := [0, 1, 2, 3]) c44_18e (by kernel_rfl) ?_
      refine GoO.guard (fun h7 => ?_)
      refine OpTo.go (GoO.idx (kk := .i64) (e := 99) (K := kT_tontinelaw21_Call) (A := A_2) (c := c_3) (xs := calls_1) (iv := x_5) (j := 0) rfl (by kernel_rfl) (by kernel_rfl) (by kernel_rfl) (by kernel_rfl) rfl Reads.rd rfl h7.1 h7.2 (by decide) rfl ?_)
      refine OpTo.go (GoO.ldE' (K := kT_tontinelaw21_Call) (A := A_2) (c := c_3) (xs := calls_1) (iN := x_5.toNat) (off := 0) (j := 0) rfl (by kernel_rfl) rfl Reads.rd (by first | exact idx_lt h7.1 h7.2 | (simp only [List.length_set]; exact idx_lt h7.1 h7.2)) (by decide) (oT_tontinelaw21_Call _) (v := fun e => .agg ⟨[vI ((rdL calls_1 x_5).Kind), vI ((rdL calls_1 x_5).Command.Kind), vU ((rdL calls_1 x_5).Command.Session), vU ((rdL calls_1 x_5).Command.Seq), vU ((rdL calls_1 x_5).Command.Saga), .slice e.1 ((rdL calls_1 x_5).Command.Steps).length e.2.1, vI ((rdL calls_1 x_5).Command.Step), .bool ((rdL calls_1 x_5).Command.Back), vI ((rdL calls_1 x_5).Command.Try), .bool ((rdL calls_1 x_5).Command.Ok), vU ((rdL calls_1 x_5).Command.Now), vI ((rdL calls_1 x_5).Letter.Kind), vI ((rdL calls_1 x_5).Letter.From), vI ((rdL calls_1 x_5).Letter.To), vU ((rdL calls_1 x_5).Letter.Term), vU ((rdL calls_1 x_5).Letter.Index), vU ((rdL calls_1 x_5).Letter.Prev), vU ((rdL calls_1 x_5).Letter.Commit), .bool ((rdL calls_1 x_5).Letter.Ok), .slice e.2.2.1 ((rdL calls_1 x_5).Letter.Entries).length e.2.2.2, .string (bs ((rdL calls_1 x_5).Letter.Data))]⟩) (fun _ => by kernel_rfl) _ (fun _ => rfl) ?_)
      rintro ⟨A_8, c_9, A_10, c_11⟩
      refine OpTo.go (GoO.new rfl 40 (cs := [vI 0, vI 0, vU 0, vU 0, vU 0, .slice none ([] : List T_api_Step).length 0, vI 0, .bool false, vI 0, .bool false, vU 0, vI 0, vI 0, vI 0, vU 0, vU 0, vU 0, vU 0, .bool false, .slice none ([] : List T_api_Entry).length 0, .string (bs [])]) (by kernel_rfl) _ (fun _ => rfl) (fun b_12 => ?_))
      refine GoO.exec (is := [3]) (hs := [.b 0]) (rest := []) (ks := [3, 5, 8, 9, 10]) (env' := [(3, vI n_4), (5, vP b_12), (8, .slice A_2 calls_1.length c_3), (9, vI (calls_1.length : Int)), (10, vI x_5)]) (H' := [⟨40, b_12, [vI ((rdL calls_1 x_5).Kind), vI ((rdL calls_1 x_5).Command.Kind), vU ((rdL calls_1 x_5).Command.Session), vU ((rdL calls_1 x_5).Command.Seq), vU ((rdL calls_1 x_5).Command.Saga), .slice A_8 ((rdL calls_1 x_5).Command.Steps).length c_9, vI ((rdL calls_1 x_5).Command.Step), .bool ((rdL calls_1 x_5).Command.Back), vI ((rdL calls_1 x_5).Command.Try), .bool ((rdL calls_1 x_5).Command.Ok), vU ((rdL calls_1 x_5).Command.Now), vI ((rdL calls_1 x_5).Letter.Kind), vI ((rdL calls_1 x_5).Letter.From), vI ((rdL calls_1 x_5).Letter.To), vU ((rdL calls_1 x_5).Letter.Term), vU ((rdL calls_1 x_5).Letter.Index), vU ((rdL calls_1 x_5).Letter.Prev), vU ((rdL calls_1 x_5).Letter.Commit), .bool ((rdL calls_1 x_5).Letter.Ok), .slice A_10 ((rdL calls_1 x_5).Letter.Entries).length c_11, .string (bs ((rdL calls_1 x_5).Letter.Data))]⟩]) (ps := [b_12 = b_12]) (by kernel_rfl) (And.intro rfl trivial) ?_
      refine GoO.regionEnd ?_
      refine GoO.region' (is := [0, 1, 2, 3, 4, 5, 6, 7, 8, 9, 10, 11, 12]) c44_19e (by kernel_rfl) ?_
      refine GoO.exec (is := [0, 1, 2, 3, 4, 5, 6, 7, 8, 9, 10, 11, 12]) (hs := [.p, .p, .p, .b 0, .p, .p, .p, .b 0, .p, .p, .p, .p, .p]) (rest := []) (ks := [3, 8, 9, 10]) (env' := [(3, vI (wi64 (n_4 + (wi64 ((((rdL calls_1 x_5).Command.Steps).length : Int) + (wi64 ((((rdL calls_1 x_5).Letter.Data).length : Int).tdiv 50))))))), (8, .slice A_2 calls_1.length c_3), (9, vI (calls_1.length : Int)), (10, vI x_5)]) (H' := [⟨40, b_12, [vI ((rdL calls_1 x_5).Kind), vI ((rdL calls_1 x_5).Command.Kind), vU ((rdL calls_1 x_5).Command.Session), vU ((rdL calls_1 x_5).Command.Seq), vU ((rdL calls_1 x_5).Command.Saga), .slice A_8 ((rdL calls_1 x_5).Command.Steps).length c_9, vI ((rdL calls_1 x_5).Command.Step), .bool ((rdL calls_1 x_5).Command.Back), vI ((rdL calls_1 x_5).Command.Try), .bool ((rdL calls_1 x_5).Command.Ok), vU ((rdL calls_1 x_5).Command.Now), vI ((rdL calls_1 x_5).Letter.Kind), vI ((rdL calls_1 x_5).Letter.From), vI ((rdL calls_1 x_5).Letter.To), vU ((rdL calls_1 x_5).Letter.Term), vU ((rdL calls_1 x_5).Letter.Index), vU ((rdL calls_1 x_5).Letter.Prev), vU ((rdL calls_1 x_5).Letter.Commit), .bool ((rdL calls_1 x_5).Letter.Ok), .slice A_10 ((rdL calls_1 x_5).Letter.Entries).length c_11, .string (bs ((rdL calls_1 x_5).Letter.Data))]⟩]) (ps := [b_12 = b_12, b_12 = b_12, (50 : Int) ≠ 0]) (by kernel_rfl) (And.intro rfl (And.intro rfl (And.intro (by decide) trivial))) ?_
      refine GoO.regionEnd ?_
      refine GoO.inBlock ?_
      refine GoO.region' (is := [0, 1]) c44_20e (by kernel_rfl) ?_
      refine GoO.exec (is := [0, 1]) (hs := [.p, .p]) (rest := []) (ks := [3, 8, 9, 10]) (env' := [(3, vI (wi64 (n_4 + (wi64 ((((rdL calls_1 x_5).Command.Steps).length : Int) + (wi64 ((((rdL calls_1 x_5).Letter.Data).length : Int).tdiv 50))))))), (8, .slice A_2 calls_1.length c_3), (9, vI (calls_1.length : Int)), (10, vI (wi64 (x_5 + 1)))]) (H' := [⟨40, b_12, [vI ((rdL calls_1 x_5).Kind), vI ((rdL calls_1 x_5).Command.Kind), vU ((rdL calls_1 x_5).Command.Session), vU ((rdL calls_1 x_5).Command.Seq), vU ((rdL calls_1 x_5).Command.Saga), .slice A_8 ((rdL calls_1 x_5).Command.Steps).length c_9, vI ((rdL calls_1 x_5).Command.Step), .bool ((rdL calls_1 x_5).Command.Back), vI ((rdL calls_1 x_5).Command.Try), .bool ((rdL calls_1 x_5).Command.Ok), vU ((rdL calls_1 x_5).Command.Now), vI ((rdL calls_1 x_5).Letter.Kind), vI ((rdL calls_1 x_5).Letter.From), vI ((rdL calls_1 x_5).Letter.To), vU ((rdL calls_1 x_5).Letter.Term), vU ((rdL calls_1 x_5).Letter.Index), vU ((rdL calls_1 x_5).Letter.Prev), vU ((rdL calls_1 x_5).Letter.Commit), .bool ((rdL calls_1 x_5).Letter.Ok), .slice A_10 ((rdL calls_1 x_5).Letter.Entries).length c_11, .string (bs ((rdL calls_1 x_5).Letter.Data))]⟩]) (ps := []) (by kernel_rfl) trivial ?_
      refine GoO.regionEnd ?_
      refine GoO.inLoop ?_
      exact GoO.sub (ks := [3, 8, 9, 10]) (hk := []) (bk := [2]) (by kernel_rfl) (by kernel_rfl) (by kernel_rfl) (ih0 (wi64 (n_4 + (wi64 ((((rdL calls_1 x_5).Command.Steps).length : Int) + (wi64 ((((rdL calls_1 x_5).Letter.Data).length : Int).tdiv 50)))))) (wi64 (x_5 + 1)))
    · refine GoO.exit' c44_14e rfl ?_
      refine GoO.seq' c44_21e ?_
      refine GoO.region' (is := [0, 1, 2]) c44_22e (by kernel_rfl) ?_
      refine GoO.exec (is := [0, 1, 2]) (hs := [.p, .p, .p]) (rest := []) (ks := [2]) (env' := [(2, .bool (decide (n_4 ≤ 2000)))]) (H' := []) (ps := []) (by kernel_rfl) trivial ?_
      refine GoO.regionEnd ?_
      exact GoO.ret' (h := c44_23e) (hs := []) (ps := []) (hk := []) (bk := []) Try.func44 () (by kernel_rfl) trivial (by kernel_rfl) (by kernel_rfl)
theorem tontinelaw21_light_ok (n : Nat) (calls_1 : (List T_tontinelaw21_Call)) (A_2 : Option Addr) (c_3 : Nat) :
    Meets Try.prog 44 [.slice A_2 calls_1.length c_3] 0 [] [] [Rd 0 kT_tontinelaw21_Call A_2 c_3 calls_1] (tontinelaw21_light.f n calls_1) (tontinelaw21_light.R A_2 c_3) := by
  refine Meets.of (c := c44_0) (n := 29) Try.func44 (by kernel_rfl) (by kernel_rfl) (by kernel_rfl) fun w0 S0 => ?_
  unfold tontinelaw21_light.f
  show GoO (tontinelaw21_light.cx A_2 c_3 w0 S0) [(0, .slice A_2 calls_1.length c_3)] [] [Rd 0 kT_tontinelaw21_Call A_2 c_3 calls_1] [.code c44_0] _
  refine GoO.seq' c44_0e ?_
  refine GoO.region' (is := [0]) c44_1e (by kernel_rfl) ?_
  refine GoO.exec (is := [0]) (hs := [.p]) (rest := []) (ks := [0]) (env' := [(0, .slice A_2 calls_1.length c_3)]) (H' := []) (ps := []) (by kernel_rfl) trivial ?_
  refine GoO.regionEnd ?_
  refine GoO.seq' c44_2e ?_
  refine GoO.region' (is := [0, 1, 2]) c44_3e (by kernel_rfl) ?_
  refine GoO.exec (is := [0, 1, 2]) (hs := [.p, .p, .p]) (rest := []) (ks := [0, 3]) (env' := [(0, .slice A_2 calls_1.length c_3), (3, vI (calls_1.length : Int))]) (H' := []) (ps := []) (by kernel_rfl) trivial ?_
  refine GoO.regionEnd ?_
  refine GoO.seq' c44_4e ?_
  refine GoO.seq' c44_5e ?_
  refine GoO.region' (is := [0, 1, 2]) c44_6e (by kernel_rfl) ?_
  refine GoO.exec (is := [0, 1, 2]) (hs := [.p, .p, .p]) (rest := []) (ks := [3, 8, 9, 10]) (env' := [(3, vI (calls_1.length : Int)), (8, .slice A_2 calls_1.length c_3), (9, vI (calls_1.length : Int)), (10, vI 0)]) (H' := []) (ps := []) (by kernel_rfl) trivial ?_
  refine GoO.regionEnd ?_
  refine GoO.block' c44_7e ?_
  refine GoO.loop' c44_8e ?_
  exact GoO.sub (ks := [3, 8, 9, 10]) (hk := []) (bk := [0]) (by kernel_rfl) (by kernel_rfl) (by kernel_rfl) (tontinelaw21_light_l0_ok n calls_1 A_2 c_3 w0 S0 n (calls_1.length : Int) 0)
/-! (*tontine/tontineref03.Reader).Fail -/
noncomputable def c89_0 : Code := bodyOf Try.f89
noncomputable def c89_1 : Code := cdL c89_0
noncomputable def c89_2 : Code := cdR c89_0
noncomputable def r89_1 : Array Oper := cdO c89_1
noncomputable def r89_2 : Array Oper := cdO c89_2
theorem c89_0e : c89_0 = .seq c89_1 c89_2 := by kernel_rfl
theorem c89_1e : c89_1 = .region 0 r89_1 false := by kernel_rfl
theorem c89_2e : c89_2 = .region 1 r89_2 false := by kernel_rfl
noncomputable def tontineref03_Reader_Fail.R (b_2 : Nat) : Pst T_tontineref03_Reader where
  ε := Unit
  v := fun r x => .tuple ⟨[]⟩
  H := fun r x => [⟨1, b_2, [.string (bs r.S_), .bool r.Bad]⟩]
  B := fun r x => []
noncomputable def tontineref03_Reader_Fail.cx (b_2 : Nat) (w0 : World) (S0 : Fam) : Cx T_tontineref03_Reader := ⟨Try.prog, 89, Try.f89, 8, w0, S0, [1], 1, tontineref03_Reader_Fail.R b_2⟩
theorem tontineref03_Reader_Fail_ok (n : Nat) (r_1 : T_tontineref03_Reader) (b_2 : Nat) :
    Meets Try.prog 89 [vP b_2] 1 [1] [⟨1, b_2, [.string (bs r_1.S_), .bool r_1.Bad]⟩] [] (tontineref03_Reader_Fail.f n r_1) (tontineref03_Reader_Fail.R b_2) := by
  refine Meets.of (c := c89_0) (n := 8) Try.func89 (by kernel_rfl) (by kernel_rfl) (by kernel_rfl) fun w0 S0 => ?_
  unfold tontineref03_Reader_Fail.f
  show GoO (tontineref03_Reader_Fail.cx b_2 w0 S0) [(0, vP b_2)] [⟨1, b_2, [.string (bs r_1.S_), .bool r_1.Bad]⟩] [] [.code c89_0] _
  refine GoO.seq' c89_0e ?_
  refine GoO.region' (is := [0, 1, 2, 3]) c89_1e (by kernel_rfl) ?_
  refine GoO.exec (is := [0, 1, 2, 3]) (hs := [.p, .p, .p, .b 0]) (rest := []) (ks := [0]) (env' := [(0, vP b_2)]) (H' := [⟨1, b_2, [.string (bs []), .bool r_1.Bad]⟩]) (ps := [b_2 = b_2]) (by kernel_rfl) (And.intro rfl trivial) ?_
  refine GoO.regionEnd ?_
  refine GoO.region' (is := [0, 1, 2, 3]) c89_2e (by kernel_rfl) ?_
  refine GoO.exec (is := [0, 1, 2, 3]) (hs := [.p, .p, .p, .b 0]) (rest := []) (ks := []) (env' := []) (H' := [⟨1, b_2, [.string (bs []), .bool true]⟩]) (ps := [b_2 = b_2]) (by kernel_rfl) (And.intro rfl trivial) ?_
  refine GoO.regionEnd ?_
  exact GoO.fin (hs := []) (ps := []) (hk := [0]) (bk := []) Try.func89 () (by kernel_rfl) trivial (by kernel_rfl) (by kernel_rfl)
/-! (*tontine/tontineref03.Reader).Num -/
noncomputable def c72_0 : Code := bodyOf Try.f72
noncomputable def c72_1 : Code := cdL c72_0
noncomputable def c72_2 : Code := cdR c72_0
noncomputable def c72_3 : Code := cdL c72_2
noncomputable def c72_4 : Code := cdR c72_2
noncomputable def c72_5 : Code := cdL c72_4
noncomputable def c72_6 : Code := cdL c72_5
noncomputable def c72_7 : Code := cdR c72_5
noncomputable def c72_8 : Code := cdL c72_7
noncomputable def c72_9 : Code := cdR c72_7
noncomputable def c72_10 : Code := cdR c72_4
noncomputable def c72_11 : Code := cdL c72_10
noncomputable def c72_12 : Code := cdL c72_11
noncomputable def c72_13 : Code := cdR c72_11
noncomputable def c72_14 : Code := cdL c72_13
noncomputable def c72_15 : Code := cdL c72_14
noncomputable def c72_16 : Code := cdR c72_14
noncomputable def c72_17 : Code := cdL c72_16
noncomputable def c72_18 : Code := cdR c72_16
noncomputable def c72_19 : Code := cdR c72_13
noncomputable def c72_20 : Code := cdR c72_10
noncomputable def c72_21 : Code := cdL c72_20
noncomputable def c72_22 : Code := cdR c72_20
noncomputable def c72_23 : Code := cdL c72_22
noncomputable def c72_24 : Code := cdL c72_23
noncomputable def c72_25 : Code := cdR c72_23
noncomputable def c72_26 : Code := cdL c72_25
noncomputable def c72_27 : Code := cdL c72_26
noncomputable def c72_28 : Code := cdL c72_27
noncomputable def c72_29 : Code := cdL c72_28
noncomputable def c72_30 : Code := cdR c72_28
noncomputable def c72_31 : Code := cdL c72_30
noncomputable def c72_32 : Code := cdR c72_30
noncomputable def c72_33 : Code := cdR c72_27
noncomputable def c72_34 : Code := cdL c72_33
noncomputable def c72_35 : Code := cdL c72_34
noncomputable def c72_36 : Code := cdR c72_33
noncomputable def c72_37 : Code := cdR c72_22
noncomputable def c72_38 : Code := cdL c72_37
noncomputable def c72_39 : Code := cdR c72_37
noncomputable def c72_40 : Code := cdL c72_39
noncomputable def c72_41 : Code := cdR c72_39
noncomputable def r72_1 : Array Oper := cdO c72_1
noncomputable def r72_3 : Array Oper := cdO c72_3
noncomputable def r72_6 : Array Oper := cdO c72_6
noncomputable def r72_8 : Array Oper := cdO c72_8
noncomputable def r72_12 : Array Oper := cdO c72_12
noncomputable def r72_15 : Array Oper := cdO c72_15
noncomputable def r72_17 : Array Oper := cdO c72_17
noncomputable def r72_21 : Array Oper := cdO c72_21
noncomputable def r72_24 : Array Oper := cdO c72_24
noncomputable def r72_29 : Array Oper := cdO c72_29
noncomputable def r72_35 : Array Oper := cdO c72_35
noncomputable def r72_36 : Array Oper := cdO c72_36
noncomputable def r72_38 : Array Oper := cdO c72_38
noncomputable def r72_40 : Array Oper := cdO c72_40
theorem c72_0e : c72_0 = .seq c72_1 c72_2 := by kernel_rfl
theorem c72_1e : c72_1 = .region 0 r72_1 false := by kernel_rfl
theorem c72_2e : c72_2 = .seq c72_3 c72_4 := by kernel_rfl
theorem c72_3e : c72_3 = .region 1 r72_3 false := by kernel_rfl
theorem c72_4e : c72_4 = .seq c72_5 c72_10 := by kernel_rfl
theorem c72_5e : c72_5 = .seq c72_6 c72_7 := by kernel_rfl
theorem c72_6e : c72_6 = .region 2 r72_6 false := by kernel_rfl
theorem c72_7e : c72_7 = .cond (cdC c72_7) c72_8 c72_9 := by kernel_rfl
theorem c72_8e : c72_8 = .region 3 r72_8 false := by kernel_rfl
theorem c72_9e : c72_9 = .skip := by kernel_rfl
theorem c72_10e : c72_10 = .seq c72_11 c72_20 := by kernel_rfl
theorem c72_11e : c72_11 = .seq c72_12 c72_13 := by kernel_rfl
theorem c72_12e : c72_12 = .region 4 r72_12 false := by kernel_rfl
theorem c72_13e : c72_13 = .cond (cdC c72_13) c72_14 c72_19 := by kernel_rfl
theorem c72_14e : c72_14 = .seq c72_15 c72_16 := by kernel_rfl
theorem c72_15e : c72_15 = .region 5 r72_15 false := by kernel_rfl
theorem c72_16e : c72_16 = .seq c72_17 c72_18 := by kernel_rfl
theorem c72_17e : c72_17 = .region 6 r72_17 false := by kernel_rfl
theorem c72_18e : c72_18 = .ret := by kernel_rfl
theorem c72_19e : c72_19 = .skip := by kernel_rfl
theorem c72_20e : c72_20 = .seq c72_21 c72_22 := by kernel_rfl
theorem c72_21e : c72_21 = .region 7 r72_21 false := by kernel_rfl
theorem c72_22e : c72_22 = .seq c72_23 c72_37 := by kernel_rfl
theorem c72_23e : c72_23 = .seq c72_24 c72_25 := by kernel_rfl
theorem c72_24e : c72_24 = .region 8 r72_24 false := by kernel_rfl
theorem c72_25e : c72_25 = .block 0 c72_26 := by kernel_rfl
theorem c72_26e : c72_26 = .loop c72_27 := by kernel_rfl
theorem c72_27e : c72_27 = .seq c72_28 c72_33 := by kernel_rfl
theorem c72_28e : c72_28 = .seq c72_29 c72_30 := by kernel_rfl
theorem c72_29e : c72_29 = .region 9 r72_29 false := by kernel_rfl
theorem c72_30e : c72_30 = .cond (cdC c72_30) c72_31 c72_32 := by kernel_rfl
theorem c72_31e : c72_31 = .skip := by kernel_rfl
theorem c72_32e : c72_32 = .exit 0 := by kernel_rfl
theorem c72_33e : c72_33 = .seq c72_34 c72_36 := by kernel_rfl
theorem c72_34e : c72_34 = .block 1 c72_35 := by kernel_rfl
theorem c72_35e : c72_35 = .region 11 r72_35 false := by kernel_rfl
theorem c72_36e : c72_36 = .region 10 r72_36 false := by kernel_rfl
theorem c72_37e : c72_37 = .seq c72_38 c72_39 := by kernel_rfl
theorem c72_38e : c72_38 = .region 12 r72_38 false := by kernel_rfl
theorem c72_39e : c72_39 = .seq c72_40 c72_41 := by kernel_rfl
theorem c72_40e : c72_40 = .region 13 r72_40 false := by kernel_rfl
theorem c72_41e : c72_41 = .ret := by kernel_rfl
noncomputable def tontineref03_Reader_Num.R (b_2 : Nat) : Pst (Int × T_tontineref03_Reader) where
  ε := Unit
  v := fun r x => vU r.1
  H := fun r x => [⟨1, b_2, [.string (bs r.2.S_), .bool r.2.Bad]⟩]
  B := fun r x => []
noncomputable def tontineref03_Reader_Num.cx (b_2 : Nat) (w0 : World) (S0 : Fam) : Cx (Int × T_tontineref03_Reader) := ⟨Try.prog, 72, Try.f72, 74, w0, S0, [1], 1, tontineref03_Reader_Num.R b_2⟩
theorem tontineref03_Reader_Num_l0_ok (n : Nat) (r_1 : T_tontineref03_Reader) (n_5 : Int) (b_2 : Nat) (w0 : World) (S0 : Fam) :
    ∀ (k : Nat) (x_15 : Int) (i_16 : Int), GoO (tontineref03_Reader_Num.cx b_2 w0 S0) [(0, vP b_2), (3, vI n_5), (4, vU x_15), (5, vI i_16)] [⟨1, b_2, [.string (bs r_1.S_), .bool r_1.Bad]⟩] [] [.code c72_27, .inLoop c72_27, .inBlock 0, .code c72_37] (tontineref03_Reader_Num.l0 n r_1 n_5 k x_15 i_16) := by
  intro k
  induction k with
  | zero => intros; rw [tontineref03_Reader_Num.l0.eq_1]; exact GoO.stop
  | succ k ih0 =>
    intro x_15 i_16
    rw [tontineref03_Reader_Num.l0.eq_2]
    refine GoO.seq' c72_27e ?_
    refine GoO.seq' c72_28e ?_
    refine GoO.region' (is := [0, 1, 2]) c72_29e (by kernel_rfl) ?_
    refine GoO.exec (is := [0, 1, 2]) (hs := [.p, .p, .p]) (rest := []) (ks := [0, 3, 4, 5, 50]) (env' := [(0, vP b_2), (3, vI n_5), (4, vU x_15), (5, vI i_16), (50, .bool (decide (i_16 ≤ n_5)))]) (H' := [⟨1, b_2, [.string (bs r_1.S_), .bool r_1.Bad]⟩]) (ps := []) (by kernel_rfl) trivial ?_
    refine GoO.regionEnd ?_
    refine GoO.ite' c72_30e (by kernel_rfl) (fun h17 => ?_) (fun h17 => ?_)
    · refine GoO.skip' c72_31e ?_
      refine GoO.seq' c72_33e ?_
      refine GoO.block' c72_34e ?_
      refine GoO.region' (is := [0, 1, 2, 3, 4, 5, 6, 7, 8, 9, 10]) c72_35e (by kernel_rfl) ?_
      refine GoO.guard (fun h18 => ?_)
      refine GoO.exec (is := [0, 1, 2, 3, 4, 5, 6, 7, 8, 9, 10]) (hs := [.p, .p, .p, .p, .p, .b 0, .p, .p, .p, .p, .p]) (rest := []) (ks := [0, 3, 4, 5]) (env' := [(0, vP b_2), (3, vI n_5), (4, vU (wu64 ((wu64 (256 * x_15)) + (wu64 ((rdB r_1.S_ i_16).toNat : Int))))), (5, vI i_16)]) (H' := [⟨1, b_2, [.string (bs r_1.S_), .bool r_1.Bad]⟩]) (ps := [b_2 = b_2, (0 : Int) ≤ i_16, i_16 < (r_1.S_.length : Int)]) (by kernel_rfl) (And.intro rfl (And.intro h18.1 (And.intro h18.2 trivial))) ?_
      refine GoO.regionEnd ?_
      refine GoO.inBlock ?_
      refine GoO.region' (is := [0, 1, 2]) c72_36e (by kernel_rfl) ?_
      refine GoO.exec (is := [0, 1, 2]) (hs := [.p, .p, .p]) (rest := []) (ks := [0, 3, 4, 5]) (env' := [(0, vP b_2), (3, vI n_5), (4, vU (wu64 ((wu64 (256 * x_15)) + (wu64 ((rdB r_1.S_ i_16).toNat : Int))))), (5, vI (wi64 (i_16 + 1)))]) (H' := [⟨1, b_2, [.string (bs r_1.S_), .bool r_1.Bad]⟩]) (ps := []) (by kernel_rfl) trivial ?_
      refine GoO.regionEnd ?_
      refine GoO.inLoop ?_
      exact GoO.sub (ks := [0, 3, 4, 5]) (hk := [0]) (bk := []) (by kernel_rfl) (by kernel_rfl) (by kernel_rfl) (ih0 (wu64 ((wu64 (256 * x_15)) + (wu64 ((rdB r_1.S_ i_16).toNat : Int)))) (wi64 (i_16 + 1)))
    · refine GoO.exit' c72_32e rfl ?_
      refine GoO.seq' c72_37e ?_
      refine GoO.region' (is := [0, 1, 2, 3, 4, 5, 6, 7, 8, 9, 10]) c72_38e (by kernel_rfl) ?_
      refine GoO.guard (fun h19 => ?_)
      refine GoO.exec (is := [0, 1, 2, 3, 4, 5, 6, 7, 8, 9, 10]) (hs := [.p, .p, .p, .p, .b 0, .p, .p, .p, .p, .p, .b 0]) (rest := []) (ks := [4]) (env' := [(4, vU x_15)]) (H' := [⟨1, b_2, [.string (bs (r_1.S_.drop (wi64 (n_5 + 1)).toNat)), .bool r_1.Bad]⟩]) (ps := [b_2 = b_2, (0 : Int) ≤ (wi64 (n_5 + 1)), (wi64 (n_5 + 1)) ≤ (r_1.S_.length : Int), b_2 = b_2]) (by kernel_rfl) (And.intro rfl (And.intro h19.1 (And.intro h19.2 (And.intro rfl trivial)))) ?_
      refine GoO.regionEnd ?_
      refine GoO.seq' c72_39e ?_
      refine GoO.region' (is := [0, 1]) c72_40e (by kernel_rfl) ?_
      refine GoO.exec (is := [0, 1]) (hs := [.p, .p]) (rest := []) (ks := [2]) (env' := [(2, vU x_15)]) (H' := [⟨1, b_2, [.string (bs (r_1.S_.drop (wi64 (n_5 + 1)).toNat)), .bool r_1.Bad]⟩]) (ps := []) (by kernel_rfl) trivial ?_
      refine GoO.regionEnd ?_
      exact GoO.ret' (h := c72_41e) (hs := []) (ps := []) (hk := [0]) (bk := []) Try.func72 () (by kernel_rfl) trivial (by kernel_rfl) (by kernel_rfl)
theorem tontineref03_Reader_Num_j1_ok (n : Nat) (r_1 : T_tontineref03_Reader) (n_5 : Int) (b_2 : Nat) (w0 : World) (S0 : Fam) (b_11 : Bool) :
    GoO (tontineref03_Reader_Num.cx b_2 w0 S0) [(0, vP b_2), (3, vI n_5), (45, .bool b_11)] [⟨1, b_2, [.string (bs r_1.S_), .bool r_1.Bad]⟩] [] [.code c72_13, .code c72_20] (tontineref03_Reader_Num.j1 n r_1 n_5 b_11) := by
  unfold tontineref03_Reader_Num.j1
  refine GoO.ite' c72_13e (by kernel_rfl) (fun h12 => ?_) (fun h12 => ?_)
  · refine GoO.seq' c72_14e ?_
    refine GoO.region' (is := [0, 1]) c72_15e (by kernel_rfl) ?_
    refine GoO.exec (is := [0]) (hs := [.p]) (rest := [1]) (ks := [46]) (env' := [(46, vP b_2)]) (H' := [⟨1, b_2, [.string (bs r_1.S_), .bool r_1.Bad]⟩]) (ps := []) (by kernel_rfl) trivial ?_
    refine OpTo.go (GoO.call rfl (by kernel_rfl) (by kernel_rfl) (tontineref03_Reader_Fail_ok n r_1 b_2) [[0], [1]] [(1, 1)] [(1, 0)] [] (hks := []) (bks := []) (by kernel_rfl) (by kernel_rfl) (by kernel_rfl) (.inl rfl) rfl rfl (by kernel_rfl) (by kernel_rfl) _ (fun _ _ => rfl) _ _ (fun _ _ => rfl) (fun _ _ => rfl) (fun _ _ => by kernel_rfl) (fun _ _ => by kernel_rfl) (fun r_13 x_14 => ?_))
    refine GoO.shape (env' := [(46, vP b_2), (47, .tuple ⟨[]⟩)]) (H' := [⟨1, b_2, [.string (bs r_13.S_), .bool r_13.Bad]⟩]) (B' := []) (ks := [46, 47]) (by kernel_rfl) (by kernel_rfl) (by kernel_rfl) ?_
    refine GoO.regionEnd ?_
    refine GoO.seq' c72_16e ?_
    refine GoO.region' (is := [0]) c72_17e (by kernel_rfl) ?_
    refine GoO.exec (is := [0]) (hs := [.p]) (rest := []) (ks := [2]) (env' := [(2, vU 0)]) (H' := [⟨1, b_2, [.string (bs r_13.S_), .bool r_13.Bad]⟩]) (ps := []) (by kernel_rfl) trivial ?_
    refine GoO.regionEnd ?_
    exact GoO.ret' (h := c72_18e) (hs := []) (ps := []) (hk := [0]) (bk := []) Try.func72 () (by kernel_rfl) trivial (by kernel_rfl) (by kernel_rfl)
  · refine GoO.skip' c72_19e ?_
    refine GoO.seq' c72_20e ?_
    refine GoO.region' (is := [0]) c72_21e (by kernel_rfl) ?_
    refine GoO.exec (is := [0]) (hs := [.p]) (rest := []) (ks := [0, 3, 4]) (env' := [(0, vP b_2), (3, vI n_5), (4, vU 0)]) (H' := [⟨1, b_2, [.string (bs r_1.S_), .bool r_1.Bad]⟩]) (ps := []) (by kernel_rfl) trivial ?_
    refine GoO.regionEnd ?_
    refine GoO.seq' c72_22e ?_
    refine GoO.seq' c72_23e ?_
    refine GoO.region' (is := [0]) c72_24e (by kernel_rfl) ?_
    refine GoO.exec (is := [0]) (hs := [.p]) (rest := []) (ks := [0, 3, 4, 5]) (env' := [(0, vP b_2), (3, vI n_5), (4, vU 0), (5, vI 1)]) (H' := [⟨1, b_2, [.string (bs r_1.S_), .bool r_1.Bad]⟩]) (ps := []) (by kernel_rfl) trivial ?_
    refine GoO.regionEnd ?_
    refine GoO.block' c72_25e ?_
    refine GoO.loop' c72_26e ?_
    exact GoO.sub (ks := [0, 3, 4, 5]) (hk := [0]) (bk := []) (by kernel_rfl) (by kernel_rfl) (by kernel_rfl) (tontineref03_Reader_Num_l0_ok n r_1 n_5 b_2 w0 S0 n 0 1)
theorem tontineref03_Reader_Num_j0_ok (n : Nat) (r_1 : T_tontineref03_Reader) (b_2 : Nat) (w0 : World) (S0 : Fam) (n_5 : Int) :
    GoO (tontineref03_Reader_Num.cx b_2 w0 S0) [(0, vP b_2), (3, vI n_5)] [⟨1, b_2, [.string (bs r_1.S_), .bool r_1.Bad]⟩] [] [.code c72_10] (tontineref03_Reader_Num.j0 n r_1 n_5) := by
  unfold tontineref03_Reader_Num.j0
  refine GoO.seq' c72_10e ?_
  refine GoO.seq' c72_11e ?_
  refine GoO.region' (is := [0, 1, 2, 3, 4, 5, 6, 7, 8, 9, 10, 11, 12, 13, 14, 15, 16, 17, 18, 19, 20, 21, 22, 23, 24, 25, 26, 27]) c72_12e (by kernel_rfl) ?_
  refine GoO.exec (is := [0, 1, 2]) (hs := [.p, .p, .p]) (rest := [3, 4, 5, 6, 7, 8, 9, 10, 11, 12, 13, 14, 15, 16, 17, 18, 19, 20, 21, 22, 23, 24, 25, 26, 27]) (ks := [0, 3, 20]) (env' := [(0, vP b_2), (3, vI n_5), (20, .bool (decide (n_5 < 0)))]) (H' := [⟨1, b_2, [.string (bs r_1.S_), .bool r_1.Bad]⟩]) (ps := []) (by kernel_rfl) trivial ?_
  refine GoO.bsplit (t := 20) (by kernel_rfl) (fun h6 => ?_) (fun h6 => ?_)
  · refine GoO.exec (is := [3, 4, 5, 6, 7, 8, 9, 10, 11, 12, 13, 14, 15, 16, 17, 18, 19, 20, 21, 22, 23, 24, 25, 26, 27]) (hs := [.p, .p, .p, .p, .p, .p, .p, .p, .p, .p, .p, .p, .p, .p, .p, .p, .p, .p, .p, .p, .p, .p, .p, .p, .p]) (rest := []) (ks := [0, 3, 45]) (env' := [(0, vP b_2), (3, vI n_5), (45, .bool true)]) (H' := [⟨1, b_2, [.string (bs r_1.S_), .bool r_1.Bad]⟩]) (ps := []) (by kernel_rfl) trivial ?_
    refine GoO.regionEnd ?_
    exact GoO.sub (ks := [0, 3, 45]) (hk := [0]) (bk := []) (by kernel_rfl) (by kernel_rfl) (by kernel_rfl) (tontineref03_Reader_Num_j1_ok n r_1 n_5 b_2 w0 S0 true)
  · refine GoO.exec (is := [3, 4, 5, 6]) (hs := [.p, .p, .p, .p]) (rest := [7, 8, 9, 10, 11, 12, 13, 14, 15, 16, 17, 18, 19, 20, 21, 22, 23, 24, 25, 26, 27]) (ks := [0, 3, 24]) (env' := [(0, vP b_2), (3, vI n_5), (24, .bool (decide (n_5 > 8)))]) (H' := [⟨1, b_2, [.string (bs r_1.S_), .bool r_1.Bad]⟩]) (ps := []) (by kernel_rfl) trivial ?_
    refine GoO.bsplit (t := 24) (by kernel_rfl) (fun h7 => ?_) (fun h7 => ?_)
    · refine GoO.exec (is := [7, 8, 9, 10, 11, 12, 13, 14, 15, 16, 17, 18, 19, 20, 21, 22, 23, 24, 25, 26, 27]) (hs := [.p, .p, .p, .p, .p, .p, .p, .p, .p, .p, .p, .p, .p, .p, .p, .p, .p, .p, .p, .p, .p]) (rest := []) (ks := [0, 3, 45]) (env' := [(0, vP b_2), (3, vI n_5), (45, .bool true)]) (H' := [⟨1, b_2, [.string (bs r_1.S_), .bool r_1.Bad]⟩]) (ps := []) (by kernel_rfl) trivial ?_
      refine GoO.regionEnd ?_
      exact GoO.sub (ks := [0, 3, 45]) (hk := [0]) (bk := []) (by kernel_rfl) (by kernel_rfl) (by kernel_rfl) (tontineref03_Reader_Num_j1_ok n r_1 n_5 b_2 w0 S0 true)
    · refine GoO.exec (is := [7, 8, 9, 10, 11, 12, 13, 14, 15, 16]) (hs := [.p, .p, .p, .b 0, .p, .p, .p, .p, .p, .p]) (rest := [17, 18, 19, 20, 21, 22, 23, 24, 25, 26, 27]) (ks := [0, 3, 34]) (env' := [(0, vP b_2), (3, vI n_5), (34, .bool (decide ((r_1.S_.length : Int) < (wi64 (n_5 + 1)))))]) (H' := [⟨1, b_2, [.string (bs r_1.S_), .bool r_1.Bad]⟩]) (ps := [b_2 = b_2]) (by kernel_rfl) (And.intro rfl trivial) ?_
      refine GoO.bsplit (t := 34) (by kernel_rfl) (fun h8 => ?_) (fun h8 => ?_)
      · refine GoO.exec (is := [17, 18, 19, 20, 21, 22, 23, 24, 25, 26, 27]) (hs := [.p, .p, .p, .p, .p, .p, .p, .p, .p, .p, .p]) (rest := []) (ks := [0, 3, 45]) (env' := [(0, vP b_2), (3, vI n_5), (45, .bool true)]) (H' := [⟨1, b_2, [.string (bs r_1.S_), .bool r_1.Bad]⟩]) (ps := []) (by kernel_rfl) trivial ?_
        refine GoO.regionEnd ?_
        exact GoO.sub (ks := [0, 3, 45]) (hk := [0]) (bk := []) (by kernel_rfl) (by kernel_rfl) (by kernel_rfl) (tontineref03_Reader_Num_j1_ok n r_1 n_5 b_2 w0 S0 true)
      · refine GoO.exec (is := [17, 18, 19]) (hs := [.p, .p, .p]) (rest := [20, 21, 22, 23, 24, 25, 26, 27]) (ks := [0, 3, 34, 37]) (env' := [(0, vP b_2), (3, vI n_5), (34, .bool false), (37, .bool (decide (n_5 > 0)))]) (H' := [⟨1, b_2, [.string (bs r_1.S_), .bool r_1.Bad]⟩]) (ps := []) (by kernel_rfl) trivial ?_
        refine GoO.bsplit (t := 37) (by kernel_rfl) (fun h9 => ?_) (fun h9 => ?_)
        · refine GoO.guard (fun h10 => ?_)
          refine GoO.exec (is := [20, 21, 22, 23, 24, 25, 26, 27]) (hs := [.p, .p, .p, .b 0, .p, .p, .p, .p]) (rest := []) (ks := [0, 3, 45]) (env' := [(0, vP b_2), (3, vI n_5), (45, .bool (((rdB r_1.S_ 1).toNat : Int) == 0))]) (H' := [⟨1, b_2, [.string (bs r_1.S_), .bool r_1.Bad]⟩]) (ps := [b_2 = b_2, (0 : Int) ≤ 1, 1 < (r_1.S_.length : Int)]) (by kernel_rfl) (And.intro rfl (And.intro h10.1 (And.intro h10.2 trivial))) ?_
          refine GoO.regionEnd ?_
          exact GoO.sub (ks := [0, 3, 45]) (hk := [0]) (bk := []) (by kernel_rfl) (by kernel_rfl) (by kernel_rfl) (tontineref03_Reader_Num_j1_ok n r_1 n_5 b_2 w0 S0 (((rdB r_1.S_ 1).toNat : Int) == 0))
        · refine GoO.exec (is := [20, 21, 22, 23, 24, 25, 26, 27]) (hs := [.p, .p, .p, .p, .p, .p, .p, .p]) (rest := []) (ks := [0, 3, 45]) (env' := [(0, vP b_2), (3, vI n_5), (45, .bool false)]) (H' := [⟨1, b_2, [.string (bs r_1.S_), .bool r_1.Bad]⟩]) (ps := []) (by kernel_rfl) trivial ?_
          refine GoO.regionEnd ?_
          exact GoO.sub (ks := [0, 3, 45]) (hk := [0]) (bk := []) (by kernel_rfl) (by kernel_rfl) (by kernel_rfl) (tontineref03_Reader_Num_j1_ok n r_1 n_5 b_2 w0 S0 false)
theorem tontineref03_Reader_Num_ok (n : Nat) (r_1 : T_tontineref03_Reader) (b_2 : Nat) :
    Meets Try.prog 72 [vP b_2] 1 [1] [⟨1, b_2, [.string (bs r_1.S_), .bool r_1.Bad]⟩] [] (tontineref03_Reader_Num.f n r_1) (tontineref03_Reader_Num.R b_2) := by
  refine Meets.of (c := c72_0) (n := 74) Try.func72 (by kernel_rfl) (by kernel_rfl) (by kernel_rfl) fun w0 S0 => ?_
  unfold tontineref03_Reader_Num.f
  show GoO (tontineref03_Reader_Num.cx b_2 w0 S0) [(0, vP b_2)] [⟨1, b_2, [.string (bs r_1.S_), .bool r_1.Bad]⟩] [] [.code c72_0] _
  refine GoO.seq' c72_0e ?_
  refine GoO.region' (is := [0]) c72_1e (by kernel_rfl) ?_
  refine GoO.exec (is := [0]) (hs := [.p]) (rest := []) (ks := [0]) (env' := [(0, vP b_2)]) (H' := [⟨1, b_2, [.string (bs r_1.S_), .bool r_1.Bad]⟩]) (ps := []) (by kernel_rfl) trivial ?_
  refine GoO.regionEnd ?_
  refine GoO.seq' c72_2e ?_
  refine GoO.region' (is := [0]) c72_3e (by kernel_rfl) ?_
  refine GoO.exec (is := [0]) (hs := [.p]) (rest := []) (ks := [0, 3]) (env' := [(0, vP b_2), (3, vI (-1))]) (H' := [⟨1, b_2, [.string (bs r_1.S_), .bool r_1.Bad]⟩]) (ps := []) (by kernel_rfl) trivial ?_
  refine GoO.regionEnd ?_
  refine GoO.seq' c72_4e ?_
  refine GoO.seq' c72_5e ?_
  refine GoO.region' (is := [0, 1, 2, 3, 4, 5]) c72_6e (by kernel_rfl) ?_
  refine GoO.exec (is := [0, 1, 2, 3, 4, 5]) (hs := [.p, .p, .p, .b 0, .p, .p]) (rest := []) (ks := [0, 3, 11]) (env' := [(0, vP b_2), (3, vI (-1)), (11, .bool (decide ((r_1.S_.length : Int) > 0)))]) (H' := [⟨1, b_2, [.string (bs r_1.S_), .bool r_1.Bad]⟩]) (ps := [b_2 = b_2]) (by kernel_rfl) (And.intro rfl trivial) ?_
  refine GoO.regionEnd ?_
  refine GoO.ite' c72_7e (by kernel_rfl) (fun h3 => ?_) (fun h3 => ?_)
  · refine GoO.region' (is := [0, 1, 2, 3, 4, 5, 6]) c72_8e (by kernel_rfl) ?_
    refine GoO.guard (fun h4 => ?_)
    refine GoO.exec (is := [0, 1, 2, 3, 4, 5, 6]) (hs := [.p, .p, .p, .b 0, .p, .p, .p]) (rest := []) (ks := [0, 3]) (env' := [(0, vP b_2), (3, vI (wi64 ((rdB r_1.S_ 0).toNat : Int)))]) (H' := [⟨1, b_2, [.string (bs r_1.S_), .bool r_1.Bad]⟩]) (ps := [b_2 = b_2, (0 : Int) ≤ 0, 0 < (r_1.S_.length : Int)]) (by kernel_rfl) (And.intro rfl (And.intro h4.1 (And.intro h4.2 trivial))) ?_
    refine GoO.regionEnd ?_
    exact GoO.sub (ks := [0, 3]) (hk := [0]) (bk := []) (by kernel_rfl) (by kernel_rfl) (by kernel_rfl) (tontineref03_Reader_Num_j0_ok n r_1 b_2 w0 S0 (wi64 ((rdB r_1.S_ 0).toNat : Int)))
  · refine GoO.skip' c72_9e ?_
    exact GoO.sub (ks := [0, 3]) (hk := [0]) (bk := []) (by kernel_rfl) (by kernel_rfl) (by kernel_rfl) (tontineref03_Reader_Num_j0_ok n r_1 b_2 w0 S0 (-1))
/-! (*tontine/tontineref03.Reader).Up -/
noncomputable def c71_0 : Code := bodyOf Try.f71
noncomputable def c71_1 : Code := cdL c71_0
noncomputable def c71_2 : Code := cdR c71_0
noncomputable def c71_3 : Code := cdL c71_2
noncomputable def c71_4 : Code := cdR c71_2
noncomputable def c71_5 : Code := cdL c71_4
noncomputable def c71_6 : Code := cdL c71_5
noncomputable def c71_7 : Code := cdR c71_5
noncomputable def c71_8 : Code := cdL c71_7
noncomputable def c71_9 : Code := cdL c71_8
noncomputable def c71_10 : Code := cdR c71_8
noncomputable def c71_11 : Code := cdL c71_10
noncomputable def c71_12 : Code := cdR c71_10
noncomputable def c71_13 : Code := cdR c71_7
noncomputable def c71_14 : Code := cdR c71_4
noncomputable def c71_15 : Code := cdL c71_14
noncomputable def c71_16 : Code := cdR c71_14
noncomputable def r71_1 : Array Oper := cdO c71_1
noncomputable def r71_3 : Array Oper := cdO c71_3
noncomputable def r71_6 : Array Oper := cdO c71_6
noncomputable def r71_9 : Array Oper := cdO c71_9
noncomputable def r71_11 : Array Oper := cdO c71_11
noncomputable def r71_15 : Array Oper := cdO c71_15
theorem c71_0e : c71_0 = .seq c71_1 c71_2 := by kernel_rfl
theorem c71_1e : c71_1 = .region 0 r71_1 false := by kernel_rfl
theorem c71_2e : c71_2 = .seq c71_3 c71_4 := by kernel_rfl
theorem c71_3e : c71_3 = .region 1 r71_3 false := by kernel_rfl
theorem c71_4e : c71_4 = .seq c71_5 c71_14 := by kernel_rfl
theorem c71_5e : c71_5 = .seq c71_6 c71_7 := by kernel_rfl
theorem c71_6e : c71_6 = .region 2 r71_6 false := by kernel_rfl
theorem c71_7e : c71_7 = .cond (cdC c71_7) c71_8 c71_13 := by kernel_rfl
theorem c71_8e : c71_8 = .seq c71_9 c71_10 := by kernel_rfl
theorem c71_9e : c71_9 = .region 3 r71_9 false := by kernel_rfl
theorem c71_10e : c71_10 = .seq c71_11 c71_12 := by kernel_rfl
theorem c71_11e : c71_11 = .region 4 r71_11 false := by kernel_rfl
theorem c71_12e : c71_12 = .ret := by kernel_rfl
theorem c71_13e : c71_13 = .skip := by kernel_rfl
theorem c71_14e : c71_14 = .seq c71_15 c71_16 := by kernel_rfl
theorem c71_15e : c71_15 = .region 5 r71_15 false := by kernel_rfl
theorem c71_16e : c71_16 = .ret := by kernel_rfl
noncomputable def tontineref03_Reader_Up.R (b_2 : Nat) : Pst (Int × T_tontineref03_Reader) where
  ε := Unit
  v := fun r x => vI r.1
  H := fun r x => [⟨1, b_2, [.string (bs r.2.S_), .bool r.2.Bad]⟩]
  B := fun r x => []
noncomputable def tontineref03_Reader_Up.cx (b_2 : Nat) (w0 : World) (S0 : Fam) : Cx (Int × T_tontineref03_Reader) := ⟨Try.prog, 71, Try.f71, 20, w0, S0, [1], 1, tontineref03_Reader_Up.R b_2⟩
theorem tontineref03_Reader_Up_j0_ok (n : Nat) (r_4 : Int × T_tontineref03_Reader) (b_2 : Nat) (w0 : World) (S0 : Fam) (b_6 : Bool) :
    GoO (tontineref03_Reader_Up.cx b_2 w0 S0) [(0, vP b_2), (5, vU r_4.1), (15, .bool b_6)] [⟨1, b_2, [.string (bs r_4.2.S_), .bool r_4.2.Bad]⟩] [] [.code c71_7, .code c71_14] (tontineref03_Reader_Up.j0 n r_4 b_6) := by
  unfold tontineref03_Reader_Up.j0
  refine GoO.ite' c71_7e (by kernel_rfl) (fun h7 => ?_) (fun h7 => ?_)
  · refine GoO.seq' c71_8e ?_
    refine GoO.region' (is := [0, 1]) c71_9e (by kernel_rfl) ?_
    refine GoO.exec (is := [0]) (hs := [.p]) (rest := [1]) (ks := [16]) (env' := [(16, vP b_2)]) (H' := [⟨1, b_2, [.string (bs r_4.2.S_), .bool r_4.2.Bad]⟩]) (ps := []) (by kernel_rfl) trivial ?_
    refine OpTo.go (GoO.call rfl (by kernel_rfl) (by kernel_rfl) (tontineref03_Reader_Fail_ok n r_4.2 b_2) [[0], [1]] [(1, 1)] [(1, 0)] [] (hks := []) (bks := []) (by kernel_rfl) (by kernel_rfl) (by kernel_rfl) (.inl rfl) rfl rfl (by kernel_rfl) (by kernel_rfl) _ (fun _ _ => rfl) _ _ (fun _ _ => rfl) (fun _ _ => rfl) (fun _ _ => by kernel_rfl) (fun _ _ => by kernel_rfl) (fun r_8 x_9 => ?_))
    refine GoO.shape (env' := [(16, vP b_2), (17, .tuple ⟨[]⟩)]) (H' := [⟨1, b_2, [.string (bs r_8.S_), .bool r_8.Bad]⟩]) (B' := []) (ks := [16, 17]) (by kernel_rfl) (by kernel_rfl) (by kernel_rfl) ?_
    refine GoO.regionEnd ?_
    refine GoO.seq' c71_10e ?_
    refine GoO.region' (is := [0]) c71_11e (by kernel_rfl) ?_
    refine GoO.exec (is := [0]) (hs := [.p]) (rest := []) (ks := [4]) (env' := [(4, vI 0)]) (H' := [⟨1, b_2, [.string (bs r_8.S_), .bool r_8.Bad]⟩]) (ps := []) (by kernel_rfl) trivial ?_
    refine GoO.regionEnd ?_
    exact GoO.ret' (h := c71_12e) (hs := []) (ps := []) (hk := [0]) (bk := []) Try.func71 () (by kernel_rfl) trivial (by kernel_rfl) (by kernel_rfl)
  · refine GoO.skip' c71_13e ?_
    refine GoO.seq' c71_14e ?_
    refine GoO.region' (is := [0, 1, 2]) c71_15e (by kernel_rfl) ?_
    refine GoO.exec (is := [0, 1, 2]) (hs := [.p, .p, .p]) (rest := []) (ks := [4]) (env' := [(4, vI (wi64 r_4.1))]) (H' := [⟨1, b_2, [.string (bs r_4.2.S_), .bool r_4.2.Bad]⟩]) (ps := []) (by kernel_rfl) trivial ?_
    refine GoO.regionEnd ?_
    exact GoO.ret' (h := c71_16e) (hs := []) (ps := []) (hk := [0]) (bk := []) Try.func71 () (by kernel_rfl) trivial (by kernel_rfl) (by kernel_rfl)
theorem tontineref03_Reader_Up_ok (n : Nat) (r_1 : T_tontineref03_Reader) (limit_3 : Int) (b_2 : Nat) :
    Meets Try.prog 71 [vP b_2, vI limit_3] 1 [1] [⟨1, b_2, [.string (bs r_1.S_), .bool r_1.Bad]⟩] [] (tontineref03_Reader_Up.f n r_1 limit_3) (tontineref03_Reader_Up.R b_2) := by
  refine Meets.of (c := c71_0) (n := 20) Try.func71 (by kernel_rfl) (by kernel_rfl) (by kernel_rfl) fun w0 S0 => ?_
  unfold tontineref03_Reader_Up.f
  show GoO (tontineref03_Reader_Up.cx b_2 w0 S0) [(0, vP b_2), (1, vI limit_3)] [⟨1, b_2, [.string (bs r_1.S_), .bool r_1.Bad]⟩] [] [.code c71_0] _
  refine GoO.seq' c71_0e ?_
  refine GoO.region' (is := [0]) c71_1e (by kernel_rfl) ?_
  refine GoO.exec (is := [0]) (hs := [.p]) (rest := []) (ks := [0, 1]) (env' := [(0, vP b_2), (1, vI limit_3)]) (H' := [⟨1, b_2, [.string (bs r_1.S_), .bool r_1.Bad]⟩]) (ps := []) (by kernel_rfl) trivial ?_
  refine GoO.regionEnd ?_
  refine GoO.seq' c71_2e ?_
  refine GoO.region' (is := [0, 1, 2]) c71_3e (by kernel_rfl) ?_
  refine GoO.exec (is := [0]) (hs := [.p]) (rest := [1, 2]) (ks := [0, 1, 6]) (env' := [(0, vP b_2), (1, vI limit_3), (6, vP b_2)]) (H' := [⟨1, b_2, [.string (bs r_1.S_), .bool r_1.Bad]⟩]) (ps := []) (by kernel_rfl) trivial ?_
  refine OpTo.go (GoO.call rfl (by kernel_rfl) (by kernel_rfl) (tontineref03_Reader_Num_ok n r_1 b_2) [[0], [1]] [(1, 1)] [(1, 0)] [] (hks := []) (bks := []) (by kernel_rfl) (by kernel_rfl) (by kernel_rfl) (.inl rfl) rfl rfl (by kernel_rfl) (by kernel_rfl) _ (fun _ _ => rfl) _ _ (fun _ _ => rfl) (fun _ _ => rfl) (fun _ _ => by kernel_rfl) (fun _ _ => by kernel_rfl) (fun r_4 x_10 => ?_))
  refine GoO.shape (env' := [(0, vP b_2), (1, vI limit_3), (6, vP b_2), (7, vU r_4.1)]) (H' := [⟨1, b_2, [.string (bs r_4.2.S_), .bool r_4.2.Bad]⟩]) (B' := []) (ks := [0, 1, 6, 7]) (by kernel_rfl) (by kernel_rfl) (by kernel_rfl) ?_
  refine GoO.exec (is := [2]) (hs := [.p]) (rest := []) (ks := [0, 1, 5]) (env' := [(0, vP b_2), (1, vI limit_3), (5, vU r_4.1)]) (H' := [⟨1, b_2, [.string (bs r_4.2.S_), .bool r_4.2.Bad]⟩]) (ps := []) (by kernel_rfl) trivial ?_
  refine GoO.regionEnd ?_
  refine GoO.seq' c71_4e ?_
  refine GoO.seq' c71_5e ?_
  refine GoO.region' (is := [0, 1, 2, 3, 4, 5, 6, 7]) c71_6e (by kernel_rfl) ?_
  refine GoO.exec (is := [0, 1, 2]) (hs := [.p, .p, .p]) (rest := [3, 4, 5, 6, 7]) (ks := [0, 1, 5, 10]) (env' := [(0, vP b_2), (1, vI limit_3), (5, vU r_4.1), (10, .bool (decide (limit_3 < 0)))]) (H' := [⟨1, b_2, [.string (bs r_4.2.S_), .bool r_4.2.Bad]⟩]) (ps := []) (by kernel_rfl) trivial ?_
  refine GoO.bsplit (t := 10) (by kernel_rfl) (fun h5 => ?_) (fun h5 => ?_)
  · refine GoO.exec (is := [3, 4, 5, 6, 7]) (hs := [.p, .p, .p, .p, .p]) (rest := []) (ks := [0, 5, 15]) (env' := [(0, vP b_2), (5, vU r_4.1), (15, .bool true)]) (H' := [⟨1, b_2, [.string (bs r_4.2.S_), .bool r_4.2.Bad]⟩]) (ps := []) (by kernel_rfl) trivial ?_
    refine GoO.regionEnd ?_
    exact GoO.sub (ks := [0, 5, 15]) (hk := [0]) (bk := []) (by kernel_rfl) (by kernel_rfl) (by kernel_rfl) (tontineref03_Reader_Up_j0_ok n r_4 b_2 w0 S0 true)
  · refine GoO.exec (is := [3, 4, 5, 6, 7]) (hs := [.p, .p, .p, .p, .p]) (rest := []) (ks := [0, 5, 15]) (env' := [(0, vP b_2), (5, vU r_4.1), (15, .bool (decide (r_4.1 > (wu64 limit_3))))]) (H' := [⟨1, b_2, [.string (bs r_4.2.S_), .bool r_4.2.Bad]⟩]) (ps := []) (by kernel_rfl) trivial ?_
    refine GoO.regionEnd ?_
    exact GoO.sub (ks := [0, 5, 15]) (hk := [0]) (bk := []) (by kernel_rfl) (by kernel_rfl) (by kernel_rfl) (tontineref03_Reader_Up_j0_ok n r_4 b_2 w0 S0 (decide (r_4.1 > (wu64 limit_3))))
/-! tontine/tontineref16.Said -/
noncomputable def c51_0 : Code := bodyOf Try.f51
noncomputable def c51_1 : Code := cdL c51_0
noncomputable def c51_2 : Code := cdR c51_0
noncomputable def c51_3 : Code := cdL c51_2
noncomputable def c51_4 : Code := cdR c51_2
noncomputable def c51_5 : Code := cdL c51_4
noncomputable def c51_6 : Code := cdR c51_4
noncomputable def c51_7 : Code := cdL c51_6
noncomputable def c51_8 : Code := cdR c51_6
noncomputable def c51_9 : Code := cdL c51_8
noncomputable def c51_10 : Code := cdR c51_8
noncomputable def c51_11 : Code := cdL c51_10
noncomputable def c51_12 : Code := cdL c51_11
noncomputable def c51_13 : Code := cdR c51_11
noncomputable def c51_14 : Code := cdL c51_13
noncomputable def c51_15 : Code := cdL c51_14
noncomputable def c51_16 : Code := cdR c51_14
noncomputable def c51_17 : Code := cdR c51_13
noncomputable def c51_18 : Code := cdR c51_10
noncomputable def c51_19 : Code := cdL c51_18
noncomputable def c51_20 : Code := cdR c51_18
noncomputable def r51_1 : Array Oper := cdO c51_1
noncomputable def r51_3 : Array Oper := cdO c51_3
noncomputable def r51_5 : Array Oper := cdO c51_5
noncomputable def r51_7 : Array Oper := cdO c51_7
noncomputable def r51_9 : Array Oper := cdO c51_9
noncomputable def r51_12 : Array Oper := cdO c51_12
noncomputable def r51_15 : Array Oper := cdO c51_15
noncomputable def r51_19 : Array Oper := cdO c51_19
theorem c51_0e : c51_0 = .seq c51_1 c51_2 := by kernel_rfl
theorem c51_1e : c51_1 = .region 0 r51_1 false := by kernel_rfl
theorem c51_2e : c51_2 = .seq c51_3 c51_4 := by kernel_rfl
theorem c51_3e : c51_3 = .region 1 r51_3 false := by kernel_rfl
theorem c51_4e : c51_4 = .seq c51_5 c51_6 := by kernel_rfl
theorem c51_5e : c51_5 = .region 2 r51_5 false := by kernel_rfl
theorem c51_6e : c51_6 = .seq c51_7 c51_8 := by kernel_rfl
theorem c51_7e : c51_7 = .region 3 r51_7 false := by kernel_rfl
theorem c51_8e : c51_8 = .seq c51_9 c51_10 := by kernel_rfl
theorem c51_9e : c51_9 = .region 4 r51_9 false := by kernel_rfl
theorem c51_10e : c51_10 = .seq c51_11 c51_18 := by kernel_rfl
theorem c51_11e : c51_11 = .seq c51_12 c51_13 := by kernel_rfl
theorem c51_12e : c51_12 = .region 5 r51_12 false := by kernel_rfl
theorem c51_13e : c51_13 = .cond (cdC c51_13) c51_14 c51_17 := by kernel_rfl
theorem c51_14e : c51_14 = .seq c51_15 c51_16 := by kernel_rfl
theorem c51_15e : c51_15 = .region 6 r51_15 false := by kernel_rfl
theorem c51_16e : c51_16 = .ret := by kernel_rfl
theorem c51_17e : c51_17 = .skip := by kernel_rfl
theorem c51_18e : c51_18 = .seq c51_19 c51_20 := by kernel_rfl
theorem c51_19e : c51_19 = .region 7 r51_19 false := by kernel_rfl
theorem c51_20e : c51_20 = .ret := by kernel_rfl
noncomputable def tontineref16_Said.R : Pst (T_api_Reply × Int) where
  ε := Unit
  v := fun r x => .tuple ⟨[.agg ⟨[vI r.1.Err, vU r.1.Num, vU r.1.Extra]⟩, vI r.2]⟩
  H := fun r x => []
  B := fun r x => []
noncomputable def tontineref16_Said.cx (w0 : World) (S0 : Fam) : Cx (T_api_Reply × Int) := ⟨Try.prog, 51, Try.f51, 31, w0, S0, [], 0, tontineref16_Said.R⟩
theorem tontineref16_Said_ok (n : Nat) (s_1 : (List UInt8)) :
    Meets Try.prog 51 [.string (bs s_1)] 0 [] [] [] (tontineref16_Said.f n s_1) (tontineref16_Said.R) := by
  refine Meets.of (c := c51_0) (n := 31) Try.func51 (by kernel_rfl) (by kernel_rfl) (by kernel_rfl) fun w0 S0 => ?_
  unfold tontineref16_Said.f
  show GoO (tontineref16_Said.cx w0 S0) [(0, .string (bs s_1))] [] [] [.code c51_0] _
  refine GoO.seq' c51_0e ?_
  refine GoO.region' (is := [0, 1]) c51_1e (by kernel_rfl) ?_
  refine OpTo.go (GoO.new rfl 40 (cs := [vI 0, vU 0, vU 0]) (by kernel_rfl) _ (fun _ => rfl) (fun b_2 => ?_))
  refine GoO.exec (is := [1]) (hs := [.p]) (rest := []) (ks := [0, 2]) (env' := [(0, .string (bs s_1)), (2, vP b_2)]) (H' := [⟨40, b_2, [vI 0, vU 0, vU 0]⟩]) (ps := []) (by kernel_rfl) trivial ?_
  refine GoO.regionEnd ?_
  refine GoO.seq' c51_2e ?_
  refine GoO.region' (is := [0, 1, 2, 3]) c51_3e (by kernel_rfl) ?_
  refine GoO.exec (is := [0, 1]) (hs := [.p, .p]) (rest := [2, 3]) (ks := [2, 7]) (env' := [(2, vP b_2), (7, .agg ⟨[.string (bs s_1), .bool false]⟩)]) (H' := [⟨40, b_2, [vI 0, vU 0, vU 0]⟩]) (ps := []) (by kernel_rfl) trivial ?_
  refine OpTo.go (GoO.new rfl 41 (cs := [.string (bs s_1), .bool false]) (by kernel_rfl) _ (fun _ => rfl) (fun b_3 => ?_))
  refine GoO.exec (is := [3]) (hs := [.p]) (rest := []) (ks := [2, 4]) (env' := [(2, vP b_2), (4, vP b_3)]) (H' := [⟨41, b_3, [.string (bs s_1), .bool false]⟩, ⟨40, b_2, [vI 0, vU 0, vU 0]⟩]) (ps := []) (by kernel_rfl) trivial ?_
  refine GoO.regionEnd ?_
  refine GoO.seq' c51_4e ?_
  refine GoO.region' (is := [0, 1, 2, 3, 4]) c51_5e (by kernel_rfl) ?_
  refine GoO.exec (is := [0]) (hs := [.p]) (rest := [1, 2, 3, 4]) (ks := [2, 4, 9]) (env' := [(2, vP b_2), (4, vP b_3), (9, vP b_3)]) (H' := [⟨41, b_3, [.string (bs s_1), .bool false]⟩, ⟨40, b_2, [vI 0, vU 0, vU 0]⟩]) (ps := []) (by kernel_rfl) trivial ?_
  refine OpTo.go (GoO.call rfl (by kernel_rfl) (by kernel_rfl) (tontineref03_Reader_Up_ok n (⟨s_1, false⟩ : T_tontineref03_Reader) 52 b_3) [[0], [41]] [(41, 1)] [(1, 0)] [] (hks := [1]) (bks := []) (by kernel_rfl) (by kernel_rfl) (by kernel_rfl) (.inl rfl) rfl rfl (by kernel_rfl) (by kernel_rfl) _ (fun _ _ => rfl) _ _ (fun _ _ => rfl) (fun _ _ => rfl) (fun _ _ => by kernel_rfl) (fun _ _ => by kernel_rfl) (fun r_4 x_12 => ?_))
  refine GoO.shape (env' := [(2, vP b_2), (4, vP b_3), (9, vP b_3), (10, vI r_4.1)]) (H' := [⟨41, b_3, [.string (bs r_4.2.S_), .bool r_4.2.Bad]⟩, ⟨40, b_2, [vI 0, vU 0, vU 0]⟩]) (B' := []) (ks := [2, 4, 9, 10]) (by kernel_rfl) (by kernel_rfl) (by kernel_rfl) ?_
  refine GoO.exec (is := [2]) (hs := [.p]) (rest := [3, 4]) (ks := [2, 4, 11]) (env' := [(2, vP b_2), (4, vP b_3), (11, .agg ⟨[vI r_4.1, vU 0, vU 0]⟩)]) (H' := [⟨41, b_3, [.string (bs r_4.2.S_), .bool r_4.2.Bad]⟩, ⟨40, b_2, [vI 0, vU 0, vU 0]⟩]) (ps := []) (by kernel_rfl) trivial ?_
  refine OpTo.go (GoO.new rfl 42 (cs := [vI 0, vU 0, vU 0]) (by kernel_rfl) _ (fun _ => rfl) (fun b_5 => ?_))
  refine GoO.exec (is := [4]) (hs := [.b 0]) (rest := []) (ks := [2, 4, 5]) (env' := [(2, vP b_2), (4, vP b_3), (5, vP b_5)]) (H' := [⟨42, b_5, [vI r_4.1, vU 0, vU 0]⟩, ⟨41, b_3, [.string (bs r_4.2.S_), .bool r_4.2.Bad]⟩, ⟨40, b_2, [vI 0, vU 0, vU 0]⟩]) (ps := [b_5 = b_5]) (by kernel_rfl) (And.intro rfl trivial) ?_
  refine GoO.regionEnd ?_
  refine GoO.seq' c51_6e ?_
  refine GoO.region' (is := [0, 1, 2, 3]) c51_7e (by kernel_rfl) ?_
  refine GoO.exec (is := [0]) (hs := [.p]) (rest := [1, 2, 3]) (ks := [2, 4, 5, 12]) (env' := [(2, vP b_2), (4, vP b_3), (5, vP b_5), (12, vP b_3)]) (H' := [⟨42, b_5, [vI r_4.1, vU 0, vU 0]⟩, ⟨41, b_3, [.string (bs r_4.2.S_), .bool r_4.2.Bad]⟩, ⟨40, b_2, [vI 0, vU 0, vU 0]⟩]) (ps := []) (by kernel_rfl) trivial ?_
  refine OpTo.go (GoO.call rfl (by kernel_rfl) (by kernel_rfl) (tontineref03_Reader_Num_ok n r_4.2 b_3) [[0], [41]] [(41, 1)] [(1, 1)] [] (hks := [0, 2]) (bks := []) (by kernel_rfl) (by kernel_rfl) (by kernel_rfl) (.inl rfl) rfl rfl (by kernel_rfl) (by kernel_rfl) _ (fun _ _ => rfl) _ _ (fun _ _ => rfl) (fun _ _ => rfl) (fun _ _ => by kernel_rfl) (fun _ _ => by kernel_rfl) (fun r_6 x_11 => ?_))
  refine GoO.shape (env' := [(2, vP b_2), (4, vP b_3), (5, vP b_5), (12, vP b_3), (13, vU r_6.1)]) (H' := [⟨41, b_3, [.string (bs r_6.2.S_), .bool r_6.2.Bad]⟩, ⟨42, b_5, [vI r_4.1, vU 0, vU 0]⟩, ⟨40, b_2, [vI 0, vU 0, vU 0]⟩]) (B' := []) (ks := [2, 4, 5, 12, 13]) (by kernel_rfl) (by kernel_rfl) (by kernel_rfl) ?_
  refine GoO.exec (is := [2, 3]) (hs := [.p, .b 1]) (rest := []) (ks := [2, 4, 5]) (env' := [(2, vP b_2), (4, vP b_3), (5, vP b_5)]) (H' := [⟨41, b_3, [.string (bs r_6.2.S_), .bool r_6.2.Bad]⟩, ⟨42, b_5, [vI r_4.1, vU r_6.1, vU 0]⟩, ⟨40, b_2, [vI 0, vU 0, vU 0]⟩]) (ps := [b_5 = b_5]) (by kernel_rfl) (And.intro rfl trivial) ?_
  refine GoO.regionEnd ?_
  refine GoO.seq' c51_8e ?_
  refine GoO.region' (is := [0, 1, 2, 3]) c51_9e (by kernel_rfl) ?_
  refine GoO.exec (is := [0]) (hs := [.p]) (rest := [1, 2, 3]) (ks := [2, 4, 5, 15]) (env' := [(2, vP b_2), (4, vP b_3), (5, vP b_5), (15, vP b_3)]) (H' := [⟨41, b_3, [.string (bs r_6.2.S_), .bool r_6.2.Bad]⟩, ⟨42, b_5, [vI r_4.1, vU r_6.1, vU 0]⟩, ⟨40, b_2, [vI 0, vU 0, vU 0]⟩]) (ps := []) (by kernel_rfl) trivial ?_
  refine OpTo.go (GoO.call rfl (by kernel_rfl) (by kernel_rfl) (tontineref03_Reader_Num_ok n r_6.2 b_3) [[0], [41]] [(41, 1)] [(1, 0)] [] (hks := [1, 2]) (bks := []) (by kernel_rfl) (by kernel_rfl) (by kernel_rfl) (.inl rfl) rfl rfl (by kernel_rfl) (by kernel_rfl) _ (fun _ _ => rfl) _ _ (fun _ _ => rfl) (fun _ _ => rfl) (fun _ _ => by kernel_rfl) (fun _ _ => by kernel_rfl) (fun r_7 x_10 => ?_))
  refine GoO.shape (env' := [(2, vP b_2), (4, vP b_3), (5, vP b_5), (15, vP b_3), (16, vU r_7.1)]) (H' := [⟨41, b_3, [.string (bs r_7.2.S_), .bool r_7.2.Bad]⟩, ⟨42, b_5, [vI r_4.1, vU r_6.1, vU 0]⟩, ⟨40, b_2, [vI 0, vU 0, vU 0]⟩]) (B' := []) (ks := [2, 4, 5, 15, 16]) (by kernel_rfl) (by kernel_rfl) (by kernel_rfl) ?_
  refine GoO.exec (is := [2, 3]) (hs := [.p, .b 1]) (rest := []) (ks := [2, 4, 5]) (env' := [(2, vP b_2), (4, vP b_3), (5, vP b_5)]) (H' := [⟨41, b_3, [.string (bs r_7.2.S_), .bool r_7.2.Bad]⟩, ⟨42, b_5, [vI r_4.1, vU r_6.1, vU r_7.1]⟩, ⟨40, b_2, [vI 0, vU 0, vU 0]⟩]) (ps := [b_5 = b_5]) (by kernel_rfl) (And.intro rfl trivial) ?_
  refine GoO.regionEnd ?_
  refine GoO.seq' c51_10e ?_
  refine GoO.seq' c51_11e ?_
  refine GoO.region' (is := [0, 1, 2, 3, 4, 5, 6, 7, 8, 9, 10]) c51_12e (by kernel_rfl) ?_
  refine GoO.exec (is := [0, 1, 2, 3, 4]) (hs := [.p, .p, .p, .b 0, .p]) (rest := [5, 6, 7, 8, 9, 10]) (ks := [2, 4, 5, 22]) (env' := [(2, vP b_2), (4, vP b_3), (5, vP b_5), (22, .bool r_7.2.Bad)]) (H' := [⟨41, b_3, [.string (bs r_7.2.S_), .bool r_7.2.Bad]⟩, ⟨42, b_5, [vI r_4.1, vU r_6.1, vU r_7.1]⟩, ⟨40, b_2, [vI 0, vU 0, vU 0]⟩]) (ps := [b_3 = b_3]) (by kernel_rfl) (And.intro rfl trivial) ?_
  refine GoO.bsplit (t := 22) (by kernel_rfl) (fun h8 => ?_) (fun h8 => ?_)
  · refine GoO.exec (is := [5, 6, 7, 8, 9, 10]) (hs := [.p, .p, .p, .p, .p, .p]) (rest := []) (ks := [2, 5, 28]) (env' := [(2, vP b_2), (5, vP b_5), (28, .bool true)]) (H' := [⟨41, b_3, [.string (bs r_7.2.S_), .bool r_7.2.Bad]⟩, ⟨42, b_5, [vI r_4.1, vU r_6.1, vU r_7.1]⟩, ⟨40, b_2, [vI 0, vU 0, vU 0]⟩]) (ps := []) (by kernel_rfl) trivial ?_
    refine GoO.regionEnd ?_
    refine GoO.condT c51_13e (by kernel_rfl) ?_
    refine GoO.seq' c51_14e ?_
    refine GoO.region' (is := [0, 1, 2]) c51_15e (by kernel_rfl) ?_
    refine GoO.exec (is := [0, 1, 2]) (hs := [.p, .b 2, .p]) (rest := []) (ks := [2, 3]) (env' := [(2, vP b_2), (3, vI 2)]) (H' := [⟨41, b_3, [.string (bs r_7.2.S_), .bool r_7.2.Bad]⟩, ⟨42, b_5, [vI r_4.1, vU r_6.1, vU r_7.1]⟩, ⟨40, b_2, [vI 0, vU 0, vU 0]⟩]) (ps := [b_2 = b_2]) (by kernel_rfl) (And.intro rfl trivial) ?_
    refine GoO.regionEnd ?_
    exact GoO.ret' (h := c51_16e) (hs := [2]) (ps := [b_2 = b_2]) (hk := []) (bk := []) Try.func51 () (by kernel_rfl) (And.intro rfl trivial) (by kernel_rfl) (by kernel_rfl)
  · refine GoO.exec (is := [5, 6, 7, 8, 9, 10]) (hs := [.p, .p, .p, .b 0, .p, .p]) (rest := []) (ks := [2, 5, 28]) (env' := [(2, vP b_2), (5, vP b_5), (28, .bool (!(r_7.2.S_ == ([] : List UInt8))))]) (H' := [⟨41, b_3, [.string (bs r_7.2.S_), .bool r_7.2.Bad]⟩, ⟨42, b_5, [vI r_4.1, vU r_6.1, vU r_7.1]⟩, ⟨40, b_2, [vI 0, vU 0, vU 0]⟩]) (ps := [b_3 = b_3]) (by kernel_rfl) (And.intro rfl trivial) ?_
    refine GoO.regionEnd ?_
    refine GoO.ite' c51_13e (by kernel_rfl) (fun h9 => ?_) (fun h9 => ?_)
    · refine GoO.seq' c51_14e ?_
      refine GoO.region' (is := [0, 1, 2]) c51_15e (by kernel_rfl) ?_
      refine GoO.exec (is := [0, 1, 2]) (hs := [.p, .b 2, .p]) (rest := []) (ks := [2, 3]) (env' := [(2, vP b_2), (3, vI 2)]) (H' := [⟨41, b_3, [.string (bs r_7.2.S_), .bool r_7.2.Bad]⟩, ⟨42, b_5, [vI r_4.1, vU r_6.1, vU r_7.1]⟩, ⟨40, b_2, [vI 0, vU 0, vU 0]⟩]) (ps := [b_2 = b_2]) (by kernel_rfl) (And.intro rfl trivial) ?_
      refine GoO.regionEnd ?_
      exact GoO.ret' (h := c51_16e) (hs := [2]) (ps := [b_2 = b_2]) (hk := []) (bk := []) Try.func51 () (by kernel_rfl) (And.intro rfl trivial) (by kernel_rfl) (by kernel_rfl)
    · refine GoO.skip' c51_17e ?_
      refine GoO.seq' c51_18e ?_
      refine GoO.region' (is := [0, 1, 2]) c51_19e (by kernel_rfl) ?_
      refine GoO.exec (is := [0, 1, 2]) (hs := [.b 1, .b 2, .p]) (rest := []) (ks := [2, 3]) (env' := [(2, vP b_2), (3, vI 0)]) (H' := [⟨41, b_3, [.string (bs r_7.2.S_), .bool r_7.2.Bad]⟩, ⟨42, b_5, [vI r_4.1, vU r_6.1, vU r_7.1]⟩, ⟨40, b_2, [vI r_4.1, vU r_6.1, vU r_7.1]⟩]) (ps := [b_5 = b_5, b_2 = b_2]) (by kernel_rfl) (And.intro rfl (And.intro rfl trivial)) ?_
      refine GoO.regionEnd ?_
      exact GoO.ret' (h := c51_20e) (hs := [2]) (ps := [b_2 = b_2]) (hk := []) (bk := []) Try.func51 () (by kernel_rfl) (And.intro rfl trivial) (by kernel_rfl) (by kernel_rfl)
/-! (*tontine/client.Client).Again -/
noncomputable def c33_0 : Code := bodyOf Try.f33
noncomputable def c33_1 : Code := cdL c33_0
noncomputable def c33_2 : Code := cdR c33_0
noncomputable def c33_3 : Code := cdL c33_2
noncomputable def c33_4 : Code := cdL c33_3
noncomputable def c33_5 : Code := cdR c33_3
noncomputable def c33_6 : Code := cdL c33_5
noncomputable def c33_7 : Code := cdL c33_6
noncomputable def c33_8 : Code := cdR c33_6
noncomputable def c33_9 : Code := cdR c33_5
noncomputable def c33_10 : Code := cdR c33_2
noncomputable def c33_11 : Code := cdL c33_10
noncomputable def c33_12 : Code := cdR c33_10
noncomputable def c33_13 : Code := cdL c33_12
noncomputable def c33_14 : Code := cdR c33_12
noncomputable def r33_1 : Array Oper := cdO c33_1
noncomputable def r33_4 : Array Oper := cdO c33_4
noncomputable def r33_7 : Array Oper := cdO c33_7
noncomputable def r33_11 : Array Oper := cdO c33_11
noncomputable def r33_13 : Array Oper := cdO c33_13
theorem c33_0e : c33_0 = .seq c33_1 c33_2 := by kernel_rfl
theorem c33_1e : c33_1 = .region 0 r33_1 false := by kernel_rfl
theorem c33_2e : c33_2 = .seq c33_3 c33_10 := by kernel_rfl
theorem c33_3e : c33_3 = .seq c33_4 c33_5 := by kernel_rfl
theorem c33_4e : c33_4 = .region 1 r33_4 false := by kernel_rfl
theorem c33_5e : c33_5 = .cond (cdC c33_5) c33_6 c33_9 := by kernel_rfl
theorem c33_6e : c33_6 = .seq c33_7 c33_8 := by kernel_rfl
theorem c33_7e : c33_7 = .region 2 r33_7 false := by kernel_rfl
theorem c33_8e : c33_8 = .ret := by kernel_rfl
theorem c33_9e : c33_9 = .skip := by kernel_rfl
theorem c33_10e : c33_10 = .seq c33_11 c33_12 := by kernel_rfl
theorem c33_11e : c33_11 = .region 3 r33_11 false := by kernel_rfl
theorem c33_12e : c33_12 = .seq c33_13 c33_14 := by kernel_rfl
theorem c33_13e : c33_13 = .region 4 r33_13 false := by kernel_rfl
theorem c33_14e : c33_14 = .ret := by kernel_rfl
noncomputable def client_Client_Again.R (b_2 : Nat) (A_3 : Option Addr) (c_4 : Nat) : Pst (T_api_Letter × Int × T_client_Client) where
  ε := Option Addr × Nat × Option Addr × Nat
  v := fun r x => .tuple ⟨[.agg ⟨[vI r.1.Kind, vI r.1.From, vI r.1.To, vU r.1.Term, vU r.1.Index, vU r.1.Prev, vU r.1.Commit, .bool r.1.Ok, .slice x.1 r.1.Entries.length x.2.1, .string (bs r.1.Data)]⟩, vI r.2.1]⟩
  H := fun r x => [⟨1, b_2, [vI r.2.2.id, vU r.2.2.session, vU r.2.2.seq, vU r.2.2.call, .bool r.2.2.busy, vI r.2.2.now.Kind, vU r.2.2.now.Session, vU r.2.2.now.Seq, vU r.2.2.now.Saga, .slice x.2.2.1 r.2.2.now.Steps.length x.2.2.2, vI r.2.2.now.Step, .bool r.2.2.now.Back, vI r.2.2.now.Try, .bool r.2.2.now.Ok, vU r.2.2.now.Now, .string (bs r.2.2.data), vI r.2.2.to_]⟩]
  B := fun r x => [Rd 0 kT_api_Entry x.1 x.2.1 r.1.Entries, Rd 0 kT_api_Step x.2.2.1 x.2.2.2 r.2.2.now.Steps]
noncomputable def client_Client_Again.cx (b_2 : Nat) (A_3 : Option Addr) (c_4 : Nat) (w0 : World) (S0 : Fam) : Cx (T_api_Letter × Int × T_client_Client) := ⟨Try.prog, 33, Try.f33, 25, w0, S0, [1], 1, client_Client_Again.R b_2 A_3 c_4⟩
theorem client_Client_Again_ok (n : Nat) (c_1 : T_client_Client) (b_2 : Nat) (A_3 : Option Addr) (c_4 : Nat) :
    Meets Try.prog 33 [vP b_2] 1 [1] [⟨1, b_2, [vI c_1.id, vU c_1.session, vU c_1.seq, vU c_1.call, .bool c_1.busy, vI c_1.now.Kind, vU c_1.now.Session, vU c_1.now.Seq, vU c_1.now.Saga, .slice A_3 c_1.now.Steps.length c_4, vI c_1.now.Step, .bool c_1.now.Back, vI c_1.now.Try, .bool c_1.now.Ok, vU c_1.now.Now, .string (bs c_1.data), vI c_1.to_]⟩] [Rd 0 kT_api_Step A_3 c_4 c_1.now.Steps] (client_Client_Again.f n c_1) (client_Client_Again.R b_2 A_3 c_4) := by
  refine Meets.of (c := c33_0) (n := 25) Try.func33 (by kernel_rfl) (by kernel_rfl) (by kernel_rfl) fun w0 S0 => ?_
  unfold client_Client_Again.f
  show GoO (client_Client_Again.cx b_2 A_3 c_4 w0 S0) [(0, vP b_2)] [⟨1, b_2, [vI c_1.id, vU c_1.session, vU c_1.seq, vU c_1.call, .bool c_1.busy, vI c_1.now.Kind, vU c_1.now.Session, vU c_1.now.Seq, vU c_1.now.Saga, .slice A_3 c_1.now.Steps.length c_4, vI c_1.now.Step, .bool c_1.now.Back, vI c_1.now.Try, .bool c_1.now.Ok, vU c_1.now.Now, .string (bs c_1.data), vI c_1.to_]⟩] [Rd 0 kT_api_Step A_3 c_4 c_1.now.Steps] [.code c33_0] _
  refine GoO.seq' c33_0e ?_
  refine GoO.region' (is := [0, 1]) c33_1e (by kernel_rfl) ?_
  refine OpTo.go (GoO.new rfl 40 (cs := [vI 0, vI 0, vI 0, vU 0, vU 0, vU 0, vU 0, .bool false, .slice none ([] : List T_api_Entry).length 0, .string (bs [])]) (by kernel_rfl) _ (fun _ => rfl) (fun b_5 => ?_))
  refine GoO.exec (is := [1]) (hs := [.p]) (rest := []) (ks := [0, 2]) (env' := [(0, vP b_2), (2, vP b_5)]) (H' := [⟨40, b_5, [vI 0, vI 0, vI 0, vU 0, vU 0, vU 0, vU 0, .bool false, .slice none ([] : List T_api_Entry).length 0, .string (bs [])]⟩, ⟨1, b_2, [vI c_1.id, vU c_1.session, vU c_1.seq, vU c_1.call, .bool c_1.busy, vI c_1.now.Kind, vU c_1.now.Session, vU c_1.now.Seq, vU c_1.now.Saga, .slice A_3 c_1.now.Steps.length c_4, vI c_1.now.Step, .bool c_1.now.Back, vI c_1.now.Try, .bool c_1.now.Ok, vU c_1.now.Now, .string (bs c_1.data), vI c_1.to_]⟩]) (ps := []) (by kernel_rfl) trivial ?_
  refine GoO.regionEnd ?_
  refine GoO.seq' c33_2e ?_
  refine GoO.seq' c33_3e ?_
  refine GoO.region' (is := [0, 1, 2, 3, 4, 5, 6, 7, 8]) c33_4e (by kernel_rfl) ?_
  refine GoO.exec (is := [0, 1, 2, 3, 4, 5, 6, 7, 8]) (hs := [.p, .p, .p, .p, .p, .p, .b 1, .p, .p]) (rest := []) (ks := [0, 2, 12]) (env' := [(0, vP b_2), (2, vP b_5), (12, .bool (!c_1.busy))]) (H' := [⟨40, b_5, [vI 0, vI 0, vI 0, vU 0, vU 0, vU 0, vU 0, .bool false, .slice none ([] : List T_api_Entry).length 0, .string (bs [])]⟩, ⟨1, b_2, [vI c_1.id, vU c_1.session, vU c_1.seq, vU c_1.call, .bool c_1.busy, vI c_1.now.Kind, vU c_1.now.Session, vU c_1.now.Seq, vU c_1.now.Saga, .slice A_3 c_1.now.Steps.length c_4, vI c_1.now.Step, .bool c_1.now.Back, vI c_1.now.Try, .bool c_1.now.Ok, vU c_1.now.Now, .string (bs c_1.data), vI c_1.to_]⟩]) (ps := [b_2 = b_2]) (by kernel_rfl) (And.intro rfl trivial) ?_
  refine GoO.regionEnd ?_
  refine GoO.ite' c33_5e (by kernel_rfl) (fun h6 => ?_) (fun h6 => ?_)
  · refine GoO.seq' c33_6e ?_
    refine GoO.region' (is := [0, 1, 2]) c33_7e (by kernel_rfl) ?_
    refine GoO.exec (is := [0, 1, 2]) (hs := [.p, .b 0, .p]) (rest := []) (ks := [2, 3]) (env' := [(2, vP b_5), (3, vI 1)]) (H' := [⟨40, b_5, [vI 0, vI 0, vI 0, vU 0, vU 0, vU 0, vU 0, .bool false, .slice none ([] : List T_api_Entry).length 0, .string (bs [])]⟩, ⟨1, b_2, [vI c_1.id, vU c_1.session, vU c_1.seq, vU c_1.call, .bool c_1.busy, vI c_1.now.Kind, vU c_1.now.Session, vU c_1.now.Seq, vU c_1.now.Saga, .slice A_3 c_1.now.Steps.length c_4, vI c_1.now.Step, .bool c_1.now.Back, vI c_1.now.Try, .bool c_1.now.Ok, vU c_1.now.Now, .string (bs c_1.data), vI c_1.to_]⟩]) (ps := [b_5 = b_5]) (by kernel_rfl) (And.intro rfl trivial) ?_
    refine GoO.regionEnd ?_
    refine GoO.nilRd kT_api_Entry ?_
    exact GoO.ret' (h := c33_8e) (hs := [0]) (ps := [b_5 = b_5]) (hk := [1]) (bk := [0, 1]) Try.func33 (⟨none, 0, A_3, c_4⟩ : Option Addr × Nat × Option Addr × Nat) (by kernel_rfl) (And.intro rfl trivial) (by kernel_rfl) (by kernel_rfl)
  · refine GoO.skip' c33_9e ?_
    refine GoO.seq' c33_10e ?_
    refine GoO.region' (is := [0, 1, 2, 3, 4, 5, 6, 7, 8, 9]) c33_11e (by kernel_rfl) ?_
    refine GoO.exec (is := [0, 1, 2, 3, 4, 5, 6, 7, 8, 9]) (hs := [.p, .p, .p, .p, .b 1, .p, .p, .p, .p, .b 1]) (rest := []) (ks := [0, 2]) (env' := [(0, vP b_2), (2, vP b_5)]) (H' := [⟨40, b_5, [vI 0, vI 0, vI 0, vU 0, vU 0, vU 0, vU 0, .bool false, .slice none ([] : List T_api_Entry).length 0, .string (bs [])]⟩, ⟨1, b_2, [vI c_1.id, vU c_1.session, vU c_1.seq, vU c_1.call, .bool c_1.busy, vI c_1.now.Kind, vU c_1.now.Session, vU c_1.now.Seq, vU c_1.now.Saga, .slice A_3 c_1.now.Steps.length c_4, vI c_1.now.Step, .bool c_1.now.Back, vI c_1.now.Try, .bool c_1.now.Ok, vU c_1.now.Now, .string (bs c_1.data), vI ((wi64 (c_1.to_ + 1)).tmod 7)]⟩]) (ps := [b_2 = b_2, (7 : Int) ≠ 0, b_2 = b_2]) (by kernel_rfl) (And.intro rfl (And.intro (by decide) (And.intro rfl trivial))) ?_
    refine GoO.regionEnd ?_
    refine GoO.seq' c33_12e ?_
    refine GoO.region' (is := [0, 1, 2, 3]) c33_13e (by kernel_rfl) ?_
    refine GoO.exec (is := [0]) (hs := [.p]) (rest := [1, 2, 3]) (ks := [2, 23]) (env' := [(2, vP b_5), (23, vP b_2)]) (H' := [⟨40, b_5, [vI 0, vI 0, vI 0, vU 0, vU 0, vU 0, vU 0, .bool false, .slice none ([] : List T_api_Entry).length 0, .string (bs [])]⟩, ⟨1, b_2, [vI c_1.id, vU c_1.session, vU c_1.seq, vU c_1.call, .bool c_1.busy, vI c_1.now.Kind, vU c_1.now.Session, vU c_1.now.Seq, vU c_1.now.Saga, .slice A_3 c_1.now.Steps.length c_4, vI c_1.now.Step, .bool c_1.now.Back, vI c_1.now.Try, .bool c_1.now.Ok, vU c_1.now.Now, .string (bs c_1.data), vI ((wi64 (c_1.to_ + 1)).tmod 7)]⟩]) (ps := []) (by kernel_rfl) trivial ?_
    refine OpTo.go (GoO.call rfl (by kernel_rfl) (by kernel_rfl) (client_Client_letter_ok n (⟨c_1.id, c_1.session, c_1.seq, c_1.call, c_1.busy, (⟨c_1.now.Kind, c_1.now.Session, c_1.now.Seq, c_1.now.Saga, c_1.now.Steps, c_1.now.Step, c_1.now.Back, c_1.now.Try, c_1.now.Ok, c_1.now.Now⟩ : T_api_Command), c_1.data, (wi64 (c_1.to_ + 1)).tmod 7⟩ : T_client_Client) b_2 A_3 c_4) [[0], [1]] [] [(1, 1)] [(0, 0)] (hks := [0, 1]) (bks := [0]) (by kernel_rfl) (by kernel_rfl) (by kernel_rfl) (.inl rfl) rfl rfl (by kernel_rfl) (by kernel_rfl) _ (fun _ _ => rfl) _ _ (fun _ _ => rfl) (fun _ _ => rfl) (fun _ _ => by kernel_rfl) (fun _ _ => by kernel_rfl) (fun r_7 x_10 => ?_))
    obtain ⟨A_8, c_9⟩ := x_10
    refine GoO.shape (env' := [(2, vP b_5), (23, vP b_2), (24, .agg ⟨[vI r_7.Kind, vI r_7.From, vI r_7.To, vU r_7.Term, vU r_7.Index, vU r_7.Prev, vU r_7.Commit, .bool r_7.Ok, .slice A_8 r_7.Entries.length c_9, .string (bs r_7.Data)]⟩)]) (H' := [⟨40, b_5, [vI 0, vI 0, vI 0, vU 0, vU 0, vU 0, vU 0, .bool false, .slice none ([] : List T_api_Entry).length 0, .string (bs [])]⟩, ⟨1, b_2, [vI c_1.id, vU c_1.session, vU c_1.seq, vU c_1.call, .bool c_1.busy, vI c_1.now.Kind, vU c_1.now.Session, vU c_1.now.Seq, vU c_1.now.Saga, .slice A_3 c_1.now.Steps.length c_4, vI c_1.now.Step, .bool c_1.now.Back, vI c_1.now.Try, .bool c_1.now.Ok, vU c_1.now.Now, .string (bs c_1.data), vI ((wi64 (c_1.to_ + 1)).tmod 7)]⟩]) (B' := [Rd 0 kT_api_Entry A_8 c_9 r_7.Entries, Rd 0 kT_api_Step A_3 c_4 c_1.now.Steps]) (ks := [2, 23, 24]) (by kernel_rfl) (by kernel_rfl) (by kernel_rfl) ?_
    refine GoO.exec (is := [2, 3]) (hs := [.b 0, .p]) (rest := []) (ks := [2, 3]) (env' := [(2, vP b_5), (3, vI 0)]) (H' := [⟨40, b_5, [vI r_7.Kind, vI r_7.From, vI r_7.To, vU r_7.Term, vU r_7.Index, vU r_7.Prev, vU r_7.Commit, .bool r_7.Ok, .slice A_8 r_7.Entries.length c_9, .string (bs r_7.Data)]⟩, ⟨1, b_2, [vI c_1.id, vU c_1.session, vU c_1.seq, vU c_1.call, .bool c_1.busy, vI c_1.now.Kind, vU c_1.now.Session, vU c_1.now.Seq, vU c_1.now.Saga, .slice A_3 c_1.now.Steps.length c_4, vI c_1.now.Step, .bool c_1.now.Back, vI c_1.now.Try, .bool c_1.now.Ok, vU c_1.now.Now, .string (bs c_1.data), vI ((wi64 (c_1.to_ + 1)).tmod 7)]⟩]) (ps := [b_5 = b_5]) (by kernel_rfl) (And.intro rfl trivial) ?_
    refine GoO.regionEnd ?_
    exact GoO.ret' (h := c33_14e) (hs := [0]) (ps := [b_5 = b_5]) (hk := [1]) (bk := [0, 1]) Try.func33 (⟨A_8, c_9, A_3, c_4⟩ : Option Addr × Nat × Option Addr × Nat) (by kernel_rfl) (And.intro rfl trivial) (by kernel_rfl) (by kernel_rfl)
/-! (*tontine/client.Client).Give -/
noncomputable def c38_0 : Code := bodyOf Try.f38
noncomputable def c38_1 : Code := cdL c38_0
noncomputable def c38_2 : Code := cdR c38_0
noncomputable def c38_3 : Code := cdL c38_2
noncomputable def c38_4 : Code := cdL c38_3
noncomputable def c38_5 : Code := cdR c38_3
noncomputable def c38_6 : Code := cdL c38_5
noncomputable def c38_7 : Code := cdL c38_6
noncomputable def c38_8 : Code := cdR c38_6
noncomputable def c38_9 : Code := cdR c38_5
noncomputable def c38_10 : Code := cdR c38_2
noncomputable def c38_11 : Code := cdL c38_10
noncomputable def c38_12 : Code := cdR c38_10
noncomputable def c38_13 : Code := cdL c38_12
noncomputable def c38_14 : Code := cdR c38_12
noncomputable def c38_15 : Code := cdL c38_14
noncomputable def c38_16 : Code := cdR c38_14
noncomputable def r38_1 : Array Oper := cdO c38_1
noncomputable def r38_4 : Array Oper := cdO c38_4
noncomputable def r38_7 : Array Oper := cdO c38_7
noncomputable def r38_11 : Array Oper := cdO c38_11
noncomputable def r38_13 : Array Oper := cdO c38_13
noncomputable def r38_15 : Array Oper := cdO c38_15
theorem c38_0e : c38_0 = .seq c38_1 c38_2 := by kernel_rfl
theorem c38_1e : c38_1 = .region 0 r38_1 false := by kernel_rfl
theorem c38_2e : c38_2 = .seq c38_3 c38_10 := by kernel_rfl
theorem c38_3e : c38_3 = .seq c38_4 c38_5 := by kernel_rfl
theorem c38_4e : c38_4 = .region 1 r38_4 false := by kernel_rfl
theorem c38_5e : c38_5 = .cond (cdC c38_5) c38_6 c38_9 := by kernel_rfl
theorem c38_6e : c38_6 = .seq c38_7 c38_8 := by kernel_rfl
theorem c38_7e : c38_7 = .region 2 r38_7 false := by kernel_rfl
theorem c38_8e : c38_8 = .ret := by kernel_rfl
theorem c38_9e : c38_9 = .skip := by kernel_rfl
theorem c38_10e : c38_10 = .seq c38_11 c38_12 := by kernel_rfl
theorem c38_11e : c38_11 = .region 3 r38_11 false := by kernel_rfl
theorem c38_12e : c38_12 = .seq c38_13 c38_14 := by kernel_rfl
theorem c38_13e : c38_13 = .region 4 r38_13 false := by kernel_rfl
theorem c38_14e : c38_14 = .seq c38_15 c38_16 := by kernel_rfl
theorem c38_15e : c38_15 = .region 5 r38_15 false := by kernel_rfl
theorem c38_16e : c38_16 = .ret := by kernel_rfl
noncomputable def client_Client_Give.R (b_2 : Nat) (A_3 : Option Addr) (c_4 : Nat) : Pst (Int × T_client_Client) where
  ε := Option Addr × Nat
  v := fun r x => vI r.1
  H := fun r x => [⟨1, b_2, [vI r.2.id, vU r.2.session, vU r.2.seq, vU r.2.call, .bool r.2.busy, vI r.2.now.Kind, vU r.2.now.Session, vU r.2.now.Seq, vU r.2.now.Saga, .slice x.1 r.2.now.Steps.length x.2, vI r.2.now.Step, .bool r.2.now.Back, vI r.2.now.Try, .bool r.2.now.Ok, vU r.2.now.Now, .string (bs r.2.data), vI r.2.to_]⟩]
  B := fun r x => [Rd 0 kT_api_Step x.1 x.2 r.2.now.Steps]
noncomputable def client_Client_Give.cx (b_2 : Nat) (A_3 : Option Addr) (c_4 : Nat) (w0 : World) (S0 : Fam) : Cx (Int × T_client_Client) := ⟨Try.prog, 38, Try.f38, 21, w0, S0, [1], 1, client_Client_Give.R b_2 A_3 c_4⟩
theorem client_Client_Give_ok (n : Nat) (c_1 : T_client_Client) (b_2 : Nat) (A_3 : Option Addr) (c_4 : Nat) :
    Meets Try.prog 38 [vP b_2] 1 [1] [⟨1, b_2, [vI c_1.id, vU c_1.session, vU c_1.seq, vU c_1.call, .bool c_1.busy, vI c_1.now.Kind, vU c_1.now.Session, vU c_1.now.Seq, vU c_1.now.Saga, .slice A_3 c_1.now.Steps.length c_4, vI c_1.now.Step, .bool c_1.now.Back, vI c_1.now.Try, .bool c_1.now.Ok, vU c_1.now.Now, .string (bs c_1.data), vI c_1.to_]⟩] [Rd 0 kT_api_Step A_3 c_4 c_1.now.Steps] (client_Client_Give.f n c_1) (client_Client_Give.R b_2 A_3 c_4) := by
  refine Meets.of (c := c38_0) (n := 21) Try.func38 (by kernel_rfl) (by kernel_rfl) (by kernel_rfl) fun w0 S0 => ?_
  unfold client_Client_Give.f
  show GoO (client_Client_Give.cx b_2 A_3 c_4 w0 S0) [(0, vP b_2)] [⟨1, b_2, [vI c_1.id, vU c_1.session, vU c_1.seq, vU c_1.call, .bool c_1.busy, vI c_1.now.Kind, vU c_1.now.Session, vU c_1.now.Seq, vU c_1.now.Saga, .slice A_3 c_1.now.Steps.length c_4, vI c_1.now.Step, .bool c_1.now.Back, vI c_1.now.Try, .bool c_1.now.Ok, vU c_1.now.Now, .string (bs c_1.data), vI c_1.to_]⟩] [Rd 0 kT_api_Step A_3 c_4 c_1.now.Steps] [.code c38_0] _
  refine GoO.seq' c38_0e ?_
  refine GoO.region' (is := [0]) c38_1e (by kernel_rfl) ?_
  refine GoO.exec (is := [0]) (hs := [.p]) (rest := []) (ks := [0]) (env' := [(0, vP b_2)]) (H' := [⟨1, b_2, [vI c_1.id, vU c_1.session, vU c_1.seq, vU c_1.call, .bool c_1.busy, vI c_1.now.Kind, vU c_1.now.Session, vU c_1.now.Seq, vU c_1.now.Saga, .slice A_3 c_1.now.Steps.length c_4, vI c_1.now.Step, .bool c_1.now.Back, vI c_1.now.Try, .bool c_1.now.Ok, vU c_1.now.Now, .string (bs c_1.data), vI c_1.to_]⟩]) (ps := []) (by kernel_rfl) trivial ?_
  refine GoO.regionEnd ?_
  refine GoO.seq' c38_2e ?_
  refine GoO.seq' c38_3e ?_
  refine GoO.region' (is := [0, 1, 2, 3, 4, 5, 6, 7, 8]) c38_4e (by kernel_rfl) ?_
  refine GoO.exec (is := [0, 1, 2, 3, 4, 5, 6, 7, 8]) (hs := [.p, .p, .p, .p, .p, .p, .b 0, .p, .p]) (rest := []) (ks := [0, 11]) (env' := [(0, vP b_2), (11, .bool (!c_1.busy))]) (H' := [⟨1, b_2, [vI c_1.id, vU c_1.session, vU c_1.seq, vU c_1.call, .bool c_1.busy, vI c_1.now.Kind, vU c_1.now.Session, vU c_1.now.Seq, vU c_1.now.Saga, .slice A_3 c_1.now.Steps.length c_4, vI c_1.now.Step, .bool c_1.now.Back, vI c_1.now.Try, .bool c_1.now.Ok, vU c_1.now.Now, .string (bs c_1.data), vI c_1.to_]⟩]) (ps := [b_2 = b_2]) (by kernel_rfl) (And.intro rfl trivial) ?_
  refine GoO.regionEnd ?_
  refine GoO.ite' c38_5e (by kernel_rfl) (fun h5 => ?_) (fun h5 => ?_)
  · refine GoO.seq' c38_6e ?_
    refine GoO.region' (is := [0]) c38_7e (by kernel_rfl) ?_
    refine GoO.exec (is := [0]) (hs := [.p]) (rest := []) (ks := [2]) (env' := [(2, vI 1)]) (H' := [⟨1, b_2, [vI c_1.id, vU c_1.session, vU c_1.seq, vU c_1.call, .bool c_1.busy, vI c_1.now.Kind, vU c_1.now.Session, vU c_1.now.Seq, vU c_1.now.Saga, .slice A_3 c_1.now.Steps.length c_4, vI c_1.now.Step, .bool c_1.now.Back, vI c_1.now.Try, .bool c_1.now.Ok, vU c_1.now.Now, .string (bs c_1.data), vI c_1.to_]⟩]) (ps := []) (by kernel_rfl) trivial ?_
    refine GoO.regionEnd ?_
    exact GoO.ret' (h := c38_8e) (hs := []) (ps := []) (hk := [0]) (bk := [0]) Try.func38 (⟨A_3, c_4⟩ : Option Addr × Nat) (by kernel_rfl) trivial (by kernel_rfl) (by kernel_rfl)
  · refine GoO.skip' c38_9e ?_
    refine GoO.seq' c38_10e ?_
    refine GoO.region' (is := [0, 1, 2, 3]) c38_11e (by kernel_rfl) ?_
    refine GoO.exec (is := [0, 1, 2, 3]) (hs := [.p, .p, .p, .b 0]) (rest := []) (ks := [0]) (env' := [(0, vP b_2)]) (H' := [⟨1, b_2, [vI c_1.id, vU c_1.session, vU c_1.seq, vU c_1.call, .bool false, vI c_1.now.Kind, vU c_1.now.Session, vU c_1.now.Seq, vU c_1.now.Saga, .slice A_3 c_1.now.Steps.length c_4, vI c_1.now.Step, .bool c_1.now.Back, vI c_1.now.Try, .bool c_1.now.Ok, vU c_1.now.Now, .string (bs c_1.data), vI c_1.to_]⟩]) (ps := [b_2 = b_2]) (by kernel_rfl) (And.intro rfl trivial) ?_
    refine GoO.regionEnd ?_
    refine GoO.seq' c38_12e ?_
    refine GoO.region' (is := [0, 1, 2, 3, 4, 5, 6, 7]) c38_13e (by kernel_rfl) ?_
    refine GoO.exec (is := [0, 1, 2, 3, 4, 5, 6, 7]) (hs := [.p, .p, .p, .p, .b 0, .p, .p, .b 0]) (rest := []) (ks := []) (env' := []) (H' := [⟨1, b_2, [vI c_1.id, vU 0, vU 0, vU c_1.call, .bool false, vI c_1.now.Kind, vU c_1.now.Session, vU c_1.now.Seq, vU c_1.now.Saga, .slice A_3 c_1.now.Steps.length c_4, vI c_1.now.Step, .bool c_1.now.Back, vI c_1.now.Try, .bool c_1.now.Ok, vU c_1.now.Now, .string (bs c_1.data), vI c_1.to_]⟩]) (ps := [b_2 = b_2, b_2 = b_2]) (by kernel_rfl) (And.intro rfl (And.intro rfl trivial)) ?_
    refine GoO.regionEnd ?_
    refine GoO.seq' c38_14e ?_
    refine GoO.region' (is := [0]) c38_15e (by kernel_rfl) ?_
    refine GoO.exec (is := [0]) (hs := [.p]) (rest := []) (ks := [2]) (env' := [(2, vI 0)]) (H' := [⟨1, b_2, [vI c_1.id, vU 0, vU 0, vU c_1.call, .bool false, vI c_1.now.Kind, vU c_1.now.Session, vU c_1.now.Seq, vU c_1.now.Saga, .slice A_3 c_1.now.Steps.length c_4, vI c_1.now.Step, .bool c_1.now.Back, vI c_1.now.Try, .bool c_1.now.Ok, vU c_1.now.Now, .string (bs c_1.data), vI c_1.to_]⟩]) (ps := []) (by kernel_rfl) trivial ?_
    refine GoO.regionEnd ?_
    exact GoO.ret' (h := c38_16e) (hs := []) (ps := []) (hk := [0]) (bk := [0]) Try.func38 (⟨A_3, c_4⟩ : Option Addr × Nat) (by kernel_rfl) trivial (by kernel_rfl) (by kernel_rfl)
/-! (*tontine/tontineref03.Reader).Text -/
noncomputable def c90_0 : Code := bodyOf Try.f90
noncomputable def c90_1 : Code := cdL c90_0
noncomputable def c90_2 : Code := cdR c90_0
noncomputable def c90_3 : Code := cdL c90_2
noncomputable def c90_4 : Code := cdR c90_2
noncomputable def c90_5 : Code := cdL c90_4
noncomputable def c90_6 : Code := cdL c90_5
noncomputable def c90_7 : Code := cdR c90_5
noncomputable def c90_8 : Code := cdL c90_7
noncomputable def c90_9 : Code := cdL c90_8
noncomputable def c90_10 : Code := cdR c90_8
noncomputable def c90_11 : Code := cdL c90_10
noncomputable def c90_12 : Code := cdR c90_10
noncomputable def c90_13 : Code := cdR c90_7
noncomputable def c90_14 : Code := cdR c90_4
noncomputable def c90_15 : Code := cdL c90_14
noncomputable def c90_16 : Code := cdR c90_14
noncomputable def c90_17 : Code := cdL c90_16
noncomputable def c90_18 : Code := cdR c90_16
noncomputable def c90_19 : Code := cdL c90_18
noncomputable def c90_20 : Code := cdR c90_18
noncomputable def r90_1 : Array Oper := cdO c90_1
noncomputable def r90_3 : Array Oper := cdO c90_3
noncomputable def r90_6 : Array Oper := cdO c90_6
noncomputable def r90_9 : Array Oper := cdO c90_9
noncomputable def r90_11 : Array Oper := cdO c90_11
noncomputable def r90_15 : Array Oper := cdO c90_15
noncomputable def r90_17 : Array Oper := cdO c90_17
noncomputable def r90_19 : Array Oper := cdO c90_19
theorem c90_0e : c90_0 = .seq c90_1 c90_2 := by kernel_rfl
theorem c90_1e : c90_1 = .region 0 r90_1 false := by kernel_rfl
theorem c90_2e : c90_2 = .seq c90_3 c90_4 := by kernel_rfl
theorem c90_3e : c90_3 = .region 1 r90_3 false := by kernel_rfl
theorem c90_4e : c90_4 = .seq c90_5 c90_14 := by kernel_rfl
theorem c90_5e : c90_5 = .seq c90_6 c90_7 := by kernel_rfl
theorem c90_6e : c90_6 = .region 2 r90_6 false := by kernel_rfl
theorem c90_7e : c90_7 = .cond (cdC c90_7) c90_8 c90_13 := by kernel_rfl
theorem c90_8e : c90_8 = .seq c90_9 c90_10 := by kernel_rfl
theorem c90_9e : c90_9 = .region 3 r90_9 false := by kernel_rfl
theorem c90_10e : c90_10 = .seq c90_11 c90_12 := by kernel_rfl
theorem c90_11e : c90_11 = .region 4 r90_11 false := by kernel_rfl
theorem c90_12e : c90_12 = .ret := by kernel_rfl
theorem c90_13e : c90_13 = .skip := by kernel_rfl
theorem c90_14e : c90_14 = .seq c90_15 c90_16 := by kernel_rfl
theorem c90_15e : c90_15 = .region 5 r90_15 false := by kernel_rfl
theorem c90_16e : c90_16 = .seq c90_17 c90_18 := by kernel_rfl
theorem c90_17e : c90_17 = .region 6 r90_17 false := by kernel_rfl
theorem c90_18e : c90_18 = .seq c90_19 c90_20 := by kernel_rfl
theorem c90_19e : c90_19 = .region 7 r90_19 false := by kernel_rfl
theorem c90_20e : c90_20 = .ret := by kernel_rfl
noncomputable def tontineref03_Reader_Text.R (b_2 : Nat) : Pst ((List UInt8) × T_tontineref03_Reader) where
  ε := Unit
  v := fun r x => .string (bs r.1)
  H := fun r x => [⟨1, b_2, [.string (bs r.2.S_), .bool r.2.Bad]⟩]
  B := fun r x => []
noncomputable def tontineref03_Reader_Text.cx (b_2 : Nat) (w0 : World) (S0 : Fam) : Cx ((List UInt8) × T_tontineref03_Reader) := ⟨Try.prog, 90, Try.f90, 35, w0, S0, [1], 1, tontineref03_Reader_Text.R b_2⟩
end Go.GL
