import Derived.Test.YtolipnnfdclkoaaXWalkClientNumbersP2
import Derived.Test.YtolipnnfdclkoaaXKindsT2
import Derived.Test.YtolipnnfdclkoaaProg
set_option linter.unusedVariables false
set_option linter.unusedSimpArgs false
set_option maxRecDepth 100000
namespace Go.GL
open Go Go.Proofs
theorem tontineref03_Reader_Text_ok (n : Nat) (r_1 : T_tontineref03_Reader) (limit_3 : Int) (b_2 : Nat) :
    Meets Try.prog 90 [vP b_2, vI limit_3] 1 [1] [⟨1, b_2, [.string (bs r_1.S_), .bool r_1.Bad]⟩] [] (tontineref03_Reader_Text.f n r_1 limit_3) (tontineref03_Reader_Text.R b_2) := by
  refine Meets.of (c := c90_0) (n := 35) Try.func90 (by kernel_rfl) (by kernel_rfl) (by kernel_rfl) fun w0 S0 => ?_
  unfold tontineref03_Reader_Text.f
  show GoO (tontineref03_Reader_Text.cx b_2 w0 S0) [(0, vP b_2), (1, vI limit_3)] [⟨1, b_2, [.string (bs r_1.S_), .bool r_1.Bad]⟩] [] [.code c90_0] _
  refine GoO.seq' c90_0e ?_
  refine GoO.region' (is := [0]) c90_1e (by kernel_rfl) ?_
  refine GoO.exec (is := [0]) (hs := [.p]) (rest := []) (ks := [0, 1]) (env' := [(0, vP b_2), (1, vI limit_3)]) (H' := [⟨1, b_2, [.string (bs r_1.S_), .bool r_1.Bad]⟩]) (ps := []) (by kernel_rfl) trivial ?_
  refine GoO.regionEnd ?_
  refine GoO.seq' c90_2e ?_
  refine GoO.region' (is := [0, 1, 2, 3]) c90_3e (by kernel_rfl) ?_
  refine GoO.exec (is := [0, 1]) (hs := [.p, .p]) (rest := [2, 3]) (ks := [0, 7, 8]) (env' := [(0, vP b_2), (7, vP b_2), (8, vI limit_3)]) (H' := [⟨1, b_2, [.string (bs r_1.S_), .bool r_1.Bad]⟩]) (ps := []) (by kernel_rfl) trivial ?_
  refine OpTo.go (GoO.call rfl (by kernel_rfl) (by kernel_rfl) (tontineref03_Reader_Up_ok n r_1 limit_3 b_2) [[0], [1]] [(1, 1)] [(1, 0)] [] (hks := []) (bks := []) (by kernel_rfl) (by kernel_rfl) (by kernel_rfl) (.inl rfl) rfl rfl (by kernel_rfl) (by kernel_rfl) _ (fun _ _ => rfl) _ _ (fun _ _ => rfl) (fun _ _ => rfl) (fun _ _ => by kernel_rfl) (fun _ _ => by kernel_rfl) (fun r_4 x_10 => ?_))
  refine GoO.shape (env' := [(0, vP b_2), (7, vP b_2), (8, vI limit_3), (9, vI r_4.1)]) (H' := [⟨1, b_2, [.string (bs r_4.2.S_), .bool r_4.2.Bad]⟩]) (B' := []) (ks := [0, 7, 8, 9]) (by kernel_rfl) (by kernel_rfl) (by kernel_rfl) ?_
  refine GoO.exec (is := [3]) (hs := [.p]) (rest := []) (ks := [0, 5]) (env' := [(0, vP b_2), (5, vI r_4.1)]) (H' := [⟨1, b_2, [.string (bs r_4.2.S_), .bool r_4.2.Bad]⟩]) (ps := []) (by kernel_rfl) trivial ?_
  refine GoO.regionEnd ?_
  refine GoO.seq' c90_4e ?_
  refine GoO.seq' c90_5e ?_
  refine GoO.region' (is := [0, 1, 2, 3, 4, 5, 6]) c90_6e (by kernel_rfl) ?_
  refine GoO.exec (is := [0, 1, 2, 3, 4, 5, 6]) (hs := [.p, .p, .p, .p, .b 0, .p, .p]) (rest := []) (ks := [0, 5, 16]) (env' := [(0, vP b_2), (5, vI r_4.1), (16, .bool (decide (r_4.1 > (r_4.2.S_.length : Int))))]) (H' := [⟨1, b_2, [.string (bs r_4.2.S_), .bool r_4.2.Bad]⟩]) (ps := [b_2 = b_2]) (by kernel_rfl) (And.intro rfl trivial) ?_
  refine GoO.regionEnd ?_
  refine GoO.ite' c90_7e (by kernel_rfl) (fun h5 => ?_) (fun h5 => ?_)
  · refine GoO.seq' c90_8e ?_
    refine GoO.region' (is := [0, 1]) c90_9e (by kernel_rfl) ?_
    refine GoO.exec (is := [0]) (hs := [.p]) (rest := [1]) (ks := [17]) (env' := [(17, vP b_2)]) (H' := [⟨1, b_2, [.string (bs r_4.2.S_), .bool r_4.2.Bad]⟩]) (ps := []) (by kernel_rfl) trivial ?_
    refine OpTo.go (GoO.call rfl (by kernel_rfl) (by kernel_rfl) (tontineref03_Reader_Fail_ok n r_4.2 b_2) [[0], [1]] [(1, 1)] [(1, 0)] [] (hks := []) (bks := []) (by kernel_rfl) (by kernel_rfl) (by kernel_rfl) (.inl rfl) rfl rfl (by kernel_rfl) (by kernel_rfl) _ (fun _ _ => rfl) _ _ (fun _ _ => rfl) (fun _ _ => rfl) (fun _ _ => by kernel_rfl) (fun _ _ => by kernel_rfl) (fun r_6 x_7 => ?_))
    refine GoO.shape (env' := [(17, vP b_2), (18, .tuple ⟨[]⟩)]) (H' := [⟨1, b_2, [.string (bs r_6.S_), .bool r_6.Bad]⟩]) (B' := []) (ks := [17, 18]) (by kernel_rfl) (by kernel_rfl) (by kernel_rfl) ?_
    refine GoO.regionEnd ?_
    refine GoO.seq' c90_10e ?_
    refine GoO.region' (is := [0]) c90_11e (by kernel_rfl) ?_
    refine GoO.exec (is := [0]) (hs := [.p]) (rest := []) (ks := [4]) (env' := [(4, .string (bs []))]) (H' := [⟨1, b_2, [.string (bs r_6.S_), .bool r_6.Bad]⟩]) (ps := []) (by kernel_rfl) trivial ?_
    refine GoO.regionEnd ?_
    exact GoO.ret' (h := c90_12e) (hs := []) (ps := []) (hk := [0]) (bk := []) Try.func90 () (by kernel_rfl) trivial (by kernel_rfl) (by kernel_rfl)
  · refine GoO.skip' c90_13e ?_
    refine GoO.seq' c90_14e ?_
    refine GoO.region' (is := [0, 1, 2, 3, 4, 5, 6]) c90_15e (by kernel_rfl) ?_
    refine GoO.guard (fun h8 => ?_)
    refine GoO.exec (is := [0, 1, 2, 3, 4, 5, 6]) (hs := [.p, .p, .p, .b 0, .p, .p, .p]) (rest := []) (ks := [0, 5, 6]) (env' := [(0, vP b_2), (5, vI r_4.1), (6, .string (bs (r_4.2.S_.take r_4.1.toNat)))]) (H' := [⟨1, b_2, [.string (bs r_4.2.S_), .bool r_4.2.Bad]⟩]) (ps := [b_2 = b_2, (0 : Int) ≤ r_4.1, r_4.1 ≤ (r_4.2.S_.length : Int)]) (by kernel_rfl) (And.intro rfl (And.intro h8.1 (And.intro h8.2 trivial))) ?_
    refine GoO.regionEnd ?_
    refine GoO.seq' c90_16e ?_
    refine GoO.region' (is := [0, 1, 2, 3, 4, 5, 6, 7, 8, 9]) c90_17e (by kernel_rfl) ?_
    refine GoO.guard (fun h9 => ?_)
    refine GoO.exec (is := [0, 1, 2, 3, 4, 5, 6, 7, 8, 9]) (hs := [.p, .p, .p, .p, .b 0, .p, .p, .p, .p, .b 0]) (rest := []) (ks := [6]) (env' := [(6, .string (bs (r_4.2.S_.take r_4.1.toNat)))]) (H' := [⟨1, b_2, [.string (bs (r_4.2.S_.drop r_4.1.toNat)), .bool r_4.2.Bad]⟩]) (ps := [b_2 = b_2, (0 : Int) ≤ r_4.1, r_4.1 ≤ (r_4.2.S_.length : Int), b_2 = b_2]) (by kernel_rfl) (And.intro rfl (And.intro h9.1 (And.intro h9.2 (And.intro rfl trivial)))) ?_
    refine GoO.regionEnd ?_
    refine GoO.seq' c90_18e ?_
    refine GoO.region' (is := [0, 1]) c90_19e (by kernel_rfl) ?_
    refine GoO.exec (is := [0, 1]) (hs := [.p, .p]) (rest := []) (ks := [4]) (env' := [(4, .string (bs (r_4.2.S_.take r_4.1.toNat)))]) (H' := [⟨1, b_2, [.string (bs (r_4.2.S_.drop r_4.1.toNat)), .bool r_4.2.Bad]⟩]) (ps := []) (by kernel_rfl) trivial ?_
    refine GoO.regionEnd ?_
    exact GoO.ret' (h := c90_20e) (hs := []) (ps := []) (hk := [0]) (bk := []) Try.func90 () (by kernel_rfl) trivial (by kernel_rfl) (by kernel_rfl)
/-! tontine/tontineref13.Read -/
noncomputable def c73_0 : Code := bodyOf Try.f73
noncomputable def c73_1 : Code := cdL c73_0
noncomputable def c73_2 : Code := cdR c73_0
noncomputable def c73_3 : Code := cdL c73_2
noncomputable def c73_4 : Code := cdR c73_2
noncomputable def c73_5 : Code := cdL c73_4
noncomputable def c73_6 : Code := cdR c73_4
noncomputable def c73_7 : Code := cdL c73_6
noncomputable def c73_8 : Code := cdL c73_7
noncomputable def c73_9 : Code := cdR c73_7
noncomputable def c73_10 : Code := cdL c73_9
noncomputable def c73_11 : Code := cdL c73_10
noncomputable def c73_12 : Code := cdL c73_11
noncomputable def c73_13 : Code := cdL c73_12
noncomputable def c73_14 : Code := cdR c73_12
noncomputable def c73_15 : Code := cdL c73_14
noncomputable def c73_16 : Code := cdR c73_14
noncomputable def c73_17 : Code := cdR c73_11
noncomputable def c73_18 : Code := cdL c73_17
noncomputable def c73_19 : Code := cdL c73_18
noncomputable def c73_20 : Code := cdL c73_19
noncomputable def c73_21 : Code := cdR c73_19
noncomputable def c73_22 : Code := cdL c73_21
noncomputable def c73_23 : Code := cdR c73_21
noncomputable def c73_24 : Code := cdL c73_23
noncomputable def c73_25 : Code := cdR c73_23
noncomputable def c73_26 : Code := cdR c73_17
noncomputable def c73_27 : Code := cdR c73_6
noncomputable def c73_28 : Code := cdL c73_27
noncomputable def c73_29 : Code := cdL c73_28
noncomputable def c73_30 : Code := cdR c73_28
noncomputable def c73_31 : Code := cdL c73_30
noncomputable def c73_32 : Code := cdL c73_31
noncomputable def c73_33 : Code := cdR c73_31
noncomputable def c73_34 : Code := cdR c73_30
noncomputable def c73_35 : Code := cdR c73_27
noncomputable def c73_36 : Code := cdL c73_35
noncomputable def c73_37 : Code := cdR c73_35
noncomputable def r73_1 : Array Oper := cdO c73_1
noncomputable def r73_3 : Array Oper := cdO c73_3
noncomputable def r73_5 : Array Oper := cdO c73_5
noncomputable def r73_8 : Array Oper := cdO c73_8
noncomputable def r73_13 : Array Oper := cdO c73_13
noncomputable def r73_20 : Array Oper := cdO c73_20
noncomputable def r73_22 : Array Oper := cdO c73_22
noncomputable def r73_24 : Array Oper := cdO c73_24
noncomputable def r73_25 : Array Oper := cdO c73_25
noncomputable def r73_26 : Array Oper := cdO c73_26
noncomputable def r73_29 : Array Oper := cdO c73_29
noncomputable def r73_32 : Array Oper := cdO c73_32
noncomputable def r73_36 : Array Oper := cdO c73_36
theorem c73_0e : c73_0 = .seq c73_1 c73_2 := by kernel_rfl
theorem c73_1e : c73_1 = .region 0 r73_1 false := by kernel_rfl
theorem c73_2e : c73_2 = .seq c73_3 c73_4 := by kernel_rfl
theorem c73_3e : c73_3 = .region 1 r73_3 false := by kernel_rfl
theorem c73_4e : c73_4 = .seq c73_5 c73_6 := by kernel_rfl
theorem c73_5e : c73_5 = .region 2 r73_5 false := by kernel_rfl
theorem c73_6e : c73_6 = .seq c73_7 c73_27 := by kernel_rfl
theorem c73_7e : c73_7 = .seq c73_8 c73_9 := by kernel_rfl
theorem c73_8e : c73_8 = .region 3 r73_8 false := by kernel_rfl
theorem c73_9e : c73_9 = .block 0 c73_10 := by kernel_rfl
theorem c73_10e : c73_10 = .loop c73_11 := by kernel_rfl
theorem c73_11e : c73_11 = .seq c73_12 c73_17 := by kernel_rfl
theorem c73_12e : c73_12 = .seq c73_13 c73_14 := by kernel_rfl
theorem c73_13e : c73_13 = .region 4 r73_13 false := by kernel_rfl
theorem c73_14e : c73_14 = .cond (cdC c73_14) c73_15 c73_16 := by kernel_rfl
theorem c73_15e : c73_15 = .skip := by kernel_rfl
theorem c73_16e : c73_16 = .exit 0 := by kernel_rfl
theorem c73_17e : c73_17 = .seq c73_18 c73_26 := by kernel_rfl
theorem c73_18e : c73_18 = .block 1 c73_19 := by kernel_rfl
theorem c73_19e : c73_19 = .seq c73_20 c73_21 := by kernel_rfl
theorem c73_20e : c73_20 = .region 6 r73_20 false := by kernel_rfl
theorem c73_21e : c73_21 = .seq c73_22 c73_23 := by kernel_rfl
theorem c73_22e : c73_22 = .region 7 r73_22 false := by kernel_rfl
theorem c73_23e : c73_23 = .seq c73_24 c73_25 := by kernel_rfl
theorem c73_24e : c73_24 = .region 8 r73_24 false := by kernel_rfl
theorem c73_25e : c73_25 = .region 9 r73_25 false := by kernel_rfl
theorem c73_26e : c73_26 = .region 5 r73_26 false := by kernel_rfl
theorem c73_27e : c73_27 = .seq c73_28 c73_35 := by kernel_rfl
theorem c73_28e : c73_28 = .seq c73_29 c73_30 := by kernel_rfl
theorem c73_29e : c73_29 = .region 10 r73_29 false := by kernel_rfl
theorem c73_30e : c73_30 = .cond (cdC c73_30) c73_31 c73_34 := by kernel_rfl
theorem c73_31e : c73_31 = .seq c73_32 c73_33 := by kernel_rfl
theorem c73_32e : c73_32 = .region 11 r73_32 false := by kernel_rfl
theorem c73_33e : c73_33 = .ret := by kernel_rfl
theorem c73_34e : c73_34 = .skip := by kernel_rfl
theorem c73_35e : c73_35 = .seq c73_36 c73_37 := by kernel_rfl
theorem c73_36e : c73_36 = .region 12 r73_36 false := by kernel_rfl
theorem c73_37e : c73_37 = .ret := by kernel_rfl
noncomputable def tontineref13_Read.R (b_2 : Nat) : Pst ((List T_api_Step) × T_tontineref03_Reader) where
  ε := Option Addr × Nat
  v := fun r x => .slice x.1 r.1.length x.2
  H := fun r x => [⟨1, b_2, [.string (bs r.2.S_), .bool r.2.Bad]⟩]
  B := fun r x => [Ow 2 kT_api_Step x.1 x.2 r.1]
noncomputable def tontineref13_Read.cx (b_2 : Nat) (w0 : World) (S0 : Fam) : Cx ((List T_api_Step) × T_tontineref03_Reader) := ⟨Try.prog, 73, Try.f73, 34, w0, S0, [1], 1, tontineref13_Read.R b_2⟩
theorem tontineref13_Read_l0_ok (n : Nat) (r_3 : Int × T_tontineref03_Reader) (b_2 : Nat) (w0 : World) (S0 : Fam) :
    ∀ (k : Nat) (f_4 : (List UInt8)) (f_5 : Bool) (l_6 : (List T_api_Step)) (i_9 : Int) (A_7 : Option Addr) (c_8 : Nat), GoO (tontineref13_Read.cx b_2 w0 S0) [(0, vP b_2), (3, .slice A_7 l_6.length c_8), (4, vI r_3.1), (5, vI i_9)] [⟨1, b_2, [.string (bs f_4), .bool f_5]⟩] [Ow 41 kT_api_Step A_7 c_8 l_6] [.code c73_11, .inLoop c73_11, .inBlock 0, .code c73_27] (tontineref13_Read.l0 n r_3 k f_4 f_5 l_6 i_9) := by
  intro k
  induction k with
  | zero => intros; rw [tontineref13_Read.l0.eq_1]; exact GoO.stop
  | succ k ih0 =>
    intro f_4 f_5 l_6 i_9 A_7 c_8
    rw [tontineref13_Read.l0.eq_2]
    refine GoO.seq' c73_11e ?_
    refine GoO.seq' c73_12e ?_
    refine GoO.region' (is := [0, 1, 2]) c73_13e (by kernel_rfl) ?_
    refine GoO.exec (is := [0, 1, 2]) (hs := [.p, .p, .p]) (rest := []) (ks := [0, 3, 4, 5, 13]) (env' := [(0, vP b_2), (3, .slice A_7 l_6.length c_8), (4, vI r_3.1), (5, vI i_9), (13, .bool (decide (i_9 < r_3.1)))]) (H' := [⟨1, b_2, [.string (bs f_4), .bool f_5]⟩]) (ps := []) (by kernel_rfl) trivial ?_
    refine GoO.regionEnd ?_
    refine GoO.ite' c73_14e (by kernel_rfl) (fun h10 => ?_) (fun h10 => ?_)
    · refine GoO.skip' c73_15e ?_
      refine GoO.seq' c73_17e ?_
      refine GoO.block' c73_18e ?_
      refine GoO.seq' c73_19e ?_
      refine GoO.region' (is := [0, 1, 2]) c73_20e (by kernel_rfl) ?_
      refine GoO.exec (is := [0]) (hs := [.p]) (rest := [1, 2]) (ks := [0, 3, 4, 5, 16]) (env' := [(0, vP b_2), (3, .slice A_7 l_6.length c_8), (4, vI r_3.1), (5, vI i_9), (16, vP b_2)]) (H' := [⟨1, b_2, [.string (bs f_4), .bool f_5]⟩]) (ps := []) (by kernel_rfl) trivial ?_
      refine OpTo.go (GoO.call rfl (by kernel_rfl) (by kernel_rfl) (tontineref03_Reader_Up_ok n (⟨f_4, f_5⟩ : T_tontineref03_Reader) 3 b_2) [[0], [1]] [(1, 1)] [(1, 0)] [] (hks := []) (bks := [0]) (by kernel_rfl) (by kernel_rfl) (by kernel_rfl) (.inl rfl) rfl rfl (by kernel_rfl) (by kernel_rfl) _ (fun _ _ => rfl) _ _ (fun _ _ => rfl) (fun _ _ => rfl) (fun _ _ => by kernel_rfl) (fun _ _ => by kernel_rfl) (fun r_11 x_21 => ?_))
      refine GoO.shape (env' := [(0, vP b_2), (3, .slice A_7 l_6.length c_8), (4, vI r_3.1), (5, vI i_9), (16, vP b_2), (17, vI r_11.1)]) (H' := [⟨1, b_2, [.string (bs r_11.2.S_), .bool r_11.2.Bad]⟩]) (B' := [Ow 41 kT_api_Step A_7 c_8 l_6]) (ks := [0, 3, 4, 5, 16, 17]) (by kernel_rfl) (by kernel_rfl) (by kernel_rfl) ?_
      refine GoO.exec (is := [2]) (hs := [.p]) (rest := []) (ks := [0, 3, 4, 5, 6]) (env' := [(0, vP b_2), (3, .slice A_7 l_6.length c_8), (4, vI r_3.1), (5, vI i_9), (6, vI r_11.1)]) (H' := [⟨1, b_2, [.string (bs r_11.2.S_), .bool r_11.2.Bad]⟩]) (ps := []) (by kernel_rfl) trivial ?_
      refine GoO.regionEnd ?_
      refine GoO.seq' c73_21e ?_
      refine GoO.region' (is := [0, 1, 2]) c73_22e (by kernel_rfl) ?_
      refine GoO.exec (is := [0]) (hs := [.p]) (rest := [1, 2]) (ks := [0, 3, 4, 5, 6, 18]) (env' := [(0, vP b_2), (3, .slice A_7 l_6.length c_8), (4, vI r_3.1), (5, vI i_9), (6, vI r_11.1), (18, vP b_2)]) (H' := [⟨1, b_2, [.string (bs r_11.2.S_), .bool r_11.2.Bad]⟩]) (ps := []) (by kernel_rfl) trivial ?_
      refine OpTo.go (GoO.call rfl (by kernel_rfl) (by kernel_rfl) (tontineref03_Reader_Text_ok n r_11.2 16 b_2) [[0], [1]] [(1, 1)] [(1, 0)] [] (hks := []) (bks := [0]) (by kernel_rfl) (by kernel_rfl) (by kernel_rfl) (.inl rfl) rfl rfl (by kernel_rfl) (by kernel_rfl) _ (fun _ _ => rfl) _ _ (fun _ _ => rfl) (fun _ _ => rfl) (fun _ _ => by kernel_rfl) (fun _ _ => by kernel_rfl) (fun r_12 x_20 => ?_))
      refine GoO.shape (env' := [(0, vP b_2), (3, .slice A_7 l_6.length c_8), (4, vI r_3.1), (5, vI i_9), (6, vI r_11.1), (18, vP b_2), (19, .string (bs r_12.1))]) (H' := [⟨1, b_2, [.string (bs r_12.2.S_), .bool r_12.2.Bad]⟩]) (B' := [Ow 41 kT_api_Step A_7 c_8 l_6]) (ks := [0, 3, 4, 5, 6, 18, 19]) (by kernel_rfl) (by kernel_rfl) (by kernel_rfl) ?_
      refine GoO.exec (is := [2]) (hs := [.p]) (rest := []) (ks := [0, 3, 4, 5, 6, 7]) (env' := [(0, vP b_2), (3, .slice A_7 l_6.length c_8), (4, vI r_3.1), (5, vI i_9), (6, vI r_11.1), (7, .string (bs r_12.1))]) (H' := [⟨1, b_2, [.string (bs r_12.2.S_), .bool r_12.2.Bad]⟩]) (ps := []) (by kernel_rfl) trivial ?_
      refine GoO.regionEnd ?_
      refine GoO.seq' c73_23e ?_
      refine GoO.region' (is := [0, 1, 2]) c73_24e (by kernel_rfl) ?_
      refine GoO.exec (is := [0]) (hs := [.p]) (rest := [1, 2]) (ks := [0, 3, 4, 5, 6, 7, 20]) (env' := [(0, vP b_2), (3, .slice A_7 l_6.length c_8), (4, vI r_3.1), (5, vI i_9), (6, vI r_11.1), (7, .string (bs r_12.1)), (20, vP b_2)]) (H' := [⟨1, b_2, [.string (bs r_12.2.S_), .bool r_12.2.Bad]⟩]) (ps := []) (by kernel_rfl) trivial ?_
      refine OpTo.go (GoO.call rfl (by kernel_rfl) (by kernel_rfl) (tontineref03_Reader_Up_ok n r_12.2 9 b_2) [[0], [1]] [(1, 1)] [(1, 0)] [] (hks := []) (bks := [0]) (by kernel_rfl) (by kernel_rfl) (by kernel_rfl) (.inl rfl) rfl rfl (by kernel_rfl) (by kernel_rfl) _ (fun _ _ => rfl) _ _ (fun _ _ => rfl) (fun _ _ => rfl) (fun _ _ => by kernel_rfl) (fun _ _ => by kernel_rfl) (fun r_13 x_19 => ?_))
      refine GoO.shape (env' := [(0, vP b_2), (3, .slice A_7 l_6.length c_8), (4, vI r_3.1), (5, vI i_9), (6, vI r_11.1), (7, .string (bs r_12.1)), (20, vP b_2), (21, vI r_13.1)]) (H' := [⟨1, b_2, [.string (bs r_13.2.S_), .bool r_13.2.Bad]⟩]) (B' := [Ow 41 kT_api_Step A_7 c_8 l_6]) (ks := [0, 3, 4, 5, 6, 7, 20, 21]) (by kernel_rfl) (by kernel_rfl) (by kernel_rfl) ?_
      refine GoO.exec (is := [2]) (hs := [.p]) (rest := []) (ks := [0, 3, 4, 5, 6, 7, 8]) (env' := [(0, vP b_2), (3, .slice A_7 l_6.length c_8), (4, vI r_3.1), (5, vI i_9), (6, vI r_11.1), (7, .string (bs r_12.1)), (8, vI r_13.1)]) (H' := [⟨1, b_2, [.string (bs r_13.2.S_), .bool r_13.2.Bad]⟩]) (ps := []) (by kernel_rfl) trivial ?_
      refine GoO.regionEnd ?_
      refine GoO.region' (is := [0, 1, 2, 3, 4, 5, 6, 7]) c73_25e (by kernel_rfl) ?_
      refine GoO.exec (is := [0, 1, 2, 3, 4]) (hs := [.p, .p, .p, .p, .p]) (rest := [5, 6, 7]) (ks := [0, 4, 5, 22, 26]) (env' := [(0, vP b_2), (4, vI r_3.1), (5, vI i_9), (22, .slice A_7 l_6.length c_8), (26, .agg ⟨[vI r_11.1, .string (bs r_12.1), vI r_13.1]⟩)]) (H' := [⟨1, b_2, [.string (bs r_13.2.S_), .bool r_13.2.Bad]⟩]) (ps := []) (by kernel_rfl) trivial ?_
      refine OpTo.go (GoO.lit (e := 160) (K := kT_api_Step) rfl (by kernel_rfl) (by kernel_rfl) (cs := [vI r_11.1, .string (bs r_12.1), vI r_13.1]) (by kernel_rfl) [(⟨r_11.1, r_12.1, r_13.1⟩ : T_api_Step)] (by kernel_rfl) (by kernel_rfl) (fun w S hB => ⟨[vI r_11.1, .string (bs r_12.1), vI r_13.1], _, rfl, rfl, rfl⟩) 40 _ (fun _ _ => rfl) (fun A_14 c_15 => ?_))
      refine GoO.guard (fun h16 => ?_)
      refine OpTo.go (GoO.appW (e := 160) (K := kT_api_Step) (A := A_7) (c := c_8) (tg := 41) (bytes := 32) (zs := [vI 0, .string (bs []), vI 0]) (xs := l_6) (ys := [(⟨r_11.1, r_12.1, r_13.1⟩ : T_api_Step)]) (xv := .slice A_14 [(⟨r_11.1, r_12.1, r_13.1⟩ : T_api_Step)].length c_15) (j := 1) (bk := [0]) rfl (by kernel_rfl) (by kernel_rfl) (by kernel_rfl) (by kernel_rfl) rfl (by kernel_rfl) rfl (fun w S hB => SrcIs.row (Reads.own w S (hB _ (List.mem_of_getElem? (i := 0) rfl)))) h16 rfl rfl rfl rfl _ (fun _ _ => rfl) (fun A_17 c_18 => ?_))
      refine GoO.exec (is := [7]) (hs := [.p]) (rest := []) (ks := [0, 3, 4, 5]) (env' := [(0, vP b_2), (3, .slice A_17 (l_6 ++ [(⟨r_11.1, r_12.1, r_13.1⟩ : T_api_Step)]).length c_18), (4, vI r_3.1), (5, vI i_9)]) (H' := [⟨1, b_2, [.string (bs r_13.2.S_), .bool r_13.2.Bad]⟩]) (ps := []) (by kernel_rfl) trivial ?_
      refine GoO.regionEnd ?_
      refine GoO.inBlock ?_
      refine GoO.region' (is := [0, 1, 2]) c73_26e (by kernel_rfl) ?_
      refine GoO.exec (is := [0, 1, 2]) (hs := [.p, .p, .p]) (rest := []) (ks := [0, 3, 4, 5]) (env' := [(0, vP b_2), (3, .slice A_17 (l_6 ++ [(⟨r_11.1, r_12.1, r_13.1⟩ : T_api_Step)]).length c_18), (4, vI r_3.1), (5, vI (wi64 (i_9 + 1)))]) (H' := [⟨1, b_2, [.string (bs r_13.2.S_), .bool r_13.2.Bad]⟩]) (ps := []) (by kernel_rfl) trivial ?_
      refine GoO.regionEnd ?_
      refine GoO.inLoop ?_
      exact GoO.sub (ks := [0, 3, 4, 5]) (hk := [0]) (bk := [0]) (by kernel_rfl) (by kernel_rfl) (by kernel_rfl) (ih0 r_13.2.S_ r_13.2.Bad (l_6 ++ [(⟨r_11.1, r_12.1, r_13.1⟩ : T_api_Step)]) (wi64 (i_9 + 1)) A_17 c_18)
    · refine GoO.exit' c73_16e rfl ?_
      refine GoO.seq' c73_27e ?_
      refine GoO.seq' c73_28e ?_
      refine GoO.region' (is := [0, 1, 2, 3]) c73_29e (by kernel_rfl) ?_
      refine GoO.exec (is := [0, 1, 2, 3]) (hs := [.p, .p, .p, .b 0]) (rest := []) (ks := [3, 32]) (env' := [(3, .slice A_7 l_6.length c_8), (32, .bool f_5)]) (H' := [⟨1, b_2, [.string (bs f_4), .bool f_5]⟩]) (ps := [b_2 = b_2]) (by kernel_rfl) (And.intro rfl trivial) ?_
      refine GoO.regionEnd ?_
      refine GoO.ite' c73_30e (by kernel_rfl) (fun h22 => ?_) (fun h22 => ?_)
      · refine GoO.seq' c73_31e ?_
        refine GoO.region' (is := [0]) c73_32e (by kernel_rfl) ?_
        refine GoO.exec (is := [0]) (hs := [.p]) (rest := []) (ks := [2]) (env' := [(2, .slice none ([] : List T_api_Step).length 0)]) (H' := [⟨1, b_2, [.string (bs f_4), .bool f_5]⟩]) (ps := []) (by kernel_rfl) trivial ?_
        refine GoO.regionEnd ?_
        refine GoO.nilOwn kT_api_Step 2 ?_
        exact GoO.ret' (h := c73_33e) (hs := []) (ps := []) (hk := [0]) (bk := [0]) Try.func73 (⟨none, 0⟩ : Option Addr × Nat) (by kernel_rfl) trivial (by kernel_rfl) (by kernel_rfl)
      · refine GoO.skip' c73_34e ?_
        refine GoO.seq' c73_35e ?_
        refine GoO.region' (is := [0, 1]) c73_36e (by kernel_rfl) ?_
        refine GoO.exec (is := [0, 1]) (hs := [.p, .p]) (rest := []) (ks := [2]) (env' := [(2, .slice A_7 l_6.length c_8)]) (H' := [⟨1, b_2, [.string (bs f_4), .bool f_5]⟩]) (ps := []) (by kernel_rfl) trivial ?_
        refine GoO.regionEnd ?_
        refine GoO.retag (t := 41) (u := 2) (j := 0) (hk := [0]) (bk := []) rfl rfl rfl rfl rfl rfl (by kernel_rfl) (by kernel_rfl) ?_
        exact GoO.ret' (h := c73_37e) (hs := []) (ps := []) (hk := [0]) (bk := [0]) Try.func73 (⟨A_7, c_8⟩ : Option Addr × Nat) (by kernel_rfl) trivial (by kernel_rfl) (by kernel_rfl)
theorem tontineref13_Read_ok (n : Nat) (r_1 : T_tontineref03_Reader) (b_2 : Nat) :
    Meets Try.prog 73 [vP b_2] 1 [1] [⟨1, b_2, [.string (bs r_1.S_), .bool r_1.Bad]⟩] [] (tontineref13_Read.f n r_1) (tontineref13_Read.R b_2) := by
  refine Meets.of (c := c73_0) (n := 34) Try.func73 (by kernel_rfl) (by kernel_rfl) (by kernel_rfl) fun w0 S0 => ?_
  unfold tontineref13_Read.f
  show GoO (tontineref13_Read.cx b_2 w0 S0) [(0, vP b_2)] [⟨1, b_2, [.string (bs r_1.S_), .bool r_1.Bad]⟩] [] [.code c73_0] _
  refine GoO.seq' c73_0e ?_
  refine GoO.region' (is := [0]) c73_1e (by kernel_rfl) ?_
  refine GoO.exec (is := [0]) (hs := [.p]) (rest := []) (ks := [0]) (env' := [(0, vP b_2)]) (H' := [⟨1, b_2, [.string (bs r_1.S_), .bool r_1.Bad]⟩]) (ps := []) (by kernel_rfl) trivial ?_
  refine GoO.regionEnd ?_
  refine GoO.seq' c73_2e ?_
  refine GoO.region' (is := [0]) c73_3e (by kernel_rfl) ?_
  refine GoO.exec (is := [0]) (hs := [.p]) (rest := []) (ks := [0, 3]) (env' := [(0, vP b_2), (3, .slice none ([] : List T_api_Step).length 0)]) (H' := [⟨1, b_2, [.string (bs r_1.S_), .bool r_1.Bad]⟩]) (ps := []) (by kernel_rfl) trivial ?_
  refine GoO.regionEnd ?_
  refine GoO.seq' c73_4e ?_
  refine GoO.region' (is := [0, 1, 2]) c73_5e (by kernel_rfl) ?_
  refine GoO.exec (is := [0]) (hs := [.p]) (rest := [1, 2]) (ks := [0, 3, 9]) (env' := [(0, vP b_2), (3, .slice none ([] : List T_api_Step).length 0), (9, vP b_2)]) (H' := [⟨1, b_2, [.string (bs r_1.S_), .bool r_1.Bad]⟩]) (ps := []) (by kernel_rfl) trivial ?_
  refine OpTo.go (GoO.call rfl (by kernel_rfl) (by kernel_rfl) (tontineref03_Reader_Up_ok n r_1 64 b_2) [[0], [1]] [(1, 1)] [(1, 0)] [] (hks := []) (bks := []) (by kernel_rfl) (by kernel_rfl) (by kernel_rfl) (.inl rfl) rfl rfl (by kernel_rfl) (by kernel_rfl) _ (fun _ _ => rfl) _ _ (fun _ _ => rfl) (fun _ _ => rfl) (fun _ _ => by kernel_rfl) (fun _ _ => by kernel_rfl) (fun r_3 x_23 => ?_))
  refine GoO.shape (env' := [(0, vP b_2), (3, .slice none ([] : List T_api_Step).length 0), (9, vP b_2), (10, vI r_3.1)]) (H' := [⟨1, b_2, [.string (bs r_3.2.S_), .bool r_3.2.Bad]⟩]) (B' := []) (ks := [0, 3, 9, 10]) (by kernel_rfl) (by kernel_rfl) (by kernel_rfl) ?_
  refine GoO.exec (is := [2]) (hs := [.p]) (rest := []) (ks := [0, 3, 4]) (env' := [(0, vP b_2), (3, .slice none ([] : List T_api_Step).length 0), (4, vI r_3.1)]) (H' := [⟨1, b_2, [.string (bs r_3.2.S_), .bool r_3.2.Bad]⟩]) (ps := []) (by kernel_rfl) trivial ?_
  refine GoO.regionEnd ?_
  refine GoO.seq' c73_6e ?_
  refine GoO.seq' c73_7e ?_
  refine GoO.region' (is := [0]) c73_8e (by kernel_rfl) ?_
  refine GoO.exec (is := [0]) (hs := [.p]) (rest := []) (ks := [0, 3, 4, 5]) (env' := [(0, vP b_2), (3, .slice none ([] : List T_api_Step).length 0), (4, vI r_3.1), (5, vI 0)]) (H' := [⟨1, b_2, [.string (bs r_3.2.S_), .bool r_3.2.Bad]⟩]) (ps := []) (by kernel_rfl) trivial ?_
  refine GoO.regionEnd ?_
  refine GoO.block' c73_9e ?_
  refine GoO.loop' c73_10e ?_
  refine GoO.nilOwn kT_api_Step 41 ?_
  exact GoO.sub (ks := [0, 3, 4, 5]) (hk := [0]) (bk := [0]) (by kernel_rfl) (by kernel_rfl) (by kernel_rfl) (tontineref13_Read_l0_ok n r_3 b_2 w0 S0 n r_3.2.S_ r_3.2.Bad ([] : List T_api_Step) 0 none 0)
/-! tontine/tontineref13.Check -/
noncomputable def c91_0 : Code := bodyOf Try.f91
noncomputable def c91_1 : Code := cdL c91_0
noncomputable def c91_2 : Code := cdR c91_0
noncomputable def c91_3 : Code := cdL c91_2
noncomputable def c91_4 : Code := cdR c91_2
noncomputable def c91_5 : Code := cdL c91_4
noncomputable def c91_6 : Code := cdL c91_5
noncomputable def c91_7 : Code := cdR c91_5
noncomputable def c91_8 : Code := cdL c91_7
noncomputable def c91_9 : Code := cdL c91_8
noncomputable def c91_10 : Code := cdL c91_9
noncomputable def c91_11 : Code := cdL c91_10
noncomputable def c91_12 : Code := cdR c91_10
noncomputable def c91_13 : Code := cdL c91_12
noncomputable def c91_14 : Code := cdR c91_12
noncomputable def c91_15 : Code := cdR c91_9
noncomputable def c91_16 : Code := cdL c91_15
noncomputable def c91_17 : Code := cdL c91_16
noncomputable def c91_18 : Code := cdL c91_17
noncomputable def c91_19 : Code := cdR c91_17
noncomputable def c91_20 : Code := cdR c91_15
noncomputable def c91_21 : Code := cdR c91_4
noncomputable def c91_22 : Code := cdL c91_21
noncomputable def c91_23 : Code := cdL c91_22
noncomputable def c91_24 : Code := cdR c91_22
noncomputable def c91_25 : Code := cdL c91_24
noncomputable def c91_26 : Code := cdL c91_25
noncomputable def c91_27 : Code := cdR c91_25
noncomputable def c91_28 : Code := cdR c91_24
noncomputable def c91_29 : Code := cdR c91_21
noncomputable def c91_30 : Code := cdL c91_29
noncomputable def c91_31 : Code := cdR c91_29
noncomputable def r91_1 : Array Oper := cdO c91_1
noncomputable def r91_3 : Array Oper := cdO c91_3
noncomputable def r91_6 : Array Oper := cdO c91_6
noncomputable def r91_11 : Array Oper := cdO c91_11
noncomputable def r91_18 : Array Oper := cdO c91_18
noncomputable def r91_19 : Array Oper := cdO c91_19
noncomputable def r91_20 : Array Oper := cdO c91_20
noncomputable def r91_23 : Array Oper := cdO c91_23
noncomputable def r91_26 : Array Oper := cdO c91_26
noncomputable def r91_30 : Array Oper := cdO c91_30
theorem c91_0e : c91_0 = .seq c91_1 c91_2 := by kernel_rfl
theorem c91_1e : c91_1 = .region 0 r91_1 false := by kernel_rfl
theorem c91_2e : c91_2 = .seq c91_3 c91_4 := by kernel_rfl
theorem c91_3e : c91_3 = .region 1 r91_3 false := by kernel_rfl
theorem c91_4e : c91_4 = .seq c91_5 c91_21 := by kernel_rfl
theorem c91_5e : c91_5 = .seq c91_6 c91_7 := by kernel_rfl
theorem c91_6e : c91_6 = .region 2 r91_6 false := by kernel_rfl
theorem c91_7e : c91_7 = .block 0 c91_8 := by kernel_rfl
theorem c91_8e : c91_8 = .loop c91_9 := by kernel_rfl
theorem c91_9e : c91_9 = .seq c91_10 c91_15 := by kernel_rfl
theorem c91_10e : c91_10 = .seq c91_11 c91_12 := by kernel_rfl
theorem c91_11e : c91_11 = .region 3 r91_11 false := by kernel_rfl
theorem c91_12e : c91_12 = .cond (cdC c91_12) c91_13 c91_14 := by kernel_rfl
theorem c91_13e : c91_13 = .skip := by kernel_rfl
theorem c91_14e : c91_14 = .exit 0 := by kernel_rfl
theorem c91_15e : c91_15 = .seq c91_16 c91_20 := by kernel_rfl
theorem c91_16e : c91_16 = .block 1 c91_17 := by kernel_rfl
theorem c91_17e : c91_17 = .seq c91_18 c91_19 := by kernel_rfl
theorem c91_18e : c91_18 = .region 5 r91_18 false := by kernel_rfl
theorem c91_19e : c91_19 = .region 6 r91_19 false := by kernel_rfl
theorem c91_20e : c91_20 = .region 4 r91_20 false := by kernel_rfl
theorem c91_21e : c91_21 = .seq c91_22 c91_29 := by kernel_rfl
theorem c91_22e : c91_22 = .seq c91_23 c91_24 := by kernel_rfl
theorem c91_23e : c91_23 = .region 7 r91_23 false := by kernel_rfl
theorem c91_24e : c91_24 = .cond (cdC c91_24) c91_25 c91_28 := by kernel_rfl
theorem c91_25e : c91_25 = .seq c91_26 c91_27 := by kernel_rfl
theorem c91_26e : c91_26 = .region 8 r91_26 false := by kernel_rfl
theorem c91_27e : c91_27 = .ret := by kernel_rfl
theorem c91_28e : c91_28 = .skip := by kernel_rfl
theorem c91_29e : c91_29 = .seq c91_30 c91_31 := by kernel_rfl
theorem c91_30e : c91_30 = .region 9 r91_30 false := by kernel_rfl
theorem c91_31e : c91_31 = .ret := by kernel_rfl
noncomputable def tontineref13_Check.R (A_2 : Option Addr) (c_3 : Nat) : Pst Int where
  ε := Unit
  v := fun r x => vI r
  H := fun r x => []
  B := fun r x => []
noncomputable def tontineref13_Check.cx (A_2 : Option Addr) (c_3 : Nat) (w0 : World) (S0 : Fam) : Cx Int := ⟨Try.prog, 91, Try.f91, 59, w0, S0, [], 0, tontineref13_Check.R A_2 c_3⟩
theorem tontineref13_Check_j2_ok (n : Nat) (L0 : Bool → Int → Option Int) (l_1 : (List T_api_Step)) (bad_6 : Bool) (i_7 : Int) (A_2 : Option Addr) (c_3 : Nat) (w0 : World) (S0 : Fam) (ih0 : ∀ (bad_6 : Bool) (i_7 : Int), GoO (tontineref13_Check.cx A_2 c_3 w0 S0) [(0, .slice A_2 l_1.length c_3), (3, .bool bad_6), (4, vI i_7)] [] [Rd 0 kT_api_Step A_2 c_3 l_1] [.code c91_9, .inLoop c91_9, .inBlock 0, .code c91_21] (L0 bad_6 i_7)) (bad_18 : Bool) :
    GoO (tontineref13_Check.cx A_2 c_3 w0 S0) [(0, .slice A_2 l_1.length c_3), (3, .bool bad_18), (4, vI i_7)] [] [Rd 0 kT_api_Step A_2 c_3 l_1] [.inBlock 1, .code c91_20, .inLoop c91_9, .inBlock 0, .code c91_21] (tontineref13_Check.j2 n L0 i_7 bad_18) := by
  unfold tontineref13_Check.j2
  refine GoO.inBlock ?_
  refine GoO.region' (is := [0, 1, 2]) c91_20e (by kernel_rfl) ?_
  refine GoO.exec (is := [0, 1, 2]) (hs := [.p, .p, .p]) (rest := []) (ks := [0, 3, 4]) (env' := [(0, .slice A_2 l_1.length c_3), (3, .bool bad_18), (4, vI (wi64 (i_7 + 1)))]) (H' := []) (ps := []) (by kernel_rfl) trivial ?_
  refine GoO.regionEnd ?_
  refine GoO.inLoop ?_
  exact GoO.sub (ks := [0, 3, 4]) (hk := []) (bk := [0]) (by kernel_rfl) (by kernel_rfl) (by kernel_rfl) (ih0 bad_18 (wi64 (i_7 + 1)))
theorem tontineref13_Check_j1_ok (n : Nat) (L0 : Bool → Int → Option Int) (l_1 : (List T_api_Step)) (bad_6 : Bool) (i_7 : Int) (A_2 : Option Addr) (c_3 : Nat) (w0 : World) (S0 : Fam) (ih0 : ∀ (bad_6 : Bool) (i_7 : Int), GoO (tontineref13_Check.cx A_2 c_3 w0 S0) [(0, .slice A_2 l_1.length c_3), (3, .bool bad_6), (4, vI i_7)] [] [Rd 0 kT_api_Step A_2 c_3 l_1] [.code c91_9, .inLoop c91_9, .inBlock 0, .code c91_21] (L0 bad_6 i_7)) (b_9 : Bool) :
    GoO (tontineref13_Check.cx A_2 c_3 w0 S0) [(0, .slice A_2 l_1.length c_3), (3, .bool bad_6), (4, vI i_7), (21, .bool b_9)] [] [Rd 0 kT_api_Step A_2 c_3 l_1] [.code c91_12, .code c91_15, .inLoop c91_9, .inBlock 0, .code c91_21] (tontineref13_Check.j1 n L0 l_1 bad_6 i_7 b_9) := by
  unfold tontineref13_Check.j1
  refine GoO.ite' c91_12e (by kernel_rfl) (fun h10 => ?_) (fun h10 => ?_)
  · refine GoO.skip' c91_13e ?_
    refine GoO.seq' c91_15e ?_
    refine GoO.block' c91_16e ?_
    refine GoO.seq' c91_17e ?_
    refine GoO.region' (is := [0, 1, 2, 3, 4, 5]) c91_18e (by kernel_rfl) ?_
    refine GoO.exec (is := [0, 1]) (hs := [.p, .p]) (rest := [2, 3, 4, 5]) (ks := [0, 4, 24, 25]) (env' := [(0, .slice A_2 l_1.length c_3), (4, vI i_7), (24, .slice A_2 l_1.length c_3), (25, vI i_7)]) (H' := []) (ps := []) (by kernel_rfl) trivial ?_
    refine GoO.guard (fun h11 => ?_)
    refine OpTo.go (GoO.idx (kk := .i64) (e := 160) (K := kT_api_Step) (A := A_2) (c := c_3) (xs := l_1) (iv := i_7) (j := 0) rfl (by kernel_rfl) (by kernel_rfl) (by kernel_rfl) (by kernel_rfl) rfl Reads.rd rfl h11.1 h11.2 (by decide) rfl ?_)
    refine OpTo.go (GoO.ldE' (K := kT_api_Step) (A := A_2) (c := c_3) (xs := l_1) (iN := i_7.toNat) (off := 0) (j := 0) rfl (by kernel_rfl) rfl Reads.rd (by first | exact idx_lt h11.1 h11.2 | (simp only [List.length_set]; exact idx_lt h11.1 h11.2)) (by decide) (Opn.flat _ _ _ _ _) (v := fun _ => .agg ⟨[vI ((rdL l_1 i_7).Part), .string (bs ((rdL l_1 i_7).Name)), vI ((rdL l_1 i_7).Budget)]⟩) (fun _ => by kernel_rfl) _ (fun _ => rfl) (fun _ => ?_))
    refine OpTo.go (GoO.new rfl 40 (cs := [vI 0, .string (bs []), vI 0]) (by kernel_rfl) _ (fun _ => rfl) (fun b_12 => ?_))
    refine GoO.exec (is := [5]) (hs := [.b 0]) (rest := []) (ks := [0, 4, 5]) (env' := [(0, .slice A_2 l_1.length c_3), (4, vI i_7), (5, vP b_12)]) (H' := [⟨40, b_12, [vI ((rdL l_1 i_7).Part), .string (bs ((rdL l_1 i_7).Name)), vI ((rdL l_1 i_7).Budget)]⟩]) (ps := [b_12 = b_12]) (by kernel_rfl) (And.intro rfl trivial) ?_
    refine GoO.regionEnd ?_
    refine GoO.region' (is := [0, 1, 2, 3, 4, 5, 6, 7, 8, 9, 10, 11, 12, 13, 14, 15, 16, 17, 18, 19, 20, 21, 22, 23, 24, 25, 26, 27, 28, 29, 30]) c91_19e (by kernel_rfl) ?_
    refine GoO.exec (is := [0, 1, 2, 3]) (hs := [.p, .b 0, .p, .p]) (rest := [4, 5, 6, 7, 8, 9, 10, 11, 12, 13, 14, 15, 16, 17, 18, 19, 20, 21, 22, 23, 24, 25, 26, 27, 28, 29, 30]) (ks := [0, 4, 5, 31]) (env' := [(0, .slice A_2 l_1.length c_3), (4, vI i_7), (5, vP b_12), (31, .bool (decide (((rdL l_1 i_7).Part) < 0)))]) (H' := [⟨40, b_12, [vI ((rdL l_1 i_7).Part), .string (bs ((rdL l_1 i_7).Name)), vI ((rdL l_1 i_7).Budget)]⟩]) (ps := [b_12 = b_12]) (by kernel_rfl) (And.intro rfl trivial) ?_
    refine GoO.bsplit (t := 31) (by kernel_rfl) (fun h13 => ?_) (fun h13 => ?_)
    · refine GoO.exec (is := [4, 5, 6, 7, 8, 9, 10, 11, 12, 13, 14, 15, 16, 17, 18, 19, 20, 21, 22, 23, 24, 25, 26, 27, 28, 29, 30]) (hs := [.p, .p, .p, .p, .p, .p, .p, .p, .p, .p, .p, .p, .p, .p, .p, .p, .p, .p, .p, .p, .p, .p, .p, .p, .p, .p, .p]) (rest := []) (ks := [0, 3, 4]) (env' := [(0, .slice A_2 l_1.length c_3), (3, .bool true), (4, vI i_7)]) (H' := [⟨40, b_12, [vI ((rdL l_1 i_7).Part), .string (bs ((rdL l_1 i_7).Name)), vI ((rdL l_1 i_7).Budget)]⟩]) (ps := []) (by kernel_rfl) trivial ?_
      refine GoO.regionEnd ?_
      exact GoO.sub (ks := [0, 3, 4]) (hk := []) (bk := [0]) (by kernel_rfl) (by kernel_rfl) (by kernel_rfl) (tontineref13_Check_j2_ok n L0 l_1 bad_6 i_7 A_2 c_3 w0 S0 ih0 true)
    · refine GoO.exec (is := [4, 5, 6, 7, 8]) (hs := [.p, .b 0, .p, .p, .p]) (rest := [9, 10, 11, 12, 13, 14, 15, 16, 17, 18, 19, 20, 21, 22, 23, 24, 25, 26, 27, 28, 29, 30]) (ks := [0, 4, 5, 36]) (env' := [(0, .slice A_2 l_1.length c_3), (4, vI i_7), (5, vP b_12), (36, .bool (decide (((rdL l_1 i_7).Part) > 3)))]) (H' := [⟨40, b_12, [vI ((rdL l_1 i_7).Part), .string (bs ((rdL l_1 i_7).Name)), vI ((rdL l_1 i_7).Budget)]⟩]) (ps := [b_12 = b_12]) (by kernel_rfl) (And.intro rfl trivial) ?_
      refine GoO.bsplit (t := 36) (by kernel_rfl) (fun h14 => ?_) (fun h14 => ?_)
      · refine GoO.exec (is := [9, 10, 11, 12, 13, 14, 15, 16, 17, 18, 19, 20, 21, 22, 23, 24, 25, 26, 27, 28, 29, 30]) (hs := [.p, .p, .p, .p, .p, .p, .p, .p, .p, .p, .p, .p, .p, .p, .p, .p, .p, .p, .p, .p, .p, .p]) (rest := []) (ks := [0, 3, 4]) (env' := [(0, .slice A_2 l_1.length c_3), (3, .bool true), (4, vI i_7)]) (H' := [⟨40, b_12, [vI ((rdL l_1 i_7).Part), .string (bs ((rdL l_1 i_7).Name)), vI ((rdL l_1 i_7).Budget)]⟩]) (ps := []) (by kernel_rfl) trivial ?_
        refine GoO.regionEnd ?_
        exact GoO.sub (ks := [0, 3, 4]) (hk := []) (bk := [0]) (by kernel_rfl) (by kernel_rfl) (by kernel_rfl) (tontineref13_Check_j2_ok n L0 l_1 bad_6 i_7 A_2 c_3 w0 S0 ih0 true)
      · refine GoO.exec (is := [9, 10, 11, 12, 13, 14]) (hs := [.p, .b 0, .p, .p, .p, .p]) (rest := [15, 16, 17, 18, 19, 20, 21, 22, 23, 24, 25, 26, 27, 28, 29, 30]) (ks := [0, 4, 5, 42]) (env' := [(0, .slice A_2 l_1.length c_3), (4, vI i_7), (5, vP b_12), (42, .bool (decide ((((rdL l_1 i_7).Name).length : Int) < 1)))]) (H' := [⟨40, b_12, [vI ((rdL l_1 i_7).Part), .string (bs ((rdL l_1 i_7).Name)), vI ((rdL l_1 i_7).Budget)]⟩]) (ps := [b_12 = b_12]) (by kernel_rfl) (And.intro rfl trivial) ?_
        refine GoO.bsplit (t := 42) (by kernel_rfl) (fun h15 => ?_) (fun h15 => ?_)
        · refine GoO.exec (is := [15, 16, 17, 18, 19, 20, 21, 22, 23, 24, 25, 26, 27, 28, 29, 30]) (hs := [.p, .p, .p, .p, .p, .p, .p, .p, .p, .p, .p, .p, .p, .p, .p, .p]) (rest := []) (ks := [0, 3, 4]) (env' := [(0, .slice A_2 l_1.length c_3), (3, .bool true), (4, vI i_7)]) (H' := [⟨40, b_12, [vI ((rdL l_1 i_7).Part), .string (bs ((rdL l_1 i_7).Name)), vI ((rdL l_1 i_7).Budget)]⟩]) (ps := []) (by kernel_rfl) trivial ?_
          refine GoO.regionEnd ?_
          exact GoO.sub (ks := [0, 3, 4]) (hk := []) (bk := [0]) (by kernel_rfl) (by kernel_rfl) (by kernel_rfl) (tontineref13_Check_j2_ok n L0 l_1 bad_6 i_7 A_2 c_3 w0 S0 ih0 true)
        · refine GoO.exec (is := [15, 16, 17, 18, 19, 20]) (hs := [.p, .b 0, .p, .p, .p, .p]) (rest := [21, 22, 23, 24, 25, 26, 27, 28, 29, 30]) (ks := [0, 4, 5, 48]) (env' := [(0, .slice A_2 l_1.length c_3), (4, vI i_7), (5, vP b_12), (48, .bool (decide ((((rdL l_1 i_7).Name).length : Int) > 16)))]) (H' := [⟨40, b_12, [vI ((rdL l_1 i_7).Part), .string (bs ((rdL l_1 i_7).Name)), vI ((rdL l_1 i_7).Budget)]⟩]) (ps := [b_12 = b_12]) (by kernel_rfl) (And.intro rfl trivial) ?_
          refine GoO.bsplit (t := 48) (by kernel_rfl) (fun h16 => ?_) (fun h16 => ?_)
          · refine GoO.exec (is := [21, 22, 23, 24, 25, 26, 27, 28, 29, 30]) (hs := [.p, .p, .p, .p, .p, .p, .p, .p, .p, .p]) (rest := []) (ks := [0, 3, 4]) (env' := [(0, .slice A_2 l_1.length c_3), (3, .bool true), (4, vI i_7)]) (H' := [⟨40, b_12, [vI ((rdL l_1 i_7).Part), .string (bs ((rdL l_1 i_7).Name)), vI ((rdL l_1 i_7).Budget)]⟩]) (ps := []) (by kernel_rfl) trivial ?_
            refine GoO.regionEnd ?_
            exact GoO.sub (ks := [0, 3, 4]) (hk := []) (bk := [0]) (by kernel_rfl) (by kernel_rfl) (by kernel_rfl) (tontineref13_Check_j2_ok n L0 l_1 bad_6 i_7 A_2 c_3 w0 S0 ih0 true)
          · refine GoO.exec (is := [21, 22, 23, 24, 25]) (hs := [.p, .b 0, .p, .p, .p]) (rest := [26, 27, 28, 29, 30]) (ks := [0, 4, 5, 53]) (env' := [(0, .slice A_2 l_1.length c_3), (4, vI i_7), (5, vP b_12), (53, .bool (decide (((rdL l_1 i_7).Budget) < 1)))]) (H' := [⟨40, b_12, [vI ((rdL l_1 i_7).Part), .string (bs ((rdL l_1 i_7).Name)), vI ((rdL l_1 i_7).Budget)]⟩]) (ps := [b_12 = b_12]) (by kernel_rfl) (And.intro rfl trivial) ?_
            refine GoO.bsplit (t := 53) (by kernel_rfl) (fun h17 => ?_) (fun h17 => ?_)
            · refine GoO.exec (is := [26, 27, 28, 29, 30]) (hs := [.p, .p, .p, .p, .p]) (rest := []) (ks := [0, 3, 4]) (env' := [(0, .slice A_2 l_1.length c_3), (3, .bool true), (4, vI i_7)]) (H' := [⟨40, b_12, [vI ((rdL l_1 i_7).Part), .string (bs ((rdL l_1 i_7).Name)), vI ((rdL l_1 i_7).Budget)]⟩]) (ps := []) (by kernel_rfl) trivial ?_
              refine GoO.regionEnd ?_
              exact GoO.sub (ks := [0, 3, 4]) (hk := []) (bk := [0]) (by kernel_rfl) (by kernel_rfl) (by kernel_rfl) (tontineref13_Check_j2_ok n L0 l_1 bad_6 i_7 A_2 c_3 w0 S0 ih0 true)
            · refine GoO.exec (is := [26, 27, 28, 29, 30]) (hs := [.p, .b 0, .p, .p, .p]) (rest := []) (ks := [0, 3, 4]) (env' := [(0, .slice A_2 l_1.length c_3), (3, .bool (decide (((rdL l_1 i_7).Budget) > 9))), (4, vI i_7)]) (H' := [⟨40, b_12, [vI ((rdL l_1 i_7).Part), .string (bs ((rdL l_1 i_7).Name)), vI ((rdL l_1 i_7).Budget)]⟩]) (ps := [b_12 = b_12]) (by kernel_rfl) (And.intro rfl trivial) ?_
              refine GoO.regionEnd ?_
              exact GoO.sub (ks := [0, 3, 4]) (hk := []) (bk := [0]) (by kernel_rfl) (by kernel_rfl) (by kernel_rfl) (tontineref13_Check_j2_ok n L0 l_1 bad_6 i_7 A_2 c_3 w0 S0 ih0 (decide (((rdL l_1 i_7).Budget) > 9)))
  · refine GoO.exit' c91_14e rfl ?_
    refine GoO.seq' c91_21e ?_
    refine GoO.seq' c91_22e ?_
    refine GoO.region' (is := [0]) c91_23e (by kernel_rfl) ?_
    refine GoO.exec (is := [0]) (hs := [.p]) (rest := []) (ks := [58]) (env' := [(58, .bool bad_6)]) (H' := []) (ps := []) (by kernel_rfl) trivial ?_
    refine GoO.regionEnd ?_
    refine GoO.ite' c91_24e (by kernel_rfl) (fun h19 => ?_) (fun h19 => ?_)
    · refine GoO.seq' c91_25e ?_
      refine GoO.region' (is := [0]) c91_26e (by kernel_rfl) ?_
      refine GoO.exec (is := [0]) (hs := [.p]) (rest := []) (ks := [2]) (env' := [(2, vI 44)]) (H' := []) (ps := []) (by kernel_rfl) trivial ?_
      refine GoO.regionEnd ?_
      exact GoO.ret' (h := c91_27e) (hs := []) (ps := []) (hk := []) (bk := []) Try.func91 () (by kernel_rfl) trivial (by kernel_rfl) (by kernel_rfl)
    · refine GoO.skip' c91_28e ?_
      refine GoO.seq' c91_29e ?_
      refine GoO.region' (is := [0]) c91_30e (by kernel_rfl) ?_
      refine GoO.exec (is := [0]) (hs := [.p]) (rest := []) (ks := [2]) (env' := [(2, vI 0)]) (H' := []) (ps := []) (by kernel_rfl) trivial ?_
      refine GoO.regionEnd ?_
      exact GoO.ret' (h := c91_31e) (hs := []) (ps := []) (hk := []) (bk := []) Try.func91 () (by kernel_rfl) trivial (by kernel_rfl) (by kernel_rfl)
theorem tontineref13_Check_l0_ok (n : Nat) (l_1 : (List T_api_Step)) (A_2 : Option Addr) (c_3 : Nat) (w0 : World) (S0 : Fam) :
    ∀ (k : Nat) (bad_6 : Bool) (i_7 : Int), GoO (tontineref13_Check.cx A_2 c_3 w0 S0) [(0, .slice A_2 l_1.length c_3), (3, .bool bad_6), (4, vI i_7)] [] [Rd 0 kT_api_Step A_2 c_3 l_1] [.code c91_9, .inLoop c91_9, .inBlock 0, .code c91_21] (tontineref13_Check.l0 n l_1 k bad_6 i_7) := by
  intro k
  induction k with
  | zero => intros; rw [tontineref13_Check.l0.eq_1]; exact GoO.stop
  | succ k ih0 =>
    intro bad_6 i_7
    rw [tontineref13_Check.l0.eq_2]
    refine GoO.seq' c91_9e ?_
    refine GoO.seq' c91_10e ?_
    refine GoO.region' (is := [0, 1, 2, 3, 4, 5, 6, 7]) c91_11e (by kernel_rfl) ?_
    refine GoO.exec (is := [0, 1, 2, 3, 4]) (hs := [.p, .p, .p, .p, .p]) (rest := [5, 6, 7]) (ks := [0, 3, 4, 18]) (env' := [(0, .slice A_2 l_1.length c_3), (3, .bool bad_6), (4, vI i_7), (18, .bool (decide (i_7 < (l_1.length : Int))))]) (H' := []) (ps := []) (by kernel_rfl) trivial ?_
    refine GoO.bsplit (t := 18) (by kernel_rfl) (fun h8 => ?_) (fun h8 => ?_)
    · refine GoO.exec (is := [5, 6, 7]) (hs := [.p, .p, .p]) (rest := []) (ks := [0, 3, 4, 21]) (env' := [(0, .slice A_2 l_1.length c_3), (3, .bool bad_6), (4, vI i_7), (21, .bool (!bad_6))]) (H' := []) (ps := []) (by kernel_rfl) trivial ?_
      refine GoO.regionEnd ?_
      exact GoO.sub (ks := [0, 3, 4, 21]) (hk := []) (bk := [0]) (by kernel_rfl) (by kernel_rfl) (by kernel_rfl) (tontineref13_Check_j1_ok n (tontineref13_Check.l0 n l_1 k) l_1 bad_6 i_7 A_2 c_3 w0 S0 ih0 (!bad_6))
    · refine GoO.exec (is := [5, 6, 7]) (hs := [.p, .p, .p]) (rest := []) (ks := [0, 3, 4, 21]) (env' := [(0, .slice A_2 l_1.length c_3), (3, .bool bad_6), (4, vI i_7), (21, .bool false)]) (H' := []) (ps := []) (by kernel_rfl) trivial ?_
      refine GoO.regionEnd ?_
      exact GoO.sub (ks := [0, 3, 4, 21]) (hk := []) (bk := [0]) (by kernel_rfl) (by kernel_rfl) (by kernel_rfl) (tontineref13_Check_j1_ok n (tontineref13_Check.l0 n l_1 k) l_1 bad_6 i_7 A_2 c_3 w0 S0 ih0 false)
theorem tontineref13_Check_j0_ok (n : Nat) (l_1 : (List T_api_Step)) (A_2 : Option Addr) (c_3 : Nat) (w0 : World) (S0 : Fam) (bad_5 : Bool) :
    GoO (tontineref13_Check.cx A_2 c_3 w0 S0) [(0, .slice A_2 l_1.length c_3), (3, .bool bad_5)] [] [Rd 0 kT_api_Step A_2 c_3 l_1] [.code c91_4] (tontineref13_Check.j0 n l_1 bad_5) := by
  unfold tontineref13_Check.j0
  refine GoO.seq' c91_4e ?_
  refine GoO.seq' c91_5e ?_
  refine GoO.region' (is := [0]) c91_6e (by kernel_rfl) ?_
  refine GoO.exec (is := [0]) (hs := [.p]) (rest := []) (ks := [0, 3, 4]) (env' := [(0, .slice A_2 l_1.length c_3), (3, .bool bad_5), (4, vI 0)]) (H' := []) (ps := []) (by kernel_rfl) trivial ?_
  refine GoO.regionEnd ?_
  refine GoO.block' c91_7e ?_
  refine GoO.loop' c91_8e ?_
  exact GoO.sub (ks := [0, 3, 4]) (hk := []) (bk := [0]) (by kernel_rfl) (by kernel_rfl) (by kernel_rfl) (tontineref13_Check_l0_ok n l_1 A_2 c_3 w0 S0 n bad_5 0)
theorem tontineref13_Check_ok (n : Nat) (l_1 : (List T_api_Step)) (A_2 : Option Addr) (c_3 : Nat) :
    Meets Try.prog 91 [.slice A_2 l_1.length c_3] 0 [] [] [Rd 0 kT_api_Step A_2 c_3 l_1] (tontineref13_Check.f n l_1) (tontineref13_Check.R A_2 c_3) := by
  refine Meets.of (c := c91_0) (n := 59) Try.func91 (by kernel_rfl) (by kernel_rfl) (by kernel_rfl) fun w0 S0 => ?_
  unfold tontineref13_Check.f
  show GoO (tontineref13_Check.cx A_2 c_3 w0 S0) [(0, .slice A_2 l_1.length c_3)] [] [Rd 0 kT_api_Step A_2 c_3 l_1] [.code c91_0] _
  refine GoO.seq' c91_0e ?_
  refine GoO.region' (is := [0]) c91_1e (by kernel_rfl) ?_
  refine GoO.exec (is := [0]) (hs := [.p]) (rest := []) (ks := [0]) (env' := [(0, .slice A_2 l_1.length c_3)]) (H' := []) (ps := []) (by kernel_rfl) trivial ?_
  refine GoO.regionEnd ?_
  refine GoO.seq' c91_2e ?_
  refine GoO.region' (is := [0, 1, 2, 3, 4, 5, 6, 7, 8]) c91_3e (by kernel_rfl) ?_
  refine GoO.exec (is := [0, 1, 2, 3]) (hs := [.p, .p, .p, .p]) (rest := [4, 5, 6, 7, 8]) (ks := [0, 9]) (env' := [(0, .slice A_2 l_1.length c_3), (9, .bool ((l_1.length : Int) == 0))]) (H' := []) (ps := []) (by kernel_rfl) trivial ?_
  refine GoO.bsplit (t := 9) (by kernel_rfl) (fun h4 => ?_) (fun h4 => ?_)
  · refine GoO.exec (is := [4, 5, 6, 7, 8]) (hs := [.p, .p, .p, .p, .p]) (rest := []) (ks := [0, 3]) (env' := [(0, .slice A_2 l_1.length c_3), (3, .bool true)]) (H' := []) (ps := []) (by kernel_rfl) trivial ?_
    refine GoO.regionEnd ?_
    exact GoO.sub (ks := [0, 3]) (hk := []) (bk := [0]) (by kernel_rfl) (by kernel_rfl) (by kernel_rfl) (tontineref13_Check_j0_ok n l_1 A_2 c_3 w0 S0 true)
  · refine GoO.exec (is := [4, 5, 6, 7, 8]) (hs := [.p, .p, .p, .p, .p]) (rest := []) (ks := [0, 3]) (env' := [(0, .slice A_2 l_1.length c_3), (3, .bool (decide ((l_1.length : Int) > 64)))]) (H' := []) (ps := []) (by kernel_rfl) trivial ?_
    refine GoO.regionEnd ?_
    exact GoO.sub (ks := [0, 3]) (hk := []) (bk := [0]) (by kernel_rfl) (by kernel_rfl) (by kernel_rfl) (tontineref13_Check_j0_ok n l_1 A_2 c_3 w0 S0 (decide ((l_1.length : Int) > 64)))
/-! tontine/tontineref16.bare -/
noncomputable def c99_0 : Code := bodyOf Try.f99
noncomputable def c99_1 : Code := cdL c99_0
noncomputable def c99_2 : Code := cdR c99_0
noncomputable def c99_3 : Code := cdL c99_2
noncomputable def c99_4 : Code := cdR c99_2
noncomputable def r99_1 : Array Oper := cdO c99_1
noncomputable def r99_3 : Array Oper := cdO c99_3
theorem c99_0e : c99_0 = .seq c99_1 c99_2 := by kernel_rfl
theorem c99_1e : c99_1 = .region 0 r99_1 false := by kernel_rfl
theorem c99_2e : c99_2 = .seq c99_3 c99_4 := by kernel_rfl
theorem c99_3e : c99_3 = .region 1 r99_3 false := by kernel_rfl
theorem c99_4e : c99_4 = .ret := by kernel_rfl
noncomputable def tontineref16_bare.R (A_2 : Option Addr) (c_3 : Nat) : Pst Bool where
  ε := Unit
  v := fun r x => .bool r
  H := fun r x => []
  B := fun r x => []
noncomputable def tontineref16_bare.cx (A_2 : Option Addr) (c_3 : Nat) (w0 : World) (S0 : Fam) : Cx Bool := ⟨Try.prog, 99, Try.f99, 21, w0, S0, [], 0, tontineref16_bare.R A_2 c_3⟩
theorem tontineref16_bare_ok (n : Nat) (c_1 : T_api_Command) (A_2 : Option Addr) (c_3 : Nat) :
    Meets Try.prog 99 [.agg ⟨[vI c_1.Kind, vU c_1.Session, vU c_1.Seq, vU c_1.Saga, .slice A_2 c_1.Steps.length c_3, vI c_1.Step, .bool c_1.Back, vI c_1.Try, .bool c_1.Ok, vU c_1.Now]⟩] 0 [] [] [Rd 0 kT_api_Step A_2 c_3 c_1.Steps] (tontineref16_bare.f n c_1) (tontineref16_bare.R A_2 c_3) := by
  refine Meets.of (c := c99_0) (n := 21) Try.func99 (by kernel_rfl) (by kernel_rfl) (by kernel_rfl) fun w0 S0 => ?_
  unfold tontineref16_bare.f
  show GoO (tontineref16_bare.cx A_2 c_3 w0 S0) [(0, .agg ⟨[vI c_1.Kind, vU c_1.Session, vU c_1.Seq, vU c_1.Saga, .slice A_2 c_1.Steps.length c_3, vI c_1.Step, .bool c_1.Back, vI c_1.Try, .bool c_1.Ok, vU c_1.Now]⟩)] [] [Rd 0 kT_api_Step A_2 c_3 c_1.Steps] [.code c99_0] _
  refine GoO.seq' c99_0e ?_
  refine GoO.region' (is := [0, 1]) c99_1e (by kernel_rfl) ?_
  refine OpTo.go (GoO.new rfl 40 (cs := [vI c_1.Kind, vU c_1.Session, vU c_1.Seq, vU c_1.Saga, .slice A_2 c_1.Steps.length c_3, vI c_1.Step, .bool c_1.Back, vI c_1.Try, .bool c_1.Ok, vU c_1.Now]) (by kernel_rfl) _ (fun _ => rfl) (fun b_4 => ?_))
  refine GoO.exec (is := [1]) (hs := [.p]) (rest := []) (ks := [1]) (env' := [(1, vP b_4)]) (H' := [⟨40, b_4, [vI c_1.Kind, vU c_1.Session, vU c_1.Seq, vU c_1.Saga, .slice A_2 c_1.Steps.length c_3, vI c_1.Step, .bool c_1.Back, vI c_1.Try, .bool c_1.Ok, vU c_1.Now]⟩]) (ps := []) (by kernel_rfl) trivial ?_
  refine GoO.regionEnd ?_
  refine GoO.seq' c99_2e ?_
  refine GoO.region' (is := [0, 1, 2, 3, 4, 5, 6, 7, 8, 9, 10, 11, 12, 13, 14, 15, 16, 17, 18]) c99_3e (by kernel_rfl) ?_
  refine GoO.exec (is := [0, 1, 2, 3]) (hs := [.p, .b 0, .p, .p]) (rest := [4, 5, 6, 7, 8, 9, 10, 11, 12, 13, 14, 15, 16, 17, 18]) (ks := [1, 6]) (env' := [(1, vP b_4), (6, .bool (c_1.Step == 0))]) (H' := [⟨40, b_4, [vI c_1.Kind, vU c_1.Session, vU c_1.Seq, vU c_1.Saga, .slice A_2 c_1.Steps.length c_3, vI c_1.Step, .bool c_1.Back, vI c_1.Try, .bool c_1.Ok, vU c_1.Now]⟩]) (ps := [b_4 = b_4]) (by kernel_rfl) (And.intro rfl trivial) ?_
  refine GoO.bsplit (t := 6) (by kernel_rfl) (fun h5 => ?_) (fun h5 => ?_)
  · refine GoO.exec (is := [4, 5, 6, 7, 8]) (hs := [.p, .b 0, .p, .p, .p]) (rest := [9, 10, 11, 12, 13, 14, 15, 16, 17, 18]) (ks := [1, 11]) (env' := [(1, vP b_4), (11, .bool (!c_1.Back))]) (H' := [⟨40, b_4, [vI c_1.Kind, vU c_1.Session, vU c_1.Seq, vU c_1.Saga, .slice A_2 c_1.Steps.length c_3, vI c_1.Step, .bool c_1.Back, vI c_1.Try, .bool c_1.Ok, vU c_1.Now]⟩]) (ps := [b_4 = b_4]) (by kernel_rfl) (And.intro rfl trivial) ?_
    refine GoO.bsplit (t := 11) (by kernel_rfl) (fun h6 => ?_) (fun h6 => ?_)
    · refine GoO.exec (is := [9, 10, 11, 12, 13]) (hs := [.p, .b 0, .p, .p, .p]) (rest := [14, 15, 16, 17, 18]) (ks := [1, 16]) (env' := [(1, vP b_4), (16, .bool (c_1.Try == 0))]) (H' := [⟨40, b_4, [vI c_1.Kind, vU c_1.Session, vU c_1.Seq, vU c_1.Saga, .slice A_2 c_1.Steps.length c_3, vI c_1.Step, .bool c_1.Back, vI c_1.Try, .bool c_1.Ok, vU c_1.Now]⟩]) (ps := [b_4 = b_4]) (by kernel_rfl) (And.intro rfl trivial) ?_
      refine GoO.bsplit (t := 16) (by kernel_rfl) (fun h7 => ?_) (fun h7 => ?_)
      · refine GoO.exec (is := [14, 15, 16, 17, 18]) (hs := [.p, .b 0, .p, .p, .p]) (rest := []) (ks := [2]) (env' := [(2, .bool (!c_1.Ok))]) (H' := [⟨40, b_4, [vI c_1.Kind, vU c_1.Session, vU c_1.Seq, vU c_1.Saga, .slice A_2 c_1.Steps.length c_3, vI c_1.Step, .bool c_1.Back, vI c_1.Try, .bool c_1.Ok, vU c_1.Now]⟩]) (ps := [b_4 = b_4]) (by kernel_rfl) (And.intro rfl trivial) ?_
        refine GoO.regionEnd ?_
        exact GoO.ret' (h := c99_4e) (hs := []) (ps := []) (hk := []) (bk := []) Try.func99 () (by kernel_rfl) trivial (by kernel_rfl) (by kernel_rfl)
      · refine GoO.exec (is := [14, 15, 16, 17, 18]) (hs := [.p, .p, .p, .p, .p]) (rest := []) (ks := [2]) (env' := [(2, .bool false)]) (H' := [⟨40, b_4, [vI c_1.Kind, vU c_1.Session, vU c_1.Seq, vU c_1.Saga, .slice A_2 c_1.Steps.length c_3, vI c_1.Step, .bool c_1.Back, vI c_1.Try, .bool c_1.Ok, vU c_1.Now]⟩]) (ps := []) (by kernel_rfl) trivial ?_
        refine GoO.regionEnd ?_
        exact GoO.ret' (h := c99_4e) (hs := []) (ps := []) (hk := []) (bk := []) Try.func99 () (by kernel_rfl) trivial (by kernel_rfl) (by kernel_rfl)
    · refine GoO.exec (is := [9, 10, 11, 12, 13, 14, 15, 16, 17, 18]) (hs := [.p, .p, .p, .p, .p, .p, .p, .p, .p, .p]) (rest := []) (ks := [2]) (env' := [(2, .bool false)]) (H' := [⟨40, b_4, [vI c_1.Kind, vU c_1.Session, vU c_1.Seq, vU c_1.Saga, .slice A_2 c_1.Steps.length c_3, vI c_1.Step, .bool c_1.Back, vI c_1.Try, .bool c_1.Ok, vU c_1.Now]⟩]) (ps := []) (by kernel_rfl) trivial ?_
      refine GoO.regionEnd ?_
      exact GoO.ret' (h := c99_4e) (hs := []) (ps := []) (hk := []) (bk := []) Try.func99 () (by kernel_rfl) trivial (by kernel_rfl) (by kernel_rfl)
  · refine GoO.exec (is := [4, 5, 6, 7, 8, 9, 10, 11, 12, 13, 14, 15, 16, 17, 18]) (hs := [.p, .p, .p, .p, .p, .p, .p, .p, .p, .p, .p, .p, .p, .p, .p]) (rest := []) (ks := [2]) (env' := [(2, .bool false)]) (H' := [⟨40, b_4, [vI c_1.Kind, vU c_1.Session, vU c_1.Seq, vU c_1.Saga, .slice A_2 c_1.Steps.length c_3, vI c_1.Step, .bool c_1.Back, vI c_1.Try, .bool c_1.Ok, vU c_1.Now]⟩]) (ps := []) (by kernel_rfl) trivial ?_
    refine GoO.regionEnd ?_
    exact GoO.ret' (h := c99_4e) (hs := []) (ps := []) (hk := []) (bk := []) Try.func99 () (by kernel_rfl) trivial (by kernel_rfl) (by kernel_rfl)
/-! tontine/tontineref16.May -/
noncomputable def c92_0 : Code := bodyOf Try.f92
noncomputable def c92_1 : Code := cdL c92_0
noncomputable def c92_2 : Code := cdR c92_0
noncomputable def c92_3 : Code := cdL c92_2
noncomputable def c92_4 : Code := cdL c92_3
noncomputable def c92_5 : Code := cdR c92_3
noncomputable def c92_6 : Code := cdL c92_5
noncomputable def c92_7 : Code := cdL c92_6
noncomputable def c92_8 : Code := cdL c92_7
noncomputable def c92_9 : Code := cdR c92_7
noncomputable def c92_10 : Code := cdL c92_9
noncomputable def c92_11 : Code := cdR c92_9
noncomputable def c92_12 : Code := cdL c92_11
noncomputable def c92_13 : Code := cdR c92_11
noncomputable def c92_14 : Code := cdL c92_13
noncomputable def c92_15 : Code := cdR c92_13
noncomputable def c92_16 : Code := cdR c92_6
noncomputable def c92_17 : Code := cdL c92_16
noncomputable def c92_18 : Code := cdL c92_17
noncomputable def c92_19 : Code := cdR c92_17
noncomputable def c92_20 : Code := cdR c92_16
noncomputable def c92_21 : Code := cdL c92_20
noncomputable def c92_22 : Code := cdR c92_20
noncomputable def c92_23 : Code := cdL c92_22
noncomputable def c92_24 : Code := cdL c92_23
noncomputable def c92_25 : Code := cdR c92_23
noncomputable def c92_26 : Code := cdR c92_22
noncomputable def c92_27 : Code := cdL c92_26
noncomputable def c92_28 : Code := cdR c92_26
noncomputable def c92_29 : Code := cdL c92_28
noncomputable def c92_30 : Code := cdL c92_29
noncomputable def c92_31 : Code := cdR c92_29
noncomputable def c92_32 : Code := cdR c92_28
noncomputable def c92_33 : Code := cdR c92_2
noncomputable def c92_34 : Code := cdL c92_33
noncomputable def c92_35 : Code := cdR c92_33
noncomputable def r92_1 : Array Oper := cdO c92_1
noncomputable def r92_4 : Array Oper := cdO c92_4
noncomputable def r92_8 : Array Oper := cdO c92_8
noncomputable def r92_12 : Array Oper := cdO c92_12
noncomputable def r92_15 : Array Oper := cdO c92_15
noncomputable def r92_18 : Array Oper := cdO c92_18
noncomputable def r92_21 : Array Oper := cdO c92_21
noncomputable def r92_24 : Array Oper := cdO c92_24
noncomputable def r92_27 : Array Oper := cdO c92_27
noncomputable def r92_30 : Array Oper := cdO c92_30
noncomputable def r92_34 : Array Oper := cdO c92_34
theorem c92_0e : c92_0 = .seq c92_1 c92_2 := by kernel_rfl
theorem c92_1e : c92_1 = .region 0 r92_1 false := by kernel_rfl
theorem c92_2e : c92_2 = .seq c92_3 c92_33 := by kernel_rfl
theorem c92_3e : c92_3 = .seq c92_4 c92_5 := by kernel_rfl
theorem c92_4e : c92_4 = .region 1 r92_4 false := by kernel_rfl
theorem c92_5e : c92_5 = .block 0 c92_6 := by kernel_rfl
theorem c92_6e : c92_6 = .seq c92_7 c92_16 := by kernel_rfl
theorem c92_7e : c92_7 = .seq c92_8 c92_9 := by kernel_rfl
theorem c92_8e : c92_8 = .region 2 r92_8 false := by kernel_rfl
theorem c92_9e : c92_9 = .cond (cdC c92_9) c92_10 c92_11 := by kernel_rfl
theorem c92_10e : c92_10 = .skip := by kernel_rfl
theorem c92_11e : c92_11 = .seq c92_12 c92_13 := by kernel_rfl
theorem c92_12e : c92_12 = .region 3 r92_12 false := by kernel_rfl
theorem c92_13e : c92_13 = .cond (cdC c92_13) c92_14 c92_15 := by kernel_rfl
theorem c92_14e : c92_14 = .skip := by kernel_rfl
theorem c92_15e : c92_15 = .region 4 r92_15 false := by kernel_rfl
theorem c92_16e : c92_16 = .cond (cdC c92_16) c92_17 c92_20 := by kernel_rfl
theorem c92_17e : c92_17 = .seq c92_18 c92_19 := by kernel_rfl
theorem c92_18e : c92_18 = .region 5 r92_18 false := by kernel_rfl
theorem c92_19e : c92_19 = .ret := by kernel_rfl
theorem c92_20e : c92_20 = .seq c92_21 c92_22 := by kernel_rfl
theorem c92_21e : c92_21 = .region 6 r92_21 false := by kernel_rfl
theorem c92_22e : c92_22 = .cond (cdC c92_22) c92_23 c92_26 := by kernel_rfl
theorem c92_23e : c92_23 = .seq c92_24 c92_25 := by kernel_rfl
theorem c92_24e : c92_24 = .region 7 r92_24 false := by kernel_rfl
theorem c92_25e : c92_25 = .ret := by kernel_rfl
theorem c92_26e : c92_26 = .seq c92_27 c92_28 := by kernel_rfl
theorem c92_27e : c92_27 = .region 8 r92_27 false := by kernel_rfl
theorem c92_28e : c92_28 = .cond (cdC c92_28) c92_29 c92_32 := by kernel_rfl
theorem c92_29e : c92_29 = .seq c92_30 c92_31 := by kernel_rfl
theorem c92_30e : c92_30 = .region 9 r92_30 false := by kernel_rfl
theorem c92_31e : c92_31 = .ret := by kernel_rfl
theorem c92_32e : c92_32 = .skip := by kernel_rfl
theorem c92_33e : c92_33 = .seq c92_34 c92_35 := by kernel_rfl
theorem c92_34e : c92_34 = .region 10 r92_34 false := by kernel_rfl
theorem c92_35e : c92_35 = .ret := by kernel_rfl
noncomputable def tontineref16_May.R (A_2 : Option Addr) (c_3 : Nat) : Pst Bool where
  ε := Unit
  v := fun r x => .bool r
  H := fun r x => []
  B := fun r x => []
noncomputable def tontineref16_May.cx (A_2 : Option Addr) (c_3 : Nat) (w0 : World) (S0 : Fam) : Cx Bool := ⟨Try.prog, 92, Try.f92, 63, w0, S0, [], 0, tontineref16_May.R A_2 c_3⟩
theorem tontineref16_May_j1_ok (n : Nat) (A_2 : Option Addr) (c_3 : Nat) (w0 : World) (S0 : Fam) (b_25 : Bool) :
    GoO (tontineref16_May.cx A_2 c_3 w0 S0) [(2, .bool b_25)] [] [] [.code c92_31, .inBlock 0, .code c92_33] (tontineref16_May.j1 n b_25) := by
  unfold tontineref16_May.j1
  exact GoO.ret' (h := c92_31e) (hs := []) (ps := []) (hk := []) (bk := []) Try.func92 () (by kernel_rfl) trivial (by kernel_rfl) (by kernel_rfl)
theorem tontineref16_May_j0_ok (n : Nat) (c_1 : T_api_Command) (A_2 : Option Addr) (c_3 : Nat) (b_4 : Nat) (w0 : World) (S0 : Fam) (b_7 : Bool) :
    GoO (tontineref16_May.cx A_2 c_3 w0 S0) [(1, vP b_4), (4, vI c_1.Kind), (5, .bool b_7)] [⟨40, b_4, [vI c_1.Kind, vU c_1.Session, vU c_1.Seq, vU c_1.Saga, .slice A_2 c_1.Steps.length c_3, vI c_1.Step, .bool c_1.Back, vI c_1.Try, .bool c_1.Ok, vU c_1.Now]⟩] [Rd 0 kT_api_Step A_2 c_3 c_1.Steps] [.code c92_16, .inBlock 0, .code c92_33] (tontineref16_May.j0 n c_1 b_7) := by
  unfold tontineref16_May.j0
  refine GoO.ite' c92_16e (by kernel_rfl) (fun h8 => ?_) (fun h8 => ?_)
  · refine GoO.seq' c92_17e ?_
    refine GoO.region' (is := [0, 1, 2, 3, 4, 5, 6, 7, 8]) c92_18e (by kernel_rfl) ?_
    refine GoO.exec (is := [0, 1, 2, 3, 4]) (hs := [.p, .b 0, .p, .p, .p]) (rest := [5, 6, 7, 8]) (ks := [1, 13]) (env' := [(1, vP b_4), (13, .bool ((c_1.Steps.length : Int) == 0))]) (H' := [⟨40, b_4, [vI c_1.Kind, vU c_1.Session, vU c_1.Seq, vU c_1.Saga, .slice A_2 c_1.Steps.length c_3, vI c_1.Step, .bool c_1.Back, vI c_1.Try, .bool c_1.Ok, vU c_1.Now]⟩]) (ps := [b_4 = b_4]) (by kernel_rfl) (And.intro rfl trivial) ?_
    refine GoO.bsplit (t := 13) (by kernel_rfl) (fun h9 => ?_) (fun h9 => ?_)
    · refine GoO.exec (is := [5]) (hs := [.b 0]) (rest := [6, 7, 8]) (ks := [13, 14]) (env' := [(13, .bool true), (14, .agg ⟨[vI c_1.Kind, vU c_1.Session, vU c_1.Seq, vU c_1.Saga, .slice A_2 c_1.Steps.length c_3, vI c_1.Step, .bool c_1.Back, vI c_1.Try, .bool c_1.Ok, vU c_1.Now]⟩)]) (H' := [⟨40, b_4, [vI c_1.Kind, vU c_1.Session, vU c_1.Seq, vU c_1.Saga, .slice A_2 c_1.Steps.length c_3, vI c_1.Step, .bool c_1.Back, vI c_1.Try, .bool c_1.Ok, vU c_1.Now]⟩]) (ps := [b_4 = b_4]) (by kernel_rfl) (And.intro rfl trivial) ?_
      refine OpTo.go (GoO.call rfl (by kernel_rfl) (by kernel_rfl) (tontineref16_bare_ok n c_1 A_2 c_3) [[0]] [] [] [(0, 0)] (hks := [0]) (bks := [0]) (by kernel_rfl) (by kernel_rfl) (by kernel_rfl) (.inl rfl) rfl rfl (by kernel_rfl) (by kernel_rfl) _ (fun _ _ => rfl) _ _ (fun _ _ => rfl) (fun _ _ => rfl) (fun _ _ => by kernel_rfl) (fun _ _ => by kernel_rfl) (fun r_10 x_11 => ?_))
      refine GoO.shape (env' := [(13, .bool true), (14, .agg ⟨[vI c_1.Kind, vU c_1.Session, vU c_1.Seq, vU c_1.Saga, .slice A_2 c_1.Steps.length c_3, vI c_1.Step, .bool c_1.Back, vI c_1.Try, .bool c_1.Ok, vU c_1.Now]⟩), (15, .bool r_10)]) (H' := [⟨40, b_4, [vI c_1.Kind, vU c_1.Session, vU c_1.Seq, vU c_1.Saga, .slice A_2 c_1.Steps.length c_3, vI c_1.Step, .bool c_1.Back, vI c_1.Try, .bool c_1.Ok, vU c_1.Now]⟩]) (B' := [Rd 0 kT_api_Step A_2 c_3 c_1.Steps]) (ks := [13, 14, 15]) (by kernel_rfl) (by kernel_rfl) (by kernel_rfl) ?_
      refine GoO.exec (is := [7, 8]) (hs := [.p, .p]) (rest := []) (ks := [2]) (env' := [(2, .bool r_10)]) (H' := [⟨40, b_4, [vI c_1.Kind, vU c_1.Session, vU c_1.Seq, vU c_1.Saga, .slice A_2 c_1.Steps.length c_3, vI c_1.Step, .bool c_1.Back, vI c_1.Try, .bool c_1.Ok, vU c_1.Now]⟩]) (ps := []) (by kernel_rfl) trivial ?_
      refine GoO.regionEnd ?_
      exact GoO.ret' (h := c92_19e) (hs := []) (ps := []) (hk := []) (bk := []) Try.func92 () (by kernel_rfl) trivial (by kernel_rfl) (by kernel_rfl)
    · refine GoO.exec (is := [5, 6, 7, 8]) (hs := [.p, .p, .p, .p]) (rest := []) (ks := [2]) (env' := [(2, .bool false)]) (H' := [⟨40, b_4, [vI c_1.Kind, vU c_1.Session, vU c_1.Seq, vU c_1.Saga, .slice A_2 c_1.Steps.length c_3, vI c_1.Step, .bool c_1.Back, vI c_1.Try, .bool c_1.Ok, vU c_1.Now]⟩]) (ps := []) (by kernel_rfl) trivial ?_
      refine GoO.regionEnd ?_
      exact GoO.ret' (h := c92_19e) (hs := []) (ps := []) (hk := []) (bk := []) Try.func92 () (by kernel_rfl) trivial (by kernel_rfl) (by kernel_rfl)
  · refine GoO.seq' c92_20e ?_
    refine GoO.region' (is := [0, 1]) c92_21e (by kernel_rfl) ?_
    refine GoO.exec (is := [0, 1]) (hs := [.p, .p]) (rest := []) (ks := [1, 4, 17]) (env' := [(1, vP b_4), (4, vI c_1.Kind), (17, .bool (c_1.Kind == 2))]) (H' := [⟨40, b_4, [vI c_1.Kind, vU c_1.Session, vU c_1.Seq, vU c_1.Saga, .slice A_2 c_1.Steps.length c_3, vI c_1.Step, .bool c_1.Back, vI c_1.Try, .bool c_1.Ok, vU c_1.Now]⟩]) (ps := []) (by kernel_rfl) trivial ?_
    refine GoO.regionEnd ?_
    refine GoO.ite' c92_22e (by kernel_rfl) (fun h12 => ?_) (fun h12 => ?_)
    · refine GoO.seq' c92_23e ?_
      refine GoO.region' (is := [0, 1, 2, 3, 4, 5, 6, 7, 8]) c92_24e (by kernel_rfl) ?_
      refine GoO.exec (is := [0, 1]) (hs := [.p, .b 0]) (rest := [2, 3, 4, 5, 6, 7, 8]) (ks := [1, 20]) (env' := [(1, vP b_4), (20, .slice A_2 c_1.Steps.length c_3)]) (H' := [⟨40, b_4, [vI c_1.Kind, vU c_1.Session, vU c_1.Seq, vU c_1.Saga, .slice A_2 c_1.Steps.length c_3, vI c_1.Step, .bool c_1.Back, vI c_1.Try, .bool c_1.Ok, vU c_1.Now]⟩]) (ps := [b_4 = b_4]) (by kernel_rfl) (And.intro rfl trivial) ?_
      refine OpTo.go (GoO.call rfl (by kernel_rfl) (by kernel_rfl) (tontineref13_Check_ok n c_1.Steps A_2 c_3) [[0]] [] [] [(0, 0)] (hks := [0]) (bks := [0]) (by kernel_rfl) (by kernel_rfl) (by kernel_rfl) (.inl rfl) rfl rfl (by kernel_rfl) (by kernel_rfl) _ (fun _ _ => rfl) _ _ (fun _ _ => rfl) (fun _ _ => rfl) (fun _ _ => by kernel_rfl) (fun _ _ => by kernel_rfl) (fun r_13 x_17 => ?_))
      refine GoO.shape (env' := [(1, vP b_4), (20, .slice A_2 c_1.Steps.length c_3), (21, vI r_13)]) (H' := [⟨40, b_4, [vI c_1.Kind, vU c_1.Session, vU c_1.Seq, vU c_1.Saga, .slice A_2 c_1.Steps.length c_3, vI c_1.Step, .bool c_1.Back, vI c_1.Try, .bool c_1.Ok, vU c_1.Now]⟩]) (B' := [Rd 0 kT_api_Step A_2 c_3 c_1.Steps]) (ks := [1, 20, 21]) (by kernel_rfl) (by kernel_rfl) (by kernel_rfl) ?_
      refine GoO.exec (is := [3, 4]) (hs := [.p, .p]) (rest := [5, 6, 7, 8]) (ks := [1, 23]) (env' := [(1, vP b_4), (23, .bool (r_13 == 0))]) (H' := [⟨40, b_4, [vI c_1.Kind, vU c_1.Session, vU c_1.Seq, vU c_1.Saga, .slice A_2 c_1.Steps.length c_3, vI c_1.Step, .bool c_1.Back, vI c_1.Try, .bool c_1.Ok, vU c_1.Now]⟩]) (ps := []) (by kernel_rfl) trivial ?_
      refine GoO.bsplit (t := 23) (by kernel_rfl) (fun h14 => ?_) (fun h14 => ?_)
      · refine GoO.exec (is := [5]) (hs := [.b 0]) (rest := [6, 7, 8]) (ks := [23, 24]) (env' := [(23, .bool true), (24, .agg ⟨[vI c_1.Kind, vU c_1.Session, vU c_1.Seq, vU c_1.Saga, .slice A_2 c_1.Steps.length c_3, vI c_1.Step, .bool c_1.Back, vI c_1.Try, .bool c_1.Ok, vU c_1.Now]⟩)]) (H' := [⟨40, b_4, [vI c_1.Kind, vU c_1.Session, vU c_1.Seq, vU c_1.Saga, .slice A_2 c_1.Steps.length c_3, vI c_1.Step, .bool c_1.Back, vI c_1.Try, .bool c_1.Ok, vU c_1.Now]⟩]) (ps := [b_4 = b_4]) (by kernel_rfl) (And.intro rfl trivial) ?_
        refine OpTo.go (GoO.call rfl (by kernel_rfl) (by kernel_rfl) (tontineref16_bare_ok n c_1 A_2 c_3) [[0]] [] [] [(0, 0)] (hks := [0]) (bks := [0]) (by kernel_rfl) (by kernel_rfl) (by kernel_rfl) (.inl rfl) rfl rfl (by kernel_rfl) (by kernel_rfl) _ (fun _ _ => rfl) _ _ (fun _ _ => rfl) (fun _ _ => rfl) (fun _ _ => by kernel_rfl) (fun _ _ => by kernel_rfl) (fun r_15 x_16 => ?_))
        refine GoO.shape (env' := [(23, .bool true), (24, .agg ⟨[vI c_1.Kind, vU c_1.Session, vU c_1.Seq, vU c_1.Saga, .slice A_2 c_1.Steps.length c_3, vI c_1.Step, .bool c_1.Back, vI c_1.Try, .bool c_1.Ok, vU c_1.Now]⟩), (25, .bool r_15)]) (H' := [⟨40, b_4, [vI c_1.Kind, vU c_1.Session, vU c_1.Seq, vU c_1.Saga, .slice A_2 c_1.Steps.length c_3, vI c_1.Step, .bool c_1.Back, vI c_1.Try, .bool c_1.Ok, vU c_1.Now]⟩]) (B' := [Rd 0 kT_api_Step A_2 c_3 c_1.Steps]) (ks := [23, 24, 25]) (by kernel_rfl) (by kernel_rfl) (by kernel_rfl) ?_
        refine GoO.exec (is := [7, 8]) (hs := [.p, .p]) (rest := []) (ks := [2]) (env' := [(2, .bool r_15)]) (H' := [⟨40, b_4, [vI c_1.Kind, vU c_1.Session, vU c_1.Seq, vU c_1.Saga, .slice A_2 c_1.Steps.length c_3, vI c_1.Step, .bool c_1.Back, vI c_1.Try, .bool c_1.Ok, vU c_1.Now]⟩]) (ps := []) (by kernel_rfl) trivial ?_
        refine GoO.regionEnd ?_
        exact GoO.ret' (h := c92_25e) (hs := []) (ps := []) (hk := []) (bk := []) Try.func92 () (by kernel_rfl) trivial (by kernel_rfl) (by kernel_rfl)
      · refine GoO.exec (is := [5, 6, 7, 8]) (hs := [.p, .p, .p, .p]) (rest := []) (ks := [2]) (env' := [(2, .bool false)]) (H' := [⟨40, b_4, [vI c_1.Kind, vU c_1.Session, vU c_1.Seq, vU c_1.Saga, .slice A_2 c_1.Steps.length c_3, vI c_1.Step, .bool c_1.Back, vI c_1.Try, .bool c_1.Ok, vU c_1.Now]⟩]) (ps := []) (by kernel_rfl) trivial ?_
        refine GoO.regionEnd ?_
        exact GoO.ret' (h := c92_25e) (hs := []) (ps := []) (hk := []) (bk := []) Try.func92 () (by kernel_rfl) trivial (by kernel_rfl) (by kernel_rfl)
    · refine GoO.seq' c92_26e ?_
      refine GoO.region' (is := [0, 1]) c92_27e (by kernel_rfl) ?_
      refine GoO.exec (is := [0, 1]) (hs := [.p, .p]) (rest := []) (ks := [1, 27]) (env' := [(1, vP b_4), (27, .bool (c_1.Kind == 4))]) (H' := [⟨40, b_4, [vI c_1.Kind, vU c_1.Session, vU c_1.Seq, vU c_1.Saga, .slice A_2 c_1.Steps.length c_3, vI c_1.Step, .bool c_1.Back, vI c_1.Try, .bool c_1.Ok, vU c_1.Now]⟩]) (ps := []) (by kernel_rfl) trivial ?_
      refine GoO.regionEnd ?_
      refine GoO.ite' c92_28e (by kernel_rfl) (fun h18 => ?_) (fun h18 => ?_)
      · refine GoO.seq' c92_29e ?_
        refine GoO.region' (is := [0, 1, 2, 3, 4, 5, 6, 7, 8, 9, 10, 11, 12, 13, 14, 15, 16, 17, 18, 19, 20, 21, 22, 23, 24, 25, 26, 27, 28, 29, 30, 31, 32, 33, 34]) c92_30e (by kernel_rfl) ?_
        refine GoO.exec (is := [0, 1, 2, 3, 4]) (hs := [.p, .b 0, .p, .p, .p]) (rest := [5, 6, 7, 8, 9, 10, 11, 12, 13, 14, 15, 16, 17, 18, 19, 20, 21, 22, 23, 24, 25, 26, 27, 28, 29, 30, 31, 32, 33, 34]) (ks := [1, 33]) (env' := [(1, vP b_4), (33, .bool ((c_1.Steps.length : Int) == 0))]) (H' := [⟨40, b_4, [vI c_1.Kind, vU c_1.Session, vU c_1.Seq, vU c_1.Saga, .slice A_2 c_1.Steps.length c_3, vI c_1.Step, .bool c_1.Back, vI c_1.Try, .bool c_1.Ok, vU c_1.Now]⟩]) (ps := [b_4 = b_4]) (by kernel_rfl) (And.intro rfl trivial) ?_
        refine GoO.bsplit (t := 33) (by kernel_rfl) (fun h19 => ?_) (fun h19 => ?_)
        · refine GoO.exec (is := [5, 6, 7, 8, 9]) (hs := [.p, .b 0, .p, .p, .p]) (rest := [10, 11, 12, 13, 14, 15, 16, 17, 18, 19, 20, 21, 22, 23, 24, 25, 26, 27, 28, 29, 30, 31, 32, 33, 34]) (ks := [1, 38]) (env' := [(1, vP b_4), (38, .bool (decide (c_1.Step ≥ 0)))]) (H' := [⟨40, b_4, [vI c_1.Kind, vU c_1.Session, vU c_1.Seq, vU c_1.Saga, .slice A_2 c_1.Steps.length c_3, vI c_1.Step, .bool c_1.Back, vI c_1.Try, .bool c_1.Ok, vU c_1.Now]⟩]) (ps := [b_4 = b_4]) (by kernel_rfl) (And.intro rfl trivial) ?_
          refine GoO.bsplit (t := 38) (by kernel_rfl) (fun h20 => ?_) (fun h20 => ?_)
          · refine GoO.exec (is := [10, 11, 12, 13, 14]) (hs := [.p, .b 0, .p, .p, .p]) (rest := [15, 16, 17, 18, 19, 20, 21, 22, 23, 24, 25, 26, 27, 28, 29, 30, 31, 32, 33, 34]) (ks := [1, 43]) (env' := [(1, vP b_4), (43, .bool (decide (c_1.Step ≤ 63)))]) (H' := [⟨40, b_4, [vI c_1.Kind, vU c_1.Session, vU c_1.Seq, vU c_1.Saga, .slice A_2 c_1.Steps.length c_3, vI c_1.Step, .bool c_1.Back, vI c_1.Try, .bool c_1.Ok, vU c_1.Now]⟩]) (ps := [b_4 = b_4]) (by kernel_rfl) (And.intro rfl trivial) ?_
            refine GoO.bsplit (t := 43) (by kernel_rfl) (fun h21 => ?_) (fun h21 => ?_)
            · refine GoO.exec (is := [15, 16, 17, 18, 19]) (hs := [.p, .b 0, .p, .p, .p]) (rest := [20, 21, 22, 23, 24, 25, 26, 27, 28, 29, 30, 31, 32, 33, 34]) (ks := [1, 48]) (env' := [(1, vP b_4), (48, .bool (decide (c_1.Try ≥ 0)))]) (H' := [⟨40, b_4, [vI c_1.Kind, vU c_1.Session, vU c_1.Seq, vU c_1.Saga, .slice A_2 c_1.Steps.length c_3, vI c_1.Step, .bool c_1.Back, vI c_1.Try, .bool c_1.Ok, vU c_1.Now]⟩]) (ps := [b_4 = b_4]) (by kernel_rfl) (And.intro rfl trivial) ?_
              refine GoO.bsplit (t := 48) (by kernel_rfl) (fun h22 => ?_) (fun h22 => ?_)
              · refine GoO.exec (is := [20, 21, 22, 23, 24]) (hs := [.p, .b 0, .p, .p, .p]) (rest := [25, 26, 27, 28, 29, 30, 31, 32, 33, 34]) (ks := [1, 53]) (env' := [(1, vP b_4), (53, .bool (decide (c_1.Try ≤ 8)))]) (H' := [⟨40, b_4, [vI c_1.Kind, vU c_1.Session, vU c_1.Seq, vU c_1.Saga, .slice A_2 c_1.Steps.length c_3, vI c_1.Step, .bool c_1.Back, vI c_1.Try, .bool c_1.Ok, vU c_1.Now]⟩]) (ps := [b_4 = b_4]) (by kernel_rfl) (And.intro rfl trivial) ?_
                refine GoO.bsplit (t := 53) (by kernel_rfl) (fun h23 => ?_) (fun h23 => ?_)
                · refine GoO.exec (is := [25, 26, 27, 28, 29]) (hs := [.p, .b 0, .p, .p, .p]) (rest := [30, 31, 32, 33, 34]) (ks := [1, 58]) (env' := [(1, vP b_4), (58, .bool (c_1.Session == 0))]) (H' := [⟨40, b_4, [vI c_1.Kind, vU c_1.Session, vU c_1.Seq, vU c_1.Saga, .slice A_2 c_1.Steps.length c_3, vI c_1.Step, .bool c_1.Back, vI c_1.Try, .bool c_1.Ok, vU c_1.Now]⟩]) (ps := [b_4 = b_4]) (by kernel_rfl) (And.intro rfl trivial) ?_
                  refine GoO.bsplit (t := 58) (by kernel_rfl) (fun h24 => ?_) (fun h24 => ?_)
                  · refine GoO.exec (is := [30, 31, 32, 33, 34]) (hs := [.p, .b 0, .p, .p, .p]) (rest := []) (ks := [2]) (env' := [(2, .bool (c_1.Seq == 0))]) (H' := [⟨40, b_4, [vI c_1.Kind, vU c_1.Session, vU c_1.Seq, vU c_1.Saga, .slice A_2 c_1.Steps.length c_3, vI c_1.Step, .bool c_1.Back, vI c_1.Try, .bool c_1.Ok, vU c_1.Now]⟩]) (ps := [b_4 = b_4]) (by kernel_rfl) (And.intro rfl trivial) ?_
                    refine GoO.regionEnd ?_
                    exact GoO.sub (ks := [2]) (hk := []) (bk := []) (by kernel_rfl) (by kernel_rfl) (by kernel_rfl) (tontineref16_May_j1_ok n A_2 c_3 w0 S0 (c_1.Seq == 0))
                  · refine GoO.exec (is := [30, 31, 32, 33, 34]) (hs := [.p, .p, .p, .p, .p]) (rest := []) (ks := [2]) (env' := [(2, .bool false)]) (H' := [⟨40, b_4, [vI c_1.Kind, vU c_1.Session, vU c_1.Seq, vU c_1.Saga, .slice A_2 c_1.Steps.length c_3, vI c_1.Step, .bool c_1.Back, vI c_1.Try, .bool c_1.Ok, vU c_1.Now]⟩]) (ps := []) (by kernel_rfl) trivial ?_
                    refine GoO.regionEnd ?_
                    exact GoO.sub (ks := [2]) (hk := []) (bk := []) (by kernel_rfl) (by kernel_rfl) (by kernel_rfl) (tontineref16_May_j1_ok n A_2 c_3 w0 S0 false)
                · refine GoO.exec (is := [25, 26, 27, 28, 29, 30, 31, 32, 33, 34]) (hs := [.p, .p, .p, .p, .p, .p, .p, .p, .p, .p]) (rest := []) (ks := [2]) (env' := [(2, .bool false)]) (H' := [⟨40, b_4, [vI c_1.Kind, vU c_1.Session, vU c_1.Seq, vU c_1.Saga, .slice A_2 c_1.Steps.length c_3, vI c_1.Step, .bool c_1.Back, vI c_1.Try, .bool c_1.Ok, vU c_1.Now]⟩]) (ps := []) (by kernel_rfl) trivial ?_
                  refine GoO.regionEnd ?_
                  exact GoO.sub (ks := [2]) (hk := []) (bk := []) (by kernel_rfl) (by kernel_rfl) (by kernel_rfl) (tontineref16_May_j1_ok n A_2 c_3 w0 S0 false)
              · refine GoO.exec (is := [20, 21, 22, 23, 24, 25, 26, 27, 28, 29, 30, 31, 32, 33, 34]) (hs := [.p, .p, .p, .p, .p, .p, .p, .p, .p, .p, .p, .p, .p, .p, .p]) (rest := []) (ks := [2]) (env' := [(2, .bool false)]) (H' := [⟨40, b_4, [vI c_1.Kind, vU c_1.Session, vU c_1.Seq, vU c_1.Saga, .slice A_2 c_1.Steps.length c_3, vI c_1.Step, .bool c_1.Back, vI c_1.Try, .bool c_1.Ok, vU c_1.Now]⟩]) (ps := []) (by kernel_rfl) trivial ?_
                refine GoO.regionEnd ?_
                exact GoO.sub (ks := [2]) (hk := []) (bk := []) (by kernel_rfl) (by kernel_rfl) (by kernel_rfl) (tontineref16_May_j1_ok n A_2 c_3 w0 S0 false)
            · refine GoO.exec (is := [15, 16, 17, 18, 19, 20, 21, 22, 23, 24, 25, 26, 27, 28, 29, 30, 31, 32, 33, 34]) (hs := [.p, .p, .p, .p, .p, .p, .p, .p, .p, .p, .p, .p, .p, .p, .p, .p, .p, .p, .p, .p]) (rest := []) (ks := [2]) (env' := [(2, .bool false)]) (H' := [⟨40, b_4, [vI c_1.Kind, vU c_1.Session, vU c_1.Seq, vU c_1.Saga, .slice A_2 c_1.Steps.length c_3, vI c_1.Step, .bool c_1.Back, vI c_1.Try, .bool c_1.Ok, vU c_1.Now]⟩]) (ps := []) (by kernel_rfl) trivial ?_
              refine GoO.regionEnd ?_
              exact GoO.sub (ks := [2]) (hk := []) (bk := []) (by kernel_rfl) (by kernel_rfl) (by kernel_rfl) (tontineref16_May_j1_ok n A_2 c_3 w0 S0 false)
          · refine GoO.exec (is := [10, 11, 12, 13, 14, 15, 16, 17, 18, 19, 20, 21, 22, 23, 24, 25, 26, 27, 28, 29, 30, 31, 32, 33, 34]) (hs := [.p, .p, .p, .p, .p, .p, .p, .p, .p, .p, .p, .p, .p, .p, .p, .p, .p, .p, .p, .p, .p, .p, .p, .p, .p]) (rest := []) (ks := [2]) (env' := [(2, .bool false)]) (H' := [⟨40, b_4, [vI c_1.Kind, vU c_1.Session, vU c_1.Seq, vU c_1.Saga, .slice A_2 c_1.Steps.length c_3, vI c_1.Step, .bool c_1.Back, vI c_1.Try, .bool c_1.Ok, vU c_1.Now]⟩]) (ps := []) (by kernel_rfl) trivial ?_
            refine GoO.regionEnd ?_
            exact GoO.sub (ks := [2]) (hk := []) (bk := []) (by kernel_rfl) (by kernel_rfl) (by kernel_rfl) (tontineref16_May_j1_ok n A_2 c_3 w0 S0 false)
        · refine GoO.exec (is := [5, 6, 7, 8, 9, 10, 11, 12, 13, 14, 15, 16, 17, 18, 19, 20, 21, 22, 23, 24, 25, 26, 27, 28, 29, 30, 31, 32, 33, 34]) (hs := [.p, .p, .p, .p, .p, .p, .p, .p, .p, .p, .p, .p, .p, .p, .p, .p, .p, .p, .p, .p, .p, .p, .p, .p, .p, .p, .p, .p, .p, .p]) (rest := []) (ks := [2]) (env' := [(2, .bool false)]) (H' := [⟨40, b_4, [vI c_1.Kind, vU c_1.Session, vU c_1.Seq, vU c_1.Saga, .slice A_2 c_1.Steps.length c_3, vI c_1.Step, .bool c_1.Back, vI c_1.Try, .bool c_1.Ok, vU c_1.Now]⟩]) (ps := []) (by kernel_rfl) trivial ?_
          refine GoO.regionEnd ?_
          exact GoO.sub (ks := [2]) (hk := []) (bk := []) (by kernel_rfl) (by kernel_rfl) (by kernel_rfl) (tontineref16_May_j1_ok n A_2 c_3 w0 S0 false)
      · refine GoO.skip' c92_32e ?_
        refine GoO.inBlock ?_
        refine GoO.seq' c92_33e ?_
        refine GoO.region' (is := [0]) c92_34e (by kernel_rfl) ?_
        refine GoO.exec (is := [0]) (hs := [.p]) (rest := []) (ks := [2]) (env' := [(2, .bool false)]) (H' := [⟨40, b_4, [vI c_1.Kind, vU c_1.Session, vU c_1.Seq, vU c_1.Saga, .slice A_2 c_1.Steps.length c_3, vI c_1.Step, .bool c_1.Back, vI c_1.Try, .bool c_1.Ok, vU c_1.Now]⟩]) (ps := []) (by kernel_rfl) trivial ?_
        refine GoO.regionEnd ?_
        exact GoO.ret' (h := c92_35e) (hs := []) (ps := []) (hk := []) (bk := []) Try.func92 () (by kernel_rfl) trivial (by kernel_rfl) (by kernel_rfl)
theorem tontineref16_May_ok (n : Nat) (c_1 : T_api_Command) (A_2 : Option Addr) (c_3 : Nat) :
    Meets Try.prog 92 [.agg ⟨[vI c_1.Kind, vU c_1.Session, vU c_1.Seq, vU c_1.Saga, .slice A_2 c_1.Steps.length c_3, vI c_1.Step, .bool c_1.Back, vI c_1.Try, .bool c_1.Ok, vU c_1.Now]⟩] 0 [] [] [Rd 0 kT_api_Step A_2 c_3 c_1.Steps] (tontineref16_May.f n c_1) (tontineref16_May.R A_2 c_3) := by
  refine Meets.of (c := c92_0) (n := 63) Try.func92 (by kernel_rfl) (by kernel_rfl) (by kernel_rfl) fun w0 S0 => ?_
  unfold tontineref16_May.f
  show GoO (tontineref16_May.cx A_2 c_3 w0 S0) [(0, .agg ⟨[vI c_1.Kind, vU c_1.Session, vU c_1.Seq, vU c_1.Saga, .slice A_2 c_1.Steps.length c_3, vI c_1.Step, .bool c_1.Back, vI c_1.Try, .bool c_1.Ok, vU c_1.Now]⟩)] [] [Rd 0 kT_api_Step A_2 c_3 c_1.Steps] [.code c92_0] _
  refine GoO.seq' c92_0e ?_
  refine GoO.region' (is := [0, 1]) c92_1e (by kernel_rfl) ?_
  refine OpTo.go (GoO.new rfl 40 (cs := [vI c_1.Kind, vU c_1.Session, vU c_1.Seq, vU c_1.Saga, .slice A_2 c_1.Steps.length c_3, vI c_1.Step, .bool c_1.Back, vI c_1.Try, .bool c_1.Ok, vU c_1.Now]) (by kernel_rfl) _ (fun _ => rfl) (fun b_4 => ?_))
  refine GoO.exec (is := [1]) (hs := [.p]) (rest := []) (ks := [1]) (env' := [(1, vP b_4)]) (H' := [⟨40, b_4, [vI c_1.Kind, vU c_1.Session, vU c_1.Seq, vU c_1.Saga, .slice A_2 c_1.Steps.length c_3, vI c_1.Step, .bool c_1.Back, vI c_1.Try, .bool c_1.Ok, vU c_1.Now]⟩]) (ps := []) (by kernel_rfl) trivial ?_
  refine GoO.regionEnd ?_
  refine GoO.seq' c92_2e ?_
  refine GoO.seq' c92_3e ?_
  refine GoO.region' (is := [0, 1]) c92_4e (by kernel_rfl) ?_
  refine GoO.exec (is := [0, 1]) (hs := [.p, .b 0]) (rest := []) (ks := [1, 4]) (env' := [(1, vP b_4), (4, vI c_1.Kind)]) (H' := [⟨40, b_4, [vI c_1.Kind, vU c_1.Session, vU c_1.Seq, vU c_1.Saga, .slice A_2 c_1.Steps.length c_3, vI c_1.Step, .bool c_1.Back, vI c_1.Try, .bool c_1.Ok, vU c_1.Now]⟩]) (ps := [b_4 = b_4]) (by kernel_rfl) (And.intro rfl trivial) ?_
  refine GoO.regionEnd ?_
  refine GoO.block' c92_5e ?_
  refine GoO.seq' c92_6e ?_
  refine GoO.seq' c92_7e ?_
  refine GoO.region' (is := [0, 1]) c92_8e (by kernel_rfl) ?_
  refine GoO.exec (is := [0, 1]) (hs := [.p, .p]) (rest := []) (ks := [1, 4, 5]) (env' := [(1, vP b_4), (4, vI c_1.Kind), (5, .bool (c_1.Kind == 1))]) (H' := [⟨40, b_4, [vI c_1.Kind, vU c_1.Session, vU c_1.Seq, vU c_1.Saga, .slice A_2 c_1.Steps.length c_3, vI c_1.Step, .bool c_1.Back, vI c_1.Try, .bool c_1.Ok, vU c_1.Now]⟩]) (ps := []) (by kernel_rfl) trivial ?_
  refine GoO.regionEnd ?_
  refine GoO.ite' c92_9e (by kernel_rfl) (fun h5 => ?_) (fun h5 => ?_)
  · refine GoO.skip' c92_10e ?_
    exact GoO.sub (ks := [1, 4, 5]) (hk := [0]) (bk := [0]) (by kernel_rfl) (by kernel_rfl) (by kernel_rfl) (tontineref16_May_j0_ok n c_1 A_2 c_3 b_4 w0 S0 (c_1.Kind == 1))
  · refine GoO.seq' c92_11e ?_
    refine GoO.region' (is := [0, 1]) c92_12e (by kernel_rfl) ?_
    refine GoO.exec (is := [0, 1]) (hs := [.p, .p]) (rest := []) (ks := [1, 4, 5]) (env' := [(1, vP b_4), (4, vI c_1.Kind), (5, .bool (c_1.Kind == 3))]) (H' := [⟨40, b_4, [vI c_1.Kind, vU c_1.Session, vU c_1.Seq, vU c_1.Saga, .slice A_2 c_1.Steps.length c_3, vI c_1.Step, .bool c_1.Back, vI c_1.Try, .bool c_1.Ok, vU c_1.Now]⟩]) (ps := []) (by kernel_rfl) trivial ?_
    refine GoO.regionEnd ?_
    refine GoO.ite' c92_13e (by kernel_rfl) (fun h6 => ?_) (fun h6 => ?_)
    · refine GoO.skip' c92_14e ?_
      exact GoO.sub (ks := [1, 4, 5]) (hk := [0]) (bk := [0]) (by kernel_rfl) (by kernel_rfl) (by kernel_rfl) (tontineref16_May_j0_ok n c_1 A_2 c_3 b_4 w0 S0 (c_1.Kind == 3))
    · refine GoO.region' (is := [0, 1]) c92_15e (by kernel_rfl) ?_
      refine GoO.exec (is := [0, 1]) (hs := [.p, .p]) (rest := []) (ks := [1, 4, 5]) (env' := [(1, vP b_4), (4, vI c_1.Kind), (5, .bool (c_1.Kind == 5))]) (H' := [⟨40, b_4, [vI c_1.Kind, vU c_1.Session, vU c_1.Seq, vU c_1.Saga, .slice A_2 c_1.Steps.length c_3, vI c_1.Step, .bool c_1.Back, vI c_1.Try, .bool c_1.Ok, vU c_1.Now]⟩]) (ps := []) (by kernel_rfl) trivial ?_
      refine GoO.regionEnd ?_
      exact GoO.sub (ks := [1, 4, 5]) (hk := [0]) (bk := [0]) (by kernel_rfl) (by kernel_rfl) (by kernel_rfl) (tontineref16_May_j0_ok n c_1 A_2 c_3 b_4 w0 S0 (c_1.Kind == 5))
/-! tontine/tontineref03.Text -/
noncomputable def c100_0 : Code := bodyOf Try.f100
noncomputable def c100_1 : Code := cdL c100_0
noncomputable def c100_2 : Code := cdR c100_0
noncomputable def c100_3 : Code := cdL c100_2
noncomputable def c100_4 : Code := cdR c100_2
noncomputable def r100_1 : Array Oper := cdO c100_1
noncomputable def r100_3 : Array Oper := cdO c100_3
theorem c100_0e : c100_0 = .seq c100_1 c100_2 := by kernel_rfl
theorem c100_1e : c100_1 = .region 0 r100_1 false := by kernel_rfl
theorem c100_2e : c100_2 = .seq c100_3 c100_4 := by kernel_rfl
theorem c100_3e : c100_3 = .region 1 r100_3 false := by kernel_rfl
theorem c100_4e : c100_4 = .ret := by kernel_rfl
noncomputable def tontineref03_Text.R : Pst (List UInt8) where
  ε := Unit
  v := fun r x => .string (bs r)
  H := fun r x => []
  B := fun r x => []
noncomputable def tontineref03_Text.cx (w0 : World) (S0 : Fam) : Cx (List UInt8) := ⟨Try.prog, 100, Try.f100, 9, w0, S0, [], 0, tontineref03_Text.R⟩
theorem tontineref03_Text_ok (n : Nat) (s_1 : (List UInt8)) :
    Meets Try.prog 100 [.string (bs s_1)] 0 [] [] [] (tontineref03_Text.f n s_1) (tontineref03_Text.R) := by
  refine Meets.of (c := c100_0) (n := 9) Try.func100 (by kernel_rfl) (by kernel_rfl) (by kernel_rfl) fun w0 S0 => ?_
  unfold tontineref03_Text.f
  show GoO (tontineref03_Text.cx w0 S0) [(0, .string (bs s_1))] [] [] [.code c100_0] _
  refine GoO.seq' c100_0e ?_
  refine GoO.region' (is := [0]) c100_1e (by kernel_rfl) ?_
  refine GoO.exec (is := [0]) (hs := [.p]) (rest := []) (ks := [0]) (env' := [(0, .string (bs s_1))]) (H' := []) (ps := []) (by kernel_rfl) trivial ?_
  refine GoO.regionEnd ?_
  refine GoO.seq' c100_2e ?_
  refine GoO.region' (is := [0, 1, 2, 3, 4, 5, 6]) c100_3e (by kernel_rfl) ?_
  refine GoO.exec (is := [0, 1, 2]) (hs := [.p, .p, .p]) (rest := [3, 4, 5, 6]) (ks := [0, 5]) (env' := [(0, .string (bs s_1)), (5, vU (wu64 (s_1.length : Int)))]) (H' := []) (ps := []) (by kernel_rfl) trivial ?_
  refine OpTo.go (GoO.call rfl (by kernel_rfl) (by kernel_rfl) (tontineref03_Num_ok n (wu64 (s_1.length : Int))) [[0]] [] [] [] (hks := []) (bks := []) (by kernel_rfl) (by kernel_rfl) (by kernel_rfl) (.inl rfl) rfl rfl (by kernel_rfl) (by kernel_rfl) _ (fun _ _ => rfl) _ _ (fun _ _ => rfl) (fun _ _ => rfl) (fun _ _ => by kernel_rfl) (fun _ _ => by kernel_rfl) (fun r_2 x_4 => ?_))
  refine GoO.shape (env' := [(0, .string (bs s_1)), (5, vU (wu64 (s_1.length : Int))), (6, .string (bs r_2))]) (H' := []) (B' := []) (ks := [0, 5, 6]) (by kernel_rfl) (by kernel_rfl) (by kernel_rfl) ?_
  refine GoO.guard (fun h3 => ?_)
  refine GoO.exec (is := [4, 5, 6]) (hs := [.p, .p, .p]) (rest := []) (ks := [2]) (env' := [(2, .string (bs (r_2 ++ s_1)))]) (H' := []) (ps := [r_2.length + s_1.length ≤ i64max]) (by kernel_rfl) (And.intro h3 trivial) ?_
  refine GoO.regionEnd ?_
  exact GoO.ret' (h := c100_4e) (hs := []) (ps := []) (hk := []) (bk := []) Try.func100 () (by kernel_rfl) trivial (by kernel_rfl) (by kernel_rfl)
/-! tontine/tontineref13.Bytes -/
noncomputable def c93_0 : Code := bodyOf Try.f93
noncomputable def c93_1 : Code := cdL c93_0
noncomputable def c93_2 : Code := cdR c93_0
noncomputable def c93_3 : Code := cdL c93_2
noncomputable def c93_4 : Code := cdR c93_2
noncomputable def c93_5 : Code := cdL c93_4
noncomputable def c93_6 : Code := cdL c93_5
noncomputable def c93_7 : Code := cdR c93_5
noncomputable def c93_8 : Code := cdL c93_7
noncomputable def c93_9 : Code := cdL c93_8
noncomputable def c93_10 : Code := cdL c93_9
noncomputable def c93_11 : Code := cdL c93_10
noncomputable def c93_12 : Code := cdR c93_10
noncomputable def c93_13 : Code := cdL c93_12
noncomputable def c93_14 : Code := cdR c93_12
noncomputable def c93_15 : Code := cdR c93_9
noncomputable def c93_16 : Code := cdL c93_15
noncomputable def c93_17 : Code := cdL c93_16
noncomputable def c93_18 : Code := cdR c93_15
noncomputable def c93_19 : Code := cdR c93_4
noncomputable def c93_20 : Code := cdL c93_19
noncomputable def c93_21 : Code := cdR c93_19
noncomputable def r93_1 : Array Oper := cdO c93_1
noncomputable def r93_3 : Array Oper := cdO c93_3
noncomputable def r93_6 : Array Oper := cdO c93_6
noncomputable def r93_11 : Array Oper := cdO c93_11
noncomputable def r93_17 : Array Oper := cdO c93_17
noncomputable def r93_18 : Array Oper := cdO c93_18
noncomputable def r93_20 : Array Oper := cdO c93_20
theorem c93_0e : c93_0 = .seq c93_1 c93_2 := by kernel_rfl
theorem c93_1e : c93_1 = .region 0 r93_1 false := by kernel_rfl
theorem c93_2e : c93_2 = .seq c93_3 c93_4 := by kernel_rfl
theorem c93_3e : c93_3 = .region 1 r93_3 false := by kernel_rfl
theorem c93_4e : c93_4 = .seq c93_5 c93_19 := by kernel_rfl
theorem c93_5e : c93_5 = .seq c93_6 c93_7 := by kernel_rfl
theorem c93_6e : c93_6 = .region 2 r93_6 false := by kernel_rfl
theorem c93_7e : c93_7 = .block 0 c93_8 := by kernel_rfl
theorem c93_8e : c93_8 = .loop c93_9 := by kernel_rfl
theorem c93_9e : c93_9 = .seq c93_10 c93_15 := by kernel_rfl
theorem c93_10e : c93_10 = .seq c93_11 c93_12 := by kernel_rfl
theorem c93_11e : c93_11 = .region 3 r93_11 false := by kernel_rfl
theorem c93_12e : c93_12 = .cond (cdC c93_12) c93_13 c93_14 := by kernel_rfl
theorem c93_13e : c93_13 = .skip := by kernel_rfl
theorem c93_14e : c93_14 = .exit 0 := by kernel_rfl
theorem c93_15e : c93_15 = .seq c93_16 c93_18 := by kernel_rfl
theorem c93_16e : c93_16 = .block 1 c93_17 := by kernel_rfl
theorem c93_17e : c93_17 = .region 5 r93_17 true := by kernel_rfl
theorem c93_18e : c93_18 = .region 4 r93_18 false := by kernel_rfl
theorem c93_19e : c93_19 = .seq c93_20 c93_21 := by kernel_rfl
theorem c93_20e : c93_20 = .region 6 r93_20 false := by kernel_rfl
theorem c93_21e : c93_21 = .ret := by kernel_rfl
noncomputable def tontineref13_Bytes.R (A_2 : Option Addr) (c_3 : Nat) : Pst (List UInt8) where
  ε := Unit
  v := fun r x => .string (bs r)
  H := fun r x => []
  B := fun r x => []
noncomputable def tontineref13_Bytes.cx (A_2 : Option Addr) (c_3 : Nat) (w0 : World) (S0 : Fam) : Cx (List UInt8) := ⟨Try.prog, 93, Try.f93, 40, w0, S0, [], 0, tontineref13_Bytes.R A_2 c_3⟩
theorem tontineref13_Bytes_l0_ok (n : Nat) (l_1 : (List T_api_Step)) (A_2 : Option Addr) (c_3 : Nat) (w0 : World) (S0 : Fam) :
    ∀ (k : Nat) (s_5 : (List UInt8)) (i_6 : Int), GoO (tontineref13_Bytes.cx A_2 c_3 w0 S0) [(0, .slice A_2 l_1.length c_3), (3, .string (bs s_5)), (4, vI i_6)] [] [Rd 0 kT_api_Step A_2 c_3 l_1] [.code c93_9, .inLoop c93_9, .inBlock 0, .code c93_19] (tontineref13_Bytes.l0 n l_1 k s_5 i_6) := by
  intro k
  induction k with
  | zero => intros; rw [tontineref13_Bytes.l0.eq_1]; exact GoO.stop
  | succ k ih0 =>
    intro s_5 i_6
    rw [tontineref13_Bytes.l0.eq_2]
    refine GoO.seq' c93_9e ?_
    refine GoO.seq' c93_10e ?_
    refine GoO.region' (is := [0, 1, 2, 3]) c93_11e (by kernel_rfl) ?_
    refine GoO.exec (is := [0, 1, 2, 3]) (hs := [.p, .p, .p, .p]) (rest := []) (ks := [0, 3, 4, 12]) (env' := [(0, .slice A_2 l_1.length c_3), (3, .string (bs s_5)), (4, vI i_6), (12, .bool (decide (i_6 < (l_1.length : Int))))]) (H' := []) (ps := []) (by kernel_rfl) trivial ?_
    refine GoO.regionEnd ?_
    refine GoO.ite' c93_12e (by kernel_rfl) (fun h7 => ?_) (fun h7 => ?_)
    · refine GoO.skip' c93_13e ?_
      refine GoO.seq' c93_15e ?_
      refine GoO.block' c93_16e ?_
      refine GoO.draw c93_17e (by kernel_rfl) [24] [] [Rd 0 kT_api_Step A_2 c_3 l_1] (n := 25) (by kernel_rfl) ?_
      simp only [List.replicate]
      refine GoF.take [0, 1, 2, 8, 9, 15, 16] [.p, .p, .p, .p, .p, .p, .p] (ks := [0, 4, 15, 16, 17, 23, 24, 30, 31]) (fu := 18) (li := [true, true, true, false, false, false, false, false, true, true, false, false, false, false, false, true, true, false, false, false, false, false, false, false, false]) (env' := [(0, .slice A_2 l_1.length c_3), (4, vI i_6), (15, .string (bs s_5)), (16, .slice A_2 l_1.length c_3), (17, vI i_6), (23, .slice A_2 l_1.length c_3), (24, vI i_6), (30, .slice A_2 l_1.length c_3), (31, vI i_6)]) (ps := []) (hk := []) (bk := [0]) (by kernel_rfl) trivial rfl rfl ?_
      refine GoF.guard (fun h8 => ?_)
      refine GoF.idx (i := 3) (hk := []) (bk := [0]) (kk := .i64) (e := 160) (K := kT_api_Step) (A := A_2) (c := c_3) (xs := l_1) (iv := i_6) (j := 0) (by kernel_rfl) rfl rfl rfl (by kernel_rfl) (by kernel_rfl) (by kernel_rfl) (by kernel_rfl) rfl Reads.rd rfl h8.1 h8.2 (by decide) rfl ?_
      refine GoF.fldE (i := 4) (hk := []) (bk := [0]) (K := kT_api_Step) (A := A_2) (c := c_3) (xs := l_1) (iN := i_6.toNat) (off := 0) (n := 0) (j := 0) (by kernel_rfl) rfl rfl rfl (by kernel_rfl) (by kernel_rfl) rfl Reads.rd (by first | exact idx_lt h8.1 h8.2 | (simp only [List.length_set]; exact idx_lt h8.1 h8.2)) (by decide) rfl ?_
      refine GoF.ldE (i := 5) (hk := []) (bk := [0]) (K := kT_api_Step) (A := A_2) (c := c_3) (xs := l_1) (iN := i_6.toNat) (off := 0) (j := 0) (v := vI ((rdL l_1 i_6).Part)) (by kernel_rfl) rfl rfl rfl (hK := rfl) (by kernel_rfl) rfl Reads.rd (by first | exact idx_lt h8.1 h8.2 | (simp only [List.length_set]; exact idx_lt h8.1 h8.2)) (by decide) (by kernel_rfl) rfl ?_
      refine GoF.take [6] [.p] (ks := [0, 4, 15, 21, 23, 24, 30, 31]) (fu := 14) (li := [true, true, true, true, true, true, true, false, true, true, false, false, false, false, false, true, true, false, false, false, false, false, false, false, false]) (env' := [(0, .slice A_2 l_1.length c_3), (4, vI i_6), (15, .string (bs s_5)), (21, vU (wu64 ((rdL l_1 i_6).Part))), (23, .slice A_2 l_1.length c_3), (24, vI i_6), (30, .slice A_2 l_1.length c_3), (31, vI i_6)]) (ps := []) (hk := []) (bk := [0]) (by kernel_rfl) trivial rfl rfl ?_
      refine GoF.guard (fun h9 => ?_)
      refine GoF.idx (i := 10) (hk := []) (bk := [0]) (kk := .i64) (e := 160) (K := kT_api_Step) (A := A_2) (c := c_3) (xs := l_1) (iv := i_6) (j := 0) (by kernel_rfl) rfl rfl rfl (by kernel_rfl) (by kernel_rfl) (by kernel_rfl) (by kernel_rfl) rfl Reads.rd rfl h9.1 h9.2 (by decide) rfl ?_
      refine GoF.fldE (i := 11) (hk := []) (bk := [0]) (K := kT_api_Step) (A := A_2) (c := c_3) (xs := l_1) (iN := i_6.toNat) (off := 0) (n := 1) (j := 0) (by kernel_rfl) rfl rfl rfl (by kernel_rfl) (by kernel_rfl) rfl Reads.rd (by first | exact idx_lt h9.1 h9.2 | (simp only [List.length_set]; exact idx_lt h9.1 h9.2)) (by decide) rfl ?_
      refine GoF.ldE (i := 12) (hk := []) (bk := [0]) (K := kT_api_Step) (A := A_2) (c := c_3) (xs := l_1) (iN := i_6.toNat) (off := 1) (j := 0) (v := .string (bs ((rdL l_1 i_6).Name))) (by kernel_rfl) rfl rfl rfl (hK := rfl) (by kernel_rfl) rfl Reads.rd (by first | exact idx_lt h9.1 h9.2 | (simp only [List.length_set]; exact idx_lt h9.1 h9.2)) (by decide) (by kernel_rfl) rfl ?_
      refine GoF.guard (fun h10 => ?_)
      refine GoF.idx (i := 17) (hk := []) (bk := [0]) (kk := .i64) (e := 160) (K := kT_api_Step) (A := A_2) (c := c_3) (xs := l_1) (iv := i_6) (j := 0) (by kernel_rfl) rfl rfl rfl (by kernel_rfl) (by kernel_rfl) (by kernel_rfl) (by kernel_rfl) rfl Reads.rd rfl h10.1 h10.2 (by decide) rfl ?_
      refine GoF.fldE (i := 18) (hk := []) (bk := [0]) (K := kT_api_Step) (A := A_2) (c := c_3) (xs := l_1) (iN := i_6.toNat) (off := 0) (n := 2) (j := 0) (by kernel_rfl) rfl rfl rfl (by kernel_rfl) (by kernel_rfl) rfl Reads.rd (by first | exact idx_lt h10.1 h10.2 | (simp only [List.length_set]; exact idx_lt h10.1 h10.2)) (by decide) rfl ?_
      refine GoF.ldE (i := 19) (hk := []) (bk := [0]) (K := kT_api_Step) (A := A_2) (c := c_3) (xs := l_1) (iN := i_6.toNat) (off := 2) (j := 0) (v := vI ((rdL l_1 i_6).Budget)) (by kernel_rfl) rfl rfl rfl (hK := rfl) (by kernel_rfl) rfl Reads.rd (by first | exact idx_lt h10.1 h10.2 | (simp only [List.length_set]; exact idx_lt h10.1 h10.2)) (by decide) (by kernel_rfl) rfl ?_
      refine GoF.take [20] [.p] (ks := [0, 4, 15, 21, 27, 35]) (fu := 7) (li := [true, true, true, true, true, true, true, false, true, true, true, true, true, false, false, true, true, true, true, true, true, false, false, false, false]) (env' := [(0, .slice A_2 l_1.length c_3), (4, vI i_6), (15, .string (bs s_5)), (21, vU (wu64 ((rdL l_1 i_6).Part))), (27, .string (bs ((rdL l_1 i_6).Name))), (35, vU (wu64 ((rdL l_1 i_6).Budget)))]) (ps := []) (hk := []) (bk := [0]) (by kernel_rfl) trivial rfl rfl ?_
      refine OpTo.goF (i := 7) (by kernel_rfl) (hk := []) (bk := [0]) (GoO.call rfl (by kernel_rfl) (by kernel_rfl) (tontineref03_Num_ok n (wu64 ((rdL l_1 i_6).Part))) [[0]] [] [] [] (hks := []) (bks := [0]) (by kernel_rfl) (by kernel_rfl) (by kernel_rfl) (.inl rfl) rfl rfl (by kernel_rfl) (by kernel_rfl) _ (fun _ _ => rfl) _ _ (fun _ _ => rfl) (fun _ _ => rfl) (fun _ _ => by kernel_rfl) (fun _ _ => by kernel_rfl) (fun r_11 x_19 => ⟨rfl, rfl, ?_⟩))
      refine GoF.shape (env' := [(0, .slice A_2 l_1.length c_3), (4, vI i_6), (15, .string (bs s_5)), (21, vU (wu64 ((rdL l_1 i_6).Part))), (22, .string (bs r_11)), (27, .string (bs ((rdL l_1 i_6).Name))), (35, vU (wu64 ((rdL l_1 i_6).Budget)))]) (H' := []) (B' := [Rd 0 kT_api_Step A_2 c_3 l_1]) (ks := [0, 4, 15, 21, 22, 27, 35]) (by kernel_rfl) (by kernel_rfl) (by kernel_rfl) ?_
      refine OpTo.goF (i := 13) (by kernel_rfl) (hk := []) (bk := [0]) (GoO.call rfl (by kernel_rfl) (by kernel_rfl) (tontineref03_Text_ok n ((rdL l_1 i_6).Name)) [[0]] [] [] [] (hks := []) (bks := [0]) (by kernel_rfl) (by kernel_rfl) (by kernel_rfl) (.inl rfl) rfl rfl (by kernel_rfl) (by kernel_rfl) _ (fun _ _ => rfl) _ _ (fun _ _ => rfl) (fun _ _ => rfl) (fun _ _ => by kernel_rfl) (fun _ _ => by kernel_rfl) (fun r_12 x_18 => ⟨rfl, rfl, ?_⟩))
      refine GoF.shape (env' := [(0, .slice A_2 l_1.length c_3), (4, vI i_6), (15, .string (bs s_5)), (21, vU (wu64 ((rdL l_1 i_6).Part))), (22, .string (bs r_11)), (27, .string (bs ((rdL l_1 i_6).Name))), (28, .string (bs r_12)), (35, vU (wu64 ((rdL l_1 i_6).Budget)))]) (H' := []) (B' := [Rd 0 kT_api_Step A_2 c_3 l_1]) (ks := [0, 4, 15, 21, 22, 27, 28, 35]) (by kernel_rfl) (by kernel_rfl) (by kernel_rfl) ?_
      refine GoF.guard (fun h13 => ?_)
      refine GoF.take [14] [.p] (ks := [0, 4, 15, 29, 35]) (fu := 4) (li := [true, true, true, true, true, true, true, true, true, true, true, true, true, true, true, true, true, true, true, true, true, false, false, false, false]) (env' := [(0, .slice A_2 l_1.length c_3), (4, vI i_6), (15, .string (bs s_5)), (29, .string (bs (r_11 ++ r_12))), (35, vU (wu64 ((rdL l_1 i_6).Budget)))]) (ps := [r_11.length + r_12.length ≤ i64max]) (hk := []) (bk := [0]) (by kernel_rfl) (And.intro h13 trivial) rfl rfl ?_
      refine OpTo.goF (i := 21) (by kernel_rfl) (hk := []) (bk := [0]) (GoO.call rfl (by kernel_rfl) (by kernel_rfl) (tontineref03_Num_ok n (wu64 ((rdL l_1 i_6).Budget))) [[0]] [] [] [] (hks := []) (bks := [0]) (by kernel_rfl) (by kernel_rfl) (by kernel_rfl) (.inl rfl) rfl rfl (by kernel_rfl) (by kernel_rfl) _ (fun _ _ => rfl) _ _ (fun _ _ => rfl) (fun _ _ => rfl) (fun _ _ => by kernel_rfl) (fun _ _ => by kernel_rfl) (fun r_14 x_17 => ⟨rfl, rfl, ?_⟩))
      refine GoF.shape (env' := [(0, .slice A_2 l_1.length c_3), (4, vI i_6), (15, .string (bs s_5)), (29, .string (bs (r_11 ++ r_12))), (35, vU (wu64 ((rdL l_1 i_6).Budget))), (36, .string (bs r_14))]) (H' := []) (B' := [Rd 0 kT_api_Step A_2 c_3 l_1]) (ks := [0, 4, 15, 29, 35, 36]) (by kernel_rfl) (by kernel_rfl) (by kernel_rfl) ?_
      refine GoF.guard (fun h15 => ?_)
      refine GoF.guard (fun h16 => ?_)
      refine GoF.take [22, 23] [.p, .p] (ks := [0, 4, 38]) (fu := 1) (li := [true, true, true, true, true, true, true, true, true, true, true, true, true, true, true, true, true, true, true, true, true, true, true, true, false]) (env' := [(0, .slice A_2 l_1.length c_3), (4, vI i_6), (38, .string (bs (s_5 ++ ((r_11 ++ r_12) ++ r_14))))]) (ps := [(r_11 ++ r_12).length + r_14.length ≤ i64max, s_5.length + ((r_11 ++ r_12) ++ r_14).length ≤ i64max]) (hk := []) (bk := [0]) (by kernel_rfl) (And.intro h15 (And.intro h16 trivial)) rfl rfl ?_
      refine GoF.fin1 (i := 24) (hint := .p) (ps := []) (hk := []) (bk := []) (by kernel_rfl) rfl trivial (.inl rfl) ?_
      refine GoF.done (by kernel_rfl) ?_
      refine GoO.inBlock ?_
      refine GoO.region' (is := [0, 1, 2]) c93_18e (by kernel_rfl) ?_
      refine GoO.exec (is := [0, 1, 2]) (hs := [.p, .p, .p]) (rest := []) (ks := [0, 3, 4]) (env' := [(0, .slice A_2 l_1.length c_3), (3, .string (bs (s_5 ++ ((r_11 ++ r_12) ++ r_14)))), (4, vI (wi64 (i_6 + 1)))]) (H' := []) (ps := []) (by kernel_rfl) trivial ?_
      refine GoO.regionEnd ?_
      refine GoO.inLoop ?_
      exact GoO.sub (ks := [0, 3, 4]) (hk := []) (bk := [0]) (by kernel_rfl) (by kernel_rfl) (by kernel_rfl) (ih0 (s_5 ++ ((r_11 ++ r_12) ++ r_14)) (wi64 (i_6 + 1)))
    · refine GoO.exit' c93_14e rfl ?_
      refine GoO.seq' c93_19e ?_
      refine GoO.region' (is := [0, 1]) c93_20e (by kernel_rfl) ?_
      refine GoO.exec (is := [0, 1]) (hs := [.p, .p]) (rest := []) (ks := [2]) (env' := [(2, .string (bs s_5))]) (H' := []) (ps := []) (by kernel_rfl) trivial ?_
      refine GoO.regionEnd ?_
      exact GoO.ret' (h := c93_21e) (hs := []) (ps := []) (hk := []) (bk := []) Try.func93 () (by kernel_rfl) trivial (by kernel_rfl) (by kernel_rfl)
theorem tontineref13_Bytes_ok (n : Nat) (l_1 : (List T_api_Step)) (A_2 : Option Addr) (c_3 : Nat) :
    Meets Try.prog 93 [.slice A_2 l_1.length c_3] 0 [] [] [Rd 0 kT_api_Step A_2 c_3 l_1] (tontineref13_Bytes.f n l_1) (tontineref13_Bytes.R A_2 c_3) := by
  refine Meets.of (c := c93_0) (n := 40) Try.func93 (by kernel_rfl) (by kernel_rfl) (by kernel_rfl) fun w0 S0 => ?_
  unfold tontineref13_Bytes.f
  show GoO (tontineref13_Bytes.cx A_2 c_3 w0 S0) [(0, .slice A_2 l_1.length c_3)] [] [Rd 0 kT_api_Step A_2 c_3 l_1] [.code c93_0] _
  refine GoO.seq' c93_0e ?_
  refine GoO.region' (is := [0]) c93_1e (by kernel_rfl) ?_
  refine GoO.exec (is := [0]) (hs := [.p]) (rest := []) (ks := [0]) (env' := [(0, .slice A_2 l_1.length c_3)]) (H' := []) (ps := []) (by kernel_rfl) trivial ?_
  refine GoO.regionEnd ?_
  refine GoO.seq' c93_2e ?_
  refine GoO.region' (is := [0, 1, 2, 3, 4]) c93_3e (by kernel_rfl) ?_
  refine GoO.exec (is := [0, 1, 2]) (hs := [.p, .p, .p]) (rest := [3, 4]) (ks := [0, 7]) (env' := [(0, .slice A_2 l_1.length c_3), (7, vU (wu64 (l_1.length : Int)))]) (H' := []) (ps := []) (by kernel_rfl) trivial ?_
  refine OpTo.go (GoO.call rfl (by kernel_rfl) (by kernel_rfl) (tontineref03_Num_ok n (wu64 (l_1.length : Int))) [[0]] [] [] [] (hks := []) (bks := [0]) (by kernel_rfl) (by kernel_rfl) (by kernel_rfl) (.inl rfl) rfl rfl (by kernel_rfl) (by kernel_rfl) _ (fun _ _ => rfl) _ _ (fun _ _ => rfl) (fun _ _ => rfl) (fun _ _ => by kernel_rfl) (fun _ _ => by kernel_rfl) (fun r_4 x_20 => ?_))
  refine GoO.shape (env' := [(0, .slice A_2 l_1.length c_3), (7, vU (wu64 (l_1.length : Int))), (8, .string (bs r_4))]) (H' := []) (B' := [Rd 0 kT_api_Step A_2 c_3 l_1]) (ks := [0, 7, 8]) (by kernel_rfl) (by kernel_rfl) (by kernel_rfl) ?_
  refine GoO.exec (is := [4]) (hs := [.p]) (rest := []) (ks := [0, 3]) (env' := [(0, .slice A_2 l_1.length c_3), (3, .string (bs r_4))]) (H' := []) (ps := []) (by kernel_rfl) trivial ?_
  refine GoO.regionEnd ?_
  refine GoO.seq' c93_4e ?_
  refine GoO.seq' c93_5e ?_
  refine GoO.region' (is := [0]) c93_6e (by kernel_rfl) ?_
  refine GoO.exec (is := [0]) (hs := [.p]) (rest := []) (ks := [0, 3, 4]) (env' := [(0, .slice A_2 l_1.length c_3), (3, .string (bs r_4)), (4, vI 0)]) (H' := []) (ps := []) (by kernel_rfl) trivial ?_
  refine GoO.regionEnd ?_
  refine GoO.block' c93_7e ?_
  refine GoO.loop' c93_8e ?_
  exact GoO.sub (ks := [0, 3, 4]) (hk := []) (bk := [0]) (by kernel_rfl) (by kernel_rfl) (by kernel_rfl) (tontineref13_Bytes_l0_ok n l_1 A_2 c_3 w0 S0 n r_4 0)
/-! tontine/tontineref16.truth -/
noncomputable def c94_0 : Code := bodyOf Try.f94
noncomputable def c94_1 : Code := cdL c94_0
noncomputable def c94_2 : Code := cdR c94_0
noncomputable def c94_3 : Code := cdL c94_2
noncomputable def c94_4 : Code := cdL c94_3
noncomputable def c94_5 : Code := cdR c94_3
noncomputable def c94_6 : Code := cdL c94_5
noncomputable def c94_7 : Code := cdL c94_6
noncomputable def c94_8 : Code := cdR c94_6
noncomputable def c94_9 : Code := cdR c94_5
noncomputable def c94_10 : Code := cdR c94_2
noncomputable def c94_11 : Code := cdL c94_10
noncomputable def c94_12 : Code := cdR c94_10
noncomputable def r94_1 : Array Oper := cdO c94_1
noncomputable def r94_4 : Array Oper := cdO c94_4
noncomputable def r94_7 : Array Oper := cdO c94_7
noncomputable def r94_11 : Array Oper := cdO c94_11
theorem c94_0e : c94_0 = .seq c94_1 c94_2 := by kernel_rfl
theorem c94_1e : c94_1 = .region 0 r94_1 false := by kernel_rfl
theorem c94_2e : c94_2 = .seq c94_3 c94_10 := by kernel_rfl
theorem c94_3e : c94_3 = .seq c94_4 c94_5 := by kernel_rfl
theorem c94_4e : c94_4 = .region 1 r94_4 false := by kernel_rfl
theorem c94_5e : c94_5 = .cond (cdC c94_5) c94_6 c94_9 := by kernel_rfl
theorem c94_6e : c94_6 = .seq c94_7 c94_8 := by kernel_rfl
theorem c94_7e : c94_7 = .region 2 r94_7 false := by kernel_rfl
theorem c94_8e : c94_8 = .ret := by kernel_rfl
theorem c94_9e : c94_9 = .skip := by kernel_rfl
theorem c94_10e : c94_10 = .seq c94_11 c94_12 := by kernel_rfl
theorem c94_11e : c94_11 = .region 3 r94_11 false := by kernel_rfl
theorem c94_12e : c94_12 = .ret := by kernel_rfl
noncomputable def tontineref16_truth.R : Pst Int where
  ε := Unit
  v := fun r x => vU r
  H := fun r x => []
  B := fun r x => []
noncomputable def tontineref16_truth.cx (w0 : World) (S0 : Fam) : Cx Int := ⟨Try.prog, 94, Try.f94, 4, w0, S0, [], 0, tontineref16_truth.R⟩
theorem tontineref16_truth_ok (n : Nat) (x_1 : Bool) :
    Meets Try.prog 94 [.bool x_1] 0 [] [] [] (tontineref16_truth.f n x_1) (tontineref16_truth.R) := by
  refine Meets.of (c := c94_0) (n := 4) Try.func94 (by kernel_rfl) (by kernel_rfl) (by kernel_rfl) fun w0 S0 => ?_
  unfold tontineref16_truth.f
  show GoO (tontineref16_truth.cx w0 S0) [(0, .bool x_1)] [] [] [.code c94_0] _
  refine GoO.seq' c94_0e ?_
  refine GoO.region' (is := [0]) c94_1e (by kernel_rfl) ?_
  refine GoO.exec (is := [0]) (hs := [.p]) (rest := []) (ks := [0]) (env' := [(0, .bool x_1)]) (H' := []) (ps := []) (by kernel_rfl) trivial ?_
  refine GoO.regionEnd ?_
  refine GoO.seq' c94_2e ?_
  refine GoO.seq' c94_3e ?_
  refine GoO.region' (is := [0]) c94_4e (by kernel_rfl) ?_
  refine GoO.exec (is := [0]) (hs := [.p]) (rest := []) (ks := [3]) (env' := [(3, .bool x_1)]) (H' := []) (ps := []) (by kernel_rfl) trivial ?_
  refine GoO.regionEnd ?_
  refine GoO.ite' c94_5e (by kernel_rfl) (fun h2 => ?_) (fun h2 => ?_)
  · refine GoO.seq' c94_6e ?_
    refine GoO.region' (is := [0]) c94_7e (by kernel_rfl) ?_
    refine GoO.exec (is := [0]) (hs := [.p]) (rest := []) (ks := [2]) (env' := [(2, vU 1)]) (H' := []) (ps := []) (by kernel_rfl) trivial ?_
    refine GoO.regionEnd ?_
    exact GoO.ret' (h := c94_8e) (hs := []) (ps := []) (hk := []) (bk := []) Try.func94 () (by kernel_rfl) trivial (by kernel_rfl) (by kernel_rfl)
  · refine GoO.skip' c94_9e ?_
    refine GoO.seq' c94_10e ?_
    refine GoO.region' (is := [0]) c94_11e (by kernel_rfl) ?_
    refine GoO.exec (is := [0]) (hs := [.p]) (rest := []) (ks := [2]) (env' := [(2, vU 0)]) (H' := []) (ps := []) (by kernel_rfl) trivial ?_
    refine GoO.regionEnd ?_
    exact GoO.ret' (h := c94_12e) (hs := []) (ps := []) (hk := []) (bk := []) Try.func94 () (by kernel_rfl) trivial (by kernel_rfl) (by kernel_rfl)
/-! tontine/tontineref16.Encode -/
noncomputable def c74_0 : Code := bodyOf Try.f74
noncomputable def c74_1 : Code := cdL c74_0
noncomputable def c74_2 : Code := cdR c74_0
noncomputable def c74_3 : Code := cdL c74_2
noncomputable def c74_4 : Code := cdL c74_3
noncomputable def c74_5 : Code := cdR c74_3
noncomputable def c74_6 : Code := cdL c74_5
noncomputable def c74_7 : Code := cdL c74_6
noncomputable def c74_8 : Code := cdR c74_6
noncomputable def c74_9 : Code := cdR c74_5
noncomputable def c74_10 : Code := cdR c74_2
noncomputable def c74_11 : Code := cdL c74_10
noncomputable def c74_12 : Code := cdL c74_11
noncomputable def c74_13 : Code := cdR c74_11
noncomputable def c74_14 : Code := cdL c74_13
noncomputable def c74_15 : Code := cdL c74_14
noncomputable def c74_16 : Code := cdR c74_14
noncomputable def c74_17 : Code := cdR c74_13
noncomputable def c74_18 : Code := cdR c74_10
noncomputable def c74_19 : Code := cdL c74_18
noncomputable def c74_20 : Code := cdR c74_18
noncomputable def c74_21 : Code := cdL c74_20
noncomputable def c74_22 : Code := cdL c74_21
noncomputable def c74_23 : Code := cdR c74_21
noncomputable def c74_24 : Code := cdL c74_23
noncomputable def c74_25 : Code := cdR c74_23
noncomputable def c74_26 : Code := cdR c74_20
noncomputable def c74_27 : Code := cdL c74_26
noncomputable def c74_28 : Code := cdL c74_27
noncomputable def c74_29 : Code := cdR c74_27
noncomputable def c74_30 : Code := cdL c74_29
noncomputable def c74_31 : Code := cdR c74_29
noncomputable def c74_32 : Code := cdR c74_26
noncomputable def c74_33 : Code := cdL c74_32
noncomputable def c74_34 : Code := cdR c74_32
noncomputable def r74_1 : Array Oper := cdO c74_1
noncomputable def r74_4 : Array Oper := cdO c74_4
noncomputable def r74_7 : Array Oper := cdO c74_7
noncomputable def r74_12 : Array Oper := cdO c74_12
noncomputable def r74_15 : Array Oper := cdO c74_15
noncomputable def r74_19 : Array Oper := cdO c74_19
noncomputable def r74_22 : Array Oper := cdO c74_22
noncomputable def r74_24 : Array Oper := cdO c74_24
noncomputable def r74_28 : Array Oper := cdO c74_28
noncomputable def r74_30 : Array Oper := cdO c74_30
noncomputable def r74_33 : Array Oper := cdO c74_33
theorem c74_0e : c74_0 = .seq c74_1 c74_2 := by kernel_rfl
theorem c74_1e : c74_1 = .region 0 r74_1 false := by kernel_rfl
theorem c74_2e : c74_2 = .seq c74_3 c74_10 := by kernel_rfl
theorem c74_3e : c74_3 = .seq c74_4 c74_5 := by kernel_rfl
theorem c74_4e : c74_4 = .region 1 r74_4 false := by kernel_rfl
theorem c74_5e : c74_5 = .cond (cdC c74_5) c74_6 c74_9 := by kernel_rfl
theorem c74_6e : c74_6 = .seq c74_7 c74_8 := by kernel_rfl
theorem c74_7e : c74_7 = .region 2 r74_7 false := by kernel_rfl
theorem c74_8e : c74_8 = .ret := by kernel_rfl
theorem c74_9e : c74_9 = .skip := by kernel_rfl
theorem c74_10e : c74_10 = .seq c74_11 c74_18 := by kernel_rfl
theorem c74_11e : c74_11 = .seq c74_12 c74_13 := by kernel_rfl
theorem c74_12e : c74_12 = .region 3 r74_12 false := by kernel_rfl
theorem c74_13e : c74_13 = .cond (cdC c74_13) c74_14 c74_17 := by kernel_rfl
theorem c74_14e : c74_14 = .seq c74_15 c74_16 := by kernel_rfl
theorem c74_15e : c74_15 = .region 4 r74_15 false := by kernel_rfl
theorem c74_16e : c74_16 = .ret := by kernel_rfl
theorem c74_17e : c74_17 = .skip := by kernel_rfl
theorem c74_18e : c74_18 = .seq c74_19 c74_20 := by kernel_rfl
theorem c74_19e : c74_19 = .region 5 r74_19 false := by kernel_rfl
theorem c74_20e : c74_20 = .seq c74_21 c74_26 := by kernel_rfl
theorem c74_21e : c74_21 = .seq c74_22 c74_23 := by kernel_rfl
theorem c74_22e : c74_22 = .region 6 r74_22 false := by kernel_rfl
theorem c74_23e : c74_23 = .cond (cdC c74_23) c74_24 c74_25 := by kernel_rfl
theorem c74_24e : c74_24 = .region 7 r74_24 false := by kernel_rfl
theorem c74_25e : c74_25 = .skip := by kernel_rfl
theorem c74_26e : c74_26 = .seq c74_27 c74_32 := by kernel_rfl
theorem c74_27e : c74_27 = .seq c74_28 c74_29 := by kernel_rfl
theorem c74_28e : c74_28 = .region 8 r74_28 false := by kernel_rfl
theorem c74_29e : c74_29 = .cond (cdC c74_29) c74_30 c74_31 := by kernel_rfl
theorem c74_30e : c74_30 = .region 9 r74_30 true := by kernel_rfl
theorem c74_31e : c74_31 = .skip := by kernel_rfl
theorem c74_32e : c74_32 = .seq c74_33 c74_34 := by kernel_rfl
theorem c74_33e : c74_33 = .region 10 r74_33 false := by kernel_rfl
theorem c74_34e : c74_34 = .ret := by kernel_rfl
noncomputable def tontineref16_Encode.R (A_2 : Option Addr) (c_3 : Nat) : Pst ((List UInt8) × Int) where
  ε := Unit
  v := fun r x => .tuple ⟨[.string (bs r.1), vI r.2]⟩
  H := fun r x => []
  B := fun r x => []
noncomputable def tontineref16_Encode.cx (A_2 : Option Addr) (c_3 : Nat) (w0 : World) (S0 : Fam) : Cx ((List UInt8) × Int) := ⟨Try.prog, 74, Try.f74, 58, w0, S0, [], 0, tontineref16_Encode.R A_2 c_3⟩
theorem tontineref16_Encode_j1_ok (n : Nat) (c_1 : T_api_Command) (A_2 : Option Addr) (c_3 : Nat) (b_4 : Nat) (w0 : World) (S0 : Fam) (s_17 : (List UInt8)) :
    GoO (tontineref16_Encode.cx A_2 c_3 w0 S0) [(1, vP b_4), (4, .string (bs s_17))] [⟨40, b_4, [vI c_1.Kind, vU c_1.Session, vU c_1.Seq, vU c_1.Saga, .slice A_2 c_1.Steps.length c_3, vI c_1.Step, .bool c_1.Back, vI c_1.Try, .bool c_1.Ok, vU c_1.Now]⟩] [Rd 0 kT_api_Step A_2 c_3 c_1.Steps] [.code c74_26] (tontineref16_Encode.j1 n c_1 s_17) := by
  unfold tontineref16_Encode.j1
  refine GoO.seq' c74_26e ?_
  refine GoO.seq' c74_27e ?_
  refine GoO.region' (is := [0, 1, 2]) c74_28e (by kernel_rfl) ?_
  refine GoO.exec (is := [0, 1, 2]) (hs := [.p, .b 0, .p]) (rest := []) (ks := [1, 4, 40]) (env' := [(1, vP b_4), (4, .string (bs s_17)), (40, .bool (c_1.Kind == 4))]) (H' := [⟨40, b_4, [vI c_1.Kind, vU c_1.Session, vU c_1.Seq, vU c_1.Saga, .slice A_2 c_1.Steps.length c_3, vI c_1.Step, .bool c_1.Back, vI c_1.Try, .bool c_1.Ok, vU c_1.Now]⟩]) (ps := [b_4 = b_4]) (by kernel_rfl) (And.intro rfl trivial) ?_
  refine GoO.regionEnd ?_
  refine GoO.ite' c74_29e (by kernel_rfl) (fun h18 => ?_) (fun h18 => ?_)
  · refine GoO.draw c74_30e (by kernel_rfl) [16] [⟨40, b_4, [vI c_1.Kind, vU c_1.Session, vU c_1.Seq, vU c_1.Saga, .slice A_2 c_1.Steps.length c_3, vI c_1.Step, .bool c_1.Back, vI c_1.Try, .bool c_1.Ok, vU c_1.Now]⟩] [] (n := 17) (by kernel_rfl) ?_
    simp only [List.replicate]
    refine GoF.take [0, 1, 2, 3, 4, 5, 7, 8, 9, 10, 11] [.p, .p, .b 0, .p, .p, .b 0, .p, .b 0, .p, .p, .b 0] (ks := [41, 44, 46, 50, 52]) (fu := 6) (li := [true, true, true, true, true, true, false, true, true, true, true, true, false, false, false, false, false]) (env' := [(41, .string (bs s_17)), (44, vU (wu64 c_1.Step)), (46, .bool c_1.Back), (50, vU (wu64 c_1.Try)), (52, .bool c_1.Ok)]) (ps := [b_4 = b_4, b_4 = b_4, b_4 = b_4, b_4 = b_4]) (hk := [0]) (bk := []) (by kernel_rfl) (And.intro rfl (And.intro rfl (And.intro rfl (And.intro rfl trivial)))) rfl rfl ?_
    refine OpTo.goF (i := 6) (by kernel_rfl) (hk := [0]) (bk := []) (GoO.call rfl (by kernel_rfl) (by kernel_rfl) (tontineref16_truth_ok n c_1.Back) [[0]] [] [] [] (hks := [0]) (bks := [0]) (by kernel_rfl) (by kernel_rfl) (by kernel_rfl) (.inl rfl) rfl rfl (by kernel_rfl) (by kernel_rfl) _ (fun _ _ => rfl) _ _ (fun _ _ => rfl) (fun _ _ => rfl) (fun _ _ => by kernel_rfl) (fun _ _ => by kernel_rfl) (fun r_19 x_27 => ⟨rfl, rfl, ?_⟩))
    refine GoF.shape (env' := [(41, .string (bs s_17)), (44, vU (wu64 c_1.Step)), (46, .bool c_1.Back), (47, vU r_19), (50, vU (wu64 c_1.Try)), (52, .bool c_1.Ok)]) (H' := [⟨40, b_4, [vI c_1.Kind, vU c_1.Session, vU c_1.Seq, vU c_1.Saga, .slice A_2 c_1.Steps.length c_3, vI c_1.Step, .bool c_1.Back, vI c_1.Try, .bool c_1.Ok, vU c_1.Now]⟩]) (B' := [Rd 0 kT_api_Step A_2 c_3 c_1.Steps]) (ks := [41, 44, 46, 47, 50, 52]) (by kernel_rfl) (by kernel_rfl) (by kernel_rfl) ?_
    refine OpTo.goF (i := 12) (by kernel_rfl) (hk := [0]) (bk := []) (GoO.call rfl (by kernel_rfl) (by kernel_rfl) (tontineref16_truth_ok n c_1.Ok) [[0]] [] [] [] (hks := [0]) (bks := [0]) (by kernel_rfl) (by kernel_rfl) (by kernel_rfl) (.inl rfl) rfl rfl (by kernel_rfl) (by kernel_rfl) _ (fun _ _ => rfl) _ _ (fun _ _ => rfl) (fun _ _ => rfl) (fun _ _ => by kernel_rfl) (fun _ _ => by kernel_rfl) (fun r_20 x_26 => ⟨rfl, rfl, ?_⟩))
    refine GoF.shape (env' := [(41, .string (bs s_17)), (44, vU (wu64 c_1.Step)), (46, .bool c_1.Back), (47, vU r_19), (50, vU (wu64 c_1.Try)), (52, .bool c_1.Ok), (53, vU r_20)]) (H' := [⟨40, b_4, [vI c_1.Kind, vU c_1.Session, vU c_1.Seq, vU c_1.Saga, .slice A_2 c_1.Steps.length c_3, vI c_1.Step, .bool c_1.Back, vI c_1.Try, .bool c_1.Ok, vU c_1.Now]⟩]) (B' := [Rd 0 kT_api_Step A_2 c_3 c_1.Steps]) (ks := [41, 44, 46, 47, 50, 52, 53]) (by kernel_rfl) (by kernel_rfl) (by kernel_rfl) ?_
    refine OpTo.goF (i := 13) (by kernel_rfl) (hk := [0]) (bk := []) (GoO.lit (e := 22) (K := (Kd.int .u64)) rfl (by kernel_rfl) (by kernel_rfl) (cs := [vU (wu64 c_1.Step), vU r_19, vU (wu64 c_1.Try), vU r_20]) (by kernel_rfl) [wu64 c_1.Step, r_19, wu64 c_1.Try, r_20] (by kernel_rfl) (by kernel_rfl) (fun w S hB => ⟨[vU (wu64 c_1.Step)], _, rfl, rfl, ⟨[vU r_19], _, rfl, rfl, ⟨[vU (wu64 c_1.Try)], _, rfl, rfl, ⟨[vU r_20], _, rfl, rfl, rfl⟩⟩⟩⟩) 42 _ (fun _ _ => rfl) (fun A_21 c_22 => ⟨rfl, rfl, ?_⟩))
    refine GoF.view (j := 0) rfl ?_
    refine OpTo.goF (i := 14) (by kernel_rfl) (hk := [0]) (bk := []) (GoO.call rfl (by kernel_rfl) (by kernel_rfl) (tontineref16_nums_ok n [wu64 c_1.Step, r_19, wu64 c_1.Try, r_20] A_21 c_22) [[0, 42]] [] [] [(0, 2)] (hks := [0]) (bks := [0, 1]) (by kernel_rfl) (by kernel_rfl) (by kernel_rfl) (.inr (fun _ _ => by simp [tontineref16_nums.R])) rfl rfl (by kernel_rfl) (by kernel_rfl) _ (fun _ _ => rfl) _ _ (fun _ _ => rfl) (fun _ _ => rfl) (fun _ _ => by kernel_rfl) (fun _ _ => by kernel_rfl) (fun r_23 x_25 => ⟨rfl, rfl, ?_⟩))
    refine GoF.shape (env' := [(41, .string (bs s_17)), (44, vU (wu64 c_1.Step)), (46, .bool c_1.Back), (47, vU r_19), (50, vU (wu64 c_1.Try)), (52, .bool c_1.Ok), (53, vU r_20), (54, .slice A_21 [wu64 c_1.Step, r_19, wu64 c_1.Try, r_20].length c_22), (55, .string (bs r_23))]) (H' := [⟨40, b_4, [vI c_1.Kind, vU c_1.Session, vU c_1.Seq, vU c_1.Saga, .slice A_2 c_1.Steps.length c_3, vI c_1.Step, .bool c_1.Back, vI c_1.Try, .bool c_1.Ok, vU c_1.Now]⟩]) (B' := [Ow 42 (Kd.int .u64) A_21 c_22 [wu64 c_1.Step, r_19, wu64 c_1.Try, r_20], Rd 0 kT_api_Step A_2 c_3 c_1.Steps]) (ks := [41, 44, 46, 47, 50, 52, 53, 54, 55]) (by kernel_rfl) (by kernel_rfl) (by kernel_rfl) ?_
    refine GoF.guard (fun h24 => ?_)
    refine GoF.take [15] [.p] (ks := [56]) (fu := 1) (li := [true, true, true, true, true, true, true, true, true, true, true, true, true, true, true, true, false]) (env' := [(56, .string (bs (s_17 ++ r_23)))]) (ps := [s_17.length + r_23.length ≤ i64max]) (hk := [0]) (bk := []) (by kernel_rfl) (And.intro h24 trivial) rfl rfl ?_
    refine GoF.fin1 (i := 16) (hint := .p) (ps := []) (hk := []) (bk := []) (by kernel_rfl) rfl trivial (.inl rfl) ?_
    refine GoF.done (by kernel_rfl) ?_
    refine GoO.seq' c74_32e ?_
    refine GoO.region' (is := [0, 1, 2]) c74_33e (by kernel_rfl) ?_
    refine GoO.exec (is := [0, 1, 2]) (hs := [.p, .p, .p]) (rest := []) (ks := [2, 3]) (env' := [(2, .string (bs (s_17 ++ r_23))), (3, vI 0)]) (H' := [⟨40, b_4, [vI c_1.Kind, vU c_1.Session, vU c_1.Seq, vU c_1.Saga, .slice A_2 c_1.Steps.length c_3, vI c_1.Step, .bool c_1.Back, vI c_1.Try, .bool c_1.Ok, vU c_1.Now]⟩]) (ps := []) (by kernel_rfl) trivial ?_
    refine GoO.regionEnd ?_
    exact GoO.ret' (h := c74_34e) (hs := []) (ps := []) (hk := []) (bk := []) Try.func74 () (by kernel_rfl) trivial (by kernel_rfl) (by kernel_rfl)
  · refine GoO.skip' c74_31e ?_
    refine GoO.seq' c74_32e ?_
    refine GoO.region' (is := [0, 1, 2]) c74_33e (by kernel_rfl) ?_
    refine GoO.exec (is := [0, 1, 2]) (hs := [.p, .p, .p]) (rest := []) (ks := [2, 3]) (env' := [(2, .string (bs s_17)), (3, vI 0)]) (H' := [⟨40, b_4, [vI c_1.Kind, vU c_1.Session, vU c_1.Seq, vU c_1.Saga, .slice A_2 c_1.Steps.length c_3, vI c_1.Step, .bool c_1.Back, vI c_1.Try, .bool c_1.Ok, vU c_1.Now]⟩]) (ps := []) (by kernel_rfl) trivial ?_
    refine GoO.regionEnd ?_
    exact GoO.ret' (h := c74_34e) (hs := []) (ps := []) (hk := []) (bk := []) Try.func74 () (by kernel_rfl) trivial (by kernel_rfl) (by kernel_rfl)
theorem tontineref16_Encode_j0_ok (n : Nat) (c_1 : T_api_Command) (A_2 : Option Addr) (c_3 : Nat) (b_4 : Nat) (w0 : World) (S0 : Fam) (b_7 : Bool) :
    GoO (tontineref16_Encode.cx A_2 c_3 w0 S0) [(1, vP b_4), (13, .bool b_7)] [⟨40, b_4, [vI c_1.Kind, vU c_1.Session, vU c_1.Seq, vU c_1.Saga, .slice A_2 c_1.Steps.length c_3, vI c_1.Step, .bool c_1.Back, vI c_1.Try, .bool c_1.Ok, vU c_1.Now]⟩] [Rd 0 kT_api_Step A_2 c_3 c_1.Steps] [.code c74_5, .code c74_10] (tontineref16_Encode.j0 n c_1 b_7) := by
  unfold tontineref16_Encode.j0
  refine GoO.ite' c74_5e (by kernel_rfl) (fun h8 => ?_) (fun h8 => ?_)
  · refine GoO.seq' c74_6e ?_
    refine GoO.region' (is := [0, 1]) c74_7e (by kernel_rfl) ?_
    refine GoO.exec (is := [0, 1]) (hs := [.p, .p]) (rest := []) (ks := [2, 3]) (env' := [(2, .string (bs [])), (3, vI 44)]) (H' := [⟨40, b_4, [vI c_1.Kind, vU c_1.Session, vU c_1.Seq, vU c_1.Saga, .slice A_2 c_1.Steps.length c_3, vI c_1.Step, .bool c_1.Back, vI c_1.Try, .bool c_1.Ok, vU c_1.Now]⟩]) (ps := []) (by kernel_rfl) trivial ?_
    refine GoO.regionEnd ?_
    exact GoO.ret' (h := c74_8e) (hs := []) (ps := []) (hk := []) (bk := []) Try.func74 () (by kernel_rfl) trivial (by kernel_rfl) (by kernel_rfl)
  · refine GoO.skip' c74_9e ?_
    refine GoO.seq' c74_10e ?_
    refine GoO.seq' c74_11e ?_
    refine GoO.region' (is := [0, 1, 2]) c74_12e (by kernel_rfl) ?_
    refine GoO.exec (is := [0]) (hs := [.b 0]) (rest := [1, 2]) (ks := [1, 14]) (env' := [(1, vP b_4), (14, .agg ⟨[vI c_1.Kind, vU c_1.Session, vU c_1.Seq, vU c_1.Saga, .slice A_2 c_1.Steps.length c_3, vI c_1.Step, .bool c_1.Back, vI c_1.Try, .bool c_1.Ok, vU c_1.Now]⟩)]) (H' := [⟨40, b_4, [vI c_1.Kind, vU c_1.Session, vU c_1.Seq, vU c_1.Saga, .slice A_2 c_1.Steps.length c_3, vI c_1.Step, .bool c_1.Back, vI c_1.Try, .bool c_1.Ok, vU c_1.Now]⟩]) (ps := [b_4 = b_4]) (by kernel_rfl) (And.intro rfl trivial) ?_
    refine OpTo.go (GoO.call rfl (by kernel_rfl) (by kernel_rfl) (tontineref16_May_ok n c_1 A_2 c_3) [[0]] [] [] [(0, 0)] (hks := [0]) (bks := [0]) (by kernel_rfl) (by kernel_rfl) (by kernel_rfl) (.inl rfl) rfl rfl (by kernel_rfl) (by kernel_rfl) _ (fun _ _ => rfl) _ _ (fun _ _ => rfl) (fun _ _ => rfl) (fun _ _ => by kernel_rfl) (fun _ _ => by kernel_rfl) (fun r_9 x_29 => ?_))
    refine GoO.shape (env' := [(1, vP b_4), (14, .agg ⟨[vI c_1.Kind, vU c_1.Session, vU c_1.Seq, vU c_1.Saga, .slice A_2 c_1.Steps.length c_3, vI c_1.Step, .bool c_1.Back, vI c_1.Try, .bool c_1.Ok, vU c_1.Now]⟩), (15, .bool r_9)]) (H' := [⟨40, b_4, [vI c_1.Kind, vU c_1.Session, vU c_1.Seq, vU c_1.Saga, .slice A_2 c_1.Steps.length c_3, vI c_1.Step, .bool c_1.Back, vI c_1.Try, .bool c_1.Ok, vU c_1.Now]⟩]) (B' := [Rd 0 kT_api_Step A_2 c_3 c_1.Steps]) (ks := [1, 14, 15]) (by kernel_rfl) (by kernel_rfl) (by kernel_rfl) ?_
    refine GoO.exec (is := [2]) (hs := [.p]) (rest := []) (ks := [1, 16]) (env' := [(1, vP b_4), (16, .bool (!r_9))]) (H' := [⟨40, b_4, [vI c_1.Kind, vU c_1.Session, vU c_1.Seq, vU c_1.Saga, .slice A_2 c_1.Steps.length c_3, vI c_1.Step, .bool c_1.Back, vI c_1.Try, .bool c_1.Ok, vU c_1.Now]⟩]) (ps := []) (by kernel_rfl) trivial ?_
    refine GoO.regionEnd ?_
    refine GoO.ite' c74_13e (by kernel_rfl) (fun h10 => ?_) (fun h10 => ?_)
    · refine GoO.seq' c74_14e ?_
      refine GoO.region' (is := [0, 1]) c74_15e (by kernel_rfl) ?_
      refine GoO.exec (is := [0, 1]) (hs := [.p, .p]) (rest := []) (ks := [2, 3]) (env' := [(2, .string (bs [])), (3, vI 1)]) (H' := [⟨40, b_4, [vI c_1.Kind, vU c_1.Session, vU c_1.Seq, vU c_1.Saga, .slice A_2 c_1.Steps.length c_3, vI c_1.Step, .bool c_1.Back, vI c_1.Try, .bool c_1.Ok, vU c_1.Now]⟩]) (ps := []) (by kernel_rfl) trivial ?_
      refine GoO.regionEnd ?_
      exact GoO.ret' (h := c74_16e) (hs := []) (ps := []) (hk := []) (bk := []) Try.func74 () (by kernel_rfl) trivial (by kernel_rfl) (by kernel_rfl)
    · refine GoO.skip' c74_17e ?_
      refine GoO.seq' c74_18e ?_
      refine GoO.region' (is := [0, 1, 2, 3, 4, 5, 6, 7, 8, 9, 10, 11, 12, 13]) c74_19e (by kernel_rfl) ?_
      refine GoO.exec (is := [0, 1, 2, 3, 4, 5, 6, 7, 8, 9, 10]) (hs := [.p, .b 0, .p, .p, .b 0, .p, .b 0, .p, .b 0, .p, .b 0]) (rest := [11, 12, 13]) (ks := [1, 19, 21, 23, 25, 27]) (env' := [(1, vP b_4), (19, vU (wu64 c_1.Kind)), (21, vU c_1.Session), (23, vU c_1.Seq), (25, vU c_1.Saga), (27, vU c_1.Now)]) (H' := [⟨40, b_4, [vI c_1.Kind, vU c_1.Session, vU c_1.Seq, vU c_1.Saga, .slice A_2 c_1.Steps.length c_3, vI c_1.Step, .bool c_1.Back, vI c_1.Try, .bool c_1.Ok, vU c_1.Now]⟩]) (ps := [b_4 = b_4, b_4 = b_4, b_4 = b_4, b_4 = b_4, b_4 = b_4]) (by kernel_rfl) (And.intro rfl (And.intro rfl (And.intro rfl (And.intro rfl (And.intro rfl trivial))))) ?_
      refine OpTo.go (GoO.lit (e := 22) (K := (Kd.int .u64)) rfl (by kernel_rfl) (by kernel_rfl) (cs := [vU (wu64 c_1.Kind), vU c_1.Session, vU c_1.Seq, vU c_1.Saga, vU c_1.Now]) (by kernel_rfl) [wu64 c_1.Kind, c_1.Session, c_1.Seq, c_1.Saga, c_1.Now] (by kernel_rfl) (by kernel_rfl) (fun w S hB => ⟨[vU (wu64 c_1.Kind)], _, rfl, rfl, ⟨[vU c_1.Session], _, rfl, rfl, ⟨[vU c_1.Seq], _, rfl, rfl, ⟨[vU c_1.Saga], _, rfl, rfl, ⟨[vU c_1.Now], _, rfl, rfl, rfl⟩⟩⟩⟩⟩) 41 _ (fun _ _ => rfl) (fun A_11 c_12 => ?_))
      refine GoO.view (j := 0) rfl ?_
      refine OpTo.go (GoO.call rfl (by kernel_rfl) (by kernel_rfl) (tontineref16_nums_ok n [wu64 c_1.Kind, c_1.Session, c_1.Seq, c_1.Saga, c_1.Now] A_11 c_12) [[0, 41]] [] [] [(0, 2)] (hks := [0]) (bks := [0, 1]) (by kernel_rfl) (by kernel_rfl) (by kernel_rfl) (.inr (fun _ _ => by simp [tontineref16_nums.R])) rfl rfl (by kernel_rfl) (by kernel_rfl) _ (fun _ _ => rfl) _ _ (fun _ _ => rfl) (fun _ _ => rfl) (fun _ _ => by kernel_rfl) (fun _ _ => by kernel_rfl) (fun r_13 x_28 => ?_))
      refine GoO.shape (env' := [(1, vP b_4), (19, vU (wu64 c_1.Kind)), (21, vU c_1.Session), (23, vU c_1.Seq), (25, vU c_1.Saga), (27, vU c_1.Now), (28, .slice A_11 [wu64 c_1.Kind, c_1.Session, c_1.Seq, c_1.Saga, c_1.Now].length c_12), (29, .string (bs r_13))]) (H' := [⟨40, b_4, [vI c_1.Kind, vU c_1.Session, vU c_1.Seq, vU c_1.Saga, .slice A_2 c_1.Steps.length c_3, vI c_1.Step, .bool c_1.Back, vI c_1.Try, .bool c_1.Ok, vU c_1.Now]⟩]) (B' := [Ow 41 (Kd.int .u64) A_11 c_12 [wu64 c_1.Kind, c_1.Session, c_1.Seq, c_1.Saga, c_1.Now], Rd 0 kT_api_Step A_2 c_3 c_1.Steps]) (ks := [1, 19, 21, 23, 25, 27, 28, 29]) (by kernel_rfl) (by kernel_rfl) (by kernel_rfl) ?_
      refine GoO.exec (is := [13]) (hs := [.p]) (rest := []) (ks := [1, 4]) (env' := [(1, vP b_4), (4, .string (bs r_13))]) (H' := [⟨40, b_4, [vI c_1.Kind, vU c_1.Session, vU c_1.Seq, vU c_1.Saga, .slice A_2 c_1.Steps.length c_3, vI c_1.Step, .bool c_1.Back, vI c_1.Try, .bool c_1.Ok, vU c_1.Now]⟩]) (ps := []) (by kernel_rfl) trivial ?_
      refine GoO.regionEnd ?_
      refine GoO.seq' c74_20e ?_
      refine GoO.seq' c74_21e ?_
      refine GoO.region' (is := [0, 1, 2]) c74_22e (by kernel_rfl) ?_
      refine GoO.exec (is := [0, 1, 2]) (hs := [.p, .b 0, .p]) (rest := []) (ks := [1, 4, 32]) (env' := [(1, vP b_4), (4, .string (bs r_13)), (32, .bool (c_1.Kind == 2))]) (H' := [⟨40, b_4, [vI c_1.Kind, vU c_1.Session, vU c_1.Seq, vU c_1.Saga, .slice A_2 c_1.Steps.length c_3, vI c_1.Step, .bool c_1.Back, vI c_1.Try, .bool c_1.Ok, vU c_1.Now]⟩]) (ps := [b_4 = b_4]) (by kernel_rfl) (And.intro rfl trivial) ?_
      refine GoO.regionEnd ?_
      refine GoO.ite' c74_23e (by kernel_rfl) (fun h14 => ?_) (fun h14 => ?_)
      · refine GoO.region' (is := [0, 1, 2, 3, 4, 5]) c74_24e (by kernel_rfl) ?_
        refine GoO.exec (is := [0, 1, 2]) (hs := [.p, .p, .b 0]) (rest := [3, 4, 5]) (ks := [1, 33, 35]) (env' := [(1, vP b_4), (33, .string (bs r_13)), (35, .slice A_2 c_1.Steps.length c_3)]) (H' := [⟨40, b_4, [vI c_1.Kind, vU c_1.Session, vU c_1.Seq, vU c_1.Saga, .slice A_2 c_1.Steps.length c_3, vI c_1.Step, .bool c_1.Back, vI c_1.Try, .bool c_1.Ok, vU c_1.Now]⟩]) (ps := [b_4 = b_4]) (by kernel_rfl) (And.intro rfl trivial) ?_
        refine OpTo.go (GoO.call rfl (by kernel_rfl) (by kernel_rfl) (tontineref13_Bytes_ok n c_1.Steps A_2 c_3) [[0]] [] [] [(0, 1)] (hks := [0]) (bks := [0, 1]) (by kernel_rfl) (by kernel_rfl) (by kernel_rfl) (.inl rfl) rfl rfl (by kernel_rfl) (by kernel_rfl) _ (fun _ _ => rfl) _ _ (fun _ _ => rfl) (fun _ _ => rfl) (fun _ _ => by kernel_rfl) (fun _ _ => by kernel_rfl) (fun r_15 x_17 => ?_))
        refine GoO.shape (env' := [(1, vP b_4), (33, .string (bs r_13)), (35, .slice A_2 c_1.Steps.length c_3), (36, .string (bs r_15))]) (H' := [⟨40, b_4, [vI c_1.Kind, vU c_1.Session, vU c_1.Seq, vU c_1.Saga, .slice A_2 c_1.Steps.length c_3, vI c_1.Step, .bool c_1.Back, vI c_1.Try, .bool c_1.Ok, vU c_1.Now]⟩]) (B' := [Ow 41 (Kd.int .u64) A_11 c_12 [wu64 c_1.Kind, c_1.Session, c_1.Seq, c_1.Saga, c_1.Now], Rd 0 kT_api_Step A_2 c_3 c_1.Steps]) (ks := [1, 33, 35, 36]) (by kernel_rfl) (by kernel_rfl) (by kernel_rfl) ?_
        refine GoO.guard (fun h16 => ?_)
        refine GoO.exec (is := [4, 5]) (hs := [.p, .p]) (rest := []) (ks := [1, 4]) (env' := [(1, vP b_4), (4, .string (bs (r_13 ++ r_15)))]) (H' := [⟨40, b_4, [vI c_1.Kind, vU c_1.Session, vU c_1.Seq, vU c_1.Saga, .slice A_2 c_1.Steps.length c_3, vI c_1.Step, .bool c_1.Back, vI c_1.Try, .bool c_1.Ok, vU c_1.Now]⟩]) (ps := [r_13.length + r_15.length ≤ i64max]) (by kernel_rfl) (And.intro h16 trivial) ?_
        refine GoO.regionEnd ?_
        exact GoO.sub (ks := [1, 4]) (hk := [0]) (bk := [1]) (by kernel_rfl) (by kernel_rfl) (by kernel_rfl) (tontineref16_Encode_j1_ok n c_1 A_2 c_3 b_4 w0 S0 (r_13 ++ r_15))
      · refine GoO.skip' c74_25e ?_
        exact GoO.sub (ks := [1, 4]) (hk := [0]) (bk := [1]) (by kernel_rfl) (by kernel_rfl) (by kernel_rfl) (tontineref16_Encode_j1_ok n c_1 A_2 c_3 b_4 w0 S0 r_13)
theorem tontineref16_Encode_ok (n : Nat) (c_1 : T_api_Command) (A_2 : Option Addr) (c_3 : Nat) :
    Meets Try.prog 74 [.agg ⟨[vI c_1.Kind, vU c_1.Session, vU c_1.Seq, vU c_1.Saga, .slice A_2 c_1.Steps.length c_3, vI c_1.Step, .bool c_1.Back, vI c_1.Try, .bool c_1.Ok, vU c_1.Now]⟩] 0 [] [] [Rd 0 kT_api_Step A_2 c_3 c_1.Steps] (tontineref16_Encode.f n c_1) (tontineref16_Encode.R A_2 c_3) := by
  refine Meets.of (c := c74_0) (n := 58) Try.func74 (by kernel_rfl) (by kernel_rfl) (by kernel_rfl) fun w0 S0 => ?_
  unfold tontineref16_Encode.f
  show GoO (tontineref16_Encode.cx A_2 c_3 w0 S0) [(0, .agg ⟨[vI c_1.Kind, vU c_1.Session, vU c_1.Seq, vU c_1.Saga, .slice A_2 c_1.Steps.length c_3, vI c_1.Step, .bool c_1.Back, vI c_1.Try, .bool c_1.Ok, vU c_1.Now]⟩)] [] [Rd 0 kT_api_Step A_2 c_3 c_1.Steps] [.code c74_0] _
  refine GoO.seq' c74_0e ?_
  refine GoO.region' (is := [0, 1, 2]) c74_1e (by kernel_rfl) ?_
  refine OpTo.go (GoO.new rfl 40 (cs := [vI c_1.Kind, vU c_1.Session, vU c_1.Seq, vU c_1.Saga, .slice A_2 c_1.Steps.length c_3, vI c_1.Step, .bool c_1.Back, vI c_1.Try, .bool c_1.Ok, vU c_1.Now]) (by kernel_rfl) _ (fun _ => rfl) (fun b_4 => ?_))
  refine GoO.exec (is := [1, 2]) (hs := [.p, .p]) (rest := []) (ks := [1]) (env' := [(1, vP b_4)]) (H' := [⟨40, b_4, [vI c_1.Kind, vU c_1.Session, vU c_1.Seq, vU c_1.Saga, .slice A_2 c_1.Steps.length c_3, vI c_1.Step, .bool c_1.Back, vI c_1.Try, .bool c_1.Ok, vU c_1.Now]⟩]) (ps := []) (by kernel_rfl) trivial ?_
  refine GoO.regionEnd ?_
  refine GoO.seq' c74_2e ?_
  refine GoO.seq' c74_3e ?_
  refine GoO.region' (is := [0, 1, 2, 3, 4, 5, 6, 7, 8]) c74_4e (by kernel_rfl) ?_
  refine GoO.exec (is := [0, 1, 2, 3]) (hs := [.p, .b 0, .p, .p]) (rest := [4, 5, 6, 7, 8]) (ks := [1, 8]) (env' := [(1, vP b_4), (8, .bool (c_1.Kind == 2))]) (H' := [⟨40, b_4, [vI c_1.Kind, vU c_1.Session, vU c_1.Seq, vU c_1.Saga, .slice A_2 c_1.Steps.length c_3, vI c_1.Step, .bool c_1.Back, vI c_1.Try, .bool c_1.Ok, vU c_1.Now]⟩]) (ps := [b_4 = b_4]) (by kernel_rfl) (And.intro rfl trivial) ?_
  refine GoO.bsplit (t := 8) (by kernel_rfl) (fun h5 => ?_) (fun h5 => ?_)
  · refine GoO.exec (is := [4, 5]) (hs := [.p, .b 0]) (rest := [6, 7, 8]) (ks := [1, 8, 10]) (env' := [(1, vP b_4), (8, .bool true), (10, .slice A_2 c_1.Steps.length c_3)]) (H' := [⟨40, b_4, [vI c_1.Kind, vU c_1.Session, vU c_1.Seq, vU c_1.Saga, .slice A_2 c_1.Steps.length c_3, vI c_1.Step, .bool c_1.Back, vI c_1.Try, .bool c_1.Ok, vU c_1.Now]⟩]) (ps := [b_4 = b_4]) (by kernel_rfl) (And.intro rfl trivial) ?_
    refine OpTo.go (GoO.call rfl (by kernel_rfl) (by kernel_rfl) (tontineref13_Check_ok n c_1.Steps A_2 c_3) [[0]] [] [] [(0, 0)] (hks := [0]) (bks := [0]) (by kernel_rfl) (by kernel_rfl) (by kernel_rfl) (.inl rfl) rfl rfl (by kernel_rfl) (by kernel_rfl) _ (fun _ _ => rfl) _ _ (fun _ _ => rfl) (fun _ _ => rfl) (fun _ _ => by kernel_rfl) (fun _ _ => by kernel_rfl) (fun r_6 x_7 => ?_))
    refine GoO.shape (env' := [(1, vP b_4), (8, .bool true), (10, .slice A_2 c_1.Steps.length c_3), (11, vI r_6)]) (H' := [⟨40, b_4, [vI c_1.Kind, vU c_1.Session, vU c_1.Seq, vU c_1.Saga, .slice A_2 c_1.Steps.length c_3, vI c_1.Step, .bool c_1.Back, vI c_1.Try, .bool c_1.Ok, vU c_1.Now]⟩]) (B' := [Rd 0 kT_api_Step A_2 c_3 c_1.Steps]) (ks := [1, 8, 10, 11]) (by kernel_rfl) (by kernel_rfl) (by kernel_rfl) ?_
    refine GoO.exec (is := [7, 8]) (hs := [.p, .p]) (rest := []) (ks := [1, 13]) (env' := [(1, vP b_4), (13, .bool (r_6 != 0))]) (H' := [⟨40, b_4, [vI c_1.Kind, vU c_1.Session, vU c_1.Seq, vU c_1.Saga, .slice A_2 c_1.Steps.length c_3, vI c_1.Step, .bool c_1.Back, vI c_1.Try, .bool c_1.Ok, vU c_1.Now]⟩]) (ps := []) (by kernel_rfl) trivial ?_
    refine GoO.regionEnd ?_
    exact GoO.sub (ks := [1, 13]) (hk := [0]) (bk := [0]) (by kernel_rfl) (by kernel_rfl) (by kernel_rfl) (tontineref16_Encode_j0_ok n c_1 A_2 c_3 b_4 w0 S0 (r_6 != 0))
  · refine GoO.exec (is := [4, 5, 6, 7, 8]) (hs := [.p, .p, .p, .p, .p]) (rest := []) (ks := [1, 13]) (env' := [(1, vP b_4), (13, .bool false)]) (H' := [⟨40, b_4, [vI c_1.Kind, vU c_1.Session, vU c_1.Seq, vU c_1.Saga, .slice A_2 c_1.Steps.length c_3, vI c_1.Step, .bool c_1.Back, vI c_1.Try, .bool c_1.Ok, vU c_1.Now]⟩]) (ps := []) (by kernel_rfl) trivial ?_
    refine GoO.regionEnd ?_
    exact GoO.sub (ks := [1, 13]) (hk := [0]) (bk := [0]) (by kernel_rfl) (by kernel_rfl) (by kernel_rfl) (tontineref16_Encode_j0_ok n c_1 A_2 c_3 b_4 w0 S0 false)
/-! tontine/tontineref16.Decode -/
noncomputable def c37_0 : Code := bodyOf Try.f37
noncomputable def c37_1 : Code := cdL c37_0
noncomputable def c37_2 : Code := cdR c37_0
noncomputable def c37_3 : Code := cdL c37_2
noncomputable def c37_4 : Code := cdR c37_2
noncomputable def c37_5 : Code := cdL c37_4
noncomputable def c37_6 : Code := cdR c37_4
noncomputable def c37_7 : Code := cdL c37_6
noncomputable def c37_8 : Code := cdR c37_6
noncomputable def c37_9 : Code := cdL c37_8
noncomputable def c37_10 : Code := cdR c37_8
noncomputable def c37_11 : Code := cdL c37_10
noncomputable def c37_12 : Code := cdR c37_10
noncomputable def c37_13 : Code := cdL c37_12
noncomputable def c37_14 : Code := cdR c37_12
noncomputable def c37_15 : Code := cdL c37_14
noncomputable def c37_16 : Code := cdL c37_15
noncomputable def c37_17 : Code := cdR c37_15
noncomputable def c37_18 : Code := cdL c37_17
noncomputable def c37_19 : Code := cdR c37_17
noncomputable def c37_20 : Code := cdR c37_14
noncomputable def c37_21 : Code := cdL c37_20
noncomputable def c37_22 : Code := cdL c37_21
noncomputable def c37_23 : Code := cdR c37_21
noncomputable def c37_24 : Code := cdL c37_23
noncomputable def c37_25 : Code := cdL c37_24
noncomputable def c37_26 : Code := cdR c37_24
noncomputable def c37_27 : Code := cdL c37_26
noncomputable def c37_28 : Code := cdR c37_26
noncomputable def c37_29 : Code := cdL c37_28
noncomputable def c37_30 : Code := cdR c37_28
noncomputable def c37_31 : Code := cdR c37_23
noncomputable def c37_32 : Code := cdR c37_20
noncomputable def c37_33 : Code := cdL c37_32
noncomputable def c37_34 : Code := cdR c37_32
noncomputable def c37_35 : Code := cdL c37_34
noncomputable def c37_36 : Code := cdL c37_35
noncomputable def c37_37 : Code := cdR c37_35
noncomputable def c37_38 : Code := cdL c37_37
noncomputable def c37_39 : Code := cdL c37_38
noncomputable def c37_40 : Code := cdR c37_38
noncomputable def c37_41 : Code := cdR c37_37
noncomputable def c37_42 : Code := cdR c37_34
noncomputable def c37_43 : Code := cdL c37_42
noncomputable def c37_44 : Code := cdR c37_42
noncomputable def r37_1 : Array Oper := cdO c37_1
noncomputable def r37_3 : Array Oper := cdO c37_3
noncomputable def r37_5 : Array Oper := cdO c37_5
noncomputable def r37_7 : Array Oper := cdO c37_7
noncomputable def r37_9 : Array Oper := cdO c37_9
noncomputable def r37_11 : Array Oper := cdO c37_11
noncomputable def r37_13 : Array Oper := cdO c37_13
noncomputable def r37_16 : Array Oper := cdO c37_16
noncomputable def r37_18 : Array Oper := cdO c37_18
noncomputable def r37_22 : Array Oper := cdO c37_22
noncomputable def r37_25 : Array Oper := cdO c37_25
noncomputable def r37_27 : Array Oper := cdO c37_27
noncomputable def r37_29 : Array Oper := cdO c37_29
noncomputable def r37_30 : Array Oper := cdO c37_30
noncomputable def r37_33 : Array Oper := cdO c37_33
noncomputable def r37_36 : Array Oper := cdO c37_36
noncomputable def r37_39 : Array Oper := cdO c37_39
noncomputable def r37_43 : Array Oper := cdO c37_43
theorem c37_0e : c37_0 = .seq c37_1 c37_2 := by kernel_rfl
theorem c37_1e : c37_1 = .region 0 r37_1 false := by kernel_rfl
theorem c37_2e : c37_2 = .seq c37_3 c37_4 := by kernel_rfl
theorem c37_3e : c37_3 = .region 1 r37_3 false := by kernel_rfl
theorem c37_4e : c37_4 = .seq c37_5 c37_6 := by kernel_rfl
theorem c37_5e : c37_5 = .region 2 r37_5 false := by kernel_rfl
theorem c37_6e : c37_6 = .seq c37_7 c37_8 := by kernel_rfl
theorem c37_7e : c37_7 = .region 3 r37_7 false := by kernel_rfl
theorem c37_8e : c37_8 = .seq c37_9 c37_10 := by kernel_rfl
theorem c37_9e : c37_9 = .region 4 r37_9 false := by kernel_rfl
theorem c37_10e : c37_10 = .seq c37_11 c37_12 := by kernel_rfl
theorem c37_11e : c37_11 = .region 5 r37_11 false := by kernel_rfl
theorem c37_12e : c37_12 = .seq c37_13 c37_14 := by kernel_rfl
theorem c37_13e : c37_13 = .region 6 r37_13 false := by kernel_rfl
theorem c37_14e : c37_14 = .seq c37_15 c37_20 := by kernel_rfl
theorem c37_15e : c37_15 = .seq c37_16 c37_17 := by kernel_rfl
theorem c37_16e : c37_16 = .region 7 r37_16 false := by kernel_rfl
theorem c37_17e : c37_17 = .cond (cdC c37_17) c37_18 c37_19 := by kernel_rfl
theorem c37_18e : c37_18 = .region 8 r37_18 false := by kernel_rfl
theorem c37_19e : c37_19 = .skip := by kernel_rfl
theorem c37_20e : c37_20 = .seq c37_21 c37_32 := by kernel_rfl
theorem c37_21e : c37_21 = .seq c37_22 c37_23 := by kernel_rfl
theorem c37_22e : c37_22 = .region 9 r37_22 false := by kernel_rfl
theorem c37_23e : c37_23 = .cond (cdC c37_23) c37_24 c37_31 := by kernel_rfl
theorem c37_24e : c37_24 = .seq c37_25 c37_26 := by kernel_rfl
theorem c37_25e : c37_25 = .region 10 r37_25 false := by kernel_rfl
theorem c37_26e : c37_26 = .seq c37_27 c37_28 := by kernel_rfl
theorem c37_27e : c37_27 = .region 11 r37_27 false := by kernel_rfl
theorem c37_28e : c37_28 = .seq c37_29 c37_30 := by kernel_rfl
theorem c37_29e : c37_29 = .region 12 r37_29 false := by kernel_rfl
theorem c37_30e : c37_30 = .region 13 r37_30 false := by kernel_rfl
theorem c37_31e : c37_31 = .skip := by kernel_rfl
theorem c37_32e : c37_32 = .seq c37_33 c37_34 := by kernel_rfl
theorem c37_33e : c37_33 = .region 14 r37_33 false := by kernel_rfl
theorem c37_34e : c37_34 = .seq c37_35 c37_42 := by kernel_rfl
theorem c37_35e : c37_35 = .seq c37_36 c37_37 := by kernel_rfl
theorem c37_36e : c37_36 = .region 15 r37_36 false := by kernel_rfl
theorem c37_37e : c37_37 = .cond (cdC c37_37) c37_38 c37_41 := by kernel_rfl
theorem c37_38e : c37_38 = .seq c37_39 c37_40 := by kernel_rfl
theorem c37_39e : c37_39 = .region 16 r37_39 false := by kernel_rfl
theorem c37_40e : c37_40 = .ret := by kernel_rfl
theorem c37_41e : c37_41 = .skip := by kernel_rfl
theorem c37_42e : c37_42 = .seq c37_43 c37_44 := by kernel_rfl
theorem c37_43e : c37_43 = .region 17 r37_43 false := by kernel_rfl
theorem c37_44e : c37_44 = .ret := by kernel_rfl
noncomputable def tontineref16_Decode.R : Pst (T_api_Command × Int) where
  ε := Option Addr × Nat
  v := fun r x => .tuple ⟨[.agg ⟨[vI r.1.Kind, vU r.1.Session, vU r.1.Seq, vU r.1.Saga, .slice x.1 r.1.Steps.length x.2, vI r.1.Step, .bool r.1.Back, vI r.1.Try, .bool r.1.Ok, vU r.1.Now]⟩, vI r.2]⟩
  H := fun r x => []
  B := fun r x => [Rd 0 kT_api_Step x.1 x.2 r.1.Steps]
noncomputable def tontineref16_Decode.cx (w0 : World) (S0 : Fam) : Cx (T_api_Command × Int) := ⟨Try.prog, 37, Try.f37, 76, w0, S0, [], 0, tontineref16_Decode.R⟩
theorem tontineref16_Decode_j2_ok (n : Nat) (r_4 : Int × T_tontineref03_Reader) (r_6 : Int × T_tontineref03_Reader) (r_7 : Int × T_tontineref03_Reader) (r_8 : Int × T_tontineref03_Reader) (r_9 : Int × T_tontineref03_Reader) (f_16 : (List T_api_Step)) (f_26 : Int) (f_27 : Bool) (f_28 : Int) (f_29 : Bool) (b_2 : Nat) (b_5 : Nat) (A_17 : Option Addr) (c_18 : Nat) (w0 : World) (S0 : Fam) (b_34 : Bool) :
    GoO (tontineref16_Decode.cx w0 S0) [(2, vP b_2), (5, vP b_5), (73, .bool b_34)] [⟨40, b_2, [vI 0, vU 0, vU 0, vU 0, .slice none ([] : List T_api_Step).length 0, vI 0, .bool false, vI 0, .bool false, vU 0]⟩, ⟨42, b_5, [vI r_4.1, vU r_6.1, vU r_7.1, vU r_8.1, .slice A_17 f_16.length c_18, vI f_26, .bool f_27, vI f_28, .bool f_29, vU r_9.1]⟩] [Ow 43 kT_api_Step A_17 c_18 f_16] [.code c37_37, .code c37_42] (tontineref16_Decode.j2 n r_4 r_6 r_7 r_8 r_9 f_16 f_26 f_27 f_28 f_29 b_34) := by
  unfold tontineref16_Decode.j2
  refine GoO.ite' c37_37e (by kernel_rfl) (fun h35 => ?_) (fun h35 => ?_)
  · refine GoO.seq' c37_38e ?_
    refine GoO.region' (is := [0, 1, 2]) c37_39e (by kernel_rfl) ?_
    refine GoO.exec (is := [0, 1, 2]) (hs := [.p, .b 0, .p]) (rest := []) (ks := [2, 3]) (env' := [(2, vP b_2), (3, vI 2)]) (H' := [⟨40, b_2, [vI 0, vU 0, vU 0, vU 0, .slice none ([] : List T_api_Step).length 0, vI 0, .bool false, vI 0, .bool false, vU 0]⟩, ⟨42, b_5, [vI r_4.1, vU r_6.1, vU r_7.1, vU r_8.1, .slice A_17 f_16.length c_18, vI f_26, .bool f_27, vI f_28, .bool f_29, vU r_9.1]⟩]) (ps := [b_2 = b_2]) (by kernel_rfl) (And.intro rfl trivial) ?_
    refine GoO.regionEnd ?_
    refine GoO.nilRd kT_api_Step ?_
    exact GoO.ret' (h := c37_40e) (hs := [0]) (ps := [b_2 = b_2]) (hk := []) (bk := [0]) Try.func37 (⟨none, 0⟩ : Option Addr × Nat) (by kernel_rfl) (And.intro rfl trivial) (by kernel_rfl) (by kernel_rfl)
  · refine GoO.skip' c37_41e ?_
    refine GoO.seq' c37_42e ?_
    refine GoO.region' (is := [0, 1, 2]) c37_43e (by kernel_rfl) ?_
    refine GoO.exec (is := [0, 1, 2]) (hs := [.b 1, .b 0, .p]) (rest := []) (ks := [2, 3]) (env' := [(2, vP b_2), (3, vI 0)]) (H' := [⟨40, b_2, [vI r_4.1, vU r_6.1, vU r_7.1, vU r_8.1, .slice A_17 f_16.length c_18, vI f_26, .bool f_27, vI f_28, .bool f_29, vU r_9.1]⟩, ⟨42, b_5, [vI r_4.1, vU r_6.1, vU r_7.1, vU r_8.1, .slice A_17 f_16.length c_18, vI f_26, .bool f_27, vI f_28, .bool f_29, vU r_9.1]⟩]) (ps := [b_5 = b_5, b_2 = b_2]) (by kernel_rfl) (And.intro rfl (And.intro rfl trivial)) ?_
    refine GoO.regionEnd ?_
    refine GoO.retag (t := 43) (u := 0) (j := 0) (hk := [0, 1]) (bk := []) rfl rfl rfl rfl rfl rfl (by kernel_rfl) (by kernel_rfl) ?_
    refine GoO.own2rd (j := 0) rfl ?_
    exact GoO.ret' (h := c37_44e) (hs := [0]) (ps := [b_2 = b_2]) (hk := []) (bk := [0]) Try.func37 (⟨A_17, c_18⟩ : Option Addr × Nat) (by kernel_rfl) (And.intro rfl trivial) (by kernel_rfl) (by kernel_rfl)
theorem tontineref16_Decode_j1_ok (n : Nat) (s_1 : (List UInt8)) (r_4 : Int × T_tontineref03_Reader) (r_6 : Int × T_tontineref03_Reader) (r_7 : Int × T_tontineref03_Reader) (r_8 : Int × T_tontineref03_Reader) (r_9 : Int × T_tontineref03_Reader) (f_16 : (List T_api_Step)) (b_2 : Nat) (b_3 : Nat) (b_5 : Nat) (A_17 : Option Addr) (c_18 : Nat) (w0 : World) (S0 : Fam) (f_24 : (List UInt8)) (f_25 : Bool) (f_26 : Int) (f_27 : Bool) (f_28 : Int) (f_29 : Bool) :
    GoO (tontineref16_Decode.cx w0 S0) [(0, .string (bs s_1)), (2, vP b_2), (4, vP b_3), (5, vP b_5)] [⟨40, b_2, [vI 0, vU 0, vU 0, vU 0, .slice none ([] : List T_api_Step).length 0, vI 0, .bool false, vI 0, .bool false, vU 0]⟩, ⟨41, b_3, [.string (bs f_24), .bool f_25]⟩, ⟨42, b_5, [vI r_4.1, vU r_6.1, vU r_7.1, vU r_8.1, .slice A_17 f_16.length c_18, vI f_26, .bool f_27, vI f_28, .bool f_29, vU r_9.1]⟩] [Ow 43 kT_api_Step A_17 c_18 f_16] [.code c37_32] (tontineref16_Decode.j1 n s_1 r_4 r_6 r_7 r_8 r_9 f_16 f_24 f_25 f_26 f_27 f_28 f_29) := by
  unfold tontineref16_Decode.j1
  refine GoO.seq' c37_32e ?_
  refine GoO.region' (is := [0, 1, 2, 3, 4, 5, 6]) c37_33e (by kernel_rfl) ?_
  refine GoO.exec (is := [0]) (hs := [.b 2]) (rest := [1, 2, 3, 4, 5, 6]) (ks := [0, 2, 4, 5, 50]) (env' := [(0, .string (bs s_1)), (2, vP b_2), (4, vP b_3), (5, vP b_5), (50, .agg ⟨[vI r_4.1, vU r_6.1, vU r_7.1, vU r_8.1, .slice A_17 f_16.length c_18, vI f_26, .bool f_27, vI f_28, .bool f_29, vU r_9.1]⟩)]) (H' := [⟨40, b_2, [vI 0, vU 0, vU 0, vU 0, .slice none ([] : List T_api_Step).length 0, vI 0, .bool false, vI 0, .bool false, vU 0]⟩, ⟨41, b_3, [.string (bs f_24), .bool f_25]⟩, ⟨42, b_5, [vI r_4.1, vU r_6.1, vU r_7.1, vU r_8.1, .slice A_17 f_16.length c_18, vI f_26, .bool f_27, vI f_28, .bool f_29, vU r_9.1]⟩]) (ps := [b_5 = b_5]) (by kernel_rfl) (And.intro rfl trivial) ?_
  refine GoO.view (j := 0) rfl ?_
  refine OpTo.go (GoO.call rfl (by kernel_rfl) (by kernel_rfl) (tontineref16_Encode_ok n (⟨r_4.1, r_6.1, r_7.1, r_8.1, f_16, f_26, f_27, f_28, f_29, r_9.1⟩ : T_api_Command) A_17 c_18) [[0, 43]] [] [] [(0, 1)] (hks := [0, 1, 2]) (bks := [0]) (by kernel_rfl) (by kernel_rfl) (by kernel_rfl) (.inr (fun _ _ => by simp [tontineref16_Encode.R])) rfl rfl (by kernel_rfl) (by kernel_rfl) _ (fun _ _ => rfl) _ _ (fun _ _ => rfl) (fun _ _ => rfl) (fun _ _ => by kernel_rfl) (fun _ _ => by kernel_rfl) (fun r_30 x_36 => ?_))
  refine GoO.shape (env' := [(0, .string (bs s_1)), (2, vP b_2), (4, vP b_3), (5, vP b_5), (50, .agg ⟨[vI r_4.1, vU r_6.1, vU r_7.1, vU r_8.1, .slice A_17 f_16.length c_18, vI f_26, .bool f_27, vI f_28, .bool f_29, vU r_9.1]⟩), (51, .tuple ⟨[.string (bs r_30.1), vI r_30.2]⟩)]) (H' := [⟨40, b_2, [vI 0, vU 0, vU 0, vU 0, .slice none ([] : List T_api_Step).length 0, vI 0, .bool false, vI 0, .bool false, vU 0]⟩, ⟨41, b_3, [.string (bs f_24), .bool f_25]⟩, ⟨42, b_5, [vI r_4.1, vU r_6.1, vU r_7.1, vU r_8.1, .slice A_17 f_16.length c_18, vI f_26, .bool f_27, vI f_28, .bool f_29, vU r_9.1]⟩]) (B' := [Ow 43 kT_api_Step A_17 c_18 f_16]) (ks := [0, 2, 4, 5, 50, 51]) (by kernel_rfl) (by kernel_rfl) (by kernel_rfl) ?_
  refine GoO.exec (is := [2, 3, 4, 5, 6]) (hs := [.p, .p, .p, .p, .p]) (rest := []) (ks := [0, 2, 4, 5, 6, 7]) (env' := [(0, .string (bs s_1)), (2, vP b_2), (4, vP b_3), (5, vP b_5), (6, .string (bs r_30.1)), (7, vI r_30.2)]) (H' := [⟨40, b_2, [vI 0, vU 0, vU 0, vU 0, .slice none ([] : List T_api_Step).length 0, vI 0, .bool false, vI 0, .bool false, vU 0]⟩, ⟨41, b_3, [.string (bs f_24), .bool f_25]⟩, ⟨42, b_5, [vI r_4.1, vU r_6.1, vU r_7.1, vU r_8.1, .slice A_17 f_16.length c_18, vI f_26, .bool f_27, vI f_28, .bool f_29, vU r_9.1]⟩]) (ps := []) (by kernel_rfl) trivial ?_
  refine GoO.regionEnd ?_
  refine GoO.seq' c37_34e ?_
  refine GoO.seq' c37_35e ?_
  refine GoO.region' (is := [0, 1, 2, 3, 4, 5, 6, 7, 8, 9, 10, 11, 12, 13, 14, 15, 16, 17, 18, 19]) c37_36e (by kernel_rfl) ?_
  refine GoO.exec (is := [0, 1, 2, 3, 4]) (hs := [.p, .p, .p, .b 1, .p]) (rest := [5, 6, 7, 8, 9, 10, 11, 12, 13, 14, 15, 16, 17, 18, 19]) (ks := [0, 2, 4, 5, 6, 7, 58]) (env' := [(0, .string (bs s_1)), (2, vP b_2), (4, vP b_3), (5, vP b_5), (6, .string (bs r_30.1)), (7, vI r_30.2), (58, .bool f_25)]) (H' := [⟨40, b_2, [vI 0, vU 0, vU 0, vU 0, .slice none ([] : List T_api_Step).length 0, vI 0, .bool false, vI 0, .bool false, vU 0]⟩, ⟨41, b_3, [.string (bs f_24), .bool f_25]⟩, ⟨42, b_5, [vI r_4.1, vU r_6.1, vU r_7.1, vU r_8.1, .slice A_17 f_16.length c_18, vI f_26, .bool f_27, vI f_28, .bool f_29, vU r_9.1]⟩]) (ps := [b_3 = b_3]) (by kernel_rfl) (And.intro rfl trivial) ?_
  refine GoO.bsplit (t := 58) (by kernel_rfl) (fun h31 => ?_) (fun h31 => ?_)
  · refine GoO.exec (is := [5, 6, 7, 8, 9, 10, 11, 12, 13, 14, 15, 16, 17, 18, 19]) (hs := [.p, .p, .p, .p, .p, .p, .p, .p, .p, .p, .p, .p, .p, .p, .p]) (rest := []) (ks := [2, 5, 73]) (env' := [(2, vP b_2), (5, vP b_5), (73, .bool true)]) (H' := [⟨40, b_2, [vI 0, vU 0, vU 0, vU 0, .slice none ([] : List T_api_Step).length 0, vI 0, .bool false, vI 0, .bool false, vU 0]⟩, ⟨41, b_3, [.string (bs f_24), .bool f_25]⟩, ⟨42, b_5, [vI r_4.1, vU r_6.1, vU r_7.1, vU r_8.1, .slice A_17 f_16.length c_18, vI f_26, .bool f_27, vI f_28, .bool f_29, vU r_9.1]⟩]) (ps := []) (by kernel_rfl) trivial ?_
    refine GoO.regionEnd ?_
    exact GoO.sub (ks := [2, 5, 73]) (hk := [0, 2]) (bk := [0]) (by kernel_rfl) (by kernel_rfl) (by kernel_rfl) (tontineref16_Decode_j2_ok n r_4 r_6 r_7 r_8 r_9 f_16 f_26 f_27 f_28 f_29 b_2 b_5 A_17 c_18 w0 S0 true)
  · refine GoO.exec (is := [5, 6, 7, 8, 9, 10, 11]) (hs := [.p, .p, .p, .b 1, .p, .p, .p]) (rest := [12, 13, 14, 15, 16, 17, 18, 19]) (ks := [0, 2, 5, 6, 7, 65]) (env' := [(0, .string (bs s_1)), (2, vP b_2), (5, vP b_5), (6, .string (bs r_30.1)), (7, vI r_30.2), (65, .bool (!(f_24 == ([] : List UInt8))))]) (H' := [⟨40, b_2, [vI 0, vU 0, vU 0, vU 0, .slice none ([] : List T_api_Step).length 0, vI 0, .bool false, vI 0, .bool false, vU 0]⟩, ⟨41, b_3, [.string (bs f_24), .bool f_25]⟩, ⟨42, b_5, [vI r_4.1, vU r_6.1, vU r_7.1, vU r_8.1, .slice A_17 f_16.length c_18, vI f_26, .bool f_27, vI f_28, .bool f_29, vU r_9.1]⟩]) (ps := [b_3 = b_3]) (by kernel_rfl) (And.intro rfl trivial) ?_
    refine GoO.bsplit (t := 65) (by kernel_rfl) (fun h32 => ?_) (fun h32 => ?_)
    · refine GoO.exec (is := [12, 13, 14, 15, 16, 17, 18, 19]) (hs := [.p, .p, .p, .p, .p, .p, .p, .p]) (rest := []) (ks := [2, 5, 73]) (env' := [(2, vP b_2), (5, vP b_5), (73, .bool true)]) (H' := [⟨40, b_2, [vI 0, vU 0, vU 0, vU 0, .slice none ([] : List T_api_Step).length 0, vI 0, .bool false, vI 0, .bool false, vU 0]⟩, ⟨41, b_3, [.string (bs f_24), .bool f_25]⟩, ⟨42, b_5, [vI r_4.1, vU r_6.1, vU r_7.1, vU r_8.1, .slice A_17 f_16.length c_18, vI f_26, .bool f_27, vI f_28, .bool f_29, vU r_9.1]⟩]) (ps := []) (by kernel_rfl) trivial ?_
      refine GoO.regionEnd ?_
      exact GoO.sub (ks := [2, 5, 73]) (hk := [0, 2]) (bk := [0]) (by kernel_rfl) (by kernel_rfl) (by kernel_rfl) (tontineref16_Decode_j2_ok n r_4 r_6 r_7 r_8 r_9 f_16 f_26 f_27 f_28 f_29 b_2 b_5 A_17 c_18 w0 S0 true)
    · refine GoO.exec (is := [12, 13, 14, 15]) (hs := [.p, .p, .p, .p]) (rest := [16, 17, 18, 19]) (ks := [0, 2, 5, 6, 69]) (env' := [(0, .string (bs s_1)), (2, vP b_2), (5, vP b_5), (6, .string (bs r_30.1)), (69, .bool (r_30.2 != 0))]) (H' := [⟨40, b_2, [vI 0, vU 0, vU 0, vU 0, .slice none ([] : List T_api_Step).length 0, vI 0, .bool false, vI 0, .bool false, vU 0]⟩, ⟨41, b_3, [.string (bs f_24), .bool f_25]⟩, ⟨42, b_5, [vI r_4.1, vU r_6.1, vU r_7.1, vU r_8.1, .slice A_17 f_16.length c_18, vI f_26, .bool f_27, vI f_28, .bool f_29, vU r_9.1]⟩]) (ps := []) (by kernel_rfl) trivial ?_
      refine GoO.bsplit (t := 69) (by kernel_rfl) (fun h33 => ?_) (fun h33 => ?_)
      · refine GoO.exec (is := [16, 17, 18, 19]) (hs := [.p, .p, .p, .p]) (rest := []) (ks := [2, 5, 73]) (env' := [(2, vP b_2), (5, vP b_5), (73, .bool true)]) (H' := [⟨40, b_2, [vI 0, vU 0, vU 0, vU 0, .slice none ([] : List T_api_Step).length 0, vI 0, .bool false, vI 0, .bool false, vU 0]⟩, ⟨41, b_3, [.string (bs f_24), .bool f_25]⟩, ⟨42, b_5, [vI r_4.1, vU r_6.1, vU r_7.1, vU r_8.1, .slice A_17 f_16.length c_18, vI f_26, .bool f_27, vI f_28, .bool f_29, vU r_9.1]⟩]) (ps := []) (by kernel_rfl) trivial ?_
        refine GoO.regionEnd ?_
        exact GoO.sub (ks := [2, 5, 73]) (hk := [0, 2]) (bk := [0]) (by kernel_rfl) (by kernel_rfl) (by kernel_rfl) (tontineref16_Decode_j2_ok n r_4 r_6 r_7 r_8 r_9 f_16 f_26 f_27 f_28 f_29 b_2 b_5 A_17 c_18 w0 S0 true)
      · refine GoO.exec (is := [16, 17, 18, 19]) (hs := [.p, .p, .p, .p]) (rest := []) (ks := [2, 5, 73]) (env' := [(2, vP b_2), (5, vP b_5), (73, .bool (!(r_30.1 == s_1)))]) (H' := [⟨40, b_2, [vI 0, vU 0, vU 0, vU 0, .slice none ([] : List T_api_Step).length 0, vI 0, .bool false, vI 0, .bool false, vU 0]⟩, ⟨41, b_3, [.string (bs f_24), .bool f_25]⟩, ⟨42, b_5, [vI r_4.1, vU r_6.1, vU r_7.1, vU r_8.1, .slice A_17 f_16.length c_18, vI f_26, .bool f_27, vI f_28, .bool f_29, vU r_9.1]⟩]) (ps := []) (by kernel_rfl) trivial ?_
        refine GoO.regionEnd ?_
        exact GoO.sub (ks := [2, 5, 73]) (hk := [0, 2]) (bk := [0]) (by kernel_rfl) (by kernel_rfl) (by kernel_rfl) (tontineref16_Decode_j2_ok n r_4 r_6 r_7 r_8 r_9 f_16 f_26 f_27 f_28 f_29 b_2 b_5 A_17 c_18 w0 S0 (!(r_30.1 == s_1)))
theorem tontineref16_Decode_j0_ok (n : Nat) (s_1 : (List UInt8)) (r_4 : Int × T_tontineref03_Reader) (r_6 : Int × T_tontineref03_Reader) (r_7 : Int × T_tontineref03_Reader) (r_8 : Int × T_tontineref03_Reader) (r_9 : Int × T_tontineref03_Reader) (b_2 : Nat) (b_3 : Nat) (b_5 : Nat) (w0 : World) (S0 : Fam) (f_14 : (List UInt8)) (f_15 : Bool) (f_16 : (List T_api_Step)) (A_17 : Option Addr) (c_18 : Nat) :
    GoO (tontineref16_Decode.cx w0 S0) [(0, .string (bs s_1)), (2, vP b_2), (4, vP b_3), (5, vP b_5)] [⟨40, b_2, [vI 0, vU 0, vU 0, vU 0, .slice none ([] : List T_api_Step).length 0, vI 0, .bool false, vI 0, .bool false, vU 0]⟩, ⟨41, b_3, [.string (bs f_14), .bool f_15]⟩, ⟨42, b_5, [vI r_4.1, vU r_6.1, vU r_7.1, vU r_8.1, .slice A_17 f_16.length c_18, vI 0, .bool false, vI 0, .bool false, vU r_9.1]⟩] [Ow 43 kT_api_Step A_17 c_18 f_16] [.code c37_20] (tontineref16_Decode.j0 n s_1 r_4 r_6 r_7 r_8 r_9 f_14 f_15 f_16) := by
  unfold tontineref16_Decode.j0
  refine GoO.seq' c37_20e ?_
  refine GoO.seq' c37_21e ?_
  refine GoO.region' (is := [0, 1, 2]) c37_22e (by kernel_rfl) ?_
  refine GoO.exec (is := [0, 1, 2]) (hs := [.p, .b 2, .p]) (rest := []) (ks := [0, 2, 4, 5, 34]) (env' := [(0, .string (bs s_1)), (2, vP b_2), (4, vP b_3), (5, vP b_5), (34, .bool (r_4.1 == 4))]) (H' := [⟨40, b_2, [vI 0, vU 0, vU 0, vU 0, .slice none ([] : List T_api_Step).length 0, vI 0, .bool false, vI 0, .bool false, vU 0]⟩, ⟨41, b_3, [.string (bs f_14), .bool f_15]⟩, ⟨42, b_5, [vI r_4.1, vU r_6.1, vU r_7.1, vU r_8.1, .slice A_17 f_16.length c_18, vI 0, .bool false, vI 0, .bool false, vU r_9.1]⟩]) (ps := [b_5 = b_5]) (by kernel_rfl) (And.intro rfl trivial) ?_
  refine GoO.regionEnd ?_
  refine GoO.ite' c37_23e (by kernel_rfl) (fun h19 => ?_) (fun h19 => ?_)
  · refine GoO.seq' c37_24e ?_
    refine GoO.region' (is := [0, 1, 2, 3]) c37_25e (by kernel_rfl) ?_
    refine GoO.exec (is := [0]) (hs := [.p]) (rest := [1, 2, 3]) (ks := [0, 2, 4, 5, 35]) (env' := [(0, .string (bs s_1)), (2, vP b_2), (4, vP b_3), (5, vP b_5), (35, vP b_3)]) (H' := [⟨40, b_2, [vI 0, vU 0, vU 0, vU 0, .slice none ([] : List T_api_Step).length 0, vI 0, .bool false, vI 0, .bool false, vU 0]⟩, ⟨41, b_3, [.string (bs f_14), .bool f_15]⟩, ⟨42, b_5, [vI r_4.1, vU r_6.1, vU r_7.1, vU r_8.1, .slice A_17 f_16.length c_18, vI 0, .bool false, vI 0, .bool false, vU r_9.1]⟩]) (ps := []) (by kernel_rfl) trivial ?_
    refine OpTo.go (GoO.call rfl (by kernel_rfl) (by kernel_rfl) (tontineref03_Reader_Up_ok n (⟨f_14, f_15⟩ : T_tontineref03_Reader) 63 b_3) [[0], [41]] [(41, 1)] [(1, 1)] [] (hks := [0, 2]) (bks := [0]) (by kernel_rfl) (by kernel_rfl) (by kernel_rfl) (.inl rfl) rfl rfl (by kernel_rfl) (by kernel_rfl) _ (fun _ _ => rfl) _ _ (fun _ _ => rfl) (fun _ _ => rfl) (fun _ _ => by kernel_rfl) (fun _ _ => by kernel_rfl) (fun r_20 x_27 => ?_))
    refine GoO.shape (env' := [(0, .string (bs s_1)), (2, vP b_2), (4, vP b_3), (5, vP b_5), (35, vP b_3), (36, vI r_20.1)]) (H' := [⟨41, b_3, [.string (bs r_20.2.S_), .bool r_20.2.Bad]⟩, ⟨40, b_2, [vI 0, vU 0, vU 0, vU 0, .slice none ([] : List T_api_Step).length 0, vI 0, .bool false, vI 0, .bool false, vU 0]⟩, ⟨42, b_5, [vI r_4.1, vU r_6.1, vU r_7.1, vU r_8.1, .slice A_17 f_16.length c_18, vI 0, .bool false, vI 0, .bool false, vU r_9.1]⟩]) (B' := [Ow 43 kT_api_Step A_17 c_18 f_16]) (ks := [0, 2, 4, 5, 35, 36]) (by kernel_rfl) (by kernel_rfl) (by kernel_rfl) ?_
    refine GoO.exec (is := [2, 3]) (hs := [.p, .b 2]) (rest := []) (ks := [0, 2, 4, 5]) (env' := [(0, .string (bs s_1)), (2, vP b_2), (4, vP b_3), (5, vP b_5)]) (H' := [⟨41, b_3, [.string (bs r_20.2.S_), .bool r_20.2.Bad]⟩, ⟨40, b_2, [vI 0, vU 0, vU 0, vU 0, .slice none ([] : List T_api_Step).length 0, vI 0, .bool false, vI 0, .bool false, vU 0]⟩, ⟨42, b_5, [vI r_4.1, vU r_6.1, vU r_7.1, vU r_8.1, .slice A_17 f_16.length c_18, vI r_20.1, .bool false, vI 0, .bool false, vU r_9.1]⟩]) (ps := [b_5 = b_5]) (by kernel_rfl) (And.intro rfl trivial) ?_
    refine GoO.regionEnd ?_
    refine GoO.seq' c37_26e ?_
    refine GoO.region' (is := [0, 1, 2, 3, 4]) c37_27e (by kernel_rfl) ?_
    refine GoO.exec (is := [0]) (hs := [.p]) (rest := [1, 2, 3, 4]) (ks := [0, 2, 4, 5, 38]) (env' := [(0, .string (bs s_1)), (2, vP b_2), (4, vP b_3), (5, vP b_5), (38, vP b_3)]) (H' := [⟨41, b_3, [.string (bs r_20.2.S_), .bool r_20.2.Bad]⟩, ⟨40, b_2, [vI 0, vU 0, vU 0, vU 0, .slice none ([] : List T_api_Step).length 0, vI 0, .bool false, vI 0, .bool false, vU 0]⟩, ⟨42, b_5, [vI r_4.1, vU r_6.1, vU r_7.1, vU r_8.1, .slice A_17 f_16.length c_18, vI r_20.1, .bool false, vI 0, .bool false, vU r_9.1]⟩]) (ps := []) (by kernel_rfl) trivial ?_
    refine OpTo.go (GoO.call rfl (by kernel_rfl) (by kernel_rfl) (tontineref03_Reader_Up_ok n r_20.2 1 b_3) [[0], [41]] [(41, 1)] [(1, 0)] [] (hks := [1, 2]) (bks := [0]) (by kernel_rfl) (by kernel_rfl) (by kernel_rfl) (.inl rfl) rfl rfl (by kernel_rfl) (by kernel_rfl) _ (fun _ _ => rfl) _ _ (fun _ _ => rfl) (fun _ _ => rfl) (fun _ _ => by kernel_rfl) (fun _ _ => by kernel_rfl) (fun r_21 x_26 => ?_))
    refine GoO.shape (env' := [(0, .string (bs s_1)), (2, vP b_2), (4, vP b_3), (5, vP b_5), (38, vP b_3), (39, vI r_21.1)]) (H' := [⟨41, b_3, [.string (bs r_21.2.S_), .bool r_21.2.Bad]⟩, ⟨40, b_2, [vI 0, vU 0, vU 0, vU 0, .slice none ([] : List T_api_Step).length 0, vI 0, .bool false, vI 0, .bool false, vU 0]⟩, ⟨42, b_5, [vI r_4.1, vU r_6.1, vU r_7.1, vU r_8.1, .slice A_17 f_16.length c_18, vI r_20.1, .bool false, vI 0, .bool false, vU r_9.1]⟩]) (B' := [Ow 43 kT_api_Step A_17 c_18 f_16]) (ks := [0, 2, 4, 5, 38, 39]) (by kernel_rfl) (by kernel_rfl) (by kernel_rfl) ?_
    refine GoO.exec (is := [2, 3, 4]) (hs := [.p, .p, .b 2]) (rest := []) (ks := [0, 2, 4, 5]) (env' := [(0, .string (bs s_1)), (2, vP b_2), (4, vP b_3), (5, vP b_5)]) (H' := [⟨41, b_3, [.string (bs r_21.2.S_), .bool r_21.2.Bad]⟩, ⟨40, b_2, [vI 0, vU 0, vU 0, vU 0, .slice none ([] : List T_api_Step).length 0, vI 0, .bool false, vI 0, .bool false, vU 0]⟩, ⟨42, b_5, [vI r_4.1, vU r_6.1, vU r_7.1, vU r_8.1, .slice A_17 f_16.length c_18, vI r_20.1, .bool (r_21.1 == 1), vI 0, .bool false, vU r_9.1]⟩]) (ps := [b_5 = b_5]) (by kernel_rfl) (And.intro rfl trivial) ?_
    refine GoO.regionEnd ?_
    refine GoO.seq' c37_28e ?_
    refine GoO.region' (is := [0, 1, 2, 3]) c37_29e (by kernel_rfl) ?_
    refine GoO.exec (is := [0]) (hs := [.p]) (rest := [1, 2, 3]) (ks := [0, 2, 4, 5, 42]) (env' := [(0, .string (bs s_1)), (2, vP b_2), (4, vP b_3), (5, vP b_5), (42, vP b_3)]) (H' := [⟨41, b_3, [.string (bs r_21.2.S_), .bool r_21.2.Bad]⟩, ⟨40, b_2, [vI 0, vU 0, vU 0, vU 0, .slice none ([] : List T_api_Step).length 0, vI 0, .bool false, vI 0, .bool false, vU 0]⟩, ⟨42, b_5, [vI r_4.1, vU r_6.1, vU r_7.1, vU r_8.1, .slice A_17 f_16.length c_18, vI r_20.1, .bool (r_21.1 == 1), vI 0, .bool false, vU r_9.1]⟩]) (ps := []) (by kernel_rfl) trivial ?_
    refine OpTo.go (GoO.call rfl (by kernel_rfl) (by kernel_rfl) (tontineref03_Reader_Up_ok n r_21.2 8 b_3) [[0], [41]] [(41, 1)] [(1, 0)] [] (hks := [1, 2]) (bks := [0]) (by kernel_rfl) (by kernel_rfl) (by kernel_rfl) (.inl rfl) rfl rfl (by kernel_rfl) (by kernel_rfl) _ (fun _ _ => rfl) _ _ (fun _ _ => rfl) (fun _ _ => rfl) (fun _ _ => by kernel_rfl) (fun _ _ => by kernel_rfl) (fun r_22 x_25 => ?_))
    refine GoO.shape (env' := [(0, .string (bs s_1)), (2, vP b_2), (4, vP b_3), (5, vP b_5), (42, vP b_3), (43, vI r_22.1)]) (H' := [⟨41, b_3, [.string (bs r_22.2.S_), .bool r_22.2.Bad]⟩, ⟨40, b_2, [vI 0, vU 0, vU 0, vU 0, .slice none ([] : List T_api_Step).length 0, vI 0, .bool false, vI 0, .bool false, vU 0]⟩, ⟨42, b_5, [vI r_4.1, vU r_6.1, vU r_7.1, vU r_8.1, .slice A_17 f_16.length c_18, vI r_20.1, .bool (r_21.1 == 1), vI 0, .bool false, vU r_9.1]⟩]) (B' := [Ow 43 kT_api_Step A_17 c_18 f_16]) (ks := [0, 2, 4, 5, 42, 43]) (by kernel_rfl) (by kernel_rfl) (by kernel_rfl) ?_
    refine GoO.exec (is := [2, 3]) (hs := [.p, .b 2]) (rest := []) (ks := [0, 2, 4, 5]) (env' := [(0, .string (bs s_1)), (2, vP b_2), (4, vP b_3), (5, vP b_5)]) (H' := [⟨41, b_3, [.string (bs r_22.2.S_), .bool r_22.2.Bad]⟩, ⟨40, b_2, [vI 0, vU 0, vU 0, vU 0, .slice none ([] : List T_api_Step).length 0, vI 0, .bool false, vI 0, .bool false, vU 0]⟩, ⟨42, b_5, [vI r_4.1, vU r_6.1, vU r_7.1, vU r_8.1, .slice A_17 f_16.length c_18, vI r_20.1, .bool (r_21.1 == 1), vI r_22.1, .bool false, vU r_9.1]⟩]) (ps := [b_5 = b_5]) (by kernel_rfl) (And.intro rfl trivial) ?_
    refine GoO.regionEnd ?_
    refine GoO.region' (is := [0, 1, 2, 3, 4]) c37_30e (by kernel_rfl) ?_
    refine GoO.exec (is := [0]) (hs := [.p]) (rest := [1, 2, 3, 4]) (ks := [0, 2, 4, 5, 45]) (env' := [(0, .string (bs s_1)), (2, vP b_2), (4, vP b_3), (5, vP b_5), (45, vP b_3)]) (H' := [⟨41, b_3, [.string (bs r_22.2.S_), .bool r_22.2.Bad]⟩, ⟨40, b_2, [vI 0, vU 0, vU 0, vU 0, .slice none ([] : List T_api_Step).length 0, vI 0, .bool false, vI 0, .bool false, vU 0]⟩, ⟨42, b_5, [vI r_4.1, vU r_6.1, vU r_7.1, vU r_8.1, .slice A_17 f_16.length c_18, vI r_20.1, .bool (r_21.1 == 1), vI r_22.1, .bool false, vU r_9.1]⟩]) (ps := []) (by kernel_rfl) trivial ?_
    refine OpTo.go (GoO.call rfl (by kernel_rfl) (by kernel_rfl) (tontineref03_Reader_Up_ok n r_22.2 1 b_3) [[0], [41]] [(41, 1)] [(1, 0)] [] (hks := [1, 2]) (bks := [0]) (by kernel_rfl) (by kernel_rfl) (by kernel_rfl) (.inl rfl) rfl rfl (by kernel_rfl) (by kernel_rfl) _ (fun _ _ => rfl) _ _ (fun _ _ => rfl) (fun _ _ => rfl) (fun _ _ => by kernel_rfl) (fun _ _ => by kernel_rfl) (fun r_23 x_24 => ?_))
    refine GoO.shape (env' := [(0, .string (bs s_1)), (2, vP b_2), (4, vP b_3), (5, vP b_5), (45, vP b_3), (46, vI r_23.1)]) (H' := [⟨41, b_3, [.string (bs r_23.2.S_), .bool r_23.2.Bad]⟩, ⟨40, b_2, [vI 0, vU 0, vU 0, vU 0, .slice none ([] : List T_api_Step).length 0, vI 0, .bool false, vI 0, .bool false, vU 0]⟩, ⟨42, b_5, [vI r_4.1, vU r_6.1, vU r_7.1, vU r_8.1, .slice A_17 f_16.length c_18, vI r_20.1, .bool (r_21.1 == 1), vI r_22.1, .bool false, vU r_9.1]⟩]) (B' := [Ow 43 kT_api_Step A_17 c_18 f_16]) (ks := [0, 2, 4, 5, 45, 46]) (by kernel_rfl) (by kernel_rfl) (by kernel_rfl) ?_
    refine GoO.exec (is := [2, 3, 4]) (hs := [.p, .p, .b 2]) (rest := []) (ks := [0, 2, 4, 5]) (env' := [(0, .string (bs s_1)), (2, vP b_2), (4, vP b_3), (5, vP b_5)]) (H' := [⟨41, b_3, [.string (bs r_23.2.S_), .bool r_23.2.Bad]⟩, ⟨40, b_2, [vI 0, vU 0, vU 0, vU 0, .slice none ([] : List T_api_Step).length 0, vI 0, .bool false, vI 0, .bool false, vU 0]⟩, ⟨42, b_5, [vI r_4.1, vU r_6.1, vU r_7.1, vU r_8.1, .slice A_17 f_16.length c_18, vI r_20.1, .bool (r_21.1 == 1), vI r_22.1, .bool (r_23.1 == 1), vU r_9.1]⟩]) (ps := [b_5 = b_5]) (by kernel_rfl) (And.intro rfl trivial) ?_
    refine GoO.regionEnd ?_
    exact GoO.sub (ks := [0, 2, 4, 5]) (hk := [1, 0, 2]) (bk := [0]) (by kernel_rfl) (by kernel_rfl) (by kernel_rfl) (tontineref16_Decode_j1_ok n s_1 r_4 r_6 r_7 r_8 r_9 f_16 b_2 b_3 b_5 A_17 c_18 w0 S0 r_23.2.S_ r_23.2.Bad r_20.1 (r_21.1 == 1) r_22.1 (r_23.1 == 1))
  · refine GoO.skip' c37_31e ?_
    exact GoO.sub (ks := [0, 2, 4, 5]) (hk := [0, 1, 2]) (bk := [0]) (by kernel_rfl) (by kernel_rfl) (by kernel_rfl) (tontineref16_Decode_j1_ok n s_1 r_4 r_6 r_7 r_8 r_9 f_16 b_2 b_3 b_5 A_17 c_18 w0 S0 f_14 f_15 0 false 0 false)
theorem tontineref16_Decode_ok (n : Nat) (s_1 : (List UInt8)) :
    Meets Try.prog 37 [.string (bs s_1)] 0 [] [] [] (tontineref16_Decode.f n s_1) (tontineref16_Decode.R) := by
  refine Meets.of (c := c37_0) (n := 76) Try.func37 (by kernel_rfl) (by kernel_rfl) (by kernel_rfl) fun w0 S0 => ?_
  unfold tontineref16_Decode.f
  show GoO (tontineref16_Decode.cx w0 S0) [(0, .string (bs s_1))] [] [] [.code c37_0] _
  refine GoO.seq' c37_0e ?_
  refine GoO.region' (is := [0, 1]) c37_1e (by kernel_rfl) ?_
  refine OpTo.go (GoO.new rfl 40 (cs := [vI 0, vU 0, vU 0, vU 0, .slice none ([] : List T_api_Step).length 0, vI 0, .bool false, vI 0, .bool false, vU 0]) (by kernel_rfl) _ (fun _ => rfl) (fun b_2 => ?_))
  refine GoO.exec (is := [1]) (hs := [.p]) (rest := []) (ks := [0, 2]) (env' := [(0, .string (bs s_1)), (2, vP b_2)]) (H' := [⟨40, b_2, [vI 0, vU 0, vU 0, vU 0, .slice none ([] : List T_api_Step).length 0, vI 0, .bool false, vI 0, .bool false, vU 0]⟩]) (ps := []) (by kernel_rfl) trivial ?_
  refine GoO.regionEnd ?_
  refine GoO.seq' c37_2e ?_
  refine GoO.region' (is := [0, 1, 2, 3]) c37_3e (by kernel_rfl) ?_
  refine GoO.exec (is := [0, 1]) (hs := [.p, .p]) (rest := [2, 3]) (ks := [0, 2, 9]) (env' := [(0, .string (bs s_1)), (2, vP b_2), (9, .agg ⟨[.string (bs s_1), .bool false]⟩)]) (H' := [⟨40, b_2, [vI 0, vU 0, vU 0, vU 0, .slice none ([] : List T_api_Step).length 0, vI 0, .bool false, vI 0, .bool false, vU 0]⟩]) (ps := []) (by kernel_rfl) trivial ?_
  refine OpTo.go (GoO.new rfl 41 (cs := [.string (bs s_1), .bool false]) (by kernel_rfl) _ (fun _ => rfl) (fun b_3 => ?_))
  refine GoO.exec (is := [3]) (hs := [.p]) (rest := []) (ks := [0, 2, 4]) (env' := [(0, .string (bs s_1)), (2, vP b_2), (4, vP b_3)]) (H' := [⟨41, b_3, [.string (bs s_1), .bool false]⟩, ⟨40, b_2, [vI 0, vU 0, vU 0, vU 0, .slice none ([] : List T_api_Step).length 0, vI 0, .bool false, vI 0, .bool false, vU 0]⟩]) (ps := []) (by kernel_rfl) trivial ?_
  refine GoO.regionEnd ?_
  refine GoO.seq' c37_4e ?_
  refine GoO.region' (is := [0, 1, 2, 3, 4]) c37_5e (by kernel_rfl) ?_
  refine GoO.exec (is := [0]) (hs := [.p]) (rest := [1, 2, 3, 4]) (ks := [0, 2, 4, 11]) (env' := [(0, .string (bs s_1)), (2, vP b_2), (4, vP b_3), (11, vP b_3)]) (H' := [⟨41, b_3, [.string (bs s_1), .bool false]⟩, ⟨40, b_2, [vI 0, vU 0, vU 0, vU 0, .slice none ([] : List T_api_Step).length 0, vI 0, .bool false, vI 0, .bool false, vU 0]⟩]) (ps := []) (by kernel_rfl) trivial ?_
  refine OpTo.go (GoO.call rfl (by kernel_rfl) (by kernel_rfl) (tontineref03_Reader_Up_ok n (⟨s_1, false⟩ : T_tontineref03_Reader) 5 b_3) [[0], [41]] [(41, 1)] [(1, 0)] [] (hks := [1]) (bks := []) (by kernel_rfl) (by kernel_rfl) (by kernel_rfl) (.inl rfl) rfl rfl (by kernel_rfl) (by kernel_rfl) _ (fun _ _ => rfl) _ _ (fun _ _ => rfl) (fun _ _ => rfl) (fun _ _ => by kernel_rfl) (fun _ _ => by kernel_rfl) (fun r_4 x_41 => ?_))
  refine GoO.shape (env' := [(0, .string (bs s_1)), (2, vP b_2), (4, vP b_3), (11, vP b_3), (12, vI r_4.1)]) (H' := [⟨41, b_3, [.string (bs r_4.2.S_), .bool r_4.2.Bad]⟩, ⟨40, b_2, [vI 0, vU 0, vU 0, vU 0, .slice none ([] : List T_api_Step).length 0, vI 0, .bool false, vI 0, .bool false, vU 0]⟩]) (B' := []) (ks := [0, 2, 4, 11, 12]) (by kernel_rfl) (by kernel_rfl) (by kernel_rfl) ?_
  refine GoO.exec (is := [2]) (hs := [.p]) (rest := [3, 4]) (ks := [0, 2, 4, 13]) (env' := [(0, .string (bs s_1)), (2, vP b_2), (4, vP b_3), (13, .agg ⟨[vI r_4.1, vU 0, vU 0, vU 0, .slice none ([] : List T_api_Step).length 0, vI 0, .bool false, vI 0, .bool false, vU 0]⟩)]) (H' := [⟨41, b_3, [.string (bs r_4.2.S_), .bool r_4.2.Bad]⟩, ⟨40, b_2, [vI 0, vU 0, vU 0, vU 0, .slice none ([] : List T_api_Step).length 0, vI 0, .bool false, vI 0, .bool false, vU 0]⟩]) (ps := []) (by kernel_rfl) trivial ?_
  refine OpTo.go (GoO.new rfl 42 (cs := [vI 0, vU 0, vU 0, vU 0, .slice none ([] : List T_api_Step).length 0, vI 0, .bool false, vI 0, .bool false, vU 0]) (by kernel_rfl) _ (fun _ => rfl) (fun b_5 => ?_))
  refine GoO.exec (is := [4]) (hs := [.b 0]) (rest := []) (ks := [0, 2, 4, 5]) (env' := [(0, .string (bs s_1)), (2, vP b_2), (4, vP b_3), (5, vP b_5)]) (H' := [⟨42, b_5, [vI r_4.1, vU 0, vU 0, vU 0, .slice none ([] : List T_api_Step).length 0, vI 0, .bool false, vI 0, .bool false, vU 0]⟩, ⟨41, b_3, [.string (bs r_4.2.S_), .bool r_4.2.Bad]⟩, ⟨40, b_2, [vI 0, vU 0, vU 0, vU 0, .slice none ([] : List T_api_Step).length 0, vI 0, .bool false, vI 0, .bool false, vU 0]⟩]) (ps := [b_5 = b_5]) (by kernel_rfl) (And.intro rfl trivial) ?_
  refine GoO.regionEnd ?_
  refine GoO.seq' c37_6e ?_
  refine GoO.region' (is := [0, 1, 2, 3]) c37_7e (by kernel_rfl) ?_
  refine GoO.exec (is := [0]) (hs := [.p]) (rest := [1, 2, 3]) (ks := [0, 2, 4, 5, 14]) (env' := [(0, .string (bs s_1)), (2, vP b_2), (4, vP b_3), (5, vP b_5), (14, vP b_3)]) (H' := [⟨42, b_5, [vI r_4.1, vU 0, vU 0, vU 0, .slice none ([] : List T_api_Step).length 0, vI 0, .bool false, vI 0, .bool false, vU 0]⟩, ⟨41, b_3, [.string (bs r_4.2.S_), .bool r_4.2.Bad]⟩, ⟨40, b_2, [vI 0, vU 0, vU 0, vU 0, .slice none ([] : List T_api_Step).length 0, vI 0, .bool false, vI 0, .bool false, vU 0]⟩]) (ps := []) (by kernel_rfl) trivial ?_
  refine OpTo.go (GoO.call rfl (by kernel_rfl) (by kernel_rfl) (tontineref03_Reader_Num_ok n r_4.2 b_3) [[0], [41]] [(41, 1)] [(1, 1)] [] (hks := [0, 2]) (bks := []) (by kernel_rfl) (by kernel_rfl) (by kernel_rfl) (.inl rfl) rfl rfl (by kernel_rfl) (by kernel_rfl) _ (fun _ _ => rfl) _ _ (fun _ _ => rfl) (fun _ _ => rfl) (fun _ _ => by kernel_rfl) (fun _ _ => by kernel_rfl) (fun r_6 x_40 => ?_))
  refine GoO.shape (env' := [(0, .string (bs s_1)), (2, vP b_2), (4, vP b_3), (5, vP b_5), (14, vP b_3), (15, vU r_6.1)]) (H' := [⟨41, b_3, [.string (bs r_6.2.S_), .bool r_6.2.Bad]⟩, ⟨42, b_5, [vI r_4.1, vU 0, vU 0, vU 0, .slice none ([] : List T_api_Step).length 0, vI 0, .bool false, vI 0, .bool false, vU 0]⟩, ⟨40, b_2, [vI 0, vU 0, vU 0, vU 0, .slice none ([] : List T_api_Step).length 0, vI 0, .bool false, vI 0, .bool false, vU 0]⟩]) (B' := []) (ks := [0, 2, 4, 5, 14, 15]) (by kernel_rfl) (by kernel_rfl) (by kernel_rfl) ?_
  refine GoO.exec (is := [2, 3]) (hs := [.p, .b 1]) (rest := []) (ks := [0, 2, 4, 5]) (env' := [(0, .string (bs s_1)), (2, vP b_2), (4, vP b_3), (5, vP b_5)]) (H' := [⟨41, b_3, [.string (bs r_6.2.S_), .bool r_6.2.Bad]⟩, ⟨42, b_5, [vI r_4.1, vU r_6.1, vU 0, vU 0, .slice none ([] : List T_api_Step).length 0, vI 0, .bool false, vI 0, .bool false, vU 0]⟩, ⟨40, b_2, [vI 0, vU 0, vU 0, vU 0, .slice none ([] : List T_api_Step).length 0, vI 0, .bool false, vI 0, .bool false, vU 0]⟩]) (ps := [b_5 = b_5]) (by kernel_rfl) (And.intro rfl trivial) ?_
  refine GoO.regionEnd ?_
  refine GoO.seq' c37_8e ?_
  refine GoO.region' (is := [0, 1, 2, 3]) c37_9e (by kernel_rfl) ?_
  refine GoO.exec (is := [0]) (hs := [.p]) (rest := [1, 2, 3]) (ks := [0, 2, 4, 5, 17]) (env' := [(0, .string (bs s_1)), (2, vP b_2), (4, vP b_3), (5, vP b_5), (17, vP b_3)]) (H' := [⟨41, b_3, [.string (bs r_6.2.S_), .bool r_6.2.Bad]⟩, ⟨42, b_5, [vI r_4.1, vU r_6.1, vU 0, vU 0, .slice none ([] : List T_api_Step).length 0, vI 0, .bool false, vI 0, .bool false, vU 0]⟩, ⟨40, b_2, [vI 0, vU 0, vU 0, vU 0, .slice none ([] : List T_api_Step).length 0, vI 0, .bool false, vI 0, .bool false, vU 0]⟩]) (ps := []) (by kernel_rfl) trivial ?_
  refine OpTo.go (GoO.call rfl (by kernel_rfl) (by kernel_rfl) (tontineref03_Reader_Num_ok n r_6.2 b_3) [[0], [41]] [(41, 1)] [(1, 0)] [] (hks := [1, 2]) (bks := []) (by kernel_rfl) (by kernel_rfl) (by kernel_rfl) (.inl rfl) rfl rfl (by kernel_rfl) (by kernel_rfl) _ (fun _ _ => rfl) _ _ (fun _ _ => rfl) (fun _ _ => rfl) (fun _ _ => by kernel_rfl) (fun _ _ => by kernel_rfl) (fun r_7 x_39 => ?_))
  refine GoO.shape (env' := [(0, .string (bs s_1)), (2, vP b_2), (4, vP b_3), (5, vP b_5), (17, vP b_3), (18, vU r_7.1)]) (H' := [⟨41, b_3, [.string (bs r_7.2.S_), .bool r_7.2.Bad]⟩, ⟨42, b_5, [vI r_4.1, vU r_6.1, vU 0, vU 0, .slice none ([] : List T_api_Step).length 0, vI 0, .bool false, vI 0, .bool false, vU 0]⟩, ⟨40, b_2, [vI 0, vU 0, vU 0, vU 0, .slice none ([] : List T_api_Step).length 0, vI 0, .bool false, vI 0, .bool false, vU 0]⟩]) (B' := []) (ks := [0, 2, 4, 5, 17, 18]) (by kernel_rfl) (by kernel_rfl) (by kernel_rfl) ?_
  refine GoO.exec (is := [2, 3]) (hs := [.p, .b 1]) (rest := []) (ks := [0, 2, 4, 5]) (env' := [(0, .string (bs s_1)), (2, vP b_2), (4, vP b_3), (5, vP b_5)]) (H' := [⟨41, b_3, [.string (bs r_7.2.S_), .bool r_7.2.Bad]⟩, ⟨42, b_5, [vI r_4.1, vU r_6.1, vU r_7.1, vU 0, .slice none ([] : List T_api_Step).length 0, vI 0, .bool false, vI 0, .bool false, vU 0]⟩, ⟨40, b_2, [vI 0, vU 0, vU 0, vU 0, .slice none ([] : List T_api_Step).length 0, vI 0, .bool false, vI 0, .bool false, vU 0]⟩]) (ps := [b_5 = b_5]) (by kernel_rfl) (And.intro rfl trivial) ?_
  refine GoO.regionEnd ?_
  refine GoO.seq' c37_10e ?_
  refine GoO.region' (is := [0, 1, 2, 3]) c37_11e (by kernel_rfl) ?_
  refine GoO.exec (is := [0]) (hs := [.p]) (rest := [1, 2, 3]) (ks := [0, 2, 4, 5, 20]) (env' := [(0, .string (bs s_1)), (2, vP b_2), (4, vP b_3), (5, vP b_5), (20, vP b_3)]) (H' := [⟨41, b_3, [.string (bs r_7.2.S_), .bool r_7.2.Bad]⟩, ⟨42, b_5, [vI r_4.1, vU r_6.1, vU r_7.1, vU 0, .slice none ([] : List T_api_Step).length 0, vI 0, .bool false, vI 0, .bool false, vU 0]⟩, ⟨40, b_2, [vI 0, vU 0, vU 0, vU 0, .slice none ([] : List T_api_Step).length 0, vI 0, .bool false, vI 0, .bool false, vU 0]⟩]) (ps := []) (by kernel_rfl) trivial ?_
  refine OpTo.go (GoO.call rfl (by kernel_rfl) (by kernel_rfl) (tontineref03_Reader_Num_ok n r_7.2 b_3) [[0], [41]] [(41, 1)] [(1, 0)] [] (hks := [1, 2]) (bks := []) (by kernel_rfl) (by kernel_rfl) (by kernel_rfl) (.inl rfl) rfl rfl (by kernel_rfl) (by kernel_rfl) _ (fun _ _ => rfl) _ _ (fun _ _ => rfl) (fun _ _ => rfl) (fun _ _ => by kernel_rfl) (fun _ _ => by kernel_rfl) (fun r_8 x_38 => ?_))
  refine GoO.shape (env' := [(0, .string (bs s_1)), (2, vP b_2), (4, vP b_3), (5, vP b_5), (20, vP b_3), (21, vU r_8.1)]) (H' := [⟨41, b_3, [.string (bs r_8.2.S_), .bool r_8.2.Bad]⟩, ⟨42, b_5, [vI r_4.1, vU r_6.1, vU r_7.1, vU 0, .slice none ([] : List T_api_Step).length 0, vI 0, .bool false, vI 0, .bool false, vU 0]⟩, ⟨40, b_2, [vI 0, vU 0, vU 0, vU 0, .slice none ([] : List T_api_Step).length 0, vI 0, .bool false, vI 0, .bool false, vU 0]⟩]) (B' := []) (ks := [0, 2, 4, 5, 20, 21]) (by kernel_rfl) (by kernel_rfl) (by kernel_rfl) ?_
  refine GoO.exec (is := [2, 3]) (hs := [.p, .b 1]) (rest := []) (ks := [0, 2, 4, 5]) (env' := [(0, .string (bs s_1)), (2, vP b_2), (4, vP b_3), (5, vP b_5)]) (H' := [⟨41, b_3, [.string (bs r_8.2.S_), .bool r_8.2.Bad]⟩, ⟨42, b_5, [vI r_4.1, vU r_6.1, vU r_7.1, vU r_8.1, .slice none ([] : List T_api_Step).length 0, vI 0, .bool false, vI 0, .bool false, vU 0]⟩, ⟨40, b_2, [vI 0, vU 0, vU 0, vU 0, .slice none ([] : List T_api_Step).length 0, vI 0, .bool false, vI 0, .bool false, vU 0]⟩]) (ps := [b_5 = b_5]) (by kernel_rfl) (And.intro rfl trivial) ?_
  refine GoO.regionEnd ?_
  refine GoO.seq' c37_12e ?_
  refine GoO.region' (is := [0, 1, 2, 3]) c37_13e (by kernel_rfl) ?_
  refine GoO.exec (is := [0]) (hs := [.p]) (rest := [1, 2, 3]) (ks := [0, 2, 4, 5, 23]) (env' := [(0, .string (bs s_1)), (2, vP b_2), (4, vP b_3), (5, vP b_5), (23, vP b_3)]) (H' := [⟨41, b_3, [.string (bs r_8.2.S_), .bool r_8.2.Bad]⟩, ⟨42, b_5, [vI r_4.1, vU r_6.1, vU r_7.1, vU r_8.1, .slice none ([] : List T_api_Step).length 0, vI 0, .bool false, vI 0, .bool false, vU 0]⟩, ⟨40, b_2, [vI 0, vU 0, vU 0, vU 0, .slice none ([] : List T_api_Step).length 0, vI 0, .bool false, vI 0, .bool false, vU 0]⟩]) (ps := []) (by kernel_rfl) trivial ?_
  refine OpTo.go (GoO.call rfl (by kernel_rfl) (by kernel_rfl) (tontineref03_Reader_Num_ok n r_8.2 b_3) [[0], [41]] [(41, 1)] [(1, 0)] [] (hks := [1, 2]) (bks := []) (by kernel_rfl) (by kernel_rfl) (by kernel_rfl) (.inl rfl) rfl rfl (by kernel_rfl) (by kernel_rfl) _ (fun _ _ => rfl) _ _ (fun _ _ => rfl) (fun _ _ => rfl) (fun _ _ => by kernel_rfl) (fun _ _ => by kernel_rfl) (fun r_9 x_37 => ?_))
  refine GoO.shape (env' := [(0, .string (bs s_1)), (2, vP b_2), (4, vP b_3), (5, vP b_5), (23, vP b_3), (24, vU r_9.1)]) (H' := [⟨41, b_3, [.string (bs r_9.2.S_), .bool r_9.2.Bad]⟩, ⟨42, b_5, [vI r_4.1, vU r_6.1, vU r_7.1, vU r_8.1, .slice none ([] : List T_api_Step).length 0, vI 0, .bool false, vI 0, .bool false, vU 0]⟩, ⟨40, b_2, [vI 0, vU 0, vU 0, vU 0, .slice none ([] : List T_api_Step).length 0, vI 0, .bool false, vI 0, .bool false, vU 0]⟩]) (B' := []) (ks := [0, 2, 4, 5, 23, 24]) (by kernel_rfl) (by kernel_rfl) (by kernel_rfl) ?_
  refine GoO.exec (is := [2, 3]) (hs := [.p, .b 1]) (rest := []) (ks := [0, 2, 4, 5]) (env' := [(0, .string (bs s_1)), (2, vP b_2), (4, vP b_3), (5, vP b_5)]) (H' := [⟨41, b_3, [.string (bs r_9.2.S_), .bool r_9.2.Bad]⟩, ⟨42, b_5, [vI r_4.1, vU r_6.1, vU r_7.1, vU r_8.1, .slice none ([] : List T_api_Step).length 0, vI 0, .bool false, vI 0, .bool false, vU r_9.1]⟩, ⟨40, b_2, [vI 0, vU 0, vU 0, vU 0, .slice none ([] : List T_api_Step).length 0, vI 0, .bool false, vI 0, .bool false, vU 0]⟩]) (ps := [b_5 = b_5]) (by kernel_rfl) (And.intro rfl trivial) ?_
  refine GoO.regionEnd ?_
  refine GoO.seq' c37_14e ?_
  refine GoO.seq' c37_15e ?_
  refine GoO.region' (is := [0, 1, 2]) c37_16e (by kernel_rfl) ?_
  refine GoO.exec (is := [0, 1, 2]) (hs := [.p, .b 1, .p]) (rest := []) (ks := [0, 2, 4, 5, 28]) (env' := [(0, .string (bs s_1)), (2, vP b_2), (4, vP b_3), (5, vP b_5), (28, .bool (r_4.1 == 2))]) (H' := [⟨41, b_3, [.string (bs r_9.2.S_), .bool r_9.2.Bad]⟩, ⟨42, b_5, [vI r_4.1, vU r_6.1, vU r_7.1, vU r_8.1, .slice none ([] : List T_api_Step).length 0, vI 0, .bool false, vI 0, .bool false, vU r_9.1]⟩, ⟨40, b_2, [vI 0, vU 0, vU 0, vU 0, .slice none ([] : List T_api_Step).length 0, vI 0, .bool false, vI 0, .bool false, vU 0]⟩]) (ps := [b_5 = b_5]) (by kernel_rfl) (And.intro rfl trivial) ?_
  refine GoO.regionEnd ?_
  refine GoO.ite' c37_17e (by kernel_rfl) (fun h10 => ?_) (fun h10 => ?_)
  · refine GoO.region' (is := [0, 1, 2, 3]) c37_18e (by kernel_rfl) ?_
    refine GoO.exec (is := [0]) (hs := [.p]) (rest := [1, 2, 3]) (ks := [0, 2, 4, 5, 29]) (env' := [(0, .string (bs s_1)), (2, vP b_2), (4, vP b_3), (5, vP b_5), (29, vP b_3)]) (H' := [⟨41, b_3, [.string (bs r_9.2.S_), .bool r_9.2.Bad]⟩, ⟨42, b_5, [vI r_4.1, vU r_6.1, vU r_7.1, vU r_8.1, .slice none ([] : List T_api_Step).length 0, vI 0, .bool false, vI 0, .bool false, vU r_9.1]⟩, ⟨40, b_2, [vI 0, vU 0, vU 0, vU 0, .slice none ([] : List T_api_Step).length 0, vI 0, .bool false, vI 0, .bool false, vU 0]⟩]) (ps := []) (by kernel_rfl) trivial ?_
    refine OpTo.go (GoO.call rfl (by kernel_rfl) (by kernel_rfl) (tontineref13_Read_ok n r_9.2 b_3) [[0], [41]] [(41, 1), (43, 2)] [(1, 0)] [] (hks := [1, 2]) (bks := []) (by kernel_rfl) (by kernel_rfl) (by kernel_rfl) (.inl rfl) rfl rfl (by kernel_rfl) (by kernel_rfl) _ (fun _ _ => rfl) _ _ (fun _ _ => rfl) (fun _ _ => rfl) (fun _ _ => by kernel_rfl) (fun _ _ => by kernel_rfl) (fun r_11 x_14 => ?_))
    obtain ⟨A_12, c_13⟩ := x_14
    refine GoO.shape (env' := [(0, .string (bs s_1)), (2, vP b_2), (4, vP b_3), (5, vP b_5), (29, vP b_3), (30, .slice A_12 r_11.1.length c_13)]) (H' := [⟨41, b_3, [.string (bs r_11.2.S_), .bool r_11.2.Bad]⟩, ⟨42, b_5, [vI r_4.1, vU r_6.1, vU r_7.1, vU r_8.1, .slice none ([] : List T_api_Step).length 0, vI 0, .bool false, vI 0, .bool false, vU r_9.1]⟩, ⟨40, b_2, [vI 0, vU 0, vU 0, vU 0, .slice none ([] : List T_api_Step).length 0, vI 0, .bool false, vI 0, .bool false, vU 0]⟩]) (B' := [Ow 43 kT_api_Step A_12 c_13 r_11.1]) (ks := [0, 2, 4, 5, 29, 30]) (by kernel_rfl) (by kernel_rfl) (by kernel_rfl) ?_
    refine GoO.exec (is := [2, 3]) (hs := [.p, .b 1]) (rest := []) (ks := [0, 2, 4, 5]) (env' := [(0, .string (bs s_1)), (2, vP b_2), (4, vP b_3), (5, vP b_5)]) (H' := [⟨41, b_3, [.string (bs r_11.2.S_), .bool r_11.2.Bad]⟩, ⟨42, b_5, [vI r_4.1, vU r_6.1, vU r_7.1, vU r_8.1, .slice A_12 r_11.1.length c_13, vI 0, .bool false, vI 0, .bool false, vU r_9.1]⟩, ⟨40, b_2, [vI 0, vU 0, vU 0, vU 0, .slice none ([] : List T_api_Step).length 0, vI 0, .bool false, vI 0, .bool false, vU 0]⟩]) (ps := [b_5 = b_5]) (by kernel_rfl) (And.intro rfl trivial) ?_
    refine GoO.regionEnd ?_
    exact GoO.sub (ks := [0, 2, 4, 5]) (hk := [2, 0, 1]) (bk := [0]) (by kernel_rfl) (by kernel_rfl) (by kernel_rfl) (tontineref16_Decode_j0_ok n s_1 r_4 r_6 r_7 r_8 r_9 b_2 b_3 b_5 w0 S0 r_11.2.S_ r_11.2.Bad r_11.1 A_12 c_13)
  · refine GoO.skip' c37_19e ?_
    refine GoO.nilOwn kT_api_Step 43 ?_
    exact GoO.sub (ks := [0, 2, 4, 5]) (hk := [2, 0, 1]) (bk := [0]) (by kernel_rfl) (by kernel_rfl) (by kernel_rfl) (tontineref16_Decode_j0_ok n s_1 r_4 r_6 r_7 r_8 r_9 b_2 b_3 b_5 w0 S0 r_9.2.S_ r_9.2.Bad ([] : List T_api_Step) none 0)
/-! tontine/tontinelaw21.ClientNumbers -/
noncomputable def c12_0 : Code := bodyOf Try.f12
noncomputable def c12_1 : Code := cdL c12_0
noncomputable def c12_2 : Code := cdR c12_0
noncomputable def c12_3 : Code := cdL c12_2
noncomputable def c12_4 : Code := cdL c12_3
noncomputable def c12_5 : Code := cdR c12_3
noncomputable def c12_6 : Code := cdL c12_5
noncomputable def c12_7 : Code := cdL c12_6
noncomputable def c12_8 : Code := cdR c12_6
noncomputable def c12_9 : Code := cdR c12_5
noncomputable def c12_10 : Code := cdR c12_2
noncomputable def c12_11 : Code := cdL c12_10
noncomputable def c12_12 : Code := cdL c12_11
noncomputable def c12_13 : Code := cdR c12_11
noncomputable def c12_14 : Code := cdL c12_13
noncomputable def c12_15 : Code := cdL c12_14
noncomputable def c12_16 : Code := cdR c12_14
noncomputable def c12_17 : Code := cdR c12_13
noncomputable def c12_18 : Code := cdR c12_10
noncomputable def c12_19 : Code := cdL c12_18
noncomputable def c12_20 : Code := cdR c12_18
noncomputable def c12_21 : Code := cdL c12_20
noncomputable def c12_22 : Code := cdR c12_20
noncomputable def c12_23 : Code := cdL c12_22
noncomputable def c12_24 : Code := cdR c12_22
noncomputable def c12_25 : Code := cdL c12_24
noncomputable def c12_26 : Code := cdL c12_25
noncomputable def c12_27 : Code := cdR c12_25
noncomputable def c12_28 : Code := cdL c12_27
noncomputable def c12_29 : Code := cdL c12_28
noncomputable def c12_30 : Code := cdL c12_29
noncomputable def c12_31 : Code := cdR c12_29
noncomputable def c12_32 : Code := cdL c12_31
noncomputable def c12_33 : Code := cdL c12_32
noncomputable def c12_34 : Code := cdR c12_32
noncomputable def c12_35 : Code := cdR c12_31
noncomputable def c12_36 : Code := cdL c12_35
noncomputable def c12_37 : Code := cdL c12_36
noncomputable def c12_38 : Code := cdL c12_37
noncomputable def c12_39 : Code := cdR c12_37
noncomputable def c12_40 : Code := cdL c12_39
noncomputable def c12_41 : Code := cdR c12_39
noncomputable def c12_42 : Code := cdL c12_41
noncomputable def c12_43 : Code := cdL c12_42
noncomputable def c12_44 : Code := cdR c12_42
noncomputable def c12_45 : Code := cdL c12_44
noncomputable def c12_46 : Code := cdL c12_45
noncomputable def c12_47 : Code := cdR c12_45
noncomputable def c12_48 : Code := cdL c12_47
noncomputable def c12_49 : Code := cdR c12_47
noncomputable def c12_50 : Code := cdL c12_49
noncomputable def c12_51 : Code := cdR c12_49
noncomputable def c12_52 : Code := cdL c12_51
noncomputable def c12_53 : Code := cdR c12_51
noncomputable def c12_54 : Code := cdL c12_53
noncomputable def c12_55 : Code := cdR c12_53
noncomputable def c12_56 : Code := cdL c12_55
noncomputable def c12_57 : Code := cdL c12_56
noncomputable def c12_58 : Code := cdL c12_57
noncomputable def c12_59 : Code := cdR c12_57
noncomputable def c12_60 : Code := cdL c12_59
noncomputable def c12_61 : Code := cdL c12_60
noncomputable def c12_62 : Code := cdR c12_60
noncomputable def c12_63 : Code := cdL c12_62
noncomputable def c12_64 : Code := cdR c12_62
noncomputable def c12_65 : Code := cdL c12_64
noncomputable def c12_66 : Code := cdL c12_65
noncomputable def c12_67 : Code := cdR c12_65
noncomputable def c12_68 : Code := cdL c12_67
noncomputable def c12_69 : Code := cdR c12_67
noncomputable def c12_70 : Code := cdR c12_64
noncomputable def c12_71 : Code := cdR c12_59
noncomputable def c12_72 : Code := cdR c12_56
noncomputable def c12_73 : Code := cdL c12_72
noncomputable def c12_74 : Code := cdR c12_72
noncomputable def c12_75 : Code := cdL c12_74
noncomputable def c12_76 : Code := cdR c12_74
noncomputable def c12_77 : Code := cdL c12_76
noncomputable def c12_78 : Code := cdR c12_76
noncomputable def c12_79 : Code := cdL c12_78
noncomputable def c12_80 : Code := cdR c12_78
noncomputable def c12_81 : Code := cdR c12_55
noncomputable def c12_82 : Code := cdR c12_41
noncomputable def c12_83 : Code := cdL c12_82
noncomputable def c12_84 : Code := cdL c12_83
noncomputable def c12_85 : Code := cdR c12_83
noncomputable def c12_86 : Code := cdL c12_85
noncomputable def c12_87 : Code := cdR c12_85
noncomputable def c12_88 : Code := cdR c12_82
noncomputable def c12_89 : Code := cdL c12_88
noncomputable def c12_90 : Code := cdR c12_88
noncomputable def c12_91 : Code := cdL c12_90
noncomputable def c12_92 : Code := cdL c12_91
noncomputable def c12_93 : Code := cdR c12_91
noncomputable def c12_94 : Code := cdL c12_93
noncomputable def c12_95 : Code := cdL c12_94
noncomputable def c12_96 : Code := cdR c12_94
noncomputable def c12_97 : Code := cdR c12_93
noncomputable def c12_98 : Code := cdR c12_90
noncomputable def c12_99 : Code := cdL c12_98
noncomputable def c12_100 : Code := cdL c12_99
noncomputable def c12_101 : Code := cdR c12_99
noncomputable def c12_102 : Code := cdL c12_101
noncomputable def c12_103 : Code := cdR c12_101
noncomputable def c12_104 : Code := cdR c12_98
noncomputable def c12_105 : Code := cdL c12_104
noncomputable def c12_106 : Code := cdR c12_104
noncomputable def c12_107 : Code := cdL c12_106
noncomputable def c12_108 : Code := cdL c12_107
noncomputable def c12_109 : Code := cdR c12_107
noncomputable def c12_110 : Code := cdL c12_109
noncomputable def c12_111 : Code := cdR c12_109
noncomputable def c12_112 : Code := cdL c12_111
noncomputable def c12_113 : Code := cdL c12_112
noncomputable def c12_114 : Code := cdR c12_112
noncomputable def c12_115 : Code := cdR c12_111
noncomputable def c12_116 : Code := cdR c12_106
noncomputable def c12_117 : Code := cdL c12_116
noncomputable def c12_118 : Code := cdR c12_116
noncomputable def c12_119 : Code := cdL c12_118
noncomputable def c12_120 : Code := cdR c12_118
noncomputable def c12_121 : Code := cdL c12_120
noncomputable def c12_122 : Code := cdR c12_120
noncomputable def c12_123 : Code := cdL c12_122
noncomputable def c12_124 : Code := cdL c12_123
noncomputable def c12_125 : Code := cdR c12_123
noncomputable def c12_126 : Code := cdR c12_122
noncomputable def c12_127 : Code := cdR c12_35
noncomputable def c12_128 : Code := cdR c12_24
noncomputable def c12_129 : Code := cdL c12_128
noncomputable def c12_130 : Code := cdR c12_128
noncomputable def r12_1 : Array Oper := cdO c12_1
noncomputable def r12_4 : Array Oper := cdO c12_4
noncomputable def r12_7 : Array Oper := cdO c12_7
noncomputable def r12_12 : Array Oper := cdO c12_12
noncomputable def r12_15 : Array Oper := cdO c12_15
noncomputable def r12_19 : Array Oper := cdO c12_19
noncomputable def r12_21 : Array Oper := cdO c12_21
noncomputable def r12_23 : Array Oper := cdO c12_23
noncomputable def r12_26 : Array Oper := cdO c12_26
noncomputable def r12_30 : Array Oper := cdO c12_30
noncomputable def r12_38 : Array Oper := cdO c12_38
noncomputable def r12_40 : Array Oper := cdO c12_40
noncomputable def r12_43 : Array Oper := cdO c12_43
noncomputable def r12_46 : Array Oper := cdO c12_46
noncomputable def r12_48 : Array Oper := cdO c12_48
noncomputable def r12_50 : Array Oper := cdO c12_50
noncomputable def r12_52 : Array Oper := cdO c12_52
noncomputable def r12_54 : Array Oper := cdO c12_54
noncomputable def r12_58 : Array Oper := cdO c12_58
noncomputable def r12_61 : Array Oper := cdO c12_61
noncomputable def r12_63 : Array Oper := cdO c12_63
noncomputable def r12_66 : Array Oper := cdO c12_66
noncomputable def r12_68 : Array Oper := cdO c12_68
noncomputable def r12_69 : Array Oper := cdO c12_69
noncomputable def r12_73 : Array Oper := cdO c12_73
noncomputable def r12_75 : Array Oper := cdO c12_75
noncomputable def r12_77 : Array Oper := cdO c12_77
noncomputable def r12_79 : Array Oper := cdO c12_79
noncomputable def r12_81 : Array Oper := cdO c12_81
noncomputable def r12_84 : Array Oper := cdO c12_84
noncomputable def r12_89 : Array Oper := cdO c12_89
noncomputable def r12_92 : Array Oper := cdO c12_92
noncomputable def r12_95 : Array Oper := cdO c12_95
noncomputable def r12_100 : Array Oper := cdO c12_100
noncomputable def r12_105 : Array Oper := cdO c12_105
noncomputable def r12_108 : Array Oper := cdO c12_108
noncomputable def r12_110 : Array Oper := cdO c12_110
noncomputable def r12_113 : Array Oper := cdO c12_113
noncomputable def r12_117 : Array Oper := cdO c12_117
noncomputable def r12_119 : Array Oper := cdO c12_119
noncomputable def r12_121 : Array Oper := cdO c12_121
noncomputable def r12_124 : Array Oper := cdO c12_124
noncomputable def r12_127 : Array Oper := cdO c12_127
noncomputable def r12_129 : Array Oper := cdO c12_129
theorem c12_0e : c12_0 = .seq c12_1 c12_2 := by kernel_rfl
theorem c12_1e : c12_1 = .region 0 r12_1 false := by kernel_rfl
theorem c12_2e : c12_2 = .seq c12_3 c12_10 := by kernel_rfl
theorem c12_3e : c12_3 = .seq c12_4 c12_5 := by kernel_rfl
theorem c12_4e : c12_4 = .region 1 r12_4 false := by kernel_rfl
theorem c12_5e : c12_5 = .cond (cdC c12_5) c12_6 c12_9 := by kernel_rfl
theorem c12_6e : c12_6 = .seq c12_7 c12_8 := by kernel_rfl
theorem c12_7e : c12_7 = .region 2 r12_7 false := by kernel_rfl
theorem c12_8e : c12_8 = .ret := by kernel_rfl
theorem c12_9e : c12_9 = .skip := by kernel_rfl
theorem c12_10e : c12_10 = .seq c12_11 c12_18 := by kernel_rfl
theorem c12_11e : c12_11 = .seq c12_12 c12_13 := by kernel_rfl
theorem c12_12e : c12_12 = .region 3 r12_12 false := by kernel_rfl
theorem c12_13e : c12_13 = .cond (cdC c12_13) c12_14 c12_17 := by kernel_rfl
theorem c12_14e : c12_14 = .seq c12_15 c12_16 := by kernel_rfl
theorem c12_15e : c12_15 = .region 4 r12_15 false := by kernel_rfl
theorem c12_16e : c12_16 = .ret := by kernel_rfl
theorem c12_17e : c12_17 = .skip := by kernel_rfl
theorem c12_18e : c12_18 = .seq c12_19 c12_20 := by kernel_rfl
theorem c12_19e : c12_19 = .region 5 r12_19 false := by kernel_rfl
theorem c12_20e : c12_20 = .seq c12_21 c12_22 := by kernel_rfl
theorem c12_21e : c12_21 = .region 6 r12_21 false := by kernel_rfl
theorem c12_22e : c12_22 = .seq c12_23 c12_24 := by kernel_rfl
theorem c12_23e : c12_23 = .region 7 r12_23 false := by kernel_rfl
theorem c12_24e : c12_24 = .seq c12_25 c12_128 := by kernel_rfl
theorem c12_25e : c12_25 = .seq c12_26 c12_27 := by kernel_rfl
theorem c12_26e : c12_26 = .region 8 r12_26 false := by kernel_rfl
theorem c12_27e : c12_27 = .block 0 c12_28 := by kernel_rfl
theorem c12_28e : c12_28 = .loop c12_29 := by kernel_rfl
theorem c12_29e : c12_29 = .seq c12_30 c12_31 := by kernel_rfl
theorem c12_30e : c12_30 = .region 9 r12_30 false := by kernel_rfl
theorem c12_31e : c12_31 = .seq c12_32 c12_35 := by kernel_rfl
theorem c12_32e : c12_32 = .cond (cdC c12_32) c12_33 c12_34 := by kernel_rfl
theorem c12_33e : c12_33 = .skip := by kernel_rfl
theorem c12_34e : c12_34 = .exit 0 := by kernel_rfl
theorem c12_35e : c12_35 = .seq c12_36 c12_127 := by kernel_rfl
theorem c12_36e : c12_36 = .block 1 c12_37 := by kernel_rfl
theorem c12_37e : c12_37 = .seq c12_38 c12_39 := by kernel_rfl
theorem c12_38e : c12_38 = .region 10 r12_38 false := by kernel_rfl
theorem c12_39e : c12_39 = .seq c12_40 c12_41 := by kernel_rfl
theorem c12_40e : c12_40 = .region 11 r12_40 false := by kernel_rfl
theorem c12_41e : c12_41 = .seq c12_42 c12_82 := by kernel_rfl
theorem c12_42e : c12_42 = .seq c12_43 c12_44 := by kernel_rfl
theorem c12_43e : c12_43 = .region 12 r12_43 false := by kernel_rfl
theorem c12_44e : c12_44 = .block 2 c12_45 := by kernel_rfl
theorem c12_45e : c12_45 = .seq c12_46 c12_47 := by kernel_rfl
theorem c12_46e : c12_46 = .region 14 r12_46 false := by kernel_rfl
theorem c12_47e : c12_47 = .cond (cdC c12_47) c12_48 c12_49 := by kernel_rfl
theorem c12_48e : c12_48 = .region 15 r12_48 false := by kernel_rfl
theorem c12_49e : c12_49 = .seq c12_50 c12_51 := by kernel_rfl
theorem c12_50e : c12_50 = .region 16 r12_50 false := by kernel_rfl
theorem c12_51e : c12_51 = .cond (cdC c12_51) c12_52 c12_53 := by kernel_rfl
theorem c12_52e : c12_52 = .region 17 r12_52 false := by kernel_rfl
theorem c12_53e : c12_53 = .seq c12_54 c12_55 := by kernel_rfl
theorem c12_54e : c12_54 = .region 18 r12_54 false := by kernel_rfl
theorem c12_55e : c12_55 = .cond (cdC c12_55) c12_56 c12_81 := by kernel_rfl
theorem c12_56e : c12_56 = .seq c12_57 c12_72 := by kernel_rfl
theorem c12_57e : c12_57 = .seq c12_58 c12_59 := by kernel_rfl
theorem c12_58e : c12_58 = .region 19 r12_58 false := by kernel_rfl
theorem c12_59e : c12_59 = .cond (cdC c12_59) c12_60 c12_71 := by kernel_rfl
theorem c12_60e : c12_60 = .seq c12_61 c12_62 := by kernel_rfl
theorem c12_61e : c12_61 = .region 20 r12_61 false := by kernel_rfl
theorem c12_62e : c12_62 = .seq c12_63 c12_64 := by kernel_rfl
theorem c12_63e : c12_63 = .region 21 r12_63 false := by kernel_rfl
theorem c12_64e : c12_64 = .cond (cdC c12_64) c12_65 c12_70 := by kernel_rfl
theorem c12_65e : c12_65 = .seq c12_66 c12_67 := by kernel_rfl
theorem c12_66e : c12_66 = .region 22 r12_66 false := by kernel_rfl
theorem c12_67e : c12_67 = .seq c12_68 c12_69 := by kernel_rfl
theorem c12_68e : c12_68 = .region 23 r12_68 false := by kernel_rfl
theorem c12_69e : c12_69 = .region 24 r12_69 false := by kernel_rfl
theorem c12_70e : c12_70 = .skip := by kernel_rfl
theorem c12_71e : c12_71 = .skip := by kernel_rfl
theorem c12_72e : c12_72 = .seq c12_73 c12_74 := by kernel_rfl
theorem c12_73e : c12_73 = .region 25 r12_73 false := by kernel_rfl
theorem c12_74e : c12_74 = .seq c12_75 c12_76 := by kernel_rfl
theorem c12_75e : c12_75 = .region 26 r12_75 false := by kernel_rfl
theorem c12_76e : c12_76 = .seq c12_77 c12_78 := by kernel_rfl
theorem c12_77e : c12_77 = .region 27 r12_77 false := by kernel_rfl
theorem c12_78e : c12_78 = .cond (cdC c12_78) c12_79 c12_80 := by kernel_rfl
theorem c12_79e : c12_79 = .region 28 r12_79 false := by kernel_rfl
theorem c12_80e : c12_80 = .skip := by kernel_rfl
theorem c12_81e : c12_81 = .region 13 r12_81 false := by kernel_rfl
theorem c12_82e : c12_82 = .seq c12_83 c12_88 := by kernel_rfl
theorem c12_83e : c12_83 = .seq c12_84 c12_85 := by kernel_rfl
theorem c12_84e : c12_84 = .region 29 r12_84 false := by kernel_rfl
theorem c12_85e : c12_85 = .cond (cdC c12_85) c12_86 c12_87 := by kernel_rfl
theorem c12_86e : c12_86 = .exit 1 := by kernel_rfl
theorem c12_87e : c12_87 = .skip := by kernel_rfl
theorem c12_88e : c12_88 = .seq c12_89 c12_90 := by kernel_rfl
theorem c12_89e : c12_89 = .region 30 r12_89 false := by kernel_rfl
theorem c12_90e : c12_90 = .seq c12_91 c12_98 := by kernel_rfl
theorem c12_91e : c12_91 = .seq c12_92 c12_93 := by kernel_rfl
theorem c12_92e : c12_92 = .region 31 r12_92 false := by kernel_rfl
theorem c12_93e : c12_93 = .cond (cdC c12_93) c12_94 c12_97 := by kernel_rfl
theorem c12_94e : c12_94 = .seq c12_95 c12_96 := by kernel_rfl
theorem c12_95e : c12_95 = .region 32 r12_95 false := by kernel_rfl
theorem c12_96e : c12_96 = .ret := by kernel_rfl
theorem c12_97e : c12_97 = .skip := by kernel_rfl
theorem c12_98e : c12_98 = .seq c12_99 c12_104 := by kernel_rfl
theorem c12_99e : c12_99 = .seq c12_100 c12_101 := by kernel_rfl
theorem c12_100e : c12_100 = .region 33 r12_100 false := by kernel_rfl
theorem c12_101e : c12_101 = .cond (cdC c12_101) c12_102 c12_103 := by kernel_rfl
theorem c12_102e : c12_102 = .exit 1 := by kernel_rfl
theorem c12_103e : c12_103 = .skip := by kernel_rfl
theorem c12_104e : c12_104 = .seq c12_105 c12_106 := by kernel_rfl
theorem c12_105e : c12_105 = .region 34 r12_105 false := by kernel_rfl
theorem c12_106e : c12_106 = .seq c12_107 c12_116 := by kernel_rfl
theorem c12_107e : c12_107 = .seq c12_108 c12_109 := by kernel_rfl
theorem c12_108e : c12_108 = .region 35 r12_108 false := by kernel_rfl
theorem c12_109e : c12_109 = .seq c12_110 c12_111 := by kernel_rfl
theorem c12_110e : c12_110 = .region 36 r12_110 false := by kernel_rfl
theorem c12_111e : c12_111 = .cond (cdC c12_111) c12_112 c12_115 := by kernel_rfl
theorem c12_112e : c12_112 = .seq c12_113 c12_114 := by kernel_rfl
theorem c12_113e : c12_113 = .region 37 r12_113 false := by kernel_rfl
theorem c12_114e : c12_114 = .ret := by kernel_rfl
theorem c12_115e : c12_115 = .skip := by kernel_rfl
theorem c12_116e : c12_116 = .seq c12_117 c12_118 := by kernel_rfl
theorem c12_117e : c12_117 = .region 38 r12_117 false := by kernel_rfl
theorem c12_118e : c12_118 = .seq c12_119 c12_120 := by kernel_rfl
theorem c12_119e : c12_119 = .region 39 r12_119 false := by kernel_rfl
theorem c12_120e : c12_120 = .seq c12_121 c12_122 := by kernel_rfl
theorem c12_121e : c12_121 = .region 40 r12_121 false := by kernel_rfl
theorem c12_122e : c12_122 = .cond (cdC c12_122) c12_123 c12_126 := by kernel_rfl
theorem c12_123e : c12_123 = .seq c12_124 c12_125 := by kernel_rfl
theorem c12_124e : c12_124 = .region 41 r12_124 false := by kernel_rfl
theorem c12_125e : c12_125 = .ret := by kernel_rfl
theorem c12_126e : c12_126 = .skip := by kernel_rfl
theorem c12_127e : c12_127 = .region 42 r12_127 false := by kernel_rfl
theorem c12_128e : c12_128 = .seq c12_129 c12_130 := by kernel_rfl
theorem c12_129e : c12_129 = .region 43 r12_129 false := by kernel_rfl
theorem c12_130e : c12_130 = .ret := by kernel_rfl
noncomputable def tontinelaw21_ClientNumbers.R (A_2 : Option Addr) (c_3 : Nat) : Pst Bool where
  ε := Unit
  v := fun r x => .bool r
  H := fun r x => []
  B := fun r x => []
noncomputable def tontinelaw21_ClientNumbers.cx (A_2 : Option Addr) (c_3 : Nat) (w0 : World) (S0 : Fam) : Cx Bool := ⟨Try.prog, 12, Try.f12, 164, w0, S0, [], 0, tontinelaw21_ClientNumbers.R A_2 c_3⟩
theorem tontinelaw21_ClientNumbers_j0_ok (n : Nat) (calls_1 : (List T_tontinelaw21_Call)) (A_2 : Option Addr) (c_3 : Nat) (A_13 : Option Addr) (c_14 : Nat) (A_17 : Option Addr) (c_18 : Nat) (A_19 : Option Addr) (c_20 : Nat) (b_21 : Nat) (b_22 : Nat) (w0 : World) (S0 : Fam) (last_33 : Int) (f_34 : (List UInt8)) :
    GoO (tontinelaw21_ClientNumbers.cx A_2 c_3 w0 S0) [(3, .pointer none), (5, .map (mA A_13)), (6, vU last_33), (8, vP b_21), (9, vP b_22), (10, vI 1), (31, .slice A_2 calls_1.length c_3), (32, vI (calls_1.length : Int)), (33, vI 0)] [⟨42, b_21, [vI ((rdL calls_1 (0 : Int)).Kind), vI ((rdL calls_1 (0 : Int)).Command.Kind), vU ((rdL calls_1 (0 : Int)).Command.Session), vU ((rdL calls_1 (0 : Int)).Command.Seq), vU ((rdL calls_1 (0 : Int)).Command.Saga), .slice A_17 ((rdL calls_1 (0 : Int)).Command.Steps).length c_18, vI ((rdL calls_1 (0 : Int)).Command.Step), .bool ((rdL calls_1 (0 : Int)).Command.Back), vI ((rdL calls_1 (0 : Int)).Command.Try), .bool ((rdL calls_1 (0 : Int)).Command.Ok), vU ((rdL calls_1 (0 : Int)).Command.Now), vI ((rdL calls_1 (0 : Int)).Letter.Kind), vI ((rdL calls_1 (0 : Int)).Letter.From), vI ((rdL calls_1 (0 : Int)).Letter.To), vU ((rdL calls_1 (0 : Int)).Letter.Term), vU ((rdL calls_1 (0 : Int)).Letter.Index), vU ((rdL calls_1 (0 : Int)).Letter.Prev), vU ((rdL calls_1 (0 : Int)).Letter.Commit), .bool ((rdL calls_1 (0 : Int)).Letter.Ok), .slice A_19 ((rdL calls_1 (0 : Int)).Letter.Entries).length c_20, .string (bs f_34)]⟩, ⟨43, b_22, [vI 0, vI 0, vI 0, vU 0, vU 0, vU 0, vU 0, .bool false, .slice none ([] : List T_api_Entry).length 0, .string (bs [])]⟩] [Mp 41 ky107 (fun v : List UInt8 => .string (bs v)) A_13 c_14 ([] : List (T_tontinelaw21_one × (List UInt8))), Rd 0 kT_api_Step A_17 c_18 ((rdL calls_1 (0 : Int)).Command.Steps), Rd 0 kT_api_Entry A_19 c_20 ((rdL calls_1 (0 : Int)).Letter.Entries), Rd 0 kT_tontinelaw21_Call A_2 c_3 calls_1] [.code c12_72, .inBlock 2, .code c12_82, .inBlock 1, .code c12_127, .inLoop c12_29, .inBlock 0, .code c12_128] (tontinelaw21_ClientNumbers.j0 n last_33 f_34) := by
  unfold tontinelaw21_ClientNumbers.j0
  refine GoO.seq' c12_72e ?_
  refine GoO.region' (is := [0]) c12_73e (by kernel_rfl) ?_
  refine GoO.exec (is := [0]) (hs := [.p]) (rest := []) (ks := [3, 5, 6, 8, 9, 10, 31, 32, 33]) (env' := [(3, .pointer none), (5, .map (mA A_13)), (6, vU last_33), (8, vP b_21), (9, vP b_22), (10, vI 1), (31, .slice A_2 calls_1.length c_3), (32, vI (calls_1.length : Int)), (33, vI 0)]) (H' := [⟨42, b_21, [vI ((rdL calls_1 (0 : Int)).Kind), vI ((rdL calls_1 (0 : Int)).Command.Kind), vU ((rdL calls_1 (0 : Int)).Command.Session), vU ((rdL calls_1 (0 : Int)).Command.Seq), vU ((rdL calls_1 (0 : Int)).Command.Saga), .slice A_17 ((rdL calls_1 (0 : Int)).Command.Steps).length c_18, vI ((rdL calls_1 (0 : Int)).Command.Step), .bool ((rdL calls_1 (0 : Int)).Command.Back), vI ((rdL calls_1 (0 : Int)).Command.Try), .bool ((rdL calls_1 (0 : Int)).Command.Ok), vU ((rdL calls_1 (0 : Int)).Command.Now), vI ((rdL calls_1 (0 : Int)).Letter.Kind), vI ((rdL calls_1 (0 : Int)).Letter.From), vI ((rdL calls_1 (0 : Int)).Letter.To), vU ((rdL calls_1 (0 : Int)).Letter.Term), vU ((rdL calls_1 (0 : Int)).Letter.Index), vU ((rdL calls_1 (0 : Int)).Letter.Prev), vU ((rdL calls_1 (0 : Int)).Letter.Commit), .bool ((rdL calls_1 (0 : Int)).Letter.Ok), .slice A_19 ((rdL calls_1 (0 : Int)).Letter.Entries).length c_20, .string (bs f_34)]⟩, ⟨43, b_22, [vI 0, vI 0, vI 0, vU 0, vU 0, vU 0, vU 0, .bool false, .slice none ([] : List T_api_Entry).length 0, .string (bs [])]⟩]) (ps := []) (by kernel_rfl) trivial ?_
  refine GoO.regionEnd ?_
  refine GoO.seq' c12_74e ?_
  refine GoO.region' (is := [0, 1, 2, 3, 4, 5, 6, 7, 8, 9, 10]) c12_75e (by kernel_rfl) ?_
  refine GoO.exec (is := [0, 1, 2]) (hs := [.p, .p, .b 0]) (rest := [3, 4, 5, 6, 7, 8, 9, 10]) (ks := [3, 5, 6, 9, 10, 31, 32, 33, 87, 89]) (env' := [(3, .pointer none), (5, .map (mA A_13)), (6, vU last_33), (9, vP b_22), (10, vI 1), (31, .slice A_2 calls_1.length c_3), (32, vI (calls_1.length : Int)), (33, vI 0), (87, .pointer none), (89, .agg ⟨[vI ((rdL calls_1 (0 : Int)).Letter.Kind), vI ((rdL calls_1 (0 : Int)).Letter.From), vI ((rdL calls_1 (0 : Int)).Letter.To), vU ((rdL calls_1 (0 : Int)).Letter.Term), vU ((rdL calls_1 (0 : Int)).Letter.Index), vU ((rdL calls_1 (0 : Int)).Letter.Prev), vU ((rdL calls_1 (0 : Int)).Letter.Commit), .bool ((rdL calls_1 (0 : Int)).Letter.Ok), .slice A_19 ((rdL calls_1 (0 : Int)).Letter.Entries).length c_20, .string (bs f_34)]⟩)]) (H' := [⟨42, b_21, [vI ((rdL calls_1 (0 : Int)).Kind), vI ((rdL calls_1 (0 : Int)).Command.Kind), vU ((rdL calls_1 (0 : Int)).Command.Session), vU ((rdL calls_1 (0 : Int)).Command.Seq), vU ((rdL calls_1 (0 : Int)).Command.Saga), .slice A_17 ((rdL calls_1 (0 : Int)).Command.Steps).length c_18, vI ((rdL calls_1 (0 : Int)).Command.Step), .bool ((rdL calls_1 (0 : Int)).Command.Back), vI ((rdL calls_1 (0 : Int)).Command.Try), .bool ((rdL calls_1 (0 : Int)).Command.Ok), vU ((rdL calls_1 (0 : Int)).Command.Now), vI ((rdL calls_1 (0 : Int)).Letter.Kind), vI ((rdL calls_1 (0 : Int)).Letter.From), vI ((rdL calls_1 (0 : Int)).Letter.To), vU ((rdL calls_1 (0 : Int)).Letter.Term), vU ((rdL calls_1 (0 : Int)).Letter.Index), vU ((rdL calls_1 (0 : Int)).Letter.Prev), vU ((rdL calls_1 (0 : Int)).Letter.Commit), .bool ((rdL calls_1 (0 : Int)).Letter.Ok), .slice A_19 ((rdL calls_1 (0 : Int)).Letter.Entries).length c_20, .string (bs f_34)]⟩, ⟨43, b_22, [vI 0, vI 0, vI 0, vU 0, vU 0, vU 0, vU 0, .bool false, .slice none ([] : List T_api_Entry).length 0, .string (bs [])]⟩]) (ps := [b_21 = b_21]) (by kernel_rfl) (And.intro rfl trivial) ?_
  exact GoO.stop
theorem tontinelaw21_ClientNumbers_j1_ok (n : Nat) (calls_1 : (List T_tontinelaw21_Call)) (r_27 : T_api_Reply × Int) (A_2 : Option Addr) (c_3 : Nat) (A_13 : Option Addr) (c_14 : Nat) (A_17 : Option Addr) (c_18 : Nat) (A_19 : Option Addr) (c_20 : Nat) (b_21 : Nat) (b_22 : Nat) (b_28 : Nat) (w0 : World) (S0 : Fam) (b_30 : Bool) :
    GoO (tontinelaw21_ClientNumbers.cx A_2 c_3 w0 S0) [(3, .pointer none), (5, .map (mA A_13)), (6, vU 0), (8, vP b_21), (9, vP b_22), (10, vI 1), (11, vP b_28), (31, .slice A_2 calls_1.length c_3), (32, vI (calls_1.length : Int)), (33, vI 0), (77, .bool b_30)] [⟨42, b_21, [vI ((rdL calls_1 (0 : Int)).Kind), vI ((rdL calls_1 (0 : Int)).Command.Kind), vU ((rdL calls_1 (0 : Int)).Command.Session), vU ((rdL calls_1 (0 : Int)).Command.Seq), vU ((rdL calls_1 (0 : Int)).Command.Saga), .slice A_17 ((rdL calls_1 (0 : Int)).Command.Steps).length c_18, vI ((rdL calls_1 (0 : Int)).Command.Step), .bool ((rdL calls_1 (0 : Int)).Command.Back), vI ((rdL calls_1 (0 : Int)).Command.Try), .bool ((rdL calls_1 (0 : Int)).Command.Ok), vU ((rdL calls_1 (0 : Int)).Command.Now), vI ((rdL calls_1 (0 : Int)).Letter.Kind), vI ((rdL calls_1 (0 : Int)).Letter.From), vI ((rdL calls_1 (0 : Int)).Letter.To), vU ((rdL calls_1 (0 : Int)).Letter.Term), vU ((rdL calls_1 (0 : Int)).Letter.Index), vU ((rdL calls_1 (0 : Int)).Letter.Prev), vU ((rdL calls_1 (0 : Int)).Letter.Commit), .bool ((rdL calls_1 (0 : Int)).Letter.Ok), .slice A_19 ((rdL calls_1 (0 : Int)).Letter.Entries).length c_20, .string (bs ((rdL calls_1 (0 : Int)).Letter.Data))]⟩, ⟨43, b_22, [vI 0, vI 0, vI 0, vU 0, vU 0, vU 0, vU 0, .bool false, .slice none ([] : List T_api_Entry).length 0, .string (bs [])]⟩, ⟨44, b_28, [vI r_27.1.Err, vU r_27.1.Num, vU r_27.1.Extra]⟩] [Mp 41 ky107 (fun v : List UInt8 => .string (bs v)) A_13 c_14 ([] : List (T_tontinelaw21_one × (List UInt8))), Rd 0 kT_api_Step A_17 c_18 ((rdL calls_1 (0 : Int)).Command.Steps), Rd 0 kT_api_Entry A_19 c_20 ((rdL calls_1 (0 : Int)).Letter.Entries), Rd 0 kT_tontinelaw21_Call A_2 c_3 calls_1] [.code c12_64, .code c12_72, .inBlock 2, .code c12_82, .inBlock 1, .code c12_127, .inLoop c12_29, .inBlock 0, .code c12_128] (tontinelaw21_ClientNumbers.j1 n calls_1 r_27 b_30) := by
  unfold tontinelaw21_ClientNumbers.j1
  refine GoO.ite' c12_64e (by kernel_rfl) (fun h31 => ?_) (fun h31 => ?_)
  · refine GoO.seq' c12_65e ?_
    refine GoO.region' (is := [0, 1, 2]) c12_66e (by kernel_rfl) ?_
    refine GoO.exec (is := [0, 1, 2]) (hs := [.p, .p, .p]) (rest := []) (ks := [3, 5, 6, 8, 9, 10, 11, 31, 32, 33]) (env' := [(3, .pointer none), (5, .map (mA A_13)), (6, vU 1), (8, vP b_21), (9, vP b_22), (10, vI 1), (11, vP b_28), (31, .slice A_2 calls_1.length c_3), (32, vI (calls_1.length : Int)), (33, vI 0)]) (H' := [⟨42, b_21, [vI ((rdL calls_1 (0 : Int)).Kind), vI ((rdL calls_1 (0 : Int)).Command.Kind), vU ((rdL calls_1 (0 : Int)).Command.Session), vU ((rdL calls_1 (0 : Int)).Command.Seq), vU ((rdL calls_1 (0 : Int)).Command.Saga), .slice A_17 ((rdL calls_1 (0 : Int)).Command.Steps).length c_18, vI ((rdL calls_1 (0 : Int)).Command.Step), .bool ((rdL calls_1 (0 : Int)).Command.Back), vI ((rdL calls_1 (0 : Int)).Command.Try), .bool ((rdL calls_1 (0 : Int)).Command.Ok), vU ((rdL calls_1 (0 : Int)).Command.Now), vI ((rdL calls_1 (0 : Int)).Letter.Kind), vI ((rdL calls_1 (0 : Int)).Letter.From), vI ((rdL calls_1 (0 : Int)).Letter.To), vU ((rdL calls_1 (0 : Int)).Letter.Term), vU ((rdL calls_1 (0 : Int)).Letter.Index), vU ((rdL calls_1 (0 : Int)).Letter.Prev), vU ((rdL calls_1 (0 : Int)).Letter.Commit), .bool ((rdL calls_1 (0 : Int)).Letter.Ok), .slice A_19 ((rdL calls_1 (0 : Int)).Letter.Entries).length c_20, .string (bs ((rdL calls_1 (0 : Int)).Letter.Data))]⟩, ⟨43, b_22, [vI 0, vI 0, vI 0, vU 0, vU 0, vU 0, vU 0, .bool false, .slice none ([] : List T_api_Entry).length 0, .string (bs [])]⟩, ⟨44, b_28, [vI r_27.1.Err, vU r_27.1.Num, vU r_27.1.Extra]⟩]) (ps := []) (by kernel_rfl) trivial ?_
    refine GoO.regionEnd ?_
    refine GoO.seq' c12_67e ?_
    refine GoO.region' (is := [0, 1, 2]) c12_68e (by kernel_rfl) ?_
    refine GoO.exec (is := [0, 1, 2]) (hs := [.p, .p, .b 2]) (rest := []) (ks := [3, 5, 6, 8, 9, 10, 11, 31, 32, 33]) (env' := [(3, .pointer none), (5, .map (mA A_13)), (6, vU 1), (8, vP b_21), (9, vP b_22), (10, vI 1), (11, vP b_28), (31, .slice A_2 calls_1.length c_3), (32, vI (calls_1.length : Int)), (33, vI 0)]) (H' := [⟨42, b_21, [vI ((rdL calls_1 (0 : Int)).Kind), vI ((rdL calls_1 (0 : Int)).Command.Kind), vU ((rdL calls_1 (0 : Int)).Command.Session), vU ((rdL calls_1 (0 : Int)).Command.Seq), vU ((rdL calls_1 (0 : Int)).Command.Saga), .slice A_17 ((rdL calls_1 (0 : Int)).Command.Steps).length c_18, vI ((rdL calls_1 (0 : Int)).Command.Step), .bool ((rdL calls_1 (0 : Int)).Command.Back), vI ((rdL calls_1 (0 : Int)).Command.Try), .bool ((rdL calls_1 (0 : Int)).Command.Ok), vU ((rdL calls_1 (0 : Int)).Command.Now), vI ((rdL calls_1 (0 : Int)).Letter.Kind), vI ((rdL calls_1 (0 : Int)).Letter.From), vI ((rdL calls_1 (0 : Int)).Letter.To), vU ((rdL calls_1 (0 : Int)).Letter.Term), vU ((rdL calls_1 (0 : Int)).Letter.Index), vU ((rdL calls_1 (0 : Int)).Letter.Prev), vU ((rdL calls_1 (0 : Int)).Letter.Commit), .bool ((rdL calls_1 (0 : Int)).Letter.Ok), .slice A_19 ((rdL calls_1 (0 : Int)).Letter.Entries).length c_20, .string (bs ((rdL calls_1 (0 : Int)).Letter.Data))]⟩, ⟨43, b_22, [vI 0, vI 0, vI 0, vU 0, vU 0, vU 0, vU 0, .bool false, .slice none ([] : List T_api_Entry).length 0, .string (bs [])]⟩, ⟨44, b_28, [vI r_27.1.Err, vU 1, vU r_27.1.Extra]⟩]) (ps := [b_28 = b_28]) (by kernel_rfl) (And.intro rfl trivial) ?_
    refine GoO.regionEnd ?_
    refine GoO.region' (is := [0, 1, 2, 3, 4]) c12_69e (by kernel_rfl) ?_
    refine GoO.exec (is := [0]) (hs := [.b 2]) (rest := [1, 2, 3, 4]) (ks := [3, 5, 6, 8, 9, 10, 31, 32, 33, 82]) (env' := [(3, .pointer none), (5, .map (mA A_13)), (6, vU 1), (8, vP b_21), (9, vP b_22), (10, vI 1), (31, .slice A_2 calls_1.length c_3), (32, vI (calls_1.length : Int)), (33, vI 0), (82, .agg ⟨[vI r_27.1.Err, vU 1, vU r_27.1.Extra]⟩)]) (H' := [⟨42, b_21, [vI ((rdL calls_1 (0 : Int)).Kind), vI ((rdL calls_1 (0 : Int)).Command.Kind), vU ((rdL calls_1 (0 : Int)).Command.Session), vU ((rdL calls_1 (0 : Int)).Command.Seq), vU ((rdL calls_1 (0 : Int)).Command.Saga), .slice A_17 ((rdL calls_1 (0 : Int)).Command.Steps).length c_18, vI ((rdL calls_1 (0 : Int)).Command.Step), .bool ((rdL calls_1 (0 : Int)).Command.Back), vI ((rdL calls_1 (0 : Int)).Command.Try), .bool ((rdL calls_1 (0 : Int)).Command.Ok), vU ((rdL calls_1 (0 : Int)).Command.Now), vI ((rdL calls_1 (0 : Int)).Letter.Kind), vI ((rdL calls_1 (0 : Int)).Letter.From), vI ((rdL calls_1 (0 : Int)).Letter.To), vU ((rdL calls_1 (0 : Int)).Letter.Term), vU ((rdL calls_1 (0 : Int)).Letter.Index), vU ((rdL calls_1 (0 : Int)).Letter.Prev), vU ((rdL calls_1 (0 : Int)).Letter.Commit), .bool ((rdL calls_1 (0 : Int)).Letter.Ok), .slice A_19 ((rdL calls_1 (0 : Int)).Letter.Entries).length c_20, .string (bs ((rdL calls_1 (0 : Int)).Letter.Data))]⟩, ⟨43, b_22, [vI 0, vI 0, vI 0, vU 0, vU 0, vU 0, vU 0, .bool false, .slice none ([] : List T_api_Entry).length 0, .string (bs [])]⟩, ⟨44, b_28, [vI r_27.1.Err, vU 1, vU r_27.1.Extra]⟩]) (ps := [b_28 = b_28]) (by kernel_rfl) (And.intro rfl trivial) ?_
    refine OpTo.go (GoO.call rfl (by kernel_rfl) (by kernel_rfl) (tontineref16_Answer_ok n (⟨r_27.1.Err, 1, r_27.1.Extra⟩ : T_api_Reply)) [[0]] [] [] [] (hks := [0, 1, 2]) (bks := [0, 1, 2, 3]) (by kernel_rfl) (by kernel_rfl) (by kernel_rfl) (.inl rfl) rfl rfl (by kernel_rfl) (by kernel_rfl) _ (fun _ _ => rfl) _ _ (fun _ _ => rfl) (fun _ _ => rfl) (fun _ _ => by kernel_rfl) (fun _ _ => by kernel_rfl) (fun r_32 x_33 => ?_))
    refine GoO.shape (env' := [(3, .pointer none), (5, .map (mA A_13)), (6, vU 1), (8, vP b_21), (9, vP b_22), (10, vI 1), (31, .slice A_2 calls_1.length c_3), (32, vI (calls_1.length : Int)), (33, vI 0), (82, .agg ⟨[vI r_27.1.Err, vU 1, vU r_27.1.Extra]⟩), (83, .string (bs r_32))]) (H' := [⟨42, b_21, [vI ((rdL calls_1 (0 : Int)).Kind), vI ((rdL calls_1 (0 : Int)).Command.Kind), vU ((rdL calls_1 (0 : Int)).Command.Session), vU ((rdL calls_1 (0 : Int)).Command.Seq), vU ((rdL calls_1 (0 : Int)).Command.Saga), .slice A_17 ((rdL calls_1 (0 : Int)).Command.Steps).length c_18, vI ((rdL calls_1 (0 : Int)).Command.Step), .bool ((rdL calls_1 (0 : Int)).Command.Back), vI ((rdL calls_1 (0 : Int)).Command.Try), .bool ((rdL calls_1 (0 : Int)).Command.Ok), vU ((rdL calls_1 (0 : Int)).Command.Now), vI ((rdL calls_1 (0 : Int)).Letter.Kind), vI ((rdL calls_1 (0 : Int)).Letter.From), vI ((rdL calls_1 (0 : Int)).Letter.To), vU ((rdL calls_1 (0 : Int)).Letter.Term), vU ((rdL calls_1 (0 : Int)).Letter.Index), vU ((rdL calls_1 (0 : Int)).Letter.Prev), vU ((rdL calls_1 (0 : Int)).Letter.Commit), .bool ((rdL calls_1 (0 : Int)).Letter.Ok), .slice A_19 ((rdL calls_1 (0 : Int)).Letter.Entries).length c_20, .string (bs ((rdL calls_1 (0 : Int)).Letter.Data))]⟩, ⟨43, b_22, [vI 0, vI 0, vI 0, vU 0, vU 0, vU 0, vU 0, .bool false, .slice none ([] : List T_api_Entry).length 0, .string (bs [])]⟩, ⟨44, b_28, [vI r_27.1.Err, vU 1, vU r_27.1.Extra]⟩]) (B' := [Mp 41 ky107 (fun v : List UInt8 => .string (bs v)) A_13 c_14 ([] : List (T_tontinelaw21_one × (List UInt8))), Rd 0 kT_api_Step A_17 c_18 ((rdL calls_1 (0 : Int)).Command.Steps), Rd 0 kT_api_Entry A_19 c_20 ((rdL calls_1 (0 : Int)).Letter.Entries), Rd 0 kT_tontinelaw21_Call A_2 c_3 calls_1]) (ks := [3, 5, 6, 8, 9, 10, 31, 32, 33, 82, 83]) (by kernel_rfl) (by kernel_rfl) (by kernel_rfl) ?_
    refine GoO.exec (is := [2, 3, 4]) (hs := [.p, .p, .b 0]) (rest := []) (ks := [3, 5, 6, 8, 9, 10, 31, 32, 33]) (env' := [(3, .pointer none), (5, .map (mA A_13)), (6, vU 1), (8, vP b_21), (9, vP b_22), (10, vI 1), (31, .slice A_2 calls_1.length c_3), (32, vI (calls_1.length : Int)), (33, vI 0)]) (H' := [⟨42, b_21, [vI ((rdL calls_1 (0 : Int)).Kind), vI ((rdL calls_1 (0 : Int)).Command.Kind), vU ((rdL calls_1 (0 : Int)).Command.Session), vU ((rdL calls_1 (0 : Int)).Command.Seq), vU ((rdL calls_1 (0 : Int)).Command.Saga), .slice A_17 ((rdL calls_1 (0 : Int)).Command.Steps).length c_18, vI ((rdL calls_1 (0 : Int)).Command.Step), .bool ((rdL calls_1 (0 : Int)).Command.Back), vI ((rdL calls_1 (0 : Int)).Command.Try), .bool ((rdL calls_1 (0 : Int)).Command.Ok), vU ((rdL calls_1 (0 : Int)).Command.Now), vI ((rdL calls_1 (0 : Int)).Letter.Kind), vI ((rdL calls_1 (0 : Int)).Letter.From), vI ((rdL calls_1 (0 : Int)).Letter.To), vU ((rdL calls_1 (0 : Int)).Letter.Term), vU ((rdL calls_1 (0 : Int)).Letter.Index), vU ((rdL calls_1 (0 : Int)).Letter.Prev), vU ((rdL calls_1 (0 : Int)).Letter.Commit), .bool ((rdL calls_1 (0 : Int)).Letter.Ok), .slice A_19 ((rdL calls_1 (0 : Int)).Letter.Entries).length c_20, .string (bs r_32)]⟩, ⟨43, b_22, [vI 0, vI 0, vI 0, vU 0, vU 0, vU 0, vU 0, .bool false, .slice none ([] : List T_api_Entry).length 0, .string (bs [])]⟩, ⟨44, b_28, [vI r_27.1.Err, vU 1, vU r_27.1.Extra]⟩]) (ps := [b_21 = b_21]) (by kernel_rfl) (And.intro rfl trivial) ?_
    refine GoO.regionEnd ?_
    exact GoO.sub (ks := [3, 5, 6, 8, 9, 10, 31, 32, 33]) (hk := [0, 1]) (bk := [0, 1, 2, 3]) (by kernel_rfl) (by kernel_rfl) (by kernel_rfl) (tontinelaw21_ClientNumbers_j0_ok n calls_1 A_2 c_3 A_13 c_14 A_17 c_18 A_19 c_20 b_21 b_22 w0 S0 1 r_32)
  · refine GoO.skip' c12_70e ?_
    exact GoO.sub (ks := [3, 5, 6, 8, 9, 10, 31, 32, 33]) (hk := [0, 1]) (bk := [0, 1, 2, 3]) (by kernel_rfl) (by kernel_rfl) (by kernel_rfl) (tontinelaw21_ClientNumbers_j0_ok n calls_1 A_2 c_3 A_13 c_14 A_17 c_18 A_19 c_20 b_21 b_22 w0 S0 0 ((rdL calls_1 (0 : Int)).Letter.Data))
end Go.GL
