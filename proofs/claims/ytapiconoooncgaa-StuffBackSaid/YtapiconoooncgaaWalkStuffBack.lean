import Derived.Test.YtapiconoooncgaaKindsT1
import Derived.Test.YtapiconoooncgaaProg
set_option linter.unusedVariables false
set_option linter.unusedSimpArgs false
set_option maxRecDepth 100000
namespace Go.GL
open Go Go.Proofs

/-! tontine/stuff.Decode -/
noncomputable def c22_0 : Code := bodyOf Try.f22
noncomputable def c22_1 : Code := cdL c22_0
noncomputable def c22_2 : Code := cdR c22_0
noncomputable def c22_3 : Code := cdL c22_2
noncomputable def c22_4 : Code := cdR c22_2
noncomputable def c22_5 : Code := cdL c22_4
noncomputable def c22_6 : Code := cdL c22_5
noncomputable def c22_7 : Code := cdL c22_6
noncomputable def c22_8 : Code := cdL c22_7
noncomputable def c22_9 : Code := cdL c22_8
noncomputable def c22_10 : Code := cdR c22_8
noncomputable def c22_11 : Code := cdL c22_10
noncomputable def c22_12 : Code := cdR c22_10
noncomputable def c22_13 : Code := cdR c22_7
noncomputable def c22_14 : Code := cdL c22_13
noncomputable def c22_15 : Code := cdL c22_14
noncomputable def c22_16 : Code := cdR c22_14
noncomputable def c22_17 : Code := cdL c22_16
noncomputable def c22_18 : Code := cdL c22_17
noncomputable def c22_19 : Code := cdR c22_17
noncomputable def c22_20 : Code := cdL c22_19
noncomputable def c22_21 : Code := cdL c22_20
noncomputable def c22_22 : Code := cdR c22_20
noncomputable def c22_23 : Code := cdR c22_19
noncomputable def c22_24 : Code := cdR c22_16
noncomputable def c22_25 : Code := cdL c22_24
noncomputable def c22_26 : Code := cdL c22_25
noncomputable def c22_27 : Code := cdR c22_25
noncomputable def c22_28 : Code := cdL c22_27
noncomputable def c22_29 : Code := cdL c22_28
noncomputable def c22_30 : Code := cdL c22_29
noncomputable def c22_31 : Code := cdR c22_29
noncomputable def c22_32 : Code := cdL c22_31
noncomputable def c22_33 : Code := cdL c22_32
noncomputable def c22_34 : Code := cdR c22_32
noncomputable def c22_35 : Code := cdR c22_31
noncomputable def c22_36 : Code := cdL c22_35
noncomputable def c22_37 : Code := cdL c22_36
noncomputable def c22_38 : Code := cdL c22_37
noncomputable def c22_39 : Code := cdR c22_37
noncomputable def c22_40 : Code := cdL c22_39
noncomputable def c22_41 : Code := cdL c22_40
noncomputable def c22_42 : Code := cdR c22_40
noncomputable def c22_43 : Code := cdL c22_42
noncomputable def c22_44 : Code := cdL c22_43
noncomputable def c22_45 : Code := cdR c22_43
noncomputable def c22_46 : Code := cdR c22_42
noncomputable def c22_47 : Code := cdR c22_39
noncomputable def c22_48 : Code := cdR c22_35
noncomputable def c22_49 : Code := cdR c22_24
noncomputable def c22_50 : Code := cdL c22_49
noncomputable def c22_51 : Code := cdR c22_49
noncomputable def c22_52 : Code := cdL c22_51
noncomputable def c22_53 : Code := cdL c22_52
noncomputable def c22_54 : Code := cdR c22_52
noncomputable def c22_55 : Code := cdL c22_54
noncomputable def c22_56 : Code := cdL c22_55
noncomputable def c22_57 : Code := cdL c22_56
noncomputable def c22_58 : Code := cdR c22_56
noncomputable def c22_59 : Code := cdL c22_58
noncomputable def c22_60 : Code := cdL c22_59
noncomputable def c22_61 : Code := cdR c22_59
noncomputable def c22_62 : Code := cdR c22_58
noncomputable def c22_63 : Code := cdR c22_55
noncomputable def c22_64 : Code := cdL c22_63
noncomputable def c22_65 : Code := cdR c22_63
noncomputable def c22_66 : Code := cdR c22_54
noncomputable def c22_67 : Code := cdR c22_51
noncomputable def c22_68 : Code := cdL c22_67
noncomputable def c22_69 : Code := cdR c22_67
noncomputable def c22_70 : Code := cdL c22_69
noncomputable def c22_71 : Code := cdR c22_69
noncomputable def c22_72 : Code := cdR c22_4
noncomputable def c22_73 : Code := cdL c22_72
noncomputable def c22_74 : Code := cdR c22_72
noncomputable def r22_1 : Array Oper := cdO c22_1
noncomputable def r22_3 : Array Oper := cdO c22_3
noncomputable def r22_9 : Array Oper := cdO c22_9
noncomputable def r22_15 : Array Oper := cdO c22_15
noncomputable def r22_18 : Array Oper := cdO c22_18
noncomputable def r22_21 : Array Oper := cdO c22_21
noncomputable def r22_26 : Array Oper := cdO c22_26
noncomputable def r22_30 : Array Oper := cdO c22_30
noncomputable def r22_38 : Array Oper := cdO c22_38
noncomputable def r22_41 : Array Oper := cdO c22_41
noncomputable def r22_44 : Array Oper := cdO c22_44
noncomputable def r22_47 : Array Oper := cdO c22_47
noncomputable def r22_48 : Array Oper := cdO c22_48
noncomputable def r22_50 : Array Oper := cdO c22_50
noncomputable def r22_53 : Array Oper := cdO c22_53
noncomputable def r22_57 : Array Oper := cdO c22_57
noncomputable def r22_60 : Array Oper := cdO c22_60
noncomputable def r22_64 : Array Oper := cdO c22_64
noncomputable def r22_68 : Array Oper := cdO c22_68
noncomputable def r22_70 : Array Oper := cdO c22_70
noncomputable def r22_73 : Array Oper := cdO c22_73
theorem c22_0e : c22_0 = .seq c22_1 c22_2 := by kernel_rfl
theorem c22_1e : c22_1 = .region 0 r22_1 false := by kernel_rfl
theorem c22_2e : c22_2 = .seq c22_3 c22_4 := by kernel_rfl
theorem c22_3e : c22_3 = .region 1 r22_3 false := by kernel_rfl
theorem c22_4e : c22_4 = .seq c22_5 c22_72 := by kernel_rfl
theorem c22_5e : c22_5 = .block 0 c22_6 := by kernel_rfl
theorem c22_6e : c22_6 = .loop c22_7 := by kernel_rfl
theorem c22_7e : c22_7 = .seq c22_8 c22_13 := by kernel_rfl
theorem c22_8e : c22_8 = .seq c22_9 c22_10 := by kernel_rfl
theorem c22_9e : c22_9 = .region 2 r22_9 false := by kernel_rfl
theorem c22_10e : c22_10 = .cond (cdC c22_10) c22_11 c22_12 := by kernel_rfl
theorem c22_11e : c22_11 = .skip := by kernel_rfl
theorem c22_12e : c22_12 = .exit 0 := by kernel_rfl
theorem c22_13e : c22_13 = .block 1 c22_14 := by kernel_rfl
theorem c22_14e : c22_14 = .seq c22_15 c22_16 := by kernel_rfl
theorem c22_15e : c22_15 = .region 3 r22_15 false := by kernel_rfl
theorem c22_16e : c22_16 = .seq c22_17 c22_24 := by kernel_rfl
theorem c22_17e : c22_17 = .seq c22_18 c22_19 := by kernel_rfl
theorem c22_18e : c22_18 = .region 4 r22_18 false := by kernel_rfl
theorem c22_19e : c22_19 = .cond (cdC c22_19) c22_20 c22_23 := by kernel_rfl
theorem c22_20e : c22_20 = .seq c22_21 c22_22 := by kernel_rfl
theorem c22_21e : c22_21 = .region 5 r22_21 false := by kernel_rfl
theorem c22_22e : c22_22 = .ret := by kernel_rfl
theorem c22_23e : c22_23 = .skip := by kernel_rfl
theorem c22_24e : c22_24 = .seq c22_25 c22_49 := by kernel_rfl
theorem c22_25e : c22_25 = .seq c22_26 c22_27 := by kernel_rfl
theorem c22_26e : c22_26 = .region 6 r22_26 false := by kernel_rfl
theorem c22_27e : c22_27 = .block 2 c22_28 := by kernel_rfl
theorem c22_28e : c22_28 = .loop c22_29 := by kernel_rfl
theorem c22_29e : c22_29 = .seq c22_30 c22_31 := by kernel_rfl
theorem c22_30e : c22_30 = .region 7 r22_30 false := by kernel_rfl
theorem c22_31e : c22_31 = .seq c22_32 c22_35 := by kernel_rfl
theorem c22_32e : c22_32 = .cond (cdC c22_32) c22_33 c22_34 := by kernel_rfl
theorem c22_33e : c22_33 = .skip := by kernel_rfl
theorem c22_34e : c22_34 = .exit 2 := by kernel_rfl
theorem c22_35e : c22_35 = .seq c22_36 c22_48 := by kernel_rfl
theorem c22_36e : c22_36 = .block 3 c22_37 := by kernel_rfl
theorem c22_37e : c22_37 = .seq c22_38 c22_39 := by kernel_rfl
theorem c22_38e : c22_38 = .region 8 r22_38 false := by kernel_rfl
theorem c22_39e : c22_39 = .seq c22_40 c22_47 := by kernel_rfl
theorem c22_40e : c22_40 = .seq c22_41 c22_42 := by kernel_rfl
theorem c22_41e : c22_41 = .region 9 r22_41 false := by kernel_rfl
theorem c22_42e : c22_42 = .cond (cdC c22_42) c22_43 c22_46 := by kernel_rfl
theorem c22_43e : c22_43 = .seq c22_44 c22_45 := by kernel_rfl
theorem c22_44e : c22_44 = .region 10 r22_44 false := by kernel_rfl
theorem c22_45e : c22_45 = .ret := by kernel_rfl
theorem c22_46e : c22_46 = .skip := by kernel_rfl
theorem c22_47e : c22_47 = .region 11 r22_47 false := by kernel_rfl
theorem c22_48e : c22_48 = .region 12 r22_48 false := by kernel_rfl
theorem c22_49e : c22_49 = .seq c22_50 c22_51 := by kernel_rfl
theorem c22_50e : c22_50 = .region 13 r22_50 false := by kernel_rfl
theorem c22_51e : c22_51 = .seq c22_52 c22_67 := by kernel_rfl
theorem c22_52e : c22_52 = .seq c22_53 c22_54 := by kernel_rfl
theorem c22_53e : c22_53 = .region 14 r22_53 false := by kernel_rfl
theorem c22_54e : c22_54 = .cond (cdC c22_54) c22_55 c22_66 := by kernel_rfl
theorem c22_55e : c22_55 = .seq c22_56 c22_63 := by kernel_rfl
theorem c22_56e : c22_56 = .seq c22_57 c22_58 := by kernel_rfl
theorem c22_57e : c22_57 = .region 15 r22_57 false := by kernel_rfl
theorem c22_58e : c22_58 = .cond (cdC c22_58) c22_59 c22_62 := by kernel_rfl
theorem c22_59e : c22_59 = .seq c22_60 c22_61 := by kernel_rfl
theorem c22_60e : c22_60 = .region 16 r22_60 false := by kernel_rfl
theorem c22_61e : c22_61 = .ret := by kernel_rfl
theorem c22_62e : c22_62 = .skip := by kernel_rfl
theorem c22_63e : c22_63 = .seq c22_64 c22_65 := by kernel_rfl
theorem c22_64e : c22_64 = .region 17 r22_64 false := by kernel_rfl
theorem c22_65e : c22_65 = .ret := by kernel_rfl
theorem c22_66e : c22_66 = .skip := by kernel_rfl
theorem c22_67e : c22_67 = .seq c22_68 c22_69 := by kernel_rfl
theorem c22_68e : c22_68 = .region 18 r22_68 false := by kernel_rfl
theorem c22_69e : c22_69 = .cond (cdC c22_69) c22_70 c22_71 := by kernel_rfl
theorem c22_70e : c22_70 = .region 19 r22_70 false := by kernel_rfl
theorem c22_71e : c22_71 = .skip := by kernel_rfl
theorem c22_72e : c22_72 = .seq c22_73 c22_74 := by kernel_rfl
theorem c22_73e : c22_73 = .region 20 r22_73 false := by kernel_rfl
theorem c22_74e : c22_74 = .ret := by kernel_rfl
noncomputable def stuff_Decode.R (A_2 : Option Addr) (c_3 : Nat) : Pst ((List UInt8) × Int) where
  ε := Option Addr × Nat
  v := fun r x => .tuple ⟨[.slice x.1 r.1.length x.2, .int .i64 r.2]⟩
  H := fun r x => []
  B := fun r x => [Ow 1 Kd.u8 x.1 x.2 r.1]
noncomputable def stuff_Decode.cx (A_2 : Option Addr) (c_3 : Nat) (w0 : World) (S0 : Fam) : Cx ((List UInt8) × Int) := ⟨Try.prog, 22, Try.f22, 52, w0, S0, [], 0, stuff_Decode.R A_2 c_3⟩
theorem stuff_Decode_l1_ok (n : Nat) (L0 : (List UInt8) → (List UInt8) → Option ((List UInt8) × Int)) (b_4 : (List UInt8)) (out_7 : (List UInt8)) (A_2 : Option Addr) (c_3 : Nat) (A_5 : Option Addr) (c_6 : Nat) (A_8 : Option Addr) (c_9 : Nat) (A_15 : Option Addr) (c_16 : Nat) (w0 : World) (S0 : Fam) (ih0 : ∀ (b_4 : (List UInt8)) (out_7 : (List UInt8)) (A_5 : Option Addr) (c_6 : Nat) (A_8 : Option Addr) (c_9 : Nat), GoO (stuff_Decode.cx A_2 c_3 w0 S0) [(0, .slice A_5 b_4.length c_6), (4, .slice A_8 out_7.length c_9)] [] [Rd 0 Kd.u8 A_5 c_6 b_4, Ow 41 Kd.u8 A_8 c_9 out_7] [.code c22_7, .inLoop c22_7, .inBlock 0, .code c22_72] (L0 b_4 out_7)) :
    ∀ (k : Nat) (out_18 : (List UInt8)) (x_21 : Int) (A_19 : Option Addr) (c_20 : Nat), GoO (stuff_Decode.cx A_2 c_3 w0 S0) [(0, .slice A_5 b_4.length c_6), (4, .slice A_19 out_18.length c_20), (5, .int .i64 (wi64 (((rdL b_4 (0 : Int))).toNat : Int))), (25, .slice A_15 ((b_4.take (wi64 (((rdL b_4 (0 : Int))).toNat : Int)).toNat).drop (1 : Int).toNat).length c_16), (26, .int .i64 (((b_4.take (wi64 (((rdL b_4 (0 : Int))).toNat : Int)).toNat).drop (1 : Int).toNat).length : Int)), (27, .int .i64 x_21)] [] [Rd 0 Kd.u8 A_5 c_6 b_4, Ow 41 Kd.u8 A_19 c_20 out_18, Rd 0 Kd.u8 A_15 c_16 ((b_4.take (wi64 (((rdL b_4 (0 : Int))).toNat : Int)).toNat).drop (1 : Int).toNat)] [.code c22_29, .inLoop c22_29, .inBlock 2, .code c22_49, .inBlock 1, .inLoop c22_7, .inBlock 0, .code c22_72] (stuff_Decode.l1 n L0 b_4 k out_18 x_21) := by
  intro k
  induction k with
  | zero => intros; rw [stuff_Decode.l1.eq_1]; exact GoO.stop
  | succ k ih1 =>
    intro out_18 x_21 A_19 c_20
    rw [stuff_Decode.l1.eq_2]
    refine GoO.seq' c22_29e ?_
    refine GoO.region' (is := [0]) c22_30e (by kernel_rfl) ?_
    refine GoO.exec (is := [0]) (hs := [.p]) (rest := []) (ks := [0, 4, 5, 25, 26, 27, 28]) (env' := [(0, .slice A_5 b_4.length c_6), (4, .slice A_19 out_18.length c_20), (5, .int .i64 (wi64 (((rdL b_4 (0 : Int))).toNat : Int))), (25, .slice A_15 ((b_4.take (wi64 (((rdL b_4 (0 : Int))).toNat : Int)).toNat).drop (1 : Int).toNat).length c_16), (26, .int .i64 (((b_4.take (wi64 (((rdL b_4 (0 : Int))).toNat : Int)).toNat).drop (1 : Int).toNat).length : Int)), (27, .int .i64 x_21), (28, .bool (decide (x_21 < (((b_4.take (wi64 (((rdL b_4 (0 : Int))).toNat : Int)).toNat).drop (1 : Int).toNat).length : Int))))]) (H' := []) (ps := []) (by kernel_rfl) trivial ?_
    refine GoO.regionEnd ?_
    refine GoO.seq' c22_31e ?_
    refine GoO.ite' c22_32e (by kernel_rfl) (fun h22 => ?_) (fun h22 => ?_)
    · refine GoO.skip' c22_33e ?_
      refine GoO.seq' c22_35e ?_
      refine GoO.block' c22_36e ?_
      refine GoO.seq' c22_37e ?_
      refine GoO.region' (is := [0, 1, 2]) c22_38e (by kernel_rfl) ?_
      refine GoO.guard (fun h23 => ?_)
      refine OpTo.go (GoO.idx (kk := .i64) (e := 5) (K := Kd.u8) (A := A_15) (c := c_16) (xs := (b_4.take (wi64 (((rdL b_4 (0 : Int))).toNat : Int)).toNat).drop (1 : Int).toNat) (iv := x_21) (j := 2) rfl (by kernel_rfl) (by kernel_rfl) (by kernel_rfl) (by kernel_rfl) rfl Reads.rd rfl h23.1 h23.2 (by decide) rfl ?_)
      refine OpTo.go (GoO.ldE' (K := Kd.u8) (A := A_15) (c := c_16) (xs := (b_4.take (wi64 (((rdL b_4 (0 : Int))).toNat : Int)).toNat).drop (1 : Int).toNat) (iN := x_21.toNat) (off := 0) (j := 2) rfl (by kernel_rfl) rfl Reads.rd (idx_lt h23.1 h23.2) (by decide) (Opn.flat _ _ _ _ _) (v := fun _ => .int .u8 (((rdL ((b_4.take (wi64 (((rdL b_4 (0 : Int))).toNat : Int)).toNat).drop (1 : Int).toNat) x_21)).toNat : Int)) (fun _ => by kernel_rfl) _ (fun _ => rfl) (fun _ => ?_))
      refine GoO.exec (is := [2]) (hs := [.p]) (rest := []) (ks := [0, 4, 5, 7, 25, 26, 27]) (env' := [(0, .slice A_5 b_4.length c_6), (4, .slice A_19 out_18.length c_20), (5, .int .i64 (wi64 (((rdL b_4 (0 : Int))).toNat : Int))), (7, .int .u8 (((rdL ((b_4.take (wi64 (((rdL b_4 (0 : Int))).toNat : Int)).toNat).drop (1 : Int).toNat) x_21)).toNat : Int)), (25, .slice A_15 ((b_4.take (wi64 (((rdL b_4 (0 : Int))).toNat : Int)).toNat).drop (1 : Int).toNat).length c_16), (26, .int .i64 (((b_4.take (wi64 (((rdL b_4 (0 : Int))).toNat : Int)).toNat).drop (1 : Int).toNat).length : Int)), (27, .int .i64 x_21)]) (H' := []) (ps := []) (by kernel_rfl) trivial ?_
      refine GoO.regionEnd ?_
      refine GoO.seq' c22_39e ?_
      refine GoO.seq' c22_40e ?_
      refine GoO.region' (is := [0, 1]) c22_41e (by kernel_rfl) ?_
      refine GoO.exec (is := [0, 1]) (hs := [.p, .p]) (rest := []) (ks := [0, 4, 5, 7, 25, 26, 27, 32]) (env' := [(0, .slice A_5 b_4.length c_6), (4, .slice A_19 out_18.length c_20), (5, .int .i64 (wi64 (((rdL b_4 (0 : Int))).toNat : Int))), (7, .int .u8 (((rdL ((b_4.take (wi64 (((rdL b_4 (0 : Int))).toNat : Int)).toNat).drop (1 : Int).toNat) x_21)).toNat : Int)), (25, .slice A_15 ((b_4.take (wi64 (((rdL b_4 (0 : Int))).toNat : Int)).toNat).drop (1 : Int).toNat).length c_16), (26, .int .i64 (((b_4.take (wi64 (((rdL b_4 (0 : Int))).toNat : Int)).toNat).drop (1 : Int).toNat).length : Int)), (27, .int .i64 x_21), (32, .bool ((((rdL ((b_4.take (wi64 (((rdL b_4 (0 : Int))).toNat : Int)).toNat).drop (1 : Int).toNat) x_21)).toNat : Int) == 0))]) (H' := []) (ps := []) (by kernel_rfl) trivial ?_
      refine GoO.regionEnd ?_
      refine GoO.ite' c22_42e (by kernel_rfl) (fun h24 => ?_) (fun h24 => ?_)
      · refine GoO.seq' c22_43e ?_
        refine GoO.region' (is := [0, 1]) c22_44e (by kernel_rfl) ?_
        refine GoO.exec (is := [0, 1]) (hs := [.p, .p]) (rest := []) (ks := [2, 3]) (env' := [(2, .slice none ([] : List UInt8).length 0), (3, .int .i64 2)]) (H' := []) (ps := []) (by kernel_rfl) trivial ?_
        refine GoO.regionEnd ?_
        refine GoO.nilOwn Kd.u8 1 ?_
        exact GoO.ret' (h := c22_45e) (hs := []) (ps := []) (hk := []) (bk := [0]) Try.func22 (⟨none, 0⟩ : Option Addr × Nat) (by kernel_rfl) trivial (by kernel_rfl) (by kernel_rfl)
      · refine GoO.skip' c22_46e ?_
        refine GoO.region' (is := [0, 1, 2, 3, 4]) c22_47e (by kernel_rfl) ?_
        refine GoO.exec (is := [0, 1]) (hs := [.p, .p]) (rest := [2, 3, 4]) (ks := [0, 5, 25, 26, 27, 33, 34]) (env' := [(0, .slice A_5 b_4.length c_6), (5, .int .i64 (wi64 (((rdL b_4 (0 : Int))).toNat : Int))), (25, .slice A_15 ((b_4.take (wi64 (((rdL b_4 (0 : Int))).toNat : Int)).toNat).drop (1 : Int).toNat).length c_16), (26, .int .i64 (((b_4.take (wi64 (((rdL b_4 (0 : Int))).toNat : Int)).toNat).drop (1 : Int).toNat).length : Int)), (27, .int .i64 x_21), (33, .slice A_19 out_18.length c_20), (34, .int .u8 (((rdL ((b_4.take (wi64 (((rdL b_4 (0 : Int))).toNat : Int)).toNat).drop (1 : Int).toNat) x_21)).toNat : Int))]) (H' := []) (ps := []) (by kernel_rfl) trivial ?_
        refine OpTo.go (GoO.lit (e := 5) (K := Kd.u8) rfl (by kernel_rfl) (by kernel_rfl) (cs := [.int .u8 (((rdL ((b_4.take (wi64 (((rdL b_4 (0 : Int))).toNat : Int)).toNat).drop (1 : Int).toNat) x_21)).toNat : Int)]) (by kernel_rfl) [(rdL ((b_4.take (wi64 (((rdL b_4 (0 : Int))).toNat : Int)).toNat).drop (1 : Int).toNat) x_21)] (by kernel_rfl) (by kernel_rfl) (fun w S hB => ⟨[.int .u8 (((rdL ((b_4.take (wi64 (((rdL b_4 (0 : Int))).toNat : Int)).toNat).drop (1 : Int).toNat) x_21)).toNat : Int)], _, rfl, rfl, rfl⟩) 40 _ (fun _ _ => rfl) (fun A_25 c_26 => ?_))
        refine GoO.guard (fun h27 => ?_)
        refine OpTo.go (GoO.appW (e := 5) (K := Kd.u8) (A := A_19) (c := c_20) (tg := 41) (bytes := 1) (zs := [.int .u8 0]) (xs := out_18) (ys := [(rdL ((b_4.take (wi64 (((rdL b_4 (0 : Int))).toNat : Int)).toNat).drop (1 : Int).toNat) x_21)]) (xv := .slice A_25 [(rdL ((b_4.take (wi64 (((rdL b_4 (0 : Int))).toNat : Int)).toNat).drop (1 : Int).toNat) x_21)].length c_26) (j := 2) (bk := [0, 1, 3]) rfl (by kernel_rfl) (by kernel_rfl) (by kernel_rfl) (by kernel_rfl) rfl (by kernel_rfl) rfl (fun w S hB => SrcIs.row (Reads.own w S (hB _ (List.mem_of_getElem? (i := 0) rfl)))) h27 rfl rfl rfl rfl _ (fun _ _ => rfl) (fun A_28 c_29 => ?_))
        refine GoO.exec (is := [4]) (hs := [.p]) (rest := []) (ks := [0, 4, 5, 25, 26, 27]) (env' := [(0, .slice A_5 b_4.length c_6), (4, .slice A_28 (out_18 ++ [(rdL ((b_4.take (wi64 (((rdL b_4 (0 : Int))).toNat : Int)).toNat).drop (1 : Int).toNat) x_21)]).length c_29), (5, .int .i64 (wi64 (((rdL b_4 (0 : Int))).toNat : Int))), (25, .slice A_15 ((b_4.take (wi64 (((rdL b_4 (0 : Int))).toNat : Int)).toNat).drop (1 : Int).toNat).length c_16), (26, .int .i64 (((b_4.take (wi64 (((rdL b_4 (0 : Int))).toNat : Int)).toNat).drop (1 : Int).toNat).length : Int)), (27, .int .i64 x_21)]) (H' := []) (ps := []) (by kernel_rfl) trivial ?_
        refine GoO.regionEnd ?_
        refine GoO.inBlock ?_
        refine GoO.region' (is := [0, 1]) c22_48e (by kernel_rfl) ?_
        refine GoO.exec (is := [0, 1]) (hs := [.p, .p]) (rest := []) (ks := [0, 4, 5, 25, 26, 27]) (env' := [(0, .slice A_5 b_4.length c_6), (4, .slice A_28 (out_18 ++ [(rdL ((b_4.take (wi64 (((rdL b_4 (0 : Int))).toNat : Int)).toNat).drop (1 : Int).toNat) x_21)]).length c_29), (5, .int .i64 (wi64 (((rdL b_4 (0 : Int))).toNat : Int))), (25, .slice A_15 ((b_4.take (wi64 (((rdL b_4 (0 : Int))).toNat : Int)).toNat).drop (1 : Int).toNat).length c_16), (26, .int .i64 (((b_4.take (wi64 (((rdL b_4 (0 : Int))).toNat : Int)).toNat).drop (1 : Int).toNat).length : Int)), (27, .int .i64 (wi64 (x_21 + 1)))]) (H' := []) (ps := []) (by kernel_rfl) trivial ?_
        refine GoO.regionEnd ?_
        refine GoO.inLoop ?_
        exact GoO.sub (ks := [0, 4, 5, 25, 26, 27]) (hk := []) (bk := [2, 0, 3]) (by kernel_rfl) (by kernel_rfl) (by kernel_rfl) (ih1 (out_18 ++ [(rdL ((b_4.take (wi64 (((rdL b_4 (0 : Int))).toNat : Int)).toNat).drop (1 : Int).toNat) x_21)]) (wi64 (x_21 + 1)) A_28 c_29)
    · refine GoO.exit' c22_34e rfl ?_
      refine GoO.seq' c22_49e ?_
      refine GoO.region' (is := [0, 1, 2, 3]) c22_50e (by kernel_rfl) ?_
      refine GoO.exec (is := [0, 1]) (hs := [.p, .p]) (rest := [2, 3]) (ks := [4, 5, 38, 39]) (env' := [(4, .slice A_19 out_18.length c_20), (5, .int .i64 (wi64 (((rdL b_4 (0 : Int))).toNat : Int))), (38, .slice A_5 b_4.length c_6), (39, .int .i64 (wi64 (((rdL b_4 (0 : Int))).toNat : Int)))]) (H' := []) (ps := []) (by kernel_rfl) trivial ?_
      refine GoO.guard (fun h32 => ?_)
      refine OpTo.go (GoO.slc (e := 5) (K := Kd.u8) (A := A_5) (c := c_6) (xs := b_4) (j := 0) (l := (wi64 (((rdL b_4 (0 : Int))).toNat : Int))) (h := (b_4.length : Int)) rfl (by kernel_rfl) (by kernel_rfl) (by kernel_rfl) rfl Reads.rd rfl (by kernel_rfl) (by kernel_rfl) h32.1 h32.2.1 h32.2.2 _ (fun _ _ => rfl) (fun A_30 c_31 => ?_))
      refine GoO.exec (is := [3]) (hs := [.p]) (rest := []) (ks := [0, 4, 5]) (env' := [(0, .slice A_30 ((b_4.take (b_4.length : Int).toNat).drop (wi64 (((rdL b_4 (0 : Int))).toNat : Int)).toNat).length c_31), (4, .slice A_19 out_18.length c_20), (5, .int .i64 (wi64 (((rdL b_4 (0 : Int))).toNat : Int)))]) (H' := []) (ps := []) (by kernel_rfl) trivial ?_
      refine GoO.regionEnd ?_
      refine GoO.seq' c22_51e ?_
      refine GoO.seq' c22_52e ?_
      refine GoO.region' (is := [0, 1, 2]) c22_53e (by kernel_rfl) ?_
      refine GoO.exec (is := [0, 1, 2]) (hs := [.p, .p, .p]) (rest := []) (ks := [0, 4, 5, 43]) (env' := [(0, .slice A_30 ((b_4.take (b_4.length : Int).toNat).drop (wi64 (((rdL b_4 (0 : Int))).toNat : Int)).toNat).length c_31), (4, .slice A_19 out_18.length c_20), (5, .int .i64 (wi64 (((rdL b_4 (0 : Int))).toNat : Int))), (43, .bool ((((b_4.take (b_4.length : Int).toNat).drop (wi64 (((rdL b_4 (0 : Int))).toNat : Int)).toNat).length : Int) == 0))]) (H' := []) (ps := []) (by kernel_rfl) trivial ?_
      refine GoO.regionEnd ?_
      refine GoO.ite' c22_54e (by kernel_rfl) (fun h33 => ?_) (fun h33 => ?_)
      · refine GoO.seq' c22_55e ?_
        refine GoO.seq' c22_56e ?_
        refine GoO.region' (is := [0, 1]) c22_57e (by kernel_rfl) ?_
        refine GoO.exec (is := [0, 1]) (hs := [.p, .p]) (rest := []) (ks := [4, 45]) (env' := [(4, .slice A_19 out_18.length c_20), (45, .bool ((wi64 (((rdL b_4 (0 : Int))).toNat : Int)) == 255))]) (H' := []) (ps := []) (by kernel_rfl) trivial ?_
        refine GoO.regionEnd ?_
        refine GoO.ite' c22_58e (by kernel_rfl) (fun h34 => ?_) (fun h34 => ?_)
        · refine GoO.seq' c22_59e ?_
          refine GoO.region' (is := [0, 1]) c22_60e (by kernel_rfl) ?_
          refine GoO.exec (is := [0, 1]) (hs := [.p, .p]) (rest := []) (ks := [2, 3]) (env' := [(2, .slice none ([] : List UInt8).length 0), (3, .int .i64 2)]) (H' := []) (ps := []) (by kernel_rfl) trivial ?_
          refine GoO.regionEnd ?_
          refine GoO.nilOwn Kd.u8 1 ?_
          exact GoO.ret' (h := c22_61e) (hs := []) (ps := []) (hk := []) (bk := [0]) Try.func22 (⟨none, 0⟩ : Option Addr × Nat) (by kernel_rfl) trivial (by kernel_rfl) (by kernel_rfl)
        · refine GoO.skip' c22_62e ?_
          refine GoO.seq' c22_63e ?_
          refine GoO.region' (is := [0, 1, 2]) c22_64e (by kernel_rfl) ?_
          refine GoO.exec (is := [0, 1, 2]) (hs := [.p, .p, .p]) (rest := []) (ks := [2, 3]) (env' := [(2, .slice A_19 out_18.length c_20), (3, .int .i64 0)]) (H' := []) (ps := []) (by kernel_rfl) trivial ?_
          refine GoO.regionEnd ?_
          refine GoO.retag (t := 41) (u := 1) (j := 2) (hk := []) (bk := [0, 1, 3]) rfl rfl rfl rfl rfl rfl (by kernel_rfl) (by kernel_rfl) ?_
          exact GoO.ret' (h := c22_65e) (hs := []) (ps := []) (hk := []) (bk := [0]) Try.func22 (⟨A_19, c_20⟩ : Option Addr × Nat) (by kernel_rfl) trivial (by kernel_rfl) (by kernel_rfl)
      · refine GoO.skip' c22_66e ?_
        refine GoO.seq' c22_67e ?_
        refine GoO.region' (is := [0, 1]) c22_68e (by kernel_rfl) ?_
        refine GoO.exec (is := [0, 1]) (hs := [.p, .p]) (rest := []) (ks := [0, 4, 48]) (env' := [(0, .slice A_30 ((b_4.take (b_4.length : Int).toNat).drop (wi64 (((rdL b_4 (0 : Int))).toNat : Int)).toNat).length c_31), (4, .slice A_19 out_18.length c_20), (48, .bool (decide ((wi64 (((rdL b_4 (0 : Int))).toNat : Int)) < 255)))]) (H' := []) (ps := []) (by kernel_rfl) trivial ?_
        refine GoO.regionEnd ?_
        refine GoO.ite' c22_69e (by kernel_rfl) (fun h35 => ?_) (fun h35 => ?_)
        · refine GoO.region' (is := [0, 1, 2, 3]) c22_70e (by kernel_rfl) ?_
          refine GoO.exec (is := [0]) (hs := [.p]) (rest := [1, 2, 3]) (ks := [0, 49]) (env' := [(0, .slice A_30 ((b_4.take (b_4.length : Int).toNat).drop (wi64 (((rdL b_4 (0 : Int))).toNat : Int)).toNat).length c_31), (49, .slice A_19 out_18.length c_20)]) (H' := []) (ps := []) (by kernel_rfl) trivial ?_
          refine OpTo.go (GoO.lit (e := 5) (K := Kd.u8) rfl (by kernel_rfl) (by kernel_rfl) (cs := [.int .u8 0]) (by kernel_rfl) [(0 : UInt8)] (by kernel_rfl) (by kernel_rfl) (fun w S hB => ⟨[.int .u8 0], _, rfl, rfl, rfl⟩) 42 _ (fun _ _ => rfl) (fun A_36 c_37 => ?_))
          refine GoO.guard (fun h38 => ?_)
          refine OpTo.go (GoO.appW (e := 5) (K := Kd.u8) (A := A_19) (c := c_20) (tg := 41) (bytes := 1) (zs := [.int .u8 0]) (xs := out_18) (ys := [(0 : UInt8)]) (xv := .slice A_36 [(0 : UInt8)].length c_37) (j := 3) (bk := [0, 1, 2, 4]) rfl (by kernel_rfl) (by kernel_rfl) (by kernel_rfl) (by kernel_rfl) rfl (by kernel_rfl) rfl (fun w S hB => SrcIs.row (Reads.own w S (hB _ (List.mem_of_getElem? (i := 0) rfl)))) h38 rfl rfl rfl rfl _ (fun _ _ => rfl) (fun A_39 c_40 => ?_))
          refine GoO.exec (is := [3]) (hs := [.p]) (rest := []) (ks := [0, 4]) (env' := [(0, .slice A_30 ((b_4.take (b_4.length : Int).toNat).drop (wi64 (((rdL b_4 (0 : Int))).toNat : Int)).toNat).length c_31), (4, .slice A_39 (out_18 ++ [(0 : UInt8)]).length c_40)]) (H' := []) (ps := []) (by kernel_rfl) trivial ?_
          refine GoO.regionEnd ?_
          refine GoO.inBlock ?_
          refine GoO.inLoop ?_
          exact GoO.sub (ks := [0, 4]) (hk := []) (bk := [2, 0]) (by kernel_rfl) (by kernel_rfl) (by kernel_rfl) (ih0 ((b_4.take (b_4.length : Int).toNat).drop (wi64 (((rdL b_4 (0 : Int))).toNat : Int)).toNat) (out_18 ++ [(0 : UInt8)]) A_30 c_31 A_39 c_40)
        · refine GoO.skip' c22_71e ?_
          refine GoO.inBlock ?_
          refine GoO.inLoop ?_
          exact GoO.sub (ks := [0, 4]) (hk := []) (bk := [0, 2]) (by kernel_rfl) (by kernel_rfl) (by kernel_rfl) (ih0 ((b_4.take (b_4.length : Int).toNat).drop (wi64 (((rdL b_4 (0 : Int))).toNat : Int)).toNat) out_18 A_30 c_31 A_19 c_20)
theorem stuff_Decode_j0_ok (n : Nat) (L0 : (List UInt8) → (List UInt8) → Option ((List UInt8) × Int)) (b_4 : (List UInt8)) (out_7 : (List UInt8)) (A_2 : Option Addr) (c_3 : Nat) (A_5 : Option Addr) (c_6 : Nat) (A_8 : Option Addr) (c_9 : Nat) (w0 : World) (S0 : Fam) (ih0 : ∀ (b_4 : (List UInt8)) (out_7 : (List UInt8)) (A_5 : Option Addr) (c_6 : Nat) (A_8 : Option Addr) (c_9 : Nat), GoO (stuff_Decode.cx A_2 c_3 w0 S0) [(0, .slice A_5 b_4.length c_6), (4, .slice A_8 out_7.length c_9)] [] [Rd 0 Kd.u8 A_5 c_6 b_4, Ow 41 Kd.u8 A_8 c_9 out_7] [.code c22_7, .inLoop c22_7, .inBlock 0, .code c22_72] (L0 b_4 out_7)) (b_13 : Bool) :
    GoO (stuff_Decode.cx A_2 c_3 w0 S0) [(0, .slice A_5 b_4.length c_6), (4, .slice A_8 out_7.length c_9), (5, .int .i64 (wi64 (((rdL b_4 (0 : Int))).toNat : Int))), (22, .bool b_13)] [] [Rd 0 Kd.u8 A_5 c_6 b_4, Ow 41 Kd.u8 A_8 c_9 out_7] [.code c22_19, .code c22_24, .inBlock 1, .inLoop c22_7, .inBlock 0, .code c22_72] (stuff_Decode.j0 n L0 b_4 out_7 b_13) := by
  unfold stuff_Decode.j0
  refine GoO.ite' c22_19e (by kernel_rfl) (fun h14 => ?_) (fun h14 => ?_)
  · refine GoO.seq' c22_20e ?_
    refine GoO.region' (is := [0, 1]) c22_21e (by kernel_rfl) ?_
    refine GoO.exec (is := [0, 1]) (hs := [.p, .p]) (rest := []) (ks := [2, 3]) (env' := [(2, .slice none ([] : List UInt8).length 0), (3, .int .i64 2)]) (H' := []) (ps := []) (by kernel_rfl) trivial ?_
    refine GoO.regionEnd ?_
    refine GoO.nilOwn Kd.u8 1 ?_
    exact GoO.ret' (h := c22_22e) (hs := []) (ps := []) (hk := []) (bk := [0]) Try.func22 (⟨none, 0⟩ : Option Addr × Nat) (by kernel_rfl) trivial (by kernel_rfl) (by kernel_rfl)
  · refine GoO.skip' c22_23e ?_
    refine GoO.seq' c22_24e ?_
    refine GoO.seq' c22_25e ?_
    refine GoO.region' (is := [0, 1, 2, 3, 4]) c22_26e (by kernel_rfl) ?_
    refine GoO.exec (is := [0, 1]) (hs := [.p, .p]) (rest := [2, 3, 4]) (ks := [0, 4, 5, 23, 24]) (env' := [(0, .slice A_5 b_4.length c_6), (4, .slice A_8 out_7.length c_9), (5, .int .i64 (wi64 (((rdL b_4 (0 : Int))).toNat : Int))), (23, .slice A_5 b_4.length c_6), (24, .int .i64 (wi64 (((rdL b_4 (0 : Int))).toNat : Int)))]) (H' := []) (ps := []) (by kernel_rfl) trivial ?_
    refine GoO.guard (fun h17 => ?_)
    refine OpTo.go (GoO.slc (e := 5) (K := Kd.u8) (A := A_5) (c := c_6) (xs := b_4) (j := 0) (l := (1 : Int)) (h := (wi64 (((rdL b_4 (0 : Int))).toNat : Int))) rfl (by kernel_rfl) (by kernel_rfl) (by kernel_rfl) rfl Reads.rd rfl (by kernel_rfl) (by kernel_rfl) h17.1 h17.2.1 h17.2.2 _ (fun _ _ => rfl) (fun A_15 c_16 => ?_))
    refine GoO.exec (is := [3, 4]) (hs := [.p, .p]) (rest := []) (ks := [0, 4, 5, 25, 26, 27]) (env' := [(0, .slice A_5 b_4.length c_6), (4, .slice A_8 out_7.length c_9), (5, .int .i64 (wi64 (((rdL b_4 (0 : Int))).toNat : Int))), (25, .slice A_15 ((b_4.take (wi64 (((rdL b_4 (0 : Int))).toNat : Int)).toNat).drop (1 : Int).toNat).length c_16), (26, .int .i64 (((b_4.take (wi64 (((rdL b_4 (0 : Int))).toNat : Int)).toNat).drop (1 : Int).toNat).length : Int)), (27, .int .i64 0)]) (H' := []) (ps := []) (by kernel_rfl) trivial ?_
    refine GoO.regionEnd ?_
    refine GoO.block' c22_27e ?_
    refine GoO.loop' c22_28e ?_
    exact GoO.sub (ks := [0, 4, 5, 25, 26, 27]) (hk := []) (bk := [1, 2, 0]) (by kernel_rfl) (by kernel_rfl) (by kernel_rfl) (stuff_Decode_l1_ok n L0 b_4 out_7 A_2 c_3 A_5 c_6 A_8 c_9 A_15 c_16 w0 S0 ih0 n out_7 0 A_8 c_9)
theorem stuff_Decode_l0_ok (n : Nat) (A_2 : Option Addr) (c_3 : Nat) (w0 : World) (S0 : Fam) :
    ∀ (k : Nat) (b_4 : (List UInt8)) (out_7 : (List UInt8)) (A_5 : Option Addr) (c_6 : Nat) (A_8 : Option Addr) (c_9 : Nat), GoO (stuff_Decode.cx A_2 c_3 w0 S0) [(0, .slice A_5 b_4.length c_6), (4, .slice A_8 out_7.length c_9)] [] [Rd 0 Kd.u8 A_5 c_6 b_4, Ow 41 Kd.u8 A_8 c_9 out_7] [.code c22_7, .inLoop c22_7, .inBlock 0, .code c22_72] (stuff_Decode.l0 n k b_4 out_7) := by
  intro k
  induction k with
  | zero => intros; rw [stuff_Decode.l0.eq_1]; exact GoO.stop
  | succ k ih0 =>
    intro b_4 out_7 A_5 c_6 A_8 c_9
    rw [stuff_Decode.l0.eq_2]
    refine GoO.seq' c22_7e ?_
    refine GoO.seq' c22_8e ?_
    refine GoO.region' (is := [0, 1, 2]) c22_9e (by kernel_rfl) ?_
    refine GoO.exec (is := [0, 1, 2]) (hs := [.p, .p, .p]) (rest := []) (ks := [0, 4, 10]) (env' := [(0, .slice A_5 b_4.length c_6), (4, .slice A_8 out_7.length c_9), (10, .bool (decide ((b_4.length : Int) > 0)))]) (H' := []) (ps := []) (by kernel_rfl) trivial ?_
    refine GoO.regionEnd ?_
    refine GoO.ite' c22_10e (by kernel_rfl) (fun h10 => ?_) (fun h10 => ?_)
    · refine GoO.skip' c22_11e ?_
      refine GoO.block' c22_13e ?_
      refine GoO.seq' c22_14e ?_
      refine GoO.region' (is := [0, 1, 2, 3, 4]) c22_15e (by kernel_rfl) ?_
      refine GoO.exec (is := [0]) (hs := [.p]) (rest := [1, 2, 3, 4]) (ks := [0, 4, 11]) (env' := [(0, .slice A_5 b_4.length c_6), (4, .slice A_8 out_7.length c_9), (11, .slice A_5 b_4.length c_6)]) (H' := []) (ps := []) (by kernel_rfl) trivial ?_
      refine GoO.guard (fun h11 => ?_)
      refine OpTo.go (GoO.idx (kk := .i64) (e := 5) (K := Kd.u8) (A := A_5) (c := c_6) (xs := b_4) (iv := 0) (j := 0) rfl (by kernel_rfl) (by kernel_rfl) (by kernel_rfl) (by kernel_rfl) rfl Reads.rd rfl h11.1 h11.2 (by decide) rfl ?_)
      refine OpTo.go (GoO.ldE' (K := Kd.u8) (A := A_5) (c := c_6) (xs := b_4) (iN := (0 : Int).toNat) (off := 0) (j := 0) rfl (by kernel_rfl) rfl Reads.rd (idx_lt h11.1 h11.2) (by decide) (Opn.flat _ _ _ _ _) (v := fun _ => .int .u8 (((rdL b_4 (0 : Int))).toNat : Int)) (fun _ => by kernel_rfl) _ (fun _ => rfl) (fun _ => ?_))
      refine GoO.exec (is := [3, 4]) (hs := [.p, .p]) (rest := []) (ks := [0, 4, 5]) (env' := [(0, .slice A_5 b_4.length c_6), (4, .slice A_8 out_7.length c_9), (5, .int .i64 (wi64 (((rdL b_4 (0 : Int))).toNat : Int)))]) (H' := []) (ps := []) (by kernel_rfl) trivial ?_
      refine GoO.regionEnd ?_
      refine GoO.seq' c22_16e ?_
      refine GoO.seq' c22_17e ?_
      refine GoO.region' (is := [0, 1, 2, 3, 4, 5, 6, 7]) c22_18e (by kernel_rfl) ?_
      refine GoO.exec (is := [0, 1, 2]) (hs := [.p, .p, .p]) (rest := [3, 4, 5, 6, 7]) (ks := [0, 4, 5, 17]) (env' := [(0, .slice A_5 b_4.length c_6), (4, .slice A_8 out_7.length c_9), (5, .int .i64 (wi64 (((rdL b_4 (0 : Int))).toNat : Int))), (17, .bool ((wi64 (((rdL b_4 (0 : Int))).toNat : Int)) == 0))]) (H' := []) (ps := []) (by kernel_rfl) trivial ?_
      refine GoO.bsplit (t := 17) (by kernel_rfl) (fun h12 => ?_) (fun h12 => ?_)
      · refine GoO.exec (is := [3, 4, 5, 6, 7]) (hs := [.p, .p, .p, .p, .p]) (rest := []) (ks := [0, 4, 5, 22]) (env' := [(0, .slice A_5 b_4.length c_6), (4, .slice A_8 out_7.length c_9), (5, .int .i64 (wi64 (((rdL b_4 (0 : Int))).toNat : Int))), (22, .bool true)]) (H' := []) (ps := []) (by kernel_rfl) trivial ?_
        refine GoO.regionEnd ?_
        exact GoO.sub (ks := [0, 4, 5, 22]) (hk := []) (bk := [0, 1]) (by kernel_rfl) (by kernel_rfl) (by kernel_rfl) (stuff_Decode_j0_ok n (stuff_Decode.l0 n k) b_4 out_7 A_2 c_3 A_5 c_6 A_8 c_9 w0 S0 ih0 true)
      · refine GoO.exec (is := [3, 4, 5, 6, 7]) (hs := [.p, .p, .p, .p, .p]) (rest := []) (ks := [0, 4, 5, 22]) (env' := [(0, .slice A_5 b_4.length c_6), (4, .slice A_8 out_7.length c_9), (5, .int .i64 (wi64 (((rdL b_4 (0 : Int))).toNat : Int))), (22, .bool (decide ((wi64 (((rdL b_4 (0 : Int))).toNat : Int)) > (b_4.length : Int))))]) (H' := []) (ps := []) (by kernel_rfl) trivial ?_
        refine GoO.regionEnd ?_
        exact GoO.sub (ks := [0, 4, 5, 22]) (hk := []) (bk := [0, 1]) (by kernel_rfl) (by kernel_rfl) (by kernel_rfl) (stuff_Decode_j0_ok n (stuff_Decode.l0 n k) b_4 out_7 A_2 c_3 A_5 c_6 A_8 c_9 w0 S0 ih0 (decide ((wi64 (((rdL b_4 (0 : Int))).toNat : Int)) > (b_4.length : Int))))
    · refine GoO.exit' c22_12e rfl ?_
      refine GoO.seq' c22_72e ?_
      refine GoO.region' (is := [0, 1]) c22_73e (by kernel_rfl) ?_
      refine GoO.exec (is := [0, 1]) (hs := [.p, .p]) (rest := []) (ks := [2, 3]) (env' := [(2, .slice none ([] : List UInt8).length 0), (3, .int .i64 2)]) (H' := []) (ps := []) (by kernel_rfl) trivial ?_
      refine GoO.regionEnd ?_
      refine GoO.nilOwn Kd.u8 1 ?_
      exact GoO.ret' (h := c22_74e) (hs := []) (ps := []) (hk := []) (bk := [0]) Try.func22 (⟨none, 0⟩ : Option Addr × Nat) (by kernel_rfl) trivial (by kernel_rfl) (by kernel_rfl)
theorem stuff_Decode_ok (n : Nat) (b_1 : (List UInt8)) (A_2 : Option Addr) (c_3 : Nat) :
    Meets Try.prog 22 [.slice A_2 b_1.length c_3] 0 [] [] [Rd 0 Kd.u8 A_2 c_3 b_1] (stuff_Decode.f n b_1) (stuff_Decode.R A_2 c_3) := by
  refine Meets.of (c := c22_0) (n := 52) Try.func22 (by kernel_rfl) (by kernel_rfl) (by kernel_rfl) fun w0 S0 => ?_
  unfold stuff_Decode.f
  show GoO (stuff_Decode.cx A_2 c_3 w0 S0) [(0, .slice A_2 b_1.length c_3)] [] [Rd 0 Kd.u8 A_2 c_3 b_1] [.code c22_0] _
  refine GoO.seq' c22_0e ?_
  refine GoO.region' (is := [0, 1]) c22_1e (by kernel_rfl) ?_
  refine GoO.exec (is := [0, 1]) (hs := [.p, .p]) (rest := []) (ks := [0]) (env' := [(0, .slice A_2 b_1.length c_3)]) (H' := []) (ps := []) (by kernel_rfl) trivial ?_
  refine GoO.regionEnd ?_
  refine GoO.seq' c22_2e ?_
  refine GoO.region' (is := [0]) c22_3e (by kernel_rfl) ?_
  refine GoO.exec (is := [0]) (hs := [.p]) (rest := []) (ks := [0, 4]) (env' := [(0, .slice A_2 b_1.length c_3), (4, .slice none ([] : List UInt8).length 0)]) (H' := []) (ps := []) (by kernel_rfl) trivial ?_
  refine GoO.regionEnd ?_
  refine GoO.seq' c22_4e ?_
  refine GoO.block' c22_5e ?_
  refine GoO.loop' c22_6e ?_
  refine GoO.nilOwn Kd.u8 41 ?_
  exact GoO.sub (ks := [0, 4]) (hk := []) (bk := [1, 0]) (by kernel_rfl) (by kernel_rfl) (by kernel_rfl) (stuff_Decode_l0_ok n A_2 c_3 w0 S0 n b_1 ([] : List UInt8) A_2 c_3 none 0)

/-! tontine/stuff.Encode -/
noncomputable def c20_0 : Code := bodyOf Try.f20
noncomputable def c20_1 : Code := cdL c20_0
noncomputable def c20_2 : Code := cdR c20_0
noncomputable def c20_3 : Code := cdL c20_2
noncomputable def c20_4 : Code := cdR c20_2
noncomputable def c20_5 : Code := cdL c20_4
noncomputable def c20_6 : Code := cdR c20_4
noncomputable def c20_7 : Code := cdL c20_6
noncomputable def c20_8 : Code := cdL c20_7
noncomputable def c20_9 : Code := cdR c20_7
noncomputable def c20_10 : Code := cdL c20_9
noncomputable def c20_11 : Code := cdL c20_10
noncomputable def c20_12 : Code := cdL c20_11
noncomputable def c20_13 : Code := cdR c20_11
noncomputable def c20_14 : Code := cdL c20_13
noncomputable def c20_15 : Code := cdL c20_14
noncomputable def c20_16 : Code := cdR c20_14
noncomputable def c20_17 : Code := cdR c20_13
noncomputable def c20_18 : Code := cdL c20_17
noncomputable def c20_19 : Code := cdL c20_18
noncomputable def c20_20 : Code := cdL c20_19
noncomputable def c20_21 : Code := cdR c20_19
noncomputable def c20_22 : Code := cdL c20_21
noncomputable def c20_23 : Code := cdL c20_22
noncomputable def c20_24 : Code := cdR c20_22
noncomputable def c20_25 : Code := cdL c20_24
noncomputable def c20_26 : Code := cdR c20_24
noncomputable def c20_27 : Code := cdR c20_21
noncomputable def c20_28 : Code := cdL c20_27
noncomputable def c20_29 : Code := cdR c20_27
noncomputable def c20_30 : Code := cdL c20_29
noncomputable def c20_31 : Code := cdL c20_30
noncomputable def c20_32 : Code := cdR c20_30
noncomputable def c20_33 : Code := cdL c20_32
noncomputable def c20_34 : Code := cdR c20_32
noncomputable def c20_35 : Code := cdR c20_29
noncomputable def c20_36 : Code := cdR c20_17
noncomputable def c20_37 : Code := cdR c20_6
noncomputable def c20_38 : Code := cdL c20_37
noncomputable def c20_39 : Code := cdR c20_37
noncomputable def c20_40 : Code := cdL c20_39
noncomputable def c20_41 : Code := cdR c20_39
noncomputable def r20_1 : Array Oper := cdO c20_1
noncomputable def r20_3 : Array Oper := cdO c20_3
noncomputable def r20_5 : Array Oper := cdO c20_5
noncomputable def r20_8 : Array Oper := cdO c20_8
noncomputable def r20_12 : Array Oper := cdO c20_12
noncomputable def r20_20 : Array Oper := cdO c20_20
noncomputable def r20_23 : Array Oper := cdO c20_23
noncomputable def r20_25 : Array Oper := cdO c20_25
noncomputable def r20_28 : Array Oper := cdO c20_28
noncomputable def r20_31 : Array Oper := cdO c20_31
noncomputable def r20_33 : Array Oper := cdO c20_33
noncomputable def r20_34 : Array Oper := cdO c20_34
noncomputable def r20_36 : Array Oper := cdO c20_36
noncomputable def r20_38 : Array Oper := cdO c20_38
noncomputable def r20_40 : Array Oper := cdO c20_40
theorem c20_0e : c20_0 = .seq c20_1 c20_2 := by kernel_rfl
theorem c20_1e : c20_1 = .region 0 r20_1 false := by kernel_rfl
theorem c20_2e : c20_2 = .seq c20_3 c20_4 := by kernel_rfl
theorem c20_3e : c20_3 = .region 1 r20_3 false := by kernel_rfl
theorem c20_4e : c20_4 = .seq c20_5 c20_6 := by kernel_rfl
theorem c20_5e : c20_5 = .region 2 r20_5 false := by kernel_rfl
theorem c20_6e : c20_6 = .seq c20_7 c20_37 := by kernel_rfl
theorem c20_7e : c20_7 = .seq c20_8 c20_9 := by kernel_rfl
theorem c20_8e : c20_8 = .region 3 r20_8 false := by kernel_rfl
theorem c20_9e : c20_9 = .block 0 c20_10 := by kernel_rfl
theorem c20_10e : c20_10 = .loop c20_11 := by kernel_rfl
theorem c20_11e : c20_11 = .seq c20_12 c20_13 := by kernel_rfl
theorem c20_12e : c20_12 = .region 4 r20_12 false := by kernel_rfl
theorem c20_13e : c20_13 = .seq c20_14 c20_17 := by kernel_rfl
theorem c20_14e : c20_14 = .cond (cdC c20_14) c20_15 c20_16 := by kernel_rfl
theorem c20_15e : c20_15 = .skip := by kernel_rfl
theorem c20_16e : c20_16 = .exit 0 := by kernel_rfl
theorem c20_17e : c20_17 = .seq c20_18 c20_36 := by kernel_rfl
theorem c20_18e : c20_18 = .block 1 c20_19 := by kernel_rfl
theorem c20_19e : c20_19 = .seq c20_20 c20_21 := by kernel_rfl
theorem c20_20e : c20_20 = .region 5 r20_20 false := by kernel_rfl
theorem c20_21e : c20_21 = .seq c20_22 c20_27 := by kernel_rfl
theorem c20_22e : c20_22 = .seq c20_23 c20_24 := by kernel_rfl
theorem c20_23e : c20_23 = .region 6 r20_23 false := by kernel_rfl
theorem c20_24e : c20_24 = .cond (cdC c20_24) c20_25 c20_26 := by kernel_rfl
theorem c20_25e : c20_25 = .region 7 r20_25 false := by kernel_rfl
theorem c20_26e : c20_26 = .skip := by kernel_rfl
theorem c20_27e : c20_27 = .seq c20_28 c20_29 := by kernel_rfl
theorem c20_28e : c20_28 = .region 8 r20_28 false := by kernel_rfl
theorem c20_29e : c20_29 = .cond (cdC c20_29) c20_30 c20_35 := by kernel_rfl
theorem c20_30e : c20_30 = .seq c20_31 c20_32 := by kernel_rfl
theorem c20_31e : c20_31 = .region 9 r20_31 false := by kernel_rfl
theorem c20_32e : c20_32 = .seq c20_33 c20_34 := by kernel_rfl
theorem c20_33e : c20_33 = .region 10 r20_33 false := by kernel_rfl
theorem c20_34e : c20_34 = .region 11 r20_34 false := by kernel_rfl
theorem c20_35e : c20_35 = .skip := by kernel_rfl
theorem c20_36e : c20_36 = .region 12 r20_36 false := by kernel_rfl
theorem c20_37e : c20_37 = .seq c20_38 c20_39 := by kernel_rfl
theorem c20_38e : c20_38 = .region 13 r20_38 false := by kernel_rfl
theorem c20_39e : c20_39 = .seq c20_40 c20_41 := by kernel_rfl
theorem c20_40e : c20_40 = .region 14 r20_40 false := by kernel_rfl
theorem c20_41e : c20_41 = .ret := by kernel_rfl
noncomputable def stuff_Encode.R (A_2 : Option Addr) (c_3 : Nat) : Pst (List UInt8) where
  ε := Option Addr × Nat
  v := fun r x => .slice x.1 r.length x.2
  H := fun r x => []
  B := fun r x => [Ow 1 Kd.u8 x.1 x.2 r]
noncomputable def stuff_Encode.cx (A_2 : Option Addr) (c_3 : Nat) (w0 : World) (S0 : Fam) : Cx (List UInt8) := ⟨Try.prog, 20, Try.f20, 59, w0, S0, [], 0, stuff_Encode.R A_2 c_3⟩
theorem stuff_Encode_j1_ok (n : Nat) (L0 : (List UInt8) → Int → Int → Option (List UInt8)) (b_1 : (List UInt8)) (out_7 : (List UInt8)) (at_10 : Int) (x_11 : Int) (out_20 : (List UInt8)) (A_2 : Option Addr) (c_3 : Nat) (A_8 : Option Addr) (c_9 : Nat) (A_21 : Option Addr) (c_22 : Nat) (w0 : World) (S0 : Fam) (ih0 : ∀ (out_7 : (List UInt8)) (at_10 : Int) (x_11 : Int) (A_8 : Option Addr) (c_9 : Nat), GoO (stuff_Encode.cx A_2 c_3 w0 S0) [(3, .slice A_8 out_7.length c_9), (4, .int .i64 at_10), (15, .slice A_2 b_1.length c_3), (16, .int .i64 (b_1.length : Int)), (17, .int .i64 x_11)] [] [Ow 40 Kd.u8 A_8 c_9 out_7, Rd 0 Kd.u8 A_2 c_3 b_1] [.code c20_11, .inLoop c20_11, .inBlock 0, .code c20_37] (L0 out_7 at_10 x_11)) (b_24 : Bool) :
    GoO (stuff_Encode.cx A_2 c_3 w0 S0) [(3, .slice A_21 out_20.length c_22), (4, .int .i64 at_10), (15, .slice A_2 b_1.length c_3), (16, .int .i64 (b_1.length : Int)), (17, .int .i64 x_11), (35, .bool b_24)] [] [Ow 40 Kd.u8 A_21 c_22 out_20, Rd 0 Kd.u8 A_2 c_3 b_1] [.code c20_29, .inBlock 1, .code c20_36, .inLoop c20_11, .inBlock 0, .code c20_37] (stuff_Encode.j1 n L0 at_10 x_11 out_20 b_24) := by
  unfold stuff_Encode.j1
  refine GoO.ite' c20_29e (by kernel_rfl) (fun h25 => ?_) (fun h25 => ?_)
  · refine GoO.seq' c20_30e ?_
    refine GoO.region' (is := [0, 1, 2, 3, 4, 5, 6, 7, 8]) c20_31e (by kernel_rfl) ?_
    refine GoO.exec (is := [0, 1, 2, 3, 4, 5, 6]) (hs := [.p, .p, .p, .p, .p, .p, .p]) (rest := [7, 8]) (ks := [3, 15, 16, 17, 36, 37, 42]) (env' := [(3, .slice A_21 out_20.length c_22), (15, .slice A_2 b_1.length c_3), (16, .int .i64 (b_1.length : Int)), (17, .int .i64 x_11), (36, .slice A_21 out_20.length c_22), (37, .int .i64 at_10), (42, .int .u8 (wu8 (wi64 ((out_20.length : Int) - at_10))))]) (H' := []) (ps := []) (by kernel_rfl) trivial ?_
    refine GoO.guard (fun h26 => ?_)
    refine OpTo.go (GoO.idx (kk := .i64) (e := 5) (K := Kd.u8) (A := A_21) (c := c_22) (xs := out_20) (iv := at_10) (j := 0) rfl (by kernel_rfl) (by kernel_rfl) (by kernel_rfl) (by kernel_rfl) rfl Reads.own rfl h26.1 h26.2 (by decide) rfl ?_)
    refine OpTo.go (GoO.stE (K := Kd.u8) (A := A_21) (c := c_22) (xs := out_20) (iN := at_10.toNat) (off := 0) (tg := 40) (j := 0) (v := .int .u8 (wu8 (wi64 ((out_20.length : Int) - at_10)))) rfl (by kernel_rfl) (by kernel_rfl) rfl (idx_lt h26.1 h26.2) (by decide) (by kernel_rfl) (by kernel_rfl) (by kernel_rfl) (u8of (wi64 ((out_20.length : Int) - at_10))) (fun w S cs _ hr => ⟨_, by subst hr; exact stored_flat rfl, (congrArg (fun v => [v]) (u8cell _))⟩) rfl ?_)
    refine GoO.reval (t := 3) (v := .slice A_21 out_20.length c_22) (v' := .slice A_21 (out_20.set at_10.toNat (u8of (wi64 ((out_20.length : Int) - at_10)))).length c_22) (by kernel_rfl) (by simp) ?_
    refine GoO.reval (t := 36) (v := .slice A_21 out_20.length c_22) (v' := .slice A_21 (out_20.set at_10.toNat (u8of (wi64 ((out_20.length : Int) - at_10)))).length c_22) (by kernel_rfl) (by simp) ?_
    refine GoO.regionEnd ?_
    refine GoO.seq' c20_32e ?_
    refine GoO.region' (is := [0, 1, 2]) c20_33e (by kernel_rfl) ?_
    refine GoO.exec (is := [0, 1, 2]) (hs := [.p, .p, .p]) (rest := []) (ks := [3, 4, 15, 16, 17]) (env' := [(3, .slice A_21 (out_20.set at_10.toNat (u8of (wi64 ((out_20.length : Int) - at_10)))).length c_22), (4, .int .i64 ((out_20.set at_10.toNat (u8of (wi64 ((out_20.length : Int) - at_10)))).length : Int)), (15, .slice A_2 b_1.length c_3), (16, .int .i64 (b_1.length : Int)), (17, .int .i64 x_11)]) (H' := []) (ps := []) (by kernel_rfl) trivial ?_
    refine GoO.regionEnd ?_
    refine GoO.region' (is := [0, 1, 2, 3]) c20_34e (by kernel_rfl) ?_
    refine GoO.exec (is := [0]) (hs := [.p]) (rest := [1, 2, 3]) (ks := [4, 15, 16, 17, 46]) (env' := [(4, .int .i64 ((out_20.set at_10.toNat (u8of (wi64 ((out_20.length : Int) - at_10)))).length : Int)), (15, .slice A_2 b_1.length c_3), (16, .int .i64 (b_1.length : Int)), (17, .int .i64 x_11), (46, .slice A_21 (out_20.set at_10.toNat (u8of (wi64 ((out_20.length : Int) - at_10)))).length c_22)]) (H' := []) (ps := []) (by kernel_rfl) trivial ?_
    refine OpTo.go (GoO.lit (e := 5) (K := Kd.u8) rfl (by kernel_rfl) (by kernel_rfl) (cs := [.int .u8 0]) (by kernel_rfl) [(0 : UInt8)] (by kernel_rfl) (by kernel_rfl) (fun w S hB => ⟨[.int .u8 0], _, rfl, rfl, rfl⟩) 42 _ (fun _ _ => rfl) (fun A_27 c_28 => ?_))
    refine GoO.guard (fun h29 => ?_)
    refine OpTo.go (GoO.appW (e := 5) (K := Kd.u8) (A := A_21) (c := c_22) (tg := 40) (bytes := 1) (zs := [.int .u8 0]) (xs := out_20.set at_10.toNat (u8of (wi64 ((out_20.length : Int) - at_10)))) (ys := [(0 : UInt8)]) (xv := .slice A_27 [(0 : UInt8)].length c_28) (j := 1) (bk := [0, 2]) rfl (by kernel_rfl) (by kernel_rfl) (by kernel_rfl) (by kernel_rfl) rfl (by kernel_rfl) rfl (fun w S hB => SrcIs.row (Reads.own w S (hB _ (List.mem_of_getElem? (i := 0) rfl)))) h29 rfl rfl rfl rfl _ (fun _ _ => rfl) (fun A_30 c_31 => ?_))
    refine GoO.exec (is := [3]) (hs := [.p]) (rest := []) (ks := [3, 4, 15, 16, 17]) (env' := [(3, .slice A_30 ((out_20.set at_10.toNat (u8of (wi64 ((out_20.length : Int) - at_10)))) ++ [(0 : UInt8)]).length c_31), (4, .int .i64 ((out_20.set at_10.toNat (u8of (wi64 ((out_20.length : Int) - at_10)))).length : Int)), (15, .slice A_2 b_1.length c_3), (16, .int .i64 (b_1.length : Int)), (17, .int .i64 x_11)]) (H' := []) (ps := []) (by kernel_rfl) trivial ?_
    refine GoO.regionEnd ?_
    refine GoO.inBlock ?_
    refine GoO.region' (is := [0, 1]) c20_36e (by kernel_rfl) ?_
    refine GoO.exec (is := [0, 1]) (hs := [.p, .p]) (rest := []) (ks := [3, 4, 15, 16, 17]) (env' := [(3, .slice A_30 ((out_20.set at_10.toNat (u8of (wi64 ((out_20.length : Int) - at_10)))) ++ [(0 : UInt8)]).length c_31), (4, .int .i64 ((out_20.set at_10.toNat (u8of (wi64 ((out_20.length : Int) - at_10)))).length : Int)), (15, .slice A_2 b_1.length c_3), (16, .int .i64 (b_1.length : Int)), (17, .int .i64 (wi64 (x_11 + 1)))]) (H' := []) (ps := []) (by kernel_rfl) trivial ?_
    refine GoO.regionEnd ?_
    refine GoO.inLoop ?_
    exact GoO.sub (ks := [3, 4, 15, 16, 17]) (hk := []) (bk := [0, 2]) (by kernel_rfl) (by kernel_rfl) (by kernel_rfl) (ih0 ((out_20.set at_10.toNat (u8of (wi64 ((out_20.length : Int) - at_10)))) ++ [(0 : UInt8)]) ((out_20.set at_10.toNat (u8of (wi64 ((out_20.length : Int) - at_10)))).length : Int) (wi64 (x_11 + 1)) A_30 c_31)
  · refine GoO.skip' c20_35e ?_
    refine GoO.inBlock ?_
    refine GoO.region' (is := [0, 1]) c20_36e (by kernel_rfl) ?_
    refine GoO.exec (is := [0, 1]) (hs := [.p, .p]) (rest := []) (ks := [3, 4, 15, 16, 17]) (env' := [(3, .slice A_21 out_20.length c_22), (4, .int .i64 at_10), (15, .slice A_2 b_1.length c_3), (16, .int .i64 (b_1.length : Int)), (17, .int .i64 (wi64 (x_11 + 1)))]) (H' := []) (ps := []) (by kernel_rfl) trivial ?_
    refine GoO.regionEnd ?_
    refine GoO.inLoop ?_
    exact GoO.sub (ks := [3, 4, 15, 16, 17]) (hk := []) (bk := [0, 1]) (by kernel_rfl) (by kernel_rfl) (by kernel_rfl) (ih0 out_20 at_10 (wi64 (x_11 + 1)) A_21 c_22)
theorem stuff_Encode_j0_ok (n : Nat) (L0 : (List UInt8) → Int → Int → Option (List UInt8)) (b_1 : (List UInt8)) (out_7 : (List UInt8)) (at_10 : Int) (x_11 : Int) (A_2 : Option Addr) (c_3 : Nat) (A_8 : Option Addr) (c_9 : Nat) (w0 : World) (S0 : Fam) (ih0 : ∀ (out_7 : (List UInt8)) (at_10 : Int) (x_11 : Int) (A_8 : Option Addr) (c_9 : Nat), GoO (stuff_Encode.cx A_2 c_3 w0 S0) [(3, .slice A_8 out_7.length c_9), (4, .int .i64 at_10), (15, .slice A_2 b_1.length c_3), (16, .int .i64 (b_1.length : Int)), (17, .int .i64 x_11)] [] [Ow 40 Kd.u8 A_8 c_9 out_7, Rd 0 Kd.u8 A_2 c_3 b_1] [.code c20_11, .inLoop c20_11, .inBlock 0, .code c20_37] (L0 out_7 at_10 x_11)) (out_20 : (List UInt8)) (A_21 : Option Addr) (c_22 : Nat) :
    GoO (stuff_Encode.cx A_2 c_3 w0 S0) [(3, .slice A_21 out_20.length c_22), (4, .int .i64 at_10), (6, .int .u8 (((rdL b_1 x_11)).toNat : Int)), (15, .slice A_2 b_1.length c_3), (16, .int .i64 (b_1.length : Int)), (17, .int .i64 x_11)] [] [Ow 40 Kd.u8 A_21 c_22 out_20, Rd 0 Kd.u8 A_2 c_3 b_1] [.code c20_27, .inBlock 1, .code c20_36, .inLoop c20_11, .inBlock 0, .code c20_37] (stuff_Encode.j0 n L0 b_1 at_10 x_11 out_20) := by
  unfold stuff_Encode.j0
  refine GoO.seq' c20_27e ?_
  refine GoO.region' (is := [0, 1, 2, 3, 4, 5, 6, 7, 8]) c20_28e (by kernel_rfl) ?_
  refine GoO.exec (is := [0, 1, 2]) (hs := [.p, .p, .p]) (rest := [3, 4, 5, 6, 7, 8]) (ks := [3, 4, 15, 16, 17, 29]) (env' := [(3, .slice A_21 out_20.length c_22), (4, .int .i64 at_10), (15, .slice A_2 b_1.length c_3), (16, .int .i64 (b_1.length : Int)), (17, .int .i64 x_11), (29, .bool ((((rdL b_1 x_11)).toNat : Int) == 0))]) (H' := []) (ps := []) (by kernel_rfl) trivial ?_
  refine GoO.bsplit (t := 29) (by kernel_rfl) (fun h23 => ?_) (fun h23 => ?_)
  · refine GoO.exec (is := [3, 4, 5, 6, 7, 8]) (hs := [.p, .p, .p, .p, .p, .p]) (rest := []) (ks := [3, 4, 15, 16, 17, 35]) (env' := [(3, .slice A_21 out_20.length c_22), (4, .int .i64 at_10), (15, .slice A_2 b_1.length c_3), (16, .int .i64 (b_1.length : Int)), (17, .int .i64 x_11), (35, .bool true)]) (H' := []) (ps := []) (by kernel_rfl) trivial ?_
    refine GoO.regionEnd ?_
    exact GoO.sub (ks := [3, 4, 15, 16, 17, 35]) (hk := []) (bk := [0, 1]) (by kernel_rfl) (by kernel_rfl) (by kernel_rfl) (stuff_Encode_j1_ok n L0 b_1 out_7 at_10 x_11 out_20 A_2 c_3 A_8 c_9 A_21 c_22 w0 S0 ih0 true)
  · refine GoO.exec (is := [3, 4, 5, 6, 7, 8]) (hs := [.p, .p, .p, .p, .p, .p]) (rest := []) (ks := [3, 4, 15, 16, 17, 35]) (env' := [(3, .slice A_21 out_20.length c_22), (4, .int .i64 at_10), (15, .slice A_2 b_1.length c_3), (16, .int .i64 (b_1.length : Int)), (17, .int .i64 x_11), (35, .bool ((wi64 ((out_20.length : Int) - at_10)) == 255))]) (H' := []) (ps := []) (by kernel_rfl) trivial ?_
    refine GoO.regionEnd ?_
    exact GoO.sub (ks := [3, 4, 15, 16, 17, 35]) (hk := []) (bk := [0, 1]) (by kernel_rfl) (by kernel_rfl) (by kernel_rfl) (stuff_Encode_j1_ok n L0 b_1 out_7 at_10 x_11 out_20 A_2 c_3 A_8 c_9 A_21 c_22 w0 S0 ih0 ((wi64 ((out_20.length : Int) - at_10)) == 255))
theorem stuff_Encode_l0_ok (n : Nat) (b_1 : (List UInt8)) (A_2 : Option Addr) (c_3 : Nat) (w0 : World) (S0 : Fam) :
    ∀ (k : Nat) (out_7 : (List UInt8)) (at_10 : Int) (x_11 : Int) (A_8 : Option Addr) (c_9 : Nat), GoO (stuff_Encode.cx A_2 c_3 w0 S0) [(3, .slice A_8 out_7.length c_9), (4, .int .i64 at_10), (15, .slice A_2 b_1.length c_3), (16, .int .i64 (b_1.length : Int)), (17, .int .i64 x_11)] [] [Ow 40 Kd.u8 A_8 c_9 out_7, Rd 0 Kd.u8 A_2 c_3 b_1] [.code c20_11, .inLoop c20_11, .inBlock 0, .code c20_37] (stuff_Encode.l0 n b_1 k out_7 at_10 x_11) := by
  intro k
  induction k with
  | zero => intros; rw [stuff_Encode.l0.eq_1]; exact GoO.stop
  | succ k ih0 =>
    intro out_7 at_10 x_11 A_8 c_9
    rw [stuff_Encode.l0.eq_2]
    refine GoO.seq' c20_11e ?_
    refine GoO.region' (is := [0]) c20_12e (by kernel_rfl) ?_
    refine GoO.exec (is := [0]) (hs := [.p]) (rest := []) (ks := [3, 4, 15, 16, 17, 18]) (env' := [(3, .slice A_8 out_7.length c_9), (4, .int .i64 at_10), (15, .slice A_2 b_1.length c_3), (16, .int .i64 (b_1.length : Int)), (17, .int .i64 x_11), (18, .bool (decide (x_11 < (b_1.length : Int))))]) (H' := []) (ps := []) (by kernel_rfl) trivial ?_
    refine GoO.regionEnd ?_
    refine GoO.seq' c20_13e ?_
    refine GoO.ite' c20_14e (by kernel_rfl) (fun h12 => ?_) (fun h12 => ?_)
    · refine GoO.skip' c20_15e ?_
      refine GoO.seq' c20_17e ?_
      refine GoO.block' c20_18e ?_
      refine GoO.seq' c20_19e ?_
      refine GoO.region' (is := [0, 1, 2]) c20_20e (by kernel_rfl) ?_
      refine GoO.guard (fun h13 => ?_)
      refine OpTo.go (GoO.idx (kk := .i64) (e := 5) (K := Kd.u8) (A := A_2) (c := c_3) (xs := b_1) (iv := x_11) (j := 1) rfl (by kernel_rfl) (by kernel_rfl) (by kernel_rfl) (by kernel_rfl) rfl Reads.rd rfl h13.1 h13.2 (by decide) rfl ?_)
      refine OpTo.go (GoO.ldE' (K := Kd.u8) (A := A_2) (c := c_3) (xs := b_1) (iN := x_11.toNat) (off := 0) (j := 1) rfl (by kernel_rfl) rfl Reads.rd (idx_lt h13.1 h13.2) (by decide) (Opn.flat _ _ _ _ _) (v := fun _ => .int .u8 (((rdL b_1 x_11)).toNat : Int)) (fun _ => by kernel_rfl) _ (fun _ => rfl) (fun _ => ?_))
      refine GoO.exec (is := [2]) (hs := [.p]) (rest := []) (ks := [3, 4, 6, 15, 16, 17]) (env' := [(3, .slice A_8 out_7.length c_9), (4, .int .i64 at_10), (6, .int .u8 (((rdL b_1 x_11)).toNat : Int)), (15, .slice A_2 b_1.length c_3), (16, .int .i64 (b_1.length : Int)), (17, .int .i64 x_11)]) (H' := []) (ps := []) (by kernel_rfl) trivial ?_
      refine GoO.regionEnd ?_
      refine GoO.seq' c20_21e ?_
      refine GoO.seq' c20_22e ?_
      refine GoO.region' (is := [0, 1]) c20_23e (by kernel_rfl) ?_
      refine GoO.exec (is := [0, 1]) (hs := [.p, .p]) (rest := []) (ks := [3, 4, 6, 15, 16, 17, 22]) (env' := [(3, .slice A_8 out_7.length c_9), (4, .int .i64 at_10), (6, .int .u8 (((rdL b_1 x_11)).toNat : Int)), (15, .slice A_2 b_1.length c_3), (16, .int .i64 (b_1.length : Int)), (17, .int .i64 x_11), (22, .bool ((((rdL b_1 x_11)).toNat : Int) != 0))]) (H' := []) (ps := []) (by kernel_rfl) trivial ?_
      refine GoO.regionEnd ?_
      refine GoO.ite' c20_24e (by kernel_rfl) (fun h14 => ?_) (fun h14 => ?_)
      · refine GoO.region' (is := [0, 1, 2, 3, 4]) c20_25e (by kernel_rfl) ?_
        refine GoO.exec (is := [0, 1]) (hs := [.p, .p]) (rest := [2, 3, 4]) (ks := [4, 6, 15, 16, 17, 23, 24]) (env' := [(4, .int .i64 at_10), (6, .int .u8 (((rdL b_1 x_11)).toNat : Int)), (15, .slice A_2 b_1.length c_3), (16, .int .i64 (b_1.length : Int)), (17, .int .i64 x_11), (23, .slice A_8 out_7.length c_9), (24, .int .u8 (((rdL b_1 x_11)).toNat : Int))]) (H' := []) (ps := []) (by kernel_rfl) trivial ?_
        refine OpTo.go (GoO.lit (e := 5) (K := Kd.u8) rfl (by kernel_rfl) (by kernel_rfl) (cs := [.int .u8 (((rdL b_1 x_11)).toNat : Int)]) (by kernel_rfl) [(rdL b_1 x_11)] (by kernel_rfl) (by kernel_rfl) (fun w S hB => ⟨[.int .u8 (((rdL b_1 x_11)).toNat : Int)], _, rfl, rfl, rfl⟩) 41 _ (fun _ _ => rfl) (fun A_15 c_16 => ?_))
        refine GoO.guard (fun h17 => ?_)
        refine OpTo.go (GoO.appW (e := 5) (K := Kd.u8) (A := A_8) (c := c_9) (tg := 40) (bytes := 1) (zs := [.int .u8 0]) (xs := out_7) (ys := [(rdL b_1 x_11)]) (xv := .slice A_15 [(rdL b_1 x_11)].length c_16) (j := 1) (bk := [0, 2]) rfl (by kernel_rfl) (by kernel_rfl) (by kernel_rfl) (by kernel_rfl) rfl (by kernel_rfl) rfl (fun w S hB => SrcIs.row (Reads.own w S (hB _ (List.mem_of_getElem? (i := 0) rfl)))) h17 rfl rfl rfl rfl _ (fun _ _ => rfl) (fun A_18 c_19 => ?_))
        refine GoO.exec (is := [4]) (hs := [.p]) (rest := []) (ks := [3, 4, 6, 15, 16, 17]) (env' := [(3, .slice A_18 (out_7 ++ [(rdL b_1 x_11)]).length c_19), (4, .int .i64 at_10), (6, .int .u8 (((rdL b_1 x_11)).toNat : Int)), (15, .slice A_2 b_1.length c_3), (16, .int .i64 (b_1.length : Int)), (17, .int .i64 x_11)]) (H' := []) (ps := []) (by kernel_rfl) trivial ?_
        refine GoO.regionEnd ?_
        exact GoO.sub (ks := [3, 4, 6, 15, 16, 17]) (hk := []) (bk := [0, 2]) (by kernel_rfl) (by kernel_rfl) (by kernel_rfl) (stuff_Encode_j0_ok n (stuff_Encode.l0 n b_1 k) b_1 out_7 at_10 x_11 A_2 c_3 A_8 c_9 w0 S0 ih0 (out_7 ++ [(rdL b_1 x_11)]) A_18 c_19)
      · refine GoO.skip' c20_26e ?_
        exact GoO.sub (ks := [3, 4, 6, 15, 16, 17]) (hk := []) (bk := [0, 1]) (by kernel_rfl) (by kernel_rfl) (by kernel_rfl) (stuff_Encode_j0_ok n (stuff_Encode.l0 n b_1 k) b_1 out_7 at_10 x_11 A_2 c_3 A_8 c_9 w0 S0 ih0 out_7 A_8 c_9)
    · refine GoO.exit' c20_16e rfl ?_
      refine GoO.seq' c20_37e ?_
      refine GoO.region' (is := [0, 1, 2, 3, 4, 5, 6, 7, 8]) c20_38e (by kernel_rfl) ?_
      refine GoO.exec (is := [0, 1, 2, 3, 4, 5, 6]) (hs := [.p, .p, .p, .p, .p, .p, .p]) (rest := [7, 8]) (ks := [3, 50, 51, 56]) (env' := [(3, .slice A_8 out_7.length c_9), (50, .slice A_8 out_7.length c_9), (51, .int .i64 at_10), (56, .int .u8 (wu8 (wi64 ((out_7.length : Int) - at_10))))]) (H' := []) (ps := []) (by kernel_rfl) trivial ?_
      refine GoO.guard (fun h32 => ?_)
      refine OpTo.go (GoO.idx (kk := .i64) (e := 5) (K := Kd.u8) (A := A_8) (c := c_9) (xs := out_7) (iv := at_10) (j := 0) rfl (by kernel_rfl) (by kernel_rfl) (by kernel_rfl) (by kernel_rfl) rfl Reads.own rfl h32.1 h32.2 (by decide) rfl ?_)
      refine OpTo.go (GoO.stE (K := Kd.u8) (A := A_8) (c := c_9) (xs := out_7) (iN := at_10.toNat) (off := 0) (tg := 40) (j := 0) (v := .int .u8 (wu8 (wi64 ((out_7.length : Int) - at_10)))) rfl (by kernel_rfl) (by kernel_rfl) rfl (idx_lt h32.1 h32.2) (by decide) (by kernel_rfl) (by kernel_rfl) (by kernel_rfl) (u8of (wi64 ((out_7.length : Int) - at_10))) (fun w S cs _ hr => ⟨_, by subst hr; exact stored_flat rfl, (congrArg (fun v => [v]) (u8cell _))⟩) rfl ?_)
      refine GoO.reval (t := 3) (v := .slice A_8 out_7.length c_9) (v' := .slice A_8 (out_7.set at_10.toNat (u8of (wi64 ((out_7.length : Int) - at_10)))).length c_9) (by kernel_rfl) (by simp) ?_
      refine GoO.reval (t := 50) (v := .slice A_8 out_7.length c_9) (v' := .slice A_8 (out_7.set at_10.toNat (u8of (wi64 ((out_7.length : Int) - at_10)))).length c_9) (by kernel_rfl) (by simp) ?_
      refine GoO.regionEnd ?_
      refine GoO.seq' c20_39e ?_
      refine GoO.region' (is := [0, 1]) c20_40e (by kernel_rfl) ?_
      refine GoO.exec (is := [0, 1]) (hs := [.p, .p]) (rest := []) (ks := [2]) (env' := [(2, .slice A_8 (out_7.set at_10.toNat (u8of (wi64 ((out_7.length : Int) - at_10)))).length c_9)]) (H' := []) (ps := []) (by kernel_rfl) trivial ?_
      refine GoO.regionEnd ?_
      refine GoO.retag (t := 40) (u := 1) (j := 0) (hk := []) (bk := [1]) rfl rfl rfl rfl rfl rfl (by kernel_rfl) (by kernel_rfl) ?_
      exact GoO.ret' (h := c20_41e) (hs := []) (ps := []) (hk := []) (bk := [0]) Try.func20 (⟨A_8, c_9⟩ : Option Addr × Nat) (by kernel_rfl) trivial (by kernel_rfl) (by kernel_rfl)
theorem stuff_Encode_ok (n : Nat) (b_1 : (List UInt8)) (A_2 : Option Addr) (c_3 : Nat) :
    Meets Try.prog 20 [.slice A_2 b_1.length c_3] 0 [] [] [Rd 0 Kd.u8 A_2 c_3 b_1] (stuff_Encode.f n b_1) (stuff_Encode.R A_2 c_3) := by
  refine Meets.of (c := c20_0) (n := 59) Try.func20 (by kernel_rfl) (by kernel_rfl) (by kernel_rfl) fun w0 S0 => ?_
  unfold stuff_Encode.f
  show GoO (stuff_Encode.cx A_2 c_3 w0 S0) [(0, .slice A_2 b_1.length c_3)] [] [Rd 0 Kd.u8 A_2 c_3 b_1] [.code c20_0] _
  refine GoO.seq' c20_0e ?_
  refine GoO.region' (is := [0]) c20_1e (by kernel_rfl) ?_
  refine GoO.exec (is := [0]) (hs := [.p]) (rest := []) (ks := [0]) (env' := [(0, .slice A_2 b_1.length c_3)]) (H' := []) (ps := []) (by kernel_rfl) trivial ?_
  refine GoO.regionEnd ?_
  refine GoO.seq' c20_2e ?_
  refine GoO.region' (is := [0, 1, 2, 3, 4, 5, 6, 7, 8]) c20_3e (by kernel_rfl) ?_
  refine GoO.exec (is := [0, 1, 2, 3, 4, 5, 6]) (hs := [.p, .p, .p, .p, .p, .p, .p]) (rest := [7, 8]) (ks := [0, 13]) (env' := [(0, .slice A_2 b_1.length c_3), (13, .int .i64 (wi64 ((wi64 ((b_1.length : Int) + (wi64 ((b_1.length : Int).tdiv 254)))) + 1)))]) (H' := []) (ps := [(254 : Int) ≠ 0]) (by kernel_rfl) (And.intro (by decide) trivial) ?_
  refine GoO.guard (fun h6 => ?_)
  refine OpTo.go (GoO.mk (e := 5) (k1 := .i64) (k2 := .i64) (K := Kd.u8) (n := 1) (c := wi64 ((wi64 ((b_1.length : Int) + (wi64 ((b_1.length : Int).tdiv 254)))) + 1)) (bytes := 1) (zs := [.int .u8 0]) rfl (by kernel_rfl) (by kernel_rfl) (by kernel_rfl) (by kernel_rfl) ((0 : UInt8)) (fun _ _ => rfl) h6.1 h6.2.1 (by kernel_rfl) h6.2.2 40 _ (fun _ _ => rfl) (fun A_4 c_5 => ?_))
  refine GoO.exec (is := [8]) (hs := [.p]) (rest := []) (ks := [0, 3]) (env' := [(0, .slice A_2 b_1.length c_3), (3, .slice A_4 (List.replicate (1 : Int).toNat (0 : UInt8)).length c_5)]) (H' := []) (ps := []) (by kernel_rfl) trivial ?_
  refine GoO.regionEnd ?_
  refine GoO.seq' c20_4e ?_
  refine GoO.region' (is := [0]) c20_5e (by kernel_rfl) ?_
  refine GoO.exec (is := [0]) (hs := [.p]) (rest := []) (ks := [0, 3, 4]) (env' := [(0, .slice A_2 b_1.length c_3), (3, .slice A_4 (List.replicate (1 : Int).toNat (0 : UInt8)).length c_5), (4, .int .i64 0)]) (H' := []) (ps := []) (by kernel_rfl) trivial ?_
  refine GoO.regionEnd ?_
  refine GoO.seq' c20_6e ?_
  refine GoO.seq' c20_7e ?_
  refine GoO.region' (is := [0, 1, 2]) c20_8e (by kernel_rfl) ?_
  refine GoO.exec (is := [0, 1, 2]) (hs := [.p, .p, .p]) (rest := []) (ks := [3, 4, 15, 16, 17]) (env' := [(3, .slice A_4 (List.replicate (1 : Int).toNat (0 : UInt8)).length c_5), (4, .int .i64 0), (15, .slice A_2 b_1.length c_3), (16, .int .i64 (b_1.length : Int)), (17, .int .i64 0)]) (H' := []) (ps := []) (by kernel_rfl) trivial ?_
  refine GoO.regionEnd ?_
  refine GoO.block' c20_9e ?_
  refine GoO.loop' c20_10e ?_
  exact GoO.sub (ks := [3, 4, 15, 16, 17]) (hk := []) (bk := [0, 1]) (by kernel_rfl) (by kernel_rfl) (by kernel_rfl) (stuff_Encode_l0_ok n b_1 A_2 c_3 w0 S0 n (List.replicate (1 : Int).toNat (0 : UInt8)) 0 0 A_4 c_5)

/-! tontine/tontinelaw01.begun -/
noncomputable def c19_0 : Code := bodyOf Try.f19
noncomputable def c19_1 : Code := cdL c19_0
noncomputable def c19_2 : Code := cdR c19_0
noncomputable def c19_3 : Code := cdL c19_2
noncomputable def c19_4 : Code := cdR c19_2
noncomputable def c19_5 : Code := cdL c19_4
noncomputable def c19_6 : Code := cdR c19_4
noncomputable def r19_1 : Array Oper := cdO c19_1
noncomputable def r19_3 : Array Oper := cdO c19_3
noncomputable def r19_5 : Array Oper := cdO c19_5
theorem c19_0e : c19_0 = .seq c19_1 c19_2 := by kernel_rfl
theorem c19_1e : c19_1 = .region 0 r19_1 false := by kernel_rfl
theorem c19_2e : c19_2 = .seq c19_3 c19_4 := by kernel_rfl
theorem c19_3e : c19_3 = .region 1 r19_3 false := by kernel_rfl
theorem c19_4e : c19_4 = .seq c19_5 c19_6 := by kernel_rfl
theorem c19_5e : c19_5 = .region 2 r19_5 false := by kernel_rfl
theorem c19_6e : c19_6 = .ret := by kernel_rfl
noncomputable def tontinelaw01_begun.R : Pst Bool where
  ε := Unit
  v := fun r x => .bool r
  H := fun r x => []
  B := fun r x => []
noncomputable def tontinelaw01_begun.cx (w0 : World) (S0 : Fam) : Cx Bool := ⟨Try.prog, 19, Try.f19, 16, w0, S0, [], 0, tontinelaw01_begun.R⟩
theorem tontinelaw01_begun_ok (n : Nat) :
    Meets Try.prog 19 [] 0 [] [] [] (tontinelaw01_begun.f n) (tontinelaw01_begun.R) := by
  refine Meets.of (c := c19_0) (n := 16) Try.func19 (by kernel_rfl) (by kernel_rfl) (by kernel_rfl) fun w0 S0 => ?_
  unfold tontinelaw01_begun.f
  show GoO (tontinelaw01_begun.cx w0 S0) [] [] [] [.code c19_0] _
  refine GoO.seq' c19_0e ?_
  refine GoO.region' (is := [0]) c19_1e (by kernel_rfl) ?_
  refine GoO.exec (is := [0]) (hs := [.p]) (rest := []) (ks := []) (env' := []) (H' := []) (ps := []) (by kernel_rfl) trivial ?_
  refine GoO.regionEnd ?_
  refine GoO.seq' c19_2e ?_
  refine GoO.region' (is := [0, 1, 2, 3, 4, 5, 6]) c19_3e (by kernel_rfl) ?_
  refine OpTo.go (GoO.lit (e := 5) (K := Kd.u8) rfl (by kernel_rfl) (by kernel_rfl) (cs := [.int .u8 3, .int .u8 17]) (by kernel_rfl) [(3 : UInt8), (17 : UInt8)] (by kernel_rfl) (by kernel_rfl) (fun w S hB => ⟨[.int .u8 3], _, rfl, rfl, ⟨[.int .u8 17], _, rfl, rfl, rfl⟩⟩) 40 _ (fun _ _ => rfl) (fun A_1 c_2 => ?_))
  refine GoO.retag (t := 40) (u := 0) (j := 0) (hk := []) (bk := []) rfl rfl rfl rfl rfl rfl (by kernel_rfl) (by kernel_rfl) ?_
  refine GoO.own2rd (j := 0) rfl ?_
  refine OpTo.go (GoO.call rfl (by kernel_rfl) (by kernel_rfl) (stuff_Decode_ok n [(3 : UInt8), (17 : UInt8)] A_1 c_2) [[0]] [(41, 1)] [] [(0, 0)] (hks := []) (bks := [0]) (by kernel_rfl) (by kernel_rfl) (by kernel_rfl) (.inl rfl) rfl rfl (by kernel_rfl) (by kernel_rfl) _ (fun _ _ => rfl) _ _ (fun _ _ => rfl) (fun _ _ => rfl) (fun _ _ => by kernel_rfl) (fun _ _ => by kernel_rfl) (fun r_3 x_13 => ?_))
  obtain ⟨A_4, c_5⟩ := x_13
  refine GoO.shape (env' := [(4, .slice A_1 [(3 : UInt8), (17 : UInt8)].length c_2), (5, .tuple ⟨[.slice A_4 r_3.1.length c_5, .int .i64 r_3.2]⟩)]) (H' := []) (B' := [Ow 41 Kd.u8 A_4 c_5 r_3.1, Rd 0 Kd.u8 A_1 c_2 [(3 : UInt8), (17 : UInt8)]]) (ks := [4, 5]) (by kernel_rfl) (by kernel_rfl) (by kernel_rfl) ?_
  refine GoO.exec (is := [2, 3, 4, 5, 6]) (hs := [.p, .p, .p, .p, .p]) (rest := []) (ks := [2]) (env' := [(2, .int .i64 r_3.2)]) (H' := []) (ps := []) (by kernel_rfl) trivial ?_
  refine GoO.regionEnd ?_
  refine GoO.seq' c19_4e ?_
  refine GoO.region' (is := [0, 1, 2, 3, 4, 5, 6, 7, 8]) c19_5e (by kernel_rfl) ?_
  refine OpTo.go (GoO.lit (e := 5) (K := Kd.u8) rfl (by kernel_rfl) (by kernel_rfl) (cs := [.int .u8 17, .int .u8 0, .int .u8 34]) (by kernel_rfl) [(17 : UInt8), (0 : UInt8), (34 : UInt8)] (by kernel_rfl) (by kernel_rfl) (fun w S hB => ⟨[.int .u8 17], _, rfl, rfl, ⟨[.int .u8 0], _, rfl, rfl, ⟨[.int .u8 34], _, rfl, rfl, rfl⟩⟩⟩) 42 _ (fun _ _ => rfl) (fun A_6 c_7 => ?_))
  refine GoO.retag (t := 42) (u := 0) (j := 0) (hk := []) (bk := [1, 2]) rfl rfl rfl rfl rfl rfl (by kernel_rfl) (by kernel_rfl) ?_
  refine GoO.own2rd (j := 0) rfl ?_
  refine OpTo.go (GoO.call rfl (by kernel_rfl) (by kernel_rfl) (stuff_Encode_ok n [(17 : UInt8), (0 : UInt8), (34 : UInt8)] A_6 c_7) [[0]] [(43, 1)] [] [(0, 0)] (hks := []) (bks := [0, 1, 2]) (by kernel_rfl) (by kernel_rfl) (by kernel_rfl) (.inl rfl) rfl rfl (by kernel_rfl) (by kernel_rfl) _ (fun _ _ => rfl) _ _ (fun _ _ => rfl) (fun _ _ => rfl) (fun _ _ => by kernel_rfl) (fun _ _ => by kernel_rfl) (fun r_8 x_12 => ?_))
  obtain ⟨A_9, c_10⟩ := x_12
  refine GoO.shape (env' := [(2, .int .i64 r_3.2), (8, .slice A_6 [(17 : UInt8), (0 : UInt8), (34 : UInt8)].length c_7), (9, .slice A_9 r_8.length c_10)]) (H' := []) (B' := [Ow 43 Kd.u8 A_9 c_10 r_8, Rd 0 Kd.u8 A_6 c_7 [(17 : UInt8), (0 : UInt8), (34 : UInt8)], Ow 41 Kd.u8 A_4 c_5 r_3.1, Rd 0 Kd.u8 A_1 c_2 [(3 : UInt8), (17 : UInt8)]]) (ks := [2, 8, 9]) (by kernel_rfl) (by kernel_rfl) (by kernel_rfl) ?_
  refine OpTo.go (GoO.toStr (e := 5) (A := A_9) (c := c_10) (xs := r_8) (j := 0) rfl (by kernel_rfl) (by kernel_rfl) (by kernel_rfl) (by kernel_rfl) rfl Reads.own rfl rfl ?_)
  refine GoO.exec (is := [3, 4]) (hs := [.p, .p]) (rest := [5, 6, 7, 8]) (ks := [2, 12]) (env' := [(2, .int .i64 r_3.2), (12, .bool (r_8 == ([2, 17, 2, 34] : List UInt8)))]) (H' := []) (ps := []) (by kernel_rfl) trivial ?_
  refine GoO.bsplit (t := 12) (by kernel_rfl) (fun h11 => ?_) (fun h11 => ?_)
  · refine GoO.exec (is := [5, 6, 7, 8]) (hs := [.p, .p, .p, .p]) (rest := []) (ks := [0]) (env' := [(0, .bool (r_3.2 == 2))]) (H' := []) (ps := []) (by kernel_rfl) trivial ?_
    refine GoO.regionEnd ?_
    exact GoO.ret' (h := c19_6e) (hs := []) (ps := []) (hk := []) (bk := []) Try.func19 () (by kernel_rfl) trivial (by kernel_rfl) (by kernel_rfl)
  · refine GoO.exec (is := [5, 6, 7, 8]) (hs := [.p, .p, .p, .p]) (rest := []) (ks := [0]) (env' := [(0, .bool false)]) (H' := []) (ps := []) (by kernel_rfl) trivial ?_
    refine GoO.regionEnd ?_
    exact GoO.ret' (h := c19_6e) (hs := []) (ps := []) (hk := []) (bk := []) Try.func19 () (by kernel_rfl) trivial (by kernel_rfl) (by kernel_rfl)

/-! tontine/tontinelaw01.StuffBack -/
noncomputable def c8_0 : Code := bodyOf Try.f8
noncomputable def c8_1 : Code := cdL c8_0
noncomputable def c8_2 : Code := cdR c8_0
noncomputable def c8_3 : Code := cdL c8_2
noncomputable def c8_4 : Code := cdL c8_3
noncomputable def c8_5 : Code := cdR c8_3
noncomputable def c8_6 : Code := cdL c8_5
noncomputable def c8_7 : Code := cdL c8_6
noncomputable def c8_8 : Code := cdR c8_6
noncomputable def c8_9 : Code := cdR c8_5
noncomputable def c8_10 : Code := cdR c8_2
noncomputable def c8_11 : Code := cdL c8_10
noncomputable def c8_12 : Code := cdR c8_10
noncomputable def c8_13 : Code := cdL c8_12
noncomputable def c8_14 : Code := cdL c8_13
noncomputable def c8_15 : Code := cdR c8_13
noncomputable def c8_16 : Code := cdL c8_15
noncomputable def c8_17 : Code := cdL c8_16
noncomputable def c8_18 : Code := cdL c8_17
noncomputable def c8_19 : Code := cdR c8_17
noncomputable def c8_20 : Code := cdL c8_19
noncomputable def c8_21 : Code := cdL c8_20
noncomputable def c8_22 : Code := cdR c8_20
noncomputable def c8_23 : Code := cdR c8_19
noncomputable def c8_24 : Code := cdL c8_23
noncomputable def c8_25 : Code := cdL c8_24
noncomputable def c8_26 : Code := cdL c8_25
noncomputable def c8_27 : Code := cdR c8_25
noncomputable def c8_28 : Code := cdL c8_27
noncomputable def c8_29 : Code := cdR c8_27
noncomputable def c8_30 : Code := cdL c8_29
noncomputable def c8_31 : Code := cdL c8_30
noncomputable def c8_32 : Code := cdR c8_30
noncomputable def c8_33 : Code := cdR c8_29
noncomputable def c8_34 : Code := cdR c8_23
noncomputable def c8_35 : Code := cdR c8_12
noncomputable def c8_36 : Code := cdL c8_35
noncomputable def c8_37 : Code := cdR c8_35
noncomputable def c8_38 : Code := cdL c8_37
noncomputable def c8_39 : Code := cdR c8_37
noncomputable def r8_1 : Array Oper := cdO c8_1
noncomputable def r8_4 : Array Oper := cdO c8_4
noncomputable def r8_7 : Array Oper := cdO c8_7
noncomputable def r8_11 : Array Oper := cdO c8_11
noncomputable def r8_14 : Array Oper := cdO c8_14
noncomputable def r8_18 : Array Oper := cdO c8_18
noncomputable def r8_26 : Array Oper := cdO c8_26
noncomputable def r8_28 : Array Oper := cdO c8_28
noncomputable def r8_31 : Array Oper := cdO c8_31
noncomputable def r8_34 : Array Oper := cdO c8_34
noncomputable def r8_36 : Array Oper := cdO c8_36
noncomputable def r8_38 : Array Oper := cdO c8_38
theorem c8_0e : c8_0 = .seq c8_1 c8_2 := by kernel_rfl
theorem c8_1e : c8_1 = .region 0 r8_1 false := by kernel_rfl
theorem c8_2e : c8_2 = .seq c8_3 c8_10 := by kernel_rfl
theorem c8_3e : c8_3 = .seq c8_4 c8_5 := by kernel_rfl
theorem c8_4e : c8_4 = .region 1 r8_4 false := by kernel_rfl
theorem c8_5e : c8_5 = .cond (cdC c8_5) c8_6 c8_9 := by kernel_rfl
theorem c8_6e : c8_6 = .seq c8_7 c8_8 := by kernel_rfl
theorem c8_7e : c8_7 = .region 2 r8_7 false := by kernel_rfl
theorem c8_8e : c8_8 = .ret := by kernel_rfl
theorem c8_9e : c8_9 = .skip := by kernel_rfl
theorem c8_10e : c8_10 = .seq c8_11 c8_12 := by kernel_rfl
theorem c8_11e : c8_11 = .region 3 r8_11 false := by kernel_rfl
theorem c8_12e : c8_12 = .seq c8_13 c8_35 := by kernel_rfl
theorem c8_13e : c8_13 = .seq c8_14 c8_15 := by kernel_rfl
theorem c8_14e : c8_14 = .region 4 r8_14 false := by kernel_rfl
theorem c8_15e : c8_15 = .block 0 c8_16 := by kernel_rfl
theorem c8_16e : c8_16 = .loop c8_17 := by kernel_rfl
theorem c8_17e : c8_17 = .seq c8_18 c8_19 := by kernel_rfl
theorem c8_18e : c8_18 = .region 5 r8_18 false := by kernel_rfl
theorem c8_19e : c8_19 = .seq c8_20 c8_23 := by kernel_rfl
theorem c8_20e : c8_20 = .cond (cdC c8_20) c8_21 c8_22 := by kernel_rfl
theorem c8_21e : c8_21 = .skip := by kernel_rfl
theorem c8_22e : c8_22 = .exit 0 := by kernel_rfl
theorem c8_23e : c8_23 = .seq c8_24 c8_34 := by kernel_rfl
theorem c8_24e : c8_24 = .block 1 c8_25 := by kernel_rfl
theorem c8_25e : c8_25 = .seq c8_26 c8_27 := by kernel_rfl
theorem c8_26e : c8_26 = .region 6 r8_26 false := by kernel_rfl
theorem c8_27e : c8_27 = .seq c8_28 c8_29 := by kernel_rfl
theorem c8_28e : c8_28 = .region 7 r8_28 false := by kernel_rfl
theorem c8_29e : c8_29 = .cond (cdC c8_29) c8_30 c8_33 := by kernel_rfl
theorem c8_30e : c8_30 = .seq c8_31 c8_32 := by kernel_rfl
theorem c8_31e : c8_31 = .region 8 r8_31 false := by kernel_rfl
theorem c8_32e : c8_32 = .ret := by kernel_rfl
theorem c8_33e : c8_33 = .skip := by kernel_rfl
theorem c8_34e : c8_34 = .region 9 r8_34 false := by kernel_rfl
theorem c8_35e : c8_35 = .seq c8_36 c8_37 := by kernel_rfl
theorem c8_36e : c8_36 = .region 10 r8_36 false := by kernel_rfl
theorem c8_37e : c8_37 = .seq c8_38 c8_39 := by kernel_rfl
theorem c8_38e : c8_38 = .region 11 r8_38 false := by kernel_rfl
theorem c8_39e : c8_39 = .ret := by kernel_rfl
noncomputable def tontinelaw01_StuffBack.R (A_2 : Option Addr) (c_3 : Nat) : Pst Bool where
  ε := Unit
  v := fun r x => .bool r
  H := fun r x => []
  B := fun r x => []
noncomputable def tontinelaw01_StuffBack.cx (A_2 : Option Addr) (c_3 : Nat) (w0 : World) (S0 : Fam) : Cx Bool := ⟨Try.prog, 8, Try.f8, 54, w0, S0, [], 0, tontinelaw01_StuffBack.R A_2 c_3⟩
theorem tontinelaw01_StuffBack_l0_ok (n : Nat) (b_1 : (List UInt8)) (r_6 : (List UInt8)) (A_2 : Option Addr) (c_3 : Nat) (A_7 : Option Addr) (c_8 : Nat) (w0 : World) (S0 : Fam) :
    ∀ (k : Nat) (x_9 : Int), GoO (tontinelaw01_StuffBack.cx A_2 c_3 w0 S0) [(0, .slice A_2 b_1.length c_3), (3, .slice A_7 r_6.length c_8), (12, .slice A_7 r_6.length c_8), (13, .int .i64 (r_6.length : Int)), (14, .int .i64 x_9)] [] [Rd 0 Kd.u8 A_2 c_3 b_1, Ow 40 Kd.u8 A_7 c_8 r_6] [.code c8_17, .inLoop c8_17, .inBlock 0, .code c8_35] (tontinelaw01_StuffBack.l0 n b_1 r_6 k x_9) := by
  intro k
  induction k with
  | zero => intros; rw [tontinelaw01_StuffBack.l0.eq_1]; exact GoO.stop
  | succ k ih0 =>
    intro x_9
    rw [tontinelaw01_StuffBack.l0.eq_2]
    refine GoO.seq' c8_17e ?_
    refine GoO.region' (is := [0]) c8_18e (by kernel_rfl) ?_
    refine GoO.exec (is := [0]) (hs := [.p]) (rest := []) (ks := [0, 3, 12, 13, 14, 15]) (env' := [(0, .slice A_2 b_1.length c_3), (3, .slice A_7 r_6.length c_8), (12, .slice A_7 r_6.length c_8), (13, .int .i64 (r_6.length : Int)), (14, .int .i64 x_9), (15, .bool (decide (x_9 < (r_6.length : Int))))]) (H' := []) (ps := []) (by kernel_rfl) trivial ?_
    refine GoO.regionEnd ?_
    refine GoO.seq' c8_19e ?_
    refine GoO.ite' c8_20e (by kernel_rfl) (fun h10 => ?_) (fun h10 => ?_)
    · refine GoO.skip' c8_21e ?_
      refine GoO.seq' c8_23e ?_
      refine GoO.block' c8_24e ?_
      refine GoO.seq' c8_25e ?_
      refine GoO.region' (is := [0, 1, 2]) c8_26e (by kernel_rfl) ?_
      refine GoO.guard (fun h11 => ?_)
      refine OpTo.go (GoO.idx (kk := .i64) (e := 5) (K := Kd.u8) (A := A_7) (c := c_8) (xs := r_6) (iv := x_9) (j := 1) rfl (by kernel_rfl) (by kernel_rfl) (by kernel_rfl) (by kernel_rfl) rfl Reads.own rfl h11.1 h11.2 (by decide) rfl ?_)
      refine OpTo.go (GoO.ldE' (K := Kd.u8) (A := A_7) (c := c_8) (xs := r_6) (iN := x_9.toNat) (off := 0) (j := 1) rfl (by kernel_rfl) rfl Reads.own (idx_lt h11.1 h11.2) (by decide) (Opn.flat _ _ _ _ _) (v := fun _ => .int .u8 (((rdL r_6 x_9)).toNat : Int)) (fun _ => by kernel_rfl) _ (fun _ => rfl) (fun _ => ?_))
      refine GoO.exec (is := [2]) (hs := [.p]) (rest := []) (ks := [0, 3, 5, 12, 13, 14]) (env' := [(0, .slice A_2 b_1.length c_3), (3, .slice A_7 r_6.length c_8), (5, .int .u8 (((rdL r_6 x_9)).toNat : Int)), (12, .slice A_7 r_6.length c_8), (13, .int .i64 (r_6.length : Int)), (14, .int .i64 x_9)]) (H' := []) (ps := []) (by kernel_rfl) trivial ?_
      refine GoO.regionEnd ?_
      refine GoO.seq' c8_27e ?_
      refine GoO.region' (is := [0, 1]) c8_28e (by kernel_rfl) ?_
      refine GoO.exec (is := [0, 1]) (hs := [.p, .p]) (rest := []) (ks := [0, 3, 12, 13, 14, 19]) (env' := [(0, .slice A_2 b_1.length c_3), (3, .slice A_7 r_6.length c_8), (12, .slice A_7 r_6.length c_8), (13, .int .i64 (r_6.length : Int)), (14, .int .i64 x_9), (19, .bool ((((rdL r_6 x_9)).toNat : Int) == 0))]) (H' := []) (ps := []) (by kernel_rfl) trivial ?_
      refine GoO.regionEnd ?_
      refine GoO.ite' c8_29e (by kernel_rfl) (fun h12 => ?_) (fun h12 => ?_)
      · refine GoO.seq' c8_30e ?_
        refine GoO.region' (is := [0]) c8_31e (by kernel_rfl) ?_
        refine GoO.exec (is := [0]) (hs := [.p]) (rest := []) (ks := [2]) (env' := [(2, .bool false)]) (H' := []) (ps := []) (by kernel_rfl) trivial ?_
        refine GoO.regionEnd ?_
        exact GoO.ret' (h := c8_32e) (hs := []) (ps := []) (hk := []) (bk := []) Try.func8 () (by kernel_rfl) trivial (by kernel_rfl) (by kernel_rfl)
      · refine GoO.skip' c8_33e ?_
        refine GoO.inBlock ?_
        refine GoO.region' (is := [0, 1]) c8_34e (by kernel_rfl) ?_
        refine GoO.exec (is := [0, 1]) (hs := [.p, .p]) (rest := []) (ks := [0, 3, 12, 13, 14]) (env' := [(0, .slice A_2 b_1.length c_3), (3, .slice A_7 r_6.length c_8), (12, .slice A_7 r_6.length c_8), (13, .int .i64 (r_6.length : Int)), (14, .int .i64 (wi64 (x_9 + 1)))]) (H' := []) (ps := []) (by kernel_rfl) trivial ?_
        refine GoO.regionEnd ?_
        refine GoO.inLoop ?_
        exact GoO.sub (ks := [0, 3, 12, 13, 14]) (hk := []) (bk := [0, 1]) (by kernel_rfl) (by kernel_rfl) (by kernel_rfl) (ih0 (wi64 (x_9 + 1)))
    · refine GoO.exit' c8_22e rfl ?_
      refine GoO.seq' c8_35e ?_
      refine GoO.region' (is := [0, 1, 2, 3, 4, 5, 6]) c8_36e (by kernel_rfl) ?_
      refine GoO.exec (is := [0]) (hs := [.p]) (rest := [1, 2, 3, 4, 5, 6]) (ks := [0, 3, 22]) (env' := [(0, .slice A_2 b_1.length c_3), (3, .slice A_7 r_6.length c_8), (22, .slice A_7 r_6.length c_8)]) (H' := []) (ps := []) (by kernel_rfl) trivial ?_
      refine GoO.retag (t := 40) (u := 0) (j := 1) (hk := []) (bk := [0]) rfl rfl rfl rfl rfl rfl (by kernel_rfl) (by kernel_rfl) ?_
      refine GoO.own2rd (j := 0) rfl ?_
      refine OpTo.go (GoO.call rfl (by kernel_rfl) (by kernel_rfl) (stuff_Decode_ok n r_6 A_7 c_8) [[0]] [(41, 1)] [] [(0, 0)] (hks := []) (bks := [0, 1]) (by kernel_rfl) (by kernel_rfl) (by kernel_rfl) (.inl rfl) rfl rfl (by kernel_rfl) (by kernel_rfl) _ (fun _ _ => rfl) _ _ (fun _ _ => rfl) (fun _ _ => rfl) (fun _ _ => by kernel_rfl) (fun _ _ => by kernel_rfl) (fun r_13 x_19 => ?_))
      obtain ⟨A_14, c_15⟩ := x_19
      refine GoO.shape (env' := [(0, .slice A_2 b_1.length c_3), (3, .slice A_7 r_6.length c_8), (22, .slice A_7 r_6.length c_8), (23, .tuple ⟨[.slice A_14 r_13.1.length c_15, .int .i64 r_13.2]⟩)]) (H' := []) (B' := [Ow 41 Kd.u8 A_14 c_15 r_13.1, Rd 0 Kd.u8 A_7 c_8 r_6, Rd 0 Kd.u8 A_2 c_3 b_1]) (ks := [0, 3, 22, 23]) (by kernel_rfl) (by kernel_rfl) (by kernel_rfl) ?_
      refine GoO.exec (is := [2, 3, 4, 5, 6]) (hs := [.p, .p, .p, .p, .p]) (rest := []) (ks := [0, 3, 6, 7]) (env' := [(0, .slice A_2 b_1.length c_3), (3, .slice A_7 r_6.length c_8), (6, .slice A_14 r_13.1.length c_15), (7, .int .i64 r_13.2)]) (H' := []) (ps := []) (by kernel_rfl) trivial ?_
      refine GoO.regionEnd ?_
      refine GoO.seq' c8_37e ?_
      refine GoO.region' (is := [0, 1, 2, 3, 4, 5, 6, 7, 8, 9, 10, 11, 12, 13, 14, 15, 16, 17, 18, 19, 20, 21, 22, 23, 24, 25, 26, 27, 28]) c8_38e (by kernel_rfl) ?_
      refine GoO.exec (is := [0, 1, 2]) (hs := [.p, .p, .p]) (rest := [3, 4, 5, 6, 7, 8, 9, 10, 11, 12, 13, 14, 15, 16, 17, 18, 19, 20, 21, 22, 23, 24, 25, 26, 27, 28]) (ks := [0, 3, 6, 28]) (env' := [(0, .slice A_2 b_1.length c_3), (3, .slice A_7 r_6.length c_8), (6, .slice A_14 r_13.1.length c_15), (28, .bool (r_13.2 == 0))]) (H' := []) (ps := []) (by kernel_rfl) trivial ?_
      refine GoO.bsplit (t := 28) (by kernel_rfl) (fun h16 => ?_) (fun h16 => ?_)
      · refine GoO.exec (is := [3]) (hs := [.p]) (rest := [4, 5, 6, 7, 8, 9, 10, 11, 12, 13, 14, 15, 16, 17, 18, 19, 20, 21, 22, 23, 24, 25, 26, 27, 28]) (ks := [0, 3, 28, 29]) (env' := [(0, .slice A_2 b_1.length c_3), (3, .slice A_7 r_6.length c_8), (28, .bool true), (29, .slice A_14 r_13.1.length c_15)]) (H' := []) (ps := []) (by kernel_rfl) trivial ?_
        refine OpTo.go (GoO.toStr (e := 5) (A := A_14) (c := c_15) (xs := r_13.1) (j := 0) rfl (by kernel_rfl) (by kernel_rfl) (by kernel_rfl) (by kernel_rfl) rfl Reads.own rfl rfl ?_)
        refine GoO.exec (is := [5]) (hs := [.p]) (rest := [6, 7, 8, 9, 10, 11, 12, 13, 14, 15, 16, 17, 18, 19, 20, 21, 22, 23, 24, 25, 26, 27, 28]) (ks := [0, 3, 28, 30, 31]) (env' := [(0, .slice A_2 b_1.length c_3), (3, .slice A_7 r_6.length c_8), (28, .bool true), (30, .string (bs r_13.1)), (31, .slice A_2 b_1.length c_3)]) (H' := []) (ps := []) (by kernel_rfl) trivial ?_
        refine OpTo.go (GoO.toStr (e := 5) (A := A_2) (c := c_3) (xs := b_1) (j := 2) rfl (by kernel_rfl) (by kernel_rfl) (by kernel_rfl) (by kernel_rfl) rfl Reads.rd rfl rfl ?_)
        refine GoO.exec (is := [7, 8, 9]) (hs := [.p, .p, .p]) (rest := [10, 11, 12, 13, 14, 15, 16, 17, 18, 19, 20, 21, 22, 23, 24, 25, 26, 27, 28]) (ks := [0, 3, 35]) (env' := [(0, .slice A_2 b_1.length c_3), (3, .slice A_7 r_6.length c_8), (35, .bool (r_13.1 == b_1))]) (H' := []) (ps := []) (by kernel_rfl) trivial ?_
        refine GoO.bsplit (t := 35) (by kernel_rfl) (fun h17 => ?_) (fun h17 => ?_)
        · refine GoO.exec (is := [10, 11, 12, 13, 14, 15, 16]) (hs := [.p, .p, .p, .p, .p, .p, .p]) (rest := [17, 18, 19, 20, 21, 22, 23, 24, 25, 26, 27, 28]) (ks := [0, 3, 42]) (env' := [(0, .slice A_2 b_1.length c_3), (3, .slice A_7 r_6.length c_8), (42, .bool (decide ((r_6.length : Int) > (b_1.length : Int))))]) (H' := []) (ps := []) (by kernel_rfl) trivial ?_
          refine GoO.bsplit (t := 42) (by kernel_rfl) (fun h18 => ?_) (fun h18 => ?_)
          · refine GoO.exec (is := [17, 18, 19, 20, 21, 22, 23, 24, 25, 26, 27, 28]) (hs := [.p, .p, .p, .p, .p, .p, .p, .p, .p, .p, .p, .p]) (rest := []) (ks := [2]) (env' := [(2, .bool (decide ((r_6.length : Int) ≤ (wi64 ((wi64 ((b_1.length : Int) + (wi64 ((b_1.length : Int).tdiv 254)))) + 1)))))]) (H' := []) (ps := [(254 : Int) ≠ 0]) (by kernel_rfl) (And.intro (by decide) trivial) ?_
            refine GoO.regionEnd ?_
            exact GoO.ret' (h := c8_39e) (hs := []) (ps := []) (hk := []) (bk := []) Try.func8 () (by kernel_rfl) trivial (by kernel_rfl) (by kernel_rfl)
          · refine GoO.exec (is := [17, 18, 19, 20, 21, 22, 23, 24, 25, 26, 27, 28]) (hs := [.p, .p, .p, .p, .p, .p, .p, .p, .p, .p, .p, .p]) (rest := []) (ks := [2]) (env' := [(2, .bool false)]) (H' := []) (ps := []) (by kernel_rfl) trivial ?_
            refine GoO.regionEnd ?_
            exact GoO.ret' (h := c8_39e) (hs := []) (ps := []) (hk := []) (bk := []) Try.func8 () (by kernel_rfl) trivial (by kernel_rfl) (by kernel_rfl)
        · refine GoO.exec (is := [10, 11, 12, 13, 14, 15, 16, 17, 18, 19, 20, 21, 22, 23, 24, 25, 26, 27, 28]) (hs := [.p, .p, .p, .p, .p, .p, .p, .p, .p, .p, .p, .p, .p, .p, .p, .p, .p, .p, .p]) (rest := []) (ks := [2]) (env' := [(2, .bool false)]) (H' := []) (ps := []) (by kernel_rfl) trivial ?_
          refine GoO.regionEnd ?_
          exact GoO.ret' (h := c8_39e) (hs := []) (ps := []) (hk := []) (bk := []) Try.func8 () (by kernel_rfl) trivial (by kernel_rfl) (by kernel_rfl)
      · refine GoO.exec (is := [3, 4, 5, 6, 7, 8, 9, 10, 11, 12, 13, 14, 15, 16, 17, 18, 19, 20, 21, 22, 23, 24, 25, 26, 27, 28]) (hs := [.p, .p, .p, .p, .p, .p, .p, .p, .p, .p, .p, .p, .p, .p, .p, .p, .p, .p, .p, .p, .p, .p, .p, .p, .p, .p]) (rest := []) (ks := [2]) (env' := [(2, .bool false)]) (H' := []) (ps := []) (by kernel_rfl) trivial ?_
        refine GoO.regionEnd ?_
        exact GoO.ret' (h := c8_39e) (hs := []) (ps := []) (hk := []) (bk := []) Try.func8 () (by kernel_rfl) trivial (by kernel_rfl) (by kernel_rfl)
theorem tontinelaw01_StuffBack_ok (n : Nat) (b_1 : (List UInt8)) (A_2 : Option Addr) (c_3 : Nat) :
    Meets Try.prog 8 [.slice A_2 b_1.length c_3] 0 [] [] [Rd 0 Kd.u8 A_2 c_3 b_1] (tontinelaw01_StuffBack.f n b_1) (tontinelaw01_StuffBack.R A_2 c_3) := by
  refine Meets.of (c := c8_0) (n := 54) Try.func8 (by kernel_rfl) (by kernel_rfl) (by kernel_rfl) fun w0 S0 => ?_
  unfold tontinelaw01_StuffBack.f
  show GoO (tontinelaw01_StuffBack.cx A_2 c_3 w0 S0) [(0, .slice A_2 b_1.length c_3)] [] [Rd 0 Kd.u8 A_2 c_3 b_1] [.code c8_0] _
  refine GoO.seq' c8_0e ?_
  refine GoO.region' (is := [0]) c8_1e (by kernel_rfl) ?_
  refine GoO.exec (is := [0]) (hs := [.p]) (rest := []) (ks := [0]) (env' := [(0, .slice A_2 b_1.length c_3)]) (H' := []) (ps := []) (by kernel_rfl) trivial ?_
  refine GoO.regionEnd ?_
  refine GoO.seq' c8_2e ?_
  refine GoO.seq' c8_3e ?_
  refine GoO.region' (is := [0, 1]) c8_4e (by kernel_rfl) ?_
  refine OpTo.go (GoO.call rfl (by kernel_rfl) (by kernel_rfl) (tontinelaw01_begun_ok n) [[0]] [] [] [] (hks := []) (bks := [0]) (by kernel_rfl) (by kernel_rfl) (by kernel_rfl) (.inl rfl) rfl rfl (by kernel_rfl) (by kernel_rfl) _ (fun _ _ => rfl) _ _ (fun _ _ => rfl) (fun _ _ => rfl) (fun _ _ => by kernel_rfl) (fun _ _ => by kernel_rfl) (fun r_4 x_21 => ?_))
  refine GoO.shape (env' := [(0, .slice A_2 b_1.length c_3), (8, .bool r_4)]) (H' := []) (B' := [Rd 0 Kd.u8 A_2 c_3 b_1]) (ks := [0, 8]) (by kernel_rfl) (by kernel_rfl) (by kernel_rfl) ?_
  refine GoO.exec (is := [1]) (hs := [.p]) (rest := []) (ks := [0, 9]) (env' := [(0, .slice A_2 b_1.length c_3), (9, .bool (!r_4))]) (H' := []) (ps := []) (by kernel_rfl) trivial ?_
  refine GoO.regionEnd ?_
  refine GoO.ite' c8_5e (by kernel_rfl) (fun h5 => ?_) (fun h5 => ?_)
  · refine GoO.seq' c8_6e ?_
    refine GoO.region' (is := [0]) c8_7e (by kernel_rfl) ?_
    refine GoO.exec (is := [0]) (hs := [.p]) (rest := []) (ks := [2]) (env' := [(2, .bool false)]) (H' := []) (ps := []) (by kernel_rfl) trivial ?_
    refine GoO.regionEnd ?_
    exact GoO.ret' (h := c8_8e) (hs := []) (ps := []) (hk := []) (bk := []) Try.func8 () (by kernel_rfl) trivial (by kernel_rfl) (by kernel_rfl)
  · refine GoO.skip' c8_9e ?_
    refine GoO.seq' c8_10e ?_
    refine GoO.region' (is := [0, 1, 2]) c8_11e (by kernel_rfl) ?_
    refine GoO.exec (is := [0]) (hs := [.p]) (rest := [1, 2]) (ks := [0, 10]) (env' := [(0, .slice A_2 b_1.length c_3), (10, .slice A_2 b_1.length c_3)]) (H' := []) (ps := []) (by kernel_rfl) trivial ?_
    refine OpTo.go (GoO.call rfl (by kernel_rfl) (by kernel_rfl) (stuff_Encode_ok n b_1 A_2 c_3) [[0]] [(40, 1)] [] [(0, 0)] (hks := []) (bks := [0]) (by kernel_rfl) (by kernel_rfl) (by kernel_rfl) (.inl rfl) rfl rfl (by kernel_rfl) (by kernel_rfl) _ (fun _ _ => rfl) _ _ (fun _ _ => rfl) (fun _ _ => rfl) (fun _ _ => by kernel_rfl) (fun _ _ => by kernel_rfl) (fun r_6 x_20 => ?_))
    obtain ⟨A_7, c_8⟩ := x_20
    refine GoO.shape (env' := [(0, .slice A_2 b_1.length c_3), (10, .slice A_2 b_1.length c_3), (11, .slice A_7 r_6.length c_8)]) (H' := []) (B' := [Ow 40 Kd.u8 A_7 c_8 r_6, Rd 0 Kd.u8 A_2 c_3 b_1]) (ks := [0, 10, 11]) (by kernel_rfl) (by kernel_rfl) (by kernel_rfl) ?_
    refine GoO.exec (is := [2]) (hs := [.p]) (rest := []) (ks := [0, 3]) (env' := [(0, .slice A_2 b_1.length c_3), (3, .slice A_7 r_6.length c_8)]) (H' := []) (ps := []) (by kernel_rfl) trivial ?_
    refine GoO.regionEnd ?_
    refine GoO.seq' c8_12e ?_
    refine GoO.seq' c8_13e ?_
    refine GoO.region' (is := [0, 1, 2]) c8_14e (by kernel_rfl) ?_
    refine GoO.exec (is := [0, 1, 2]) (hs := [.p, .p, .p]) (rest := []) (ks := [0, 3, 12, 13, 14]) (env' := [(0, .slice A_2 b_1.length c_3), (3, .slice A_7 r_6.length c_8), (12, .slice A_7 r_6.length c_8), (13, .int .i64 (r_6.length : Int)), (14, .int .i64 0)]) (H' := []) (ps := []) (by kernel_rfl) trivial ?_
    refine GoO.regionEnd ?_
    refine GoO.block' c8_15e ?_
    refine GoO.loop' c8_16e ?_
    exact GoO.sub (ks := [0, 3, 12, 13, 14]) (hk := []) (bk := [1, 0]) (by kernel_rfl) (by kernel_rfl) (by kernel_rfl) (tontinelaw01_StuffBack_l0_ok n b_1 r_6 A_2 c_3 A_7 c_8 w0 S0 n 0)
end Go.GL
