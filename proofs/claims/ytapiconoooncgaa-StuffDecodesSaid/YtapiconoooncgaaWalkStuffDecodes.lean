import Derived.Test.YtapiconoooncgaaKindsT1
import Derived.Test.YtapiconoooncgaaProg
set_option linter.unusedVariables false
set_option linter.unusedSimpArgs false
set_option maxRecDepth 100000
namespace Go.GL
open Go Go.Proofs

/-! tontine/stuff.Decode -/
noncomputable def c22_0 : Code := bodyOf Try.f22
noncomputable def c22_1 : Code := cdL c22_0
noncomputable def c22_2 : Code := cdR c22_0
noncomputable def c22_3 : Code := cdL c22_2
noncomputable def c22_4 : Code := cdR c22_2
noncomputable def c22_5 : Code := cdL c22_4
noncomputable def c22_6 : Code := cdL c22_5
noncomputable def c22_7 : Code := cdL c22_6
noncomputable def c22_8 : Code := cdL c22_7
noncomputable def c22_9 : Code := cdL c22_8
noncomputable def c22_10 : Code := cdR c22_8
noncomputable def c22_11 : Code := cdL c22_10
noncomputable def c22_12 : Code := cdR c22_10
noncomputable def c22_13 : Code := cdR c22_7
noncomputable def c22_14 : Code := cdL c22_13
noncomputable def c22_15 : Code := cdL c22_14
noncomputable def c22_16 : Code := cdR c22_14
noncomputable def c22_17 : Code := cdL c22_16
noncomputable def c22_18 : Code := cdL c22_17
noncomputable def c22_19 : Code := cdR c22_17
noncomputable def c22_20 : Code := cdL c22_19
noncomputable def c22_21 : Code := cdL c22_20
noncomputable def c22_22 : Code := cdR c22_20
noncomputable def c22_23 : Code := cdR c22_19
noncomputable def c22_24 : Code := cdR c22_16
noncomputable def c22_25 : Code := cdL c22_24
noncomputable def c22_26 : Code := cdL c22_25
noncomputable def c22_27 : Code := cdR c22_25
noncomputable def c22_28 : Code := cdL c22_27
noncomputable def c22_29 : Code := cdL c22_28
noncomputable def c22_30 : Code := cdL c22_29
noncomputable def c22_31 : Code := cdR c22_29
noncomputable def c22_32 : Code := cdL c22_31
noncomputable def c22_33 : Code := cdL c22_32
noncomputable def c22_34 : Code := cdR c22_32
noncomputable def c22_35 : Code := cdR c22_31
noncomputable def c22_36 : Code := cdL c22_35
noncomputable def c22_37 : Code := cdL c22_36
noncomputable def c22_38 : Code := cdL c22_37
noncomputable def c22_39 : Code := cdR c22_37
noncomputable def c22_40 : Code := cdL c22_39
noncomputable def c22_41 : Code := cdL c22_40
noncomputable def c22_42 : Code := cdR c22_40
noncomputable def c22_43 : Code := cdL c22_42
noncomputable def c22_44 : Code := cdL c22_43
noncomputable def c22_45 : Code := cdR c22_43
noncomputable def c22_46 : Code := cdR c22_42
noncomputable def c22_47 : Code := cdR c22_39
noncomputable def c22_48 : Code := cdR c22_35
noncomputable def c22_49 : Code := cdR c22_24
noncomputable def c22_50 : Code := cdL c22_49
noncomputable def c22_51 : Code := cdR c22_49
noncomputable def c22_52 : Code := cdL c22_51
noncomputable def c22_53 : Code := cdL c22_52
noncomputable def c22_54 : Code := cdR c22_52
noncomputable def c22_55 : Code := cdL c22_54
noncomputable def c22_56 : Code := cdL c22_55
noncomputable def c22_57 : Code := cdL c22_56
noncomputable def c22_58 : Code := cdR c22_56
noncomputable def c22_59 : Code := cdL c22_58
noncomputable def c22_60 : Code := cdL c22_59
noncomputable def c22_61 : Code := cdR c22_59
noncomputable def c22_62 : Code := cdR c22_58
noncomputable def c22_63 : Code := cdR c22_55
noncomputable def c22_64 : Code := cdL c22_63
noncomputable def c22_65 : Code := cdR c22_63
noncomputable def c22_66 : Code := cdR c22_54
noncomputable def c22_67 : Code := cdR c22_51
noncomputable def c22_68 : Code := cdL c22_67
noncomputable def c22_69 : Code := cdR c22_67
noncomputable def c22_70 : Code := cdL c22_69
noncomputable def c22_71 : Code := cdR c22_69
noncomputable def c22_72 : Code := cdR c22_4
noncomputable def c22_73 : Code := cdL c22_72
noncomputable def c22_74 : Code := cdR c22_72
noncomputable def r22_1 : Array Oper := cdO c22_1
noncomputable def r22_3 : Array Oper := cdO c22_3
noncomputable def r22_9 : Array Oper := cdO c22_9
noncomputable def r22_15 : Array Oper := cdO c22_15
noncomputable def r22_18 : Array Oper := cdO c22_18
noncomputable def r22_21 : Array Oper := cdO c22_21
noncomputable def r22_26 : Array Oper := cdO c22_26
noncomputable def r22_30 : Array Oper := cdO c22_30
noncomputable def r22_38 : Array Oper := cdO c22_38
noncomputable def r22_41 : Array Oper := cdO c22_41
noncomputable def r22_44 : Array Oper := cdO c22_44
noncomputable def r22_47 : Array Oper := cdO c22_47
noncomputable def r22_48 : Array Oper := cdO c22_48
noncomputable def r22_50 : Array Oper := cdO c22_50
noncomputable def r22_53 : Array Oper := cdO c22_53
noncomputable def r22_57 : Array Oper := cdO c22_57
noncomputable def r22_60 : Array Oper := cdO c22_60
noncomputable def r22_64 : Array Oper := cdO c22_64
noncomputable def r22_68 : Array Oper := cdO c22_68
noncomputable def r22_70 : Array Oper := cdO c22_70
noncomputable def r22_73 : Array Oper := cdO c22_73
theorem c22_0e : c22_0 = .seq c22_1 c22_2 := by kernel_rfl
theorem c22_1e : c22_1 = .region 0 r22_1 false := by kernel_rfl
theorem c22_2e : c22_2 = .seq c22_3 c22_4 := by kernel_rfl
theorem c22_3e : c22_3 = .region 1 r22_3 false := by kernel_rfl
theorem c22_4e : c22_4 = .seq c22_5 c22_72 := by kernel_rfl
theorem c22_5e : c22_5 = .block 0 c22_6 := by kernel_rfl
theorem c22_6e : c22_6 = .loop c22_7 := by kernel_rfl
theorem c22_7e : c22_7 = .seq c22_8 c22_13 := by kernel_rfl
theorem c22_8e : c22_8 = .seq c22_9 c22_10 := by kernel_rfl
theorem c22_9e : c22_9 = .region 2 r22_9 false := by kernel_rfl
theorem c22_10e : c22_10 = .cond (cdC c22_10) c22_11 c22_12 := by kernel_rfl
theorem c22_11e : c22_11 = .skip := by kernel_rfl
theorem c22_12e : c22_12 = .exit 0 := by kernel_rfl
theorem c22_13e : c22_13 = .block 1 c22_14 := by kernel_rfl
theorem c22_14e : c22_14 = .seq c22_15 c22_16 := by kernel_rfl
theorem c22_15e : c22_15 = .region 3 r22_15 false := by kernel_rfl
theorem c22_16e : c22_16 = .seq c22_17 c22_24 := by kernel_rfl
theorem c22_17e : c22_17 = .seq c22_18 c22_19 := by kernel_rfl
theorem c22_18e : c22_18 = .region 4 r22_18 false := by kernel_rfl
theorem c22_19e : c22_19 = .cond (cdC c22_19) c22_20 c22_23 := by kernel_rfl
theorem c22_20e : c22_20 = .seq c22_21 c22_22 := by kernel_rfl
theorem c22_21e : c22_21 = .region 5 r22_21 false := by kernel_rfl
theorem c22_22e : c22_22 = .ret := by kernel_rfl
theorem c22_23e : c22_23 = .skip := by kernel_rfl
theorem c22_24e : c22_24 = .seq c22_25 c22_49 := by kernel_rfl
theorem c22_25e : c22_25 = .seq c22_26 c22_27 := by kernel_rfl
theorem c22_26e : c22_26 = .region 6 r22_26 false := by kernel_rfl
theorem c22_27e : c22_27 = .block 2 c22_28 := by kernel_rfl
theorem c22_28e : c22_28 = .loop c22_29 := by kernel_rfl
theorem c22_29e : c22_29 = .seq c22_30 c22_31 := by kernel_rfl
theorem c22_30e : c22_30 = .region 7 r22_30 false := by kernel_rfl
theorem c22_31e : c22_31 = .seq c22_32 c22_35 := by kernel_rfl
theorem c22_32e : c22_32 = .cond (cdC c22_32) c22_33 c22_34 := by kernel_rfl
theorem c22_33e : c22_33 = .skip := by kernel_rfl
theorem c22_34e : c22_34 = .exit 2 := by kernel_rfl
theorem c22_35e : c22_35 = .seq c22_36 c22_48 := by kernel_rfl
theorem c22_36e : c22_36 = .block 3 c22_37 := by kernel_rfl
theorem c22_37e : c22_37 = .seq c22_38 c22_39 := by kernel_rfl
theorem c22_38e : c22_38 = .region 8 r22_38 false := by kernel_rfl
theorem c22_39e : c22_39 = .seq c22_40 c22_47 := by kernel_rfl
theorem c22_40e : c22_40 = .seq c22_41 c22_42 := by kernel_rfl
theorem c22_41e : c22_41 = .region 9 r22_41 false := by kernel_rfl
theorem c22_42e : c22_42 = .cond (cdC c22_42) c22_43 c22_46 := by kernel_rfl
theorem c22_43e : c22_43 = .seq c22_44 c22_45 := by kernel_rfl
theorem c22_44e : c22_44 = .region 10 r22_44 false := by kernel_rfl
theorem c22_45e : c22_45 = .ret := by kernel_rfl
theorem c22_46e : c22_46 = .skip := by kernel_rfl
theorem c22_47e : c22_47 = .region 11 r22_47 false := by kernel_rfl
theorem c22_48e : c22_48 = .region 12 r22_48 false := by kernel_rfl
theorem c22_49e : c22_49 = .seq c22_50 c22_51 := by kernel_rfl
theorem c22_50e : c22_50 = .region 13 r22_50 false := by kernel_rfl
theorem c22_51e : c22_51 = .seq c22_52 c22_67 := by kernel_rfl
theorem c22_52e : c22_52 = .seq c22_53 c22_54 := by kernel_rfl
theorem c22_53e : c22_53 = .region 14 r22_53 false := by kernel_rfl
theorem c22_54e : c22_54 = .cond (cdC c22_54) c22_55 c22_66 := by kernel_rfl
theorem c22_55e : c22_55 = .seq c22_56 c22_63 := by kernel_rfl
theorem c22_56e : c22_56 = .seq c22_57 c22_58 := by kernel_rfl
theorem c22_57e : c22_57 = .region 15 r22_57 false := by kernel_rfl
theorem c22_58e : c22_58 = .cond (cdC c22_58) c22_59 c22_62 := by kernel_rfl
theorem c22_59e : c22_59 = .seq c22_60 c22_61 := by kernel_rfl
theorem c22_60e : c22_60 = .region 16 r22_60 false := by kernel_rfl
theorem c22_61e : c22_61 = .ret := by kernel_rfl
theorem c22_62e : c22_62 = .skip := by kernel_rfl
theorem c22_63e : c22_63 = .seq c22_64 c22_65 := by kernel_rfl
theorem c22_64e : c22_64 = .region 17 r22_64 false := by kernel_rfl
theorem c22_65e : c22_65 = .ret := by kernel_rfl
theorem c22_66e : c22_66 = .skip := by kernel_rfl
theorem c22_67e : c22_67 = .seq c22_68 c22_69 := by kernel_rfl
theorem c22_68e : c22_68 = .region 18 r22_68 false := by kernel_rfl
theorem c22_69e : c22_69 = .cond (cdC c22_69) c22_70 c22_71 := by kernel_rfl
theorem c22_70e : c22_70 = .region 19 r22_70 false := by kernel_rfl
theorem c22_71e : c22_71 = .skip := by kernel_rfl
theorem c22_72e : c22_72 = .seq c22_73 c22_74 := by kernel_rfl
theorem c22_73e : c22_73 = .region 20 r22_73 false := by kernel_rfl
theorem c22_74e : c22_74 = .ret := by kernel_rfl
noncomputable def stuff_Decode.R (A_2 : Option Addr) (c_3 : Nat) : Pst ((List UInt8) × Int) where
  ε := Option Addr × Nat
  v := fun r x => .tuple ⟨[.slice x.1 r.1.length x.2, .int .i64 r.2]⟩
  H := fun r x => []
  B := fun r x => [Ow 1 Kd.u8 x.1 x.2 r.1]
noncomputable def stuff_Decode.cx (A_2 : Option Addr) (c_3 : Nat) (w0 : World) (S0 : Fam) : Cx ((List UInt8) × Int) := ⟨Try.prog, 22, Try.f22, 52, w0, S0, [], 0, stuff_Decode.R A_2 c_3⟩
theorem stuff_Decode_l1_ok (n : Nat) (L0 : (List UInt8) → (List UInt8) → Option ((List UInt8) × Int)) (b_4 : (List UInt8)) (out_7 : (List UInt8)) (A_2 : Option Addr) (c_3 : Nat) (A_5 : Option Addr) (c_6 : Nat) (A_8 : Option Addr) (c_9 : Nat) (A_15 : Option Addr) (c_16 : Nat) (w0 : World) (S0 : Fam) (ih0 : ∀ (b_4 : (List UInt8)) (out_7 : (List UInt8)) (A_5 : Option Addr) (c_6 : Nat) (A_8 : Option Addr) (c_9 : Nat), GoO (stuff_Decode.cx A_2 c_3 w0 S0) [(0, .slice A_5 b_4.length c_6), (4, .slice A_8 out_7.length c_9)] [] [Rd 0 Kd.u8 A_5 c_6 b_4, Ow 41 Kd.u8 A_8 c_9 out_7] [.code c22_7, .inLoop c22_7, .inBlock 0, .code c22_72] (L0 b_4 out_7)) :
    ∀ (k : Nat) (out_18 : (List UInt8)) (x_21 : Int) (A_19 : Option Addr) (c_20 : Nat), GoO (stuff_Decode.cx A_2 c_3 w0 S0) [(0, .slice A_5 b_4.length c_6), (4, .slice A_19 out_18.length c_20), (5, .int .i64 (wi64 (((rdL b_4 (0 : Int))).toNat : Int))), (25, .slice A_15 ((b_4.take (wi64 (((rdL b_4 (0 : Int))).toNat : Int)).toNat).drop (1 : Int).toNat).length c_16), (26, .int .i64 (((b_4.take (wi64 (((rdL b_4 (0 : Int))).toNat : Int)).toNat).drop (1 : Int).toNat).length : Int)), (27, .int .i64 x_21)] [] [Rd 0 Kd.u8 A_5 c_6 b_4, Ow 41 Kd.u8 A_19 c_20 out_18, Rd 0 Kd.u8 A_15 c_16 ((b_4.take (wi64 (((rdL b_4 (0 : Int))).toNat : Int)).toNat).drop (1 : Int).toNat)] [.code c22_29, .inLoop c22_29, .inBlock 2, .code c22_49, .inBlock 1, .inLoop c22_7, .inBlock 0, .code c22_72] (stuff_Decode.l1 n L0 b_4 k out_18 x_21) := by
  intro k
  induction k with
  | zero => intros; rw [stuff_Decode.l1.eq_1]; exact GoO.stop
  | succ k ih1 =>
    intro out_18 x_21 A_19 c_20
    rw [stuff_Decode.l1.eq_2]
    refine GoO.seq' c22_29e ?_
    refine GoO.region' (is := [0]) c22_30e (by kernel_rfl) ?_
    refine GoO.exec (is := [0]) (hs := [.p]) (rest := []) (ks := [0, 4, 5, 25, 26, 27, 28]) (env' := [(0, .slice A_5 b_4.length c_6), (4, .slice A_19 out_18.length c_20), (5, .int .i64 (wi64 (((rdL b_4 (0 : Int))).toNat : Int))), (25, .slice A_15 ((b_4.take (wi64 (((rdL b_4 (0 : Int))).toNat : Int)).toNat).drop (1 : Int).toNat).length c_16), (26, .int .i64 (((b_4.take (wi64 (((rdL b_4 (0 : Int))).toNat : Int)).toNat).drop (1 : Int).toNat).length : Int)), (27, .int .i64 x_21), (28, .bool (decide (x_21 < (((b_4.take (wi64 (((rdL b_4 (0 : Int))).toNat : Int)).toNat).drop (1 : Int).toNat).length : Int))))]) (H' := []) (ps := []) (by kernel_rfl) trivial ?_
    refine GoO.regionEnd ?_
    refine GoO.seq' c22_31e ?_
    refine GoO.ite' c22_32e (by kernel_rfl) (fun h22 => ?_) (fun h22 => ?_)
    · refine GoO.skip' c22_33e ?_
      refine GoO.seq' c22_35e ?_
      refine GoO.block' c22_36e ?_
      refine GoO.seq' c22_37e ?_
      refine GoO.region' (is := [0, 1, 2]) c22_38e (by kernel_rfl) ?_
      refine GoO.guard (fun h23 => ?_)
      refine OpTo.go (GoO.idx (kk := .i64) (e := 5) (K := Kd.u8) (A := A_15) (c := c_16) (xs := (b_4.take (wi64 (((rdL b_4 (0 : Int))).toNat : Int)).toNat).drop (1 : Int).toNat) (iv := x_21) (j := 2) rfl (by kernel_rfl) (by kernel_rfl) (by kernel_rfl) (by kernel_rfl) rfl Reads.rd rfl h23.1 h23.2 (by decide) rfl ?_)
      refine OpTo.go (GoO.ldE' (K := Kd.u8) (A := A_15) (c := c_16) (xs := (b_4.take (wi64 (((rdL b_4 (0 : Int))).toNat : Int)).toNat).drop (1 : Int).toNat) (iN := x_21.toNat) (off := 0) (j := 2) rfl (by kernel_rfl) rfl Reads.rd (idx_lt h23.1 h23.2) (by decide) (Opn.flat _ _ _ _ _) (v := fun _ => .int .u8 (((rdL ((b_4.take (wi64 (((rdL b_4 (0 : Int))).toNat : Int)).toNat).drop (1 : Int).toNat) x_21)).toNat : Int)) (fun _ => by kernel_rfl) _ (fun _ => rfl) (fun _ => ?_))
      refine GoO.exec (is := [2]) (hs := [.p]) (rest := []) (ks := [0, 4, 5, 7, 25, 26, 27]) (env' := [(0, .slice A_5 b_4.length c_6), (4, .slice A_19 out_18.length c_20), (5, .int .i64 (wi64 (((rdL b_4 (0 : Int))).toNat : Int))), (7, .int .u8 (((rdL ((b_4.take (wi64 (((rdL b_4 (0 : Int))).toNat : Int)).toNat).drop (1 : Int).toNat) x_21)).toNat : Int)), (25, .slice A_15 ((b_4.take (wi64 (((rdL b_4 (0 : Int))).toNat : Int)).toNat).drop (1 : Int).toNat).length c_16), (26, .int .i64 (((b_4.take (wi64 (((rdL b_4 (0 : Int))).toNat : Int)).toNat).drop (1 : Int).toNat).length : Int)), (27, .int .i64 x_21)]) (H' := []) (ps := []) (by kernel_rfl) trivial ?_
      refine GoO.regionEnd ?_
      refine GoO.seq' c22_39e ?_
      refine GoO.seq' c22_40e ?_
      refine GoO.region' (is := [0, 1]) c22_41e (by kernel_rfl) ?_
      refine GoO.exec (is := [0, 1]) (hs := [.p, .p]) (rest := []) (ks := [0, 4, 5, 7, 25, 26, 27, 32]) (env' := [(0, .slice A_5 b_4.length c_6), (4, .slice A_19 out_18.length c_20), (5, .int .i64 (wi64 (((rdL b_4 (0 : Int))).toNat : Int))), (7, .int .u8 (((rdL ((b_4.take (wi64 (((rdL b_4 (0 : Int))).toNat : Int)).toNat).drop (1 : Int).toNat) x_21)).toNat : Int)), (25, .slice A_15 ((b_4.take (wi64 (((rdL b_4 (0 : Int))).toNat : Int)).toNat).drop (1 : Int).toNat).length c_16), (26, .int .i64 (((b_4.take (wi64 (((rdL b_4 (0 : Int))).toNat : Int)).toNat).drop (1 : Int).toNat).length : Int)), (27, .int .i64 x_21), (32, .bool ((((rdL ((b_4.take (wi64 (((rdL b_4 (0 : Int))).toNat : Int)).toNat).drop (1 : Int).toNat) x_21)).toNat : Int) == 0))]) (H' := []) (ps := []) (by kernel_rfl) trivial ?_
      refine GoO.regionEnd ?_
      refine GoO.ite' c22_42e (by kernel_rfl) (fun h24 => ?_) (fun h24 => ?_)
      · refine GoO.seq' c22_43e ?_
        refine GoO.region' (is := [0, 1]) c22_44e (by kernel_rfl) ?_
        refine GoO.exec (is := [0, 1]) (hs := [.p, .p]) (rest := []) (ks := [2, 3]) (env' := [(2, .slice none ([] : List UInt8).length 0), (3, .int .i64 2)]) (H' := []) (ps := []) (by kernel_rfl) trivial ?_
        refine GoO.regionEnd ?_
        refine GoO.nilOwn Kd.u8 1 ?_
        exact GoO.ret' (h := c22_45e) (hs := []) (ps := []) (hk := []) (bk := [0]) Try.func22 (⟨none, 0⟩ : Option Addr × Nat) (by kernel_rfl) trivial (by kernel_rfl) (by kernel_rfl)
      · refine GoO.skip' c22_46e ?_
        refine GoO.region' (is := [0, 1, 2, 3, 4]) c22_47e (by kernel_rfl) ?_
        refine GoO.exec (is := [0, 1]) (hs := [.p, .p]) (rest := [2, 3, 4]) (ks := [0, 5, 25, 26, 27, 33, 34]) (env' := [(0, .slice A_5 b_4.length c_6), (5, .int .i64 (wi64 (((rdL b_4 (0 : Int))).toNat : Int))), (25, .slice A_15 ((b_4.take (wi64 (((rdL b_4 (0 : Int))).toNat : Int)).toNat).drop (1 : Int).toNat).length c_16), (26, .int .i64 (((b_4.take (wi64 (((rdL b_4 (0 : Int))).toNat : Int)).toNat).drop (1 : Int).toNat).length : Int)), (27, .int .i64 x_21), (33, .slice A_19 out_18.length c_20), (34, .int .u8 (((rdL ((b_4.take (wi64 (((rdL b_4 (0 : Int))).toNat : Int)).toNat).drop (1 : Int).toNat) x_21)).toNat : Int))]) (H' := []) (ps := []) (by kernel_rfl) trivial ?_
        refine OpTo.go (GoO.lit (e := 5) (K := Kd.u8) rfl (by kernel_rfl) (by kernel_rfl) (cs := [.int .u8 (((rdL ((b_4.take (wi64 (((rdL b_4 (0 : Int))).toNat : Int)).toNat).drop (1 : Int).toNat) x_21)).toNat : Int)]) (by kernel_rfl) [(rdL ((b_4.take (wi64 (((rdL b_4 (0 : Int))).toNat : Int)).toNat).drop (1 : Int).toNat) x_21)] (by kernel_rfl) (by kernel_rfl) (fun w S hB => ⟨[.int .u8 (((rdL ((b_4.take (wi64 (((rdL b_4 (0 : Int))).toNat : Int)).toNat).drop (1 : Int).toNat) x_21)).toNat : Int)], _, rfl, rfl, rfl⟩) 40 _ (fun _ _ => rfl) (fun A_25 c_26 => ?_))
        refine GoO.guard (fun h27 => ?_)
        refine OpTo.go (GoO.appW (e := 5) (K := Kd.u8) (A := A_19) (c := c_20) (tg := 41) (bytes := 1) (zs := [.int .u8 0]) (xs := out_18) (ys := [(rdL ((b_4.take (wi64 (((rdL b_4 (0 : Int))).toNat : Int)).toNat).drop (1 : Int).toNat) x_21)]) (xv := .slice A_25 [(rdL ((b_4.take (wi64 (((rdL b_4 (0 : Int))).toNat : Int)).toNat).drop (1 : Int).toNat) x_21)].length c_26) (j := 2) (bk := [0, 1, 3]) rfl (by kernel_rfl) (by kernel_rfl) (by kernel_rfl) (by kernel_rfl) rfl (by kernel_rfl) rfl (fun w S hB => SrcIs.row (Reads.own w S (hB _ (List.mem_of_getElem? (i := 0) rfl)))) h27 rfl rfl rfl rfl _ (fun _ _ => rfl) (fun A_28 c_29 => ?_))
        refine GoO.exec (is := [4]) (hs := [.p]) (rest := []) (ks := [0, 4, 5, 25, 26, 27]) (env' := [(0, .slice A_5 b_4.length c_6), (4, .slice A_28 (out_18 ++ [(rdL ((b_4.take (wi64 (((rdL b_4 (0 : Int))).toNat : Int)).toNat).drop (1 : Int).toNat) x_21)]).length c_29), (5, .int .i64 (wi64 (((rdL b_4 (0 : Int))).toNat : Int))), (25, .slice A_15 ((b_4.take (wi64 (((rdL b_4 (0 : Int))).toNat : Int)).toNat).drop (1 : Int).toNat).length c_16), (26, .int .i64 (((b_4.take (wi64 (((rdL b_4 (0 : Int))).toNat : Int)).toNat).drop (1 : Int).toNat).length : Int)), (27, .int .i64 x_21)]) (H' := []) (ps := []) (by kernel_rfl) trivial ?_
        refine GoO.regionEnd ?_
        refine GoO.inBlock ?_
        refine GoO.region' (is := [0, 1]) c22_48e (by kernel_rfl) ?_
        refine GoO.exec (is := [0, 1]) (hs := [.p, .p]) (rest := []) (ks := [0, 4, 5, 25, 26, 27]) (env' := [(0, .slice A_5 b_4.length c_6), (4, .slice A_28 (out_18 ++ [(rdL ((b_4.take (wi64 (((rdL b_4 (0 : Int))).toNat : Int)).toNat).drop (1 : Int).toNat) x_21)]).length c_29), (5, .int .i64 (wi64 (((rdL b_4 (0 : Int))).toNat : Int))), (25, .slice A_15 ((b_4.take (wi64 (((rdL b_4 (0 : Int))).toNat : Int)).toNat).drop (1 : Int).toNat).length c_16), (26, .int .i64 (((b_4.take (wi64 (((rdL b_4 (0 : Int))).toNat : Int)).toNat).drop (1 : Int).toNat).length : Int)), (27, .int .i64 (wi64 (x_21 + 1)))]) (H' := []) (ps := []) (by kernel_rfl) trivial ?_
        refine GoO.regionEnd ?_
        refine GoO.inLoop ?_
        exact GoO.sub (ks := [0, 4, 5, 25, 26, 27]) (hk := []) (bk := [2, 0, 3]) (by kernel_rfl) (by kernel_rfl) (by kernel_rfl) (ih1 (out_18 ++ [(rdL ((b_4.take (wi64 (((rdL b_4 (0 : Int))).toNat : Int)).toNat).drop (1 : Int).toNat) x_21)]) (wi64 (x_21 + 1)) A_28 c_29)
    · refine GoO.exit' c22_34e rfl ?_
      refine GoO.seq' c22_49e ?_
      refine GoO.region' (is := [0, 1, 2, 3]) c22_50e (by kernel_rfl) ?_
      refine GoO.exec (is := [0, 1]) (hs := [.p, .p]) (rest := [2, 3]) (ks := [4, 5, 38, 39]) (env' := [(4, .slice A_19 out_18.length c_20), (5, .int .i64 (wi64 (((rdL b_4 (0 : Int))).toNat : Int))), (38, .slice A_5 b_4.length c_6), (39, .int .i64 (wi64 (((rdL b_4 (0 : Int))).toNat : Int)))]) (H' := []) (ps := []) (by kernel_rfl) trivial ?_
      refine GoO.guard (fun h32 => ?_)
      refine OpTo.go (GoO.slc (e := 5) (K := Kd.u8) (A := A_5) (c := c_6) (xs := b_4) (j := 0) (l := (wi64 (((rdL b_4 (0 : Int))).toNat : Int))) (h := (b_4.length : Int)) rfl (by kernel_rfl) (by kernel_rfl) (by kernel_rfl) rfl Reads.rd rfl (by kernel_rfl) (by kernel_rfl) h32.1 h32.2.1 h32.2.2 _ (fun _ _ => rfl) (fun A_30 c_31 => ?_))
      refine GoO.exec (is := [3]) (hs := [.p]) (rest := []) (ks := [0, 4, 5]) (env' := [(0, .slice A_30 ((b_4.take (b_4.length : Int).toNat).drop (wi64 (((rdL b_4 (0 : Int))).toNat : Int)).toNat).length c_31), (4, .slice A_19 out_18.length c_20), (5, .int .i64 (wi64 (((rdL b_4 (0 : Int))).toNat : Int)))]) (H' := []) (ps := []) (by kernel_rfl) trivial ?_
      refine GoO.regionEnd ?_
      refine GoO.seq' c22_51e ?_
      refine GoO.seq' c22_52e ?_
      refine GoO.region' (is := [0, 1, 2]) c22_53e (by kernel_rfl) ?_
      refine GoO.exec (is := [0, 1, 2]) (hs := [.p, .p, .p]) (rest := []) (ks := [0, 4, 5, 43]) (env' := [(0, .slice A_30 ((b_4.take (b_4.length : Int).toNat).drop (wi64 (((rdL b_4 (0 : Int))).toNat : Int)).toNat).length c_31), (4, .slice A_19 out_18.length c_20), (5, .int .i64 (wi64 (((rdL b_4 (0 : Int))).toNat : Int))), (43, .bool ((((b_4.take (b_4.length : Int).toNat).drop (wi64 (((rdL b_4 (0 : Int))).toNat : Int)).toNat).length : Int) == 0))]) (H' := []) (ps := []) (by kernel_rfl) trivial ?_
      refine GoO.regionEnd ?_
      refine GoO.ite' c22_54e (by kernel_rfl) (fun h33 => ?_) (fun h33 => ?_)
      · refine GoO.seq' c22_55e ?_
        refine GoO.seq' c22_56e ?_
        refine GoO.region' (is := [0, 1]) c22_57e (by kernel_rfl) ?_
        refine GoO.exec (is := [0, 1]) (hs := [.p, .p]) (rest := []) (ks := [4, 45]) (env' := [(4, .slice A_19 out_18.length c_20), (45, .bool ((wi64 (((rdL b_4 (0 : Int))).toNat : Int)) == 255))]) (H' := []) (ps := []) (by kernel_rfl) trivial ?_
        refine GoO.regionEnd ?_
        refine GoO.ite' c22_58e (by kernel_rfl) (fun h34 => ?_) (fun h34 => ?_)
        · refine GoO.seq' c22_59e ?_
          refine GoO.region' (is := [0, 1]) c22_60e (by kernel_rfl) ?_
          refine GoO.exec (is := [0, 1]) (hs := [.p, .p]) (rest := []) (ks := [2, 3]) (env' := [(2, .slice none ([] : List UInt8).length 0), (3, .int .i64 2)]) (H' := []) (ps := []) (by kernel_rfl) trivial ?_
          refine GoO.regionEnd ?_
          refine GoO.nilOwn Kd.u8 1 ?_
          exact GoO.ret' (h := c22_61e) (hs := []) (ps := []) (hk := []) (bk := [0]) Try.func22 (⟨none, 0⟩ : Option Addr × Nat) (by kernel_rfl) trivial (by kernel_rfl) (by kernel_rfl)
        · refine GoO.skip' c22_62e ?_
          refine GoO.seq' c22_63e ?_
          refine GoO.region' (is := [0, 1, 2]) c22_64e (by kernel_rfl) ?_
          refine GoO.exec (is := [0, 1, 2]) (hs := [.p, .p, .p]) (rest := []) (ks := [2, 3]) (env' := [(2, .slice A_19 out_18.length c_20), (3, .int .i64 0)]) (H' := []) (ps := []) (by kernel_rfl) trivial ?_
          refine GoO.regionEnd ?_
          refine GoO.retag (t := 41) (u := 1) (j := 2) (hk := []) (bk := [0, 1, 3]) rfl rfl rfl rfl rfl rfl (by kernel_rfl) (by kernel_rfl) ?_
          exact GoO.ret' (h := c22_65e) (hs := []) (ps := []) (hk := []) (bk := [0]) Try.func22 (⟨A_19, c_20⟩ : Option Addr × Nat) (by kernel_rfl) trivial (by kernel_rfl) (by kernel_rfl)
      · refine GoO.skip' c22_66e ?_
        refine GoO.seq' c22_67e ?_
        refine GoO.region' (is := [0, 1]) c22_68e (by kernel_rfl) ?_
        refine GoO.exec (is := [0, 1]) (hs := [.p, .p]) (rest := []) (ks := [0, 4, 48]) (env' := [(0, .slice A_30 ((b_4.take (b_4.length : Int).toNat).drop (wi64 (((rdL b_4 (0 : Int))).toNat : Int)).toNat).length c_31), (4, .slice A_19 out_18.length c_20), (48, .bool (decide ((wi64 (((rdL b_4 (0 : Int))).toNat : Int)) < 255)))]) (H' := []) (ps := []) (by kernel_rfl) trivial ?_
        refine GoO.regionEnd ?_
        refine GoO.ite' c22_69e (by kernel_rfl) (fun h35 => ?_) (fun h35 => ?_)
        · refine GoO.region' (is := [0, 1, 2, 3]) c22_70e (by kernel_rfl) ?_
          refine GoO.exec (is := [0]) (hs := [.p]) (rest := [1, 2, 3]) (ks := [0, 49]) (env' := [(0, .slice A_30 ((b_4.take (b_4.length : Int).toNat).drop (wi64 (((rdL b_4 (0 : Int))).toNat : Int)).toNat).length c_31), (49, .slice A_19 out_18.length c_20)]) (H' := []) (ps := []) (by kernel_rfl) trivial ?_
          refine OpTo.go (GoO.lit (e := 5) (K := Kd.u8) rfl (by kernel_rfl) (by kernel_rfl) (cs := [.int .u8 0]) (by kernel_rfl) [(0 : UInt8)] (by kernel_rfl) (by kernel_rfl) (fun w S hB => ⟨[.int .u8 0], _, rfl, rfl, rfl⟩) 42 _ (fun _ _ => rfl) (fun A_36 c_37 => ?_))
          refine GoO.guard (fun h38 => ?_)
          refine OpTo.go (GoO.appW (e := 5) (K := Kd.u8) (A := A_19) (c := c_20) (tg := 41) (bytes := 1) (zs := [.int .u8 0]) (xs := out_18) (ys := [(0 : UInt8)]) (xv := .slice A_36 [(0 : UInt8)].length c_37) (j := 3) (bk := [0, 1, 2, 4]) rfl (by kernel_rfl) (by kernel_rfl) (by kernel_rfl) (by kernel_rfl) rfl (by kernel_rfl) rfl (fun w S hB => SrcIs.row (Reads.own w S (hB _ (List.mem_of_getElem? (i := 0) rfl)))) h38 rfl rfl rfl rfl _ (fun _ _ => rfl) (fun A_39 c_40 => ?_))
          refine GoO.exec (is := [3]) (hs := [.p]) (rest := []) (ks := [0, 4]) (env' := [(0, .slice A_30 ((b_4.take (b_4.length : Int).toNat).drop (wi64 (((rdL b_4 (0 : Int))).toNat : Int)).toNat).length c_31), (4, .slice A_39 (out_18 ++ [(0 : UInt8)]).length c_40)]) (H' := []) (ps := []) (by kernel_rfl) trivial ?_
          refine GoO.regionEnd ?_
          refine GoO.inBlock ?_
          refine GoO.inLoop ?_
          exact GoO.sub (ks := [0, 4]) (hk := []) (bk := [2, 0]) (by kernel_rfl) (by kernel_rfl) (by kernel_rfl) (ih0 ((b_4.take (b_4.length : Int).toNat).drop (wi64 (((rdL b_4 (0 : Int))).toNat : Int)).toNat) (out_18 ++ [(0 : UInt8)]) A_30 c_31 A_39 c_40)
        · refine GoO.skip' c22_71e ?_
          refine GoO.inBlock ?_
          refine GoO.inLoop ?_
          exact GoO.sub (ks := [0, 4]) (hk := []) (bk := [0, 2]) (by kernel_rfl) (by kernel_rfl) (by kernel_rfl) (ih0 ((b_4.take (b_4.length : Int).toNat).drop (wi64 (((rdL b_4 (0 : Int))).toNat : Int)).toNat) out_18 A_30 c_31 A_19 c_20)
theorem stuff_Decode_j0_ok (n : Nat) (L0 : (List UInt8) → (List UInt8) → Option ((List UInt8) × Int)) (b_4 : (List UInt8)) (out_7 : (List UInt8)) (A_2 : Option Addr) (c_3 : Nat) (A_5 : Option Addr) (c_6 : Nat) (A_8 : Option Addr) (c_9 : Nat) (w0 : World) (S0 : Fam) (ih0 : ∀ (b_4 : (List UInt8)) (out_7 : (List UInt8)) (A_5 : Option Addr) (c_6 : Nat) (A_8 : Option Addr) (c_9 : Nat), GoO (stuff_Decode.cx A_2 c_3 w0 S0) [(0, .slice A_5 b_4.length c_6), (4, .slice A_8 out_7.length c_9)] [] [Rd 0 Kd.u8 A_5 c_6 b_4, Ow 41 Kd.u8 A_8 c_9 out_7] [.code c22_7, .inLoop c22_7, .inBlock 0, .code c22_72] (L0 b_4 out_7)) (b_13 : Bool) :
    GoO (stuff_Decode.cx A_2 c_3 w0 S0) [(0, .slice A_5 b_4.length c_6), (4, .slice A_8 out_7.length c_9), (5, .int .i64 (wi64 (((rdL b_4 (0 : Int))).toNat : Int))), (22, .bool b_13)] [] [Rd 0 Kd.u8 A_5 c_6 b_4, Ow 41 Kd.u8 A_8 c_9 out_7] [.code c22_19, .code c22_24, .inBlock 1, .inLoop c22_7, .inBlock 0, .code c22_72] (stuff_Decode.j0 n L0 b_4 out_7 b_13) := by
  unfold stuff_Decode.j0
  refine GoO.ite' c22_19e (by kernel_rfl) (fun h14 => ?_) (fun h14 => ?_)
  · refine GoO.seq' c22_20e ?_
    refine GoO.region' (is := [0, 1]) c22_21e (by kernel_rfl) ?_
    refine GoO.exec (is := [0, 1]) (hs := [.p, .p]) (rest := []) (ks := [2, 3]) (env' := [(2, .slice none ([] : List UInt8).length 0), (3, .int .i64 2)]) (H' := []) (ps := []) (by kernel_rfl) trivial ?_
    refine GoO.regionEnd ?_
    refine GoO.nilOwn Kd.u8 1 ?_
    exact GoO.ret' (h := c22_22e) (hs := []) (ps := []) (hk := []) (bk := [0]) Try.func22 (⟨none, 0⟩ : Option Addr × Nat) (by kernel_rfl) trivial (by kernel_rfl) (by kernel_rfl)
  · refine GoO.skip' c22_23e ?_
    refine GoO.seq' c22_24e ?_
    refine GoO.seq' c22_25e ?_
    refine GoO.region' (is := [0, 1, 2, 3, 4]) c22_26e (by kernel_rfl) ?_
    refine GoO.exec (is := [0, 1]) (hs := [.p, .p]) (rest := [2, 3, 4]) (ks := [0, 4, 5, 23, 24]) (env' := [(0, .slice A_5 b_4.length c_6), (4, .slice A_8 out_7.length c_9), (5, .int .i64 (wi64 (((rdL b_4 (0 : Int))).toNat : Int))), (23, .slice A_5 b_4.length c_6), (24, .int .i64 (wi64 (((rdL b_4 (0 : Int))).toNat : Int)))]) (H' := []) (ps := []) (by kernel_rfl) trivial ?_
    refine GoO.guard (fun h17 => ?_)
    refine OpTo.go (GoO.slc (e := 5) (K := Kd.u8) (A := A_5) (c := c_6) (xs := b_4) (j := 0) (l := (1 : Int)) (h := (wi64 (((rdL b_4 (0 : Int))).toNat : Int))) rfl (by kernel_rfl) (by kernel_rfl) (by kernel_rfl) rfl Reads.rd rfl (by kernel_rfl) (by kernel_rfl) h17.1 h17.2.1 h17.2.2 _ (fun _ _ => rfl) (fun A_15 c_16 => ?_))
    refine GoO.exec (is := [3, 4]) (hs := [.p, .p]) (rest := []) (ks := [0, 4, 5, 25, 26, 27]) (env' := [(0, .slice A_5 b_4.length c_6), (4, .slice A_8 out_7.length c_9), (5, .int .i64 (wi64 (((rdL b_4 (0 : Int))).toNat : Int))), (25, .slice A_15 ((b_4.take (wi64 (((rdL b_4 (0 : Int))).toNat : Int)).toNat).drop (1 : Int).toNat).length c_16), (26, .int .i64 (((b_4.take (wi64 (((rdL b_4 (0 : Int))).toNat : Int)).toNat).drop (1 : Int).toNat).length : Int)), (27, .int .i64 0)]) (H' := []) (ps := []) (by kernel_rfl) trivial ?_
    refine GoO.regionEnd ?_
    refine GoO.block' c22_27e ?_
    refine GoO.loop' c22_28e ?_
    exact GoO.sub (ks := [0, 4, 5, 25, 26, 27]) (hk := []) (bk := [1, 2, 0]) (by kernel_rfl) (by kernel_rfl) (by kernel_rfl) (stuff_Decode_l1_ok n L0 b_4 out_7 A_2 c_3 A_5 c_6 A_8 c_9 A_15 c_16 w0 S0 ih0 n out_7 0 A_8 c_9)
theorem stuff_Decode_l0_ok (n : Nat) (A_2 : Option Addr) (c_3 : Nat) (w0 : World) (S0 : Fam) :
    ∀ (k : Nat) (b_4 : (List UInt8)) (out_7 : (List UInt8)) (A_5 : Option Addr) (c_6 : Nat) (A_8 : Option Addr) (c_9 : Nat), GoO (stuff_Decode.cx A_2 c_3 w0 S0) [(0, .slice A_5 b_4.length c_6), (4, .slice A_8 out_7.length c_9)] [] [Rd 0 Kd.u8 A_5 c_6 b_4, Ow 41 Kd.u8 A_8 c_9 out_7] [.code c22_7, .inLoop c22_7, .inBlock 0, .code c22_72] (stuff_Decode.l0 n k b_4 out_7) := by
  intro k
  induction k with
  | zero => intros; rw [stuff_Decode.l0.eq_1]; exact GoO.stop
  | succ k ih0 =>
    intro b_4 out_7 A_5 c_6 A_8 c_9
    rw [stuff_Decode.l0.eq_2]
    refine GoO.seq' c22_7e ?_
    refine GoO.seq' c22_8e ?_
    refine GoO.region' (is := [0, 1, 2]) c22_9e (by kernel_rfl) ?_
    refine GoO.exec (is := [0, 1, 2]) (hs := [.p, .p, .p]) (rest := []) (ks := [0, 4, 10]) (env' := [(0, .slice A_5 b_4.length c_6), (4, .slice A_8 out_7.length c_9), (10, .bool (decide ((b_4.length : Int) > 0)))]) (H' := []) (ps := []) (by kernel_rfl) trivial ?_
    refine GoO.regionEnd ?_
    refine GoO.ite' c22_10e (by kernel_rfl) (fun h10 => ?_) (fun h10 => ?_)
    · refine GoO.skip' c22_11e ?_
      refine GoO.block' c22_13e ?_
      refine GoO.seq' c22_14e ?_
      refine GoO.region' (is := [0, 1, 2, 3, 4]) c22_15e (by kernel_rfl) ?_
      refine GoO.exec (is := [0]) (hs := [.p]) (rest := [1, 2, 3, 4]) (ks := [0, 4, 11]) (env' := [(0, .slice A_5 b_4.length c_6), (4, .slice A_8 out_7.length c_9), (11, .slice A_5 b_4.length c_6)]) (H' := []) (ps := []) (by kernel_rfl) trivial ?_
      refine GoO.guard (fun h11 => ?_)
      refine OpTo.go (GoO.idx (kk := .i64) (e := 5) (K := Kd.u8) (A := A_5) (c := c_6) (xs := b_4) (iv := 0) (j := 0) rfl (by kernel_rfl) (by kernel_rfl) (by kernel_rfl) (by kernel_rfl) rfl Reads.rd rfl h11.1 h11.2 (by decide) rfl ?_)
      refine OpTo.go (GoO.ldE' (K := Kd.u8) (A := A_5) (c := c_6) (xs := b_4) (iN := (0 : Int).toNat) (off := 0) (j := 0) rfl (by kernel_rfl) rfl Reads.rd (idx_lt h11.1 h11.2) (by decide) (Opn.flat _ _ _ _ _) (v := fun _ => .int .u8 (((rdL b_4 (0 : Int))).toNat : Int)) (fun _ => by kernel_rfl) _ (fun _ => rfl) (fun _ => ?_))
      refine GoO.exec (is := [3, 4]) (hs := [.p, .p]) (rest := []) (ks := [0, 4, 5]) (env' := [(0, .slice A_5 b_4.length c_6), (4, .slice A_8 out_7.length c_9), (5, .int .i64 (wi64 (((rdL b_4 (0 : Int))).toNat : Int)))]) (H' := []) (ps := []) (by kernel_rfl) trivial ?_
      refine GoO.regionEnd ?_
      refine GoO.seq' c22_16e ?_
      refine GoO.seq' c22_17e ?_
      refine GoO.region' (is := [0, 1, 2, 3, 4, 5, 6, 7]) c22_18e (by kernel_rfl) ?_
      refine GoO.exec (is := [0, 1, 2]) (hs := [.p, .p, .p]) (rest := [3, 4, 5, 6, 7]) (ks := [0, 4, 5, 17]) (env' := [(0, .slice A_5 b_4.length c_6), (4, .slice A_8 out_7.length c_9), (5, .int .i64 (wi64 (((rdL b_4 (0 : Int))).toNat : Int))), (17, .bool ((wi64 (((rdL b_4 (0 : Int))).toNat : Int)) == 0))]) (H' := []) (ps := []) (by kernel_rfl) trivial ?_
      refine GoO.bsplit (t := 17) (by kernel_rfl) (fun h12 => ?_) (fun h12 => ?_)
      · refine GoO.exec (is := [3, 4, 5, 6, 7]) (hs := [.p, .p, .p, .p, .p]) (rest := []) (ks := [0, 4, 5, 22]) (env' := [(0, .slice A_5 b_4.length c_6), (4, .slice A_8 out_7.length c_9), (5, .int .i64 (wi64 (((rdL b_4 (0 : Int))).toNat : Int))), (22, .bool true)]) (H' := []) (ps := []) (by kernel_rfl) trivial ?_
        refine GoO.regionEnd ?_
        exact GoO.sub (ks := [0, 4, 5, 22]) (hk := []) (bk := [0, 1]) (by kernel_rfl) (by kernel_rfl) (by kernel_rfl) (stuff_Decode_j0_ok n (stuff_Decode.l0 n k) b_4 out_7 A_2 c_3 A_5 c_6 A_8 c_9 w0 S0 ih0 true)
      · refine GoO.exec (is := [3, 4, 5, 6, 7]) (hs := [.p, .p, .p, .p, .p]) (rest := []) (ks := [0, 4, 5, 22]) (env' := [(0, .slice A_5 b_4.length c_6), (4, .slice A_8 out_7.length c_9), (5, .int .i64 (wi64 (((rdL b_4 (0 : Int))).toNat : Int))), (22, .bool (decide ((wi64 (((rdL b_4 (0 : Int))).toNat : Int)) > (b_4.length : Int))))]) (H' := []) (ps := []) (by kernel_rfl) trivial ?_
        refine GoO.regionEnd ?_
        exact GoO.sub (ks := [0, 4, 5, 22]) (hk := []) (bk := [0, 1]) (by kernel_rfl) (by kernel_rfl) (by kernel_rfl) (stuff_Decode_j0_ok n (stuff_Decode.l0 n k) b_4 out_7 A_2 c_3 A_5 c_6 A_8 c_9 w0 S0 ih0 (decide ((wi64 (((rdL b_4 (0 : Int))).toNat : Int)) > (b_4.length : Int))))
    · refine GoO.exit' c22_12e rfl ?_
      refine GoO.seq' c22_72e ?_
      refine GoO.region' (is := [0, 1]) c22_73e (by kernel_rfl) ?_
      refine GoO.exec (is := [0, 1]) (hs := [.p, .p]) (rest := []) (ks := [2, 3]) (env' := [(2, .slice none ([] : List UInt8).length 0), (3, .int .i64 2)]) (H' := []) (ps := []) (by kernel_rfl) trivial ?_
      refine GoO.regionEnd ?_
      refine GoO.nilOwn Kd.u8 1 ?_
      exact GoO.ret' (h := c22_74e) (hs := []) (ps := []) (hk := []) (bk := [0]) Try.func22 (⟨none, 0⟩ : Option Addr × Nat) (by kernel_rfl) trivial (by kernel_rfl) (by kernel_rfl)
theorem stuff_Decode_ok (n : Nat) (b_1 : (List UInt8)) (A_2 : Option Addr) (c_3 : Nat) :
    Meets Try.prog 22 [.slice A_2 b_1.length c_3] 0 [] [] [Rd 0 Kd.u8 A_2 c_3 b_1] (stuff_Decode.f n b_1) (stuff_Decode.R A_2 c_3) := by
  refine Meets.of (c := c22_0) (n := 52) Try.func22 (by kernel_rfl) (by kernel_rfl) (by kernel_rfl) fun w0 S0 => ?_
  unfold stuff_Decode.f
  show GoO (stuff_Decode.cx A_2 c_3 w0 S0) [(0, .slice A_2 b_1.length c_3)] [] [Rd 0 Kd.u8 A_2 c_3 b_1] [.code c22_0] _
  refine GoO.seq' c22_0e ?_
  refine GoO.region' (is := [0, 1]) c22_1e (by kernel_rfl) ?_
  refine GoO.exec (is := [0, 1]) (hs := [.p, .p]) (rest := []) (ks := [0]) (env' := [(0, .slice A_2 b_1.length c_3)]) (H' := []) (ps := []) (by kernel_rfl) trivial ?_
  refine GoO.regionEnd ?_
  refine GoO.seq' c22_2e ?_
  refine GoO.region' (is := [0]) c22_3e (by kernel_rfl) ?_
  refine GoO.exec (is := [0]) (hs := [.p]) (rest := []) (ks := [0, 4]) (env' := [(0, .slice A_2 b_1.length c_3), (4, .slice none ([] : List UInt8).length 0)]) (H' := []) (ps := []) (by kernel_rfl) trivial ?_
  refine GoO.regionEnd ?_
  refine GoO.seq' c22_4e ?_
  refine GoO.block' c22_5e ?_
  refine GoO.loop' c22_6e ?_
  refine GoO.nilOwn Kd.u8 41 ?_
  exact GoO.sub (ks := [0, 4]) (hk := []) (bk := [1, 0]) (by kernel_rfl) (by kernel_rfl) (by kernel_rfl) (stuff_Decode_l0_ok n A_2 c_3 w0 S0 n b_1 ([] : List UInt8) A_2 c_3 none 0)

/-! tontine/stuff.Encode -/
noncomputable def c20_0 : Code := bodyOf Try.f20
noncomputable def c20_1 : Code := cdL c20_0
noncomputable def c20_2 : Code := cdR c20_0
noncomputable def c20_3 : Code := cdL c20_2
noncomputable def c20_4 : Code := cdR c20_2
noncomputable def c20_5 : Code := cdL c20_4
noncomputable def c20_6 : Code := cdR c20_4
noncomputable def c20_7 : Code := cdL c20_6
noncomputable def c20_8 : Code := cdL c20_7
noncomputable def c20_9 : Code := cdR c20_7
noncomputable def c20_10 : Code := cdL c20_9
noncomputable def c20_11 : Code := cdL c20_10
noncomputable def c20_12 : Code := cdL c20_11
noncomputable def c20_13 : Code := cdR c20_11
noncomputable def c20_14 : Code := cdL c20_13
noncomputable def c20_15 : Code := cdL c20_14
noncomputable def c20_16 : Code := cdR c20_14
noncomputable def c20_17 : Code := cdR c20_13
noncomputable def c20_18 : Code := cdL c20_17
noncomputable def c20_19 : Code := cdL c20_18
noncomputable def c20_20 : Code := cdL c20_19
noncomputable def c20_21 : Code := cdR c20_19
noncomputable def c20_22 : Code := cdL c20_21
noncomputable def c20_23 : Code := cdL c20_22
noncomputable def c20_24 : Code := cdR c20_22
noncomputable def c20_25 : Code := cdL c20_24
noncomputable def c20_26 : Code := cdR c20_24
noncomputable def c20_27 : Code := cdR c20_21
noncomputable def c20_28 : Code := cdL c20_27
noncomputable def c20_29 : Code := cdR c20_27
noncomputable def c20_30 : Code := cdL c20_29
noncomputable def c20_31 : Code := cdL c20_30
noncomputable def c20_32 : Code := cdR c20_30
noncomputable def c20_33 : Code := cdL c20_32
noncomputable def c20_34 : Code := cdR c20_32
noncomputable def c20_35 : Code := cdR c20_29
noncomputable def c20_36 : Code := cdR c20_17
noncomputable def c20_37 : Code := cdR c20_6
noncomputable def c20_38 : Code := cdL c20_37
noncomputable def c20_39 : Code := cdR c20_37
noncomputable def c20_40 : Code := cdL c20_39
noncomputable def c20_41 : Code := cdR c20_39
noncomputable def r20_1 : Array Oper := cdO c20_1
noncomputable def r20_3 : Array Oper := cdO c20_3
noncomputable def r20_5 : Array Oper := cdO c20_5
noncomputable def r20_8 : Array Oper := cdO c20_8
noncomputable def r20_12 : Array Oper := cdO c20_12
noncomputable def r20_20 : Array Oper := cdO c20_20
noncomputable def r20_23 : Array Oper := cdO c20_23
noncomputable def r20_25 : Array Oper := cdO c20_25
noncomputable def r20_28 : Array Oper := cdO c20_28
noncomputable def r20_31 : Array Oper := cdO c20_31
noncomputable def r20_33 : Array Oper := cdO c20_33
noncomputable def r20_34 : Array Oper := cdO c20_34
noncomputable def r20_36 : Array Oper := cdO c20_36
noncomputable def r20_38 : Array Oper := cdO c20_38
noncomputable def r20_40 : Array Oper := cdO c20_40
theorem c20_0e : c20_0 = .seq c20_1 c20_2 := by kernel_rfl
theorem c20_1e : c20_1 = .region 0 r20_1 false := by kernel_rfl
theorem c20_2e : c20_2 = .seq c20_3 c20_4 := by kernel_rfl
theorem c20_3e : c20_3 = .region 1 r20_3 false := by kernel_rfl
theorem c20_4e : c20_4 = .seq c20_5 c20_6 := by kernel_rfl
theorem c20_5e : c20_5 = .region 2 r20_5 false := by kernel_rfl
theorem c20_6e : c20_6 = .seq c20_7 c20_37 := by kernel_rfl
theorem c20_7e : c20_7 = .seq c20_8 c20_9 := by kernel_rfl
theorem c20_8e : c20_8 = .region 3 r20_8 false := by kernel_rfl
theorem c20_9e : c20_9 = .block 0 c20_10 := by kernel_rfl
theorem c20_10e : c20_10 = .loop c20_11 := by kernel_rfl
theorem c20_11e : c20_11 = .seq c20_12 c20_13 := by kernel_rfl
theorem c20_12e : c20_12 = .region 4 r20_12 false := by kernel_rfl
theorem c20_13e : c20_13 = .seq c20_14 c20_17 := by kernel_rfl
theorem c20_14e : c20_14 = .cond (cdC c20_14) c20_15 c20_16 := by kernel_rfl
theorem c20_15e : c20_15 = .skip := by kernel_rfl
theorem c20_16e : c20_16 = .exit 0 := by kernel_rfl
theorem c20_17e : c20_17 = .seq c20_18 c20_36 := by kernel_rfl
theorem c20_18e : c20_18 = .block 1 c20_19 := by kernel_rfl
theorem c20_19e : c20_19 = .seq c20_20 c20_21 := by kernel_rfl
theorem c20_20e : c20_20 = .region 5 r20_20 false := by kernel_rfl
theorem c20_21e : c20_21 = .seq c20_22 c20_27 := by kernel_rfl
theorem c20_22e : c20_22 = .seq c20_23 c20_24 := by kernel_rfl
theorem c20_23e : c20_23 = .region 6 r20_23 false := by kernel_rfl
theorem c20_24e : c20_24 = .cond (cdC c20_24) c20_25 c20_26 := by kernel_rfl
theorem c20_25e : c20_25 = .region 7 r20_25 false := by kernel_rfl
theorem c20_26e : c20_26 = .skip := by kernel_rfl
theorem c20_27e : c20_27 = .seq c20_28 c20_29 := by kernel_rfl
theorem c20_28e : c20_28 = .region 8 r20_28 false := by kernel_rfl
theorem c20_29e : c20_29 = .cond (cdC c20_29) c20_30 c20_35 := by kernel_rfl
theorem c20_30e : c20_30 = .seq c20_31 c20_32 := by kernel_rfl
theorem c20_31e : c20_31 = .region 9 r20_31 false := by kernel_rfl
theorem c20_32e : c20_32 = .seq c20_33 c20_34 := by kernel_rfl
theorem c20_33e : c20_33 = .region 10 r20_33 false := by kernel_rfl
theorem c20_34e : c20_34 = .region 11 r20_34 false := by kernel_rfl
theorem c20_35e : c20_35 = .skip := by kernel_rfl
theorem c20_36e : c20_36 = .region 12 r20_36 false := by kernel_rfl
theorem c20_37e : c20_37 = .seq c20_38 c20_39 := by kernel_rfl
theorem c20_38e : c20_38 = .region 13 r20_38 false := by kernel_rfl
theorem c20_39e : c20_39 = .seq c20_40 c20_41 := by kernel_rfl
theorem c20_40e : c20_40 = .region 14 r20_40 false := by kernel_rfl
theorem c20_41e : c20_41 = .ret := by kernel_rfl
noncomputable def stuff_Encode.R (A_2 : Option Addr) (c_3 : Nat) : Pst (List UInt8) where
  ε := Option Addr × Nat
  v := fun r x => .slice x.1 r.length x.2
  H := fun r x => []
  B := fun r x => [Ow 1 Kd.u8 x.1 x.2 r]
noncomputable def stuff_Encode.cx (A_2 : Option Addr) (c_3 : Nat) (w0 : World) (S0 : Fam) : Cx (List UInt8) := ⟨Try.prog, 20, Try.f20, 59, w0, S0, [], 0, stuff_Encode.R A_2 c_3⟩
theorem stuff_Encode_j1_ok (n : Nat) (L0 : (List UInt8) → Int → Int → Option (List UInt8)) (b_1 : (List UInt8)) (out_7 : (List UInt8)) (at_10 : Int) (x_11 : Int) (out_20 : (List UInt8)) (A_2 : Option Addr) (c_3 : Nat) (A_8 : Option Addr) (c_9 : Nat) (A_21 : Option Addr) (c_22 : Nat) (w0 : World) (S0 : Fam) (ih0 : ∀ (out_7 : (List UInt8)) (at_10 : Int) (x_11 : Int) (A_8 : Option Addr) (c_9 : Nat), GoO (stuff_Encode.cx A_2 c_3 w0 S0) [(3, .slice A_8 out_7.length c_9), (4, .int .i64 at_10), (15, .slice A_2 b_1.length c_3), (16, .int .i64 (b_1.length : Int)), (17, .int .i64 x_11)] [] [Ow 40 Kd.u8 A_8 c_9 out_7, Rd 0 Kd.u8 A_2 c_3 b_1] [.code c20_11, .inLoop c20_11, .inBlock 0, .code c20_37] (L0 out_7 at_10 x_11)) (b_24 : Bool) :
    GoO (stuff_Encode.cx A_2 c_3 w0 S0) [(3, .slice A_21 out_20.length c_22), (4, .int .i64 at_10), (15, .slice A_2 b_1.length c_3), (16, .int .i64 (b_1.length : Int)), (17, .int .i64 x_11), (35, .bool b_24)] [] [Ow 40 Kd.u8 A_21 c_22 out_20, Rd 0 Kd.u8 A_2 c_3 b_1] [.code c20_29, .inBlock 1, .code c20_36, .inLoop c20_11, .inBlock 0, .code c20_37] (stuff_Encode.j1 n L0 at_10 x_11 out_20 b_24) := by
  unfold stuff_Encode.j1
  refine GoO.ite' c20_29e (by kernel_rfl) (fun h25 => ?_) (fun h25 => ?_)
  · refine GoO.seq' c20_30e ?_
    refine GoO.region' (is := [0, 1, 2, 3, 4, 5, 6, 7, 8]) c20_31e (by kernel_rfl) ?_
    refine GoO.exec (is := [0, 1, 2, 3, 4, 5, 6]) (hs := [.p, .p, .p, .p, .p, .p, .p]) (rest := [7, 8]) (ks := [3, 15, 16, 17, 36, 37, 42]) (env' := [(3, .slice A_21 out_20.length c_22), (15, .slice A_2 b_1.length c_3), (16, .int .i64 (b_1.length : Int)), (17, .int .i64 x_11), (36, .slice A_21 out_20.length c_22), (37, .int .i64 at_10), (42, .int .u8 (wu8 (wi64 ((out_20.length : Int) - at_10))))]) (H' := []) (ps := []) (by kernel_rfl) trivial ?_
    refine GoO.guard (fun h26 => ?_)
    refine OpTo.go (GoO.idx (kk := .i64) (e := 5) (K := Kd.u8) (A := A_21) (c := c_22) (xs := out_20) (iv := at_10) (j := 0) rfl (by kernel_rfl) (by kernel_rfl) (by kernel_rfl) (by kernel_rfl) rfl Reads.own rfl h26.1 h26.2 (by decide) rfl ?_)
    refine OpTo.go (GoO.stE (K := Kd.u8) (A := A_21) (c := c_22) (xs := out_20) (iN := at_10.toNat) (off := 0) (tg := 40) (j := 0) (v := .int .u8 (wu8 (wi64 ((out_20.length : Int) - at_10)))) rfl (by kernel_rfl) (by kernel_rfl) rfl (idx_lt h26.1 h26.2) (by decide) (by kernel_rfl) (by kernel_rfl) (by kernel_rfl) (u8of (wi64 ((out_20.length : Int) - at_10))) (fun w S cs _ hr => ⟨_, by subst hr; exact stored_flat rfl, (congrArg (fun v => [v]) (u8cell _))⟩) rfl ?_)
    refine GoO.reval (t := 3) (v := .slice A_21 out_20.length c_22) (v' := .slice A_21 (out_20.set at_10.toNat (u8of (wi64 ((out_20.length : Int) - at_10)))).length c_22) (by kernel_rfl) (by simp) ?_
    refine GoO.reval (t := 36) (v := .slice A_21 out_20.length c_22) (v' := .slice A_21 (out_20.set at_10.toNat (u8of (wi64 ((out_20.length : Int) - at_10)))).length c_22) (by kernel_rfl) (by simp) ?_
    refine GoO.regionEnd ?_
    refine GoO.seq' c20_32e ?_
    refine GoO.region' (is := [0, 1, 2]) c20_33e (by kernel_rfl) ?_
    refine GoO.exec (is := [0, 1, 2]) (hs := [.p, .p, .p]) (rest := []) (ks := [3, 4, 15, 16, 17]) (env' := [(3, .slice A_21 (out_20.set at_10.toNat (u8of (wi64 ((out_20.length : Int) - at_10)))).length c_22), (4, .int .i64 ((out_20.set at_10.toNat (u8of (wi64 ((out_20.length : Int) - at_10)))).length : Int)), (15, .slice A_2 b_1.length c_3), (16, .int .i64 (b_1.length : Int)), (17, .int .i64 x_11)]) (H' := []) (ps := []) (by kernel_rfl) trivial ?_
    refine GoO.regionEnd ?_
    refine GoO.region' (is := [0, 1, 2, 3]) c20_34e (by kernel_rfl) ?_
    refine GoO.exec (is := [0]) (hs := [.p]) (rest := [1, 2, 3]) (ks := [4, 15, 16, 17, 46]) (env' := [(4, .int .i64 ((out_20.set at_10.toNat (u8of (wi64 ((out_20.length : Int) - at_10)))).length : Int)), (15, .slice A_2 b_1.length c_3), (16, .int .i64 (b_1.length : Int)), (17, .int .i64 x_11), (46, .slice A_21 (out_20.set at_10.toNat (u8of (wi64 ((out_20.length : Int) - at_10)))).length c_22)]) (H' := []) (ps := []) (by kernel_rfl) trivial ?_
    refine OpTo.go (GoO.lit (e := 5) (K := Kd.u8) rfl (by kernel_rfl) (by kernel_rfl) (cs := [.int .u8 0]) (by kernel_rfl) [(0 : UInt8)] (by kernel_rfl) (by kernel_rfl) (fun w S hB => ⟨[.int .u8 0], _, rfl, rfl, rfl⟩) 42 _ (fun _ _ => rfl) (fun A_27 c_28 => ?_))
    refine GoO.guard (fun h29 => ?_)
    refine OpTo.go (GoO.appW (e := 5) (K := Kd.u8) (A := A_21) (c := c_22) (tg := 40) (bytes := 1) (zs := [.int .u8 0]) (xs := out_20.set at_10.toNat (u8of (wi64 ((out_20.length : Int) - at_10)))) (ys := [(0 : UInt8)]) (xv := .slice A_27 [(0 : UInt8)].length c_28) (j := 1) (bk := [0, 2]) rfl (by kernel_rfl) (by kernel_rfl) (by kernel_rfl) (by kernel_rfl) rfl (by kernel_rfl) rfl (fun w S hB => SrcIs.row (Reads.own w S (hB _ (List.mem_of_getElem? (i := 0) rfl)))) h29 rfl rfl rfl rfl _ (fun _ _ => rfl) (fun A_30 c_31 => ?_))
    refine GoO.exec (is := [3]) (hs := [.p]) (rest := []) (ks := [3, 4, 15, 16, 17]) (env' := [(3, .slice A_30 ((out_20.set at_10.toNat (u8of (wi64 ((out_20.length : Int) - at_10)))) ++ [(0 : UInt8)]).length c_31), (4, .int .i64 ((out_20.set at_10.toNat (u8of (wi64 ((out_20.length : Int) - at_10)))).length : Int)), (15, .slice A_2 b_1.length c_3), (16, .int .i64 (b_1.length : Int)), (17, .int .i64 x_11)]) (H' := []) (ps := []) (by kernel_rfl) trivial ?_
    refine GoO.regionEnd ?_
    refine GoO.inBlock ?_
    refine GoO.region' (is := [0, 1]) c20_36e (by kernel_rfl) ?_
    refine GoO.exec (is := [0, 1]) (hs := [.p, .p]) (rest := []) (ks := [3, 4, 15, 16, 17]) (env' := [(3, .slice A_30 ((out_20.set at_10.toNat (u8of (wi64 ((out_20.length : Int) - at_10)))) ++ [(0 : UInt8)]).length c_31), (4, .int .i64 ((out_20.set at_10.toNat (u8of (wi64 ((out_20.length : Int) - at_10)))).length : Int)), (15, .slice A_2 b_1.length c_3), (16, .int .i64 (b_1.length : Int)), (17, .int .i64 (wi64 (x_11 + 1)))]) (H' := []) (ps := []) (by kernel_rfl) trivial ?_
    refine GoO.regionEnd ?_
    refine GoO.inLoop ?_
    exact GoO.sub (ks := [3, 4, 15, 16, 17]) (hk := []) (bk := [0, 2]) (by kernel_rfl) (by kernel_rfl) (by kernel_rfl) (ih0 ((out_20.set at_10.toNat (u8of (wi64 ((out_20.length : Int) - at_10)))) ++ [(0 : UInt8)]) ((out_20.set at_10.toNat (u8of (wi64 ((out_20.length : Int) - at_10)))).length : Int) (wi64 (x_11 + 1)) A_30 c_31)
  · refine GoO.skip' c20_35e ?_
    refine GoO.inBlock ?_
    refine GoO.region' (is := [0, 1]) c20_36e (by kernel_rfl) ?_
    refine GoO.exec (is := [0, 1]) (hs := [.p, .p]) (rest := []) (ks := [3, 4, 15, 16, 17]) (env' := [(3, .slice A_21 out_20.length c_22), (4, .int .i64 at_10), (15, .slice A_2 b_1.length c_3), (16, .int .i64 (b_1.length : Int)), (17, .int .i64 (wi64 (x_11 + 1)))]) (H' := []) (ps := []) (by kernel_rfl) trivial ?_
    refine GoO.regionEnd ?_
    refine GoO.inLoop ?_
    exact GoO.sub (ks := [3, 4, 15, 16, 17]) (hk := []) (bk := [0, 1]) (by kernel_rfl) (by kernel_rfl) (by kernel_rfl) (ih0 out_20 at_10 (wi64 (x_11 + 1)) A_21 c_22)
theorem stuff_Encode_j0_ok (n : Nat) (L0 : (List UInt8) → Int → Int → Option (List UInt8)) (b_1 : (List UInt8)) (out_7 : (List UInt8)) (at_10 : Int) (x_11 : Int) (A_2 : Option Addr) (c_3 : Nat) (A_8 : Option Addr) (c_9 : Nat) (w0 : World) (S0 : Fam) (ih0 : ∀ (out_7 : (List UInt8)) (at_10 : Int) (x_11 : Int) (A_8 : Option Addr) (c_9 : Nat), GoO (stuff_Encode.cx A_2 c_3 w0 S0) [(3, .slice A_8 out_7.length c_9), (4, .int .i64 at_10), (15, .slice A_2 b_1.length c_3), (16, .int .i64 (b_1.length : Int)), (17, .int .i64 x_11)] [] [Ow 40 Kd.u8 A_8 c_9 out_7, Rd 0 Kd.u8 A_2 c_3 b_1] [.code c20_11, .inLoop c20_11, .inBlock 0, .code c20_37] (L0 out_7 at_10 x_11)) (out_20 : (List UInt8)) (A_21 : Option Addr) (c_22 : Nat) :
    GoO (stuff_Encode.cx A_2 c_3 w0 S0) [(3, .slice A_21 out_20.length c_22), (4, .int .i64 at_10), (6, .int .u8 (((rdL b_1 x_11)).toNat : Int)), (15, .slice A_2 b_1.length c_3), (16, .int .i64 (b_1.length : Int)), (17, .int .i64 x_11)] [] [Ow 40 Kd.u8 A_21 c_22 out_20, Rd 0 Kd.u8 A_2 c_3 b_1] [.code c20_27, .inBlock 1, .code c20_36, .inLoop c20_11, .inBlock 0, .code c20_37] (stuff_Encode.j0 n L0 b_1 at_10 x_11 out_20) := by
  unfold stuff_Encode.j0
  refine GoO.seq' c20_27e ?_
  refine GoO.region' (is := [0, 1, 2, 3, 4, 5, 6, 7, 8]) c20_28e (by kernel_rfl) ?_
  refine GoO.exec (is := [0, 1, 2]) (hs := [.p, .p, .p]) (rest := [3, 4, 5, 6, 7, 8]) (ks := [3, 4, 15, 16, 17, 29]) (env' := [(3, .slice A_21 out_20.length c_22), (4, .int .i64 at_10), (15, .slice A_2 b_1.length c_3), (16, .int .i64 (b_1.length : Int)), (17, .int .i64 x_11), (29, .bool ((((rdL b_1 x_11)).toNat : Int) == 0))]) (H' := []) (ps := []) (by kernel_rfl) trivial ?_
  refine GoO.bsplit (t := 29) (by kernel_rfl) (fun h23 => ?_) (fun h23 => ?_)
  · refine GoO.exec (is := [3, 4, 5, 6, 7, 8]) (hs := [.p, .p, .p, .p, .p, .p]) (rest := []) (ks := [3, 4, 15, 16, 17, 35]) (env' := [(3, .slice A_21 out_20.length c_22), (4, .int .i64 at_10), (15, .slice A_2 b_1.length c_3), (16, .int .i64 (b_1.length : Int)), (17, .int .i64 x_11), (35, .bool true)]) (H' := []) (ps := []) (by kernel_rfl) trivial ?_
    refine GoO.regionEnd ?_
    exact GoO.sub (ks := [3, 4, 15, 16, 17, 35]) (hk := []) (bk := [0, 1]) (by kernel_rfl) (by kernel_rfl) (by kernel_rfl) (stuff_Encode_j1_ok n L0 b_1 out_7 at_10 x_11 out_20 A_2 c_3 A_8 c_9 A_21 c_22 w0 S0 ih0 true)
  · refine GoO.exec (is := [3, 4, 5, 6, 7, 8]) (hs := [.p, .p, .p, .p, .p, .p]) (rest := []) (ks := [3, 4, 15, 16, 17, 35]) (env' := [(3, .slice A_21 out_20.length c_22), (4, .int .i64 at_10), (15, .slice A_2 b_1.length c_3), (16, .int .i64 (b_1.length : Int)), (17, .int .i64 x_11), (35, .bool ((wi64 ((out_20.length : Int) - at_10)) == 255))]) (H' := []) (ps := []) (by kernel_rfl) trivial ?_
    refine GoO.regionEnd ?_
    exact GoO.sub (ks := [3, 4, 15, 16, 17, 35]) (hk := []) (bk := [0, 1]) (by kernel_rfl) (by kernel_rfl) (by kernel_rfl) (stuff_Encode_j1_ok n L0 b_1 out_7 at_10 x_11 out_20 A_2 c_3 A_8 c_9 A_21 c_22 w0 S0 ih0 ((wi64 ((out_20.length : Int) - at_10)) == 255))
theorem stuff_Encode_l0_ok (n : Nat) (b_1 : (List UInt8)) (A_2 : Option Addr) (c_3 : Nat) (w0 : World) (S0 : Fam) :
    ∀ (k : Nat) (out_7 : (List UInt8)) (at_10 : Int) (x_11 : Int) (A_8 : Option Addr) (c_9 : Nat), GoO (stuff_Encode.cx A_2 c_3 w0 S0) [(3, .slice A_8 out_7.length c_9), (4, .int .i64 at_10), (15, .slice A_2 b_1.length c_3), (16, .int .i64 (b_1.length : Int)), (17, .int .i64 x_11)] [] [Ow 40 Kd.u8 A_8 c_9 out_7, Rd 0 Kd.u8 A_2 c_3 b_1] [.code c20_11, .inLoop c20_11, .inBlock 0, .code c20_37] (stuff_Encode.l0 n b_1 k out_7 at_10 x_11) := by
  intro k
  induction k with
  | zero => intros; rw [stuff_Encode.l0.eq_1]; exact GoO.stop
  | succ k ih0 =>
    intro out_7 at_10 x_11 A_8 c_9
    rw [stuff_Encode.l0.eq_2]
    refine GoO.seq' c20_11e ?_
    refine GoO.region' (is := [0]) c20_12e (by kernel_rfl) ?_
    refine GoO.exec (is := [0]) (hs := [.p]) (rest := []) (ks := [3, 4, 15, 16, 17, 18]) (env' := [(3, .slice A_8 out_7.length c_9), (4, .int .i64 at_10), (15, .slice A_2 b_1.length c_3), (16, .int .i64 (b_1.length : Int)), (17, .int .i64 x_11), (18, .bool (decide (x_11 < (b_1.length : Int))))]) (H' := []) (ps := []) (by kernel_rfl) trivial ?_
    refine GoO.regionEnd ?_
    refine GoO.seq' c20_13e ?_
    refine GoO.ite' c20_14e (by kernel_rfl) (fun h12 => ?_) (fun h12 => ?_)
    · refine GoO.skip' c20_15e ?_
      refine GoO.seq' c20_17e ?_
      refine GoO.block' c20_18e ?_
      refine GoO.seq' c20_19e ?_
      refine GoO.region' (is := [0, 1, 2]) c20_20e (by kernel_rfl) ?_
      refine GoO.guard (fun h13 => ?_)
      refine OpTo.go (GoO.idx (kk := .i64) (e := 5) (K := Kd.u8) (A := A_2) (c := c_3) (xs := b_1) (iv := x_11) (j := 1) rfl (by kernel_rfl) (by kernel_rfl) (by kernel_rfl) (by kernel_rfl) rfl Reads.rd rfl h13.1 h13.2 (by decide) rfl ?_)
      refine OpTo.go (GoO.ldE' (K := Kd.u8) (A := A_2) (c := c_3) (xs := b_1) (iN := x_11.toNat) (off := 0) (j := 1) rfl (by kernel_rfl) rfl Reads.rd (idx_lt h13.1 h13.2) (by decide) (Opn.flat _ _ _ _ _) (v := fun _ => .int .u8 (((rdL b_1 x_11)).toNat : Int)) (fun _ => by kernel_rfl) _ (fun _ => rfl) (fun _ => ?_))
      refine GoO.exec (is := [2]) (hs := [.p]) (rest := []) (ks := [3, 4, 6, 15, 16, 17]) (env' := [(3, .slice A_8 out_7.length c_9), (4, .int .i64 at_10), (6, .int .u8 (((rdL b_1 x_11)).toNat : Int)), (15, .slice A_2 b_1.length c_3), (16, .int .i64 (b_1.length : Int)), (17, .int .i64 x_11)]) (H' := []) (ps := []) (by kernel_rfl) trivial ?_
      refine GoO.regionEnd ?_
      refine GoO.seq' c20_21e ?_
      refine GoO.seq' c20_22e ?_
      refine GoO.region' (is := [0, 1]) c20_23e (by kernel_rfl) ?_
      refine GoO.exec (is := [0, 1]) (hs := [.p, .p]) (rest := []) (ks := [3, 4, 6, 15, 16, 17, 22]) (env' := [(3, .slice A_8 out_7.length c_9), (4, .int .i64 at_10), (6, .int .u8 (((rdL b_1 x_11)).toNat : Int)), (15, .slice A_2 b_1.length c_3), (16, .int .i64 (b_1.length : Int)), (17, .int .i64 x_11), (22, .bool ((((rdL b_1 x_11)).toNat : Int) != 0))]) (H' := []) (ps := []) (by kernel_rfl) trivial ?_
      refine GoO.regionEnd ?_
      refine GoO.ite' c20_24e (by kernel_rfl) (fun h14 => ?_) (fun h14 => ?_)
      · refine GoO.region' (is := [0, 1, 2, 3, 4]) c20_25e (by kernel_rfl) ?_
        refine GoO.exec (is := [0, 1]) (hs := [.p, .p]) (rest := [2, 3, 4]) (ks := [4, 6, 15, 16, 17, 23, 24]) (env' := [(4, .int .i64 at_10), (6, .int .u8 (((rdL b_1 x_11)).toNat : Int)), (15, .slice A_2 b_1.length c_3), (16, .int .i64 (b_1.length : Int)), (17, .int .i64 x_11), (23, .slice A_8 out_7.length c_9), (24, .int .u8 (((rdL b_1 x_11)).toNat : Int))]) (H' := []) (ps := []) (by kernel_rfl) trivial ?_
        refine OpTo.go (GoO.lit (e := 5) (K := Kd.u8) rfl (by kernel_rfl) (by kernel_rfl) (cs := [.int .u8 (((rdL b_1 x_11)).toNat : Int)]) (by kernel_rfl) [(rdL b_1 x_11)] (by kernel_rfl) (by kernel_rfl) (fun w S hB => ⟨[.int .u8 (((rdL b_1 x_11)).toNat : Int)], _, rfl, rfl, rfl⟩) 41 _ (fun _ _ => rfl) (fun A_15 c_16 => ?_))
        refine GoO.guard (fun h17 => ?_)
        refine OpTo.go (GoO.appW (e := 5) (K := Kd.u8) (A := A_8) (c := c_9) (tg := 40) (bytes := 1) (zs := [.int .u8 0]) (xs := out_7) (ys := [(rdL b_1 x_11)]) (xv := .slice A_15 [(rdL b_1 x_11)].length c_16) (j := 1) (bk := [0, 2]) rfl (by kernel_rfl) (by kernel_rfl) (by kernel_rfl) (by kernel_rfl) rfl (by kernel_rfl) rfl (fun w S hB => SrcIs.row (Reads.own w S (hB _ (List.mem_of_getElem? (i := 0) rfl)))) h17 rfl rfl rfl rfl _ (fun _ _ => rfl) (fun A_18 c_19 => ?_))
        refine GoO.exec (is := [4]) (hs := [.p]) (rest := []) (ks := [3, 4, 6, 15, 16, 17]) (env' := [(3, .slice A_18 (out_7 ++ [(rdL b_1 x_11)]).length c_19), (4, .int .i64 at_10), (6, .int .u8 (((rdL b_1 x_11)).toNat : Int)), (15, .slice A_2 b_1.length c_3), (16, .int .i64 (b_1.length : Int)), (17, .int .i64 x_11)]) (H' := []) (ps := []) (by kernel_rfl) trivial ?_
        refine GoO.regionEnd ?_
        exact GoO.sub (ks := [3, 4, 6, 15, 16, 17]) (hk := []) (bk := [0, 2]) (by kernel_rfl) (by kernel_rfl) (by kernel_rfl) (stuff_Encode_j0_ok n (stuff_Encode.l0 n b_1 k) b_1 out_7 at_10 x_11 A_2 c_3 A_8 c_9 w0 S0 ih0 (out_7 ++ [(rdL b_1 x_11)]) A_18 c_19)
      · refine GoO.skip' c20_26e ?_
        exact GoO.sub (ks := [3, 4, 6, 15, 16, 17]) (hk := []) (bk := [0, 1]) (by kernel_rfl) (by kernel_rfl) (by kernel_rfl) (stuff_Encode_j0_ok n (stuff_Encode.l0 n b_1 k) b_1 out_7 at_10 x_11 A_2 c_3 A_8 c_9 w0 S0 ih0 out_7 A_8 c_9)
    · refine GoO.exit' c20_16e rfl ?_
      refine GoO.seq' c20_37e ?_
      refine GoO.region' (is := [0, 1, 2, 3, 4, 5, 6, 7, 8]) c20_38e (by kernel_rfl) ?_
      refine GoO.exec (is := [0, 1, 2, 3, 4, 5, 6]) (hs := [.p, .p, .p, .p, .p, .p, .p]) (rest := [7, 8]) (ks := [3, 50, 51, 56]) (env' := [(3, .slice A_8 out_7.length c_9), (50, .slice A_8 out_7.length c_9), (51, .int .i64 at_10), (56, .int .u8 (wu8 (wi64 ((out_7.length : Int) - at_10))))]) (H' := []) (ps := []) (by kernel_rfl) trivial ?_
      refine GoO.guard (fun h32 => ?_)
      refine OpTo.go (GoO.idx (kk := .i64) (e := 5) (K := Kd.u8) (A := A_8) (c := c_9) (xs := out_7) (iv := at_10) (j := 0) rfl (by kernel_rfl) (by kernel_rfl) (by kernel_rfl) (by kernel_rfl) rfl Reads.own rfl h32.1 h32.2 (by decide) rfl ?_)
      refine OpTo.go (GoO.stE (K := Kd.u8) (A := A_8) (c := c_9) (xs := out_7) (iN := at_10.toNat) (off := 0) (tg := 40) (j := 0) (v := .int .u8 (wu8 (wi64 ((out_7.length : Int) - at_10)))) rfl (by kernel_rfl) (by kernel_rfl) rfl (idx_lt h32.1 h32.2) (by decide) (by kernel_rfl) (by kernel_rfl) (by kernel_rfl) (u8of (wi64 ((out_7.length : Int) - at_10))) (fun w S cs _ hr => ⟨_, by subst hr; exact stored_flat rfl, (congrArg (fun v => [v]) (u8cell _))⟩) rfl ?_)
      refine GoO.reval (t := 3) (v := .slice A_8 out_7.length c_9) (v' := .slice A_8 (out_7.set at_10.toNat (u8of (wi64 ((out_7.length : Int) - at_10)))).length c_9) (by kernel_rfl) (by simp) ?_
      refine GoO.reval (t := 50) (v := .slice A_8 out_7.length c_9) (v' := .slice A_8 (out_7.set at_10.toNat (u8of (wi64 ((out_7.length : Int) - at_10)))).length c_9) (by kernel_rfl) (by simp) ?_
      refine GoO.regionEnd ?_
      refine GoO.seq' c20_39e ?_
      refine GoO.region' (is := [0, 1]) c20_40e (by kernel_rfl) ?_
      refine GoO.exec (is := [0, 1]) (hs := [.p, .p]) (rest := []) (ks := [2]) (env' := [(2, .slice A_8 (out_7.set at_10.toNat (u8of (wi64 ((out_7.length : Int) - at_10)))).length c_9)]) (H' := []) (ps := []) (by kernel_rfl) trivial ?_
      refine GoO.regionEnd ?_
      refine GoO.retag (t := 40) (u := 1) (j := 0) (hk := []) (bk := [1]) rfl rfl rfl rfl rfl rfl (by kernel_rfl) (by kernel_rfl) ?_
      exact GoO.ret' (h := c20_41e) (hs := []) (ps := []) (hk := []) (bk := [0]) Try.func20 (⟨A_8, c_9⟩ : Option Addr × Nat) (by kernel_rfl) trivial (by kernel_rfl) (by kernel_rfl)
theorem stuff_Encode_ok (n : Nat) (b_1 : (List UInt8)) (A_2 : Option Addr) (c_3 : Nat) :
    Meets Try.prog 20 [.slice A_2 b_1.length c_3] 0 [] [] [Rd 0 Kd.u8 A_2 c_3 b_1] (stuff_Encode.f n b_1) (stuff_Encode.R A_2 c_3) := by
  refine Meets.of (c := c20_0) (n := 59) Try.func20 (by kernel_rfl) (by kernel_rfl) (by kernel_rfl) fun w0 S0 => ?_
  unfold stuff_Encode.f
  show GoO (stuff_Encode.cx A_2 c_3 w0 S0) [(0, .slice A_2 b_1.length c_3)] [] [Rd 0 Kd.u8 A_2 c_3 b_1] [.code c20_0] _
  refine GoO.seq' c20_0e ?_
  refine GoO.region' (is := [0]) c20_1e (by kernel_rfl) ?_
  refine GoO.exec (is := [0]) (hs := [.p]) (rest := []) (ks := [0]) (env' := [(0, .slice A_2 b_1.length c_3)]) (H' := []) (ps := []) (by kernel_rfl) trivial ?_
  refine GoO.regionEnd ?_
  refine GoO.seq' c20_2e ?_
  refine GoO.region' (is := [0, 1, 2, 3, 4, 5, 6, 7, 8]) c20_3e (by kernel_rfl) ?_
  refine GoO.exec (is := [0, 1, 2, 3, 4, 5, 6]) (hs := [.p, .p, .p, .p, .p, .p, .p]) (rest := [7, 8]) (ks := [0, 13]) (env' := [(0, .slice A_2 b_1.length c_3), (13, .int .i64 (wi64 ((wi64 ((b_1.length : Int) + (wi64 ((b_1.length : Int).tdiv 254)))) + 1)))]) (H' := []) (ps := [(254 : Int) ≠ 0]) (by kernel_rfl) (And.intro (by decide) trivial) ?_
  refine GoO.guard (fun h6 => ?_)
  refine OpTo.go (GoO.mk (e := 5) (k1 := .i64) (k2 := .i64) (K := Kd.u8) (n := 1) (c := wi64 ((wi64 ((b_1.length : Int) + (wi64 ((b_1.length : Int).tdiv 254)))) + 1)) (bytes := 1) (zs := [.int .u8 0]) rfl (by kernel_rfl) (by kernel_rfl) (by kernel_rfl) (by kernel_rfl) ((0 : UInt8)) (fun _ _ => rfl) h6.1 h6.2.1 (by kernel_rfl) h6.2.2 40 _ (fun _ _ => rfl) (fun A_4 c_5 => ?_))
  refine GoO.exec (is := [8]) (hs := [.p]) (rest := []) (ks := [0, 3]) (env' := [(0, .slice A_2 b_1.length c_3), (3, .slice A_4 (List.replicate (1 : Int).toNat (0 : UInt8)).length c_5)]) (H' := []) (ps := []) (by kernel_rfl) trivial ?_
  refine GoO.regionEnd ?_
  refine GoO.seq' c20_4e ?_
  refine GoO.region' (is := [0]) c20_5e (by kernel_rfl) ?_
  refine GoO.exec (is := [0]) (hs := [.p]) (rest := []) (ks := [0, 3, 4]) (env' := [(0, .slice A_2 b_1.length c_3), (3, .slice A_4 (List.replicate (1 : Int).toNat (0 : UInt8)).length c_5), (4, .int .i64 0)]) (H' := []) (ps := []) (by kernel_rfl) trivial ?_
  refine GoO.regionEnd ?_
  refine GoO.seq' c20_6e ?_
  refine GoO.seq' c20_7e ?_
  refine GoO.region' (is := [0, 1, 2]) c20_8e (by kernel_rfl) ?_
  refine GoO.exec (is := [0, 1, 2]) (hs := [.p, .p, .p]) (rest := []) (ks := [3, 4, 15, 16, 17]) (env' := [(3, .slice A_4 (List.replicate (1 : Int).toNat (0 : UInt8)).length c_5), (4, .int .i64 0), (15, .slice A_2 b_1.length c_3), (16, .int .i64 (b_1.length : Int)), (17, .int .i64 0)]) (H' := []) (ps := []) (by kernel_rfl) trivial ?_
  refine GoO.regionEnd ?_
  refine GoO.block' c20_9e ?_
  refine GoO.loop' c20_10e ?_
  exact GoO.sub (ks := [3, 4, 15, 16, 17]) (hk := []) (bk := [0, 1]) (by kernel_rfl) (by kernel_rfl) (by kernel_rfl) (stuff_Encode_l0_ok n b_1 A_2 c_3 w0 S0 n (List.replicate (1 : Int).toNat (0 : UInt8)) 0 0 A_4 c_5)

/-! tontine/tontinelaw01.begun -/
noncomputable def c19_0 : Code := bodyOf Try.f19
noncomputable def c19_1 : Code := cdL c19_0
noncomputable def c19_2 : Code := cdR c19_0
noncomputable def c19_3 : Code := cdL c19_2
noncomputable def c19_4 : Code := cdR c19_2
noncomputable def c19_5 : Code := cdL c19_4
noncomputable def c19_6 : Code := cdR c19_4
noncomputable def r19_1 : Array Oper := cdO c19_1
noncomputable def r19_3 : Array Oper := cdO c19_3
noncomputable def r19_5 : Array Oper := cdO c19_5
theorem c19_0e : c19_0 = .seq c19_1 c19_2 := by kernel_rfl
theorem c19_1e : c19_1 = .region 0 r19_1 false := by kernel_rfl
theorem c19_2e : c19_2 = .seq c19_3 c19_4 := by kernel_rfl
theorem c19_3e : c19_3 = .region 1 r19_3 false := by kernel_rfl
theorem c19_4e : c19_4 = .seq c19_5 c19_6 := by kernel_rfl
theorem c19_5e : c19_5 = .region 2 r19_5 false := by kernel_rfl
theorem c19_6e : c19_6 = .ret := by kernel_rfl
noncomputable def tontinelaw01_begun.R : Pst Bool where
  ε := Unit
  v := fun r x => .bool r
  H := fun r x => []
  B := fun r x => []
noncomputable def tontinelaw01_begun.cx (w0 : World) (S0 : Fam) : Cx Bool := ⟨Try.prog, 19, Try.f19, 16, w0, S0, [], 0, tontinelaw01_begun.R⟩
theorem tontinelaw01_begun_ok (n : Nat) :
    Meets Try.prog 19 [] 0 [] [] [] (tontinelaw01_begun.f n) (tontinelaw01_begun.R) := by
  refine Meets.of (c := c19_0) (n := 16) Try.func19 (by kernel_rfl) (by kernel_rfl) (by kernel_rfl) fun w0 S0 => ?_
  unfold tontinelaw01_begun.f
  show GoO (tontinelaw01_begun.cx w0 S0) [] [] [] [.code c19_0] _
  refine GoO.seq' c19_0e ?_
  refine GoO.region' (is := [0]) c19_1e (by kernel_rfl) ?_
  refine GoO.exec (is := [0]) (hs := [.p]) (rest := []) (ks := []) (env' := []) (H' := []) (ps := []) (by kernel_rfl) trivial ?_
  refine GoO.regionEnd ?_
  refine GoO.seq' c19_2e ?_
  refine GoO.region' (is := [0, 1, 2, 3, 4, 5, 6]) c19_3e (by kernel_rfl) ?_
  refine OpTo.go (GoO.lit (e := 5) (K := Kd.u8) rfl (by kernel_rfl) (by kernel_rfl) (cs := [.int .u8 3, .int .u8 17]) (by kernel_rfl) [(3 : UInt8), (17 : UInt8)] (by kernel_rfl) (by kernel_rfl) (fun w S hB => ⟨[.int .u8 3], _, rfl, rfl, ⟨[.int .u8 17], _, rfl, rfl, rfl⟩⟩) 40 _ (fun _ _ => rfl) (fun A_1 c_2 => ?_))
  refine GoO.retag (t := 40) (u := 0) (j := 0) (hk := []) (bk := []) rfl rfl rfl rfl rfl rfl (by kernel_rfl) (by kernel_rfl) ?_
  refine GoO.own2rd (j := 0) rfl ?_
  refine OpTo.go (GoO.call rfl (by kernel_rfl) (by kernel_rfl) (stuff_Decode_ok n [(3 : UInt8), (17 : UInt8)] A_1 c_2) [[0]] [(41, 1)] [] [(0, 0)] (hks := []) (bks := [0]) (by kernel_rfl) (by kernel_rfl) (by kernel_rfl) (.inl rfl) rfl rfl (by kernel_rfl) (by kernel_rfl) _ (fun _ _ => rfl) _ _ (fun _ _ => rfl) (fun _ _ => rfl) (fun _ _ => by kernel_rfl) (fun _ _ => by kernel_rfl) (fun r_3 x_13 => ?_))
  obtain ⟨A_4, c_5⟩ := x_13
  refine GoO.shape (env' := [(4, .slice A_1 [(3 : UInt8), (17 : UInt8)].length c_2), (5, .tuple ⟨[.slice A_4 r_3.1.length c_5, .int .i64 r_3.2]⟩)]) (H' := []) (B' := [Ow 41 Kd.u8 A_4 c_5 r_3.1, Rd 0 Kd.u8 A_1 c_2 [(3 : UInt8), (17 : UInt8)]]) (ks := [4, 5]) (by kernel_rfl) (by kernel_rfl) (by kernel_rfl) ?_
  refine GoO.exec (is := [2, 3, 4, 5, 6]) (hs := [.p, .p, .p, .p, .p]) (rest := []) (ks := [2]) (env' := [(2, .int .i64 r_3.2)]) (H' := []) (ps := []) (by kernel_rfl) trivial ?_
  refine GoO.regionEnd ?_
  refine GoO.seq' c19_4e ?_
  refine GoO.region' (is := [0, 1, 2, 3, 4, 5, 6, 7, 8]) c19_5e (by kernel_rfl) ?_
  refine OpTo.go (GoO.lit (e := 5) (K := Kd.u8) rfl (by kernel_rfl) (by kernel_rfl) (cs := [.int .u8 17, .int .u8 0, .int .u8 34]) (by kernel_rfl) [(17 : UInt8), (0 : UInt8), (34 : UInt8)] (by kernel_rfl) (by kernel_rfl) (fun w S hB => ⟨[.int .u8 17], _, rfl, rfl, ⟨[.int .u8 0], _, rfl, rfl, ⟨[.int .u8 34], _, rfl, rfl, rfl⟩⟩⟩) 42 _ (fun _ _ => rfl) (fun A_6 c_7 => ?_))
  refine GoO.retag (t := 42) (u := 0) (j := 0) (hk := []) (bk := [1, 2]) rfl rfl rfl rfl rfl rfl (by kernel_rfl) (by kernel_rfl) ?_
  refine GoO.own2rd (j := 0) rfl ?_
  refine OpTo.go (GoO.call rfl (by kernel_rfl) (by kernel_rfl) (stuff_Encode_ok n [(17 : UInt8), (0 : UInt8), (34 : UInt8)] A_6 c_7) [[0]] [(43, 1)] [] [(0, 0)] (hks := []) (bks := [0, 1, 2]) (by kernel_rfl) (by kernel_rfl) (by kernel_rfl) (.inl rfl) rfl rfl (by kernel_rfl) (by kernel_rfl) _ (fun _ _ => rfl) _ _ (fun _ _ => rfl) (fun _ _ => rfl) (fun _ _ => by kernel_rfl) (fun _ _ => by kernel_rfl) (fun r_8 x_12 => ?_))
  obtain ⟨A_9, c_10⟩ := x_12
  refine GoO.shape (env' := [(2, .int .i64 r_3.2), (8, .slice A_6 [(17 : UInt8), (0 : UInt8), (34 : UInt8)].length c_7), (9, .slice A_9 r_8.length c_10)]) (H' := []) (B' := [Ow 43 Kd.u8 A_9 c_10 r_8, Rd 0 Kd.u8 A_6 c_7 [(17 : UInt8), (0 : UInt8), (34 : UInt8)], Ow 41 Kd.u8 A_4 c_5 r_3.1, Rd 0 Kd.u8 A_1 c_2 [(3 : UInt8), (17 : UInt8)]]) (ks := [2, 8, 9]) (by kernel_rfl) (by kernel_rfl) (by kernel_rfl) ?_
  refine OpTo.go (GoO.toStr (e := 5) (A := A_9) (c := c_10) (xs := r_8) (j := 0) rfl (by kernel_rfl) (by kernel_rfl) (by kernel_rfl) (by kernel_rfl) rfl Reads.own rfl rfl ?_)
  refine GoO.exec (is := [3, 4]) (hs := [.p, .p]) (rest := [5, 6, 7, 8]) (ks := [2, 12]) (env' := [(2, .int .i64 r_3.2), (12, .bool (r_8 == ([2, 17, 2, 34] : List UInt8)))]) (H' := []) (ps := []) (by kernel_rfl) trivial ?_
  refine GoO.bsplit (t := 12) (by kernel_rfl) (fun h11 => ?_) (fun h11 => ?_)
  · refine GoO.exec (is := [5, 6, 7, 8]) (hs := [.p, .p, .p, .p]) (rest := []) (ks := [0]) (env' := [(0, .bool (r_3.2 == 2))]) (H' := []) (ps := []) (by kernel_rfl) trivial ?_
    refine GoO.regionEnd ?_
    exact GoO.ret' (h := c19_6e) (hs := []) (ps := []) (hk := []) (bk := []) Try.func19 () (by kernel_rfl) trivial (by kernel_rfl) (by kernel_rfl)
  · refine GoO.exec (is := [5, 6, 7, 8]) (hs := [.p, .p, .p, .p]) (rest := []) (ks := [0]) (env' := [(0, .bool false)]) (H' := []) (ps := []) (by kernel_rfl) trivial ?_
    refine GoO.regionEnd ?_
    exact GoO.ret' (h := c19_6e) (hs := []) (ps := []) (hk := []) (bk := []) Try.func19 () (by kernel_rfl) trivial (by kernel_rfl) (by kernel_rfl)

/-! tontine/tontineref01.zero -/
noncomputable def c27_0 : Code := bodyOf Try.f27
noncomputable def c27_1 : Code := cdL c27_0
noncomputable def c27_2 : Code := cdR c27_0
noncomputable def c27_3 : Code := cdL c27_2
noncomputable def c27_4 : Code := cdL c27_3
noncomputable def c27_5 : Code := cdR c27_3
noncomputable def c27_6 : Code := cdL c27_5
noncomputable def c27_7 : Code := cdL c27_6
noncomputable def c27_8 : Code := cdL c27_7
noncomputable def c27_9 : Code := cdL c27_8
noncomputable def c27_10 : Code := cdR c27_8
noncomputable def c27_11 : Code := cdL c27_10
noncomputable def c27_12 : Code := cdR c27_10
noncomputable def c27_13 : Code := cdR c27_7
noncomputable def c27_14 : Code := cdL c27_13
noncomputable def c27_15 : Code := cdL c27_14
noncomputable def c27_16 : Code := cdL c27_15
noncomputable def c27_17 : Code := cdR c27_15
noncomputable def c27_18 : Code := cdL c27_17
noncomputable def c27_19 : Code := cdL c27_18
noncomputable def c27_20 : Code := cdR c27_18
noncomputable def c27_21 : Code := cdR c27_17
noncomputable def c27_22 : Code := cdR c27_13
noncomputable def c27_23 : Code := cdR c27_2
noncomputable def c27_24 : Code := cdL c27_23
noncomputable def c27_25 : Code := cdR c27_23
noncomputable def r27_1 : Array Oper := cdO c27_1
noncomputable def r27_4 : Array Oper := cdO c27_4
noncomputable def r27_9 : Array Oper := cdO c27_9
noncomputable def r27_16 : Array Oper := cdO c27_16
noncomputable def r27_19 : Array Oper := cdO c27_19
noncomputable def r27_22 : Array Oper := cdO c27_22
noncomputable def r27_24 : Array Oper := cdO c27_24
theorem c27_0e : c27_0 = .seq c27_1 c27_2 := by kernel_rfl
theorem c27_1e : c27_1 = .region 0 r27_1 false := by kernel_rfl
theorem c27_2e : c27_2 = .seq c27_3 c27_23 := by kernel_rfl
theorem c27_3e : c27_3 = .seq c27_4 c27_5 := by kernel_rfl
theorem c27_4e : c27_4 = .region 1 r27_4 false := by kernel_rfl
theorem c27_5e : c27_5 = .block 0 c27_6 := by kernel_rfl
theorem c27_6e : c27_6 = .loop c27_7 := by kernel_rfl
theorem c27_7e : c27_7 = .seq c27_8 c27_13 := by kernel_rfl
theorem c27_8e : c27_8 = .seq c27_9 c27_10 := by kernel_rfl
theorem c27_9e : c27_9 = .region 2 r27_9 false := by kernel_rfl
theorem c27_10e : c27_10 = .cond (cdC c27_10) c27_11 c27_12 := by kernel_rfl
theorem c27_11e : c27_11 = .skip := by kernel_rfl
theorem c27_12e : c27_12 = .exit 0 := by kernel_rfl
theorem c27_13e : c27_13 = .seq c27_14 c27_22 := by kernel_rfl
theorem c27_14e : c27_14 = .block 1 c27_15 := by kernel_rfl
theorem c27_15e : c27_15 = .seq c27_16 c27_17 := by kernel_rfl
theorem c27_16e : c27_16 = .region 4 r27_16 false := by kernel_rfl
theorem c27_17e : c27_17 = .cond (cdC c27_17) c27_18 c27_21 := by kernel_rfl
theorem c27_18e : c27_18 = .seq c27_19 c27_20 := by kernel_rfl
theorem c27_19e : c27_19 = .region 5 r27_19 false := by kernel_rfl
theorem c27_20e : c27_20 = .ret := by kernel_rfl
theorem c27_21e : c27_21 = .skip := by kernel_rfl
theorem c27_22e : c27_22 = .region 3 r27_22 false := by kernel_rfl
theorem c27_23e : c27_23 = .seq c27_24 c27_25 := by kernel_rfl
theorem c27_24e : c27_24 = .region 6 r27_24 false := by kernel_rfl
theorem c27_25e : c27_25 = .ret := by kernel_rfl
noncomputable def tontineref01_zero.R (A_2 : Option Addr) (c_3 : Nat) : Pst Int where
  ε := Unit
  v := fun r x => .int .i64 r
  H := fun r x => []
  B := fun r x => []
noncomputable def tontineref01_zero.cx (A_2 : Option Addr) (c_3 : Nat) (w0 : World) (S0 : Fam) : Cx Int := ⟨Try.prog, 27, Try.f27, 18, w0, S0, [], 0, tontineref01_zero.R A_2 c_3⟩
theorem tontineref01_zero_l0_ok (n : Nat) (b_1 : (List UInt8)) (A_2 : Option Addr) (c_3 : Nat) (w0 : World) (S0 : Fam) :
    ∀ (k : Nat) (i_4 : Int), GoO (tontineref01_zero.cx A_2 c_3 w0 S0) [(0, .slice A_2 b_1.length c_3), (3, .int .i64 i_4)] [] [Rd 0 Kd.u8 A_2 c_3 b_1] [.code c27_7, .inLoop c27_7, .inBlock 0, .code c27_23] (tontineref01_zero.l0 n b_1 k i_4) := by
  intro k
  induction k with
  | zero => intros; rw [tontineref01_zero.l0.eq_1]; exact GoO.stop
  | succ k ih0 =>
    intro i_4
    rw [tontineref01_zero.l0.eq_2]
    refine GoO.seq' c27_7e ?_
    refine GoO.seq' c27_8e ?_
    refine GoO.region' (is := [0, 1, 2, 3]) c27_9e (by kernel_rfl) ?_
    refine GoO.exec (is := [0, 1, 2, 3]) (hs := [.p, .p, .p, .p]) (rest := []) (ks := [0, 3, 7]) (env' := [(0, .slice A_2 b_1.length c_3), (3, .int .i64 i_4), (7, .bool (decide (i_4 < (b_1.length : Int))))]) (H' := []) (ps := []) (by kernel_rfl) trivial ?_
    refine GoO.regionEnd ?_
    refine GoO.ite' c27_10e (by kernel_rfl) (fun h5 => ?_) (fun h5 => ?_)
    · refine GoO.skip' c27_11e ?_
      refine GoO.seq' c27_13e ?_
      refine GoO.block' c27_14e ?_
      refine GoO.seq' c27_15e ?_
      refine GoO.region' (is := [0, 1, 2, 3, 4]) c27_16e (by kernel_rfl) ?_
      refine GoO.exec (is := [0, 1]) (hs := [.p, .p]) (rest := [2, 3, 4]) (ks := [0, 3, 10, 11]) (env' := [(0, .slice A_2 b_1.length c_3), (3, .int .i64 i_4), (10, .slice A_2 b_1.length c_3), (11, .int .i64 i_4)]) (H' := []) (ps := []) (by kernel_rfl) trivial ?_
      refine GoO.guard (fun h6 => ?_)
      refine OpTo.go (GoO.idx (kk := .i64) (e := 5) (K := Kd.u8) (A := A_2) (c := c_3) (xs := b_1) (iv := i_4) (j := 0) rfl (by kernel_rfl) (by kernel_rfl) (by kernel_rfl) (by kernel_rfl) rfl Reads.rd rfl h6.1 h6.2 (by decide) rfl ?_)
      refine OpTo.go (GoO.ldE' (K := Kd.u8) (A := A_2) (c := c_3) (xs := b_1) (iN := i_4.toNat) (off := 0) (j := 0) rfl (by kernel_rfl) rfl Reads.rd (idx_lt h6.1 h6.2) (by decide) (Opn.flat _ _ _ _ _) (v := fun _ => .int .u8 (((rdL b_1 i_4)).toNat : Int)) (fun _ => by kernel_rfl) _ (fun _ => rfl) (fun _ => ?_))
      refine GoO.exec (is := [4]) (hs := [.p]) (rest := []) (ks := [0, 3, 14]) (env' := [(0, .slice A_2 b_1.length c_3), (3, .int .i64 i_4), (14, .bool ((((rdL b_1 i_4)).toNat : Int) == 0))]) (H' := []) (ps := []) (by kernel_rfl) trivial ?_
      refine GoO.regionEnd ?_
      refine GoO.ite' c27_17e (by kernel_rfl) (fun h7 => ?_) (fun h7 => ?_)
      · refine GoO.seq' c27_18e ?_
        refine GoO.region' (is := [0, 1]) c27_19e (by kernel_rfl) ?_
        refine GoO.exec (is := [0, 1]) (hs := [.p, .p]) (rest := []) (ks := [2]) (env' := [(2, .int .i64 i_4)]) (H' := []) (ps := []) (by kernel_rfl) trivial ?_
        refine GoO.regionEnd ?_
        exact GoO.ret' (h := c27_20e) (hs := []) (ps := []) (hk := []) (bk := []) Try.func27 () (by kernel_rfl) trivial (by kernel_rfl) (by kernel_rfl)
      · refine GoO.skip' c27_21e ?_
        refine GoO.inBlock ?_
        refine GoO.region' (is := [0, 1, 2]) c27_22e (by kernel_rfl) ?_
        refine GoO.exec (is := [0, 1, 2]) (hs := [.p, .p, .p]) (rest := []) (ks := [0, 3]) (env' := [(0, .slice A_2 b_1.length c_3), (3, .int .i64 (wi64 (i_4 + 1)))]) (H' := []) (ps := []) (by kernel_rfl) trivial ?_
        refine GoO.regionEnd ?_
        refine GoO.inLoop ?_
        exact GoO.sub (ks := [0, 3]) (hk := []) (bk := [0]) (by kernel_rfl) (by kernel_rfl) (by kernel_rfl) (ih0 (wi64 (i_4 + 1)))
    · refine GoO.exit' c27_12e rfl ?_
      refine GoO.seq' c27_23e ?_
      refine GoO.region' (is := [0, 1, 2]) c27_24e (by kernel_rfl) ?_
      refine GoO.exec (is := [0, 1, 2]) (hs := [.p, .p, .p]) (rest := []) (ks := [2]) (env' := [(2, .int .i64 (b_1.length : Int))]) (H' := []) (ps := []) (by kernel_rfl) trivial ?_
      refine GoO.regionEnd ?_
      exact GoO.ret' (h := c27_25e) (hs := []) (ps := []) (hk := []) (bk := []) Try.func27 () (by kernel_rfl) trivial (by kernel_rfl) (by kernel_rfl)
theorem tontineref01_zero_ok (n : Nat) (b_1 : (List UInt8)) (A_2 : Option Addr) (c_3 : Nat) :
    Meets Try.prog 27 [.slice A_2 b_1.length c_3] 0 [] [] [Rd 0 Kd.u8 A_2 c_3 b_1] (tontineref01_zero.f n b_1) (tontineref01_zero.R A_2 c_3) := by
  refine Meets.of (c := c27_0) (n := 18) Try.func27 (by kernel_rfl) (by kernel_rfl) (by kernel_rfl) fun w0 S0 => ?_
  unfold tontineref01_zero.f
  show GoO (tontineref01_zero.cx A_2 c_3 w0 S0) [(0, .slice A_2 b_1.length c_3)] [] [Rd 0 Kd.u8 A_2 c_3 b_1] [.code c27_0] _
  refine GoO.seq' c27_0e ?_
  refine GoO.region' (is := [0]) c27_1e (by kernel_rfl) ?_
  refine GoO.exec (is := [0]) (hs := [.p]) (rest := []) (ks := [0]) (env' := [(0, .slice A_2 b_1.length c_3)]) (H' := []) (ps := []) (by kernel_rfl) trivial ?_
  refine GoO.regionEnd ?_
  refine GoO.seq' c27_2e ?_
  refine GoO.seq' c27_3e ?_
  refine GoO.region' (is := [0]) c27_4e (by kernel_rfl) ?_
  refine GoO.exec (is := [0]) (hs := [.p]) (rest := []) (ks := [0, 3]) (env' := [(0, .slice A_2 b_1.length c_3), (3, .int .i64 0)]) (H' := []) (ps := []) (by kernel_rfl) trivial ?_
  refine GoO.regionEnd ?_
  refine GoO.block' c27_5e ?_
  refine GoO.loop' c27_6e ?_
  exact GoO.sub (ks := [0, 3]) (hk := []) (bk := [0]) (by kernel_rfl) (by kernel_rfl) (by kernel_rfl) (tontineref01_zero_l0_ok n b_1 A_2 c_3 w0 S0 n 0)

/-! tontine/tontineref01.plain -/
noncomputable def c28_0 : Code := bodyOf Try.f28
noncomputable def c28_1 : Code := cdL c28_0
noncomputable def c28_2 : Code := cdR c28_0
noncomputable def c28_3 : Code := cdL c28_2
noncomputable def c28_4 : Code := cdR c28_2
noncomputable def c28_5 : Code := cdL c28_4
noncomputable def c28_6 : Code := cdR c28_4
noncomputable def c28_7 : Code := cdL c28_6
noncomputable def c28_8 : Code := cdR c28_6
noncomputable def c28_9 : Code := cdL c28_8
noncomputable def c28_10 : Code := cdL c28_9
noncomputable def c28_11 : Code := cdL c28_10
noncomputable def c28_12 : Code := cdL c28_11
noncomputable def c28_13 : Code := cdL c28_12
noncomputable def c28_14 : Code := cdR c28_12
noncomputable def c28_15 : Code := cdL c28_14
noncomputable def c28_16 : Code := cdR c28_14
noncomputable def c28_17 : Code := cdR c28_11
noncomputable def c28_18 : Code := cdL c28_17
noncomputable def c28_19 : Code := cdL c28_18
noncomputable def c28_20 : Code := cdR c28_18
noncomputable def c28_21 : Code := cdL c28_20
noncomputable def c28_22 : Code := cdL c28_21
noncomputable def c28_23 : Code := cdR c28_21
noncomputable def c28_24 : Code := cdL c28_23
noncomputable def c28_25 : Code := cdL c28_24
noncomputable def c28_26 : Code := cdR c28_24
noncomputable def c28_27 : Code := cdR c28_23
noncomputable def c28_28 : Code := cdR c28_20
noncomputable def c28_29 : Code := cdL c28_28
noncomputable def c28_30 : Code := cdL c28_29
noncomputable def c28_31 : Code := cdR c28_29
noncomputable def c28_32 : Code := cdL c28_31
noncomputable def c28_33 : Code := cdR c28_31
noncomputable def c28_34 : Code := cdR c28_28
noncomputable def c28_35 : Code := cdL c28_34
noncomputable def c28_36 : Code := cdR c28_34
noncomputable def c28_37 : Code := cdL c28_36
noncomputable def c28_38 : Code := cdR c28_36
noncomputable def c28_39 : Code := cdL c28_38
noncomputable def c28_40 : Code := cdR c28_38
noncomputable def c28_41 : Code := cdR c28_8
noncomputable def c28_42 : Code := cdL c28_41
noncomputable def c28_43 : Code := cdR c28_41
noncomputable def r28_1 : Array Oper := cdO c28_1
noncomputable def r28_3 : Array Oper := cdO c28_3
noncomputable def r28_5 : Array Oper := cdO c28_5
noncomputable def r28_7 : Array Oper := cdO c28_7
noncomputable def r28_13 : Array Oper := cdO c28_13
noncomputable def r28_19 : Array Oper := cdO c28_19
noncomputable def r28_22 : Array Oper := cdO c28_22
noncomputable def r28_25 : Array Oper := cdO c28_25
noncomputable def r28_30 : Array Oper := cdO c28_30
noncomputable def r28_32 : Array Oper := cdO c28_32
noncomputable def r28_35 : Array Oper := cdO c28_35
noncomputable def r28_37 : Array Oper := cdO c28_37
noncomputable def r28_39 : Array Oper := cdO c28_39
noncomputable def r28_40 : Array Oper := cdO c28_40
noncomputable def r28_42 : Array Oper := cdO c28_42
theorem c28_0e : c28_0 = .seq c28_1 c28_2 := by kernel_rfl
theorem c28_1e : c28_1 = .region 0 r28_1 false := by kernel_rfl
theorem c28_2e : c28_2 = .seq c28_3 c28_4 := by kernel_rfl
theorem c28_3e : c28_3 = .region 1 r28_3 false := by kernel_rfl
theorem c28_4e : c28_4 = .seq c28_5 c28_6 := by kernel_rfl
theorem c28_5e : c28_5 = .region 2 r28_5 false := by kernel_rfl
theorem c28_6e : c28_6 = .seq c28_7 c28_8 := by kernel_rfl
theorem c28_7e : c28_7 = .region 3 r28_7 false := by kernel_rfl
theorem c28_8e : c28_8 = .seq c28_9 c28_41 := by kernel_rfl
theorem c28_9e : c28_9 = .block 0 c28_10 := by kernel_rfl
theorem c28_10e : c28_10 = .loop c28_11 := by kernel_rfl
theorem c28_11e : c28_11 = .seq c28_12 c28_17 := by kernel_rfl
theorem c28_12e : c28_12 = .seq c28_13 c28_14 := by kernel_rfl
theorem c28_13e : c28_13 = .region 4 r28_13 false := by kernel_rfl
theorem c28_14e : c28_14 = .cond (cdC c28_14) c28_15 c28_16 := by kernel_rfl
theorem c28_15e : c28_15 = .skip := by kernel_rfl
theorem c28_16e : c28_16 = .exit 0 := by kernel_rfl
theorem c28_17e : c28_17 = .block 1 c28_18 := by kernel_rfl
theorem c28_18e : c28_18 = .seq c28_19 c28_20 := by kernel_rfl
theorem c28_19e : c28_19 = .region 5 r28_19 false := by kernel_rfl
theorem c28_20e : c28_20 = .seq c28_21 c28_28 := by kernel_rfl
theorem c28_21e : c28_21 = .seq c28_22 c28_23 := by kernel_rfl
theorem c28_22e : c28_22 = .region 6 r28_22 false := by kernel_rfl
theorem c28_23e : c28_23 = .cond (cdC c28_23) c28_24 c28_27 := by kernel_rfl
theorem c28_24e : c28_24 = .seq c28_25 c28_26 := by kernel_rfl
theorem c28_25e : c28_25 = .region 7 r28_25 false := by kernel_rfl
theorem c28_26e : c28_26 = .ret := by kernel_rfl
theorem c28_27e : c28_27 = .skip := by kernel_rfl
theorem c28_28e : c28_28 = .seq c28_29 c28_34 := by kernel_rfl
theorem c28_29e : c28_29 = .seq c28_30 c28_31 := by kernel_rfl
theorem c28_30e : c28_30 = .region 8 r28_30 false := by kernel_rfl
theorem c28_31e : c28_31 = .cond (cdC c28_31) c28_32 c28_33 := by kernel_rfl
theorem c28_32e : c28_32 = .region 9 r28_32 false := by kernel_rfl
theorem c28_33e : c28_33 = .skip := by kernel_rfl
theorem c28_34e : c28_34 = .seq c28_35 c28_36 := by kernel_rfl
theorem c28_35e : c28_35 = .region 10 r28_35 false := by kernel_rfl
theorem c28_36e : c28_36 = .seq c28_37 c28_38 := by kernel_rfl
theorem c28_37e : c28_37 = .region 11 r28_37 false := by kernel_rfl
theorem c28_38e : c28_38 = .seq c28_39 c28_40 := by kernel_rfl
theorem c28_39e : c28_39 = .region 12 r28_39 false := by kernel_rfl
theorem c28_40e : c28_40 = .region 13 r28_40 false := by kernel_rfl
theorem c28_41e : c28_41 = .seq c28_42 c28_43 := by kernel_rfl
theorem c28_42e : c28_42 = .region 14 r28_42 false := by kernel_rfl
theorem c28_43e : c28_43 = .ret := by kernel_rfl
noncomputable def tontineref01_plain.R (A_2 : Option Addr) (c_3 : Nat) : Pst ((List UInt8) × Bool) where
  ε := Option Addr × Nat
  v := fun r x => .tuple ⟨[.slice x.1 r.1.length x.2, .bool r.2]⟩
  H := fun r x => []
  B := fun r x => [Ow 1 Kd.u8 x.1 x.2 r.1]
noncomputable def tontineref01_plain.cx (A_2 : Option Addr) (c_3 : Nat) (w0 : World) (S0 : Fam) : Cx ((List UInt8) × Bool) := ⟨Try.prog, 28, Try.f28, 54, w0, S0, [], 0, tontineref01_plain.R A_2 c_3⟩
theorem tontineref01_plain_j2_ok (n : Nat) (L0 : (List UInt8) → (List UInt8) → Bool → Bool → Option ((List UInt8) × Bool)) (b_4 : (List UInt8)) (out_7 : (List UInt8)) (full_10 : Bool) (first_11 : Bool) (A_2 : Option Addr) (c_3 : Nat) (A_5 : Option Addr) (c_6 : Nat) (A_8 : Option Addr) (c_9 : Nat) (w0 : World) (S0 : Fam) (ih0 : ∀ (b_4 : (List UInt8)) (out_7 : (List UInt8)) (full_10 : Bool) (first_11 : Bool) (A_5 : Option Addr) (c_6 : Nat) (A_8 : Option Addr) (c_9 : Nat), GoO (tontineref01_plain.cx A_2 c_3 w0 S0) [(0, .slice A_5 b_4.length c_6), (4, .slice A_8 out_7.length c_9), (5, .bool full_10), (6, .bool first_11)] [] [Rd 0 Kd.u8 A_5 c_6 b_4, Ow 40 Kd.u8 A_8 c_9 out_7] [.code c28_11, .inLoop c28_11, .inBlock 0, .code c28_41] (L0 b_4 out_7 full_10 first_11)) (out_30 : (List UInt8)) (A_31 : Option Addr) (c_32 : Nat) :
    GoO (tontineref01_plain.cx A_2 c_3 w0 S0) [(0, .slice A_5 b_4.length c_6), (4, .slice A_31 out_30.length c_32), (7, .int .i64 (wi64 (((rdL b_4 (0 : Int))).toNat : Int)))] [] [Rd 0 Kd.u8 A_5 c_6 b_4, Ow 40 Kd.u8 A_31 c_32 out_30] [.code c28_34, .inBlock 1, .inLoop c28_11, .inBlock 0, .code c28_41] (tontineref01_plain.j2 n L0 b_4 out_30) := by
  unfold tontineref01_plain.j2
  refine GoO.seq' c28_34e ?_
  refine GoO.region' (is := [0, 1, 2, 3, 4, 5]) c28_35e (by kernel_rfl) ?_
  refine GoO.exec (is := [0, 1, 2]) (hs := [.p, .p, .p]) (rest := [3, 4, 5]) (ks := [0, 7, 41, 42, 43]) (env' := [(0, .slice A_5 b_4.length c_6), (7, .int .i64 (wi64 (((rdL b_4 (0 : Int))).toNat : Int))), (41, .slice A_31 out_30.length c_32), (42, .slice A_5 b_4.length c_6), (43, .int .i64 (wi64 (((rdL b_4 (0 : Int))).toNat : Int)))]) (H' := []) (ps := []) (by kernel_rfl) trivial ?_
  refine GoO.guard (fun h35 => ?_)
  refine OpTo.go (GoO.slc (e := 5) (K := Kd.u8) (A := A_5) (c := c_6) (xs := b_4) (j := 0) (l := (1 : Int)) (h := (wi64 (((rdL b_4 (0 : Int))).toNat : Int))) rfl (by kernel_rfl) (by kernel_rfl) (by kernel_rfl) rfl Reads.rd rfl (by kernel_rfl) (by kernel_rfl) h35.1 h35.2.1 h35.2.2 _ (fun _ _ => rfl) (fun A_33 c_34 => ?_))
  refine GoO.guard (fun h36 => ?_)
  refine OpTo.go (GoO.appW (e := 5) (K := Kd.u8) (A := A_31) (c := c_32) (tg := 40) (bytes := 1) (zs := [.int .u8 0]) (xs := out_30) (ys := (b_4.take (wi64 (((rdL b_4 (0 : Int))).toNat : Int)).toNat).drop (1 : Int).toNat) (xv := .slice A_33 ((b_4.take (wi64 (((rdL b_4 (0 : Int))).toNat : Int)).toNat).drop (1 : Int).toNat).length c_34) (j := 2) (bk := [0, 1]) rfl (by kernel_rfl) (by kernel_rfl) (by kernel_rfl) (by kernel_rfl) rfl (by kernel_rfl) rfl (fun w S hB => SrcIs.row (Reads.rd w S (hB _ (List.mem_of_getElem? (i := 0) rfl)))) h36 rfl rfl rfl rfl _ (fun _ _ => rfl) (fun A_37 c_38 => ?_))
  refine GoO.exec (is := [5]) (hs := [.p]) (rest := []) (ks := [0, 4, 7]) (env' := [(0, .slice A_5 b_4.length c_6), (4, .slice A_37 (out_30 ++ ((b_4.take (wi64 (((rdL b_4 (0 : Int))).toNat : Int)).toNat).drop (1 : Int).toNat)).length c_38), (7, .int .i64 (wi64 (((rdL b_4 (0 : Int))).toNat : Int)))]) (H' := []) (ps := []) (by kernel_rfl) trivial ?_
  refine GoO.regionEnd ?_
  refine GoO.seq' c28_36e ?_
  refine GoO.region' (is := [0, 1, 2]) c28_37e (by kernel_rfl) ?_
  refine GoO.exec (is := [0, 1, 2]) (hs := [.p, .p, .p]) (rest := []) (ks := [0, 4, 5, 7]) (env' := [(0, .slice A_5 b_4.length c_6), (4, .slice A_37 (out_30 ++ ((b_4.take (wi64 (((rdL b_4 (0 : Int))).toNat : Int)).toNat).drop (1 : Int).toNat)).length c_38), (5, .bool ((wi64 (((rdL b_4 (0 : Int))).toNat : Int)) == 255)), (7, .int .i64 (wi64 (((rdL b_4 (0 : Int))).toNat : Int)))]) (H' := []) (ps := []) (by kernel_rfl) trivial ?_
  refine GoO.regionEnd ?_
  refine GoO.seq' c28_38e ?_
  refine GoO.region' (is := [0]) c28_39e (by kernel_rfl) ?_
  refine GoO.exec (is := [0]) (hs := [.p]) (rest := []) (ks := [0, 4, 5, 6, 7]) (env' := [(0, .slice A_5 b_4.length c_6), (4, .slice A_37 (out_30 ++ ((b_4.take (wi64 (((rdL b_4 (0 : Int))).toNat : Int)).toNat).drop (1 : Int).toNat)).length c_38), (5, .bool ((wi64 (((rdL b_4 (0 : Int))).toNat : Int)) == 255)), (6, .bool false), (7, .int .i64 (wi64 (((rdL b_4 (0 : Int))).toNat : Int)))]) (H' := []) (ps := []) (by kernel_rfl) trivial ?_
  refine GoO.regionEnd ?_
  refine GoO.region' (is := [0, 1, 2, 3]) c28_40e (by kernel_rfl) ?_
  refine GoO.exec (is := [0, 1]) (hs := [.p, .p]) (rest := [2, 3]) (ks := [4, 5, 6, 48, 49]) (env' := [(4, .slice A_37 (out_30 ++ ((b_4.take (wi64 (((rdL b_4 (0 : Int))).toNat : Int)).toNat).drop (1 : Int).toNat)).length c_38), (5, .bool ((wi64 (((rdL b_4 (0 : Int))).toNat : Int)) == 255)), (6, .bool false), (48, .slice A_5 b_4.length c_6), (49, .int .i64 (wi64 (((rdL b_4 (0 : Int))).toNat : Int)))]) (H' := []) (ps := []) (by kernel_rfl) trivial ?_
  refine GoO.guard (fun h41 => ?_)
  refine OpTo.go (GoO.slc (e := 5) (K := Kd.u8) (A := A_5) (c := c_6) (xs := b_4) (j := 2) (l := (wi64 (((rdL b_4 (0 : Int))).toNat : Int))) (h := (b_4.length : Int)) rfl (by kernel_rfl) (by kernel_rfl) (by kernel_rfl) rfl Reads.rd rfl (by kernel_rfl) (by kernel_rfl) h41.1 h41.2.1 h41.2.2 _ (fun _ _ => rfl) (fun A_39 c_40 => ?_))
  refine GoO.exec (is := [3]) (hs := [.p]) (rest := []) (ks := [0, 4, 5, 6]) (env' := [(0, .slice A_39 ((b_4.take (b_4.length : Int).toNat).drop (wi64 (((rdL b_4 (0 : Int))).toNat : Int)).toNat).length c_40), (4, .slice A_37 (out_30 ++ ((b_4.take (wi64 (((rdL b_4 (0 : Int))).toNat : Int)).toNat).drop (1 : Int).toNat)).length c_38), (5, .bool ((wi64 (((rdL b_4 (0 : Int))).toNat : Int)) == 255)), (6, .bool false)]) (H' := []) (ps := []) (by kernel_rfl) trivial ?_
  refine GoO.regionEnd ?_
  refine GoO.inBlock ?_
  refine GoO.inLoop ?_
  exact GoO.sub (ks := [0, 4, 5, 6]) (hk := []) (bk := [0, 1]) (by kernel_rfl) (by kernel_rfl) (by kernel_rfl) (ih0 ((b_4.take (b_4.length : Int).toNat).drop (wi64 (((rdL b_4 (0 : Int))).toNat : Int)).toNat) (out_30 ++ ((b_4.take (wi64 (((rdL b_4 (0 : Int))).toNat : Int)).toNat).drop (1 : Int).toNat)) ((wi64 (((rdL b_4 (0 : Int))).toNat : Int)) == 255) false A_39 c_40 A_37 c_38)
theorem tontineref01_plain_j1_ok (n : Nat) (L0 : (List UInt8) → (List UInt8) → Bool → Bool → Option ((List UInt8) × Bool)) (b_4 : (List UInt8)) (out_7 : (List UInt8)) (full_10 : Bool) (first_11 : Bool) (A_2 : Option Addr) (c_3 : Nat) (A_5 : Option Addr) (c_6 : Nat) (A_8 : Option Addr) (c_9 : Nat) (w0 : World) (S0 : Fam) (ih0 : ∀ (b_4 : (List UInt8)) (out_7 : (List UInt8)) (full_10 : Bool) (first_11 : Bool) (A_5 : Option Addr) (c_6 : Nat) (A_8 : Option Addr) (c_9 : Nat), GoO (tontineref01_plain.cx A_2 c_3 w0 S0) [(0, .slice A_5 b_4.length c_6), (4, .slice A_8 out_7.length c_9), (5, .bool full_10), (6, .bool first_11)] [] [Rd 0 Kd.u8 A_5 c_6 b_4, Ow 40 Kd.u8 A_8 c_9 out_7] [.code c28_11, .inLoop c28_11, .inBlock 0, .code c28_41] (L0 b_4 out_7 full_10 first_11)) (b_23 : Bool) :
    GoO (tontineref01_plain.cx A_2 c_3 w0 S0) [(0, .slice A_5 b_4.length c_6), (4, .slice A_8 out_7.length c_9), (7, .int .i64 (wi64 (((rdL b_4 (0 : Int))).toNat : Int))), (37, .bool b_23)] [] [Rd 0 Kd.u8 A_5 c_6 b_4, Ow 40 Kd.u8 A_8 c_9 out_7] [.code c28_31, .code c28_34, .inBlock 1, .inLoop c28_11, .inBlock 0, .code c28_41] (tontineref01_plain.j1 n L0 b_4 out_7 b_23) := by
  unfold tontineref01_plain.j1
  refine GoO.ite' c28_31e (by kernel_rfl) (fun h24 => ?_) (fun h24 => ?_)
  · refine GoO.region' (is := [0, 1, 2, 3]) c28_32e (by kernel_rfl) ?_
    refine GoO.exec (is := [0]) (hs := [.p]) (rest := [1, 2, 3]) (ks := [0, 7, 38]) (env' := [(0, .slice A_5 b_4.length c_6), (7, .int .i64 (wi64 (((rdL b_4 (0 : Int))).toNat : Int))), (38, .slice A_8 out_7.length c_9)]) (H' := []) (ps := []) (by kernel_rfl) trivial ?_
    refine OpTo.go (GoO.lit (e := 5) (K := Kd.u8) rfl (by kernel_rfl) (by kernel_rfl) (cs := [.int .u8 0]) (by kernel_rfl) [(0 : UInt8)] (by kernel_rfl) (by kernel_rfl) (fun w S hB => ⟨[.int .u8 0], _, rfl, rfl, rfl⟩) 41 _ (fun _ _ => rfl) (fun A_25 c_26 => ?_))
    refine GoO.guard (fun h27 => ?_)
    refine OpTo.go (GoO.appW (e := 5) (K := Kd.u8) (A := A_8) (c := c_9) (tg := 40) (bytes := 1) (zs := [.int .u8 0]) (xs := out_7) (ys := [(0 : UInt8)]) (xv := .slice A_25 [(0 : UInt8)].length c_26) (j := 2) (bk := [0, 1]) rfl (by kernel_rfl) (by kernel_rfl) (by kernel_rfl) (by kernel_rfl) rfl (by kernel_rfl) rfl (fun w S hB => SrcIs.row (Reads.own w S (hB _ (List.mem_of_getElem? (i := 0) rfl)))) h27 rfl rfl rfl rfl _ (fun _ _ => rfl) (fun A_28 c_29 => ?_))
    refine GoO.exec (is := [3]) (hs := [.p]) (rest := []) (ks := [0, 4, 7]) (env' := [(0, .slice A_5 b_4.length c_6), (4, .slice A_28 (out_7 ++ [(0 : UInt8)]).length c_29), (7, .int .i64 (wi64 (((rdL b_4 (0 : Int))).toNat : Int)))]) (H' := []) (ps := []) (by kernel_rfl) trivial ?_
    refine GoO.regionEnd ?_
    exact GoO.sub (ks := [0, 4, 7]) (hk := []) (bk := [2, 0]) (by kernel_rfl) (by kernel_rfl) (by kernel_rfl) (tontineref01_plain_j2_ok n L0 b_4 out_7 full_10 first_11 A_2 c_3 A_5 c_6 A_8 c_9 w0 S0 ih0 (out_7 ++ [(0 : UInt8)]) A_28 c_29)
  · refine GoO.skip' c28_33e ?_
    exact GoO.sub (ks := [0, 4, 7]) (hk := []) (bk := [0, 1]) (by kernel_rfl) (by kernel_rfl) (by kernel_rfl) (tontineref01_plain_j2_ok n L0 b_4 out_7 full_10 first_11 A_2 c_3 A_5 c_6 A_8 c_9 w0 S0 ih0 out_7 A_8 c_9)
theorem tontineref01_plain_j0_ok (n : Nat) (L0 : (List UInt8) → (List UInt8) → Bool → Bool → Option ((List UInt8) × Bool)) (b_4 : (List UInt8)) (out_7 : (List UInt8)) (full_10 : Bool) (first_11 : Bool) (A_2 : Option Addr) (c_3 : Nat) (A_5 : Option Addr) (c_6 : Nat) (A_8 : Option Addr) (c_9 : Nat) (w0 : World) (S0 : Fam) (ih0 : ∀ (b_4 : (List UInt8)) (out_7 : (List UInt8)) (full_10 : Bool) (first_11 : Bool) (A_5 : Option Addr) (c_6 : Nat) (A_8 : Option Addr) (c_9 : Nat), GoO (tontineref01_plain.cx A_2 c_3 w0 S0) [(0, .slice A_5 b_4.length c_6), (4, .slice A_8 out_7.length c_9), (5, .bool full_10), (6, .bool first_11)] [] [Rd 0 Kd.u8 A_5 c_6 b_4, Ow 40 Kd.u8 A_8 c_9 out_7] [.code c28_11, .inLoop c28_11, .inBlock 0, .code c28_41] (L0 b_4 out_7 full_10 first_11)) (b_20 : Bool) :
    GoO (tontineref01_plain.cx A_2 c_3 w0 S0) [(0, .slice A_5 b_4.length c_6), (4, .slice A_8 out_7.length c_9), (5, .bool full_10), (6, .bool first_11), (7, .int .i64 (wi64 (((rdL b_4 (0 : Int))).toNat : Int))), (31, .bool b_20)] [] [Rd 0 Kd.u8 A_5 c_6 b_4, Ow 40 Kd.u8 A_8 c_9 out_7] [.code c28_23, .code c28_28, .inBlock 1, .inLoop c28_11, .inBlock 0, .code c28_41] (tontineref01_plain.j0 n L0 b_4 out_7 full_10 first_11 b_20) := by
  unfold tontineref01_plain.j0
  refine GoO.ite' c28_23e (by kernel_rfl) (fun h21 => ?_) (fun h21 => ?_)
  · refine GoO.seq' c28_24e ?_
    refine GoO.region' (is := [0, 1]) c28_25e (by kernel_rfl) ?_
    refine GoO.exec (is := [0, 1]) (hs := [.p, .p]) (rest := []) (ks := [2, 3]) (env' := [(2, .slice none ([] : List UInt8).length 0), (3, .bool false)]) (H' := []) (ps := []) (by kernel_rfl) trivial ?_
    refine GoO.regionEnd ?_
    refine GoO.nilOwn Kd.u8 1 ?_
    exact GoO.ret' (h := c28_26e) (hs := []) (ps := []) (hk := []) (bk := [0]) Try.func28 (⟨none, 0⟩ : Option Addr × Nat) (by kernel_rfl) trivial (by kernel_rfl) (by kernel_rfl)
  · refine GoO.skip' c28_27e ?_
    refine GoO.seq' c28_28e ?_
    refine GoO.seq' c28_29e ?_
    refine GoO.region' (is := [0, 1, 2, 3, 4, 5]) c28_30e (by kernel_rfl) ?_
    refine GoO.exec (is := [0, 1, 2]) (hs := [.p, .p, .p]) (rest := [3, 4, 5]) (ks := [0, 4, 5, 7, 34]) (env' := [(0, .slice A_5 b_4.length c_6), (4, .slice A_8 out_7.length c_9), (5, .bool full_10), (7, .int .i64 (wi64 (((rdL b_4 (0 : Int))).toNat : Int))), (34, .bool (!first_11))]) (H' := []) (ps := []) (by kernel_rfl) trivial ?_
    refine GoO.bsplit (t := 34) (by kernel_rfl) (fun h22 => ?_) (fun h22 => ?_)
    · refine GoO.exec (is := [3, 4, 5]) (hs := [.p, .p, .p]) (rest := []) (ks := [0, 4, 7, 37]) (env' := [(0, .slice A_5 b_4.length c_6), (4, .slice A_8 out_7.length c_9), (7, .int .i64 (wi64 (((rdL b_4 (0 : Int))).toNat : Int))), (37, .bool (!full_10))]) (H' := []) (ps := []) (by kernel_rfl) trivial ?_
      refine GoO.regionEnd ?_
      exact GoO.sub (ks := [0, 4, 7, 37]) (hk := []) (bk := [0, 1]) (by kernel_rfl) (by kernel_rfl) (by kernel_rfl) (tontineref01_plain_j1_ok n L0 b_4 out_7 full_10 first_11 A_2 c_3 A_5 c_6 A_8 c_9 w0 S0 ih0 (!full_10))
    · refine GoO.exec (is := [3, 4, 5]) (hs := [.p, .p, .p]) (rest := []) (ks := [0, 4, 7, 37]) (env' := [(0, .slice A_5 b_4.length c_6), (4, .slice A_8 out_7.length c_9), (7, .int .i64 (wi64 (((rdL b_4 (0 : Int))).toNat : Int))), (37, .bool false)]) (H' := []) (ps := []) (by kernel_rfl) trivial ?_
      refine GoO.regionEnd ?_
      exact GoO.sub (ks := [0, 4, 7, 37]) (hk := []) (bk := [0, 1]) (by kernel_rfl) (by kernel_rfl) (by kernel_rfl) (tontineref01_plain_j1_ok n L0 b_4 out_7 full_10 first_11 A_2 c_3 A_5 c_6 A_8 c_9 w0 S0 ih0 false)
theorem tontineref01_plain_l0_ok (n : Nat) (A_2 : Option Addr) (c_3 : Nat) (w0 : World) (S0 : Fam) :
    ∀ (k : Nat) (b_4 : (List UInt8)) (out_7 : (List UInt8)) (full_10 : Bool) (first_11 : Bool) (A_5 : Option Addr) (c_6 : Nat) (A_8 : Option Addr) (c_9 : Nat), GoO (tontineref01_plain.cx A_2 c_3 w0 S0) [(0, .slice A_5 b_4.length c_6), (4, .slice A_8 out_7.length c_9), (5, .bool full_10), (6, .bool first_11)] [] [Rd 0 Kd.u8 A_5 c_6 b_4, Ow 40 Kd.u8 A_8 c_9 out_7] [.code c28_11, .inLoop c28_11, .inBlock 0, .code c28_41] (tontineref01_plain.l0 n k b_4 out_7 full_10 first_11) := by
  intro k
  induction k with
  | zero => intros; rw [tontineref01_plain.l0.eq_1]; exact GoO.stop
  | succ k ih0 =>
    intro b_4 out_7 full_10 first_11 A_5 c_6 A_8 c_9
    rw [tontineref01_plain.l0.eq_2]
    refine GoO.seq' c28_11e ?_
    refine GoO.seq' c28_12e ?_
    refine GoO.region' (is := [0, 1, 2]) c28_13e (by kernel_rfl) ?_
    refine GoO.exec (is := [0, 1, 2]) (hs := [.p, .p, .p]) (rest := []) (ks := [0, 4, 5, 6, 10]) (env' := [(0, .slice A_5 b_4.length c_6), (4, .slice A_8 out_7.length c_9), (5, .bool full_10), (6, .bool first_11), (10, .bool (decide ((b_4.length : Int) > 0)))]) (H' := []) (ps := []) (by kernel_rfl) trivial ?_
    refine GoO.regionEnd ?_
    refine GoO.ite' c28_14e (by kernel_rfl) (fun h12 => ?_) (fun h12 => ?_)
    · refine GoO.skip' c28_15e ?_
      refine GoO.block' c28_17e ?_
      refine GoO.seq' c28_18e ?_
      refine GoO.region' (is := [0, 1, 2, 3, 4]) c28_19e (by kernel_rfl) ?_
      refine GoO.exec (is := [0]) (hs := [.p]) (rest := [1, 2, 3, 4]) (ks := [0, 4, 5, 6, 11]) (env' := [(0, .slice A_5 b_4.length c_6), (4, .slice A_8 out_7.length c_9), (5, .bool full_10), (6, .bool first_11), (11, .slice A_5 b_4.length c_6)]) (H' := []) (ps := []) (by kernel_rfl) trivial ?_
      refine GoO.guard (fun h13 => ?_)
      refine OpTo.go (GoO.idx (kk := .i64) (e := 5) (K := Kd.u8) (A := A_5) (c := c_6) (xs := b_4) (iv := 0) (j := 0) rfl (by kernel_rfl) (by kernel_rfl) (by kernel_rfl) (by kernel_rfl) rfl Reads.rd rfl h13.1 h13.2 (by decide) rfl ?_)
      refine OpTo.go (GoO.ldE' (K := Kd.u8) (A := A_5) (c := c_6) (xs := b_4) (iN := (0 : Int).toNat) (off := 0) (j := 0) rfl (by kernel_rfl) rfl Reads.rd (idx_lt h13.1 h13.2) (by decide) (Opn.flat _ _ _ _ _) (v := fun _ => .int .u8 (((rdL b_4 (0 : Int))).toNat : Int)) (fun _ => by kernel_rfl) _ (fun _ => rfl) (fun _ => ?_))
      refine GoO.exec (is := [3, 4]) (hs := [.p, .p]) (rest := []) (ks := [0, 4, 5, 6, 7]) (env' := [(0, .slice A_5 b_4.length c_6), (4, .slice A_8 out_7.length c_9), (5, .bool full_10), (6, .bool first_11), (7, .int .i64 (wi64 (((rdL b_4 (0 : Int))).toNat : Int)))]) (H' := []) (ps := []) (by kernel_rfl) trivial ?_
      refine GoO.regionEnd ?_
      refine GoO.seq' c28_20e ?_
      refine GoO.seq' c28_21e ?_
      refine GoO.region' (is := [0, 1, 2, 3, 4, 5, 6, 7, 8, 9, 10, 11, 12, 13, 14, 15, 16]) c28_22e (by kernel_rfl) ?_
      refine GoO.exec (is := [0, 1, 2]) (hs := [.p, .p, .p]) (rest := [3, 4, 5, 6, 7, 8, 9, 10, 11, 12, 13, 14, 15, 16]) (ks := [0, 4, 5, 6, 7, 17]) (env' := [(0, .slice A_5 b_4.length c_6), (4, .slice A_8 out_7.length c_9), (5, .bool full_10), (6, .bool first_11), (7, .int .i64 (wi64 (((rdL b_4 (0 : Int))).toNat : Int))), (17, .bool ((wi64 (((rdL b_4 (0 : Int))).toNat : Int)) == 0))]) (H' := []) (ps := []) (by kernel_rfl) trivial ?_
      refine GoO.bsplit (t := 17) (by kernel_rfl) (fun h14 => ?_) (fun h14 => ?_)
      · refine GoO.exec (is := [3, 4, 5, 6, 7, 8, 9, 10, 11, 12, 13, 14, 15, 16]) (hs := [.p, .p, .p, .p, .p, .p, .p, .p, .p, .p, .p, .p, .p, .p]) (rest := []) (ks := [0, 4, 5, 6, 7, 31]) (env' := [(0, .slice A_5 b_4.length c_6), (4, .slice A_8 out_7.length c_9), (5, .bool full_10), (6, .bool first_11), (7, .int .i64 (wi64 (((rdL b_4 (0 : Int))).toNat : Int))), (31, .bool true)]) (H' := []) (ps := []) (by kernel_rfl) trivial ?_
        refine GoO.regionEnd ?_
        exact GoO.sub (ks := [0, 4, 5, 6, 7, 31]) (hk := []) (bk := [0, 1]) (by kernel_rfl) (by kernel_rfl) (by kernel_rfl) (tontineref01_plain_j0_ok n (tontineref01_plain.l0 n k) b_4 out_7 full_10 first_11 A_2 c_3 A_5 c_6 A_8 c_9 w0 S0 ih0 true)
      · refine GoO.exec (is := [3, 4, 5, 6, 7, 8]) (hs := [.p, .p, .p, .p, .p, .p]) (rest := [9, 10, 11, 12, 13, 14, 15, 16]) (ks := [0, 4, 5, 6, 7, 23]) (env' := [(0, .slice A_5 b_4.length c_6), (4, .slice A_8 out_7.length c_9), (5, .bool full_10), (6, .bool first_11), (7, .int .i64 (wi64 (((rdL b_4 (0 : Int))).toNat : Int))), (23, .bool (decide ((wi64 (((rdL b_4 (0 : Int))).toNat : Int)) > (b_4.length : Int))))]) (H' := []) (ps := []) (by kernel_rfl) trivial ?_
        refine GoO.bsplit (t := 23) (by kernel_rfl) (fun h15 => ?_) (fun h15 => ?_)
        · refine GoO.exec (is := [9, 10, 11, 12, 13, 14, 15, 16]) (hs := [.p, .p, .p, .p, .p, .p, .p, .p]) (rest := []) (ks := [0, 4, 5, 6, 7, 31]) (env' := [(0, .slice A_5 b_4.length c_6), (4, .slice A_8 out_7.length c_9), (5, .bool full_10), (6, .bool first_11), (7, .int .i64 (wi64 (((rdL b_4 (0 : Int))).toNat : Int))), (31, .bool true)]) (H' := []) (ps := []) (by kernel_rfl) trivial ?_
          refine GoO.regionEnd ?_
          exact GoO.sub (ks := [0, 4, 5, 6, 7, 31]) (hk := []) (bk := [0, 1]) (by kernel_rfl) (by kernel_rfl) (by kernel_rfl) (tontineref01_plain_j0_ok n (tontineref01_plain.l0 n k) b_4 out_7 full_10 first_11 A_2 c_3 A_5 c_6 A_8 c_9 w0 S0 ih0 true)
        · refine GoO.exec (is := [9, 10]) (hs := [.p, .p]) (rest := [11, 12, 13, 14, 15, 16]) (ks := [0, 4, 5, 6, 7, 23, 24, 25]) (env' := [(0, .slice A_5 b_4.length c_6), (4, .slice A_8 out_7.length c_9), (5, .bool full_10), (6, .bool first_11), (7, .int .i64 (wi64 (((rdL b_4 (0 : Int))).toNat : Int))), (23, .bool false), (24, .slice A_5 b_4.length c_6), (25, .int .i64 (wi64 (((rdL b_4 (0 : Int))).toNat : Int)))]) (H' := []) (ps := []) (by kernel_rfl) trivial ?_
          refine GoO.guard (fun h18 => ?_)
          refine OpTo.go (GoO.slc (e := 5) (K := Kd.u8) (A := A_5) (c := c_6) (xs := b_4) (j := 0) (l := (1 : Int)) (h := (wi64 (((rdL b_4 (0 : Int))).toNat : Int))) rfl (by kernel_rfl) (by kernel_rfl) (by kernel_rfl) rfl Reads.rd rfl (by kernel_rfl) (by kernel_rfl) h18.1 h18.2.1 h18.2.2 _ (fun _ _ => rfl) (fun A_16 c_17 => ?_))
          refine OpTo.go (GoO.call rfl (by kernel_rfl) (by kernel_rfl) (tontineref01_zero_ok n ((b_4.take (wi64 (((rdL b_4 (0 : Int))).toNat : Int)).toNat).drop (1 : Int).toNat) A_16 c_17) [[0]] [] [] [(0, 0)] (hks := []) (bks := [0, 1, 2]) (by kernel_rfl) (by kernel_rfl) (by kernel_rfl) (.inl rfl) rfl rfl (by kernel_rfl) (by kernel_rfl) _ (fun _ _ => rfl) _ _ (fun _ _ => rfl) (fun _ _ => rfl) (fun _ _ => by kernel_rfl) (fun _ _ => by kernel_rfl) (fun r_19 x_20 => ?_))
          refine GoO.shape (env' := [(0, .slice A_5 b_4.length c_6), (4, .slice A_8 out_7.length c_9), (5, .bool full_10), (6, .bool first_11), (7, .int .i64 (wi64 (((rdL b_4 (0 : Int))).toNat : Int))), (23, .bool false), (24, .slice A_5 b_4.length c_6), (25, .int .i64 (wi64 (((rdL b_4 (0 : Int))).toNat : Int))), (26, .slice A_16 ((b_4.take (wi64 (((rdL b_4 (0 : Int))).toNat : Int)).toNat).drop (1 : Int).toNat).length c_17), (27, .int .i64 r_19)]) (H' := []) (B' := [Rd 0 Kd.u8 A_16 c_17 ((b_4.take (wi64 (((rdL b_4 (0 : Int))).toNat : Int)).toNat).drop (1 : Int).toNat), Rd 0 Kd.u8 A_5 c_6 b_4, Ow 40 Kd.u8 A_8 c_9 out_7]) (ks := [0, 4, 5, 6, 7, 23, 24, 25, 26, 27]) (by kernel_rfl) (by kernel_rfl) (by kernel_rfl) ?_
          refine GoO.exec (is := [13, 14, 15, 16]) (hs := [.p, .p, .p, .p]) (rest := []) (ks := [0, 4, 5, 6, 7, 31]) (env' := [(0, .slice A_5 b_4.length c_6), (4, .slice A_8 out_7.length c_9), (5, .bool full_10), (6, .bool first_11), (7, .int .i64 (wi64 (((rdL b_4 (0 : Int))).toNat : Int))), (31, .bool (decide (r_19 < (wi64 ((wi64 (((rdL b_4 (0 : Int))).toNat : Int)) - 1)))))]) (H' := []) (ps := []) (by kernel_rfl) trivial ?_
          refine GoO.regionEnd ?_
          exact GoO.sub (ks := [0, 4, 5, 6, 7, 31]) (hk := []) (bk := [1, 2]) (by kernel_rfl) (by kernel_rfl) (by kernel_rfl) (tontineref01_plain_j0_ok n (tontineref01_plain.l0 n k) b_4 out_7 full_10 first_11 A_2 c_3 A_5 c_6 A_8 c_9 w0 S0 ih0 (decide (r_19 < (wi64 ((wi64 (((rdL b_4 (0 : Int))).toNat : Int)) - 1)))))
    · refine GoO.exit' c28_16e rfl ?_
      refine GoO.seq' c28_41e ?_
      refine GoO.region' (is := [0, 1, 2, 3, 4]) c28_42e (by kernel_rfl) ?_
      refine GoO.exec (is := [0, 1, 2, 3, 4]) (hs := [.p, .p, .p, .p, .p]) (rest := []) (ks := [2, 3]) (env' := [(2, .slice A_8 out_7.length c_9), (3, .bool (!first_11))]) (H' := []) (ps := []) (by kernel_rfl) trivial ?_
      refine GoO.regionEnd ?_
      refine GoO.retag (t := 40) (u := 1) (j := 1) (hk := []) (bk := [0]) rfl rfl rfl rfl rfl rfl (by kernel_rfl) (by kernel_rfl) ?_
      exact GoO.ret' (h := c28_43e) (hs := []) (ps := []) (hk := []) (bk := [0]) Try.func28 (⟨A_8, c_9⟩ : Option Addr × Nat) (by kernel_rfl) trivial (by kernel_rfl) (by kernel_rfl)
theorem tontineref01_plain_ok (n : Nat) (b_1 : (List UInt8)) (A_2 : Option Addr) (c_3 : Nat) :
    Meets Try.prog 28 [.slice A_2 b_1.length c_3] 0 [] [] [Rd 0 Kd.u8 A_2 c_3 b_1] (tontineref01_plain.f n b_1) (tontineref01_plain.R A_2 c_3) := by
  refine Meets.of (c := c28_0) (n := 54) Try.func28 (by kernel_rfl) (by kernel_rfl) (by kernel_rfl) fun w0 S0 => ?_
  unfold tontineref01_plain.f
  show GoO (tontineref01_plain.cx A_2 c_3 w0 S0) [(0, .slice A_2 b_1.length c_3)] [] [Rd 0 Kd.u8 A_2 c_3 b_1] [.code c28_0] _
  refine GoO.seq' c28_0e ?_
  refine GoO.region' (is := [0, 1]) c28_1e (by kernel_rfl) ?_
  refine GoO.exec (is := [0, 1]) (hs := [.p, .p]) (rest := []) (ks := [0]) (env' := [(0, .slice A_2 b_1.length c_3)]) (H' := []) (ps := []) (by kernel_rfl) trivial ?_
  refine GoO.regionEnd ?_
  refine GoO.seq' c28_2e ?_
  refine GoO.region' (is := [0]) c28_3e (by kernel_rfl) ?_
  refine GoO.exec (is := [0]) (hs := [.p]) (rest := []) (ks := [0, 4]) (env' := [(0, .slice A_2 b_1.length c_3), (4, .slice none ([] : List UInt8).length 0)]) (H' := []) (ps := []) (by kernel_rfl) trivial ?_
  refine GoO.regionEnd ?_
  refine GoO.seq' c28_4e ?_
  refine GoO.region' (is := [0]) c28_5e (by kernel_rfl) ?_
  refine GoO.exec (is := [0]) (hs := [.p]) (rest := []) (ks := [0, 4, 5]) (env' := [(0, .slice A_2 b_1.length c_3), (4, .slice none ([] : List UInt8).length 0), (5, .bool true)]) (H' := []) (ps := []) (by kernel_rfl) trivial ?_
  refine GoO.regionEnd ?_
  refine GoO.seq' c28_6e ?_
  refine GoO.region' (is := [0]) c28_7e (by kernel_rfl) ?_
  refine GoO.exec (is := [0]) (hs := [.p]) (rest := []) (ks := [0, 4, 5, 6]) (env' := [(0, .slice A_2 b_1.length c_3), (4, .slice none ([] : List UInt8).length 0), (5, .bool true), (6, .bool true)]) (H' := []) (ps := []) (by kernel_rfl) trivial ?_
  refine GoO.regionEnd ?_
  refine GoO.seq' c28_8e ?_
  refine GoO.block' c28_9e ?_
  refine GoO.loop' c28_10e ?_
  refine GoO.nilOwn Kd.u8 40 ?_
  exact GoO.sub (ks := [0, 4, 5, 6]) (hk := []) (bk := [1, 0]) (by kernel_rfl) (by kernel_rfl) (by kernel_rfl) (tontineref01_plain_l0_ok n A_2 c_3 w0 S0 n b_1 ([] : List UInt8) true true A_2 c_3 none 0)

/-! tontine/tontineref01.Encode -/
noncomputable def c21_0 : Code := bodyOf Try.f21
noncomputable def c21_1 : Code := cdL c21_0
noncomputable def c21_2 : Code := cdR c21_0
noncomputable def c21_3 : Code := cdL c21_2
noncomputable def c21_4 : Code := cdR c21_2
noncomputable def c21_5 : Code := cdL c21_4
noncomputable def c21_6 : Code := cdL c21_5
noncomputable def c21_7 : Code := cdL c21_6
noncomputable def c21_8 : Code := cdL c21_7
noncomputable def c21_9 : Code := cdR c21_7
noncomputable def c21_10 : Code := cdL c21_9
noncomputable def c21_11 : Code := cdL c21_10
noncomputable def c21_12 : Code := cdR c21_10
noncomputable def c21_13 : Code := cdL c21_12
noncomputable def c21_14 : Code := cdL c21_13
noncomputable def c21_15 : Code := cdR c21_13
noncomputable def c21_16 : Code := cdL c21_15
noncomputable def c21_17 : Code := cdR c21_15
noncomputable def c21_18 : Code := cdL c21_17
noncomputable def c21_19 : Code := cdR c21_17
noncomputable def c21_20 : Code := cdR c21_12
noncomputable def c21_21 : Code := cdR c21_9
noncomputable def c21_22 : Code := cdL c21_21
noncomputable def c21_23 : Code := cdR c21_21
noncomputable def c21_24 : Code := cdL c21_23
noncomputable def c21_25 : Code := cdR c21_23
noncomputable def c21_26 : Code := cdL c21_25
noncomputable def c21_27 : Code := cdL c21_26
noncomputable def c21_28 : Code := cdR c21_26
noncomputable def c21_29 : Code := cdL c21_28
noncomputable def c21_30 : Code := cdL c21_29
noncomputable def c21_31 : Code := cdR c21_29
noncomputable def c21_32 : Code := cdR c21_28
noncomputable def c21_33 : Code := cdR c21_25
noncomputable def r21_1 : Array Oper := cdO c21_1
noncomputable def r21_3 : Array Oper := cdO c21_3
noncomputable def r21_8 : Array Oper := cdO c21_8
noncomputable def r21_11 : Array Oper := cdO c21_11
noncomputable def r21_14 : Array Oper := cdO c21_14
noncomputable def r21_16 : Array Oper := cdO c21_16
noncomputable def r21_18 : Array Oper := cdO c21_18
noncomputable def r21_22 : Array Oper := cdO c21_22
noncomputable def r21_24 : Array Oper := cdO c21_24
noncomputable def r21_27 : Array Oper := cdO c21_27
noncomputable def r21_30 : Array Oper := cdO c21_30
noncomputable def r21_33 : Array Oper := cdO c21_33
theorem c21_0e : c21_0 = .seq c21_1 c21_2 := by kernel_rfl
theorem c21_1e : c21_1 = .region 0 r21_1 false := by kernel_rfl
theorem c21_2e : c21_2 = .seq c21_3 c21_4 := by kernel_rfl
theorem c21_3e : c21_3 = .region 1 r21_3 false := by kernel_rfl
theorem c21_4e : c21_4 = .block 0 c21_5 := by kernel_rfl
theorem c21_5e : c21_5 = .loop c21_6 := by kernel_rfl
theorem c21_6e : c21_6 = .block 1 c21_7 := by kernel_rfl
theorem c21_7e : c21_7 = .seq c21_8 c21_9 := by kernel_rfl
theorem c21_8e : c21_8 = .region 2 r21_8 false := by kernel_rfl
theorem c21_9e : c21_9 = .seq c21_10 c21_21 := by kernel_rfl
theorem c21_10e : c21_10 = .seq c21_11 c21_12 := by kernel_rfl
theorem c21_11e : c21_11 = .region 3 r21_11 false := by kernel_rfl
theorem c21_12e : c21_12 = .cond (cdC c21_12) c21_13 c21_20 := by kernel_rfl
theorem c21_13e : c21_13 = .seq c21_14 c21_15 := by kernel_rfl
theorem c21_14e : c21_14 = .region 4 r21_14 false := by kernel_rfl
theorem c21_15e : c21_15 = .seq c21_16 c21_17 := by kernel_rfl
theorem c21_16e : c21_16 = .region 5 r21_16 false := by kernel_rfl
theorem c21_17e : c21_17 = .seq c21_18 c21_19 := by kernel_rfl
theorem c21_18e : c21_18 = .region 6 r21_18 false := by kernel_rfl
theorem c21_19e : c21_19 = .exit 1 := by kernel_rfl
theorem c21_20e : c21_20 = .skip := by kernel_rfl
theorem c21_21e : c21_21 = .seq c21_22 c21_23 := by kernel_rfl
theorem c21_22e : c21_22 = .region 7 r21_22 false := by kernel_rfl
theorem c21_23e : c21_23 = .seq c21_24 c21_25 := by kernel_rfl
theorem c21_24e : c21_24 = .region 8 r21_24 false := by kernel_rfl
theorem c21_25e : c21_25 = .seq c21_26 c21_33 := by kernel_rfl
theorem c21_26e : c21_26 = .seq c21_27 c21_28 := by kernel_rfl
theorem c21_27e : c21_27 = .region 9 r21_27 false := by kernel_rfl
theorem c21_28e : c21_28 = .cond (cdC c21_28) c21_29 c21_32 := by kernel_rfl
theorem c21_29e : c21_29 = .seq c21_30 c21_31 := by kernel_rfl
theorem c21_30e : c21_30 = .region 10 r21_30 false := by kernel_rfl
theorem c21_31e : c21_31 = .ret := by kernel_rfl
theorem c21_32e : c21_32 = .skip := by kernel_rfl
theorem c21_33e : c21_33 = .region 11 r21_33 false := by kernel_rfl
noncomputable def tontineref01_Encode.R (A_2 : Option Addr) (c_3 : Nat) : Pst (List UInt8) where
  ε := Option Addr × Nat
  v := fun r x => .slice x.1 r.length x.2
  H := fun r x => []
  B := fun r x => [Ow 1 Kd.u8 x.1 x.2 r]
noncomputable def tontineref01_Encode.cx (A_2 : Option Addr) (c_3 : Nat) (w0 : World) (S0 : Fam) : Cx (List UInt8) := ⟨Try.prog, 21, Try.f21, 38, w0, S0, [], 0, tontineref01_Encode.R A_2 c_3⟩
theorem tontineref01_Encode_l0_ok (n : Nat) (A_2 : Option Addr) (c_3 : Nat) (w0 : World) (S0 : Fam) :
    ∀ (k : Nat) (b_4 : (List UInt8)) (out_7 : (List UInt8)) (A_5 : Option Addr) (c_6 : Nat) (A_8 : Option Addr) (c_9 : Nat), GoO (tontineref01_Encode.cx A_2 c_3 w0 S0) [(0, .slice A_5 b_4.length c_6), (3, .slice A_8 out_7.length c_9)] [] [Rd 0 Kd.u8 A_5 c_6 b_4, Ow 41 Kd.u8 A_8 c_9 out_7] [.code c21_6, .inLoop c21_6, .inBlock 0] (tontineref01_Encode.l0 n k b_4 out_7) := by
  intro k
  induction k with
  | zero => intros; rw [tontineref01_Encode.l0.eq_1]; exact GoO.stop
  | succ k ih0 =>
    intro b_4 out_7 A_5 c_6 A_8 c_9
    rw [tontineref01_Encode.l0.eq_2]
    refine GoO.block' c21_6e ?_
    refine GoO.seq' c21_7e ?_
    refine GoO.region' (is := [0, 1, 2]) c21_8e (by kernel_rfl) ?_
    refine GoO.exec (is := [0]) (hs := [.p]) (rest := [1, 2]) (ks := [0, 3, 5]) (env' := [(0, .slice A_5 b_4.length c_6), (3, .slice A_8 out_7.length c_9), (5, .slice A_5 b_4.length c_6)]) (H' := []) (ps := []) (by kernel_rfl) trivial ?_
    refine OpTo.go (GoO.call rfl (by kernel_rfl) (by kernel_rfl) (tontineref01_zero_ok n b_4 A_5 c_6) [[0]] [] [] [(0, 0)] (hks := []) (bks := [0, 1]) (by kernel_rfl) (by kernel_rfl) (by kernel_rfl) (.inl rfl) rfl rfl (by kernel_rfl) (by kernel_rfl) _ (fun _ _ => rfl) _ _ (fun _ _ => rfl) (fun _ _ => rfl) (fun _ _ => by kernel_rfl) (fun _ _ => by kernel_rfl) (fun r_10 x_41 => ?_))
    refine GoO.shape (env' := [(0, .slice A_5 b_4.length c_6), (3, .slice A_8 out_7.length c_9), (5, .slice A_5 b_4.length c_6), (6, .int .i64 r_10)]) (H' := []) (B' := [Rd 0 Kd.u8 A_5 c_6 b_4, Ow 41 Kd.u8 A_8 c_9 out_7]) (ks := [0, 3, 5, 6]) (by kernel_rfl) (by kernel_rfl) (by kernel_rfl) ?_
    refine GoO.exec (is := [2]) (hs := [.p]) (rest := []) (ks := [0, 3, 4]) (env' := [(0, .slice A_5 b_4.length c_6), (3, .slice A_8 out_7.length c_9), (4, .int .i64 r_10)]) (H' := []) (ps := []) (by kernel_rfl) trivial ?_
    refine GoO.regionEnd ?_
    refine GoO.seq' c21_9e ?_
    refine GoO.seq' c21_10e ?_
    refine GoO.region' (is := [0, 1]) c21_11e (by kernel_rfl) ?_
    refine GoO.exec (is := [0, 1]) (hs := [.p, .p]) (rest := []) (ks := [0, 3, 4, 8]) (env' := [(0, .slice A_5 b_4.length c_6), (3, .slice A_8 out_7.length c_9), (4, .int .i64 r_10), (8, .bool (decide (r_10 ≥ 254)))]) (H' := []) (ps := []) (by kernel_rfl) trivial ?_
    refine GoO.regionEnd ?_
    refine GoO.ite' c21_12e (by kernel_rfl) (fun h11 => ?_) (fun h11 => ?_)
    · refine GoO.seq' c21_13e ?_
      refine GoO.region' (is := [0, 1, 2, 3]) c21_14e (by kernel_rfl) ?_
      refine GoO.exec (is := [0]) (hs := [.p]) (rest := [1, 2, 3]) (ks := [0, 9]) (env' := [(0, .slice A_5 b_4.length c_6), (9, .slice A_8 out_7.length c_9)]) (H' := []) (ps := []) (by kernel_rfl) trivial ?_
      refine OpTo.go (GoO.lit (e := 5) (K := Kd.u8) rfl (by kernel_rfl) (by kernel_rfl) (cs := [.int .u8 255]) (by kernel_rfl) [(255 : UInt8)] (by kernel_rfl) (by kernel_rfl) (fun w S hB => ⟨[.int .u8 255], _, rfl, rfl, rfl⟩) 40 _ (fun _ _ => rfl) (fun A_12 c_13 => ?_))
      refine GoO.guard (fun h14 => ?_)
      refine OpTo.go (GoO.appW (e := 5) (K := Kd.u8) (A := A_8) (c := c_9) (tg := 41) (bytes := 1) (zs := [.int .u8 0]) (xs := out_7) (ys := [(255 : UInt8)]) (xv := .slice A_12 [(255 : UInt8)].length c_13) (j := 2) (bk := [0, 1]) rfl (by kernel_rfl) (by kernel_rfl) (by kernel_rfl) (by kernel_rfl) rfl (by kernel_rfl) rfl (fun w S hB => SrcIs.row (Reads.own w S (hB _ (List.mem_of_getElem? (i := 0) rfl)))) h14 rfl rfl rfl rfl _ (fun _ _ => rfl) (fun A_15 c_16 => ?_))
      refine GoO.exec (is := [3]) (hs := [.p]) (rest := []) (ks := [0, 3]) (env' := [(0, .slice A_5 b_4.length c_6), (3, .slice A_15 (out_7 ++ [(255 : UInt8)]).length c_16)]) (H' := []) (ps := []) (by kernel_rfl) trivial ?_
      refine GoO.regionEnd ?_
      refine GoO.seq' c21_15e ?_
      refine GoO.region' (is := [0, 1, 2, 3, 4]) c21_16e (by kernel_rfl) ?_
      refine GoO.exec (is := [0, 1]) (hs := [.p, .p]) (rest := [2, 3, 4]) (ks := [0, 12, 13]) (env' := [(0, .slice A_5 b_4.length c_6), (12, .slice A_15 (out_7 ++ [(255 : UInt8)]).length c_16), (13, .slice A_5 b_4.length c_6)]) (H' := []) (ps := []) (by kernel_rfl) trivial ?_
      refine GoO.guard (fun h19 => ?_)
      refine OpTo.go (GoO.slc (e := 5) (K := Kd.u8) (A := A_5) (c := c_6) (xs := b_4) (j := 2) (l := (0 : Int)) (h := (254 : Int)) rfl (by kernel_rfl) (by kernel_rfl) (by kernel_rfl) rfl Reads.rd rfl (by kernel_rfl) (by kernel_rfl) h19.1 h19.2.1 h19.2.2 _ (fun _ _ => rfl) (fun A_17 c_18 => ?_))
      refine GoO.guard (fun h20 => ?_)
      refine OpTo.go (GoO.appW (e := 5) (K := Kd.u8) (A := A_15) (c := c_16) (tg := 41) (bytes := 1) (zs := [.int .u8 0]) (xs := out_7 ++ [(255 : UInt8)]) (ys := (b_4.take (254 : Int).toNat).drop (0 : Int).toNat) (xv := .slice A_17 ((b_4.take (254 : Int).toNat).drop (0 : Int).toNat).length c_18) (j := 1) (bk := [0, 2, 3]) rfl (by kernel_rfl) (by kernel_rfl) (by kernel_rfl) (by kernel_rfl) rfl (by kernel_rfl) rfl (fun w S hB => SrcIs.row (Reads.rd w S (hB _ (List.mem_of_getElem? (i := 0) rfl)))) h20 rfl rfl rfl rfl _ (fun _ _ => rfl) (fun A_21 c_22 => ?_))
      refine GoO.exec (is := [4]) (hs := [.p]) (rest := []) (ks := [0, 3]) (env' := [(0, .slice A_5 b_4.length c_6), (3, .slice A_21 ((out_7 ++ [(255 : UInt8)]) ++ ((b_4.take (254 : Int).toNat).drop (0 : Int).toNat)).length c_22)]) (H' := []) (ps := []) (by kernel_rfl) trivial ?_
      refine GoO.regionEnd ?_
      refine GoO.seq' c21_17e ?_
      refine GoO.region' (is := [0, 1, 2]) c21_18e (by kernel_rfl) ?_
      refine GoO.exec (is := [0]) (hs := [.p]) (rest := [1, 2]) (ks := [3, 16]) (env' := [(3, .slice A_21 ((out_7 ++ [(255 : UInt8)]) ++ ((b_4.take (254 : Int).toNat).drop (0 : Int).toNat)).length c_22), (16, .slice A_5 b_4.length c_6)]) (H' := []) (ps := []) (by kernel_rfl) trivial ?_
      refine GoO.guard (fun h25 => ?_)
      refine OpTo.go (GoO.slc (e := 5) (K := Kd.u8) (A := A_5) (c := c_6) (xs := b_4) (j := 3) (l := (254 : Int)) (h := (b_4.length : Int)) rfl (by kernel_rfl) (by kernel_rfl) (by kernel_rfl) rfl Reads.rd rfl (by kernel_rfl) (by kernel_rfl) h25.1 h25.2.1 h25.2.2 _ (fun _ _ => rfl) (fun A_23 c_24 => ?_))
      refine GoO.exec (is := [2]) (hs := [.p]) (rest := []) (ks := [0, 3]) (env' := [(0, .slice A_23 ((b_4.take (b_4.length : Int).toNat).drop (254 : Int).toNat).length c_24), (3, .slice A_21 ((out_7 ++ [(255 : UInt8)]) ++ ((b_4.take (254 : Int).toNat).drop (0 : Int).toNat)).length c_22)]) (H' := []) (ps := []) (by kernel_rfl) trivial ?_
      refine GoO.regionEnd ?_
      refine GoO.exit' c21_19e rfl ?_
      refine GoO.inLoop ?_
      exact GoO.sub (ks := [0, 3]) (hk := []) (bk := [0, 1]) (by kernel_rfl) (by kernel_rfl) (by kernel_rfl) (ih0 ((b_4.take (b_4.length : Int).toNat).drop (254 : Int).toNat) ((out_7 ++ [(255 : UInt8)]) ++ ((b_4.take (254 : Int).toNat).drop (0 : Int).toNat)) A_23 c_24 A_21 c_22)
    · refine GoO.skip' c21_20e ?_
      refine GoO.seq' c21_21e ?_
      refine GoO.region' (is := [0, 1, 2, 3, 4, 5, 6]) c21_22e (by kernel_rfl) ?_
      refine GoO.exec (is := [0, 1, 2, 3]) (hs := [.p, .p, .p, .p]) (rest := [4, 5, 6]) (ks := [0, 4, 18, 21]) (env' := [(0, .slice A_5 b_4.length c_6), (4, .int .i64 r_10), (18, .slice A_8 out_7.length c_9), (21, .int .u8 (wu8 (wi64 (r_10 + 1))))]) (H' := []) (ps := []) (by kernel_rfl) trivial ?_
      refine OpTo.go (GoO.lit (e := 5) (K := Kd.u8) rfl (by kernel_rfl) (by kernel_rfl) (cs := [.int .u8 (wu8 (wi64 (r_10 + 1)))]) (by kernel_rfl) [u8of (wi64 (r_10 + 1))] (by kernel_rfl) (by kernel_rfl) (fun w S hB => ⟨[.int .u8 (wu8 (wi64 (r_10 + 1)))], _, rfl, (congrArg (fun v => [v]) (u8cell _)), rfl⟩) 42 _ (fun _ _ => rfl) (fun A_26 c_27 => ?_))
      refine GoO.guard (fun h28 => ?_)
      refine OpTo.go (GoO.appW (e := 5) (K := Kd.u8) (A := A_8) (c := c_9) (tg := 41) (bytes := 1) (zs := [.int .u8 0]) (xs := out_7) (ys := [u8of (wi64 (r_10 + 1))]) (xv := .slice A_26 [u8of (wi64 (r_10 + 1))].length c_27) (j := 2) (bk := [0, 1]) rfl (by kernel_rfl) (by kernel_rfl) (by kernel_rfl) (by kernel_rfl) rfl (by kernel_rfl) rfl (fun w S hB => SrcIs.row (Reads.own w S (hB _ (List.mem_of_getElem? (i := 0) rfl)))) h28 rfl rfl rfl rfl _ (fun _ _ => rfl) (fun A_29 c_30 => ?_))
      refine GoO.exec (is := [6]) (hs := [.p]) (rest := []) (ks := [0, 3, 4]) (env' := [(0, .slice A_5 b_4.length c_6), (3, .slice A_29 (out_7 ++ [u8of (wi64 (r_10 + 1))]).length c_30), (4, .int .i64 r_10)]) (H' := []) (ps := []) (by kernel_rfl) trivial ?_
      refine GoO.regionEnd ?_
      refine GoO.seq' c21_23e ?_
      refine GoO.region' (is := [0, 1, 2, 3, 4, 5]) c21_24e (by kernel_rfl) ?_
      refine GoO.exec (is := [0, 1, 2]) (hs := [.p, .p, .p]) (rest := [3, 4, 5]) (ks := [0, 4, 24, 25, 26]) (env' := [(0, .slice A_5 b_4.length c_6), (4, .int .i64 r_10), (24, .slice A_29 (out_7 ++ [u8of (wi64 (r_10 + 1))]).length c_30), (25, .slice A_5 b_4.length c_6), (26, .int .i64 r_10)]) (H' := []) (ps := []) (by kernel_rfl) trivial ?_
      refine GoO.guard (fun h33 => ?_)
      refine OpTo.go (GoO.slc (e := 5) (K := Kd.u8) (A := A_5) (c := c_6) (xs := b_4) (j := 2) (l := (0 : Int)) (h := r_10) rfl (by kernel_rfl) (by kernel_rfl) (by kernel_rfl) rfl Reads.rd rfl (by kernel_rfl) (by kernel_rfl) h33.1 h33.2.1 h33.2.2 _ (fun _ _ => rfl) (fun A_31 c_32 => ?_))
      refine GoO.guard (fun h34 => ?_)
      refine OpTo.go (GoO.appW (e := 5) (K := Kd.u8) (A := A_29) (c := c_30) (tg := 41) (bytes := 1) (zs := [.int .u8 0]) (xs := out_7 ++ [u8of (wi64 (r_10 + 1))]) (ys := (b_4.take r_10.toNat).drop (0 : Int).toNat) (xv := .slice A_31 ((b_4.take r_10.toNat).drop (0 : Int).toNat).length c_32) (j := 1) (bk := [0, 2, 3]) rfl (by kernel_rfl) (by kernel_rfl) (by kernel_rfl) (by kernel_rfl) rfl (by kernel_rfl) rfl (fun w S hB => SrcIs.row (Reads.rd w S (hB _ (List.mem_of_getElem? (i := 0) rfl)))) h34 rfl rfl rfl rfl _ (fun _ _ => rfl) (fun A_35 c_36 => ?_))
      refine GoO.exec (is := [5]) (hs := [.p]) (rest := []) (ks := [0, 3, 4]) (env' := [(0, .slice A_5 b_4.length c_6), (3, .slice A_35 ((out_7 ++ [u8of (wi64 (r_10 + 1))]) ++ ((b_4.take r_10.toNat).drop (0 : Int).toNat)).length c_36), (4, .int .i64 r_10)]) (H' := []) (ps := []) (by kernel_rfl) trivial ?_
      refine GoO.regionEnd ?_
      refine GoO.seq' c21_25e ?_
      refine GoO.seq' c21_26e ?_
      refine GoO.region' (is := [0, 1, 2, 3]) c21_27e (by kernel_rfl) ?_
      refine GoO.exec (is := [0, 1, 2, 3]) (hs := [.p, .p, .p, .p]) (rest := []) (ks := [0, 3, 4, 32]) (env' := [(0, .slice A_5 b_4.length c_6), (3, .slice A_35 ((out_7 ++ [u8of (wi64 (r_10 + 1))]) ++ ((b_4.take r_10.toNat).drop (0 : Int).toNat)).length c_36), (4, .int .i64 r_10), (32, .bool (r_10 == (b_4.length : Int)))]) (H' := []) (ps := []) (by kernel_rfl) trivial ?_
      refine GoO.regionEnd ?_
      refine GoO.ite' c21_28e (by kernel_rfl) (fun h37 => ?_) (fun h37 => ?_)
      · refine GoO.seq' c21_29e ?_
        refine GoO.region' (is := [0, 1]) c21_30e (by kernel_rfl) ?_
        refine GoO.exec (is := [0, 1]) (hs := [.p, .p]) (rest := []) (ks := [2]) (env' := [(2, .slice A_35 ((out_7 ++ [u8of (wi64 (r_10 + 1))]) ++ ((b_4.take r_10.toNat).drop (0 : Int).toNat)).length c_36)]) (H' := []) (ps := []) (by kernel_rfl) trivial ?_
        refine GoO.regionEnd ?_
        refine GoO.retag (t := 41) (u := 1) (j := 0) (hk := []) (bk := [1, 2, 3]) rfl rfl rfl rfl rfl rfl (by kernel_rfl) (by kernel_rfl) ?_
        exact GoO.ret' (h := c21_31e) (hs := []) (ps := []) (hk := []) (bk := [0]) Try.func21 (⟨A_35, c_36⟩ : Option Addr × Nat) (by kernel_rfl) trivial (by kernel_rfl) (by kernel_rfl)
      · refine GoO.skip' c21_32e ?_
        refine GoO.region' (is := [0, 1, 2, 3, 4]) c21_33e (by kernel_rfl) ?_
        refine GoO.exec (is := [0, 1, 2]) (hs := [.p, .p, .p]) (rest := [3, 4]) (ks := [3, 34, 36]) (env' := [(3, .slice A_35 ((out_7 ++ [u8of (wi64 (r_10 + 1))]) ++ ((b_4.take r_10.toNat).drop (0 : Int).toNat)).length c_36), (34, .slice A_5 b_4.length c_6), (36, .int .i64 (wi64 (r_10 + 1)))]) (H' := []) (ps := []) (by kernel_rfl) trivial ?_
        refine GoO.guard (fun h40 => ?_)
        refine OpTo.go (GoO.slc (e := 5) (K := Kd.u8) (A := A_5) (c := c_6) (xs := b_4) (j := 3) (l := (wi64 (r_10 + 1))) (h := (b_4.length : Int)) rfl (by kernel_rfl) (by kernel_rfl) (by kernel_rfl) rfl Reads.rd rfl (by kernel_rfl) (by kernel_rfl) h40.1 h40.2.1 h40.2.2 _ (fun _ _ => rfl) (fun A_38 c_39 => ?_))
        refine GoO.exec (is := [4]) (hs := [.p]) (rest := []) (ks := [0, 3]) (env' := [(0, .slice A_38 ((b_4.take (b_4.length : Int).toNat).drop (wi64 (r_10 + 1)).toNat).length c_39), (3, .slice A_35 ((out_7 ++ [u8of (wi64 (r_10 + 1))]) ++ ((b_4.take r_10.toNat).drop (0 : Int).toNat)).length c_36)]) (H' := []) (ps := []) (by kernel_rfl) trivial ?_
        refine GoO.regionEnd ?_
        refine GoO.inBlock ?_
        refine GoO.inLoop ?_
        exact GoO.sub (ks := [0, 3]) (hk := []) (bk := [0, 1]) (by kernel_rfl) (by kernel_rfl) (by kernel_rfl) (ih0 ((b_4.take (b_4.length : Int).toNat).drop (wi64 (r_10 + 1)).toNat) ((out_7 ++ [u8of (wi64 (r_10 + 1))]) ++ ((b_4.take r_10.toNat).drop (0 : Int).toNat)) A_38 c_39 A_35 c_36)
theorem tontineref01_Encode_ok (n : Nat) (b_1 : (List UInt8)) (A_2 : Option Addr) (c_3 : Nat) :
    Meets Try.prog 21 [.slice A_2 b_1.length c_3] 0 [] [] [Rd 0 Kd.u8 A_2 c_3 b_1] (tontineref01_Encode.f n b_1) (tontineref01_Encode.R A_2 c_3) := by
  refine Meets.of (c := c21_0) (n := 38) Try.func21 (by kernel_rfl) (by kernel_rfl) (by kernel_rfl) fun w0 S0 => ?_
  unfold tontineref01_Encode.f
  show GoO (tontineref01_Encode.cx A_2 c_3 w0 S0) [(0, .slice A_2 b_1.length c_3)] [] [Rd 0 Kd.u8 A_2 c_3 b_1] [.code c21_0] _
  refine GoO.seq' c21_0e ?_
  refine GoO.region' (is := [0]) c21_1e (by kernel_rfl) ?_
  refine GoO.exec (is := [0]) (hs := [.p]) (rest := []) (ks := [0]) (env' := [(0, .slice A_2 b_1.length c_3)]) (H' := []) (ps := []) (by kernel_rfl) trivial ?_
  refine GoO.regionEnd ?_
  refine GoO.seq' c21_2e ?_
  refine GoO.region' (is := [0]) c21_3e (by kernel_rfl) ?_
  refine GoO.exec (is := [0]) (hs := [.p]) (rest := []) (ks := [0, 3]) (env' := [(0, .slice A_2 b_1.length c_3), (3, .slice none ([] : List UInt8).length 0)]) (H' := []) (ps := []) (by kernel_rfl) trivial ?_
  refine GoO.regionEnd ?_
  refine GoO.block' c21_4e ?_
  refine GoO.loop' c21_5e ?_
  refine GoO.nilOwn Kd.u8 41 ?_
  exact GoO.sub (ks := [0, 3]) (hk := []) (bk := [1, 0]) (by kernel_rfl) (by kernel_rfl) (by kernel_rfl) (tontineref01_Encode_l0_ok n A_2 c_3 w0 S0 n b_1 ([] : List UInt8) A_2 c_3 none 0)

/-! tontine/tontineref01.Decode -/
noncomputable def c23_0 : Code := bodyOf Try.f23
noncomputable def c23_1 : Code := cdL c23_0
noncomputable def c23_2 : Code := cdR c23_0
noncomputable def c23_3 : Code := cdL c23_2
noncomputable def c23_4 : Code := cdR c23_2
noncomputable def c23_5 : Code := cdL c23_4
noncomputable def c23_6 : Code := cdL c23_5
noncomputable def c23_7 : Code := cdR c23_5
noncomputable def c23_8 : Code := cdL c23_7
noncomputable def c23_9 : Code := cdL c23_8
noncomputable def c23_10 : Code := cdR c23_8
noncomputable def c23_11 : Code := cdR c23_7
noncomputable def c23_12 : Code := cdR c23_4
noncomputable def c23_13 : Code := cdL c23_12
noncomputable def c23_14 : Code := cdR c23_12
noncomputable def r23_1 : Array Oper := cdO c23_1
noncomputable def r23_3 : Array Oper := cdO c23_3
noncomputable def r23_6 : Array Oper := cdO c23_6
noncomputable def r23_9 : Array Oper := cdO c23_9
noncomputable def r23_13 : Array Oper := cdO c23_13
theorem c23_0e : c23_0 = .seq c23_1 c23_2 := by kernel_rfl
theorem c23_1e : c23_1 = .region 0 r23_1 false := by kernel_rfl
theorem c23_2e : c23_2 = .seq c23_3 c23_4 := by kernel_rfl
theorem c23_3e : c23_3 = .region 1 r23_3 false := by kernel_rfl
theorem c23_4e : c23_4 = .seq c23_5 c23_12 := by kernel_rfl
theorem c23_5e : c23_5 = .seq c23_6 c23_7 := by kernel_rfl
theorem c23_6e : c23_6 = .region 2 r23_6 true := by kernel_rfl
theorem c23_7e : c23_7 = .cond (cdC c23_7) c23_8 c23_11 := by kernel_rfl
theorem c23_8e : c23_8 = .seq c23_9 c23_10 := by kernel_rfl
theorem c23_9e : c23_9 = .region 3 r23_9 false := by kernel_rfl
theorem c23_10e : c23_10 = .ret := by kernel_rfl
theorem c23_11e : c23_11 = .skip := by kernel_rfl
theorem c23_12e : c23_12 = .seq c23_13 c23_14 := by kernel_rfl
theorem c23_13e : c23_13 = .region 4 r23_13 false := by kernel_rfl
theorem c23_14e : c23_14 = .ret := by kernel_rfl
noncomputable def tontineref01_Decode.R (A_2 : Option Addr) (c_3 : Nat) : Pst ((List UInt8) × Int) where
  ε := Option Addr × Nat
  v := fun r x => .tuple ⟨[.slice x.1 r.1.length x.2, .int .i64 r.2]⟩
  H := fun r x => []
  B := fun r x => [Rd 0 Kd.u8 x.1 x.2 r.1]
noncomputable def tontineref01_Decode.cx (A_2 : Option Addr) (c_3 : Nat) (w0 : World) (S0 : Fam) : Cx ((List UInt8) × Int) := ⟨Try.prog, 23, Try.f23, 22, w0, S0, [], 0, tontineref01_Decode.R A_2 c_3⟩
theorem tontineref01_Decode_ok (n : Nat) (b_1 : (List UInt8)) (A_2 : Option Addr) (c_3 : Nat) :
    Meets Try.prog 23 [.slice A_2 b_1.length c_3] 0 [] [] [Rd 0 Kd.u8 A_2 c_3 b_1] (tontineref01_Decode.f n b_1) (tontineref01_Decode.R A_2 c_3) := by
  refine Meets.of (c := c23_0) (n := 22) Try.func23 (by kernel_rfl) (by kernel_rfl) (by kernel_rfl) fun w0 S0 => ?_
  unfold tontineref01_Decode.f
  show GoO (tontineref01_Decode.cx A_2 c_3 w0 S0) [(0, .slice A_2 b_1.length c_3)] [] [Rd 0 Kd.u8 A_2 c_3 b_1] [.code c23_0] _
  refine GoO.seq' c23_0e ?_
  refine GoO.region' (is := [0, 1]) c23_1e (by kernel_rfl) ?_
  refine GoO.exec (is := [0, 1]) (hs := [.p, .p]) (rest := []) (ks := [0]) (env' := [(0, .slice A_2 b_1.length c_3)]) (H' := []) (ps := []) (by kernel_rfl) trivial ?_
  refine GoO.regionEnd ?_
  refine GoO.seq' c23_2e ?_
  refine GoO.region' (is := [0, 1, 2, 3, 4, 5, 6]) c23_3e (by kernel_rfl) ?_
  refine GoO.exec (is := [0]) (hs := [.p]) (rest := [1, 2, 3, 4, 5, 6]) (ks := [0, 7]) (env' := [(0, .slice A_2 b_1.length c_3), (7, .slice A_2 b_1.length c_3)]) (H' := []) (ps := []) (by kernel_rfl) trivial ?_
  refine OpTo.go (GoO.call rfl (by kernel_rfl) (by kernel_rfl) (tontineref01_plain_ok n b_1 A_2 c_3) [[0]] [(40, 1)] [] [(0, 0)] (hks := []) (bks := [0]) (by kernel_rfl) (by kernel_rfl) (by kernel_rfl) (.inl rfl) rfl rfl (by kernel_rfl) (by kernel_rfl) _ (fun _ _ => rfl) _ _ (fun _ _ => rfl) (fun _ _ => rfl) (fun _ _ => by kernel_rfl) (fun _ _ => by kernel_rfl) (fun r_4 x_13 => ?_))
  obtain ⟨A_5, c_6⟩ := x_13
  refine GoO.shape (env' := [(0, .slice A_2 b_1.length c_3), (7, .slice A_2 b_1.length c_3), (8, .tuple ⟨[.slice A_5 r_4.1.length c_6, .bool r_4.2]⟩)]) (H' := []) (B' := [Ow 40 Kd.u8 A_5 c_6 r_4.1, Rd 0 Kd.u8 A_2 c_3 b_1]) (ks := [0, 7, 8]) (by kernel_rfl) (by kernel_rfl) (by kernel_rfl) ?_
  refine GoO.exec (is := [2, 3, 4, 5, 6]) (hs := [.p, .p, .p, .p, .p]) (rest := []) (ks := [0, 4, 5]) (env' := [(0, .slice A_2 b_1.length c_3), (4, .slice A_5 r_4.1.length c_6), (5, .bool r_4.2)]) (H' := []) (ps := []) (by kernel_rfl) trivial ?_
  refine GoO.regionEnd ?_
  refine GoO.seq' c23_4e ?_
  refine GoO.seq' c23_5e ?_
  refine GoO.draw c23_6e (by kernel_rfl) [] [] [Rd 0 Kd.u8 A_2 c_3 b_1] (n := 10) (by kernel_rfl) ?_
  simp only [List.replicate]
  refine GoF.take [0, 1, 2] [.p, .p, .p] (ks := [0, 4, 13]) (fu := 7) (li := [true, true, true, false, false, false, false, false, false, false]) (env' := [(0, .slice A_2 b_1.length c_3), (4, .slice A_5 r_4.1.length c_6), (13, .bool (!r_4.2))]) (ps := []) (hk := []) (bk := [1]) (by kernel_rfl) trivial rfl rfl ?_
  refine GoF.bsplit (t := 13) (by kernel_rfl) (fun h7 => ?_) (fun h7 => ?_)
  · refine GoF.take [3, 4, 5, 6, 7, 8, 9] [.p, .p, .p, .p, .p, .p, .p] (ks := [4, 20]) (fu := 0) (li := [true, true, true, true, true, true, true, true, true, true]) (env' := [(4, .slice A_5 r_4.1.length c_6), (20, .bool true)]) (ps := []) (hk := []) (bk := [1]) (by kernel_rfl) trivial rfl rfl ?_
    refine GoF.done (by kernel_rfl) ?_
    refine GoO.condT c23_7e (by kernel_rfl) ?_
    refine GoO.seq' c23_8e ?_
    refine GoO.region' (is := [0, 1]) c23_9e (by kernel_rfl) ?_
    refine GoO.exec (is := [0, 1]) (hs := [.p, .p]) (rest := []) (ks := [2, 3]) (env' := [(2, .slice none ([] : List UInt8).length 0), (3, .int .i64 2)]) (H' := []) (ps := []) (by kernel_rfl) trivial ?_
    refine GoO.regionEnd ?_
    refine GoO.nilRd Kd.u8 ?_
    exact GoO.ret' (h := c23_10e) (hs := []) (ps := []) (hk := []) (bk := [0]) Try.func23 (⟨none, 0⟩ : Option Addr × Nat) (by kernel_rfl) trivial (by kernel_rfl) (by kernel_rfl)
  · refine GoF.take [3, 6] [.p, .p] (ks := [4, 13, 14, 17]) (fu := 5) (li := [true, true, true, true, false, false, true, false, false, false]) (env' := [(4, .slice A_5 r_4.1.length c_6), (13, .bool false), (14, .slice A_5 r_4.1.length c_6), (17, .slice A_2 b_1.length c_3)]) (ps := []) (hk := []) (bk := [1]) (by kernel_rfl) trivial rfl rfl ?_
    refine GoF.toStr1 (i := 7) (hk := []) (bk := [1]) (e := 5) (A := A_2) (c := c_3) (xs := b_1) (j := 0) (by kernel_rfl) rfl rfl rfl (by kernel_rfl) (by kernel_rfl) (by kernel_rfl) (by kernel_rfl) rfl Reads.rd rfl rfl ?_
    refine GoF.retag (t := 40) (u := 0) (j := 0) (hk := []) (bk := [1]) rfl rfl rfl rfl rfl rfl (by kernel_rfl) (by kernel_rfl) ?_
    refine GoF.own2rd (j := 0) rfl ?_
    refine OpTo.goF (i := 4) (by kernel_rfl) (hk := []) (bk := [2]) (GoO.call rfl (by kernel_rfl) (by kernel_rfl) (tontineref01_Encode_ok n r_4.1 A_5 c_6) [[0]] [(41, 1)] [] [(0, 0)] (hks := []) (bks := [0, 1]) (by kernel_rfl) (by kernel_rfl) (by kernel_rfl) (.inl rfl) rfl rfl (by kernel_rfl) (by kernel_rfl) _ (fun _ _ => rfl) _ _ (fun _ _ => rfl) (fun _ _ => rfl) (fun _ _ => by kernel_rfl) (fun _ _ => by kernel_rfl) (fun r_8 x_12 => ⟨rfl, rfl, ?_⟩))
    obtain ⟨A_9, c_10⟩ := x_12
    refine GoF.shape (env' := [(4, .slice A_5 r_4.1.length c_6), (13, .bool false), (14, .slice A_5 r_4.1.length c_6), (15, .slice A_9 r_8.length c_10), (17, .slice A_2 b_1.length c_3), (18, .string (bs b_1))]) (H' := []) (B' := [Ow 41 Kd.u8 A_9 c_10 r_8, Rd 0 Kd.u8 A_5 c_6 r_4.1, Rd 0 Kd.u8 A_2 c_3 b_1]) (ks := [4, 13, 14, 15, 17, 18]) (by kernel_rfl) (by kernel_rfl) (by kernel_rfl) ?_
    refine OpTo.goF (i := 5) (by kernel_rfl) (hk := []) (bk := [2]) (GoO.toStr (e := 5) (A := A_9) (c := c_10) (xs := r_8) (j := 0) rfl (by kernel_rfl) (by kernel_rfl) (by kernel_rfl) (by kernel_rfl) rfl Reads.own rfl rfl ⟨rfl, rfl, ?_⟩)
    refine GoF.take [8, 9] [.p, .p] (ks := [4, 20]) (fu := 0) (li := [true, true, true, true, true, true, true, true, true, true]) (env' := [(4, .slice A_5 r_4.1.length c_6), (20, .bool (!(r_8 == b_1)))]) (ps := []) (hk := []) (bk := [2]) (by kernel_rfl) trivial rfl rfl ?_
    refine GoF.done (by kernel_rfl) ?_
    refine GoO.ite' c23_7e (by kernel_rfl) (fun h11 => ?_) (fun h11 => ?_)
    · refine GoO.seq' c23_8e ?_
      refine GoO.region' (is := [0, 1]) c23_9e (by kernel_rfl) ?_
      refine GoO.exec (is := [0, 1]) (hs := [.p, .p]) (rest := []) (ks := [2, 3]) (env' := [(2, .slice none ([] : List UInt8).length 0), (3, .int .i64 2)]) (H' := []) (ps := []) (by kernel_rfl) trivial ?_
      refine GoO.regionEnd ?_
      refine GoO.nilRd Kd.u8 ?_
      exact GoO.ret' (h := c23_10e) (hs := []) (ps := []) (hk := []) (bk := [0]) Try.func23 (⟨none, 0⟩ : Option Addr × Nat) (by kernel_rfl) trivial (by kernel_rfl) (by kernel_rfl)
    · refine GoO.skip' c23_11e ?_
      refine GoO.seq' c23_12e ?_
      refine GoO.region' (is := [0, 1, 2]) c23_13e (by kernel_rfl) ?_
      refine GoO.exec (is := [0, 1, 2]) (hs := [.p, .p, .p]) (rest := []) (ks := [2, 3]) (env' := [(2, .slice A_5 r_4.1.length c_6), (3, .int .i64 0)]) (H' := []) (ps := []) (by kernel_rfl) trivial ?_
      refine GoO.regionEnd ?_
      exact GoO.ret' (h := c23_14e) (hs := []) (ps := []) (hk := []) (bk := [1]) Try.func23 (⟨A_5, c_6⟩ : Option Addr × Nat) (by kernel_rfl) trivial (by kernel_rfl) (by kernel_rfl)

/-! tontine/tontinelaw01.StuffDecodes -/
noncomputable def c7_0 : Code := bodyOf Try.f7
noncomputable def c7_1 : Code := cdL c7_0
noncomputable def c7_2 : Code := cdR c7_0
noncomputable def c7_3 : Code := cdL c7_2
noncomputable def c7_4 : Code := cdL c7_3
noncomputable def c7_5 : Code := cdR c7_3
noncomputable def c7_6 : Code := cdL c7_5
noncomputable def c7_7 : Code := cdL c7_6
noncomputable def c7_8 : Code := cdR c7_6
noncomputable def c7_9 : Code := cdR c7_5
noncomputable def c7_10 : Code := cdR c7_2
noncomputable def c7_11 : Code := cdL c7_10
noncomputable def c7_12 : Code := cdR c7_10
noncomputable def c7_13 : Code := cdL c7_12
noncomputable def c7_14 : Code := cdR c7_12
noncomputable def c7_15 : Code := cdL c7_14
noncomputable def c7_16 : Code := cdR c7_14
noncomputable def r7_1 : Array Oper := cdO c7_1
noncomputable def r7_4 : Array Oper := cdO c7_4
noncomputable def r7_7 : Array Oper := cdO c7_7
noncomputable def r7_11 : Array Oper := cdO c7_11
noncomputable def r7_13 : Array Oper := cdO c7_13
noncomputable def r7_15 : Array Oper := cdO c7_15
theorem c7_0e : c7_0 = .seq c7_1 c7_2 := by kernel_rfl
theorem c7_1e : c7_1 = .region 0 r7_1 false := by kernel_rfl
theorem c7_2e : c7_2 = .seq c7_3 c7_10 := by kernel_rfl
theorem c7_3e : c7_3 = .seq c7_4 c7_5 := by kernel_rfl
theorem c7_4e : c7_4 = .region 1 r7_4 false := by kernel_rfl
theorem c7_5e : c7_5 = .cond (cdC c7_5) c7_6 c7_9 := by kernel_rfl
theorem c7_6e : c7_6 = .seq c7_7 c7_8 := by kernel_rfl
theorem c7_7e : c7_7 = .region 2 r7_7 false := by kernel_rfl
theorem c7_8e : c7_8 = .ret := by kernel_rfl
theorem c7_9e : c7_9 = .skip := by kernel_rfl
theorem c7_10e : c7_10 = .seq c7_11 c7_12 := by kernel_rfl
theorem c7_11e : c7_11 = .region 3 r7_11 false := by kernel_rfl
theorem c7_12e : c7_12 = .seq c7_13 c7_14 := by kernel_rfl
theorem c7_13e : c7_13 = .region 4 r7_13 false := by kernel_rfl
theorem c7_14e : c7_14 = .seq c7_15 c7_16 := by kernel_rfl
theorem c7_15e : c7_15 = .region 5 r7_15 false := by kernel_rfl
theorem c7_16e : c7_16 = .ret := by kernel_rfl
noncomputable def tontinelaw01_StuffDecodes.R (A_2 : Option Addr) (c_3 : Nat) : Pst Bool where
  ε := Unit
  v := fun r x => .bool r
  H := fun r x => []
  B := fun r x => []
noncomputable def tontinelaw01_StuffDecodes.cx (A_2 : Option Addr) (c_3 : Nat) (w0 : World) (S0 : Fam) : Cx Bool := ⟨Try.prog, 7, Try.f7, 29, w0, S0, [], 0, tontinelaw01_StuffDecodes.R A_2 c_3⟩
theorem tontinelaw01_StuffDecodes_ok (n : Nat) (b_1 : (List UInt8)) (A_2 : Option Addr) (c_3 : Nat) :
    Meets Try.prog 7 [.slice A_2 b_1.length c_3] 0 [] [] [Rd 0 Kd.u8 A_2 c_3 b_1] (tontinelaw01_StuffDecodes.f n b_1) (tontinelaw01_StuffDecodes.R A_2 c_3) := by
  refine Meets.of (c := c7_0) (n := 29) Try.func7 (by kernel_rfl) (by kernel_rfl) (by kernel_rfl) fun w0 S0 => ?_
  unfold tontinelaw01_StuffDecodes.f
  show GoO (tontinelaw01_StuffDecodes.cx A_2 c_3 w0 S0) [(0, .slice A_2 b_1.length c_3)] [] [Rd 0 Kd.u8 A_2 c_3 b_1] [.code c7_0] _
  refine GoO.seq' c7_0e ?_
  refine GoO.region' (is := [0]) c7_1e (by kernel_rfl) ?_
  refine GoO.exec (is := [0]) (hs := [.p]) (rest := []) (ks := [0]) (env' := [(0, .slice A_2 b_1.length c_3)]) (H' := []) (ps := []) (by kernel_rfl) trivial ?_
  refine GoO.regionEnd ?_
  refine GoO.seq' c7_2e ?_
  refine GoO.seq' c7_3e ?_
  refine GoO.region' (is := [0, 1]) c7_4e (by kernel_rfl) ?_
  refine OpTo.go (GoO.call rfl (by kernel_rfl) (by kernel_rfl) (tontinelaw01_begun_ok n) [[0]] [] [] [] (hks := []) (bks := [0]) (by kernel_rfl) (by kernel_rfl) (by kernel_rfl) (.inl rfl) rfl rfl (by kernel_rfl) (by kernel_rfl) _ (fun _ _ => rfl) _ _ (fun _ _ => rfl) (fun _ _ => rfl) (fun _ _ => by kernel_rfl) (fun _ _ => by kernel_rfl) (fun r_4 x_15 => ?_))
  refine GoO.shape (env' := [(0, .slice A_2 b_1.length c_3), (7, .bool r_4)]) (H' := []) (B' := [Rd 0 Kd.u8 A_2 c_3 b_1]) (ks := [0, 7]) (by kernel_rfl) (by kernel_rfl) (by kernel_rfl) ?_
  refine GoO.exec (is := [1]) (hs := [.p]) (rest := []) (ks := [0, 8]) (env' := [(0, .slice A_2 b_1.length c_3), (8, .bool (!r_4))]) (H' := []) (ps := []) (by kernel_rfl) trivial ?_
  refine GoO.regionEnd ?_
  refine GoO.ite' c7_5e (by kernel_rfl) (fun h5 => ?_) (fun h5 => ?_)
  · refine GoO.seq' c7_6e ?_
    refine GoO.region' (is := [0]) c7_7e (by kernel_rfl) ?_
    refine GoO.exec (is := [0]) (hs := [.p]) (rest := []) (ks := [2]) (env' := [(2, .bool false)]) (H' := []) (ps := []) (by kernel_rfl) trivial ?_
    refine GoO.regionEnd ?_
    exact GoO.ret' (h := c7_8e) (hs := []) (ps := []) (hk := []) (bk := []) Try.func7 () (by kernel_rfl) trivial (by kernel_rfl) (by kernel_rfl)
  · refine GoO.skip' c7_9e ?_
    refine GoO.seq' c7_10e ?_
    refine GoO.region' (is := [0, 1, 2, 3, 4, 5, 6]) c7_11e (by kernel_rfl) ?_
    refine GoO.exec (is := [0]) (hs := [.p]) (rest := [1, 2, 3, 4, 5, 6]) (ks := [0, 10]) (env' := [(0, .slice A_2 b_1.length c_3), (10, .slice A_2 b_1.length c_3)]) (H' := []) (ps := []) (by kernel_rfl) trivial ?_
    refine OpTo.go (GoO.call rfl (by kernel_rfl) (by kernel_rfl) (stuff_Decode_ok n b_1 A_2 c_3) [[0]] [(40, 1)] [] [(0, 0)] (hks := []) (bks := [0]) (by kernel_rfl) (by kernel_rfl) (by kernel_rfl) (.inl rfl) rfl rfl (by kernel_rfl) (by kernel_rfl) _ (fun _ _ => rfl) _ _ (fun _ _ => rfl) (fun _ _ => rfl) (fun _ _ => by kernel_rfl) (fun _ _ => by kernel_rfl) (fun r_6 x_14 => ?_))
    obtain ⟨A_7, c_8⟩ := x_14
    refine GoO.shape (env' := [(0, .slice A_2 b_1.length c_3), (10, .slice A_2 b_1.length c_3), (11, .tuple ⟨[.slice A_7 r_6.1.length c_8, .int .i64 r_6.2]⟩)]) (H' := []) (B' := [Ow 40 Kd.u8 A_7 c_8 r_6.1, Rd 0 Kd.u8 A_2 c_3 b_1]) (ks := [0, 10, 11]) (by kernel_rfl) (by kernel_rfl) (by kernel_rfl) ?_
    refine GoO.exec (is := [2, 3, 4, 5, 6]) (hs := [.p, .p, .p, .p, .p]) (rest := []) (ks := [0, 3, 4]) (env' := [(0, .slice A_2 b_1.length c_3), (3, .slice A_7 r_6.1.length c_8), (4, .int .i64 r_6.2)]) (H' := []) (ps := []) (by kernel_rfl) trivial ?_
    refine GoO.regionEnd ?_
    refine GoO.seq' c7_12e ?_
    refine GoO.region' (is := [0, 1, 2, 3, 4, 5, 6]) c7_13e (by kernel_rfl) ?_
    refine GoO.exec (is := [0]) (hs := [.p]) (rest := [1, 2, 3, 4, 5, 6]) (ks := [3, 4, 15]) (env' := [(3, .slice A_7 r_6.1.length c_8), (4, .int .i64 r_6.2), (15, .slice A_2 b_1.length c_3)]) (H' := []) (ps := []) (by kernel_rfl) trivial ?_
    refine OpTo.go (GoO.call rfl (by kernel_rfl) (by kernel_rfl) (tontineref01_Decode_ok n b_1 A_2 c_3) [[0]] [] [] [(0, 1)] (hks := []) (bks := [0, 1]) (by kernel_rfl) (by kernel_rfl) (by kernel_rfl) (.inl rfl) rfl rfl (by kernel_rfl) (by kernel_rfl) _ (fun _ _ => rfl) _ _ (fun _ _ => rfl) (fun _ _ => rfl) (fun _ _ => by kernel_rfl) (fun _ _ => by kernel_rfl) (fun r_9 x_13 => ?_))
    obtain ⟨A_10, c_11⟩ := x_13
    refine GoO.shape (env' := [(3, .slice A_7 r_6.1.length c_8), (4, .int .i64 r_6.2), (15, .slice A_2 b_1.length c_3), (16, .tuple ⟨[.slice A_10 r_9.1.length c_11, .int .i64 r_9.2]⟩)]) (H' := []) (B' := [Rd 0 Kd.u8 A_10 c_11 r_9.1, Ow 40 Kd.u8 A_7 c_8 r_6.1, Rd 0 Kd.u8 A_2 c_3 b_1]) (ks := [3, 4, 15, 16]) (by kernel_rfl) (by kernel_rfl) (by kernel_rfl) ?_
    refine GoO.exec (is := [2, 3, 4, 5, 6]) (hs := [.p, .p, .p, .p, .p]) (rest := []) (ks := [3, 4, 5, 6]) (env' := [(3, .slice A_7 r_6.1.length c_8), (4, .int .i64 r_6.2), (5, .slice A_10 r_9.1.length c_11), (6, .int .i64 r_9.2)]) (H' := []) (ps := []) (by kernel_rfl) trivial ?_
    refine GoO.regionEnd ?_
    refine GoO.seq' c7_14e ?_
    refine GoO.region' (is := [0, 1, 2, 3, 4, 5, 6, 7, 8, 9, 10]) c7_15e (by kernel_rfl) ?_
    refine GoO.exec (is := [0, 1, 2, 3]) (hs := [.p, .p, .p, .p]) (rest := [4, 5, 6, 7, 8, 9, 10]) (ks := [3, 5, 22]) (env' := [(3, .slice A_7 r_6.1.length c_8), (5, .slice A_10 r_9.1.length c_11), (22, .bool (r_6.2 == r_9.2))]) (H' := []) (ps := []) (by kernel_rfl) trivial ?_
    refine GoO.bsplit (t := 22) (by kernel_rfl) (fun h12 => ?_) (fun h12 => ?_)
    · refine GoO.exec (is := [4]) (hs := [.p]) (rest := [5, 6, 7, 8, 9, 10]) (ks := [5, 22, 23]) (env' := [(5, .slice A_10 r_9.1.length c_11), (22, .bool true), (23, .slice A_7 r_6.1.length c_8)]) (H' := []) (ps := []) (by kernel_rfl) trivial ?_
      refine OpTo.go (GoO.toStr (e := 5) (A := A_7) (c := c_8) (xs := r_6.1) (j := 1) rfl (by kernel_rfl) (by kernel_rfl) (by kernel_rfl) (by kernel_rfl) rfl Reads.own rfl rfl ?_)
      refine GoO.exec (is := [6]) (hs := [.p]) (rest := [7, 8, 9, 10]) (ks := [22, 24, 25]) (env' := [(22, .bool true), (24, .string (bs r_6.1)), (25, .slice A_10 r_9.1.length c_11)]) (H' := []) (ps := []) (by kernel_rfl) trivial ?_
      refine OpTo.go (GoO.toStr (e := 5) (A := A_10) (c := c_11) (xs := r_9.1) (j := 0) rfl (by kernel_rfl) (by kernel_rfl) (by kernel_rfl) (by kernel_rfl) rfl Reads.rd rfl rfl ?_)
      refine GoO.exec (is := [8, 9, 10]) (hs := [.p, .p, .p]) (rest := []) (ks := [2]) (env' := [(2, .bool (r_6.1 == r_9.1))]) (H' := []) (ps := []) (by kernel_rfl) trivial ?_
      refine GoO.regionEnd ?_
      exact GoO.ret' (h := c7_16e) (hs := []) (ps := []) (hk := []) (bk := []) Try.func7 () (by kernel_rfl) trivial (by kernel_rfl) (by kernel_rfl)
    · refine GoO.exec (is := [4, 5, 6, 7, 8, 9, 10]) (hs := [.p, .p, .p, .p, .p, .p, .p]) (rest := []) (ks := [2]) (env' := [(2, .bool false)]) (H' := []) (ps := []) (by kernel_rfl) trivial ?_
      refine GoO.regionEnd ?_
      exact GoO.ret' (h := c7_16e) (hs := []) (ps := []) (hk := []) (bk := []) Try.func7 () (by kernel_rfl) trivial (by kernel_rfl) (by kernel_rfl)
end Go.GL
