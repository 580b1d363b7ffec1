import Derived.Test.YtapiconoooncgaaKindsT1
import Derived.Test.YtapiconoooncgaaProg
set_option linter.unusedVariables false
set_option linter.unusedSimpArgs false
set_option maxRecDepth 100000
namespace Go.GL
open Go Go.Proofs

/-! tontine/stuff.Decode -/
noncomputable def c22_0 : Code := bodyOf Try.f22
noncomputable def c22_1 : Code := cdL c22_0
noncomputable def c22_2 : Code := cdR c22_0
noncomputable def c22_3 : Code := cdL c22_2
noncomputable def c22_4 : Code := cdR c22_2
noncomputable def c22_5 : Code := cdL c22_4
noncomputable def c22_6 : Code := cdL c22_5
noncomputable def c22_7 : Code := cdL c22_6
noncomputable def c22_8 : Code := cdL c22_7
noncomputable def c22_9 : Code := cdL c22_8
noncomputable def c22_10 : Code := cdR c22_8
noncomputable def c22_11 : Code := cdL c22_10
noncomputable def c22_12 : Code := cdR c22_10
noncomputable def c22_13 : Code := cdR c22_7
noncomputable def c22_14 : Code := cdL c22_13
noncomputable def c22_15 : Code := cdL c22_14
noncomputable def c22_16 : Code := cdR c22_14
noncomputable def c22_17 : Code := cdL c22_16
noncomputable def c22_18 : Code := cdL c22_17
noncomputable def c22_19 : Code := cdR c22_17
noncomputable def c22_20 : Code := cdL c22_19
noncomputable def c22_21 : Code := cdL c22_20
noncomputable def c22_22 : Code := cdR c22_20
noncomputable def c22_23 : Code := cdR c22_19
noncomputable def c22_24 : Code := cdR c22_16
noncomputable def c22_25 : Code := cdL c22_24
noncomputable def c22_26 : Code := cdL c22_25
noncomputable def c22_27 : Code := cdR c22_25
noncomputable def c22_28 : Code := cdL c22_27
noncomputable def c22_29 : Code := cdL c22_28
noncomputable def c22_30 : Code := cdL c22_29
noncomputable def c22_31 : Code := cdR c22_29
noncomputable def c22_32 : Code := cdL c22_31
noncomputable def c22_33 : Code := cdL c22_32
noncomputable def c22_34 : Code := cdR c22_32
noncomputable def c22_35 : Code := cdR c22_31
noncomputable def c22_36 : Code := cdL c22_35
noncomputable def c22_37 : Code := cdL c22_36
noncomputable def c22_38 : Code := cdL c22_37
noncomputable def c22_39 : Code := cdR c22_37
noncomputable def c22_40 : Code := cdL c22_39
noncomputable def c22_41 : Code := cdL c22_40
noncomputable def c22_42 : Code := cdR c22_40
noncomputable def c22_43 : Code := cdL c22_42
noncomputable def c22_44 : Code := cdL c22_43
noncomputable def c22_45 : Code := cdR c22_43
noncomputable def c22_46 : Code := cdR c22_42
noncomputable def c22_47 : Code := cdR c22_39
noncomputable def c22_48 : Code := cdR c22_35
noncomputable def c22_49 : Code := cdR c22_24
noncomputable def c22_50 : Code := cdL c22_49
noncomputable def c22_51 : Code := cdR c22_49
noncomputable def c22_52 : Code := cdL c22_51
noncomputable def c22_53 : Code := cdL c22_52
noncomputable def c22_54 : Code := cdR c22_52
noncomputable def c22_55 : Code := cdL c22_54
noncomputable def c22_56 : Code := cdL c22_55
noncomputable def c22_57 : Code := cdL c22_56
noncomputable def c22_58 : Code := cdR c22_56
noncomputable def c22_59 : Code := cdL c22_58
noncomputable def c22_60 : Code := cdL c22_59
noncomputable def c22_61 : Code := cdR c22_59
noncomputable def c22_62 : Code := cdR c22_58
noncomputable def c22_63 : Code := cdR c22_55
noncomputable def c22_64 : Code := cdL c22_63
noncomputable def c22_65 : Code := cdR c22_63
noncomputable def c22_66 : Code := cdR c22_54
noncomputable def c22_67 : Code := cdR c22_51
noncomputable def c22_68 : Code := cdL c22_67
noncomputable def c22_69 : Code := cdR c22_67
noncomputable def c22_70 : Code := cdL c22_69
noncomputable def c22_71 : Code := cdR c22_69
noncomputable def c22_72 : Code := cdR c22_4
noncomputable def c22_73 : Code := cdL c22_72
noncomputable def c22_74 : Code := cdR c22_72
noncomputable def r22_1 : Array Oper := cdO c22_1
noncomputable def r22_3 : Array Oper := cdO c22_3
noncomputable def r22_9 : Array Oper := cdO c22_9
noncomputable def r22_15 : Array Oper := cdO c22_15
noncomputable def r22_18 : Array Oper := cdO c22_18
noncomputable def r22_21 : Array Oper := cdO c22_21
noncomputable def r22_26 : Array Oper := cdO c22_26
noncomputable def r22_30 : Array Oper := cdO c22_30
noncomputable def r22_38 : Array Oper := cdO c22_38
noncomputable def r22_41 : Array Oper := cdO c22_41
noncomputable def r22_44 : Array Oper := cdO c22_44
noncomputable def r22_47 : Array Oper := cdO c22_47
noncomputable def r22_48 : Array Oper := cdO c22_48
noncomputable def r22_50 : Array Oper := cdO c22_50
noncomputable def r22_53 : Array Oper := cdO c22_53
noncomputable def r22_57 : Array Oper := cdO c22_57
noncomputable def r22_60 : Array Oper := cdO c22_60
noncomputable def r22_64 : Array Oper := cdO c22_64
noncomputable def r22_68 : Array Oper := cdO c22_68
noncomputable def r22_70 : Array Oper := cdO c22_70
noncomputable def r22_73 : Array Oper := cdO c22_73
theorem c22_0e : c22_0 = .seq c22_1 c22_2 := by kernel_rfl
theorem c22_1e : c22_1 = .region 0 r22_1 false := by kernel_rfl
theorem c22_2e : c22_2 = .seq c22_3 c22_4 := by kernel_rfl
theorem c22_3e : c22_3 = .region 1 r22_3 false := by kernel_rfl
theorem c22_4e : c22_4 = .seq c22_5 c22_72 := by kernel_rfl
theorem c22_5e : c22_5 = .block 0 c22_6 := by kernel_rfl
theorem c22_6e : c22_6 = .loop c22_7 := by kernel_rfl
theorem c22_7e : c22_7 = .seq c22_8 c22_13 := by kernel_rfl
theorem c22_8e : c22_8 = .seq c22_9 c22_10 := by kernel_rfl
theorem c22_9e : c22_9 = .region 2 r22_9 false := by kernel_rfl
theorem c22_10e : c22_10 = .cond (cdC c22_10) c22_11 c22_12 := by kernel_rfl
theorem c22_11e : c22_11 = .skip := by kernel_rfl
theorem c22_12e : c22_12 = .exit 0 := by kernel_rfl
theorem c22_13e : c22_13 = .block 1 c22_14 := by kernel_rfl
theorem c22_14e : c22_14 = .seq c22_15 c22_16 := by kernel_rfl
theorem c22_15e : c22_15 = .region 3 r22_15 false := by kernel_rfl
theorem c22_16e : c22_16 = .seq c22_17 c22_24 := by kernel_rfl
theorem c22_17e : c22_17 = .seq c22_18 c22_19 := by kernel_rfl
theorem c22_18e : c22_18 = .region 4 r22_18 false := by kernel_rfl
theorem c22_19e : c22_19 = .cond (cdC c22_19) c22_20 c22_23 := by kernel_rfl
theorem c22_20e : c22_20 = .seq c22_21 c22_22 := by kernel_rfl
theorem c22_21e : c22_21 = .region 5 r22_21 false := by kernel_rfl
theorem c22_22e : c22_22 = .ret := by kernel_rfl
theorem c22_23e : c22_23 = .skip := by kernel_rfl
theorem c22_24e : c22_24 = .seq c22_25 c22_49 := by kernel_rfl
theorem c22_25e : c22_25 = .seq c22_26 c22_27 := by kernel_rfl
theorem c22_26e : c22_26 = .region 6 r22_26 false := by kernel_rfl
theorem c22_27e : c22_27 = .block 2 c22_28 := by kernel_rfl
theorem c22_28e : c22_28 = .loop c22_29 := by kernel_rfl
theorem c22_29e : c22_29 = .seq c22_30 c22_31 := by kernel_rfl
theorem c22_30e : c22_30 = .region 7 r22_30 false := by kernel_rfl
theorem c22_31e : c22_31 = .seq c22_32 c22_35 := by kernel_rfl
theorem c22_32e : c22_32 = .cond (cdC c22_32) c22_33 c22_34 := by kernel_rfl
theorem c22_33e : c22_33 = .skip := by kernel_rfl
theorem c22_34e : c22_34 = .exit 2 := by kernel_rfl
theorem c22_35e : c22_35 = .seq c22_36 c22_48 := by kernel_rfl
theorem c22_36e : c22_36 = .block 3 c22_37 := by kernel_rfl
theorem c22_37e : c22_37 = .seq c22_38 c22_39 := by kernel_rfl
theorem c22_38e : c22_38 = .region 8 r22_38 false := by kernel_rfl
theorem c22_39e : c22_39 = .seq c22_40 c22_47 := by kernel_rfl
theorem c22_40e : c22_40 = .seq c22_41 c22_42 := by kernel_rfl
theorem c22_41e : c22_41 = .region 9 r22_41 false := by kernel_rfl
theorem c22_42e : c22_42 = .cond (cdC c22_42) c22_43 c22_46 := by kernel_rfl
theorem c22_43e : c22_43 = .seq c22_44 c22_45 := by kernel_rfl
theorem c22_44e : c22_44 = .region 10 r22_44 false := by kernel_rfl
theorem c22_45e : c22_45 = .ret := by kernel_rfl
theorem c22_46e : c22_46 = .skip := by kernel_rfl
theorem c22_47e : c22_47 = .region 11 r22_47 false := by kernel_rfl
theorem c22_48e : c22_48 = .region 12 r22_48 false := by kernel_rfl
theorem c22_49e : c22_49 = .seq c22_50 c22_51 := by kernel_rfl
theorem c22_50e : c22_50 = .region 13 r22_50 false := by kernel_rfl
theorem c22_51e : c22_51 = .seq c22_52 c22_67 := by kernel_rfl
theorem c22_52e : c22_52 = .seq c22_53 c22_54 := by kernel_rfl
theorem c22_53e : c22_53 = .region 14 r22_53 false := by kernel_rfl
theorem c22_54e : c22_54 = .cond (cdC c22_54) c22_55 c22_66 := by kernel_rfl
theorem c22_55e : c22_55 = .seq c22_56 c22_63 := by kernel_rfl
theorem c22_56e : c22_56 = .seq c22_57 c22_58 := by kernel_rfl
theorem c22_57e : c22_57 = .region 15 r22_57 false := by kernel_rfl
theorem c22_58e : c22_58 = .cond (cdC c22_58) c22_59 c22_62 := by kernel_rfl
theorem c22_59e : c22_59 = .seq c22_60 c22_61 := by kernel_rfl
theorem c22_60e : c22_60 = .region 16 r22_60 false := by kernel_rfl
theorem c22_61e : c22_61 = .ret := by kernel_rfl
theorem c22_62e : c22_62 = .skip := by kernel_rfl
theorem c22_63e : c22_63 = .seq c22_64 c22_65 := by kernel_rfl
theorem c22_64e : c22_64 = .region 17 r22_64 false := by kernel_rfl
theorem c22_65e : c22_65 = .ret := by kernel_rfl
theorem c22_66e : c22_66 = .skip := by kernel_rfl
theorem c22_67e : c22_67 = .seq c22_68 c22_69 := by kernel_rfl
theorem c22_68e : c22_68 = .region 18 r22_68 false := by kernel_rfl
theorem c22_69e : c22_69 = .cond (cdC c22_69) c22_70 c22_71 := by kernel_rfl
theorem c22_70e : c22_70 = .region 19 r22_70 false := by kernel_rfl
theorem c22_71e : c22_71 = .skip := by kernel_rfl
theorem c22_72e : c22_72 = .seq c22_73 c22_74 := by kernel_rfl
theorem c22_73e : c22_73 = .region 20 r22_73 false := by kernel_rfl
theorem c22_74e : c22_74 = .ret := by kernel_rfl
noncomputable def stuff_Decode.R (A_2 : Option Addr) (c_3 : Nat) : Pst ((List UInt8) × Int) where
  ε := Option Addr × Nat
  v := fun r x => .tuple ⟨[.slice x.1 r.1.length x.2, .int .i64 r.2]⟩
  H := fun r x => []
  B := fun r x => [Ow 1 Kd.u8 x.1 x.2 r.1]
noncomputable def stuff_Decode.cx (A_2 : Option Addr) (c_3 : Nat) (w0 : World) (S0 : Fam) : Cx ((List UInt8) × Int) := ⟨Try.prog, 22, Try.f22, 52, w0, S0, [], 0, stuff_Decode.R A_2 c_3⟩
theorem stuff_Decode_l1_ok (n : Nat) (L0 : (List UInt8) → (List UInt8) → Option ((List UInt8) × Int)) (b_4 : (List UInt8)) (out_7 : (List UInt8)) (A_2 : Option Addr) (c_3 : Nat) (A_5 : Option Addr) (c_6 : Nat) (A_8 : Option Addr) (c_9 : Nat) (A_15 : Option Addr) (c_16 : Nat) (w0 : World) (S0 : Fam) (ih0 : ∀ (b_4 : (List UInt8)) (out_7 : (List UInt8)) (A_5 : Option Addr) (c_6 : Nat) (A_8 : Option Addr) (c_9 : Nat), GoO (stuff_Decode.cx A_2 c_3 w0 S0) [(0, .slice A_5 b_4.length c_6), (4, .slice A_8 out_7.length c_9)] [] [Rd 0 Kd.u8 A_5 c_6 b_4, Ow 41 Kd.u8 A_8 c_9 out_7] [.code c22_7, .inLoop c22_7, .inBlock 0, .code c22_72] (L0 b_4 out_7)) :
    ∀ (k : Nat) (out_18 : (List UInt8)) (x_21 : Int) (A_19 : Option Addr) (c_20 : Nat), GoO (stuff_Decode.cx A_2 c_3 w0 S0) [(0, .slice A_5 b_4.length c_6), (4, .slice A_19 out_18.length c_20), (5, .int .i64 (wi64 (((rdL b_4 (0 : Int))).toNat : Int))), (25, .slice A_15 ((b_4.take (wi64 (((rdL b_4 (0 : Int))).toNat : Int)).toNat).drop (1 : Int).toNat).length c_16), (26, .int .i64 (((b_4.take (wi64 (((rdL b_4 (0 : Int))).toNat : Int)).toNat).drop (1 : Int).toNat).length : Int)), (27, .int .i64 x_21)] [] [Rd 0 Kd.u8 A_5 c_6 b_4, Ow 41 Kd.u8 A_19 c_20 out_18, Rd 0 Kd.u8 A_15 c_16 ((b_4.take (wi64 (((rdL b_4 (0 : Int))).toNat : Int)).toNat).drop (1 : Int).toNat)] [.code c22_29, .inLoop c22_29, .inBlock 2, .code c22_49, .inBlock 1, .inLoop c22_7, .inBlock 0, .code c22_72] (stuff_Decode.l1 n L0 b_4 k out_18 x_21) := by
  intro k
  induction k with
  | zero => intros; rw [stuff_Decode.l1.eq_1]; exact GoO.stop
  | succ k ih1 =>
    intro out_18 x_21 A_19 c_20
    rw [stuff_Decode.l1.eq_2]
    refine GoO.seq' c22_29e ?_
    refine GoO.region' (is := [0]) c22_30e (by kernel_rfl) ?_
    refine GoO.exec (is := [0]) (hs := [.p]) (rest := []) (ks := [0, 4, 5, 25, 26, 27, 28]) (env' := [(0, .slice A_5 b_4.length c_6), (4, .slice A_19 out_18.length c_20), (5, .int .i64 (wi64 (((rdL b_4 (0 : Int))).toNat : Int))), (25, .slice A_15 ((b_4.take (wi64 (((rdL b_4 (0 : Int))).toNat : Int)).toNat).drop (1 : Int).toNat).length c_16), (26, .int .i64 (((b_4.take (wi64 (((rdL b_4 (0 : Int))).toNat : Int)).toNat).drop (1 : Int).toNat).length : Int)), (27, .int .i64 x_21), (28, .bool (decide (x_21 < (((b_4.take (wi64 (((rdL b_4 (0 : Int))).toNat : Int)).toNat).drop (1 : Int).toNat).length : Int))))]) (H' := []) (ps := []) (by kernel_rfl) trivial ?_
    refine GoO.regionEnd ?_
    refine GoO.seq' c22_31e ?_
    refine GoO.ite' c22_32e (by kernel_rfl) (fun h22 => ?_) (fun h22 => ?_)
    · refine GoO.skip' c22_33e ?_
      refine GoO.seq' c22_35e ?_
      refine GoO.block' c22_36e ?_
      refine GoO.seq' c22_37e ?_
      refine GoO.region' (is := [0, 1, 2]) c22_38e (by kernel_rfl) ?_
      refine GoO.guard (fun h23 => ?_)
      refine OpTo.go (GoO.idx (kk := .i64) (e := 5) (K := Kd.u8) (A := A_15) (c := c_16) (xs := (b_4.take (wi64 (((rdL b_4 (0 : Int))).toNat : Int)).toNat).drop (1 : Int).toNat) (iv := x_21) (j := 2) rfl (by kernel_rfl) (by kernel_rfl) (by kernel_rfl) (by kernel_rfl) rfl Reads.rd rfl h23.1 h23.2 (by decide) rfl ?_)
      refine OpTo.go (GoO.ldE' (K := Kd.u8) (A := A_15) (c := c_16) (xs := (b_4.take (wi64 (((rdL b_4 (0 : Int))).toNat : Int)).toNat).drop (1 : Int).toNat) (iN := x_21.toNat) (off := 0) (j := 2) rfl (by kernel_rfl) rfl Reads.rd (idx_lt h23.1 h23.2) (by decide) (Opn.flat _ _ _ _ _) (v := fun _ => .int .u8 (((rdL ((b_4.take (wi64 (((rdL b_4 (0 : Int))).toNat : Int)).toNat).drop (1 : Int).toNat) x_21)).toNat : Int)) (fun _ => by kernel_rfl) _ (fun _ => rfl) (fun _ => ?_))
      refine GoO.exec (is := [2]) (hs := [.p]) (rest := []) (ks := [0, 4, 5, 7, 25, 26, 27]) (env' := [(0, .slice A_5 b_4.length c_6), (4, .slice A_19 out_18.length c_20), (5, .int .i64 (wi64 (((rdL b_4 (0 : Int))).toNat : Int))), (7, .int .u8 (((rdL ((b_4.take (wi64 (((rdL b_4 (0 : Int))).toNat : Int)).toNat).drop (1 : Int).toNat) x_21)).toNat : Int)), (25, .slice A_15 ((b_4.take (wi64 (((rdL b_4 (0 : Int))).toNat : Int)).toNat).drop (1 : Int).toNat).length c_16), (26, .int .i64 (((b_4.take (wi64 (((rdL b_4 (0 : Int))).toNat : Int)).toNat).drop (1 : Int).toNat).length : Int)), (27, .int .i64 x_21)]) (H' := []) (ps := []) (by kernel_rfl) trivial ?_
      refine GoO.regionEnd ?_
      refine GoO.seq' c22_39e ?_
      refine GoO.seq' c22_40e ?_
      refine GoO.region' (is := [0, 1]) c22_41e (by kernel_rfl) ?_
      refine GoO.exec (is := [0, 1]) (hs := [.p, .p]) (rest := []) (ks := [0, 4, 5, 7, 25, 26, 27, 32]) (env' := [(0, .slice A_5 b_4.length c_6), (4, .slice A_19 out_18.length c_20), (5, .int .i64 (wi64 (((rdL b_4 (0 : Int))).toNat : Int))), (7, .int .u8 (((rdL ((b_4.take (wi64 (((rdL b_4 (0 : Int))).toNat : Int)).toNat).drop (1 : Int).toNat) x_21)).toNat : Int)), (25, .slice A_15 ((b_4.take (wi64 (((rdL b_4 (0 : Int))).toNat : Int)).toNat).drop (1 : Int).toNat).length c_16), (26, .int .i64 (((b_4.take (wi64 (((rdL b_4 (0 : Int))).toNat : Int)).toNat).drop (1 : Int).toNat).length : Int)), (27, .int .i64 x_21), (32, .bool ((((rdL ((b_4.take (wi64 (((rdL b_4 (0 : Int))).toNat : Int)).toNat).drop (1 : Int).toNat) x_21)).toNat : Int) == 0))]) (H' := []) (ps := []) (by kernel_rfl) trivial ?_
      refine GoO.regionEnd ?_
      refine GoO.ite' c22_42e (by kernel_rfl) (fun h24 => ?_) (fun h24 => ?_)
      · refine GoO.seq' c22_43e ?_
        refine GoO.region' (is := [0, 1]) c22_44e (by kernel_rfl) ?_
        refine GoO.exec (is := [0, 1]) (hs := [.p, .p]) (rest := []) (ks := [2, 3]) (env' := [(2, .slice none ([] : List UInt8).length 0), (3, .int .i64 2)]) (H' := []) (ps := []) (by kernel_rfl) trivial ?_
        refine GoO.regionEnd ?_
        refine GoO.nilOwn Kd.u8 1 ?_
        exact GoO.ret' (h := c22_45e) (hs := []) (ps := []) (hk := []) (bk := [0]) Try.func22 (⟨none, 0⟩ : Option Addr × Nat) (by kernel_rfl) trivial (by kernel_rfl) (by kernel_rfl)
      · refine GoO.skip' c22_46e ?_
        refine GoO.region' (is := [0, 1, 2, 3, 4]) c22_47e (by kernel_rfl) ?_
        refine GoO.exec (is := [0, 1]) (hs := [.p, .p]) (rest := [2, 3, 4]) (ks := [0, 5, 25, 26, 27, 33, 34]) (env' := [(0, .slice A_5 b_4.length c_6), (5, .int .i64 (wi64 (((rdL b_4 (0 : Int))).toNat : Int))), (25, .slice A_15 ((b_4.take (wi64 (((rdL b_4 (0 : Int))).toNat : Int)).toNat).drop (1 : Int).toNat).length c_16), (26, .int .i64 (((b_4.take (wi64 (((rdL b_4 (0 : Int))).toNat : Int)).toNat).drop (1 : Int).toNat).length : Int)), (27, .int .i64 x_21), (33, .slice A_19 out_18.length c_20), (34, .int .u8 (((rdL ((b_4.take (wi64 (((rdL b_4 (0 : Int))).toNat : Int)).toNat).drop (1 : Int).toNat) x_21)).toNat : Int))]) (H' := []) (ps := []) (by kernel_rfl) trivial ?_
        refine OpTo.go (GoO.lit (e := 5) (K := Kd.u8) rfl (by kernel_rfl) (by kernel_rfl) (cs := [.int .u8 (((rdL ((b_4.take (wi64 (((rdL b_4 (0 : Int))).toNat : Int)).toNat).drop (1 : Int).toNat) x_21)).toNat : Int)]) (by kernel_rfl) [(rdL ((b_4.take (wi64 (((rdL b_4 (0 : Int))).toNat : Int)).toNat).drop (1 : Int).toNat) x_21)] (by kernel_rfl) (by kernel_rfl) (fun w S hB => ⟨[.int .u8 (((rdL ((b_4.take (wi64 (((rdL b_4 (0 : Int))).toNat : Int)).toNat).drop (1 : Int).toNat) x_21)).toNat : Int)], _, rfl, rfl, rfl⟩) 40 _ (fun _ _ => rfl) (fun A_25 c_26 => ?_))
        refine GoO.guard (fun h27 => ?_)
        refine OpTo.go (GoO.appW (e := 5) (K := Kd.u8) (A := A_19) (c := c_20) (tg := 41) (bytes := 1) (zs := [.int .u8 0]) (xs := out_18) (ys := [(rdL ((b_4.take (wi64 (((rdL b_4 (0 : Int))).toNat : Int)).toNat).drop (1 : Int).toNat) x_21)]) (xv := .slice A_25 [(rdL ((b_4.take (wi64 (((rdL b_4 (0 : Int))).toNat : Int)).toNat).drop (1 : Int).toNat) x_21)].length c_26) (j := 2) (bk := [0, 1, 3]) rfl (by kernel_rfl) (by kernel_rfl) (by kernel_rfl) (by kernel_rfl) rfl (by kernel_rfl) rfl (fun w S hB => SrcIs.row (Reads.own w S (hB _ (List.mem_of_getElem? (i := 0) rfl)))) h27 rfl rfl rfl rfl _ (fun _ _ => rfl) (fun A_28 c_29 => ?_))
        refine GoO.exec (is := [4]) (hs := [.p]) (rest := []) (ks := [0, 4, 5, 25, 26, 27]) (env' := [(0, .slice A_5 b_4.length c_6), (4, .slice A_28 (out_18 ++ [(rdL ((b_4.take (wi64 (((rdL b_4 (0 : Int))).toNat : Int)).toNat).drop (1 : Int).toNat) x_21)]).length c_29), (5, .int .i64 (wi64 (((rdL b_4 (0 : Int))).toNat : Int))), (25, .slice A_15 ((b_4.take (wi64 (((rdL b_4 (0 : Int))).toNat : Int)).toNat).drop (1 : Int).toNat).length c_16), (26, .int .i64 (((b_4.take (wi64 (((rdL b_4 (0 : Int))).toNat : Int)).toNat).drop (1 : Int).toNat).length : Int)), (27, .int .i64 x_21)]) (H' := []) (ps := []) (by kernel_rfl) trivial ?_
        refine GoO.regionEnd ?_
        refine GoO.inBlock ?_
        refine GoO.region' (is := [0, 1]) c22_48e (by kernel_rfl) ?_
        refine GoO.exec (is := [0, 1]) (hs := [.p, .p]) (rest := []) (ks := [0, 4, 5, 25, 26, 27]) (env' := [(0, .slice A_5 b_4.length c_6), (4, .slice A_28 (out_18 ++ [(rdL ((b_4.take (wi64 (((rdL b_4 (0 : Int))).toNat : Int)).toNat).drop (1 : Int).toNat) x_21)]).length c_29), (5, .int .i64 (wi64 (((rdL b_4 (0 : Int))).toNat : Int))), (25, .slice A_15 ((b_4.take (wi64 (((rdL b_4 (0 : Int))).toNat : Int)).toNat).drop (1 : Int).toNat).length c_16), (26, .int .i64 (((b_4.take (wi64 (((rdL b_4 (0 : Int))).toNat : Int)).toNat).drop (1 : Int).toNat).length : Int)), (27, .int .i64 (wi64 (x_21 + 1)))]) (H' := []) (ps := []) (by kernel_rfl) trivial ?_
        refine GoO.regionEnd ?_
        refine GoO.inLoop ?_
        exact GoO.sub (ks := [0, 4, 5, 25, 26, 27]) (hk := []) (bk := [2, 0, 3]) (by kernel_rfl) (by kernel_rfl) (by kernel_rfl) (ih1 (out_18 ++ [(rdL ((b_4.take (wi64 (((rdL b_4 (0 : Int))).toNat : Int)).toNat).drop (1 : Int).toNat) x_21)]) (wi64 (x_21 + 1)) A_28 c_29)
    · refine GoO.exit' c22_34e rfl ?_
      refine GoO.seq' c22_49e ?_
      refine GoO.region' (is := [0, 1, 2, 3]) c22_50e (by kernel_rfl) ?_
      refine GoO.exec (is := [0, 1]) (hs := [.p, .p]) (rest := [2, 3]) (ks := [4, 5, 38, 39]) (env' := [(4, .slice A_19 out_18.length c_20), (5, .int .i64 (wi64 (((rdL b_4 (0 : Int))).toNat : Int))), (38, .slice A_5 b_4.length c_6), (39, .int .i64 (wi64 (((rdL b_4 (0 : Int))).toNat : Int)))]) (H' := []) (ps := []) (by kernel_rfl) trivial ?_
      refine GoO.guard (fun h32 => ?_)
      refine OpTo.go (GoO.slc (e := 5) (K := Kd.u8) (A := A_5) (c := c_6) (xs := b_4) (j := 0) (l := (wi64 (((rdL b_4 (0 : Int))).toNat : Int))) (h := (b_4.length : Int)) rfl (by kernel_rfl) (by kernel_rfl) (by kernel_rfl) rfl Reads.rd rfl (by kernel_rfl) (by kernel_rfl) h32.1 h32.2.1 h32.2.2 _ (fun _ _ => rfl) (fun A_30 c_31 => ?_))
      refine GoO.exec (is := [3]) (hs := [.p]) (rest := []) (ks := [0, 4, 5]) (env' := [(0, .slice A_30 ((b_4.take (b_4.length : Int).toNat).drop (wi64 (((rdL b_4 (0 : Int))).toNat : Int)).toNat).length c_31), (4, .slice A_19 out_18.length c_20), (5, .int .i64 (wi64 (((rdL b_4 (0 : Int))).toNat : Int)))]) (H' := []) (ps := []) (by kernel_rfl) trivial ?_
      refine GoO.regionEnd ?_
      refine GoO.seq' c22_51e ?_
      refine GoO.seq' c22_52e ?_
      refine GoO.region' (is := [0, 1, 2]) c22_53e (by kernel_rfl) ?_
      refine GoO.exec (is := [0, 1, 2]) (hs := [.p, .p, .p]) (rest := []) (ks := [0, 4, 5, 43]) (env' := [(0, .slice A_30 ((b_4.take (b_4.length : Int).toNat).drop (wi64 (((rdL b_4 (0 : Int))).toNat : Int)).toNat).length c_31), (4, .slice A_19 out_18.length c_20), (5, .int .i64 (wi64 (((rdL b_4 (0 : Int))).toNat : Int))), (43, .bool ((((b_4.take (b_4.length : Int).toNat).drop (wi64 (((rdL b_4 (0 : Int))).toNat : Int)).toNat).length : Int) == 0))]) (H' := []) (ps := []) (by kernel_rfl) trivial ?_
      refine GoO.regionEnd ?_
      refine GoO.ite' c22_54e (by kernel_rfl) (fun h33 => ?_) (fun h33 => ?_)
      · refine GoO.seq' c22_55e ?_
        refine GoO.seq' c22_56e ?_
        refine GoO.region' (is := [0, 1]) c22_57e (by kernel_rfl) ?_
        refine GoO.exec (is := [0, 1]) (hs := [.p, .p]) (rest := []) (ks := [4, 45]) (env' := [(4, .slice A_19 out_18.length c_20), (45, .bool ((wi64 (((rdL b_4 (0 : Int))).toNat : Int)) == 255))]) (H' := []) (ps := []) (by kernel_rfl) trivial ?_
        refine GoO.regionEnd ?_
        refine GoO.ite' c22_58e (by kernel_rfl) (fun h34 => ?_) (fun h34 => ?_)
        · refine GoO.seq' c22_59e ?_
          refine GoO.region' (is := [0, 1]) c22_60e (by kernel_rfl) ?_
          refine GoO.exec (is := [0, 1]) (hs := [.p, .p]) (rest := []) (ks := [2, 3]) (env' := [(2, .slice none ([] : List UInt8).length 0), (3, .int .i64 2)]) (H' := []) (ps := []) (by kernel_rfl) trivial ?_
          refine GoO.regionEnd ?_
          refine GoO.nilOwn Kd.u8 1 ?_
          exact GoO.ret' (h := c22_61e) (hs := []) (ps := []) (hk := []) (bk := [0]) Try.func22 (⟨none, 0⟩ : Option Addr × Nat) (by kernel_rfl) trivial (by kernel_rfl) (by kernel_rfl)
        · refine GoO.skip' c22_62e ?_
          refine GoO.seq' c22_63e ?_
          refine GoO.region' (is := [0, 1, 2]) c22_64e (by kernel_rfl) ?_
          refine GoO.exec (is := [0, 1, 2]) (hs := [.p, .p, .p]) (rest := []) (ks := [2, 3]) (env' := [(2, .slice A_19 out_18.length c_20), (3, .int .i64 0)]) (H' := []) (ps := []) (by kernel_rfl) trivial ?_
          refine GoO.regionEnd ?_
          refine GoO.retag (t := 41) (u := 1) (j := 2) (hk := []) (bk := [0, 1, 3]) rfl rfl rfl rfl rfl rfl (by kernel_rfl) (by kernel_rfl) ?_
          exact GoO.ret' (h := c22_65e) (hs := []) (ps := []) (hk := []) (bk := [0]) Try.func22 (⟨A_19, c_20⟩ : Option Addr × Nat) (by kernel_rfl) trivial (by kernel_rfl) (by kernel_rfl)
      · refine GoO.skip' c22_66e ?_
        refine GoO.seq' c22_67e ?_
        refine GoO.region' (is := [0, 1]) c22_68e (by kernel_rfl) ?_
        refine GoO.exec (is := [0, 1]) (hs := [.p, .p]) (rest := []) (ks := [0, 4, 48]) (env' := [(0, .slice A_30 ((b_4.take (b_4.length : Int).toNat).drop (wi64 (((rdL b_4 (0 : Int))).toNat : Int)).toNat).length c_31), (4, .slice A_19 out_18.length c_20), (48, .bool (decide ((wi64 (((rdL b_4 (0 : Int))).toNat : Int)) < 255)))]) (H' := []) (ps := []) (by kernel_rfl) trivial ?_
        refine GoO.regionEnd ?_
        refine GoO.ite' c22_69e (by kernel_rfl) (fun h35 => ?_) (fun h35 => ?_)
        · refine GoO.region' (is := [0, 1, 2, 3]) c22_70e (by kernel_rfl) ?_
          refine GoO.exec (is := [0]) (hs := [.p]) (rest := [1, 2, 3]) (ks := [0, 49]) (env' := [(0, .slice A_30 ((b_4.take (b_4.length : Int).toNat).drop (wi64 (((rdL b_4 (0 : Int))).toNat : Int)).toNat).length c_31), (49, .slice A_19 out_18.length c_20)]) (H' := []) (ps := []) (by kernel_rfl) trivial ?_
          refine OpTo.go (GoO.lit (e := 5) (K := Kd.u8) rfl (by kernel_rfl) (by kernel_rfl) (cs := [.int .u8 0]) (by kernel_rfl) [(0 : UInt8)] (by kernel_rfl) (by kernel_rfl) (fun w S hB => ⟨[.int .u8 0], _, rfl, rfl, rfl⟩) 42 _ (fun _ _ => rfl) (fun A_36 c_37 => ?_))
          refine GoO.guard (fun h38 => ?_)
          refine OpTo.go (GoO.appW (e := 5) (K := Kd.u8) (A := A_19) (c := c_20) (tg := 41) (bytes := 1) (zs := [.int .u8 0]) (xs := out_18) (ys := [(0 : UInt8)]) (xv := .slice A_36 [(0 : UInt8)].length c_37) (j := 3) (bk := [0, 1, 2, 4]) rfl (by kernel_rfl) (by kernel_rfl) (by kernel_rfl) (by kernel_rfl) rfl (by kernel_rfl) rfl (fun w S hB => SrcIs.row (Reads.own w S (hB _ (List.mem_of_getElem? (i := 0) rfl)))) h38 rfl rfl rfl rfl _ (fun _ _ => rfl) (fun A_39 c_40 => ?_))
          refine GoO.exec (is := [3]) (hs := [.p]) (rest := []) (ks := [0, 4]) (env' := [(0, .slice A_30 ((b_4.take (b_4.length : Int).toNat).drop (wi64 (((rdL b_4 (0 : Int))).toNat : Int)).toNat).length c_31), (4, .slice A_39 (out_18 ++ [(0 : UInt8)]).length c_40)]) (H' := []) (ps := []) (by kernel_rfl) trivial ?_
          refine GoO.regionEnd ?_
          refine GoO.inBlock ?_
          refine GoO.inLoop ?_
          exact GoO.sub (ks := [0, 4]) (hk := []) (bk := [2, 0]) (by kernel_rfl) (by kernel_rfl) (by kernel_rfl) (ih0 ((b_4.take (b_4.length : Int).toNat).drop (wi64 (((rdL b_4 (0 : Int))).toNat : Int)).toNat) (out_18 ++ [(0 : UInt8)]) A_30 c_31 A_39 c_40)
        · refine GoO.skip' c22_71e ?_
          refine GoO.inBlock ?_
          refine GoO.inLoop ?_
          exact GoO.sub (ks := [0, 4]) (hk := []) (bk := [0, 2]) (by kernel_rfl) (by kernel_rfl) (by kernel_rfl) (ih0 ((b_4.take (b_4.length : Int).toNat).drop (wi64 (((rdL b_4 (0 : Int))).toNat : Int)).toNat) out_18 A_30 c_31 A_19 c_20)
theorem stuff_Decode_j0_ok (n : Nat) (L0 : (List UInt8) → (List UInt8) → Option ((List UInt8) × Int)) (b_4 : (List UInt8)) (out_7 : (List UInt8)) (A_2 : Option Addr) (c_3 : Nat) (A_5 : Option Addr) (c_6 : Nat) (A_8 : Option Addr) (c_9 : Nat) (w0 : World) (S0 : Fam) (ih0 : ∀ (b_4 : (List UInt8)) (out_7 : (List UInt8)) (A_5 : Option Addr) (c_6 : Nat) (A_8 : Option Addr) (c_9 : Nat), GoO (stuff_Decode.cx A_2 c_3 w0 S0) [(0, .slice A_5 b_4.length c_6), (4, .slice A_8 out_7.length c_9)] [] [Rd 0 Kd.u8 A_5 c_6 b_4, Ow 41 Kd.u8 A_8 c_9 out_7] [.code c22_7, .inLoop c22_7, .inBlock 0, .code c22_72] (L0 b_4 out_7)) (b_13 : Bool) :
    GoO (stuff_Decode.cx A_2 c_3 w0 S0) [(0, .slice A_5 b_4.length c_6), (4, .slice A_8 out_7.length c_9), (5, .int .i64 (wi64 (((rdL b_4 (0 : Int))).toNat : Int))), (22, .bool b_13)] [] [Rd 0 Kd.u8 A_5 c_6 b_4, Ow 41 Kd.u8 A_8 c_9 out_7] [.code c22_19, .code c22_24, .inBlock 1, .inLoop c22_7, .inBlock 0, .code c22_72] (stuff_Decode.j0 n L0 b_4 out_7 b_13) := by
  unfold stuff_Decode.j0
  refine GoO.ite' c22_19e (by kernel_rfl) (fun h14 => ?_) (fun h14 => ?_)
  · refine GoO.seq' c22_20e ?_
    refine GoO.region' (is := [0, 1]) c22_21e (by kernel_rfl) ?_
    refine GoO.exec (is := [0, 1]) (hs := [.p, .p]) (rest := []) (ks := [2, 3]) (env' := [(2, .slice none ([] : List UInt8).length 0), (3, .int .i64 2)]) (H' := []) (ps := []) (by kernel_rfl) trivial ?_
    refine GoO.regionEnd ?_
    refine GoO.nilOwn Kd.u8 1 ?_
    exact GoO.ret' (h := c22_22e) (hs := []) (ps := []) (hk := []) (bk := [0]) Try.func22 (⟨none, 0⟩ : Option Addr × Nat) (by kernel_rfl) trivial (by kernel_rfl) (by kernel_rfl)
  · refine GoO.skip' c22_23e ?_
    refine GoO.seq' c22_24e ?_
    refine GoO.seq' c22_25e ?_
    refine GoO.region' (is := [0, 1, 2, 3, 4]) c22_26e (by kernel_rfl) ?_
    refine GoO.exec (is := [0, 1]) (hs := [.p, .p]) (rest := [2, 3, 4]) (ks := [0, 4, 5, 23, 24]) (env' := [(0, .slice A_5 b_4.length c_6), (4, .slice A_8 out_7.length c_9), (5, .int .i64 (wi64 (((rdL b_4 (0 : Int))).toNat : Int))), (23, .slice A_5 b_4.length c_6), (24, .int .i64 (wi64 (((rdL b_4 (0 : Int))).toNat : Int)))]) (H' := []) (ps := []) (by kernel_rfl) trivial ?_
    refine GoO.guard (fun h17 => ?_)
    refine OpTo.go (GoO.slc (e := 5) (K := Kd.u8) (A := A_5) (c := c_6) (xs := b_4) (j := 0) (l := (1 : Int)) (h := (wi64 (((rdL b_4 (0 : Int))).toNat : Int))) rfl (by kernel_rfl) (by kernel_rfl) (by kernel_rfl) rfl Reads.rd rfl (by kernel_rfl) (by kernel_rfl) h17.1 h17.2.1 h17.2.2 _ (fun _ _ => rfl) (fun A_15 c_16 => ?_))
    refine GoO.exec (is := [3, 4]) (hs := [.p, .p]) (rest := []) (ks := [0, 4, 5, 25, 26, 27]) (env' := [(0, .slice A_5 b_4.length c_6), (4, .slice A_8 out_7.length c_9), (5, .int .i64 (wi64 (((rdL b_4 (0 : Int))).toNat : Int))), (25, .slice A_15 ((b_4.take (wi64 (((rdL b_4 (0 : Int))).toNat : Int)).toNat).drop (1 : Int).toNat).length c_16), (26, .int .i64 (((b_4.take (wi64 (((rdL b_4 (0 : Int))).toNat : Int)).toNat).drop (1 : Int).toNat).length : Int)), (27, .int .i64 0)]) (H' := []) (ps := []) (by kernel_rfl) trivial ?_
    refine GoO.regionEnd ?_
    refine GoO.block' c22_27e ?_
    refine GoO.loop' c22_28e ?_
    exact GoO.sub (ks := [0, 4, 5, 25, 26, 27]) (hk := []) (bk := [1, 2, 0]) (by kernel_rfl) (by kernel_rfl) (by kernel_rfl) (stuff_Decode_l1_ok n L0 b_4 out_7 A_2 c_3 A_5 c_6 A_8 c_9 A_15 c_16 w0 S0 ih0 n out_7 0 A_8 c_9)
theorem stuff_Decode_l0_ok (n : Nat) (A_2 : Option Addr) (c_3 : Nat) (w0 : World) (S0 : Fam) :
    ∀ (k : Nat) (b_4 : (List UInt8)) (out_7 : (List UInt8)) (A_5 : Option Addr) (c_6 : Nat) (A_8 : Option Addr) (c_9 : Nat), GoO (stuff_Decode.cx A_2 c_3 w0 S0) [(0, .slice A_5 b_4.length c_6), (4, .slice A_8 out_7.length c_9)] [] [Rd 0 Kd.u8 A_5 c_6 b_4, Ow 41 Kd.u8 A_8 c_9 out_7] [.code c22_7, .inLoop c22_7, .inBlock 0, .code c22_72] (stuff_Decode.l0 n k b_4 out_7) := by
  intro k
  induction k with
  | zero => intros; rw [stuff_Decode.l0.eq_1]; exact GoO.stop
  | succ k ih0 =>
    intro b_4 out_7 A_5 c_6 A_8 c_9
    rw [stuff_Decode.l0.eq_2]
    refine GoO.seq' c22_7e ?_
    refine GoO.seq' c22_8e ?_
    refine GoO.region' (is := [0, 1, 2]) c22_9e (by kernel_rfl) ?_
    refine GoO.exec (is := [0, 1, 2]) (hs := [.p, .p, .p]) (rest := []) (ks := [0, 4, 10]) (env' := [(0, .slice A_5 b_4.length c_6), (4, .slice A_8 out_7.length c_9), (10, .bool (decide ((b_4.length : Int) > 0)))]) (H' := []) (ps := []) (by kernel_rfl) trivial ?_
    refine GoO.regionEnd ?_
    refine GoO.ite' c22_10e (by kernel_rfl) (fun h10 => ?_) (fun h10 => ?_)
    · refine GoO.skip' c22_11e ?_
      refine GoO.block' c22_13e ?_
      refine GoO.seq' c22_14e ?_
      refine GoO.region' (is := [0, 1, 2, 3, 4]) c22_15e (by kernel_rfl) ?_
      refine GoO.exec (is := [0]) (hs := [.p]) (rest := [1, 2, 3, 4]) (ks := [0, 4, 11]) (env' := [(0, .slice A_5 b_4.length c_6), (4, .slice A_8 out_7.length c_9), (11, .slice A_5 b_4.length c_6)]) (H' := []) (ps := []) (by kernel_rfl) trivial ?_
      refine GoO.guard (fun h11 => ?_)
      refine OpTo.go (GoO.idx (kk := .i64) (e := 5) (K := Kd.u8) (A := A_5) (c := c_6) (xs := b_4) (iv := 0) (j := 0) rfl (by kernel_rfl) (by kernel_rfl) (by kernel_rfl) (by kernel_rfl) rfl Reads.rd rfl h11.1 h11.2 (by decide) rfl ?_)
      refine OpTo.go (GoO.ldE' (K := Kd.u8) (A := A_5) (c := c_6) (xs := b_4) (iN := (0 : Int).toNat) (off := 0) (j := 0) rfl (by kernel_rfl) rfl Reads.rd (idx_lt h11.1 h11.2) (by decide) (Opn.flat _ _ _ _ _) (v := fun _ => .int .u8 (((rdL b_4 (0 : Int))).toNat : Int)) (fun _ => by kernel_rfl) _ (fun _ => rfl) (fun _ => ?_))
      refine GoO.exec (is := [3, 4]) (hs := [.p, .p]) (rest := []) (ks := [0, 4, 5]) (env' := [(0, .slice A_5 b_4.length c_6), (4, .slice A_8 out_7.length c_9), (5, .int .i64 (wi64 (((rdL b_4 (0 : Int))).toNat : Int)))]) (H' := []) (ps := []) (by kernel_rfl) trivial ?_
      refine GoO.regionEnd ?_
      refine GoO.seq' c22_16e ?_
      refine GoO.seq' c22_17e ?_
      refine GoO.region' (is := [0, 1, 2, 3, 4, 5, 6, 7]) c22_18e (by kernel_rfl) ?_
      refine GoO.exec (is := [0, 1, 2]) (hs := [.p, .p, .p]) (rest := [3, 4, 5, 6, 7]) (ks := [0, 4, 5, 17]) (env' := [(0, .slice A_5 b_4.length c_6), (4, .slice A_8 out_7.length c_9), (5, .int .i64 (wi64 (((rdL b_4 (0 : Int))).toNat : Int))), (17, .bool ((wi64 (((rdL b_4 (0 : Int))).toNat : Int)) == 0))]) (H' := []) (ps := []) (by kernel_rfl) trivial ?_
      refine GoO.bsplit (t := 17) (by kernel_rfl) (fun h12 => ?_) (fun h12 => ?_)
      · refine GoO.exec (is := [3, 4, 5, 6, 7]) (hs := [.p, .p, .p, .p, .p]) (rest := []) (ks := [0, 4, 5, 22]) (env' := [(0, .slice A_5 b_4.length c_6), (4, .slice A_8 out_7.length c_9), (5, .int .i64 (wi64 (((rdL b_4 (0 : Int))).toNat : Int))), (22, .bool true)]) (H' := []) (ps := []) (by kernel_rfl) trivial ?_
        refine GoO.regionEnd ?_
        exact GoO.sub (ks := [0, 4, 5, 22]) (hk := []) (bk := [0, 1]) (by kernel_rfl) (by kernel_rfl) (by kernel_rfl) (stuff_Decode_j0_ok n (stuff_Decode.l0 n k) b_4 out_7 A_2 c_3 A_5 c_6 A_8 c_9 w0 S0 ih0 true)
      · refine GoO.exec (is := [3, 4, 5, 6, 7]) (hs := [.p, .p, .p, .p, .p]) (rest := []) (ks := [0, 4, 5, 22]) (env' := [(0, .slice A_5 b_4.length c_6), (4, .slice A_8 out_7.length c_9), (5, .int .i64 (wi64 (((rdL b_4 (0 : Int))).toNat : Int))), (22, .bool (decide ((wi64 (((rdL b_4 (0 : Int))).toNat : Int)) > (b_4.length : Int))))]) (H' := []) (ps := []) (by kernel_rfl) trivial ?_
        refine GoO.regionEnd ?_
        exact GoO.sub (ks := [0, 4, 5, 22]) (hk := []) (bk := [0, 1]) (by kernel_rfl) (by kernel_rfl) (by kernel_rfl) (stuff_Decode_j0_ok n (stuff_Decode.l0 n k) b_4 out_7 A_2 c_3 A_5 c_6 A_8 c_9 w0 S0 ih0 (decide ((wi64 (((rdL b_4 (0 : Int))).toNat : Int)) > (b_4.length : Int))))
    · refine GoO.exit' c22_12e rfl ?_
      refine GoO.seq' c22_72e ?_
      refine GoO.region' (is := [0, 1]) c22_73e (by kernel_rfl) ?_
      refine GoO.exec (is := [0, 1]) (hs := [.p, .p]) (rest := []) (ks := [2, 3]) (env' := [(2, .slice none ([] : List UInt8).length 0), (3, .int .i64 2)]) (H' := []) (ps := []) (by kernel_rfl) trivial ?_
      refine GoO.regionEnd ?_
      refine GoO.nilOwn Kd.u8 1 ?_
      exact GoO.ret' (h := c22_74e) (hs := []) (ps := []) (hk := []) (bk := [0]) Try.func22 (⟨none, 0⟩ : Option Addr × Nat) (by kernel_rfl) trivial (by kernel_rfl) (by kernel_rfl)
theorem stuff_Decode_ok (n : Nat) (b_1 : (List UInt8)) (A_2 : Option Addr) (c_3 : Nat) :
    Meets Try.prog 22 [.slice A_2 b_1.length c_3] 0 [] [] [Rd 0 Kd.u8 A_2 c_3 b_1] (stuff_Decode.f n b_1) (stuff_Decode.R A_2 c_3) := by
  refine Meets.of (c := c22_0) (n := 52) Try.func22 (by kernel_rfl) (by kernel_rfl) (by kernel_rfl) fun w0 S0 => ?_
  unfold stuff_Decode.f
  show GoO (stuff_Decode.cx A_2 c_3 w0 S0) [(0, .slice A_2 b_1.length c_3)] [] [Rd 0 Kd.u8 A_2 c_3 b_1] [.code c22_0] _
  refine GoO.seq' c22_0e ?_
  refine GoO.region' (is := [0, 1]) c22_1e (by kernel_rfl) ?_
  refine GoO.exec (is := [0, 1]) (hs := [.p, .p]) (rest := []) (ks := [0]) (env' := [(0, .slice A_2 b_1.length c_3)]) (H' := []) (ps := []) (by kernel_rfl) trivial ?_
  refine GoO.regionEnd ?_
  refine GoO.seq' c22_2e ?_
  refine GoO.region' (is := [0]) c22_3e (by kernel_rfl) ?_
  refine GoO.exec (is := [0]) (hs := [.p]) (rest := []) (ks := [0, 4]) (env' := [(0, .slice A_2 b_1.length c_3), (4, .slice none ([] : List UInt8).length 0)]) (H' := []) (ps := []) (by kernel_rfl) trivial ?_
  refine GoO.regionEnd ?_
  refine GoO.seq' c22_4e ?_
  refine GoO.block' c22_5e ?_
  refine GoO.loop' c22_6e ?_
  refine GoO.nilOwn Kd.u8 41 ?_
  exact GoO.sub (ks := [0, 4]) (hk := []) (bk := [1, 0]) (by kernel_rfl) (by kernel_rfl) (by kernel_rfl) (stuff_Decode_l0_ok n A_2 c_3 w0 S0 n b_1 ([] : List UInt8) A_2 c_3 none 0)

/-! tontine/stuff.Encode -/
noncomputable def c20_0 : Code := bodyOf Try.f20
noncomputable def c20_1 : Code := cdL c20_0
noncomputable def c20_2 : Code := cdR c20_0
noncomputable def c20_3 : Code := cdL c20_2
noncomputable def c20_4 : Code := cdR c20_2
noncomputable def c20_5 : Code := cdL c20_4
noncomputable def c20_6 : Code := cdR c20_4
noncomputable def c20_7 : Code := cdL c20_6
noncomputable def c20_8 : Code := cdL c20_7
noncomputable def c20_9 : Code := cdR c20_7
noncomputable def c20_10 : Code := cdL c20_9
noncomputable def c20_11 : Code := cdL c20_10
noncomputable def c20_12 : Code := cdL c20_11
noncomputable def c20_13 : Code := cdR c20_11
noncomputable def c20_14 : Code := cdL c20_13
noncomputable def c20_15 : Code := cdL c20_14
noncomputable def c20_16 : Code := cdR c20_14
noncomputable def c20_17 : Code := cdR c20_13
noncomputable def c20_18 : Code := cdL c20_17
noncomputable def c20_19 : Code := cdL c20_18
noncomputable def c20_20 : Code := cdL c20_19
noncomputable def c20_21 : Code := cdR c20_19
noncomputable def c20_22 : Code := cdL c20_21
noncomputable def c20_23 : Code := cdL c20_22
noncomputable def c20_24 : Code := cdR c20_22
noncomputable def c20_25 : Code := cdL c20_24
noncomputable def c20_26 : Code := cdR c20_24
noncomputable def c20_27 : Code := cdR c20_21
noncomputable def c20_28 : Code := cdL c20_27
noncomputable def c20_29 : Code := cdR c20_27
noncomputable def c20_30 : Code := cdL c20_29
noncomputable def c20_31 : Code := cdL c20_30
noncomputable def c20_32 : Code := cdR c20_30
noncomputable def c20_33 : Code := cdL c20_32
noncomputable def c20_34 : Code := cdR c20_32
noncomputable def c20_35 : Code := cdR c20_29
noncomputable def c20_36 : Code := cdR c20_17
noncomputable def c20_37 : Code := cdR c20_6
noncomputable def c20_38 : Code := cdL c20_37
noncomputable def c20_39 : Code := cdR c20_37
noncomputable def c20_40 : Code := cdL c20_39
noncomputable def c20_41 : Code := cdR c20_39
noncomputable def r20_1 : Array Oper := cdO c20_1
noncomputable def r20_3 : Array Oper := cdO c20_3
noncomputable def r20_5 : Array Oper := cdO c20_5
noncomputable def r20_8 : Array Oper := cdO c20_8
noncomputable def r20_12 : Array Oper := cdO c20_12
noncomputable def r20_20 : Array Oper := cdO c20_20
noncomputable def r20_23 : Array Oper := cdO c20_23
noncomputable def r20_25 : Array Oper := cdO c20_25
noncomputable def r20_28 : Array Oper := cdO c20_28
noncomputable def r20_31 : Array Oper := cdO c20_31
noncomputable def r20_33 : Array Oper := cdO c20_33
noncomputable def r20_34 : Array Oper := cdO c20_34
noncomputable def r20_36 : Array Oper := cdO c20_36
noncomputable def r20_38 : Array Oper := cdO c20_38
noncomputable def r20_40 : Array Oper := cdO c20_40
theorem c20_0e : c20_0 = .seq c20_1 c20_2 := by kernel_rfl
theorem c20_1e : c20_1 = .region 0 r20_1 false := by kernel_rfl
theorem c20_2e : c20_2 = .seq c20_3 c20_4 := by kernel_rfl
theorem c20_3e : c20_3 = .region 1 r20_3 false := by kernel_rfl
theorem c20_4e : c20_4 = .seq c20_5 c20_6 := by kernel_rfl
theorem c20_5e : c20_5 = .region 2 r20_5 false := by kernel_rfl
theorem c20_6e : c20_6 = .seq c20_7 c20_37 := by kernel_rfl
theorem c20_7e : c20_7 = .seq c20_8 c20_9 := by kernel_rfl
theorem c20_8e : c20_8 = .region 3 r20_8 false := by kernel_rfl
theorem c20_9e : c20_9 = .block 0 c20_10 := by kernel_rfl
theorem c20_10e : c20_10 = .loop c20_11 := by kernel_rfl
theorem c20_11e : c20_11 = .seq c20_12 c20_13 := by kernel_rfl
theorem c20_12e : c20_12 = .region 4 r20_12 false := by kernel_rfl
theorem c20_13e : c20_13 = .seq c20_14 c20_17 := by kernel_rfl
theorem c20_14e : c20_14 = .cond (cdC c20_14) c20_15 c20_16 := by kernel_rfl
theorem c20_15e : c20_15 = .skip := by kernel_rfl
theorem c20_16e : c20_16 = .exit 0 := by kernel_rfl
theorem c20_17e : c20_17 = .seq c20_18 c20_36 := by kernel_rfl
theorem c20_18e : c20_18 = .block 1 c20_19 := by kernel_rfl
theorem c20_19e : c20_19 = .seq c20_20 c20_21 := by kernel_rfl
theorem c20_20e : c20_20 = .region 5 r20_20 false := by kernel_rfl
theorem c20_21e : c20_21 = .seq c20_22 c20_27 := by kernel_rfl
theorem c20_22e : c20_22 = .seq c20_23 c20_24 := by kernel_rfl
theorem c20_23e : c20_23 = .region 6 r20_23 false := by kernel_rfl
theorem c20_24e : c20_24 = .cond (cdC c20_24) c20_25 c20_26 := by kernel_rfl
theorem c20_25e : c20_25 = .region 7 r20_25 false := by kernel_rfl
theorem c20_26e : c20_26 = .skip := by kernel_rfl
theorem c20_27e : c20_27 = .seq c20_28 c20_29 := by kernel_rfl
theorem c20_28e : c20_28 = .region 8 r20_28 false := by kernel_rfl
theorem c20_29e : c20_29 = .cond (cdC c20_29) c20_30 c20_35 := by kernel_rfl
theorem c20_30e : c20_30 = .seq c20_31 c20_32 := by kernel_rfl
theorem c20_31e : c20_31 = .region 9 r20_31 false := by kernel_rfl
theorem c20_32e : c20_32 = .seq c20_33 c20_34 := by kernel_rfl
theorem c20_33e : c20_33 = .region 10 r20_33 false := by kernel_rfl
theorem c20_34e : c20_34 = .region 11 r20_34 false := by kernel_rfl
theorem c20_35e : c20_35 = .skip := by kernel_rfl
theorem c20_36e : c20_36 = .region 12 r20_36 false := by kernel_rfl
theorem c20_37e : c20_37 = .seq c20_38 c20_39 := by kernel_rfl
theorem c20_38e : c20_38 = .region 13 r20_38 false := by kernel_rfl
theorem c20_39e : c20_39 = .seq c20_40 c20_41 := by kernel_rfl
theorem c20_40e : c20_40 = .region 14 r20_40 false := by kernel_rfl
theorem c20_41e : c20_41 = .ret := by kernel_rfl
noncomputable def stuff_Encode.R (A_2 : Option Addr) (c_3 : Nat) : Pst (List UInt8) where
  ε := Option Addr × Nat
  v := fun r x => .slice x.1 r.length x.2
  H := fun r x => []
  B := fun r x => [Ow 1 Kd.u8 x.1 x.2 r]
noncomputable def stuff_Encode.cx (A_2 : Option Addr) (c_3 : Nat) (w0 : World) (S0 : Fam) : Cx (List UInt8) := ⟨Try.prog, 20, Try.f20, 59, w0, S0, [], 0, stuff_Encode.R A_2 c_3⟩
theorem stuff_Encode_j1_ok (n : Nat) (L0 : (List UInt8) → Int → Int → Option (List UInt8)) (b_1 : (List UInt8)) (out_7 : (List UInt8)) (at_10 : Int) (x_11 : Int) (out_20 : (List UInt8)) (A_2 : Option Addr) (c_3 : Nat) (A_8 : Option Addr) (c_9 : Nat) (A_21 : Option Addr) (c_22 : Nat) (w0 : World) (S0 : Fam) (ih0 : ∀ (out_7 : (List UInt8)) (at_10 : Int) (x_11 : Int) (A_8 : Option Addr) (c_9 : Nat), GoO (stuff_Encode.cx A_2 c_3 w0 S0) [(3, .slice A_8 out_7.length c_9), (4, .int .i64 at_10), (15, .slice A_2 b_1.length c_3), (16, .int .i64 (b_1.length : Int)), (17, .int .i64 x_11)] [] [Ow 40 Kd.u8 A_8 c_9 out_7, Rd 0 Kd.u8 A_2 c_3 b_1] [.code c20_11, .inLoop c20_11, .inBlock 0, .code c20_37] (L0 out_7 at_10 x_11)) (b_24 : Bool) :
    GoO (stuff_Encode.cx A_2 c_3 w0 S0) [(3, .slice A_21 out_20.length c_22), (4, .int .i64 at_10), (15, .slice A_2 b_1.length c_3), (16, .int .i64 (b_1.length : Int)), (17, .int .i64 x_11), (35, .bool b_24)] [] [Ow 40 Kd.u8 A_21 c_22 out_20, Rd 0 Kd.u8 A_2 c_3 b_1] [.code c20_29, .inBlock 1, .code c20_36, .inLoop c20_11, .inBlock 0, .code c20_37] (stuff_Encode.j1 n L0 at_10 x_11 out_20 b_24) := by
  unfold stuff_Encode.j1
  refine GoO.ite' c20_29e (by kernel_rfl) (fun h25 => ?_) (fun h25 => ?_)
  · refine GoO.seq' c20_30e ?_
    refine GoO.region' (is := [0, 1, 2, 3, 4, 5, 6, 7, 8]) c20_31e (by kernel_rfl) ?_
    refine GoO.exec (is := [0, 1, 2, 3, 4, 5, 6]) (hs := [.p, .p, .p, .p, .p, .p, .p]) (rest := [7, 8]) (ks := [3, 15, 16, 17, 36, 37, 42]) (env' := [(3, .slice A_21 out_20.length c_22), (15, .slice A_2 b_1.length c_3), (16, .int .i64 (b_1.length : Int)), (17, .int .i64 x_11), (36, .slice A_21 out_20.length c_22), (37, .int .i64 at_10), (42, .int .u8 (wu8 (wi64 ((out_20.length : Int) - at_10))))]) (H' := []) (ps := []) (by kernel_rfl) trivial ?_
    refine GoO.guard (fun h26 => ?_)
    refine OpTo.go (GoO.idx (kk := .i64) (e := 5) (K := Kd.u8) (A := A_21) (c := c_22) (xs := out_20) (iv := at_10) (j := 0) rfl (by kernel_rfl) (by kernel_rfl) (by kernel_rfl) (by kernel_rfl) rfl Reads.own rfl h26.1 h26.2 (by decide) rfl ?_)
    refine OpTo.go (GoO.stE (K := Kd.u8) (A := A_21) (c := c_22) (xs := out_20) (iN := at_10.toNat) (off := 0) (tg := 40) (j := 0) (v := .int .u8 (wu8 (wi64 ((out_20.length : Int) - at_10)))) rfl (by kernel_rfl) (by kernel_rfl) rfl (idx_lt h26.1 h26.2) (by decide) (by kernel_rfl) (by kernel_rfl) (by kernel_rfl) (u8of (wi64 ((out_20.length : Int) - at_10))) (fun w S cs _ hr => ⟨_, by subst hr; exact stored_flat rfl, (congrArg (fun v => [v]) (u8cell _))⟩) rfl ?_)
    refine GoO.reval (t := 3) (v := .slice A_21 out_20.length c_22) (v' := .slice A_21 (out_20.set at_10.toNat (u8of (wi64 ((out_20.length : Int) - at_10)))).length c_22) (by kernel_rfl) (by simp) ?_
    refine GoO.reval (t := 36) (v := .slice A_21 out_20.length c_22) (v' := .slice A_21 (out_20.set at_10.toNat (u8of (wi64 ((out_20.length : Int) - at_10)))).length c_22) (by kernel_rfl) (by simp) ?_
    refine GoO.regionEnd ?_
    refine GoO.seq' c20_32e ?_
    refine GoO.region' (is := [0, 1, 2]) c20_33e (by kernel_rfl) ?_
    refine GoO.exec (is := [0, 1, 2]) (hs := [.p, .p, .p]) (rest := []) (ks := [3, 4, 15, 16, 17]) (env' := [(3, .slice A_21 (out_20.set at_10.toNat (u8of (wi64 ((out_20.length : Int) - at_10)))).length c_22), (4, .int .i64 ((out_20.set at_10.toNat (u8of (wi64 ((out_20.length : Int) - at_10)))).length : Int)), (15, .slice A_2 b_1.length c_3), (16, .int .i64 (b_1.length : Int)), (17, .int .i64 x_11)]) (H' := []) (ps := []) (by kernel_rfl) trivial ?_
    refine GoO.regionEnd ?_
    refine GoO.region' (is := [0, 1, 2, 3]) c20_34e (by kernel_rfl) ?_
    refine GoO.exec (is := [0]) (hs := [.p]) (rest := [1, 2, 3]) (ks := [4, 15, 16, 17, 46]) (env' := [(4, .int .i64 ((out_20.set at_10.toNat (u8of (wi64 ((out_20.length : Int) - at_10)))).length : Int)), (15, .slice A_2 b_1.length c_3), (16, .int .i64 (b_1.length : Int)), (17, .int .i64 x_11), (46, .slice A_21 (out_20.set at_10.toNat (u8of (wi64 ((out_20.length : Int) - at_10)))).length c_22)]) (H' := []) (ps := []) (by kernel_rfl) trivial ?_
    refine OpTo.go (GoO.lit (e := 5) (K := Kd.u8) rfl (by kernel_rfl) (by kernel_rfl) (cs := [.int .u8 0]) (by kernel_rfl) [(0 : UInt8)] (by kernel_rfl) (by kernel_rfl) (fun w S hB => ⟨[.int .u8 0], _, rfl, rfl, rfl⟩) 42 _ (fun _ _ => rfl) (fun A_27 c_28 => ?_))
    refine GoO.guard (fun h29 => ?_)
    refine OpTo.go (GoO.appW (e := 5) (K := Kd.u8) (A := A_21) (c := c_22) (tg := 40) (bytes := 1) (zs := [.int .u8 0]) (xs := out_20.set at_10.toNat (u8of (wi64 ((out_20.length : Int) - at_10)))) (ys := [(0 : UInt8)]) (xv := .slice A_27 [(0 : UInt8)].length c_28) (j := 1) (bk := [0, 2]) rfl (by kernel_rfl) (by kernel_rfl) (by kernel_rfl) (by kernel_rfl) rfl (by kernel_rfl) rfl (fun w S hB => SrcIs.row (Reads.own w S (hB _ (List.mem_of_getElem? (i := 0) rfl)))) h29 rfl rfl rfl rfl _ (fun _ _ => rfl) (fun A_30 c_31 => ?_))
    refine GoO.exec (is := [3]) (hs := [.p]) (rest := []) (ks := [3, 4, 15, 16, 17]) (env' := [(3, .slice A_30 ((out_20.set at_10.toNat (u8of (wi64 ((out_20.length : Int) - at_10)))) ++ [(0 : UInt8)]).length c_31), (4, .int .i64 ((out_20.set at_10.toNat (u8of (wi64 ((out_20.length : Int) - at_10)))).length : Int)), (15, .slice A_2 b_1.length c_3), (16, .int .i64 (b_1.length : Int)), (17, .int .i64 x_11)]) (H' := []) (ps := []) (by kernel_rfl) trivial ?_
    refine GoO.regionEnd ?_
    refine GoO.inBlock ?_
    refine GoO.region' (is := [0, 1]) c20_36e (by kernel_rfl) ?_
    refine GoO.exec (is := [0, 1]) (hs := [.p, .p]) (rest := []) (ks := [3, 4, 15, 16, 17]) (env' := [(3, .slice A_30 ((out_20.set at_10.toNat (u8of (wi64 ((out_20.length : Int) - at_10)))) ++ [(0 : UInt8)]).length c_31), (4, .int .i64 ((out_20.set at_10.toNat (u8of (wi64 ((out_20.length : Int) - at_10)))).length : Int)), (15, .slice A_2 b_1.length c_3), (16, .int .i64 (b_1.length : Int)), (17, .int .i64 (wi64 (x_11 + 1)))]) (H' := []) (ps := []) (by kernel_rfl) trivial ?_
    refine GoO.regionEnd ?_
    refine GoO.inLoop ?_
    exact GoO.sub (ks := [3, 4, 15, 16, 17]) (hk := []) (bk := [0, 2]) (by kernel_rfl) (by kernel_rfl) (by kernel_rfl) (ih0 ((out_20.set at_10.toNat (u8of (wi64 ((out_20.length : Int) - at_10)))) ++ [(0 : UInt8)]) ((out_20.set at_10.toNat (u8of (wi64 ((out_20.length : Int) - at_10)))).length : Int) (wi64 (x_11 + 1)) A_30 c_31)
  · refine GoO.skip' c20_35e ?_
    refine GoO.inBlock ?_
    refine GoO.region' (is := [0, 1]) c20_36e (by kernel_rfl) ?_
    refine GoO.exec (is := [0, 1]) (hs := [.p, .p]) (rest := []) (ks := [3, 4, 15, 16, 17]) (env' := [(3, .slice A_21 out_20.length c_22), (4, .int .i64 at_10), (15, .slice A_2 b_1.length c_3), (16, .int .i64 (b_1.length : Int)), (17, .int .i64 (wi64 (x_11 + 1)))]) (H' := []) (ps := []) (by kernel_rfl) trivial ?_
    refine GoO.regionEnd ?_
    refine GoO.inLoop ?_
    exact GoO.sub (ks := [3, 4, 15, 16, 17]) (hk := []) (bk := [0, 1]) (by kernel_rfl) (by kernel_rfl) (by kernel_rfl) (ih0 out_20 at_10 (wi64 (x_11 + 1)) A_21 c_22)
theorem stuff_Encode_j0_ok (n : Nat) (L0 : (List UInt8) → Int → Int → Option (List UInt8)) (b_1 : (List UInt8)) (out_7 : (List UInt8)) (at_10 : Int) (x_11 : Int) (A_2 : Option Addr) (c_3 : Nat) (A_8 : Option Addr) (c_9 : Nat) (w0 : World) (S0 : Fam) (ih0 : ∀ (out_7 : (List UInt8)) (at_10 : Int) (x_11 : Int) (A_8 : Option Addr) (c_9 : Nat), GoO (stuff_Encode.cx A_2 c_3 w0 S0) [(3, .slice A_8 out_7.length c_9), (4, .int .i64 at_10), (15, .slice A_2 b_1.length c_3), (16, .int .i64 (b_1.length : Int)), (17, .int .i64 x_11)] [] [Ow 40 Kd.u8 A_8 c_9 out_7, Rd 0 Kd.u8 A_2 c_3 b_1] [.code c20_11, .inLoop c20_11, .inBlock 0, .code c20_37] (L0 out_7 at_10 x_11)) (out_20 : (List UInt8)) (A_21 : Option Addr) (c_22 : Nat) :
    GoO (stuff_Encode.cx A_2 c_3 w0 S0) [(3, .slice A_21 out_20.length c_22), (4, .int .i64 at_10), (6, .int .u8 (((rdL b_1 x_11)).toNat : Int)), (15, .slice A_2 b_1.length c_3), (16, .int .i64 (b_1.length : Int)), (17, .int .i64 x_11)] [] [Ow 40 Kd.u8 A_21 c_22 out_20, Rd 0 Kd.u8 A_2 c_3 b_1] [.code c20_27, .inBlock 1, .code c20_36, .inLoop c20_11, .inBlock 0, .code c20_37] (stuff_Encode.j0 n L0 b_1 at_10 x_11 out_20) := by
  unfold stuff_Encode.j0
  refine GoO.seq' c20_27e ?_
  refine GoO.region' (is := [0, 1, 2, 3, 4, 5, 6, 7, 8]) c20_28e (by kernel_rfl) ?_
  refine GoO.exec (is := [0, 1, 2]) (hs := [.p, .p, .p]) (rest := [3, 4, 5, 6, 7, 8]) (ks := [3, 4, 15, 16, 17, 29]) (env' := [(3, .slice A_21 out_20.length c_22), (4, .int .i64 at_10), (15, .slice A_2 b_1.length c_3), (16, .int .i64 (b_1.length : Int)), (17, .int .i64 x_11), (29, .bool ((((rdL b_1 x_11)).toNat : Int) == 0))]) (H' := []) (ps := []) (by kernel_rfl) trivial ?_
  refine GoO.bsplit (t := 29) (by kernel_rfl) (fun h23 => ?_) (fun h23 => ?_)
  · refine GoO.exec (is := [3, 4, 5, 6, 7, 8]) (hs := [.p, .p, .p, .p, .p, .p]) (rest := []) (ks := [3, 4, 15, 16, 17, 35]) (env' := [(3, .slice A_21 out_20.length c_22), (4, .int .i64 at_10), (15, .slice A_2 b_1.length c_3), (16, .int .i64 (b_1.length : Int)), (17, .int .i64 x_11), (35, .bool true)]) (H' := []) (ps := []) (by kernel_rfl) trivial ?_
    refine GoO.regionEnd ?_
    exact GoO.sub (ks := [3, 4, 15, 16, 17, 35]) (hk := []) (bk := [0, 1]) (by kernel_rfl) (by kernel_rfl) (by kernel_rfl) (stuff_Encode_j1_ok n L0 b_1 out_7 at_10 x_11 out_20 A_2 c_3 A_8 c_9 A_21 c_22 w0 S0 ih0 true)
  · refine GoO.exec (is := [3, 4, 5, 6, 7, 8]) (hs := [.p, .p, .p, .p, .p, .p]) (rest := []) (ks := [3, 4, 15, 16, 17, 35]) (env' := [(3, .slice A_21 out_20.length c_22), (4, .int .i64 at_10), (15, .slice A_2 b_1.length c_3), (16, .int .i64 (b_1.length : Int)), (17, .int .i64 x_11), (35, .bool ((wi64 ((out_20.length : Int) - at_10)) == 255))]) (H' := []) (ps := []) (by kernel_rfl) trivial ?_
    refine GoO.regionEnd ?_
    exact GoO.sub (ks := [3, 4, 15, 16, 17, 35]) (hk := []) (bk := [0, 1]) (by kernel_rfl) (by kernel_rfl) (by kernel_rfl) (stuff_Encode_j1_ok n L0 b_1 out_7 at_10 x_11 out_20 A_2 c_3 A_8 c_9 A_21 c_22 w0 S0 ih0 ((wi64 ((out_20.length : Int) - at_10)) == 255))
theorem stuff_Encode_l0_ok (n : Nat) (b_1 : (List UInt8)) (A_2 : Option Addr) (c_3 : Nat) (w0 : World) (S0 : Fam) :
    ∀ (k : Nat) (out_7 : (List UInt8)) (at_10 : Int) (x_11 : Int) (A_8 : Option Addr) (c_9 : Nat), GoO (stuff_Encode.cx A_2 c_3 w0 S0) [(3, .slice A_8 out_7.length c_9), (4, .int .i64 at_10), (15, .slice A_2 b_1.length c_3), (16, .int .i64 (b_1.length : Int)), (17, .int .i64 x_11)] [] [Ow 40 Kd.u8 A_8 c_9 out_7, Rd 0 Kd.u8 A_2 c_3 b_1] [.code c20_11, .inLoop c20_11, .inBlock 0, .code c20_37] (stuff_Encode.l0 n b_1 k out_7 at_10 x_11) := by
  intro k
  induction k with
  | zero => intros; rw [stuff_Encode.l0.eq_1]; exact GoO.stop
  | succ k ih0 =>
    intro out_7 at_10 x_11 A_8 c_9
    rw [stuff_Encode.l0.eq_2]
    refine GoO.seq' c20_11e ?_
    refine GoO.region' (is := [0]) c20_12e (by kernel_rfl) ?_
    refine GoO.exec (is := [0]) (hs := [.p]) (rest := []) (ks := [3, 4, 15, 16, 17, 18]) (env' := [(3, .slice A_8 out_7.length c_9), (4, .int .i64 at_10), (15, .slice A_2 b_1.length c_3), (16, .int .i64 (b_1.length : Int)), (17, .int .i64 x_11), (18, .bool (decide (x_11 < (b_1.length : Int))))]) (H' := []) (ps := []) (by kernel_rfl) trivial ?_
    refine GoO.regionEnd ?_
    refine GoO.seq' c20_13e ?_
    refine GoO.ite' c20_14e (by kernel_rfl) (fun h12 => ?_) (fun h12 => ?_)
    · refine GoO.skip' c20_15e ?_
      refine GoO.seq' c20_17e ?_
      refine GoO.block' c20_18e ?_
      refine GoO.seq' c20_19e ?_
      refine GoO.region' (is := [0, 1, 2]) c20_20e (by kernel_rfl) ?_
      refine GoO.guard (fun h13 => ?_)
      refine OpTo.go (GoO.idx (kk := .i64) (e := 5) (K := Kd.u8) (A := A_2) (c := c_3) (xs := b_1) (iv := x_11) (j := 1) rfl (by kernel_rfl) (by kernel_rfl) (by kernel_rfl) (by kernel_rfl) rfl Reads.rd rfl h13.1 h13.2 (by decide) rfl ?_)
      refine OpTo.go (GoO.ldE' (K := Kd.u8) (A := A_2) (c := c_3) (xs := b_1) (iN := x_11.toNat) (off := 0) (j := 1) rfl (by kernel_rfl) rfl Reads.rd (idx_lt h13.1 h13.2) (by decide) (Opn.flat _ _ _ _ _) (v := fun _ => .int .u8 (((rdL b_1 x_11)).toNat : Int)) (fun _ => by kernel_rfl) _ (fun _ => rfl) (fun _ => ?_))
      refine GoO.exec (is := [2]) (hs := [.p]) (rest := []) (ks := [3, 4, 6, 15, 16, 17]) (env' := [(3, .slice A_8 out_7.length c_9), (4, .int .i64 at_10), (6, .int .u8 (((rdL b_1 x_11)).toNat : Int)), (15, .slice A_2 b_1.length c_3), (16, .int .i64 (b_1.length : Int)), (17, .int .i64 x_11)]) (H' := []) (ps := []) (by kernel_rfl) trivial ?_
      refine GoO.regionEnd ?_
      refine GoO.seq' c20_21e ?_
      refine GoO.seq' c20_22e ?_
      refine GoO.region' (is := [0, 1]) c20_23e (by kernel_rfl) ?_
      refine GoO.exec (is := [0, 1]) (hs := [.p, .p]) (rest := []) (ks := [3, 4, 6, 15, 16, 17, 22]) (env' := [(3, .slice A_8 out_7.length c_9), (4, .int .i64 at_10), (6, .int .u8 (((rdL b_1 x_11)).toNat : Int)), (15, .slice A_2 b_1.length c_3), (16, .int .i64 (b_1.length : Int)), (17, .int .i64 x_11), (22, .bool ((((rdL b_1 x_11)).toNat : Int) != 0))]) (H' := []) (ps := []) (by kernel_rfl) trivial ?_
      refine GoO.regionEnd ?_
      refine GoO.ite' c20_24e (by kernel_rfl) (fun h14 => ?_) (fun h14 => ?_)
      · refine GoO.region' (is := [0, 1, 2, 3, 4]) c20_25e (by kernel_rfl) ?_
        refine GoO.exec (is := [0, 1]) (hs := [.p, .p]) (rest := [2, 3, 4]) (ks := [4, 6, 15, 16, 17, 23, 24]) (env' := [(4, .int .i64 at_10), (6, .int .u8 (((rdL b_1 x_11)).toNat : Int)), (15, .slice A_2 b_1.length c_3), (16, .int .i64 (b_1.length : Int)), (17, .int .i64 x_11), (23, .slice A_8 out_7.length c_9), (24, .int .u8 (((rdL b_1 x_11)).toNat : Int))]) (H' := []) (ps := []) (by kernel_rfl) trivial ?_
        refine OpTo.go (GoO.lit (e := 5) (K := Kd.u8) rfl (by kernel_rfl) (by kernel_rfl) (cs := [.int .u8 (((rdL b_1 x_11)).toNat : Int)]) (by kernel_rfl) [(rdL b_1 x_11)] (by kernel_rfl) (by kernel_rfl) (fun w S hB => ⟨[.int .u8 (((rdL b_1 x_11)).toNat : Int)], _, rfl, rfl, rfl⟩) 41 _ (fun _ _ => rfl) (fun A_15 c_16 => ?_))
        refine GoO.guard (fun h17 => ?_)
        refine OpTo.go (GoO.appW (e := 5) (K := Kd.u8) (A := A_8) (c := c_9) (tg := 40) (bytes := 1) (zs := [.int .u8 0]) (xs := out_7) (ys := [(rdL b_1 x_11)]) (xv := .slice A_15 [(rdL b_1 x_11)].length c_16) (j := 1) (bk := [0, 2]) rfl (by kernel_rfl) (by kernel_rfl) (by kernel_rfl) (by kernel_rfl) rfl (by kernel_rfl) rfl (fun w S hB => SrcIs.row (Reads.own w S (hB _ (List.mem_of_getElem? (i := 0) rfl)))) h17 rfl rfl rfl rfl _ (fun _ _ => rfl) (fun A_18 c_19 => ?_))
        refine GoO.exec (is := [4]) (hs := [.p]) (rest := []) (ks := [3, 4, 6, 15, 16, 17]) (env' := [(3, .slice A_18 (out_7 ++ [(rdL b_1 x_11)]).length c_19), (4, .int .i64 at_10), (6, .int .u8 (((rdL b_1 x_11)).toNat : Int)), (15, .slice A_2 b_1.length c_3), (16, .int .i64 (b_1.length : Int)), (17, .int .i64 x_11)]) (H' := []) (ps := []) (by kernel_rfl) trivial ?_
        refine GoO.regionEnd ?_
        exact GoO.sub (ks := [3, 4, 6, 15, 16, 17]) (hk := []) (bk := [0, 2]) (by kernel_rfl) (by kernel_rfl) (by kernel_rfl) (stuff_Encode_j0_ok n (stuff_Encode.l0 n b_1 k) b_1 out_7 at_10 x_11 A_2 c_3 A_8 c_9 w0 S0 ih0 (out_7 ++ [(rdL b_1 x_11)]) A_18 c_19)
      · refine GoO.skip' c20_26e ?_
        exact GoO.sub (ks := [3, 4, 6, 15, 16, 17]) (hk := []) (bk := [0, 1]) (by kernel_rfl) (by kernel_rfl) (by kernel_rfl) (stuff_Encode_j0_ok n (stuff_Encode.l0 n b_1 k) b_1 out_7 at_10 x_11 A_2 c_3 A_8 c_9 w0 S0 ih0 out_7 A_8 c_9)
    · refine GoO.exit' c20_16e rfl ?_
      refine GoO.seq' c20_37e ?_
      refine GoO.region' (is := [0, 1, 2, 3, 4, 5, 6, 7, 8]) c20_38e (by kernel_rfl) ?_
      refine GoO.exec (is := [0, 1, 2, 3, 4, 5, 6]) (hs := [.p, .p, .p, .p, .p, .p, .p]) (rest := [7, 8]) (ks := [3, 50, 51, 56]) (env' := [(3, .slice A_8 out_7.length c_9), (50, .slice A_8 out_7.length c_9), (51, .int .i64 at_10), (56, .int .u8 (wu8 (wi64 ((out_7.length : Int) - at_10))))]) (H' := []) (ps := []) (by kernel_rfl) trivial ?_
      refine GoO.guard (fun h32 => ?_)
      refine OpTo.go (GoO.idx (kk := .i64) (e := 5) (K := Kd.u8) (A := A_8) (c := c_9) (xs := out_7) (iv := at_10) (j := 0) rfl (by kernel_rfl) (by kernel_rfl) (by kernel_rfl) (by kernel_rfl) rfl Reads.own rfl h32.1 h32.2 (by decide) rfl ?_)
      refine OpTo.go (GoO.stE (K := Kd.u8) (A := A_8) (c := c_9) (xs := out_7) (iN := at_10.toNat) (off := 0) (tg := 40) (j := 0) (v := .int .u8 (wu8 (wi64 ((out_7.length : Int) - at_10)))) rfl (by kernel_rfl) (by kernel_rfl) rfl (idx_lt h32.1 h32.2) (by decide) (by kernel_rfl) (by kernel_rfl) (by kernel_rfl) (u8of (wi64 ((out_7.length : Int) - at_10))) (fun w S cs _ hr => ⟨_, by subst hr; exact stored_flat rfl, (congrArg (fun v => [v]) (u8cell _))⟩) rfl ?_)
      refine GoO.reval (t := 3) (v := .slice A_8 out_7.length c_9) (v' := .slice A_8 (out_7.set at_10.toNat (u8of (wi64 ((out_7.length : Int) - at_10)))).length c_9) (by kernel_rfl) (by simp) ?_
      refine GoO.reval (t := 50) (v := .slice A_8 out_7.length c_9) (v' := .slice A_8 (out_7.set at_10.toNat (u8of (wi64 ((out_7.length : Int) - at_10)))).length c_9) (by kernel_rfl) (by simp) ?_
      refine GoO.regionEnd ?_
      refine GoO.seq' c20_39e ?_
      refine GoO.region' (is := [0, 1]) c20_40e (by kernel_rfl) ?_
      refine GoO.exec (is := [0, 1]) (hs := [.p, .p]) (rest := []) (ks := [2]) (env' := [(2, .slice A_8 (out_7.set at_10.toNat (u8of (wi64 ((out_7.length : Int) - at_10)))).length c_9)]) (H' := []) (ps := []) (by kernel_rfl) trivial ?_
      refine GoO.regionEnd ?_
      refine GoO.retag (t := 40) (u := 1) (j := 0) (hk := []) (bk := [1]) rfl rfl rfl rfl rfl rfl (by kernel_rfl) (by kernel_rfl) ?_
      exact GoO.ret' (h := c20_41e) (hs := []) (ps := []) (hk := []) (bk := [0]) Try.func20 (⟨A_8, c_9⟩ : Option Addr × Nat) (by kernel_rfl) trivial (by kernel_rfl) (by kernel_rfl)
theorem stuff_Encode_ok (n : Nat) (b_1 : (List UInt8)) (A_2 : Option Addr) (c_3 : Nat) :
    Meets Try.prog 20 [.slice A_2 b_1.length c_3] 0 [] [] [Rd 0 Kd.u8 A_2 c_3 b_1] (stuff_Encode.f n b_1) (stuff_Encode.R A_2 c_3) := by
  refine Meets.of (c := c20_0) (n := 59) Try.func20 (by kernel_rfl) (by kernel_rfl) (by kernel_rfl) fun w0 S0 => ?_
  unfold stuff_Encode.f
  show GoO (stuff_Encode.cx A_2 c_3 w0 S0) [(0, .slice A_2 b_1.length c_3)] [] [Rd 0 Kd.u8 A_2 c_3 b_1] [.code c20_0] _
  refine GoO.seq' c20_0e ?_
  refine GoO.region' (is := [0]) c20_1e (by kernel_rfl) ?_
  refine GoO.exec (is := [0]) (hs := [.p]) (rest := []) (ks := [0]) (env' := [(0, .slice A_2 b_1.length c_3)]) (H' := []) (ps := []) (by kernel_rfl) trivial ?_
  refine GoO.regionEnd ?_
  refine GoO.seq' c20_2e ?_
  refine GoO.region' (is := [0, 1, 2, 3, 4, 5, 6, 7, 8]) c20_3e (by kernel_rfl) ?_
  refine GoO.exec (is := [0, 1, 2, 3, 4, 5, 6]) (hs := [.p, .p, .p, .p, .p, .p, .p]) (rest := [7, 8]) (ks := [0, 13]) (env' := [(0, .slice A_2 b_1.length c_3), (13, .int .i64 (wi64 ((wi64 ((b_1.length : Int) + (wi64 ((b_1.length : Int).tdiv 254)))) + 1)))]) (H' := []) (ps := [(254 : Int) ≠ 0]) (by kernel_rfl) (And.intro (by decide) trivial) ?_
  refine GoO.guard (fun h6 => ?_)
  refine OpTo.go (GoO.mk (e := 5) (k1 := .i64) (k2 := .i64) (K := Kd.u8) (n := 1) (c := wi64 ((wi64 ((b_1.length : Int) + (wi64 ((b_1.length : Int).tdiv 254)))) + 1)) (bytes := 1) (zs := [.int .u8 0]) rfl (by kernel_rfl) (by kernel_rfl) (by kernel_rfl) (by kernel_rfl) ((0 : UInt8)) (fun _ _ => rfl) h6.1 h6.2.1 (by kernel_rfl) h6.2.2 40 _ (fun _ _ => rfl) (fun A_4 c_5 => ?_))
  refine GoO.exec (is := [8]) (hs := [.p]) (rest := []) (ks := [0, 3]) (env' := [(0, .slice A_2 b_1.length c_3), (3, .slice A_4 (List.replicate (1 : Int).toNat (0 : UInt8)).length c_5)]) (H' := []) (ps := []) (by kernel_rfl) trivial ?_
  refine GoO.regionEnd ?_
  refine GoO.seq' c20_4e ?_
  refine GoO.region' (is := [0]) c20_5e (by kernel_rfl) ?_
  refine GoO.exec (is := [0]) (hs := [.p]) (rest := []) (ks := [0, 3, 4]) (env' := [(0, .slice A_2 b_1.length c_3), (3, .slice A_4 (List.replicate (1 : Int).toNat (0 : UInt8)).length c_5), (4, .int .i64 0)]) (H' := []) (ps := []) (by kernel_rfl) trivial ?_
  refine GoO.regionEnd ?_
  refine GoO.seq' c20_6e ?_
  refine GoO.seq' c20_7e ?_
  refine GoO.region' (is := [0, 1, 2]) c20_8e (by kernel_rfl) ?_
  refine GoO.exec (is := [0, 1, 2]) (hs := [.p, .p, .p]) (rest := []) (ks := [3, 4, 15, 16, 17]) (env' := [(3, .slice A_4 (List.replicate (1 : Int).toNat (0 : UInt8)).length c_5), (4, .int .i64 0), (15, .slice A_2 b_1.length c_3), (16, .int .i64 (b_1.length : Int)), (17, .int .i64 0)]) (H' := []) (ps := []) (by kernel_rfl) trivial ?_
  refine GoO.regionEnd ?_
  refine GoO.block' c20_9e ?_
  refine GoO.loop' c20_10e ?_
  exact GoO.sub (ks := [3, 4, 15, 16, 17]) (hk := []) (bk := [0, 1]) (by kernel_rfl) (by kernel_rfl) (by kernel_rfl) (stuff_Encode_l0_ok n b_1 A_2 c_3 w0 S0 n (List.replicate (1 : Int).toNat (0 : UInt8)) 0 0 A_4 c_5)

/-! tontine/tontinelaw01.begun -/
noncomputable def c19_0 : Code := bodyOf Try.f19
noncomputable def c19_1 : Code := cdL c19_0
noncomputable def c19_2 : Code := cdR c19_0
noncomputable def c19_3 : Code := cdL c19_2
noncomputable def c19_4 : Code := cdR c19_2
noncomputable def c19_5 : Code := cdL c19_4
noncomputable def c19_6 : Code := cdR c19_4
noncomputable def r19_1 : Array Oper := cdO c19_1
noncomputable def r19_3 : Array Oper := cdO c19_3
noncomputable def r19_5 : Array Oper := cdO c19_5
theorem c19_0e : c19_0 = .seq c19_1 c19_2 := by kernel_rfl
theorem c19_1e : c19_1 = .region 0 r19_1 false := by kernel_rfl
theorem c19_2e : c19_2 = .seq c19_3 c19_4 := by kernel_rfl
theorem c19_3e : c19_3 = .region 1 r19_3 false := by kernel_rfl
theorem c19_4e : c19_4 = .seq c19_5 c19_6 := by kernel_rfl
theorem c19_5e : c19_5 = .region 2 r19_5 false := by kernel_rfl
theorem c19_6e : c19_6 = .ret := by kernel_rfl
noncomputable def tontinelaw01_begun.R : Pst Bool where
  ε := Unit
  v := fun r x => .bool r
  H := fun r x => []
  B := fun r x => []
noncomputable def tontinelaw01_begun.cx (w0 : World) (S0 : Fam) : Cx Bool := ⟨Try.prog, 19, Try.f19, 16, w0, S0, [], 0, tontinelaw01_begun.R⟩
theorem tontinelaw01_begun_ok (n : Nat) :
    Meets Try.prog 19 [] 0 [] [] [] (tontinelaw01_begun.f n) (tontinelaw01_begun.R) := by
  refine Meets.of (c := c19_0) (n := 16) Try.func19 (by kernel_rfl) (by kernel_rfl) (by kernel_rfl) fun w0 S0 => ?_
  unfold tontinelaw01_begun.f
  show GoO (tontinelaw01_begun.cx w0 S0) [] [] [] [.code c19_0] _
  refine GoO.seq' c19_0e ?_
  refine GoO.region' (is := [0]) c19_1e (by kernel_rfl) ?_
  refine GoO.exec (is := [0]) (hs := [.p]) (rest := []) (ks := []) (env' := []) (H' := []) (ps := []) (by kernel_rfl) trivial ?_
  refine GoO.regionEnd ?_
  refine GoO.seq' c19_2e ?_
  refine GoO.region' (is := [0, 1, 2, 3, 4, 5, 6]) c19_3e (by kernel_rfl) ?_
  refine OpTo.go (GoO.lit (e := 5) (K := Kd.u8) rfl (by kernel_rfl) (by kernel_rfl) (cs := [.int .u8 3, .int .u8 17]) (by kernel_rfl) [(3 : UInt8), (17 : UInt8)] (by kernel_rfl) (by kernel_rfl) (fun w S hB => ⟨[.int .u8 3], _, rfl, rfl, ⟨[.int .u8 17], _, rfl, rfl, rfl⟩⟩) 40 _ (fun _ _ => rfl) (fun A_1 c_2 => ?_))
  refine GoO.retag (t := 40) (u := 0) (j := 0) (hk := []) (bk := []) rfl rfl rfl rfl rfl rfl (by kernel_rfl) (by kernel_rfl) ?_
  refine GoO.own2rd (j := 0) rfl ?_
  refine OpTo.go (GoO.call rfl (by kernel_rfl) (by kernel_rfl) (stuff_Decode_ok n [(3 : UInt8), (17 : UInt8)] A_1 c_2) [[0]] [(41, 1)] [] [(0, 0)] (hks := []) (bks := [0]) (by kernel_rfl) (by kernel_rfl) (by kernel_rfl) (.inl rfl) rfl rfl (by kernel_rfl) (by kernel_rfl) _ (fun _ _ => rfl) _ _ (fun _ _ => rfl) (fun _ _ => rfl) (fun _ _ => by kernel_rfl) (fun _ _ => by kernel_rfl) (fun r_3 x_13 => ?_))
  obtain ⟨A_4, c_5⟩ := x_13
  refine GoO.shape (env' := [(4, .slice A_1 [(3 : UInt8), (17 : UInt8)].length c_2), (5, .tuple ⟨[.slice A_4 r_3.1.length c_5, .int .i64 r_3.2]⟩)]) (H' := []) (B' := [Ow 41 Kd.u8 A_4 c_5 r_3.1, Rd 0 Kd.u8 A_1 c_2 [(3 : UInt8), (17 : UInt8)]]) (ks := [4, 5]) (by kernel_rfl) (by kernel_rfl) (by kernel_rfl) ?_
  refine GoO.exec (is := [2, 3, 4, 5, 6]) (hs := [.p, .p, .p, .p, .p]) (rest := []) (ks := [2]) (env' := [(2, .int .i64 r_3.2)]) (H' := []) (ps := []) (by kernel_rfl) trivial ?_
  refine GoO.regionEnd ?_
  refine GoO.seq' c19_4e ?_
  refine GoO.region' (is := [0, 1, 2, 3, 4, 5, 6, 7, 8]) c19_5e (by kernel_rfl) ?_
  refine OpTo.go (GoO.lit (e := 5) (K := Kd.u8) rfl (by kernel_rfl) (by kernel_rfl) (cs := [.int .u8 17, .int .u8 0, .int .u8 34]) (by kernel_rfl) [(17 : UInt8), (0 : UInt8), (34 : UInt8)] (by kernel_rfl) (by kernel_rfl) (fun w S hB => ⟨[.int .u8 17], _, rfl, rfl, ⟨[.int .u8 0], _, rfl, rfl, ⟨[.int .u8 34], _, rfl, rfl, rfl⟩⟩⟩) 42 _ (fun _ _ => rfl) (fun A_6 c_7 => ?_))
  refine GoO.retag (t := 42) (u := 0) (j := 0) (hk := []) (bk := [1, 2]) rfl rfl rfl rfl rfl rfl (by kernel_rfl) (by kernel_rfl) ?_
  refine GoO.own2rd (j := 0) rfl ?_
  refine OpTo.go (GoO.call rfl (by kernel_rfl) (by kernel_rfl) (stuff_Encode_ok n [(17 : UInt8), (0 : UInt8), (34 : UInt8)] A_6 c_7) [[0]] [(43, 1)] [] [(0, 0)] (hks := []) (bks := [0, 1, 2]) (by kernel_rfl) (by kernel_rfl) (by kernel_rfl) (.inl rfl) rfl rfl (by kernel_rfl) (by kernel_rfl) _ (fun _ _ => rfl) _ _ (fun _ _ => rfl) (fun _ _ => rfl) (fun _ _ => by kernel_rfl) (fun _ _ => by kernel_rfl) (fun r_8 x_12 => ?_))
  obtain ⟨A_9, c_10⟩ := x_12
  refine GoO.shape (env' := [(2, .int .i64 r_3.2), (8, .slice A_6 [(17 : UInt8), (0 : UInt8), (34 : UInt8)].length c_7), (9, .slice A_9 r_8.length c_10)]) (H' := []) (B' := [Ow 43 Kd.u8 A_9 c_10 r_8, Rd 0 Kd.u8 A_6 c_7 [(17 : UInt8), (0 : UInt8), (34 : UInt8)], Ow 41 Kd.u8 A_4 c_5 r_3.1, Rd 0 Kd.u8 A_1 c_2 [(3 : UInt8), (17 : UInt8)]]) (ks := [2, 8, 9]) (by kernel_rfl) (by kernel_rfl) (by kernel_rfl) ?_
  refine OpTo.go (GoO.toStr (e := 5) (A := A_9) (c := c_10) (xs := r_8) (j := 0) rfl (by kernel_rfl) (by kernel_rfl) (by kernel_rfl) (by kernel_rfl) rfl Reads.own rfl rfl ?_)
  refine GoO.exec (is := [3, 4]) (hs := [.p, .p]) (rest := [5, 6, 7, 8]) (ks := [2, 12]) (env' := [(2, .int .i64 r_3.2), (12, .bool (r_8 == ([2, 17, 2, 34] : List UInt8)))]) (H' := []) (ps := []) (by kernel_rfl) trivial ?_
  refine GoO.bsplit (t := 12) (by kernel_rfl) (fun h11 => ?_) (fun h11 => ?_)
  · refine GoO.exec (is := [5, 6, 7, 8]) (hs := [.p, .p, .p, .p]) (rest := []) (ks := [0]) (env' := [(0, .bool (r_3.2 == 2))]) (H' := []) (ps := []) (by kernel_rfl) trivial ?_
    refine GoO.regionEnd ?_
    exact GoO.ret' (h := c19_6e) (hs := []) (ps := []) (hk := []) (bk := []) Try.func19 () (by kernel_rfl) trivial (by kernel_rfl) (by kernel_rfl)
  · refine GoO.exec (is := [5, 6, 7, 8]) (hs := [.p, .p, .p, .p]) (rest := []) (ks := [0]) (env' := [(0, .bool false)]) (H' := []) (ps := []) (by kernel_rfl) trivial ?_
    refine GoO.regionEnd ?_
    exact GoO.ret' (h := c19_6e) (hs := []) (ps := []) (hk := []) (bk := []) Try.func19 () (by kernel_rfl) trivial (by kernel_rfl) (by kernel_rfl)

/-! tontine/tontinelaw01.StuffRuns -/
noncomputable def c10_0 : Code := bodyOf Try.f10
noncomputable def c10_1 : Code := cdL c10_0
noncomputable def c10_2 : Code := cdR c10_0
noncomputable def c10_3 : Code := cdL c10_2
noncomputable def c10_4 : Code := cdL c10_3
noncomputable def c10_5 : Code := cdR c10_3
noncomputable def c10_6 : Code := cdL c10_5
noncomputable def c10_7 : Code := cdL c10_6
noncomputable def c10_8 : Code := cdR c10_6
noncomputable def c10_9 : Code := cdR c10_5
noncomputable def c10_10 : Code := cdR c10_2
noncomputable def c10_11 : Code := cdL c10_10
noncomputable def c10_12 : Code := cdR c10_10
noncomputable def c10_13 : Code := cdL c10_12
noncomputable def c10_14 : Code := cdL c10_13
noncomputable def c10_15 : Code := cdR c10_13
noncomputable def c10_16 : Code := cdL c10_15
noncomputable def c10_17 : Code := cdR c10_15
noncomputable def c10_18 : Code := cdR c10_12
noncomputable def c10_19 : Code := cdL c10_18
noncomputable def c10_20 : Code := cdR c10_18
noncomputable def c10_21 : Code := cdL c10_20
noncomputable def c10_22 : Code := cdL c10_21
noncomputable def c10_23 : Code := cdR c10_21
noncomputable def c10_24 : Code := cdL c10_23
noncomputable def c10_25 : Code := cdL c10_24
noncomputable def c10_26 : Code := cdL c10_25
noncomputable def c10_27 : Code := cdR c10_25
noncomputable def c10_28 : Code := cdL c10_27
noncomputable def c10_29 : Code := cdL c10_28
noncomputable def c10_30 : Code := cdR c10_28
noncomputable def c10_31 : Code := cdR c10_27
noncomputable def c10_32 : Code := cdL c10_31
noncomputable def c10_33 : Code := cdL c10_32
noncomputable def c10_34 : Code := cdR c10_31
noncomputable def c10_35 : Code := cdR c10_20
noncomputable def c10_36 : Code := cdL c10_35
noncomputable def c10_37 : Code := cdL c10_36
noncomputable def c10_38 : Code := cdR c10_36
noncomputable def c10_39 : Code := cdL c10_38
noncomputable def c10_40 : Code := cdL c10_39
noncomputable def c10_41 : Code := cdL c10_40
noncomputable def c10_42 : Code := cdR c10_40
noncomputable def c10_43 : Code := cdL c10_42
noncomputable def c10_44 : Code := cdL c10_43
noncomputable def c10_45 : Code := cdR c10_43
noncomputable def c10_46 : Code := cdR c10_42
noncomputable def c10_47 : Code := cdL c10_46
noncomputable def c10_48 : Code := cdL c10_47
noncomputable def c10_49 : Code := cdR c10_46
noncomputable def c10_50 : Code := cdR c10_35
noncomputable def c10_51 : Code := cdL c10_50
noncomputable def c10_52 : Code := cdR c10_50
noncomputable def c10_53 : Code := cdL c10_52
noncomputable def c10_54 : Code := cdR c10_52
noncomputable def c10_55 : Code := cdL c10_54
noncomputable def c10_56 : Code := cdL c10_55
noncomputable def c10_57 : Code := cdR c10_55
noncomputable def c10_58 : Code := cdL c10_57
noncomputable def c10_59 : Code := cdL c10_58
noncomputable def c10_60 : Code := cdL c10_59
noncomputable def c10_61 : Code := cdR c10_59
noncomputable def c10_62 : Code := cdL c10_61
noncomputable def c10_63 : Code := cdL c10_62
noncomputable def c10_64 : Code := cdR c10_62
noncomputable def c10_65 : Code := cdR c10_61
noncomputable def c10_66 : Code := cdL c10_65
noncomputable def c10_67 : Code := cdL c10_66
noncomputable def c10_68 : Code := cdL c10_67
noncomputable def c10_69 : Code := cdR c10_67
noncomputable def c10_70 : Code := cdL c10_69
noncomputable def c10_71 : Code := cdR c10_69
noncomputable def c10_72 : Code := cdL c10_71
noncomputable def c10_73 : Code := cdL c10_72
noncomputable def c10_74 : Code := cdR c10_72
noncomputable def c10_75 : Code := cdR c10_71
noncomputable def c10_76 : Code := cdR c10_65
noncomputable def c10_77 : Code := cdR c10_54
noncomputable def c10_78 : Code := cdL c10_77
noncomputable def c10_79 : Code := cdR c10_77
noncomputable def r10_1 : Array Oper := cdO c10_1
noncomputable def r10_4 : Array Oper := cdO c10_4
noncomputable def r10_7 : Array Oper := cdO c10_7
noncomputable def r10_11 : Array Oper := cdO c10_11
noncomputable def r10_14 : Array Oper := cdO c10_14
noncomputable def r10_16 : Array Oper := cdO c10_16
noncomputable def r10_19 : Array Oper := cdO c10_19
noncomputable def r10_22 : Array Oper := cdO c10_22
noncomputable def r10_26 : Array Oper := cdO c10_26
noncomputable def r10_33 : Array Oper := cdO c10_33
noncomputable def r10_34 : Array Oper := cdO c10_34
noncomputable def r10_37 : Array Oper := cdO c10_37
noncomputable def r10_41 : Array Oper := cdO c10_41
noncomputable def r10_48 : Array Oper := cdO c10_48
noncomputable def r10_49 : Array Oper := cdO c10_49
noncomputable def r10_51 : Array Oper := cdO c10_51
noncomputable def r10_53 : Array Oper := cdO c10_53
noncomputable def r10_56 : Array Oper := cdO c10_56
noncomputable def r10_60 : Array Oper := cdO c10_60
noncomputable def r10_68 : Array Oper := cdO c10_68
noncomputable def r10_70 : Array Oper := cdO c10_70
noncomputable def r10_73 : Array Oper := cdO c10_73
noncomputable def r10_76 : Array Oper := cdO c10_76
noncomputable def r10_78 : Array Oper := cdO c10_78
theorem c10_0e : c10_0 = .seq c10_1 c10_2 := by kernel_rfl
theorem c10_1e : c10_1 = .region 0 r10_1 false := by kernel_rfl
theorem c10_2e : c10_2 = .seq c10_3 c10_10 := by kernel_rfl
theorem c10_3e : c10_3 = .seq c10_4 c10_5 := by kernel_rfl
theorem c10_4e : c10_4 = .region 1 r10_4 false := by kernel_rfl
theorem c10_5e : c10_5 = .cond (cdC c10_5) c10_6 c10_9 := by kernel_rfl
theorem c10_6e : c10_6 = .seq c10_7 c10_8 := by kernel_rfl
theorem c10_7e : c10_7 = .region 2 r10_7 false := by kernel_rfl
theorem c10_8e : c10_8 = .ret := by kernel_rfl
theorem c10_9e : c10_9 = .skip := by kernel_rfl
theorem c10_10e : c10_10 = .seq c10_11 c10_12 := by kernel_rfl
theorem c10_11e : c10_11 = .region 3 r10_11 false := by kernel_rfl
theorem c10_12e : c10_12 = .seq c10_13 c10_18 := by kernel_rfl
theorem c10_13e : c10_13 = .seq c10_14 c10_15 := by kernel_rfl
theorem c10_14e : c10_14 = .region 4 r10_14 false := by kernel_rfl
theorem c10_15e : c10_15 = .cond (cdC c10_15) c10_16 c10_17 := by kernel_rfl
theorem c10_16e : c10_16 = .region 5 r10_16 false := by kernel_rfl
theorem c10_17e : c10_17 = .skip := by kernel_rfl
theorem c10_18e : c10_18 = .seq c10_19 c10_20 := by kernel_rfl
theorem c10_19e : c10_19 = .region 6 r10_19 false := by kernel_rfl
theorem c10_20e : c10_20 = .seq c10_21 c10_35 := by kernel_rfl
theorem c10_21e : c10_21 = .seq c10_22 c10_23 := by kernel_rfl
theorem c10_22e : c10_22 = .region 7 r10_22 false := by kernel_rfl
theorem c10_23e : c10_23 = .block 0 c10_24 := by kernel_rfl
theorem c10_24e : c10_24 = .loop c10_25 := by kernel_rfl
theorem c10_25e : c10_25 = .seq c10_26 c10_27 := by kernel_rfl
theorem c10_26e : c10_26 = .region 8 r10_26 false := by kernel_rfl
theorem c10_27e : c10_27 = .seq c10_28 c10_31 := by kernel_rfl
theorem c10_28e : c10_28 = .cond (cdC c10_28) c10_29 c10_30 := by kernel_rfl
theorem c10_29e : c10_29 = .skip := by kernel_rfl
theorem c10_30e : c10_30 = .exit 0 := by kernel_rfl
theorem c10_31e : c10_31 = .seq c10_32 c10_34 := by kernel_rfl
theorem c10_32e : c10_32 = .block 1 c10_33 := by kernel_rfl
theorem c10_33e : c10_33 = .region 9 r10_33 false := by kernel_rfl
theorem c10_34e : c10_34 = .region 10 r10_34 false := by kernel_rfl
theorem c10_35e : c10_35 = .seq c10_36 c10_50 := by kernel_rfl
theorem c10_36e : c10_36 = .seq c10_37 c10_38 := by kernel_rfl
theorem c10_37e : c10_37 = .region 11 r10_37 false := by kernel_rfl
theorem c10_38e : c10_38 = .block 2 c10_39 := by kernel_rfl
theorem c10_39e : c10_39 = .loop c10_40 := by kernel_rfl
theorem c10_40e : c10_40 = .seq c10_41 c10_42 := by kernel_rfl
theorem c10_41e : c10_41 = .region 12 r10_41 false := by kernel_rfl
theorem c10_42e : c10_42 = .seq c10_43 c10_46 := by kernel_rfl
theorem c10_43e : c10_43 = .cond (cdC c10_43) c10_44 c10_45 := by kernel_rfl
theorem c10_44e : c10_44 = .skip := by kernel_rfl
theorem c10_45e : c10_45 = .exit 2 := by kernel_rfl
theorem c10_46e : c10_46 = .seq c10_47 c10_49 := by kernel_rfl
theorem c10_47e : c10_47 = .block 3 c10_48 := by kernel_rfl
theorem c10_48e : c10_48 = .region 13 r10_48 false := by kernel_rfl
theorem c10_49e : c10_49 = .region 14 r10_49 false := by kernel_rfl
theorem c10_50e : c10_50 = .seq c10_51 c10_52 := by kernel_rfl
theorem c10_51e : c10_51 = .region 15 r10_51 false := by kernel_rfl
theorem c10_52e : c10_52 = .seq c10_53 c10_54 := by kernel_rfl
theorem c10_53e : c10_53 = .region 16 r10_53 false := by kernel_rfl
theorem c10_54e : c10_54 = .seq c10_55 c10_77 := by kernel_rfl
theorem c10_55e : c10_55 = .seq c10_56 c10_57 := by kernel_rfl
theorem c10_56e : c10_56 = .region 17 r10_56 false := by kernel_rfl
theorem c10_57e : c10_57 = .block 4 c10_58 := by kernel_rfl
theorem c10_58e : c10_58 = .loop c10_59 := by kernel_rfl
theorem c10_59e : c10_59 = .seq c10_60 c10_61 := by kernel_rfl
theorem c10_60e : c10_60 = .region 18 r10_60 false := by kernel_rfl
theorem c10_61e : c10_61 = .seq c10_62 c10_65 := by kernel_rfl
theorem c10_62e : c10_62 = .cond (cdC c10_62) c10_63 c10_64 := by kernel_rfl
theorem c10_63e : c10_63 = .skip := by kernel_rfl
theorem c10_64e : c10_64 = .exit 4 := by kernel_rfl
theorem c10_65e : c10_65 = .seq c10_66 c10_76 := by kernel_rfl
theorem c10_66e : c10_66 = .block 5 c10_67 := by kernel_rfl
theorem c10_67e : c10_67 = .seq c10_68 c10_69 := by kernel_rfl
theorem c10_68e : c10_68 = .region 19 r10_68 false := by kernel_rfl
theorem c10_69e : c10_69 = .seq c10_70 c10_71 := by kernel_rfl
theorem c10_70e : c10_70 = .region 20 r10_70 false := by kernel_rfl
theorem c10_71e : c10_71 = .cond (cdC c10_71) c10_72 c10_75 := by kernel_rfl
theorem c10_72e : c10_72 = .seq c10_73 c10_74 := by kernel_rfl
theorem c10_73e : c10_73 = .region 21 r10_73 false := by kernel_rfl
theorem c10_74e : c10_74 = .ret := by kernel_rfl
theorem c10_75e : c10_75 = .skip := by kernel_rfl
theorem c10_76e : c10_76 = .region 22 r10_76 false := by kernel_rfl
theorem c10_77e : c10_77 = .seq c10_78 c10_79 := by kernel_rfl
theorem c10_78e : c10_78 = .region 23 r10_78 false := by kernel_rfl
theorem c10_79e : c10_79 = .ret := by kernel_rfl
noncomputable def tontinelaw01_StuffRuns.R : Pst Bool where
  ε := Unit
  v := fun r x => .bool r
  H := fun r x => []
  B := fun r x => []
noncomputable def tontinelaw01_StuffRuns.cx (w0 : World) (S0 : Fam) : Cx Bool := ⟨Try.prog, 10, Try.f10, 74, w0, S0, [], 0, tontinelaw01_StuffRuns.R⟩
theorem tontinelaw01_StuffRuns_l2_ok (n : Nat) (n_1 : Int) (zeros_3 : Int) (r_28 : (List UInt8)) (A_29 : Option Addr) (c_30 : Nat) (w0 : World) (S0 : Fam) :
    ∀ (k : Nat) (x_31 : Int), GoO (tontinelaw01_StuffRuns.cx w0 S0) [(0, .int .i64 ((wi64 ((n_1.tmod 1100) + 1100)).tmod 1100)), (2, .int .i64 ((wi64 ((zeros_3.tmod 5) + 5)).tmod 5)), (8, .slice A_29 r_28.length c_30), (9, .int .i64 (wi64 (((wi64 ((n_1.tmod 1100) + 1100)).tmod 1100).tdiv 254))), (42, .int .i64 (wi64 (((wi64 ((n_1.tmod 1100) + 1100)).tmod 1100).tdiv 254))), (43, .int .i64 x_31)] [] [Ow 43 Kd.u8 A_29 c_30 r_28] [.code c10_59, .inLoop c10_59, .inBlock 4, .code c10_77] (tontinelaw01_StuffRuns.l2 n n_1 zeros_3 r_28 k x_31) := by
  intro k
  induction k with
  | zero => intros; rw [tontinelaw01_StuffRuns.l2.eq_1]; exact GoO.stop
  | succ k ih2 =>
    intro x_31
    rw [tontinelaw01_StuffRuns.l2.eq_2]
    refine GoO.seq' c10_59e ?_
    refine GoO.region' (is := [0]) c10_60e (by kernel_rfl) ?_
    refine GoO.exec (is := [0]) (hs := [.p]) (rest := []) (ks := [0, 2, 8, 9, 42, 43, 44]) (env' := [(0, .int .i64 ((wi64 ((n_1.tmod 1100) + 1100)).tmod 1100)), (2, .int .i64 ((wi64 ((zeros_3.tmod 5) + 5)).tmod 5)), (8, .slice A_29 r_28.length c_30), (9, .int .i64 (wi64 (((wi64 ((n_1.tmod 1100) + 1100)).tmod 1100).tdiv 254))), (42, .int .i64 (wi64 (((wi64 ((n_1.tmod 1100) + 1100)).tmod 1100).tdiv 254))), (43, .int .i64 x_31), (44, .bool (decide (x_31 < (wi64 (((wi64 ((n_1.tmod 1100) + 1100)).tmod 1100).tdiv 254)))))]) (H' := []) (ps := []) (by kernel_rfl) trivial ?_
    refine GoO.regionEnd ?_
    refine GoO.seq' c10_61e ?_
    refine GoO.ite' c10_62e (by kernel_rfl) (fun h32 => ?_) (fun h32 => ?_)
    · refine GoO.skip' c10_63e ?_
      refine GoO.seq' c10_65e ?_
      refine GoO.block' c10_66e ?_
      refine GoO.seq' c10_67e ?_
      refine GoO.region' (is := [0, 1]) c10_68e (by kernel_rfl) ?_
      refine GoO.exec (is := [0, 1]) (hs := [.p, .p]) (rest := []) (ks := [0, 2, 8, 9, 10, 42, 43]) (env' := [(0, .int .i64 ((wi64 ((n_1.tmod 1100) + 1100)).tmod 1100)), (2, .int .i64 ((wi64 ((zeros_3.tmod 5) + 5)).tmod 5)), (8, .slice A_29 r_28.length c_30), (9, .int .i64 (wi64 (((wi64 ((n_1.tmod 1100) + 1100)).tmod 1100).tdiv 254))), (10, .int .i64 x_31), (42, .int .i64 (wi64 (((wi64 ((n_1.tmod 1100) + 1100)).tmod 1100).tdiv 254))), (43, .int .i64 x_31)]) (H' := []) (ps := []) (by kernel_rfl) trivial ?_
      refine GoO.regionEnd ?_
      refine GoO.seq' c10_69e ?_
      refine GoO.region' (is := [0, 1, 2, 3, 4, 5]) c10_70e (by kernel_rfl) ?_
      refine GoO.exec (is := [0, 1, 2]) (hs := [.p, .p, .p]) (rest := [3, 4, 5]) (ks := [0, 2, 8, 9, 42, 43, 46, 48]) (env' := [(0, .int .i64 ((wi64 ((n_1.tmod 1100) + 1100)).tmod 1100)), (2, .int .i64 ((wi64 ((zeros_3.tmod 5) + 5)).tmod 5)), (8, .slice A_29 r_28.length c_30), (9, .int .i64 (wi64 (((wi64 ((n_1.tmod 1100) + 1100)).tmod 1100).tdiv 254))), (42, .int .i64 (wi64 (((wi64 ((n_1.tmod 1100) + 1100)).tmod 1100).tdiv 254))), (43, .int .i64 x_31), (46, .slice A_29 r_28.length c_30), (48, .int .i64 (wi64 (255 * x_31)))]) (H' := []) (ps := []) (by kernel_rfl) trivial ?_
      refine GoO.guard (fun h33 => ?_)
      refine OpTo.go (GoO.idx (kk := .i64) (e := 5) (K := Kd.u8) (A := A_29) (c := c_30) (xs := r_28) (iv := wi64 (255 * x_31)) (j := 0) rfl (by kernel_rfl) (by kernel_rfl) (by kernel_rfl) (by kernel_rfl) rfl Reads.own rfl h33.1 h33.2 (by decide) rfl ?_)
      refine OpTo.go (GoO.ldE' (K := Kd.u8) (A := A_29) (c := c_30) (xs := r_28) (iN := (wi64 (255 * x_31)).toNat) (off := 0) (j := 0) rfl (by kernel_rfl) rfl Reads.own (idx_lt h33.1 h33.2) (by decide) (Opn.flat _ _ _ _ _) (v := fun _ => .int .u8 (((rdL r_28 (wi64 (255 * x_31)))).toNat : Int)) (fun _ => by kernel_rfl) _ (fun _ => rfl) (fun _ => ?_))
      refine GoO.exec (is := [5]) (hs := [.p]) (rest := []) (ks := [0, 2, 8, 9, 42, 43, 51]) (env' := [(0, .int .i64 ((wi64 ((n_1.tmod 1100) + 1100)).tmod 1100)), (2, .int .i64 ((wi64 ((zeros_3.tmod 5) + 5)).tmod 5)), (8, .slice A_29 r_28.length c_30), (9, .int .i64 (wi64 (((wi64 ((n_1.tmod 1100) + 1100)).tmod 1100).tdiv 254))), (42, .int .i64 (wi64 (((wi64 ((n_1.tmod 1100) + 1100)).tmod 1100).tdiv 254))), (43, .int .i64 x_31), (51, .bool ((((rdL r_28 (wi64 (255 * x_31)))).toNat : Int) != 255))]) (H' := []) (ps := []) (by kernel_rfl) trivial ?_
      refine GoO.regionEnd ?_
      refine GoO.ite' c10_71e (by kernel_rfl) (fun h34 => ?_) (fun h34 => ?_)
      · refine GoO.seq' c10_72e ?_
        refine GoO.region' (is := [0]) c10_73e (by kernel_rfl) ?_
        refine GoO.exec (is := [0]) (hs := [.p]) (rest := []) (ks := [6]) (env' := [(6, .bool false)]) (H' := []) (ps := []) (by kernel_rfl) trivial ?_
        refine GoO.regionEnd ?_
        exact GoO.ret' (h := c10_74e) (hs := []) (ps := []) (hk := []) (bk := []) Try.func10 () (by kernel_rfl) trivial (by kernel_rfl) (by kernel_rfl)
      · refine GoO.skip' c10_75e ?_
        refine GoO.inBlock ?_
        refine GoO.region' (is := [0, 1]) c10_76e (by kernel_rfl) ?_
        refine GoO.exec (is := [0, 1]) (hs := [.p, .p]) (rest := []) (ks := [0, 2, 8, 9, 42, 43]) (env' := [(0, .int .i64 ((wi64 ((n_1.tmod 1100) + 1100)).tmod 1100)), (2, .int .i64 ((wi64 ((zeros_3.tmod 5) + 5)).tmod 5)), (8, .slice A_29 r_28.length c_30), (9, .int .i64 (wi64 (((wi64 ((n_1.tmod 1100) + 1100)).tmod 1100).tdiv 254))), (42, .int .i64 (wi64 (((wi64 ((n_1.tmod 1100) + 1100)).tmod 1100).tdiv 254))), (43, .int .i64 (wi64 (x_31 + 1)))]) (H' := []) (ps := []) (by kernel_rfl) trivial ?_
        refine GoO.regionEnd ?_
        refine GoO.inLoop ?_
        exact GoO.sub (ks := [0, 2, 8, 9, 42, 43]) (hk := []) (bk := [0]) (by kernel_rfl) (by kernel_rfl) (by kernel_rfl) (ih2 (wi64 (x_31 + 1)))
    · refine GoO.exit' c10_64e rfl ?_
      refine GoO.seq' c10_77e ?_
      refine GoO.region' (is := [0, 1, 2, 3, 4, 5, 6, 7, 8, 9, 10, 11, 12, 13, 14, 15, 16, 17, 18, 19, 20, 21]) c10_78e (by kernel_rfl) ?_
      refine GoO.exec (is := [0, 1, 2, 3, 4, 5, 6, 7, 8, 9]) (hs := [.p, .p, .p, .p, .p, .p, .p, .p, .p, .p]) (rest := [10, 11, 12, 13, 14, 15, 16, 17, 18, 19, 20, 21]) (ks := [0, 8, 9, 62]) (env' := [(0, .int .i64 ((wi64 ((n_1.tmod 1100) + 1100)).tmod 1100)), (8, .slice A_29 r_28.length c_30), (9, .int .i64 (wi64 (((wi64 ((n_1.tmod 1100) + 1100)).tmod 1100).tdiv 254))), (62, .bool ((r_28.length : Int) == (wi64 ((wi64 ((wi64 (((wi64 ((n_1.tmod 1100) + 1100)).tmod 1100) + (wi64 (((wi64 ((n_1.tmod 1100) + 1100)).tmod 1100).tdiv 254)))) + ((wi64 ((zeros_3.tmod 5) + 5)).tmod 5))) + 1))))]) (H' := []) (ps := []) (by kernel_rfl) trivial ?_
      refine GoO.bsplit (t := 62) (by kernel_rfl) (fun h35 => ?_) (fun h35 => ?_)
      · refine GoO.exec (is := [10, 11, 12]) (hs := [.p, .p, .p]) (rest := [13, 14, 15, 16, 17, 18, 19, 20, 21]) (ks := [0, 62, 63, 65]) (env' := [(0, .int .i64 ((wi64 ((n_1.tmod 1100) + 1100)).tmod 1100)), (62, .bool true), (63, .slice A_29 r_28.length c_30), (65, .int .i64 (wi64 (255 * (wi64 (((wi64 ((n_1.tmod 1100) + 1100)).tmod 1100).tdiv 254)))))]) (H' := []) (ps := []) (by kernel_rfl) trivial ?_
        refine GoO.guard (fun h36 => ?_)
        refine OpTo.go (GoO.idx (kk := .i64) (e := 5) (K := Kd.u8) (A := A_29) (c := c_30) (xs := r_28) (iv := wi64 (255 * (wi64 (((wi64 ((n_1.tmod 1100) + 1100)).tmod 1100).tdiv 254)))) (j := 0) rfl (by kernel_rfl) (by kernel_rfl) (by kernel_rfl) (by kernel_rfl) rfl Reads.own rfl h36.1 h36.2 (by decide) rfl ?_)
        refine OpTo.go (GoO.ldE' (K := Kd.u8) (A := A_29) (c := c_30) (xs := r_28) (iN := (wi64 (255 * (wi64 (((wi64 ((n_1.tmod 1100) + 1100)).tmod 1100).tdiv 254)))).toNat) (off := 0) (j := 0) rfl (by kernel_rfl) rfl Reads.own (idx_lt h36.1 h36.2) (by decide) (Opn.flat _ _ _ _ _) (v := fun _ => .int .u8 (((rdL r_28 (wi64 (255 * (wi64 (((wi64 ((n_1.tmod 1100) + 1100)).tmod 1100).tdiv 254)))))).toNat : Int)) (fun _ => by kernel_rfl) _ (fun _ => rfl) (fun _ => ?_))
        refine GoO.exec (is := [15, 16, 17, 18, 19, 20, 21]) (hs := [.p, .p, .p, .p, .p, .p, .p]) (rest := []) (ks := [6]) (env' := [(6, .bool ((wi64 (((rdL r_28 (wi64 (255 * (wi64 (((wi64 ((n_1.tmod 1100) + 1100)).tmod 1100).tdiv 254)))))).toNat : Int)) == (wi64 ((((wi64 ((n_1.tmod 1100) + 1100)).tmod 1100).tmod 254) + 1))))]) (H' := []) (ps := [(254 : Int) ≠ 0]) (by kernel_rfl) (And.intro (by decide) trivial) ?_
        refine GoO.regionEnd ?_
        exact GoO.ret' (h := c10_79e) (hs := []) (ps := []) (hk := []) (bk := []) Try.func10 () (by kernel_rfl) trivial (by kernel_rfl) (by kernel_rfl)
      · refine GoO.exec (is := [10, 11, 12, 13, 14, 15, 16, 17, 18, 19, 20, 21]) (hs := [.p, .p, .p, .p, .p, .p, .p, .p, .p, .p, .p, .p]) (rest := []) (ks := [6]) (env' := [(6, .bool false)]) (H' := []) (ps := []) (by kernel_rfl) trivial ?_
        refine GoO.regionEnd ?_
        exact GoO.ret' (h := c10_79e) (hs := []) (ps := []) (hk := []) (bk := []) Try.func10 () (by kernel_rfl) trivial (by kernel_rfl) (by kernel_rfl)
theorem tontinelaw01_StuffRuns_l1_ok (n : Nat) (n_1 : Int) (zeros_3 : Int) (w0 : World) (S0 : Fam) :
    ∀ (k : Nat) (b_18 : (List UInt8)) (x_21 : Int) (A_19 : Option Addr) (c_20 : Nat), GoO (tontinelaw01_StuffRuns.cx w0 S0) [(0, .int .i64 ((wi64 ((n_1.tmod 1100) + 1100)).tmod 1100)), (2, .int .i64 ((wi64 ((zeros_3.tmod 5) + 5)).tmod 5)), (7, .slice A_19 b_18.length c_20), (31, .int .i64 ((wi64 ((zeros_3.tmod 5) + 5)).tmod 5)), (32, .int .i64 x_21)] [] [Ow 41 Kd.u8 A_19 c_20 b_18] [.code c10_40, .inLoop c10_40, .inBlock 2, .code c10_50] (tontinelaw01_StuffRuns.l1 n n_1 zeros_3 k b_18 x_21) := by
  intro k
  induction k with
  | zero => intros; rw [tontinelaw01_StuffRuns.l1.eq_1]; exact GoO.stop
  | succ k ih1 =>
    intro b_18 x_21 A_19 c_20
    rw [tontinelaw01_StuffRuns.l1.eq_2]
    refine GoO.seq' c10_40e ?_
    refine GoO.region' (is := [0]) c10_41e (by kernel_rfl) ?_
    refine GoO.exec (is := [0]) (hs := [.p]) (rest := []) (ks := [0, 2, 7, 31, 32, 33]) (env' := [(0, .int .i64 ((wi64 ((n_1.tmod 1100) + 1100)).tmod 1100)), (2, .int .i64 ((wi64 ((zeros_3.tmod 5) + 5)).tmod 5)), (7, .slice A_19 b_18.length c_20), (31, .int .i64 ((wi64 ((zeros_3.tmod 5) + 5)).tmod 5)), (32, .int .i64 x_21), (33, .bool (decide (x_21 < ((wi64 ((zeros_3.tmod 5) + 5)).tmod 5))))]) (H' := []) (ps := []) (by kernel_rfl) trivial ?_
    refine GoO.regionEnd ?_
    refine GoO.seq' c10_42e ?_
    refine GoO.ite' c10_43e (by kernel_rfl) (fun h22 => ?_) (fun h22 => ?_)
    · refine GoO.skip' c10_44e ?_
      refine GoO.seq' c10_46e ?_
      refine GoO.block' c10_47e ?_
      refine GoO.region' (is := [0, 1, 2, 3]) c10_48e (by kernel_rfl) ?_
      refine GoO.exec (is := [0]) (hs := [.p]) (rest := [1, 2, 3]) (ks := [0, 2, 31, 32, 34]) (env' := [(0, .int .i64 ((wi64 ((n_1.tmod 1100) + 1100)).tmod 1100)), (2, .int .i64 ((wi64 ((zeros_3.tmod 5) + 5)).tmod 5)), (31, .int .i64 ((wi64 ((zeros_3.tmod 5) + 5)).tmod 5)), (32, .int .i64 x_21), (34, .slice A_19 b_18.length c_20)]) (H' := []) (ps := []) (by kernel_rfl) trivial ?_
      refine OpTo.go (GoO.lit (e := 5) (K := Kd.u8) rfl (by kernel_rfl) (by kernel_rfl) (cs := [.int .u8 0]) (by kernel_rfl) [(0 : UInt8)] (by kernel_rfl) (by kernel_rfl) (fun w S hB => ⟨[.int .u8 0], _, rfl, rfl, rfl⟩) 42 _ (fun _ _ => rfl) (fun A_23 c_24 => ?_))
      refine GoO.guard (fun h25 => ?_)
      refine OpTo.go (GoO.appW (e := 5) (K := Kd.u8) (A := A_19) (c := c_20) (tg := 41) (bytes := 1) (zs := [.int .u8 0]) (xs := b_18) (ys := [(0 : UInt8)]) (xv := .slice A_23 [(0 : UInt8)].length c_24) (j := 1) (bk := [0]) rfl (by kernel_rfl) (by kernel_rfl) (by kernel_rfl) (by kernel_rfl) rfl (by kernel_rfl) rfl (fun w S hB => SrcIs.row (Reads.own w S (hB _ (List.mem_of_getElem? (i := 0) rfl)))) h25 rfl rfl rfl rfl _ (fun _ _ => rfl) (fun A_26 c_27 => ?_))
      refine GoO.exec (is := [3]) (hs := [.p]) (rest := []) (ks := [0, 2, 7, 31, 32]) (env' := [(0, .int .i64 ((wi64 ((n_1.tmod 1100) + 1100)).tmod 1100)), (2, .int .i64 ((wi64 ((zeros_3.tmod 5) + 5)).tmod 5)), (7, .slice A_26 (b_18 ++ [(0 : UInt8)]).length c_27), (31, .int .i64 ((wi64 ((zeros_3.tmod 5) + 5)).tmod 5)), (32, .int .i64 x_21)]) (H' := []) (ps := []) (by kernel_rfl) trivial ?_
      refine GoO.regionEnd ?_
      refine GoO.inBlock ?_
      refine GoO.region' (is := [0, 1]) c10_49e (by kernel_rfl) ?_
      refine GoO.exec (is := [0, 1]) (hs := [.p, .p]) (rest := []) (ks := [0, 2, 7, 31, 32]) (env' := [(0, .int .i64 ((wi64 ((n_1.tmod 1100) + 1100)).tmod 1100)), (2, .int .i64 ((wi64 ((zeros_3.tmod 5) + 5)).tmod 5)), (7, .slice A_26 (b_18 ++ [(0 : UInt8)]).length c_27), (31, .int .i64 ((wi64 ((zeros_3.tmod 5) + 5)).tmod 5)), (32, .int .i64 (wi64 (x_21 + 1)))]) (H' := []) (ps := []) (by kernel_rfl) trivial ?_
      refine GoO.regionEnd ?_
      refine GoO.inLoop ?_
      exact GoO.sub (ks := [0, 2, 7, 31, 32]) (hk := []) (bk := [0]) (by kernel_rfl) (by kernel_rfl) (by kernel_rfl) (ih1 (b_18 ++ [(0 : UInt8)]) (wi64 (x_21 + 1)) A_26 c_27)
    · refine GoO.exit' c10_45e rfl ?_
      refine GoO.seq' c10_50e ?_
      refine GoO.region' (is := [0, 1, 2]) c10_51e (by kernel_rfl) ?_
      refine GoO.exec (is := [0]) (hs := [.p]) (rest := [1, 2]) (ks := [0, 2, 38]) (env' := [(0, .int .i64 ((wi64 ((n_1.tmod 1100) + 1100)).tmod 1100)), (2, .int .i64 ((wi64 ((zeros_3.tmod 5) + 5)).tmod 5)), (38, .slice A_19 b_18.length c_20)]) (H' := []) (ps := []) (by kernel_rfl) trivial ?_
      refine GoO.retag (t := 41) (u := 0) (j := 0) (hk := []) (bk := []) rfl rfl rfl rfl rfl rfl (by kernel_rfl) (by kernel_rfl) ?_
      refine GoO.own2rd (j := 0) rfl ?_
      refine OpTo.go (GoO.call rfl (by kernel_rfl) (by kernel_rfl) (stuff_Encode_ok n b_18 A_19 c_20) [[0]] [(43, 1)] [] [(0, 0)] (hks := []) (bks := [0]) (by kernel_rfl) (by kernel_rfl) (by kernel_rfl) (.inl rfl) rfl rfl (by kernel_rfl) (by kernel_rfl) _ (fun _ _ => rfl) _ _ (fun _ _ => rfl) (fun _ _ => rfl) (fun _ _ => by kernel_rfl) (fun _ _ => by kernel_rfl) (fun r_28 x_37 => ?_))
      obtain ⟨A_29, c_30⟩ := x_37
      refine GoO.shape (env' := [(0, .int .i64 ((wi64 ((n_1.tmod 1100) + 1100)).tmod 1100)), (2, .int .i64 ((wi64 ((zeros_3.tmod 5) + 5)).tmod 5)), (38, .slice A_19 b_18.length c_20), (39, .slice A_29 r_28.length c_30)]) (H' := []) (B' := [Ow 43 Kd.u8 A_29 c_30 r_28, Rd 0 Kd.u8 A_19 c_20 b_18]) (ks := [0, 2, 38, 39]) (by kernel_rfl) (by kernel_rfl) (by kernel_rfl) ?_
      refine GoO.exec (is := [2]) (hs := [.p]) (rest := []) (ks := [0, 2, 8]) (env' := [(0, .int .i64 ((wi64 ((n_1.tmod 1100) + 1100)).tmod 1100)), (2, .int .i64 ((wi64 ((zeros_3.tmod 5) + 5)).tmod 5)), (8, .slice A_29 r_28.length c_30)]) (H' := []) (ps := []) (by kernel_rfl) trivial ?_
      refine GoO.regionEnd ?_
      refine GoO.seq' c10_52e ?_
      refine GoO.region' (is := [0, 1, 2]) c10_53e (by kernel_rfl) ?_
      refine GoO.exec (is := [0, 1, 2]) (hs := [.p, .p, .p]) (rest := []) (ks := [0, 2, 8, 9]) (env' := [(0, .int .i64 ((wi64 ((n_1.tmod 1100) + 1100)).tmod 1100)), (2, .int .i64 ((wi64 ((zeros_3.tmod 5) + 5)).tmod 5)), (8, .slice A_29 r_28.length c_30), (9, .int .i64 (wi64 (((wi64 ((n_1.tmod 1100) + 1100)).tmod 1100).tdiv 254)))]) (H' := []) (ps := [(254 : Int) ≠ 0]) (by kernel_rfl) (And.intro (by decide) trivial) ?_
      refine GoO.regionEnd ?_
      refine GoO.seq' c10_54e ?_
      refine GoO.seq' c10_55e ?_
      refine GoO.region' (is := [0, 1]) c10_56e (by kernel_rfl) ?_
      refine GoO.exec (is := [0, 1]) (hs := [.p, .p]) (rest := []) (ks := [0, 2, 8, 9, 42, 43]) (env' := [(0, .int .i64 ((wi64 ((n_1.tmod 1100) + 1100)).tmod 1100)), (2, .int .i64 ((wi64 ((zeros_3.tmod 5) + 5)).tmod 5)), (8, .slice A_29 r_28.length c_30), (9, .int .i64 (wi64 (((wi64 ((n_1.tmod 1100) + 1100)).tmod 1100).tdiv 254))), (42, .int .i64 (wi64 (((wi64 ((n_1.tmod 1100) + 1100)).tmod 1100).tdiv 254))), (43, .int .i64 0)]) (H' := []) (ps := []) (by kernel_rfl) trivial ?_
      refine GoO.regionEnd ?_
      refine GoO.block' c10_57e ?_
      refine GoO.loop' c10_58e ?_
      exact GoO.sub (ks := [0, 2, 8, 9, 42, 43]) (hk := []) (bk := [0]) (by kernel_rfl) (by kernel_rfl) (by kernel_rfl) (tontinelaw01_StuffRuns_l2_ok n n_1 zeros_3 r_28 A_29 c_30 w0 S0 n 0)
theorem tontinelaw01_StuffRuns_l0_ok (n : Nat) (n_1 : Int) (zeros_3 : Int) (c_7 : UInt8) (w0 : World) (S0 : Fam) :
    ∀ (k : Nat) (b_8 : (List UInt8)) (x_11 : Int) (A_9 : Option Addr) (c_10 : Nat), GoO (tontinelaw01_StuffRuns.cx w0 S0) [(0, .int .i64 ((wi64 ((n_1.tmod 1100) + 1100)).tmod 1100)), (1, .int .u8 ((c_7).toNat : Int)), (2, .int .i64 ((wi64 ((zeros_3.tmod 5) + 5)).tmod 5)), (7, .slice A_9 b_8.length c_10), (23, .int .i64 ((wi64 ((n_1.tmod 1100) + 1100)).tmod 1100)), (24, .int .i64 x_11)] [] [Ow 41 Kd.u8 A_9 c_10 b_8] [.code c10_25, .inLoop c10_25, .inBlock 0, .code c10_35] (tontinelaw01_StuffRuns.l0 n n_1 zeros_3 c_7 k b_8 x_11) := by
  intro k
  induction k with
  | zero => intros; rw [tontinelaw01_StuffRuns.l0.eq_1]; exact GoO.stop
  | succ k ih0 =>
    intro b_8 x_11 A_9 c_10
    rw [tontinelaw01_StuffRuns.l0.eq_2]
    refine GoO.seq' c10_25e ?_
    refine GoO.region' (is := [0]) c10_26e (by kernel_rfl) ?_
    refine GoO.exec (is := [0]) (hs := [.p]) (rest := []) (ks := [0, 1, 2, 7, 23, 24, 25]) (env' := [(0, .int .i64 ((wi64 ((n_1.tmod 1100) + 1100)).tmod 1100)), (1, .int .u8 ((c_7).toNat : Int)), (2, .int .i64 ((wi64 ((zeros_3.tmod 5) + 5)).tmod 5)), (7, .slice A_9 b_8.length c_10), (23, .int .i64 ((wi64 ((n_1.tmod 1100) + 1100)).tmod 1100)), (24, .int .i64 x_11), (25, .bool (decide (x_11 < ((wi64 ((n_1.tmod 1100) + 1100)).tmod 1100))))]) (H' := []) (ps := []) (by kernel_rfl) trivial ?_
    refine GoO.regionEnd ?_
    refine GoO.seq' c10_27e ?_
    refine GoO.ite' c10_28e (by kernel_rfl) (fun h12 => ?_) (fun h12 => ?_)
    · refine GoO.skip' c10_29e ?_
      refine GoO.seq' c10_31e ?_
      refine GoO.block' c10_32e ?_
      refine GoO.region' (is := [0, 1, 2, 3, 4]) c10_33e (by kernel_rfl) ?_
      refine GoO.exec (is := [0, 1]) (hs := [.p, .p]) (rest := [2, 3, 4]) (ks := [0, 1, 2, 23, 24, 26, 27]) (env' := [(0, .int .i64 ((wi64 ((n_1.tmod 1100) + 1100)).tmod 1100)), (1, .int .u8 ((c_7).toNat : Int)), (2, .int .i64 ((wi64 ((zeros_3.tmod 5) + 5)).tmod 5)), (23, .int .i64 ((wi64 ((n_1.tmod 1100) + 1100)).tmod 1100)), (24, .int .i64 x_11), (26, .slice A_9 b_8.length c_10), (27, .int .u8 ((c_7).toNat : Int))]) (H' := []) (ps := []) (by kernel_rfl) trivial ?_
      refine OpTo.go (GoO.lit (e := 5) (K := Kd.u8) rfl (by kernel_rfl) (by kernel_rfl) (cs := [.int .u8 ((c_7).toNat : Int)]) (by kernel_rfl) [c_7] (by kernel_rfl) (by kernel_rfl) (fun w S hB => ⟨[.int .u8 ((c_7).toNat : Int)], _, rfl, rfl, rfl⟩) 40 _ (fun _ _ => rfl) (fun A_13 c_14 => ?_))
      refine GoO.guard (fun h15 => ?_)
      refine OpTo.go (GoO.appW (e := 5) (K := Kd.u8) (A := A_9) (c := c_10) (tg := 41) (bytes := 1) (zs := [.int .u8 0]) (xs := b_8) (ys := [c_7]) (xv := .slice A_13 [c_7].length c_14) (j := 1) (bk := [0]) rfl (by kernel_rfl) (by kernel_rfl) (by kernel_rfl) (by kernel_rfl) rfl (by kernel_rfl) rfl (fun w S hB => SrcIs.row (Reads.own w S (hB _ (List.mem_of_getElem? (i := 0) rfl)))) h15 rfl rfl rfl rfl _ (fun _ _ => rfl) (fun A_16 c_17 => ?_))
      refine GoO.exec (is := [4]) (hs := [.p]) (rest := []) (ks := [0, 1, 2, 7, 23, 24]) (env' := [(0, .int .i64 ((wi64 ((n_1.tmod 1100) + 1100)).tmod 1100)), (1, .int .u8 ((c_7).toNat : Int)), (2, .int .i64 ((wi64 ((zeros_3.tmod 5) + 5)).tmod 5)), (7, .slice A_16 (b_8 ++ [c_7]).length c_17), (23, .int .i64 ((wi64 ((n_1.tmod 1100) + 1100)).tmod 1100)), (24, .int .i64 x_11)]) (H' := []) (ps := []) (by kernel_rfl) trivial ?_
      refine GoO.regionEnd ?_
      refine GoO.inBlock ?_
      refine GoO.region' (is := [0, 1]) c10_34e (by kernel_rfl) ?_
      refine GoO.exec (is := [0, 1]) (hs := [.p, .p]) (rest := []) (ks := [0, 1, 2, 7, 23, 24]) (env' := [(0, .int .i64 ((wi64 ((n_1.tmod 1100) + 1100)).tmod 1100)), (1, .int .u8 ((c_7).toNat : Int)), (2, .int .i64 ((wi64 ((zeros_3.tmod 5) + 5)).tmod 5)), (7, .slice A_16 (b_8 ++ [c_7]).length c_17), (23, .int .i64 ((wi64 ((n_1.tmod 1100) + 1100)).tmod 1100)), (24, .int .i64 (wi64 (x_11 + 1)))]) (H' := []) (ps := []) (by kernel_rfl) trivial ?_
      refine GoO.regionEnd ?_
      refine GoO.inLoop ?_
      exact GoO.sub (ks := [0, 1, 2, 7, 23, 24]) (hk := []) (bk := [0]) (by kernel_rfl) (by kernel_rfl) (by kernel_rfl) (ih0 (b_8 ++ [c_7]) (wi64 (x_11 + 1)) A_16 c_17)
    · refine GoO.exit' c10_30e rfl ?_
      refine GoO.seq' c10_35e ?_
      refine GoO.seq' c10_36e ?_
      refine GoO.region' (is := [0, 1]) c10_37e (by kernel_rfl) ?_
      refine GoO.exec (is := [0, 1]) (hs := [.p, .p]) (rest := []) (ks := [0, 2, 7, 31, 32]) (env' := [(0, .int .i64 ((wi64 ((n_1.tmod 1100) + 1100)).tmod 1100)), (2, .int .i64 ((wi64 ((zeros_3.tmod 5) + 5)).tmod 5)), (7, .slice A_9 b_8.length c_10), (31, .int .i64 ((wi64 ((zeros_3.tmod 5) + 5)).tmod 5)), (32, .int .i64 0)]) (H' := []) (ps := []) (by kernel_rfl) trivial ?_
      refine GoO.regionEnd ?_
      refine GoO.block' c10_38e ?_
      refine GoO.loop' c10_39e ?_
      exact GoO.sub (ks := [0, 2, 7, 31, 32]) (hk := []) (bk := [0]) (by kernel_rfl) (by kernel_rfl) (by kernel_rfl) (tontinelaw01_StuffRuns_l1_ok n n_1 zeros_3 w0 S0 n b_8 0 A_9 c_10)
theorem tontinelaw01_StuffRuns_j0_ok (n : Nat) (n_1 : Int) (zeros_3 : Int) (w0 : World) (S0 : Fam) (c_7 : UInt8) :
    GoO (tontinelaw01_StuffRuns.cx w0 S0) [(0, .int .i64 ((wi64 ((n_1.tmod 1100) + 1100)).tmod 1100)), (1, .int .u8 ((c_7).toNat : Int)), (2, .int .i64 ((wi64 ((zeros_3.tmod 5) + 5)).tmod 5))] [] [] [.code c10_18] (tontinelaw01_StuffRuns.j0 n n_1 zeros_3 c_7) := by
  unfold tontinelaw01_StuffRuns.j0
  refine GoO.seq' c10_18e ?_
  refine GoO.region' (is := [0]) c10_19e (by kernel_rfl) ?_
  refine GoO.exec (is := [0]) (hs := [.p]) (rest := []) (ks := [0, 1, 2, 7]) (env' := [(0, .int .i64 ((wi64 ((n_1.tmod 1100) + 1100)).tmod 1100)), (1, .int .u8 ((c_7).toNat : Int)), (2, .int .i64 ((wi64 ((zeros_3.tmod 5) + 5)).tmod 5)), (7, .slice none ([] : List UInt8).length 0)]) (H' := []) (ps := []) (by kernel_rfl) trivial ?_
  refine GoO.regionEnd ?_
  refine GoO.seq' c10_20e ?_
  refine GoO.seq' c10_21e ?_
  refine GoO.region' (is := [0, 1]) c10_22e (by kernel_rfl) ?_
  refine GoO.exec (is := [0, 1]) (hs := [.p, .p]) (rest := []) (ks := [0, 1, 2, 7, 23, 24]) (env' := [(0, .int .i64 ((wi64 ((n_1.tmod 1100) + 1100)).tmod 1100)), (1, .int .u8 ((c_7).toNat : Int)), (2, .int .i64 ((wi64 ((zeros_3.tmod 5) + 5)).tmod 5)), (7, .slice none ([] : List UInt8).length 0), (23, .int .i64 ((wi64 ((n_1.tmod 1100) + 1100)).tmod 1100)), (24, .int .i64 0)]) (H' := []) (ps := []) (by kernel_rfl) trivial ?_
  refine GoO.regionEnd ?_
  refine GoO.block' c10_23e ?_
  refine GoO.loop' c10_24e ?_
  refine GoO.nilOwn Kd.u8 41 ?_
  exact GoO.sub (ks := [0, 1, 2, 7, 23, 24]) (hk := []) (bk := [0]) (by kernel_rfl) (by kernel_rfl) (by kernel_rfl) (tontinelaw01_StuffRuns_l0_ok n n_1 zeros_3 c_7 w0 S0 n ([] : List UInt8) 0 none 0)
theorem tontinelaw01_StuffRuns_ok (n : Nat) (n_1 : Int) (c_2 : UInt8) (zeros_3 : Int) :
    Meets Try.prog 10 [.int .i64 n_1, .int .u8 ((c_2).toNat : Int), .int .i64 zeros_3] 0 [] [] [] (tontinelaw01_StuffRuns.f n n_1 c_2 zeros_3) (tontinelaw01_StuffRuns.R) := by
  refine Meets.of (c := c10_0) (n := 74) Try.func10 (by kernel_rfl) (by kernel_rfl) (by kernel_rfl) fun w0 S0 => ?_
  unfold tontinelaw01_StuffRuns.f
  show GoO (tontinelaw01_StuffRuns.cx w0 S0) [(0, .int .i64 n_1), (1, .int .u8 ((c_2).toNat : Int)), (2, .int .i64 zeros_3)] [] [] [.code c10_0] _
  refine GoO.seq' c10_0e ?_
  refine GoO.region' (is := [0]) c10_1e (by kernel_rfl) ?_
  refine GoO.exec (is := [0]) (hs := [.p]) (rest := []) (ks := [0, 1, 2]) (env' := [(0, .int .i64 n_1), (1, .int .u8 ((c_2).toNat : Int)), (2, .int .i64 zeros_3)]) (H' := []) (ps := []) (by kernel_rfl) trivial ?_
  refine GoO.regionEnd ?_
  refine GoO.seq' c10_2e ?_
  refine GoO.seq' c10_3e ?_
  refine GoO.region' (is := [0, 1]) c10_4e (by kernel_rfl) ?_
  refine OpTo.go (GoO.call rfl (by kernel_rfl) (by kernel_rfl) (tontinelaw01_begun_ok n) [[0]] [] [] [] (hks := []) (bks := []) (by kernel_rfl) (by kernel_rfl) (by kernel_rfl) (.inl rfl) rfl rfl (by kernel_rfl) (by kernel_rfl) _ (fun _ _ => rfl) _ _ (fun _ _ => rfl) (fun _ _ => rfl) (fun _ _ => by kernel_rfl) (fun _ _ => by kernel_rfl) (fun r_4 x_38 => ?_))
  refine GoO.shape (env' := [(0, .int .i64 n_1), (1, .int .u8 ((c_2).toNat : Int)), (2, .int .i64 zeros_3), (11, .bool r_4)]) (H' := []) (B' := []) (ks := [0, 1, 2, 11]) (by kernel_rfl) (by kernel_rfl) (by kernel_rfl) ?_
  refine GoO.exec (is := [1]) (hs := [.p]) (rest := []) (ks := [0, 1, 2, 12]) (env' := [(0, .int .i64 n_1), (1, .int .u8 ((c_2).toNat : Int)), (2, .int .i64 zeros_3), (12, .bool (!r_4))]) (H' := []) (ps := []) (by kernel_rfl) trivial ?_
  refine GoO.regionEnd ?_
  refine GoO.ite' c10_5e (by kernel_rfl) (fun h5 => ?_) (fun h5 => ?_)
  · refine GoO.seq' c10_6e ?_
    refine GoO.region' (is := [0]) c10_7e (by kernel_rfl) ?_
    refine GoO.exec (is := [0]) (hs := [.p]) (rest := []) (ks := [6]) (env' := [(6, .bool false)]) (H' := []) (ps := []) (by kernel_rfl) trivial ?_
    refine GoO.regionEnd ?_
    exact GoO.ret' (h := c10_8e) (hs := []) (ps := []) (hk := []) (bk := []) Try.func10 () (by kernel_rfl) trivial (by kernel_rfl) (by kernel_rfl)
  · refine GoO.skip' c10_9e ?_
    refine GoO.seq' c10_10e ?_
    refine GoO.region' (is := [0, 1, 2, 3, 4, 5, 6, 7, 8, 9]) c10_11e (by kernel_rfl) ?_
    refine GoO.exec (is := [0, 1, 2, 3, 4, 5, 6, 7, 8, 9]) (hs := [.p, .p, .p, .p, .p, .p, .p, .p, .p, .p]) (rest := []) (ks := [0, 1, 2]) (env' := [(0, .int .i64 ((wi64 ((n_1.tmod 1100) + 1100)).tmod 1100)), (1, .int .u8 ((c_2).toNat : Int)), (2, .int .i64 ((wi64 ((zeros_3.tmod 5) + 5)).tmod 5))]) (H' := []) (ps := [(1100 : Int) ≠ 0, (1100 : Int) ≠ 0, (5 : Int) ≠ 0, (5 : Int) ≠ 0]) (by kernel_rfl) (And.intro (by decide) (And.intro (by decide) (And.intro (by decide) (And.intro (by decide) trivial)))) ?_
    refine GoO.regionEnd ?_
    refine GoO.seq' c10_12e ?_
    refine GoO.seq' c10_13e ?_
    refine GoO.region' (is := [0, 1]) c10_14e (by kernel_rfl) ?_
    refine GoO.exec (is := [0, 1]) (hs := [.p, .p]) (rest := []) (ks := [0, 1, 2, 22]) (env' := [(0, .int .i64 ((wi64 ((n_1.tmod 1100) + 1100)).tmod 1100)), (1, .int .u8 ((c_2).toNat : Int)), (2, .int .i64 ((wi64 ((zeros_3.tmod 5) + 5)).tmod 5)), (22, .bool (((c_2).toNat : Int) == 0))]) (H' := []) (ps := []) (by kernel_rfl) trivial ?_
    refine GoO.regionEnd ?_
    refine GoO.ite' c10_15e (by kernel_rfl) (fun h6 => ?_) (fun h6 => ?_)
    · refine GoO.region' (is := [0]) c10_16e (by kernel_rfl) ?_
      refine GoO.exec (is := [0]) (hs := [.p]) (rest := []) (ks := [0, 1, 2]) (env' := [(0, .int .i64 ((wi64 ((n_1.tmod 1100) + 1100)).tmod 1100)), (1, .int .u8 1), (2, .int .i64 ((wi64 ((zeros_3.tmod 5) + 5)).tmod 5))]) (H' := []) (ps := []) (by kernel_rfl) trivial ?_
      refine GoO.regionEnd ?_
      exact GoO.sub (ks := [0, 1, 2]) (hk := []) (bk := []) (by kernel_rfl) (by kernel_rfl) (by kernel_rfl) (tontinelaw01_StuffRuns_j0_ok n n_1 zeros_3 w0 S0 (1 : UInt8))
    · refine GoO.skip' c10_17e ?_
      exact GoO.sub (ks := [0, 1, 2]) (hk := []) (bk := []) (by kernel_rfl) (by kernel_rfl) (by kernel_rfl) (tontinelaw01_StuffRuns_j0_ok n n_1 zeros_3 w0 S0 c_2)
end Go.GL
