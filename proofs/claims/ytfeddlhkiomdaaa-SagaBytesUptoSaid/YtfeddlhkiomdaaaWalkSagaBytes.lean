import Derived.Test.YtfeddlhkiomdaaaWalkSagaBytesP2
import Derived.Test.YtfeddlhkiomdaaaKindsT1
import Derived.Test.YtfeddlhkiomdaaaProg
set_option linter.unusedVariables false
set_option linter.unusedSimpArgs false
set_option maxRecDepth 100000
namespace Go.GL
open Go Go.Proofs
noncomputable def c14_7 : Code := cdL c14_6
noncomputable def c14_8 : Code := cdR c14_6
noncomputable def c14_9 : Code := cdR c14_5
noncomputable def c14_10 : Code := cdR c14_2
noncomputable def c14_11 : Code := cdL c14_10
noncomputable def c14_12 : Code := cdL c14_11
noncomputable def c14_13 : Code := cdR c14_11
noncomputable def c14_14 : Code := cdL c14_13
noncomputable def c14_15 : Code := cdL c14_14
noncomputable def c14_16 : Code := cdR c14_14
noncomputable def c14_17 : Code := cdR c14_13
noncomputable def c14_18 : Code := cdR c14_10
noncomputable def c14_19 : Code := cdL c14_18
noncomputable def c14_20 : Code := cdR c14_18
noncomputable def c14_21 : Code := cdL c14_20
noncomputable def c14_22 : Code := cdR c14_20
noncomputable def c14_23 : Code := cdL c14_22
noncomputable def c14_24 : Code := cdL c14_23
noncomputable def c14_25 : Code := cdR c14_23
noncomputable def c14_26 : Code := cdL c14_25
noncomputable def c14_27 : Code := cdL c14_26
noncomputable def c14_28 : Code := cdR c14_26
noncomputable def c14_29 : Code := cdR c14_25
noncomputable def c14_30 : Code := cdR c14_22
noncomputable def c14_31 : Code := cdL c14_30
noncomputable def c14_32 : Code := cdL c14_31
noncomputable def c14_33 : Code := cdR c14_31
noncomputable def c14_34 : Code := cdL c14_33
noncomputable def c14_35 : Code := cdL c14_34
noncomputable def c14_36 : Code := cdL c14_35
noncomputable def c14_37 : Code := cdR c14_35
noncomputable def c14_38 : Code := cdL c14_37
noncomputable def c14_39 : Code := cdL c14_38
noncomputable def c14_40 : Code := cdR c14_38
noncomputable def c14_41 : Code := cdR c14_37
noncomputable def c14_42 : Code := cdL c14_41
noncomputable def c14_43 : Code := cdL c14_42
noncomputable def c14_44 : Code := cdL c14_43
noncomputable def c14_45 : Code := cdR c14_43
noncomputable def c14_46 : Code := cdL c14_45
noncomputable def c14_47 : Code := cdR c14_45
noncomputable def c14_48 : Code := cdL c14_47
noncomputable def c14_49 : Code := cdR c14_47
noncomputable def c14_50 : Code := cdL c14_49
noncomputable def c14_51 : Code := cdR c14_49
noncomputable def c14_52 : Code := cdL c14_51
noncomputable def c14_53 : Code := cdR c14_51
noncomputable def c14_54 : Code := cdL c14_53
noncomputable def c14_55 : Code := cdR c14_53
noncomputable def c14_56 : Code := cdL c14_55
noncomputable def c14_57 : Code := cdL c14_56
noncomputable def c14_58 : Code := cdR c14_56
noncomputable def c14_59 : Code := cdR c14_55
noncomputable def c14_60 : Code := cdR c14_41
noncomputable def c14_61 : Code := cdR c14_30
noncomputable def c14_62 : Code := cdL c14_61
noncomputable def c14_63 : Code := cdR c14_61
noncomputable def c14_64 : Code := cdL c14_63
noncomputable def c14_65 : Code := cdR c14_63
noncomputable def c14_66 : Code := cdL c14_65
noncomputable def c14_67 : Code := cdR c14_65
noncomputable def r14_1 : Array Oper := cdO c14_1
noncomputable def r14_4 : Array Oper := cdO c14_4
noncomputable def r14_7 : Array Oper := cdO c14_7
noncomputable def r14_12 : Array Oper := cdO c14_12
noncomputable def r14_15 : Array Oper := cdO c14_15
noncomputable def r14_19 : Array Oper := cdO c14_19
noncomputable def r14_21 : Array Oper := cdO c14_21
noncomputable def r14_24 : Array Oper := cdO c14_24
noncomputable def r14_27 : Array Oper := cdO c14_27
noncomputable def r14_32 : Array Oper := cdO c14_32
noncomputable def r14_36 : Array Oper := cdO c14_36
noncomputable def r14_44 : Array Oper := cdO c14_44
noncomputable def r14_46 : Array Oper := cdO c14_46
noncomputable def r14_48 : Array Oper := cdO c14_48
noncomputable def r14_50 : Array Oper := cdO c14_50
noncomputable def r14_52 : Array Oper := cdO c14_52
noncomputable def r14_54 : Array Oper := cdO c14_54
noncomputable def r14_57 : Array Oper := cdO c14_57
noncomputable def r14_60 : Array Oper := cdO c14_60
noncomputable def r14_62 : Array Oper := cdO c14_62
noncomputable def r14_64 : Array Oper := cdO c14_64
noncomputable def r14_66 : Array Oper := cdO c14_66
theorem c14_0e : c14_0 = .seq c14_1 c14_2 := by kernel_rfl
theorem c14_1e : c14_1 = .region 0 r14_1 false := by kernel_rfl
theorem c14_2e : c14_2 = .seq c14_3 c14_10 := by kernel_rfl
theorem c14_3e : c14_3 = .seq c14_4 c14_5 := by kernel_rfl
theorem c14_4e : c14_4 = .region 1 r14_4 false := by kernel_rfl
theorem c14_5e : c14_5 = .cond (cdC c14_5) c14_6 c14_9 := by kernel_rfl
theorem c14_6e : c14_6 = .seq c14_7 c14_8 := by kernel_rfl
theorem c14_7e : c14_7 = .region 2 r14_7 false := by kernel_rfl
theorem c14_8e : c14_8 = .ret := by kernel_rfl
theorem c14_9e : c14_9 = .skip := by kernel_rfl
theorem c14_10e : c14_10 = .seq c14_11 c14_18 := by kernel_rfl
theorem c14_11e : c14_11 = .seq c14_12 c14_13 := by kernel_rfl
theorem c14_12e : c14_12 = .region 3 r14_12 false := by kernel_rfl
theorem c14_13e : c14_13 = .cond (cdC c14_13) c14_14 c14_17 := by kernel_rfl
theorem c14_14e : c14_14 = .seq c14_15 c14_16 := by kernel_rfl
theorem c14_15e : c14_15 = .region 4 r14_15 false := by kernel_rfl
theorem c14_16e : c14_16 = .ret := by kernel_rfl
theorem c14_17e : c14_17 = .skip := by kernel_rfl
theorem c14_18e : c14_18 = .seq c14_19 c14_20 := by kernel_rfl
theorem c14_19e : c14_19 = .region 5 r14_19 false := by kernel_rfl
theorem c14_20e : c14_20 = .seq c14_21 c14_22 := by kernel_rfl
theorem c14_21e : c14_21 = .region 6 r14_21 false := by kernel_rfl
theorem c14_22e : c14_22 = .seq c14_23 c14_30 := by kernel_rfl
theorem c14_23e : c14_23 = .seq c14_24 c14_25 := by kernel_rfl
theorem c14_24e : c14_24 = .region 7 r14_24 true := by kernel_rfl
theorem c14_25e : c14_25 = .cond (cdC c14_25) c14_26 c14_29 := by kernel_rfl
theorem c14_26e : c14_26 = .seq c14_27 c14_28 := by kernel_rfl
theorem c14_27e : c14_27 = .region 8 r14_27 false := by kernel_rfl
theorem c14_28e : c14_28 = .ret := by kernel_rfl
theorem c14_29e : c14_29 = .skip := by kernel_rfl
theorem c14_30e : c14_30 = .seq c14_31 c14_61 := by kernel_rfl
theorem c14_31e : c14_31 = .seq c14_32 c14_33 := by kernel_rfl
theorem c14_32e : c14_32 = .region 9 r14_32 false := by kernel_rfl
theorem c14_33e : c14_33 = .block 0 c14_34 := by kernel_rfl
theorem c14_34e : c14_34 = .loop c14_35 := by kernel_rfl
theorem c14_35e : c14_35 = .seq c14_36 c14_37 := by kernel_rfl
theorem c14_36e : c14_36 = .region 10 r14_36 false := by kernel_rfl
theorem c14_37e : c14_37 = .seq c14_38 c14_41 := by kernel_rfl
theorem c14_38e : c14_38 = .cond (cdC c14_38) c14_39 c14_40 := by kernel_rfl
theorem c14_39e : c14_39 = .skip := by kernel_rfl
theorem c14_40e : c14_40 = .exit 0 := by kernel_rfl
theorem c14_41e : c14_41 = .seq c14_42 c14_60 := by kernel_rfl
theorem c14_42e : c14_42 = .block 1 c14_43 := by kernel_rfl
theorem c14_43e : c14_43 = .seq c14_44 c14_45 := by kernel_rfl
theorem c14_44e : c14_44 = .region 11 r14_44 false := by kernel_rfl
theorem c14_45e : c14_45 = .seq c14_46 c14_47 := by kernel_rfl
theorem c14_46e : c14_46 = .region 12 r14_46 false := by kernel_rfl
theorem c14_47e : c14_47 = .seq c14_48 c14_49 := by kernel_rfl
theorem c14_48e : c14_48 = .region 13 r14_48 false := by kernel_rfl
theorem c14_49e : c14_49 = .seq c14_50 c14_51 := by kernel_rfl
theorem c14_50e : c14_50 = .region 14 r14_50 false := by kernel_rfl
theorem c14_51e : c14_51 = .seq c14_52 c14_53 := by kernel_rfl
theorem c14_52e : c14_52 = .region 15 r14_52 false := by kernel_rfl
theorem c14_53e : c14_53 = .seq c14_54 c14_55 := by kernel_rfl
theorem c14_54e : c14_54 = .region 16 r14_54 false := by kernel_rfl
theorem c14_55e : c14_55 = .cond (cdC c14_55) c14_56 c14_59 := by kernel_rfl
theorem c14_56e : c14_56 = .seq c14_57 c14_58 := by kernel_rfl
theorem c14_57e : c14_57 = .region 17 r14_57 false := by kernel_rfl
theorem c14_58e : c14_58 = .ret := by kernel_rfl
theorem c14_59e : c14_59 = .skip := by kernel_rfl
theorem c14_60e : c14_60 = .region 18 r14_60 false := by kernel_rfl
theorem c14_61e : c14_61 = .seq c14_62 c14_63 := by kernel_rfl
theorem c14_62e : c14_62 = .region 19 r14_62 false := by kernel_rfl
theorem c14_63e : c14_63 = .seq c14_64 c14_65 := by kernel_rfl
theorem c14_64e : c14_64 = .region 20 r14_64 false := by kernel_rfl
theorem c14_65e : c14_65 = .seq c14_66 c14_67 := by kernel_rfl
theorem c14_66e : c14_66 = .region 21 r14_66 false := by kernel_rfl
theorem c14_67e : c14_67 = .ret := by kernel_rfl
noncomputable def tontinelaw14_SagaBytes.R (A_2 : Option Addr) (c_3 : Nat) : Pst Bool where
  ε := Unit
  v := fun r x => .bool r
  H := fun r x => []
  B := fun r x => []
noncomputable def tontinelaw14_SagaBytes.cx (A_2 : Option Addr) (c_3 : Nat) (w0 : World) (S0 : Fam) : Cx Bool := ⟨Try.prog, 14, Try.f14, 105, w0, S0, [], 0, tontinelaw14_SagaBytes.R A_2 c_3⟩
theorem tontinelaw14_SagaBytes_j0_ok (n : Nat) (L0 : Int → Option Bool) (s_1 : T_api_Saga) (b_4 : (List UInt8)) (r_10 : T_pack_Writer) (r_16 : (List UInt8)) (x_19 : Int) (A_2 : Option Addr) (c_3 : Nat) (b_5 : Nat) (b_9 : Nat) (A_11 : Option Addr) (c_12 : Nat) (A_17 : Option Addr) (c_18 : Nat) (w0 : World) (S0 : Fam) (ih0 : ∀ (x_19 : Int), GoO (tontinelaw14_SagaBytes.cx A_2 c_3 w0 S0) [(2, .pointer (some ⟨b_5, 0, none⟩)), (5, .pointer (some ⟨b_9, 0, none⟩)), (37, .slice A_17 [b_4, r_16].length c_18), (38, .int .i64 ([b_4, r_16].length : Int)), (39, .int .i64 x_19)] [⟨40, b_5, [.slice A_2 s_1.Steps.length c_3, .int .i64 s_1.State, .int .i64 s_1.Cursor, .int .i64 s_1.Failed]⟩, ⟨41, b_9, [.slice A_11 r_10.b.length c_12]⟩] [Rd 0 kT_api_Step A_2 c_3 s_1.Steps, Ow 42 Kd.u8 A_11 c_12 r_10.b, Ow 43 Kd.str A_17 c_18 [b_4, r_16]] [.code c14_35, .inLoop c14_35, .inBlock 0, .code c14_61] (L0 x_19)) (b_37 : Bool) :
    GoO (tontinelaw14_SagaBytes.cx A_2 c_3 w0 S0) [(2, .pointer (some ⟨b_5, 0, none⟩)), (5, .pointer (some ⟨b_9, 0, none⟩)), (37, .slice A_17 [b_4, r_16].length c_18), (38, .int .i64 ([b_4, r_16].length : Int)), (39, .int .i64 x_19), (80, .bool b_37)] [⟨40, b_5, [.slice A_2 s_1.Steps.length c_3, .int .i64 s_1.State, .int .i64 s_1.Cursor, .int .i64 s_1.Failed]⟩, ⟨41, b_9, [.slice A_11 r_10.b.length c_12]⟩] [Rd 0 kT_api_Step A_2 c_3 s_1.Steps, Ow 42 Kd.u8 A_11 c_12 r_10.b, Ow 43 Kd.str A_17 c_18 [b_4, r_16]] [.code c14_55, .inBlock 1, .code c14_60, .inLoop c14_35, .inBlock 0, .code c14_61] (tontinelaw14_SagaBytes.j0 n L0 x_19 b_37) := by
  unfold tontinelaw14_SagaBytes.j0
  refine GoO.ite' c14_55e (by kernel_rfl) (fun h38 => ?_) (fun h38 => ?_)
  · refine GoO.seq' c14_56e ?_
    refine GoO.region' (is := [0]) c14_57e (by kernel_rfl) ?_
    refine GoO.exec (is := [0]) (hs := [.p]) (rest := []) (ks := [4]) (env' := [(4, .bool false)]) (H' := [⟨40, b_5, [.slice A_2 s_1.Steps.length c_3, .int .i64 s_1.State, .int .i64 s_1.Cursor, .int .i64 s_1.Failed]⟩, ⟨41, b_9, [.slice A_11 r_10.b.length c_12]⟩]) (ps := []) (by kernel_rfl) trivial ?_
    refine GoO.regionEnd ?_
    exact GoO.ret' (h := c14_58e) (hs := []) (ps := []) (hk := []) (bk := []) Try.func14 () (by kernel_rfl) trivial (by kernel_rfl) (by kernel_rfl)
  · refine GoO.skip' c14_59e ?_
    refine GoO.inBlock ?_
    refine GoO.region' (is := [0, 1]) c14_60e (by kernel_rfl) ?_
    refine GoO.exec (is := [0, 1]) (hs := [.p, .p]) (rest := []) (ks := [2, 5, 37, 38, 39]) (env' := [(2, .pointer (some ⟨b_5, 0, none⟩)), (5, .pointer (some ⟨b_9, 0, none⟩)), (37, .slice A_17 [b_4, r_16].length c_18), (38, .int .i64 ([b_4, r_16].length : Int)), (39, .int .i64 (wi64 (x_19 + 1)))]) (H' := [⟨40, b_5, [.slice A_2 s_1.Steps.length c_3, .int .i64 s_1.State, .int .i64 s_1.Cursor, .int .i64 s_1.Failed]⟩, ⟨41, b_9, [.slice A_11 r_10.b.length c_12]⟩]) (ps := []) (by kernel_rfl) trivial ?_
    refine GoO.regionEnd ?_
    refine GoO.inLoop ?_
    exact GoO.sub (ks := [2, 5, 37, 38, 39]) (hk := [0, 1]) (bk := [0, 1, 2]) (by kernel_rfl) (by kernel_rfl) (by kernel_rfl) (ih0 (wi64 (x_19 + 1)))
theorem tontinelaw14_SagaBytes_l0_ok (n : Nat) (s_1 : T_api_Saga) (b_4 : (List UInt8)) (r_10 : T_pack_Writer) (r_16 : (List UInt8)) (A_2 : Option Addr) (c_3 : Nat) (b_5 : Nat) (b_9 : Nat) (A_11 : Option Addr) (c_12 : Nat) (A_17 : Option Addr) (c_18 : Nat) (w0 : World) (S0 : Fam) :
    ∀ (k : Nat) (x_19 : Int), GoO (tontinelaw14_SagaBytes.cx A_2 c_3 w0 S0) [(2, .pointer (some ⟨b_5, 0, none⟩)), (5, .pointer (some ⟨b_9, 0, none⟩)), (37, .slice A_17 [b_4, r_16].length c_18), (38, .int .i64 ([b_4, r_16].length : Int)), (39, .int .i64 x_19)] [⟨40, b_5, [.slice A_2 s_1.Steps.length c_3, .int .i64 s_1.State, .int .i64 s_1.Cursor, .int .i64 s_1.Failed]⟩, ⟨41, b_9, [.slice A_11 r_10.b.length c_12]⟩] [Rd 0 kT_api_Step A_2 c_3 s_1.Steps, Ow 42 Kd.u8 A_11 c_12 r_10.b, Ow 43 Kd.str A_17 c_18 [b_4, r_16]] [.code c14_35, .inLoop c14_35, .inBlock 0, .code c14_61] (tontinelaw14_SagaBytes.l0 n s_1 b_4 r_10 r_16 k x_19) := by
  intro k
  induction k with
  | zero => intros; rw [tontinelaw14_SagaBytes.l0.eq_1]; exact GoO.stop
  | succ k ih0 =>
    intro x_19
    rw [tontinelaw14_SagaBytes.l0.eq_2]
    refine GoO.seq' c14_35e ?_
    refine GoO.region' (is := [0]) c14_36e (by kernel_rfl) ?_
    refine GoO.exec (is := [0]) (hs := [.p]) (rest := []) (ks := [2, 5, 37, 38, 39, 40]) (env' := [(2, .pointer (some ⟨b_5, 0, none⟩)), (5, .pointer (some ⟨b_9, 0, none⟩)), (37, .slice A_17 [b_4, r_16].length c_18), (38, .int .i64 ([b_4, r_16].length : Int)), (39, .int .i64 x_19), (40, .bool (decide (x_19 < ([b_4, r_16].length : Int))))]) (H' := [⟨40, b_5, [.slice A_2 s_1.Steps.length c_3, .int .i64 s_1.State, .int .i64 s_1.Cursor, .int .i64 s_1.Failed]⟩, ⟨41, b_9, [.slice A_11 r_10.b.length c_12]⟩]) (ps := []) (by kernel_rfl) trivial ?_
    refine GoO.regionEnd ?_
    refine GoO.seq' c14_37e ?_
    refine GoO.ite' c14_38e (by kernel_rfl) (fun h20 => ?_) (fun h20 => ?_)
    · refine GoO.skip' c14_39e ?_
      refine GoO.seq' c14_41e ?_
      refine GoO.block' c14_42e ?_
      refine GoO.seq' c14_43e ?_
      refine GoO.region' (is := [0, 1, 2]) c14_44e (by kernel_rfl) ?_
      refine GoO.guard (fun h21 => ?_)
      refine OpTo.go (GoO.idx (kk := .i64) (e := 9) (K := Kd.str) (A := A_17) (c := c_18) (xs := [b_4, r_16]) (iv := x_19) (j := 2) rfl (by kernel_rfl) (by kernel_rfl) (by kernel_rfl) (by kernel_rfl) rfl Reads.own rfl h21.1 h21.2 (by decide) rfl ?_)
      refine OpTo.go (GoO.ldE' (K := Kd.str) (A := A_17) (c := c_18) (xs := [b_4, r_16]) (iN := x_19.toNat) (off := 0) (j := 2) rfl (by kernel_rfl) rfl Reads.own (idx_lt h21.1 h21.2) (by decide) (Opn.flat _ _ _ _ _) (v := fun _ => .string (bs (rdL [b_4, r_16] x_19))) (fun _ => by kernel_rfl) _ (fun _ => rfl) (fun _ => ?_))
      refine GoO.exec (is := [2]) (hs := [.p]) (rest := []) (ks := [2, 5, 7, 37, 38, 39]) (env' := [(2, .pointer (some ⟨b_5, 0, none⟩)), (5, .pointer (some ⟨b_9, 0, none⟩)), (7, .string (bs (rdL [b_4, r_16] x_19))), (37, .slice A_17 [b_4, r_16].length c_18), (38, .int .i64 ([b_4, r_16].length : Int)), (39, .int .i64 x_19)]) (H' := [⟨40, b_5, [.slice A_2 s_1.Steps.length c_3, .int .i64 s_1.State, .int .i64 s_1.Cursor, .int .i64 s_1.Failed]⟩, ⟨41, b_9, [.slice A_11 r_10.b.length c_12]⟩]) (ps := []) (by kernel_rfl) trivial ?_
      refine GoO.regionEnd ?_
      refine GoO.seq' c14_45e ?_
      refine GoO.region' (is := [0, 1, 2, 3, 4, 5, 6]) c14_46e (by kernel_rfl) ?_
      refine GoO.exec (is := [0]) (hs := [.p]) (rest := [1, 2, 3, 4, 5, 6]) (ks := [2, 5, 7, 37, 38, 39, 43]) (env' := [(2, .pointer (some ⟨b_5, 0, none⟩)), (5, .pointer (some ⟨b_9, 0, none⟩)), (7, .string (bs (rdL [b_4, r_16] x_19))), (37, .slice A_17 [b_4, r_16].length c_18), (38, .int .i64 ([b_4, r_16].length : Int)), (39, .int .i64 x_19), (43, .string (bs (rdL [b_4, r_16] x_19)))]) (H' := [⟨40, b_5, [.slice A_2 s_1.Steps.length c_3, .int .i64 s_1.State, .int .i64 s_1.Cursor, .int .i64 s_1.Failed]⟩, ⟨41, b_9, [.slice A_11 r_10.b.length c_12]⟩]) (ps := []) (by kernel_rfl) trivial ?_
      refine OpTo.go (GoO.call rfl (by kernel_rfl) (by kernel_rfl) (pack_From_ok n (rdL [b_4, r_16] x_19)) [[0]] [(44, 1)] [] [] (hks := [0, 1]) (bks := [0, 1, 2]) (by kernel_rfl) (by kernel_rfl) (by kernel_rfl) (.inl rfl) rfl rfl (by kernel_rfl) (by kernel_rfl) _ (fun _ _ => rfl) _ _ (fun _ _ => rfl) (fun _ _ => rfl) (fun _ _ => by kernel_rfl) (fun _ _ => by kernel_rfl) (fun r_22 b_23 => ?_))
      refine GoO.shape (env' := [(2, .pointer (some ⟨b_5, 0, none⟩)), (5, .pointer (some ⟨b_9, 0, none⟩)), (7, .string (bs (rdL [b_4, r_16] x_19))), (37, .slice A_17 [b_4, r_16].length c_18), (38, .int .i64 ([b_4, r_16].length : Int)), (39, .int .i64 x_19), (43, .string (bs (rdL [b_4, r_16] x_19))), (44, .pointer (some ⟨b_23, 0, none⟩))]) (H' := [⟨44, b_23, [.string (bs r_22.s), .bool r_22.bad]⟩, ⟨40, b_5, [.slice A_2 s_1.Steps.length c_3, .int .i64 s_1.State, .int .i64 s_1.Cursor, .int .i64 s_1.Failed]⟩, ⟨41, b_9, [.slice A_11 r_10.b.length c_12]⟩]) (B' := [Rd 0 kT_api_Step A_2 c_3 s_1.Steps, Ow 42 Kd.u8 A_11 c_12 r_10.b, Ow 43 Kd.str A_17 c_18 [b_4, r_16]]) (ks := [2, 5, 7, 37, 38, 39, 43, 44]) (by kernel_rfl) (by kernel_rfl) (by kernel_rfl) ?_
      refine GoO.exec (is := [2, 3]) (hs := [.p, .p]) (rest := [4, 5, 6]) (ks := [2, 5, 37, 38, 39, 44, 46]) (env' := [(2, .pointer (some ⟨b_5, 0, none⟩)), (5, .pointer (some ⟨b_9, 0, none⟩)), (37, .slice A_17 [b_4, r_16].length c_18), (38, .int .i64 ([b_4, r_16].length : Int)), (39, .int .i64 x_19), (44, .pointer (some ⟨b_23, 0, none⟩)), (46, .agg ⟨[.string (bs (rdL [b_4, r_16] x_19)), .bool false]⟩)]) (H' := [⟨44, b_23, [.string (bs r_22.s), .bool r_22.bad]⟩, ⟨40, b_5, [.slice A_2 s_1.Steps.length c_3, .int .i64 s_1.State, .int .i64 s_1.Cursor, .int .i64 s_1.Failed]⟩, ⟨41, b_9, [.slice A_11 r_10.b.length c_12]⟩]) (ps := []) (by kernel_rfl) trivial ?_
      refine OpTo.go (GoO.new rfl 45 (cs := [.string (bs (rdL [b_4, r_16] x_19)), .bool false]) (by kernel_rfl) _ (fun _ => rfl) (fun b_24 => ?_))
      refine GoO.exec (is := [5, 6]) (hs := [.p, .p]) (rest := []) (ks := [2, 5, 8, 9, 37, 38, 39]) (env' := [(2, .pointer (some ⟨b_5, 0, none⟩)), (5, .pointer (some ⟨b_9, 0, none⟩)), (8, .pointer (some ⟨b_23, 0, none⟩)), (9, .pointer (some ⟨b_24, 0, none⟩)), (37, .slice A_17 [b_4, r_16].length c_18), (38, .int .i64 ([b_4, r_16].length : Int)), (39, .int .i64 x_19)]) (H' := [⟨45, b_24, [.string (bs (rdL [b_4, r_16] x_19)), .bool false]⟩, ⟨44, b_23, [.string (bs r_22.s), .bool r_22.bad]⟩, ⟨40, b_5, [.slice A_2 s_1.Steps.length c_3, .int .i64 s_1.State, .int .i64 s_1.Cursor, .int .i64 s_1.Failed]⟩, ⟨41, b_9, [.slice A_11 r_10.b.length c_12]⟩]) (ps := []) (by kernel_rfl) trivial ?_
      refine GoO.regionEnd ?_
      refine GoO.seq' c14_47e ?_
      refine GoO.region' (is := [0, 1, 2, 3, 4, 5, 6, 7]) c14_48e (by kernel_rfl) ?_
      refine GoO.exec (is := [0]) (hs := [.p]) (rest := [1, 2, 3, 4, 5, 6, 7]) (ks := [2, 5, 8, 9, 37, 38, 39, 49]) (env' := [(2, .pointer (some ⟨b_5, 0, none⟩)), (5, .pointer (some ⟨b_9, 0, none⟩)), (8, .pointer (some ⟨b_23, 0, none⟩)), (9, .pointer (some ⟨b_24, 0, none⟩)), (37, .slice A_17 [b_4, r_16].length c_18), (38, .int .i64 ([b_4, r_16].length : Int)), (39, .int .i64 x_19), (49, .pointer (some ⟨b_23, 0, none⟩))]) (H' := [⟨45, b_24, [.string (bs (rdL [b_4, r_16] x_19)), .bool false]⟩, ⟨44, b_23, [.string (bs r_22.s), .bool r_22.bad]⟩, ⟨40, b_5, [.slice A_2 s_1.Steps.length c_3, .int .i64 s_1.State, .int .i64 s_1.Cursor, .int .i64 s_1.Failed]⟩, ⟨41, b_9, [.slice A_11 r_10.b.length c_12]⟩]) (ps := []) (by kernel_rfl) trivial ?_
      refine OpTo.go (GoO.call rfl (by kernel_rfl) (by kernel_rfl) (saga_Read_ok n r_22 b_23) [[0], [44]] [(44, 1)] [(1, 1)] [] (hks := [0, 2, 3]) (bks := [0, 1, 2]) (by kernel_rfl) (by kernel_rfl) (by kernel_rfl) (.inl rfl) rfl rfl (by kernel_rfl) (by kernel_rfl) _ (fun _ _ => rfl) _ _ (fun _ _ => rfl) (fun _ _ => rfl) (fun _ _ => by kernel_rfl) (fun _ _ => by kernel_rfl) (fun r_25 x_41 => ?_))
      obtain ⟨A_26, c_27⟩ := x_41
      refine GoO.shape (env' := [(2, .pointer (some ⟨b_5, 0, none⟩)), (5, .pointer (some ⟨b_9, 0, none⟩)), (8, .pointer (some ⟨b_23, 0, none⟩)), (9, .pointer (some ⟨b_24, 0, none⟩)), (37, .slice A_17 [b_4, r_16].length c_18), (38, .int .i64 ([b_4, r_16].length : Int)), (39, .int .i64 x_19), (49, .pointer (some ⟨b_23, 0, none⟩)), (50, .tuple ⟨[.agg ⟨[.slice A_26 r_25.1.Steps.length c_27, .int .i64 r_25.1.State, .int .i64 r_25.1.Cursor, .int .i64 r_25.1.Failed]⟩, .bool r_25.2.1]⟩)]) (H' := [⟨44, b_23, [.string (bs r_25.2.2.s), .bool r_25.2.2.bad]⟩, ⟨45, b_24, [.string (bs (rdL [b_4, r_16] x_19)), .bool false]⟩, ⟨40, b_5, [.slice A_2 s_1.Steps.length c_3, .int .i64 s_1.State, .int .i64 s_1.Cursor, .int .i64 s_1.Failed]⟩, ⟨41, b_9, [.slice A_11 r_10.b.length c_12]⟩]) (B' := [Rd 0 kT_api_Step A_26 c_27 r_25.1.Steps, Rd 0 kT_api_Step A_2 c_3 s_1.Steps, Ow 42 Kd.u8 A_11 c_12 r_10.b, Ow 43 Kd.str A_17 c_18 [b_4, r_16]]) (ks := [2, 5, 8, 9, 37, 38, 39, 49, 50]) (by kernel_rfl) (by kernel_rfl) (by kernel_rfl) ?_
      refine GoO.exec (is := [2, 3, 4]) (hs := [.p, .p, .p]) (rest := [5, 6, 7]) (ks := [2, 5, 8, 9, 37, 38, 39, 51, 52]) (env' := [(2, .pointer (some ⟨b_5, 0, none⟩)), (5, .pointer (some ⟨b_9, 0, none⟩)), (8, .pointer (some ⟨b_23, 0, none⟩)), (9, .pointer (some ⟨b_24, 0, none⟩)), (37, .slice A_17 [b_4, r_16].length c_18), (38, .int .i64 ([b_4, r_16].length : Int)), (39, .int .i64 x_19), (51, .agg ⟨[.slice A_26 r_25.1.Steps.length c_27, .int .i64 r_25.1.State, .int .i64 r_25.1.Cursor, .int .i64 r_25.1.Failed]⟩), (52, .bool r_25.2.1)]) (H' := [⟨44, b_23, [.string (bs r_25.2.2.s), .bool r_25.2.2.bad]⟩, ⟨45, b_24, [.string (bs (rdL [b_4, r_16] x_19)), .bool false]⟩, ⟨40, b_5, [.slice A_2 s_1.Steps.length c_3, .int .i64 s_1.State, .int .i64 s_1.Cursor, .int .i64 s_1.Failed]⟩, ⟨41, b_9, [.slice A_11 r_10.b.length c_12]⟩]) (ps := []) (by kernel_rfl) trivial ?_
      refine OpTo.go (GoO.new rfl 46 (cs := [.slice none ([] : List T_api_Step).length 0, .int .i64 0, .int .i64 0, .int .i64 0]) (by kernel_rfl) _ (fun _ => rfl) (fun b_28 => ?_))
      refine GoO.exec (is := [6, 7]) (hs := [.b 0, .p]) (rest := []) (ks := [2, 5, 8, 9, 10, 11, 37, 38, 39]) (env' := [(2, .pointer (some ⟨b_5, 0, none⟩)), (5, .pointer (some ⟨b_9, 0, none⟩)), (8, .pointer (some ⟨b_23, 0, none⟩)), (9, .pointer (some ⟨b_24, 0, none⟩)), (10, .pointer (some ⟨b_28, 0, none⟩)), (11, .bool r_25.2.1), (37, .slice A_17 [b_4, r_16].length c_18), (38, .int .i64 ([b_4, r_16].length : Int)), (39, .int .i64 x_19)]) (H' := [⟨46, b_28, [.slice A_26 r_25.1.Steps.length c_27, .int .i64 r_25.1.State, .int .i64 r_25.1.Cursor, .int .i64 r_25.1.Failed]⟩, ⟨44, b_23, [.string (bs r_25.2.2.s), .bool r_25.2.2.bad]⟩, ⟨45, b_24, [.string (bs (rdL [b_4, r_16] x_19)), .bool false]⟩, ⟨40, b_5, [.slice A_2 s_1.Steps.length c_3, .int .i64 s_1.State, .int .i64 s_1.Cursor, .int .i64 s_1.Failed]⟩, ⟨41, b_9, [.slice A_11 r_10.b.length c_12]⟩]) (ps := [b_28 = b_28]) (by kernel_rfl) (And.intro rfl trivial) ?_
      refine GoO.regionEnd ?_
      refine GoO.seq' c14_49e ?_
      refine GoO.region' (is := [0, 1, 2, 3, 4, 5, 6, 7]) c14_50e (by kernel_rfl) ?_
      refine GoO.exec (is := [0]) (hs := [.p]) (rest := [1, 2, 3, 4, 5, 6, 7]) (ks := [2, 5, 8, 9, 10, 11, 37, 38, 39, 54]) (env' := [(2, .pointer (some ⟨b_5, 0, none⟩)), (5, .pointer (some ⟨b_9, 0, none⟩)), (8, .pointer (some ⟨b_23, 0, none⟩)), (9, .pointer (some ⟨b_24, 0, none⟩)), (10, .pointer (some ⟨b_28, 0, none⟩)), (11, .bool r_25.2.1), (37, .slice A_17 [b_4, r_16].length c_18), (38, .int .i64 ([b_4, r_16].length : Int)), (39, .int .i64 x_19), (54, .pointer (some ⟨b_24, 0, none⟩))]) (H' := [⟨46, b_28, [.slice A_26 r_25.1.Steps.length c_27, .int .i64 r_25.1.State, .int .i64 r_25.1.Cursor, .int .i64 r_25.1.Failed]⟩, ⟨44, b_23, [.string (bs r_25.2.2.s), .bool r_25.2.2.bad]⟩, ⟨45, b_24, [.string (bs (rdL [b_4, r_16] x_19)), .bool false]⟩, ⟨40, b_5, [.slice A_2 s_1.Steps.length c_3, .int .i64 s_1.State, .int .i64 s_1.Cursor, .int .i64 s_1.Failed]⟩, ⟨41, b_9, [.slice A_11 r_10.b.length c_12]⟩]) (ps := []) (by kernel_rfl) trivial ?_
      refine OpTo.go (GoO.call rfl (by kernel_rfl) (by kernel_rfl) (tontineref14_Read_ok n (⟨(rdL [b_4, r_16] x_19), false⟩ : T_tontineref03_Reader) b_24) [[0], [45]] [(45, 1)] [(1, 2)] [] (hks := [0, 1, 3, 4]) (bks := [0, 1, 2, 3]) (by kernel_rfl) (by kernel_rfl) (by kernel_rfl) (.inl rfl) rfl rfl (by kernel_rfl) (by kernel_rfl) _ (fun _ _ => rfl) _ _ (fun _ _ => rfl) (fun _ _ => rfl) (fun _ _ => by kernel_rfl) (fun _ _ => by kernel_rfl) (fun r_29 x_40 => ?_))
      obtain ⟨A_30, c_31⟩ := x_40
      refine GoO.shape (env' := [(2, .pointer (some ⟨b_5, 0, none⟩)), (5, .pointer (some ⟨b_9, 0, none⟩)), (8, .pointer (some ⟨b_23, 0, none⟩)), (9, .pointer (some ⟨b_24, 0, none⟩)), (10, .pointer (some ⟨b_28, 0, none⟩)), (11, .bool r_25.2.1), (37, .slice A_17 [b_4, r_16].length c_18), (38, .int .i64 ([b_4, r_16].length : Int)), (39, .int .i64 x_19), (54, .pointer (some ⟨b_24, 0, none⟩)), (55, .tuple ⟨[.agg ⟨[.slice A_30 r_29.1.Steps.length c_31, .int .i64 r_29.1.State, .int .i64 r_29.1.Cursor, .int .i64 r_29.1.Failed]⟩, .bool r_29.2.1]⟩)]) (H' := [⟨45, b_24, [.string (bs r_29.2.2.S_), .bool r_29.2.2.Bad]⟩, ⟨46, b_28, [.slice A_26 r_25.1.Steps.length c_27, .int .i64 r_25.1.State, .int .i64 r_25.1.Cursor, .int .i64 r_25.1.Failed]⟩, ⟨44, b_23, [.string (bs r_25.2.2.s), .bool r_25.2.2.bad]⟩, ⟨40, b_5, [.slice A_2 s_1.Steps.length c_3, .int .i64 s_1.State, .int .i64 s_1.Cursor, .int .i64 s_1.Failed]⟩, ⟨41, b_9, [.slice A_11 r_10.b.length c_12]⟩]) (B' := [Rd 0 kT_api_Step A_30 c_31 r_29.1.Steps, Rd 0 kT_api_Step A_26 c_27 r_25.1.Steps, Rd 0 kT_api_Step A_2 c_3 s_1.Steps, Ow 42 Kd.u8 A_11 c_12 r_10.b, Ow 43 Kd.str A_17 c_18 [b_4, r_16]]) (ks := [2, 5, 8, 9, 10, 11, 37, 38, 39, 54, 55]) (by kernel_rfl) (by kernel_rfl) (by kernel_rfl) ?_
      refine GoO.exec (is := [2, 3, 4]) (hs := [.p, .p, .p]) (rest := [5, 6, 7]) (ks := [2, 5, 8, 9, 10, 11, 37, 38, 39, 56, 57]) (env' := [(2, .pointer (some ⟨b_5, 0, none⟩)), (5, .pointer (some ⟨b_9, 0, none⟩)), (8, .pointer (some ⟨b_23, 0, none⟩)), (9, .pointer (some ⟨b_24, 0, none⟩)), (10, .pointer (some ⟨b_28, 0, none⟩)), (11, .bool r_25.2.1), (37, .slice A_17 [b_4, r_16].length c_18), (38, .int .i64 ([b_4, r_16].length : Int)), (39, .int .i64 x_19), (56, .agg ⟨[.slice A_30 r_29.1.Steps.length c_31, .int .i64 r_29.1.State, .int .i64 r_29.1.Cursor, .int .i64 r_29.1.Failed]⟩), (57, .bool r_29.2.1)]) (H' := [⟨45, b_24, [.string (bs r_29.2.2.S_), .bool r_29.2.2.Bad]⟩, ⟨46, b_28, [.slice A_26 r_25.1.Steps.length c_27, .int .i64 r_25.1.State, .int .i64 r_25.1.Cursor, .int .i64 r_25.1.Failed]⟩, ⟨44, b_23, [.string (bs r_25.2.2.s), .bool r_25.2.2.bad]⟩, ⟨40, b_5, [.slice A_2 s_1.Steps.length c_3, .int .i64 s_1.State, .int .i64 s_1.Cursor, .int .i64 s_1.Failed]⟩, ⟨41, b_9, [.slice A_11 r_10.b.length c_12]⟩]) (ps := []) (by kernel_rfl) trivial ?_
      refine OpTo.go (GoO.new rfl 47 (cs := [.slice none ([] : List T_api_Step).length 0, .int .i64 0, .int .i64 0, .int .i64 0]) (by kernel_rfl) _ (fun _ => rfl) (fun b_32 => ?_))
      refine GoO.exec (is := [6, 7]) (hs := [.b 0, .p]) (rest := []) (ks := [2, 5, 8, 9, 10, 11, 12, 13, 37, 38, 39]) (env' := [(2, .pointer (some ⟨b_5, 0, none⟩)), (5, .pointer (some ⟨b_9, 0, none⟩)), (8, .pointer (some ⟨b_23, 0, none⟩)), (9, .pointer (some ⟨b_24, 0, none⟩)), (10, .pointer (some ⟨b_28, 0, none⟩)), (11, .bool r_25.2.1), (12, .pointer (some ⟨b_32, 0, none⟩)), (13, .bool r_29.2.1), (37, .slice A_17 [b_4, r_16].length c_18), (38, .int .i64 ([b_4, r_16].length : Int)), (39, .int .i64 x_19)]) (H' := [⟨47, b_32, [.slice A_30 r_29.1.Steps.length c_31, .int .i64 r_29.1.State, .int .i64 r_29.1.Cursor, .int .i64 r_29.1.Failed]⟩, ⟨45, b_24, [.string (bs r_29.2.2.S_), .bool r_29.2.2.Bad]⟩, ⟨46, b_28, [.slice A_26 r_25.1.Steps.length c_27, .int .i64 r_25.1.State, .int .i64 r_25.1.Cursor, .int .i64 r_25.1.Failed]⟩, ⟨44, b_23, [.string (bs r_25.2.2.s), .bool r_25.2.2.bad]⟩, ⟨40, b_5, [.slice A_2 s_1.Steps.length c_3, .int .i64 s_1.State, .int .i64 s_1.Cursor, .int .i64 s_1.Failed]⟩, ⟨41, b_9, [.slice A_11 r_10.b.length c_12]⟩]) (ps := [b_32 = b_32]) (by kernel_rfl) (And.intro rfl trivial) ?_
      refine GoO.regionEnd ?_
      refine GoO.seq' c14_51e ?_
      refine GoO.region' (is := [0, 1, 2, 3, 4, 5, 6]) c14_52e (by kernel_rfl) ?_
      refine GoO.exec (is := [0]) (hs := [.p]) (rest := [1, 2, 3, 4, 5, 6]) (ks := [2, 5, 9, 10, 11, 12, 13, 37, 38, 39, 59]) (env' := [(2, .pointer (some ⟨b_5, 0, none⟩)), (5, .pointer (some ⟨b_9, 0, none⟩)), (9, .pointer (some ⟨b_24, 0, none⟩)), (10, .pointer (some ⟨b_28, 0, none⟩)), (11, .bool r_25.2.1), (12, .pointer (some ⟨b_32, 0, none⟩)), (13, .bool r_29.2.1), (37, .slice A_17 [b_4, r_16].length c_18), (38, .int .i64 ([b_4, r_16].length : Int)), (39, .int .i64 x_19), (59, .pointer (some ⟨b_23, 0, none⟩))]) (H' := [⟨47, b_32, [.slice A_30 r_29.1.Steps.length c_31, .int .i64 r_29.1.State, .int .i64 r_29.1.Cursor, .int .i64 r_29.1.Failed]⟩, ⟨45, b_24, [.string (bs r_29.2.2.S_), .bool r_29.2.2.Bad]⟩, ⟨46, b_28, [.slice A_26 r_25.1.Steps.length c_27, .int .i64 r_25.1.State, .int .i64 r_25.1.Cursor, .int .i64 r_25.1.Failed]⟩, ⟨44, b_23, [.string (bs r_25.2.2.s), .bool r_25.2.2.bad]⟩, ⟨40, b_5, [.slice A_2 s_1.Steps.length c_3, .int .i64 s_1.State, .int .i64 s_1.Cursor, .int .i64 s_1.Failed]⟩, ⟨41, b_9, [.slice A_11 r_10.b.length c_12]⟩]) (ps := []) (by kernel_rfl) trivial ?_
      refine OpTo.go (GoO.call rfl (by kernel_rfl) (by kernel_rfl) (pack_Reader_Left_ok n r_25.2.2 b_23) [[0], [44]] [] [(1, 3)] [] (hks := [0, 1, 2, 3, 4, 5]) (bks := [0, 1, 2, 3, 4]) (by kernel_rfl) (by kernel_rfl) (by kernel_rfl) (.inl rfl) rfl rfl (by kernel_rfl) (by kernel_rfl) _ (fun _ _ => rfl) _ _ (fun _ _ => rfl) (fun _ _ => rfl) (fun _ _ => by kernel_rfl) (fun _ _ => by kernel_rfl) (fun r_33 x_39 => ?_))
      refine GoO.shape (env' := [(2, .pointer (some ⟨b_5, 0, none⟩)), (5, .pointer (some ⟨b_9, 0, none⟩)), (9, .pointer (some ⟨b_24, 0, none⟩)), (10, .pointer (some ⟨b_28, 0, none⟩)), (11, .bool r_25.2.1), (12, .pointer (some ⟨b_32, 0, none⟩)), (13, .bool r_29.2.1), (37, .slice A_17 [b_4, r_16].length c_18), (38, .int .i64 ([b_4, r_16].length : Int)), (39, .int .i64 x_19), (59, .pointer (some ⟨b_23, 0, none⟩)), (60, .tuple ⟨[.int .i64 r_33.1, .bool r_33.2]⟩)]) (H' := [⟨47, b_32, [.slice A_30 r_29.1.Steps.length c_31, .int .i64 r_29.1.State, .int .i64 r_29.1.Cursor, .int .i64 r_29.1.Failed]⟩, ⟨45, b_24, [.string (bs r_29.2.2.S_), .bool r_29.2.2.Bad]⟩, ⟨46, b_28, [.slice A_26 r_25.1.Steps.length c_27, .int .i64 r_25.1.State, .int .i64 r_25.1.Cursor, .int .i64 r_25.1.Failed]⟩, ⟨44, b_23, [.string (bs r_25.2.2.s), .bool r_25.2.2.bad]⟩, ⟨40, b_5, [.slice A_2 s_1.Steps.length c_3, .int .i64 s_1.State, .int .i64 s_1.Cursor, .int .i64 s_1.Failed]⟩, ⟨41, b_9, [.slice A_11 r_10.b.length c_12]⟩]) (B' := [Rd 0 kT_api_Step A_30 c_31 r_29.1.Steps, Rd 0 kT_api_Step A_26 c_27 r_25.1.Steps, Rd 0 kT_api_Step A_2 c_3 s_1.Steps, Ow 42 Kd.u8 A_11 c_12 r_10.b, Ow 43 Kd.str A_17 c_18 [b_4, r_16]]) (ks := [2, 5, 9, 10, 11, 12, 13, 37, 38, 39, 59, 60]) (by kernel_rfl) (by kernel_rfl) (by kernel_rfl) ?_
      refine GoO.exec (is := [2, 3, 4, 5, 6]) (hs := [.p, .p, .p, .p, .p]) (rest := []) (ks := [2, 5, 9, 10, 11, 12, 13, 14, 37, 38, 39]) (env' := [(2, .pointer (some ⟨b_5, 0, none⟩)), (5, .pointer (some ⟨b_9, 0, none⟩)), (9, .pointer (some ⟨b_24, 0, none⟩)), (10, .pointer (some ⟨b_28, 0, none⟩)), (11, .bool r_25.2.1), (12, .pointer (some ⟨b_32, 0, none⟩)), (13, .bool r_29.2.1), (14, .int .i64 r_33.1), (37, .slice A_17 [b_4, r_16].length c_18), (38, .int .i64 ([b_4, r_16].length : Int)), (39, .int .i64 x_19)]) (H' := [⟨47, b_32, [.slice A_30 r_29.1.Steps.length c_31, .int .i64 r_29.1.State, .int .i64 r_29.1.Cursor, .int .i64 r_29.1.Failed]⟩, ⟨45, b_24, [.string (bs r_29.2.2.S_), .bool r_29.2.2.Bad]⟩, ⟨46, b_28, [.slice A_26 r_25.1.Steps.length c_27, .int .i64 r_25.1.State, .int .i64 r_25.1.Cursor, .int .i64 r_25.1.Failed]⟩, ⟨44, b_23, [.string (bs r_25.2.2.s), .bool r_25.2.2.bad]⟩, ⟨40, b_5, [.slice A_2 s_1.Steps.length c_3, .int .i64 s_1.State, .int .i64 s_1.Cursor, .int .i64 s_1.Failed]⟩, ⟨41, b_9, [.slice A_11 r_10.b.length c_12]⟩]) (ps := []) (by kernel_rfl) trivial ?_
      refine GoO.regionEnd ?_
      refine GoO.seq' c14_53e ?_
      refine GoO.region' (is := [0, 1, 2, 3, 4, 5, 6, 7, 8, 9, 10, 11, 12, 13, 14, 15, 16, 17]) c14_54e (by kernel_rfl) ?_
      refine GoO.exec (is := [0, 1, 2, 3]) (hs := [.p, .p, .p, .p]) (rest := [4, 5, 6, 7, 8, 9, 10, 11, 12, 13, 14, 15, 16, 17]) (ks := [2, 5, 9, 10, 12, 14, 37, 38, 39, 66]) (env' := [(2, .pointer (some ⟨b_5, 0, none⟩)), (5, .pointer (some ⟨b_9, 0, none⟩)), (9, .pointer (some ⟨b_24, 0, none⟩)), (10, .pointer (some ⟨b_28, 0, none⟩)), (12, .pointer (some ⟨b_32, 0, none⟩)), (14, .int .i64 r_33.1), (37, .slice A_17 [b_4, r_16].length c_18), (38, .int .i64 ([b_4, r_16].length : Int)), (39, .int .i64 x_19), (66, .bool (!(r_25.2.1 == r_29.2.1)))]) (H' := [⟨47, b_32, [.slice A_30 r_29.1.Steps.length c_31, .int .i64 r_29.1.State, .int .i64 r_29.1.Cursor, .int .i64 r_29.1.Failed]⟩, ⟨45, b_24, [.string (bs r_29.2.2.S_), .bool r_29.2.2.Bad]⟩, ⟨46, b_28, [.slice A_26 r_25.1.Steps.length c_27, .int .i64 r_25.1.State, .int .i64 r_25.1.Cursor, .int .i64 r_25.1.Failed]⟩, ⟨44, b_23, [.string (bs r_25.2.2.s), .bool r_25.2.2.bad]⟩, ⟨40, b_5, [.slice A_2 s_1.Steps.length c_3, .int .i64 s_1.State, .int .i64 s_1.Cursor, .int .i64 s_1.Failed]⟩, ⟨41, b_9, [.slice A_11 r_10.b.length c_12]⟩]) (ps := []) (by kernel_rfl) trivial ?_
      refine GoO.bsplit (t := 66) (by kernel_rfl) (fun h34 => ?_) (fun h34 => ?_)
      · refine GoO.exec (is := [4, 5, 6, 7, 8, 9, 10, 11, 12, 13, 14, 15, 16, 17]) (hs := [.p, .p, .p, .p, .p, .p, .p, .p, .p, .p, .p, .p, .p, .p]) (rest := []) (ks := [2, 5, 37, 38, 39, 80]) (env' := [(2, .pointer (some ⟨b_5, 0, none⟩)), (5, .pointer (some ⟨b_9, 0, none⟩)), (37, .slice A_17 [b_4, r_16].length c_18), (38, .int .i64 ([b_4, r_16].length : Int)), (39, .int .i64 x_19), (80, .bool true)]) (H' := [⟨47, b_32, [.slice A_30 r_29.1.Steps.length c_31, .int .i64 r_29.1.State, .int .i64 r_29.1.Cursor, .int .i64 r_29.1.Failed]⟩, ⟨45, b_24, [.string (bs r_29.2.2.S_), .bool r_29.2.2.Bad]⟩, ⟨46, b_28, [.slice A_26 r_25.1.Steps.length c_27, .int .i64 r_25.1.State, .int .i64 r_25.1.Cursor, .int .i64 r_25.1.Failed]⟩, ⟨44, b_23, [.string (bs r_25.2.2.s), .bool r_25.2.2.bad]⟩, ⟨40, b_5, [.slice A_2 s_1.Steps.length c_3, .int .i64 s_1.State, .int .i64 s_1.Cursor, .int .i64 s_1.Failed]⟩, ⟨41, b_9, [.slice A_11 r_10.b.length c_12]⟩]) (ps := []) (by kernel_rfl) trivial ?_
        refine GoO.regionEnd ?_
        exact GoO.sub (ks := [2, 5, 37, 38, 39, 80]) (hk := [4, 5]) (bk := [2, 3, 4]) (by kernel_rfl) (by kernel_rfl) (by kernel_rfl) (tontinelaw14_SagaBytes_j0_ok n (tontinelaw14_SagaBytes.l0 n s_1 b_4 r_10 r_16 k) s_1 b_4 r_10 r_16 x_19 A_2 c_3 b_5 b_9 A_11 c_12 A_17 c_18 w0 S0 ih0 true)
      · refine GoO.exec (is := [4, 5]) (hs := [.b 2, .b 0]) (rest := [6, 7, 8, 9, 10, 11, 12, 13, 14, 15, 16, 17]) (ks := [2, 5, 9, 14, 37, 38, 39, 66, 67, 68]) (env' := [(2, .pointer (some ⟨b_5, 0, none⟩)), (5, .pointer (some ⟨b_9, 0, none⟩)), (9, .pointer (some ⟨b_24, 0, none⟩)), (14, .int .i64 r_33.1), (37, .slice A_17 [b_4, r_16].length c_18), (38, .int .i64 ([b_4, r_16].length : Int)), (39, .int .i64 x_19), (66, .bool false), (67, .agg ⟨[.slice A_26 r_25.1.Steps.length c_27, .int .i64 r_25.1.State, .int .i64 r_25.1.Cursor, .int .i64 r_25.1.Failed]⟩), (68, .agg ⟨[.slice A_30 r_29.1.Steps.length c_31, .int .i64 r_29.1.State, .int .i64 r_29.1.Cursor, .int .i64 r_29.1.Failed]⟩)]) (H' := [⟨47, b_32, [.slice A_30 r_29.1.Steps.length c_31, .int .i64 r_29.1.State, .int .i64 r_29.1.Cursor, .int .i64 r_29.1.Failed]⟩, ⟨45, b_24, [.string (bs r_29.2.2.S_), .bool r_29.2.2.Bad]⟩, ⟨46, b_28, [.slice A_26 r_25.1.Steps.length c_27, .int .i64 r_25.1.State, .int .i64 r_25.1.Cursor, .int .i64 r_25.1.Failed]⟩, ⟨44, b_23, [.string (bs r_25.2.2.s), .bool r_25.2.2.bad]⟩, ⟨40, b_5, [.slice A_2 s_1.Steps.length c_3, .int .i64 s_1.State, .int .i64 s_1.Cursor, .int .i64 s_1.Failed]⟩, ⟨41, b_9, [.slice A_11 r_10.b.length c_12]⟩]) (ps := [b_28 = b_28, b_32 = b_32]) (by kernel_rfl) (And.intro rfl (And.intro rfl trivial)) ?_
        refine OpTo.go (GoO.call rfl (by kernel_rfl) (by kernel_rfl) (tontineref14_Same_ok n r_25.1 r_29.1 A_26 c_27 A_30 c_31) [[0]] [] [] [(0, 1), (0, 0)] (hks := [0, 1, 2, 3, 4, 5]) (bks := [0, 1, 2, 3, 4]) (by kernel_rfl) (by kernel_rfl) (by kernel_rfl) (.inl rfl) rfl rfl (by kernel_rfl) (by kernel_rfl) _ (fun _ _ => rfl) _ _ (fun _ _ => rfl) (fun _ _ => rfl) (fun _ _ => by kernel_rfl) (fun _ _ => by kernel_rfl) (fun r_35 x_37 => ?_))
        refine GoO.shape (env' := [(2, .pointer (some ⟨b_5, 0, none⟩)), (5, .pointer (some ⟨b_9, 0, none⟩)), (9, .pointer (some ⟨b_24, 0, none⟩)), (14, .int .i64 r_33.1), (37, .slice A_17 [b_4, r_16].length c_18), (38, .int .i64 ([b_4, r_16].length : Int)), (39, .int .i64 x_19), (66, .bool false), (67, .agg ⟨[.slice A_26 r_25.1.Steps.length c_27, .int .i64 r_25.1.State, .int .i64 r_25.1.Cursor, .int .i64 r_25.1.Failed]⟩), (68, .agg ⟨[.slice A_30 r_29.1.Steps.length c_31, .int .i64 r_29.1.State, .int .i64 r_29.1.Cursor, .int .i64 r_29.1.Failed]⟩), (69, .bool r_35)]) (H' := [⟨47, b_32, [.slice A_30 r_29.1.Steps.length c_31, .int .i64 r_29.1.State, .int .i64 r_29.1.Cursor, .int .i64 r_29.1.Failed]⟩, ⟨45, b_24, [.string (bs r_29.2.2.S_), .bool r_29.2.2.Bad]⟩, ⟨46, b_28, [.slice A_26 r_25.1.Steps.length c_27, .int .i64 r_25.1.State, .int .i64 r_25.1.Cursor, .int .i64 r_25.1.Failed]⟩, ⟨44, b_23, [.string (bs r_25.2.2.s), .bool r_25.2.2.bad]⟩, ⟨40, b_5, [.slice A_2 s_1.Steps.length c_3, .int .i64 s_1.State, .int .i64 s_1.Cursor, .int .i64 s_1.Failed]⟩, ⟨41, b_9, [.slice A_11 r_10.b.length c_12]⟩]) (B' := [Rd 0 kT_api_Step A_30 c_31 r_29.1.Steps, Rd 0 kT_api_Step A_26 c_27 r_25.1.Steps, Rd 0 kT_api_Step A_2 c_3 s_1.Steps, Ow 42 Kd.u8 A_11 c_12 r_10.b, Ow 43 Kd.str A_17 c_18 [b_4, r_16]]) (ks := [2, 5, 9, 14, 37, 38, 39, 66, 67, 68, 69]) (by kernel_rfl) (by kernel_rfl) (by kernel_rfl) ?_
        refine GoO.exec (is := [7, 8, 9]) (hs := [.p, .p, .p]) (rest := [10, 11, 12, 13, 14, 15, 16, 17]) (ks := [2, 5, 9, 14, 37, 38, 39, 72]) (env' := [(2, .pointer (some ⟨b_5, 0, none⟩)), (5, .pointer (some ⟨b_9, 0, none⟩)), (9, .pointer (some ⟨b_24, 0, none⟩)), (14, .int .i64 r_33.1), (37, .slice A_17 [b_4, r_16].length c_18), (38, .int .i64 ([b_4, r_16].length : Int)), (39, .int .i64 x_19), (72, .bool (!r_35))]) (H' := [⟨47, b_32, [.slice A_30 r_29.1.Steps.length c_31, .int .i64 r_29.1.State, .int .i64 r_29.1.Cursor, .int .i64 r_29.1.Failed]⟩, ⟨45, b_24, [.string (bs r_29.2.2.S_), .bool r_29.2.2.Bad]⟩, ⟨46, b_28, [.slice A_26 r_25.1.Steps.length c_27, .int .i64 r_25.1.State, .int .i64 r_25.1.Cursor, .int .i64 r_25.1.Failed]⟩, ⟨44, b_23, [.string (bs r_25.2.2.s), .bool r_25.2.2.bad]⟩, ⟨40, b_5, [.slice A_2 s_1.Steps.length c_3, .int .i64 s_1.State, .int .i64 s_1.Cursor, .int .i64 s_1.Failed]⟩, ⟨41, b_9, [.slice A_11 r_10.b.length c_12]⟩]) (ps := []) (by kernel_rfl) trivial ?_
        refine GoO.bsplit (t := 72) (by kernel_rfl) (fun h36 => ?_) (fun h36 => ?_)
        · refine GoO.exec (is := [10, 11, 12, 13, 14, 15, 16, 17]) (hs := [.p, .p, .p, .p, .p, .p, .p, .p]) (rest := []) (ks := [2, 5, 37, 38, 39, 80]) (env' := [(2, .pointer (some ⟨b_5, 0, none⟩)), (5, .pointer (some ⟨b_9, 0, none⟩)), (37, .slice A_17 [b_4, r_16].length c_18), (38, .int .i64 ([b_4, r_16].length : Int)), (39, .int .i64 x_19), (80, .bool true)]) (H' := [⟨47, b_32, [.slice A_30 r_29.1.Steps.length c_31, .int .i64 r_29.1.State, .int .i64 r_29.1.Cursor, .int .i64 r_29.1.Failed]⟩, ⟨45, b_24, [.string (bs r_29.2.2.S_), .bool r_29.2.2.Bad]⟩, ⟨46, b_28, [.slice A_26 r_25.1.Steps.length c_27, .int .i64 r_25.1.State, .int .i64 r_25.1.Cursor, .int .i64 r_25.1.Failed]⟩, ⟨44, b_23, [.string (bs r_25.2.2.s), .bool r_25.2.2.bad]⟩, ⟨40, b_5, [.slice A_2 s_1.Steps.length c_3, .int .i64 s_1.State, .int .i64 s_1.Cursor, .int .i64 s_1.Failed]⟩, ⟨41, b_9, [.slice A_11 r_10.b.length c_12]⟩]) (ps := []) (by kernel_rfl) trivial ?_
          refine GoO.regionEnd ?_
          exact GoO.sub (ks := [2, 5, 37, 38, 39, 80]) (hk := [4, 5]) (bk := [2, 3, 4]) (by kernel_rfl) (by kernel_rfl) (by kernel_rfl) (tontinelaw14_SagaBytes_j0_ok n (tontinelaw14_SagaBytes.l0 n s_1 b_4 r_10 r_16 k) s_1 b_4 r_10 r_16 x_19 A_2 c_3 b_5 b_9 A_11 c_12 A_17 c_18 w0 S0 ih0 true)
        · refine GoO.exec (is := [10, 11, 12, 13, 14, 15, 16, 17]) (hs := [.p, .p, .p, .p, .b 1, .p, .p, .p]) (rest := []) (ks := [2, 5, 37, 38, 39, 80]) (env' := [(2, .pointer (some ⟨b_5, 0, none⟩)), (5, .pointer (some ⟨b_9, 0, none⟩)), (37, .slice A_17 [b_4, r_16].length c_18), (38, .int .i64 ([b_4, r_16].length : Int)), (39, .int .i64 x_19), (80, .bool (r_33.1 != (r_29.2.2.S_.length : Int)))]) (H' := [⟨47, b_32, [.slice A_30 r_29.1.Steps.length c_31, .int .i64 r_29.1.State, .int .i64 r_29.1.Cursor, .int .i64 r_29.1.Failed]⟩, ⟨45, b_24, [.string (bs r_29.2.2.S_), .bool r_29.2.2.Bad]⟩, ⟨46, b_28, [.slice A_26 r_25.1.Steps.length c_27, .int .i64 r_25.1.State, .int .i64 r_25.1.Cursor, .int .i64 r_25.1.Failed]⟩, ⟨44, b_23, [.string (bs r_25.2.2.s), .bool r_25.2.2.bad]⟩, ⟨40, b_5, [.slice A_2 s_1.Steps.length c_3, .int .i64 s_1.State, .int .i64 s_1.Cursor, .int .i64 s_1.Failed]⟩, ⟨41, b_9, [.slice A_11 r_10.b.length c_12]⟩]) (ps := [b_24 = b_24]) (by kernel_rfl) (And.intro rfl trivial) ?_
          refine GoO.regionEnd ?_
          exact GoO.sub (ks := [2, 5, 37, 38, 39, 80]) (hk := [4, 5]) (bk := [2, 3, 4]) (by kernel_rfl) (by kernel_rfl) (by kernel_rfl) (tontinelaw14_SagaBytes_j0_ok n (tontinelaw14_SagaBytes.l0 n s_1 b_4 r_10 r_16 k) s_1 b_4 r_10 r_16 x_19 A_2 c_3 b_5 b_9 A_11 c_12 A_17 c_18 w0 S0 ih0 (r_33.1 != (r_29.2.2.S_.length : Int)))
    · refine GoO.exit' c14_40e rfl ?_
      refine GoO.seq' c14_61e ?_
      refine GoO.region' (is := [0, 1, 2, 3]) c14_62e (by kernel_rfl) ?_
      refine GoO.exec (is := [0]) (hs := [.p]) (rest := [1, 2, 3]) (ks := [2, 82]) (env' := [(2, .pointer (some ⟨b_5, 0, none⟩)), (82, .pointer (some ⟨b_9, 0, none⟩))]) (H' := [⟨40, b_5, [.slice A_2 s_1.Steps.length c_3, .int .i64 s_1.State, .int .i64 s_1.Cursor, .int .i64 s_1.Failed]⟩, ⟨41, b_9, [.slice A_11 r_10.b.length c_12]⟩]) (ps := []) (by kernel_rfl) trivial ?_
      refine OpTo.go (GoO.call rfl (by kernel_rfl) (by kernel_rfl) (pack_Writer_Bytes_ok n r_10 b_9 A_11 c_12) [[0], [41], [42]] [] [(1, 1)] [(2, 1)] (hks := [0, 1]) (bks := [0, 1, 2]) (by kernel_rfl) (by kernel_rfl) (by kernel_rfl) (.inl rfl) rfl rfl (by kernel_rfl) (by kernel_rfl) _ (fun _ _ => rfl) _ _ (fun _ _ => rfl) (fun _ _ => rfl) (fun _ _ => by kernel_rfl) (fun _ _ => by kernel_rfl) (fun r_43 x_61 => ?_))
      refine GoO.shape (env' := [(2, .pointer (some ⟨b_5, 0, none⟩)), (82, .pointer (some ⟨b_9, 0, none⟩)), (83, .string (bs r_43))]) (H' := [⟨40, b_5, [.slice A_2 s_1.Steps.length c_3, .int .i64 s_1.State, .int .i64 s_1.Cursor, .int .i64 s_1.Failed]⟩, ⟨41, b_9, [.slice A_11 r_10.b.length c_12]⟩]) (B' := [Rd 0 kT_api_Step A_2 c_3 s_1.Steps, Ow 42 Kd.u8 A_11 c_12 r_10.b, Ow 43 Kd.str A_17 c_18 [b_4, r_16]]) (ks := [2, 82, 83]) (by kernel_rfl) (by kernel_rfl) (by kernel_rfl) ?_
      refine OpTo.go (GoO.call rfl (by kernel_rfl) (by kernel_rfl) (pack_From_ok n r_43) [[0]] [(48, 1)] [] [] (hks := [0, 1]) (bks := [0, 1, 2]) (by kernel_rfl) (by kernel_rfl) (by kernel_rfl) (.inl rfl) rfl rfl (by kernel_rfl) (by kernel_rfl) _ (fun _ _ => rfl) _ _ (fun _ _ => rfl) (fun _ _ => rfl) (fun _ _ => by kernel_rfl) (fun _ _ => by kernel_rfl) (fun r_44 b_45 => ?_))
      refine GoO.shape (env' := [(2, .pointer (some ⟨b_5, 0, none⟩)), (82, .pointer (some ⟨b_9, 0, none⟩)), (83, .string (bs r_43)), (84, .pointer (some ⟨b_45, 0, none⟩))]) (H' := [⟨48, b_45, [.string (bs r_44.s), .bool r_44.bad]⟩, ⟨40, b_5, [.slice A_2 s_1.Steps.length c_3, .int .i64 s_1.State, .int .i64 s_1.Cursor, .int .i64 s_1.Failed]⟩, ⟨41, b_9, [.slice A_11 r_10.b.length c_12]⟩]) (B' := [Rd 0 kT_api_Step A_2 c_3 s_1.Steps, Ow 42 Kd.u8 A_11 c_12 r_10.b, Ow 43 Kd.str A_17 c_18 [b_4, r_16]]) (ks := [2, 82, 83, 84]) (by kernel_rfl) (by kernel_rfl) (by kernel_rfl) ?_
      refine GoO.exec (is := [3]) (hs := [.p]) (rest := []) (ks := [2, 16]) (env' := [(2, .pointer (some ⟨b_5, 0, none⟩)), (16, .pointer (some ⟨b_45, 0, none⟩))]) (H' := [⟨48, b_45, [.string (bs r_44.s), .bool r_44.bad]⟩, ⟨40, b_5, [.slice A_2 s_1.Steps.length c_3, .int .i64 s_1.State, .int .i64 s_1.Cursor, .int .i64 s_1.Failed]⟩, ⟨41, b_9, [.slice A_11 r_10.b.length c_12]⟩]) (ps := []) (by kernel_rfl) trivial ?_
      refine GoO.regionEnd ?_
      refine GoO.seq' c14_63e ?_
      refine GoO.region' (is := [0, 1, 2, 3, 4, 5, 6, 7]) c14_64e (by kernel_rfl) ?_
      refine GoO.exec (is := [0]) (hs := [.p]) (rest := [1, 2, 3, 4, 5, 6, 7]) (ks := [2, 16, 86]) (env' := [(2, .pointer (some ⟨b_5, 0, none⟩)), (16, .pointer (some ⟨b_45, 0, none⟩)), (86, .pointer (some ⟨b_45, 0, none⟩))]) (H' := [⟨48, b_45, [.string (bs r_44.s), .bool r_44.bad]⟩, ⟨40, b_5, [.slice A_2 s_1.Steps.length c_3, .int .i64 s_1.State, .int .i64 s_1.Cursor, .int .i64 s_1.Failed]⟩, ⟨41, b_9, [.slice A_11 r_10.b.length c_12]⟩]) (ps := []) (by kernel_rfl) trivial ?_
      refine OpTo.go (GoO.call rfl (by kernel_rfl) (by kernel_rfl) (saga_Read_ok n r_44 b_45) [[0], [48]] [(48, 1)] [(1, 0)] [] (hks := [1, 2]) (bks := [0, 1, 2]) (by kernel_rfl) (by kernel_rfl) (by kernel_rfl) (.inl rfl) rfl rfl (by kernel_rfl) (by kernel_rfl) _ (fun _ _ => rfl) _ _ (fun _ _ => rfl) (fun _ _ => rfl) (fun _ _ => by kernel_rfl) (fun _ _ => by kernel_rfl) (fun r_46 x_59 => ?_))
      obtain ⟨A_47, c_48⟩ := x_59
      refine GoO.shape (env' := [(2, .pointer (some ⟨b_5, 0, none⟩)), (16, .pointer (some ⟨b_45, 0, none⟩)), (86, .pointer (some ⟨b_45, 0, none⟩)), (87, .tuple ⟨[.agg ⟨[.slice A_47 r_46.1.Steps.length c_48, .int .i64 r_46.1.State, .int .i64 r_46.1.Cursor, .int .i64 r_46.1.Failed]⟩, .bool r_46.2.1]⟩)]) (H' := [⟨48, b_45, [.string (bs r_46.2.2.s), .bool r_46.2.2.bad]⟩, ⟨40, b_5, [.slice A_2 s_1.Steps.length c_3, .int .i64 s_1.State, .int .i64 s_1.Cursor, .int .i64 s_1.Failed]⟩, ⟨41, b_9, [.slice A_11 r_10.b.length c_12]⟩]) (B' := [Rd 0 kT_api_Step A_47 c_48 r_46.1.Steps, Rd 0 kT_api_Step A_2 c_3 s_1.Steps, Ow 42 Kd.u8 A_11 c_12 r_10.b, Ow 43 Kd.str A_17 c_18 [b_4, r_16]]) (ks := [2, 16, 86, 87]) (by kernel_rfl) (by kernel_rfl) (by kernel_rfl) ?_
      refine GoO.exec (is := [2, 3, 4]) (hs := [.p, .p, .p]) (rest := [5, 6, 7]) (ks := [2, 16, 88, 89]) (env' := [(2, .pointer (some ⟨b_5, 0, none⟩)), (16, .pointer (some ⟨b_45, 0, none⟩)), (88, .agg ⟨[.slice A_47 r_46.1.Steps.length c_48, .int .i64 r_46.1.State, .int .i64 r_46.1.Cursor, .int .i64 r_46.1.Failed]⟩), (89, .bool r_46.2.1)]) (H' := [⟨48, b_45, [.string (bs r_46.2.2.s), .bool r_46.2.2.bad]⟩, ⟨40, b_5, [.slice A_2 s_1.Steps.length c_3, .int .i64 s_1.State, .int .i64 s_1.Cursor, .int .i64 s_1.Failed]⟩, ⟨41, b_9, [.slice A_11 r_10.b.length c_12]⟩]) (ps := []) (by kernel_rfl) trivial ?_
      refine OpTo.go (GoO.new rfl 49 (cs := [.slice none ([] : List T_api_Step).length 0, .int .i64 0, .int .i64 0, .int .i64 0]) (by kernel_rfl) _ (fun _ => rfl) (fun b_49 => ?_))
      refine GoO.exec (is := [6, 7]) (hs := [.b 0, .p]) (rest := []) (ks := [2, 16, 17, 18]) (env' := [(2, .pointer (some ⟨b_5, 0, none⟩)), (16, .pointer (some ⟨b_45, 0, none⟩)), (17, .pointer (some ⟨b_49, 0, none⟩)), (18, .bool r_46.2.1)]) (H' := [⟨49, b_49, [.slice A_47 r_46.1.Steps.length c_48, .int .i64 r_46.1.State, .int .i64 r_46.1.Cursor, .int .i64 r_46.1.Failed]⟩, ⟨48, b_45, [.string (bs r_46.2.2.s), .bool r_46.2.2.bad]⟩, ⟨40, b_5, [.slice A_2 s_1.Steps.length c_3, .int .i64 s_1.State, .int .i64 s_1.Cursor, .int .i64 s_1.Failed]⟩, ⟨41, b_9, [.slice A_11 r_10.b.length c_12]⟩]) (ps := [b_49 = b_49]) (by kernel_rfl) (And.intro rfl trivial) ?_
      refine GoO.regionEnd ?_
      refine GoO.seq' c14_65e ?_
      refine GoO.region' (is := [0, 1, 2, 3, 4, 5, 6, 7, 8, 9, 10, 11, 12, 13, 14, 15]) c14_66e (by kernel_rfl) ?_
      refine GoO.exec (is := [0]) (hs := [.b 2]) (rest := [1, 2, 3, 4, 5, 6, 7, 8, 9, 10, 11, 12, 13, 14, 15]) (ks := [2, 16, 17, 18, 90]) (env' := [(2, .pointer (some ⟨b_5, 0, none⟩)), (16, .pointer (some ⟨b_45, 0, none⟩)), (17, .pointer (some ⟨b_49, 0, none⟩)), (18, .bool r_46.2.1), (90, .agg ⟨[.slice A_2 s_1.Steps.length c_3, .int .i64 s_1.State, .int .i64 s_1.Cursor, .int .i64 s_1.Failed]⟩)]) (H' := [⟨49, b_49, [.slice A_47 r_46.1.Steps.length c_48, .int .i64 r_46.1.State, .int .i64 r_46.1.Cursor, .int .i64 r_46.1.Failed]⟩, ⟨48, b_45, [.string (bs r_46.2.2.s), .bool r_46.2.2.bad]⟩, ⟨40, b_5, [.slice A_2 s_1.Steps.length c_3, .int .i64 s_1.State, .int .i64 s_1.Cursor, .int .i64 s_1.Failed]⟩, ⟨41, b_9, [.slice A_11 r_10.b.length c_12]⟩]) (ps := [b_5 = b_5]) (by kernel_rfl) (And.intro rfl trivial) ?_
      refine OpTo.go (GoO.call rfl (by kernel_rfl) (by kernel_rfl) (saga_Sound_ok n s_1 A_2 c_3) [[0]] [] [] [(0, 1)] (hks := [0, 1, 2, 3]) (bks := [0, 1, 2, 3]) (by kernel_rfl) (by kernel_rfl) (by kernel_rfl) (.inl rfl) rfl rfl (by kernel_rfl) (by kernel_rfl) _ (fun _ _ => rfl) _ _ (fun _ _ => rfl) (fun _ _ => rfl) (fun _ _ => by kernel_rfl) (fun _ _ => by kernel_rfl) (fun r_50 x_58 => ?_))
      refine GoO.shape (env' := [(2, .pointer (some ⟨b_5, 0, none⟩)), (16, .pointer (some ⟨b_45, 0, none⟩)), (17, .pointer (some ⟨b_49, 0, none⟩)), (18, .bool r_46.2.1), (90, .agg ⟨[.slice A_2 s_1.Steps.length c_3, .int .i64 s_1.State, .int .i64 s_1.Cursor, .int .i64 s_1.Failed]⟩), (91, .bool r_50)]) (H' := [⟨49, b_49, [.slice A_47 r_46.1.Steps.length c_48, .int .i64 r_46.1.State, .int .i64 r_46.1.Cursor, .int .i64 r_46.1.Failed]⟩, ⟨48, b_45, [.string (bs r_46.2.2.s), .bool r_46.2.2.bad]⟩, ⟨40, b_5, [.slice A_2 s_1.Steps.length c_3, .int .i64 s_1.State, .int .i64 s_1.Cursor, .int .i64 s_1.Failed]⟩, ⟨41, b_9, [.slice A_11 r_10.b.length c_12]⟩]) (B' := [Rd 0 kT_api_Step A_47 c_48 r_46.1.Steps, Rd 0 kT_api_Step A_2 c_3 s_1.Steps, Ow 42 Kd.u8 A_11 c_12 r_10.b, Ow 43 Kd.str A_17 c_18 [b_4, r_16]]) (ks := [2, 16, 17, 18, 90, 91]) (by kernel_rfl) (by kernel_rfl) (by kernel_rfl) ?_
      refine GoO.exec (is := [2, 3]) (hs := [.p, .p]) (rest := [4, 5, 6, 7, 8, 9, 10, 11, 12, 13, 14, 15]) (ks := [2, 16, 17, 18, 93]) (env' := [(2, .pointer (some ⟨b_5, 0, none⟩)), (16, .pointer (some ⟨b_45, 0, none⟩)), (17, .pointer (some ⟨b_49, 0, none⟩)), (18, .bool r_46.2.1), (93, .bool (!r_50))]) (H' := [⟨49, b_49, [.slice A_47 r_46.1.Steps.length c_48, .int .i64 r_46.1.State, .int .i64 r_46.1.Cursor, .int .i64 r_46.1.Failed]⟩, ⟨48, b_45, [.string (bs r_46.2.2.s), .bool r_46.2.2.bad]⟩, ⟨40, b_5, [.slice A_2 s_1.Steps.length c_3, .int .i64 s_1.State, .int .i64 s_1.Cursor, .int .i64 s_1.Failed]⟩, ⟨41, b_9, [.slice A_11 r_10.b.length c_12]⟩]) (ps := []) (by kernel_rfl) trivial ?_
      refine GoO.bsplit (t := 93) (by kernel_rfl) (fun h51 => ?_) (fun h51 => ?_)
      · refine GoO.exec (is := [4, 5, 6, 7, 8, 9, 10, 11, 12, 13, 14, 15]) (hs := [.p, .p, .p, .p, .p, .p, .p, .p, .p, .p, .p, .p]) (rest := []) (ks := [4]) (env' := [(4, .bool true)]) (H' := [⟨49, b_49, [.slice A_47 r_46.1.Steps.length c_48, .int .i64 r_46.1.State, .int .i64 r_46.1.Cursor, .int .i64 r_46.1.Failed]⟩, ⟨48, b_45, [.string (bs r_46.2.2.s), .bool r_46.2.2.bad]⟩, ⟨40, b_5, [.slice A_2 s_1.Steps.length c_3, .int .i64 s_1.State, .int .i64 s_1.Cursor, .int .i64 s_1.Failed]⟩, ⟨41, b_9, [.slice A_11 r_10.b.length c_12]⟩]) (ps := []) (by kernel_rfl) trivial ?_
        refine GoO.regionEnd ?_
        exact GoO.ret' (h := c14_67e) (hs := []) (ps := []) (hk := []) (bk := []) Try.func14 () (by kernel_rfl) trivial (by kernel_rfl) (by kernel_rfl)
      · refine GoO.exec (is := [4, 5]) (hs := [.p, .p]) (rest := [6, 7, 8, 9, 10, 11, 12, 13, 14, 15]) (ks := [2, 16, 17, 93, 95]) (env' := [(2, .pointer (some ⟨b_5, 0, none⟩)), (16, .pointer (some ⟨b_45, 0, none⟩)), (17, .pointer (some ⟨b_49, 0, none⟩)), (93, .bool false), (95, .bool r_46.2.1)]) (H' := [⟨49, b_49, [.slice A_47 r_46.1.Steps.length c_48, .int .i64 r_46.1.State, .int .i64 r_46.1.Cursor, .int .i64 r_46.1.Failed]⟩, ⟨48, b_45, [.string (bs r_46.2.2.s), .bool r_46.2.2.bad]⟩, ⟨40, b_5, [.slice A_2 s_1.Steps.length c_3, .int .i64 s_1.State, .int .i64 s_1.Cursor, .int .i64 s_1.Failed]⟩, ⟨41, b_9, [.slice A_11 r_10.b.length c_12]⟩]) (ps := []) (by kernel_rfl) trivial ?_
        refine GoO.bsplit (t := 95) (by kernel_rfl) (fun h52 => ?_) (fun h52 => ?_)
        · refine GoO.exec (is := [6, 7]) (hs := [.b 2, .b 0]) (rest := [8, 9, 10, 11, 12, 13, 14, 15]) (ks := [16, 93, 95, 96, 97]) (env' := [(16, .pointer (some ⟨b_45, 0, none⟩)), (93, .bool false), (95, .bool true), (96, .agg ⟨[.slice A_2 s_1.Steps.length c_3, .int .i64 s_1.State, .int .i64 s_1.Cursor, .int .i64 s_1.Failed]⟩), (97, .agg ⟨[.slice A_47 r_46.1.Steps.length c_48, .int .i64 r_46.1.State, .int .i64 r_46.1.Cursor, .int .i64 r_46.1.Failed]⟩)]) (H' := [⟨49, b_49, [.slice A_47 r_46.1.Steps.length c_48, .int .i64 r_46.1.State, .int .i64 r_46.1.Cursor, .int .i64 r_46.1.Failed]⟩, ⟨48, b_45, [.string (bs r_46.2.2.s), .bool r_46.2.2.bad]⟩, ⟨40, b_5, [.slice A_2 s_1.Steps.length c_3, .int .i64 s_1.State, .int .i64 s_1.Cursor, .int .i64 s_1.Failed]⟩, ⟨41, b_9, [.slice A_11 r_10.b.length c_12]⟩]) (ps := [b_5 = b_5, b_49 = b_49]) (by kernel_rfl) (And.intro rfl (And.intro rfl trivial)) ?_
          refine OpTo.go (GoO.call rfl (by kernel_rfl) (by kernel_rfl) (tontineref14_Same_ok n s_1 r_46.1 A_2 c_3 A_47 c_48) [[0]] [] [] [(0, 1), (0, 0)] (hks := [0, 1, 2, 3]) (bks := [0, 1, 2, 3]) (by kernel_rfl) (by kernel_rfl) (by kernel_rfl) (.inl rfl) rfl rfl (by kernel_rfl) (by kernel_rfl) _ (fun _ _ => rfl) _ _ (fun _ _ => rfl) (fun _ _ => rfl) (fun _ _ => by kernel_rfl) (fun _ _ => by kernel_rfl) (fun r_53 x_57 => ?_))
          refine GoO.shape (env' := [(16, .pointer (some ⟨b_45, 0, none⟩)), (93, .bool false), (95, .bool true), (96, .agg ⟨[.slice A_2 s_1.Steps.length c_3, .int .i64 s_1.State, .int .i64 s_1.Cursor, .int .i64 s_1.Failed]⟩), (97, .agg ⟨[.slice A_47 r_46.1.Steps.length c_48, .int .i64 r_46.1.State, .int .i64 r_46.1.Cursor, .int .i64 r_46.1.Failed]⟩), (98, .bool r_53)]) (H' := [⟨49, b_49, [.slice A_47 r_46.1.Steps.length c_48, .int .i64 r_46.1.State, .int .i64 r_46.1.Cursor, .int .i64 r_46.1.Failed]⟩, ⟨48, b_45, [.string (bs r_46.2.2.s), .bool r_46.2.2.bad]⟩, ⟨40, b_5, [.slice A_2 s_1.Steps.length c_3, .int .i64 s_1.State, .int .i64 s_1.Cursor, .int .i64 s_1.Failed]⟩, ⟨41, b_9, [.slice A_11 r_10.b.length c_12]⟩]) (B' := [Rd 0 kT_api_Step A_47 c_48 r_46.1.Steps, Rd 0 kT_api_Step A_2 c_3 s_1.Steps, Ow 42 Kd.u8 A_11 c_12 r_10.b, Ow 43 Kd.str A_17 c_18 [b_4, r_16]]) (ks := [16, 93, 95, 96, 97, 98]) (by kernel_rfl) (by kernel_rfl) (by kernel_rfl) ?_
          refine GoO.exec (is := [9, 10]) (hs := [.p, .p]) (rest := [11, 12, 13, 14, 15]) (ks := [16, 93, 100]) (env' := [(16, .pointer (some ⟨b_45, 0, none⟩)), (93, .bool false), (100, .bool r_53)]) (H' := [⟨49, b_49, [.slice A_47 r_46.1.Steps.length c_48, .int .i64 r_46.1.State, .int .i64 r_46.1.Cursor, .int .i64 r_46.1.Failed]⟩, ⟨48, b_45, [.string (bs r_46.2.2.s), .bool r_46.2.2.bad]⟩, ⟨40, b_5, [.slice A_2 s_1.Steps.length c_3, .int .i64 s_1.State, .int .i64 s_1.Cursor, .int .i64 s_1.Failed]⟩, ⟨41, b_9, [.slice A_11 r_10.b.length c_12]⟩]) (ps := []) (by kernel_rfl) trivial ?_
          refine GoO.bsplit (t := 100) (by kernel_rfl) (fun h54 => ?_) (fun h54 => ?_)
          · refine GoO.exec (is := [11]) (hs := [.p]) (rest := [12, 13, 14, 15]) (ks := [93, 100, 101]) (env' := [(93, .bool false), (100, .bool true), (101, .pointer (some ⟨b_45, 0, none⟩))]) (H' := [⟨49, b_49, [.slice A_47 r_46.1.Steps.length c_48, .int .i64 r_46.1.State, .int .i64 r_46.1.Cursor, .int .i64 r_46.1.Failed]⟩, ⟨48, b_45, [.string (bs r_46.2.2.s), .bool r_46.2.2.bad]⟩, ⟨40, b_5, [.slice A_2 s_1.Steps.length c_3, .int .i64 s_1.State, .int .i64 s_1.Cursor, .int .i64 s_1.Failed]⟩, ⟨41, b_9, [.slice A_11 r_10.b.length c_12]⟩]) (ps := []) (by kernel_rfl) trivial ?_
            refine OpTo.go (GoO.call rfl (by kernel_rfl) (by kernel_rfl) (pack_Reader_Done_ok n r_46.2.2 b_45) [[0], [48]] [] [(1, 1)] [] (hks := [0, 1, 2, 3]) (bks := [0, 1, 2, 3]) (by kernel_rfl) (by kernel_rfl) (by kernel_rfl) (.inl rfl) rfl rfl (by kernel_rfl) (by kernel_rfl) _ (fun _ _ => rfl) _ _ (fun _ _ => rfl) (fun _ _ => rfl) (fun _ _ => by kernel_rfl) (fun _ _ => by kernel_rfl) (fun r_55 x_56 => ?_))
            refine GoO.shape (env' := [(93, .bool false), (100, .bool true), (101, .pointer (some ⟨b_45, 0, none⟩)), (102, .bool r_55)]) (H' := [⟨49, b_49, [.slice A_47 r_46.1.Steps.length c_48, .int .i64 r_46.1.State, .int .i64 r_46.1.Cursor, .int .i64 r_46.1.Failed]⟩, ⟨48, b_45, [.string (bs r_46.2.2.s), .bool r_46.2.2.bad]⟩, ⟨40, b_5, [.slice A_2 s_1.Steps.length c_3, .int .i64 s_1.State, .int .i64 s_1.Cursor, .int .i64 s_1.Failed]⟩, ⟨41, b_9, [.slice A_11 r_10.b.length c_12]⟩]) (B' := [Rd 0 kT_api_Step A_47 c_48 r_46.1.Steps, Rd 0 kT_api_Step A_2 c_3 s_1.Steps, Ow 42 Kd.u8 A_11 c_12 r_10.b, Ow 43 Kd.str A_17 c_18 [b_4, r_16]]) (ks := [93, 100, 101, 102]) (by kernel_rfl) (by kernel_rfl) (by kernel_rfl) ?_
            refine GoO.exec (is := [13, 14, 15]) (hs := [.p, .p, .p]) (rest := []) (ks := [4]) (env' := [(4, .bool r_55)]) (H' := [⟨49, b_49, [.slice A_47 r_46.1.Steps.length c_48, .int .i64 r_46.1.State, .int .i64 r_46.1.Cursor, .int .i64 r_46.1.Failed]⟩, ⟨48, b_45, [.string (bs r_46.2.2.s), .bool r_46.2.2.bad]⟩, ⟨40, b_5, [.slice A_2 s_1.Steps.length c_3, .int .i64 s_1.State, .int .i64 s_1.Cursor, .int .i64 s_1.Failed]⟩, ⟨41, b_9, [.slice A_11 r_10.b.length c_12]⟩]) (ps := []) (by kernel_rfl) trivial ?_
            refine GoO.regionEnd ?_
            exact GoO.ret' (h := c14_67e) (hs := []) (ps := []) (hk := []) (bk := []) Try.func14 () (by kernel_rfl) trivial (by kernel_rfl) (by kernel_rfl)
          · refine GoO.exec (is := [11, 12, 13, 14, 15]) (hs := [.p, .p, .p, .p, .p]) (rest := []) (ks := [4]) (env' := [(4, .bool false)]) (H' := [⟨49, b_49, [.slice A_47 r_46.1.Steps.length c_48, .int .i64 r_46.1.State, .int .i64 r_46.1.Cursor, .int .i64 r_46.1.Failed]⟩, ⟨48, b_45, [.string (bs r_46.2.2.s), .bool r_46.2.2.bad]⟩, ⟨40, b_5, [.slice A_2 s_1.Steps.length c_3, .int .i64 s_1.State, .int .i64 s_1.Cursor, .int .i64 s_1.Failed]⟩, ⟨41, b_9, [.slice A_11 r_10.b.length c_12]⟩]) (ps := []) (by kernel_rfl) trivial ?_
            refine GoO.regionEnd ?_
            exact GoO.ret' (h := c14_67e) (hs := []) (ps := []) (hk := []) (bk := []) Try.func14 () (by kernel_rfl) trivial (by kernel_rfl) (by kernel_rfl)
        · refine GoO.exec (is := [6, 7, 8, 9, 10, 11, 12, 13, 14, 15]) (hs := [.p, .p, .p, .p, .p, .p, .p, .p, .p, .p]) (rest := []) (ks := [4]) (env' := [(4, .bool false)]) (H' := [⟨49, b_49, [.slice A_47 r_46.1.Steps.length c_48, .int .i64 r_46.1.State, .int .i64 r_46.1.Cursor, .int .i64 r_46.1.Failed]⟩, ⟨48, b_45, [.string (bs r_46.2.2.s), .bool r_46.2.2.bad]⟩, ⟨40, b_5, [.slice A_2 s_1.Steps.length c_3, .int .i64 s_1.State, .int .i64 s_1.Cursor, .int .i64 s_1.Failed]⟩, ⟨41, b_9, [.slice A_11 r_10.b.length c_12]⟩]) (ps := []) (by kernel_rfl) trivial ?_
          refine GoO.regionEnd ?_
          exact GoO.ret' (h := c14_67e) (hs := []) (ps := []) (hk := []) (bk := []) Try.func14 () (by kernel_rfl) trivial (by kernel_rfl) (by kernel_rfl)
theorem tontinelaw14_SagaBytes_ok (n : Nat) (s_1 : T_api_Saga) (b_4 : (List UInt8)) (A_2 : Option Addr) (c_3 : Nat) :
    Meets Try.prog 14 [.agg ⟨[.slice A_2 s_1.Steps.length c_3, .int .i64 s_1.State, .int .i64 s_1.Cursor, .int .i64 s_1.Failed]⟩, .string (bs b_4)] 0 [] [] [Rd 0 kT_api_Step A_2 c_3 s_1.Steps] (tontinelaw14_SagaBytes.f n s_1 b_4) (tontinelaw14_SagaBytes.R A_2 c_3) := by
  refine Meets.of (c := c14_0) (n := 105) Try.func14 (by kernel_rfl) (by kernel_rfl) (by kernel_rfl) fun w0 S0 => ?_
  unfold tontinelaw14_SagaBytes.f
  show GoO (tontinelaw14_SagaBytes.cx A_2 c_3 w0 S0) [(0, .agg ⟨[.slice A_2 s_1.Steps.length c_3, .int .i64 s_1.State, .int .i64 s_1.Cursor, .int .i64 s_1.Failed]⟩), (1, .string (bs b_4))] [] [Rd 0 kT_api_Step A_2 c_3 s_1.Steps] [.code c14_0] _
  refine GoO.seq' c14_0e ?_
  refine GoO.region' (is := [0, 1]) c14_1e (by kernel_rfl) ?_
  refine OpTo.go (GoO.new rfl 40 (cs := [.slice A_2 s_1.Steps.length c_3, .int .i64 s_1.State, .int .i64 s_1.Cursor, .int .i64 s_1.Failed]) (by kernel_rfl) _ (fun _ => rfl) (fun b_5 => ?_))
  refine GoO.exec (is := [1]) (hs := [.p]) (rest := []) (ks := [1, 2]) (env' := [(1, .string (bs b_4)), (2, .pointer (some ⟨b_5, 0, none⟩))]) (H' := [⟨40, b_5, [.slice A_2 s_1.Steps.length c_3, .int .i64 s_1.State, .int .i64 s_1.Cursor, .int .i64 s_1.Failed]⟩]) (ps := []) (by kernel_rfl) trivial ?_
  refine GoO.regionEnd ?_
  refine GoO.seq' c14_2e ?_
  refine GoO.seq' c14_3e ?_
  refine GoO.region' (is := [0, 1]) c14_4e (by kernel_rfl) ?_
  refine OpTo.go (GoO.call rfl (by kernel_rfl) (by kernel_rfl) (tontinelaw14_begun_ok n) [[0]] [] [] [] (hks := [0]) (bks := [0]) (by kernel_rfl) (by kernel_rfl) (by kernel_rfl) (.inl rfl) rfl rfl (by kernel_rfl) (by kernel_rfl) _ (fun _ _ => rfl) _ _ (fun _ _ => rfl) (fun _ _ => rfl) (fun _ _ => by kernel_rfl) (fun _ _ => by kernel_rfl) (fun r_6 x_66 => ?_))
  refine GoO.shape (env' := [(1, .string (bs b_4)), (2, .pointer (some ⟨b_5, 0, none⟩)), (19, .bool r_6)]) (H' := [⟨40, b_5, [.slice A_2 s_1.Steps.length c_3, .int .i64 s_1.State, .int .i64 s_1.Cursor, .int .i64 s_1.Failed]⟩]) (B' := [Rd 0 kT_api_Step A_2 c_3 s_1.Steps]) (ks := [1, 2, 19]) (by kernel_rfl) (by kernel_rfl) (by kernel_rfl) ?_
  refine GoO.exec (is := [1]) (hs := [.p]) (rest := []) (ks := [1, 2, 20]) (env' := [(1, .string (bs b_4)), (2, .pointer (some ⟨b_5, 0, none⟩)), (20, .bool (!r_6))]) (H' := [⟨40, b_5, [.slice A_2 s_1.Steps.length c_3, .int .i64 s_1.State, .int .i64 s_1.Cursor, .int .i64 s_1.Failed]⟩]) (ps := []) (by kernel_rfl) trivial ?_
  refine GoO.regionEnd ?_
  refine GoO.ite' c14_5e (by kernel_rfl) (fun h7 => ?_) (fun h7 => ?_)
  · refine GoO.seq' c14_6e ?_
    refine GoO.region' (is := [0]) c14_7e (by kernel_rfl) ?_
    refine GoO.exec (is := [0]) (hs := [.p]) (rest := []) (ks := [4]) (env' := [(4, .bool false)]) (H' := [⟨40, b_5, [.slice A_2 s_1.Steps.length c_3, .int .i64 s_1.State, .int .i64 s_1.Cursor, .int .i64 s_1.Failed]⟩]) (ps := []) (by kernel_rfl) trivial ?_
    refine GoO.regionEnd ?_
    exact GoO.ret' (h := c14_8e) (hs := []) (ps := []) (hk := []) (bk := []) Try.func14 () (by kernel_rfl) trivial (by kernel_rfl) (by kernel_rfl)
  · refine GoO.skip' c14_9e ?_
    refine GoO.seq' c14_10e ?_
    refine GoO.seq' c14_11e ?_
    refine GoO.region' (is := [0, 1, 2, 3]) c14_12e (by kernel_rfl) ?_
    refine GoO.exec (is := [0, 1, 2, 3]) (hs := [.p, .b 0, .p, .p]) (rest := []) (ks := [1, 2, 24]) (env' := [(1, .string (bs b_4)), (2, .pointer (some ⟨b_5, 0, none⟩)), (24, .bool (decide ((s_1.Steps.length : Int) > 500)))]) (H' := [⟨40, b_5, [.slice A_2 s_1.Steps.length c_3, .int .i64 s_1.State, .int .i64 s_1.Cursor, .int .i64 s_1.Failed]⟩]) (ps := [b_5 = b_5]) (by kernel_rfl) (And.intro rfl trivial) ?_
    refine GoO.regionEnd ?_
    refine GoO.ite' c14_13e (by kernel_rfl) (fun h8 => ?_) (fun h8 => ?_)
    · refine GoO.seq' c14_14e ?_
      refine GoO.region' (is := [0]) c14_15e (by kernel_rfl) ?_
      refine GoO.exec (is := [0]) (hs := [.p]) (rest := []) (ks := [4]) (env' := [(4, .bool true)]) (H' := [⟨40, b_5, [.slice A_2 s_1.Steps.length c_3, .int .i64 s_1.State, .int .i64 s_1.Cursor, .int .i64 s_1.Failed]⟩]) (ps := []) (by kernel_rfl) trivial ?_
      refine GoO.regionEnd ?_
      exact GoO.ret' (h := c14_16e) (hs := []) (ps := []) (hk := []) (bk := []) Try.func14 () (by kernel_rfl) trivial (by kernel_rfl) (by kernel_rfl)
    · refine GoO.skip' c14_17e ?_
      refine GoO.seq' c14_18e ?_
      refine GoO.region' (is := [0, 1]) c14_19e (by kernel_rfl) ?_
      refine OpTo.go (GoO.new rfl 41 (cs := [.slice none ([] : List UInt8).length 0]) (by kernel_rfl) _ (fun _ => rfl) (fun b_9 => ?_))
      refine GoO.exec (is := [1]) (hs := [.p]) (rest := []) (ks := [1, 2, 5]) (env' := [(1, .string (bs b_4)), (2, .pointer (some ⟨b_5, 0, none⟩)), (5, .pointer (some ⟨b_9, 0, none⟩))]) (H' := [⟨41, b_9, [.slice none ([] : List UInt8).length 0]⟩, ⟨40, b_5, [.slice A_2 s_1.Steps.length c_3, .int .i64 s_1.State, .int .i64 s_1.Cursor, .int .i64 s_1.Failed]⟩]) (ps := []) (by kernel_rfl) trivial ?_
      refine GoO.regionEnd ?_
      refine GoO.seq' c14_20e ?_
      refine GoO.region' (is := [0, 1, 2]) c14_21e (by kernel_rfl) ?_
      refine GoO.exec (is := [0, 1]) (hs := [.p, .b 1]) (rest := [2]) (ks := [1, 2, 5, 26, 27]) (env' := [(1, .string (bs b_4)), (2, .pointer (some ⟨b_5, 0, none⟩)), (5, .pointer (some ⟨b_9, 0, none⟩)), (26, .pointer (some ⟨b_9, 0, none⟩)), (27, .agg ⟨[.slice A_2 s_1.Steps.length c_3, .int .i64 s_1.State, .int .i64 s_1.Cursor, .int .i64 s_1.Failed]⟩)]) (H' := [⟨41, b_9, [.slice none ([] : List UInt8).length 0]⟩, ⟨40, b_5, [.slice A_2 s_1.Steps.length c_3, .int .i64 s_1.State, .int .i64 s_1.Cursor, .int .i64 s_1.Failed]⟩]) (ps := [b_5 = b_5]) (by kernel_rfl) (And.intro rfl trivial) ?_
      refine GoO.nilOwn Kd.u8 42 ?_
      refine OpTo.go (GoO.call rfl (by kernel_rfl) (by kernel_rfl) (saga_Write_ok n (⟨[]⟩ : T_pack_Writer) s_1 b_9 none 0 A_2 c_3) [[0], [41], [42]] [(41, 1), (42, 2)] [(1, 0)] [(2, 0), (0, 1)] (hks := [1]) (bks := [1]) (by kernel_rfl) (by kernel_rfl) (by kernel_rfl) (.inl rfl) rfl rfl (by kernel_rfl) (by kernel_rfl) _ (fun _ _ => rfl) _ _ (fun _ _ => rfl) (fun _ _ => rfl) (fun _ _ => by kernel_rfl) (fun _ _ => by kernel_rfl) (fun r_10 x_65 => ?_))
      obtain ⟨A_11, c_12⟩ := x_65
      refine GoO.shape (env' := [(1, .string (bs b_4)), (2, .pointer (some ⟨b_5, 0, none⟩)), (5, .pointer (some ⟨b_9, 0, none⟩)), (26, .pointer (some ⟨b_9, 0, none⟩)), (27, .agg ⟨[.slice A_2 s_1.Steps.length c_3, .int .i64 s_1.State, .int .i64 s_1.Cursor, .int .i64 s_1.Failed]⟩), (28, .tuple ⟨[]⟩)]) (H' := [⟨41, b_9, [.slice A_11 r_10.b.length c_12]⟩, ⟨40, b_5, [.slice A_2 s_1.Steps.length c_3, .int .i64 s_1.State, .int .i64 s_1.Cursor, .int .i64 s_1.Failed]⟩]) (B' := [Ow 42 Kd.u8 A_11 c_12 r_10.b, Rd 0 kT_api_Step A_2 c_3 s_1.Steps]) (ks := [1, 2, 5, 26, 27, 28]) (by kernel_rfl) (by kernel_rfl) (by kernel_rfl) ?_
      refine GoO.regionEnd ?_
      refine GoO.seq' c14_22e ?_
      refine GoO.seq' c14_23e ?_
      refine GoO.draw c14_24e (by kernel_rfl) [] [⟨40, b_5, [.slice A_2 s_1.Steps.length c_3, .int .i64 s_1.State, .int .i64 s_1.Cursor, .int .i64 s_1.Failed]⟩] [] (n := 5) (by kernel_rfl) ?_
      simp only [List.replicate]
      refine GoF.take [0, 2] [.p, .b 0] (ks := [1, 2, 5, 29, 31]) (fu := 3) (li := [true, false, true, false, false]) (env' := [(1, .string (bs b_4)), (2, .pointer (some ⟨b_5, 0, none⟩)), (5, .pointer (some ⟨b_9, 0, none⟩)), (29, .pointer (some ⟨b_9, 0, none⟩)), (31, .agg ⟨[.slice A_2 s_1.Steps.length c_3, .int .i64 s_1.State, .int .i64 s_1.Cursor, .int .i64 s_1.Failed]⟩)]) (ps := [b_5 = b_5]) (hk := [1]) (bk := []) (by kernel_rfl) (And.intro rfl trivial) rfl rfl ?_
      refine OpTo.goF (i := 1) (by kernel_rfl) (hk := [1]) (bk := []) (GoO.call rfl (by kernel_rfl) (by kernel_rfl) (pack_Writer_Bytes_ok n r_10 b_9 A_11 c_12) [[0], [41], [42]] [] [(1, 0)] [(2, 0)] (hks := [0, 1]) (bks := [0, 1]) (by kernel_rfl) (by kernel_rfl) (by kernel_rfl) (.inl rfl) rfl rfl (by kernel_rfl) (by kernel_rfl) _ (fun _ _ => rfl) _ _ (fun _ _ => rfl) (fun _ _ => rfl) (fun _ _ => by kernel_rfl) (fun _ _ => by kernel_rfl) (fun r_13 x_64 => ⟨rfl, rfl, ?_⟩))
      refine GoF.shape (env' := [(1, .string (bs b_4)), (2, .pointer (some ⟨b_5, 0, none⟩)), (5, .pointer (some ⟨b_9, 0, none⟩)), (29, .pointer (some ⟨b_9, 0, none⟩)), (30, .string (bs r_13)), (31, .agg ⟨[.slice A_2 s_1.Steps.length c_3, .int .i64 s_1.State, .int .i64 s_1.Cursor, .int .i64 s_1.Failed]⟩)]) (H' := [⟨41, b_9, [.slice A_11 r_10.b.length c_12]⟩, ⟨40, b_5, [.slice A_2 s_1.Steps.length c_3, .int .i64 s_1.State, .int .i64 s_1.Cursor, .int .i64 s_1.Failed]⟩]) (B' := [Ow 42 Kd.u8 A_11 c_12 r_10.b, Rd 0 kT_api_Step A_2 c_3 s_1.Steps]) (ks := [1, 2, 5, 29, 30, 31]) (by kernel_rfl) (by kernel_rfl) (by kernel_rfl) ?_
      refine OpTo.goF (i := 3) (by kernel_rfl) (hk := [1]) (bk := []) (GoO.call rfl (by kernel_rfl) (by kernel_rfl) (tontineref14_Bytes_ok n s_1 A_2 c_3) [[0]] [] [] [(0, 1)] (hks := [0, 1]) (bks := [0, 1]) (by kernel_rfl) (by kernel_rfl) (by kernel_rfl) (.inl rfl) rfl rfl (by kernel_rfl) (by kernel_rfl) _ (fun _ _ => rfl) _ _ (fun _ _ => rfl) (fun _ _ => rfl) (fun _ _ => by kernel_rfl) (fun _ _ => by kernel_rfl) (fun r_14 x_63 => ⟨rfl, rfl, ?_⟩))
      refine GoF.shape (env' := [(1, .string (bs b_4)), (2, .pointer (some ⟨b_5, 0, none⟩)), (5, .pointer (some ⟨b_9, 0, none⟩)), (29, .pointer (some ⟨b_9, 0, none⟩)), (30, .string (bs r_13)), (31, .agg ⟨[.slice A_2 s_1.Steps.length c_3, .int .i64 s_1.State, .int .i64 s_1.Cursor, .int .i64 s_1.Failed]⟩), (32, .string (bs r_14))]) (H' := [⟨41, b_9, [.slice A_11 r_10.b.length c_12]⟩, ⟨40, b_5, [.slice A_2 s_1.Steps.length c_3, .int .i64 s_1.State, .int .i64 s_1.Cursor, .int .i64 s_1.Failed]⟩]) (B' := [Ow 42 Kd.u8 A_11 c_12 r_10.b, Rd 0 kT_api_Step A_2 c_3 s_1.Steps]) (ks := [1, 2, 5, 29, 30, 31, 32]) (by kernel_rfl) (by kernel_rfl) (by kernel_rfl) ?_
      refine GoF.take [4] [.p] (ks := [1, 2, 5, 33]) (fu := 0) (li := [true, true, true, true, true]) (env' := [(1, .string (bs b_4)), (2, .pointer (some ⟨b_5, 0, none⟩)), (5, .pointer (some ⟨b_9, 0, none⟩)), (33, .bool (!(r_13 == r_14)))]) (ps := []) (hk := [1]) (bk := []) (by kernel_rfl) trivial rfl rfl ?_
      refine GoF.done (by kernel_rfl) ?_
      refine GoO.ite' c14_25e (by kernel_rfl) (fun h15 => ?_) (fun h15 => ?_)
      · refine GoO.seq' c14_26e ?_
        refine GoO.region' (is := [0]) c14_27e (by kernel_rfl) ?_
        refine GoO.exec (is := [0]) (hs := [.p]) (rest := []) (ks := [4]) (env' := [(4, .bool false)]) (H' := [⟨41, b_9, [.slice A_11 r_10.b.length c_12]⟩, ⟨40, b_5, [.slice A_2 s_1.Steps.length c_3, .int .i64 s_1.State, .int .i64 s_1.Cursor, .int .i64 s_1.Failed]⟩]) (ps := []) (by kernel_rfl) trivial ?_
        refine GoO.regionEnd ?_
        exact GoO.ret' (h := c14_28e) (hs := []) (ps := []) (hk := []) (bk := []) Try.func14 () (by kernel_rfl) trivial (by kernel_rfl) (by kernel_rfl)
      · refine GoO.skip' c14_29e ?_
        refine GoO.seq' c14_30e ?_
        refine GoO.seq' c14_31e ?_
        refine GoO.region' (is := [0, 1, 2, 3, 4, 5]) c14_32e (by kernel_rfl) ?_
        refine GoO.exec (is := [0, 1]) (hs := [.p, .p]) (rest := [2, 3, 4, 5]) (ks := [2, 5, 34, 35]) (env' := [(2, .pointer (some ⟨b_5, 0, none⟩)), (5, .pointer (some ⟨b_9, 0, none⟩)), (34, .string (bs b_4)), (35, .pointer (some ⟨b_9, 0, none⟩))]) (H' := [⟨41, b_9, [.slice A_11 r_10.b.length c_12]⟩, ⟨40, b_5, [.slice A_2 s_1.Steps.length c_3, .int .i64 s_1.State, .int .i64 s_1.Cursor, .int .i64 s_1.Failed]⟩]) (ps := []) (by kernel_rfl) trivial ?_
        refine OpTo.go (GoO.call rfl (by kernel_rfl) (by kernel_rfl) (pack_Writer_Bytes_ok n r_10 b_9 A_11 c_12) [[0], [41], [42]] [] [(1, 0)] [(2, 0)] (hks := [0, 1]) (bks := [0, 1]) (by kernel_rfl) (by kernel_rfl) (by kernel_rfl) (.inl rfl) rfl rfl (by kernel_rfl) (by kernel_rfl) _ (fun _ _ => rfl) _ _ (fun _ _ => rfl) (fun _ _ => rfl) (fun _ _ => by kernel_rfl) (fun _ _ => by kernel_rfl) (fun r_16 x_62 => ?_))
        refine GoO.shape (env' := [(2, .pointer (some ⟨b_5, 0, none⟩)), (5, .pointer (some ⟨b_9, 0, none⟩)), (34, .string (bs b_4)), (35, .pointer (some ⟨b_9, 0, none⟩)), (36, .string (bs r_16))]) (H' := [⟨41, b_9, [.slice A_11 r_10.b.length c_12]⟩, ⟨40, b_5, [.slice A_2 s_1.Steps.length c_3, .int .i64 s_1.State, .int .i64 s_1.Cursor, .int .i64 s_1.Failed]⟩]) (B' := [Ow 42 Kd.u8 A_11 c_12 r_10.b, Rd 0 kT_api_Step A_2 c_3 s_1.Steps]) (ks := [2, 5, 34, 35, 36]) (by kernel_rfl) (by kernel_rfl) (by kernel_rfl) ?_
        refine OpTo.go (GoO.lit (e := 9) (K := Kd.str) rfl (by kernel_rfl) (by kernel_rfl) (cs := [.string (bs b_4), .string (bs r_16)]) (by kernel_rfl) [b_4, r_16] (by kernel_rfl) (by kernel_rfl) (fun w S hB => ⟨[.string (bs b_4)], _, rfl, rfl, ⟨[.string (bs r_16)], _, rfl, rfl, rfl⟩⟩) 43 _ (fun _ _ => rfl) (fun A_17 c_18 => ?_))
        refine GoO.exec (is := [4, 5]) (hs := [.p, .p]) (rest := []) (ks := [2, 5, 37, 38, 39]) (env' := [(2, .pointer (some ⟨b_5, 0, none⟩)), (5, .pointer (some ⟨b_9, 0, none⟩)), (37, .slice A_17 [b_4, r_16].length c_18), (38, .int .i64 ([b_4, r_16].length : Int)), (39, .int .i64 0)]) (H' := [⟨41, b_9, [.slice A_11 r_10.b.length c_12]⟩, ⟨40, b_5, [.slice A_2 s_1.Steps.length c_3, .int .i64 s_1.State, .int .i64 s_1.Cursor, .int .i64 s_1.Failed]⟩]) (ps := []) (by kernel_rfl) trivial ?_
        refine GoO.regionEnd ?_
        refine GoO.block' c14_33e ?_
        refine GoO.loop' c14_34e ?_
        exact GoO.sub (ks := [2, 5, 37, 38, 39]) (hk := [1, 0]) (bk := [2, 1, 0]) (by kernel_rfl) (by kernel_rfl) (by kernel_rfl) (tontinelaw14_SagaBytes_l0_ok n s_1 b_4 r_10 r_16 A_2 c_3 b_5 b_9 A_11 c_12 A_17 c_18 w0 S0 n 0)
end Go.GL
