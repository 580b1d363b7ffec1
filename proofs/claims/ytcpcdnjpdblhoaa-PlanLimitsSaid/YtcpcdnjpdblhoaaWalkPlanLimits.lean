import Derived.Test.YtcpcdnjpdblhoaaKindsT1
import Derived.Test.YtcpcdnjpdblhoaaProg
set_option linter.unusedVariables false
set_option linter.unusedSimpArgs false
set_option maxRecDepth 100000
namespace Go.GL
open Go Go.Proofs

/-! (*tontine/pack.Writer).Num -/
noncomputable def c17_0 : Code := bodyOf Try.f17
noncomputable def c17_1 : Code := cdL c17_0
noncomputable def c17_2 : Code := cdR c17_0
noncomputable def c17_3 : Code := cdL c17_2
noncomputable def c17_4 : Code := cdL c17_3
noncomputable def c17_5 : Code := cdR c17_3
noncomputable def c17_9 : Code := cdR c17_5
noncomputable def c17_10 : Code := cdR c17_2
noncomputable def c17_11 : Code := cdL c17_10
noncomputable def c17_12 : Code := cdR c17_10
noncomputable def c17_13 : Code := cdL c17_12
noncomputable def c17_14 : Code := cdL c17_13
noncomputable def c17_15 : Code := cdR c17_13
noncomputable def c17_16 : Code := cdL c17_15
noncomputable def c17_17 : Code := cdL c17_16
noncomputable def c17_18 : Code := cdL c17_17
noncomputable def c17_19 : Code := cdL c17_18
noncomputable def c17_20 : Code := cdR c17_18
noncomputable def c17_21 : Code := cdL c17_20
noncomputable def c17_22 : Code := cdR c17_20
noncomputable def c17_23 : Code := cdR c17_17
noncomputable def c17_24 : Code := cdL c17_23
noncomputable def c17_25 : Code := cdL c17_24
noncomputable def c17_26 : Code := cdR c17_23
noncomputable def c17_27 : Code := cdR c17_12
noncomputable def c17_28 : Code := cdL c17_27
noncomputable def c17_29 : Code := cdR c17_27
noncomputable def c17_30 : Code := cdL c17_29
noncomputable def c17_31 : Code := cdL c17_30
noncomputable def c17_32 : Code := cdR c17_30
noncomputable def c17_33 : Code := cdL c17_32
noncomputable def c17_34 : Code := cdL c17_33
noncomputable def c17_35 : Code := cdL c17_34
noncomputable def c17_36 : Code := cdL c17_35
noncomputable def c17_37 : Code := cdR c17_35
noncomputable def c17_38 : Code := cdL c17_37
noncomputable def c17_39 : Code := cdR c17_37
noncomputable def c17_40 : Code := cdR c17_34
noncomputable def c17_41 : Code := cdL c17_40
noncomputable def c17_42 : Code := cdL c17_41
noncomputable def c17_43 : Code := cdR c17_40
noncomputable def c17_44 : Code := cdR c17_29
noncomputable def c17_45 : Code := cdL c17_44
noncomputable def c17_46 : Code := cdR c17_44
noncomputable def c17_6 : Code := cdL c17_5
noncomputable def r17_1 : Array Oper := cdO c17_1
noncomputable def r17_4 : Array Oper := cdO c17_4
noncomputable def r17_11 : Array Oper := cdO c17_11
noncomputable def r17_14 : Array Oper := cdO c17_14
noncomputable def r17_19 : Array Oper := cdO c17_19
noncomputable def r17_25 : Array Oper := cdO c17_25
noncomputable def r17_26 : Array Oper := cdO c17_26
noncomputable def r17_28 : Array Oper := cdO c17_28
noncomputable def r17_31 : Array Oper := cdO c17_31
noncomputable def r17_36 : Array Oper := cdO c17_36
noncomputable def r17_42 : Array Oper := cdO c17_42
noncomputable def r17_43 : Array Oper := cdO c17_43
noncomputable def r17_45 : Array Oper := cdO c17_45
theorem c17_0e : c17_0 = .seq c17_1 c17_2 := by kernel_rfl
theorem c17_1e : c17_1 = .region 0 r17_1 false := by kernel_rfl
theorem c17_2e : c17_2 = .seq c17_3 c17_10 := by kernel_rfl
theorem c17_3e : c17_3 = .seq c17_4 c17_5 := by kernel_rfl
theorem c17_4e : c17_4 = .region 1 r17_4 false := by kernel_rfl
theorem c17_5e : c17_5 = .cond (cdC c17_5) c17_6 c17_9 := by kernel_rfl
theorem c17_9e : c17_9 = .skip := by kernel_rfl
theorem c17_10e : c17_10 = .seq c17_11 c17_12 := by kernel_rfl
theorem c17_11e : c17_11 = .region 3 r17_11 false := by kernel_rfl
theorem c17_12e : c17_12 = .seq c17_13 c17_27 := by kernel_rfl
theorem c17_13e : c17_13 = .seq c17_14 c17_15 := by kernel_rfl
theorem c17_14e : c17_14 = .region 4 r17_14 false := by kernel_rfl
theorem c17_15e : c17_15 = .block 0 c17_16 := by kernel_rfl
theorem c17_16e : c17_16 = .loop c17_17 := by kernel_rfl
theorem c17_17e : c17_17 = .seq c17_18 c17_23 := by kernel_rfl
theorem c17_18e : c17_18 = .seq c17_19 c17_20 := by kernel_rfl
theorem c17_19e : c17_19 = .region 5 r17_19 false := by kernel_rfl
theorem c17_20e : c17_20 = .cond (cdC c17_20) c17_21 c17_22 := by kernel_rfl
theorem c17_21e : c17_21 = .skip := by kernel_rfl
theorem c17_22e : c17_22 = .exit 0 := by kernel_rfl
theorem c17_23e : c17_23 = .seq c17_24 c17_26 := by kernel_rfl
theorem c17_24e : c17_24 = .block 1 c17_25 := by kernel_rfl
theorem c17_25e : c17_25 = .region 7 r17_25 false := by kernel_rfl
theorem c17_26e : c17_26 = .region 6 r17_26 false := by kernel_rfl
theorem c17_27e : c17_27 = .seq c17_28 c17_29 := by kernel_rfl
theorem c17_28e : c17_28 = .region 8 r17_28 false := by kernel_rfl
theorem c17_29e : c17_29 = .seq c17_30 c17_44 := by kernel_rfl
theorem c17_30e : c17_30 = .seq c17_31 c17_32 := by kernel_rfl
theorem c17_31e : c17_31 = .region 9 r17_31 false := by kernel_rfl
theorem c17_32e : c17_32 = .block 2 c17_33 := by kernel_rfl
theorem c17_33e : c17_33 = .loop c17_34 := by kernel_rfl
theorem c17_34e : c17_34 = .seq c17_35 c17_40 := by kernel_rfl
theorem c17_35e : c17_35 = .seq c17_36 c17_37 := by kernel_rfl
theorem c17_36e : c17_36 = .region 10 r17_36 false := by kernel_rfl
theorem c17_37e : c17_37 = .cond (cdC c17_37) c17_38 c17_39 := by kernel_rfl
theorem c17_38e : c17_38 = .skip := by kernel_rfl
theorem c17_39e : c17_39 = .exit 2 := by kernel_rfl
theorem c17_40e : c17_40 = .seq c17_41 c17_43 := by kernel_rfl
theorem c17_41e : c17_41 = .block 3 c17_42 := by kernel_rfl
theorem c17_42e : c17_42 = .region 12 r17_42 true := by kernel_rfl
theorem c17_43e : c17_43 = .region 11 r17_43 false := by kernel_rfl
theorem c17_44e : c17_44 = .seq c17_45 c17_46 := by kernel_rfl
theorem c17_45e : c17_45 = .region 13 r17_45 false := by kernel_rfl
theorem c17_46e : c17_46 = .ret := by kernel_rfl
noncomputable def pack_Writer_Num.R (b_2 : Nat) (A_3 : Option Addr) (c_4 : Nat) : Pst T_pack_Writer where
  ε := Option Addr × Nat
  v := fun r x => .pointer (some ⟨b_2, 0, none⟩)
  H := fun r x => [⟨1, b_2, [.slice x.1 r.b.length x.2]⟩]
  B := fun r x => [Ow 2 Kd.u8 x.1 x.2 r.b]
noncomputable def pack_Writer_Num.cx (b_2 : Nat) (A_3 : Option Addr) (c_4 : Nat) (w0 : World) (S0 : Fam) : Cx T_pack_Writer := ⟨Try.prog, 17, Try.f17, 49, w0, S0, [1, 2], 2, pack_Writer_Num.R b_2 A_3 c_4⟩
theorem pack_Writer_Num_l1_ok (n : Nat) (x_5 : Int) (b_2 : Nat) (A_3 : Option Addr) (c_4 : Nat) (w0 : World) (S0 : Fam) :
    ∀ (k : Nat) (f_14 : (List UInt8)) (i_17 : Int) (A_15 : Option Addr) (c_16 : Nat), GoO (pack_Writer_Num.cx b_2 A_3 c_4 w0 S0) [(0, .pointer (some ⟨b_2, 0, none⟩)), (1, .int .u64 x_5), (7, .int .i64 i_17)] [⟨1, b_2, [.slice A_15 f_14.length c_16]⟩] [Ow 2 Kd.u8 A_15 c_16 f_14] [.code c17_34, .inLoop c17_34, .inBlock 2, .code c17_44] (pack_Writer_Num.l1 n x_5 k f_14 i_17) := by
  intro k
  induction k with
  | zero => intros; rw [pack_Writer_Num.l1.eq_1]; exact GoO.stop
  | succ k ih1 =>
    intro f_14 i_17 A_15 c_16
    rw [pack_Writer_Num.l1.eq_2]
    refine GoO.seq' c17_34e ?_
    refine GoO.seq' c17_35e ?_
    refine GoO.region' (is := [0, 1]) c17_36e (by kernel_rfl) ?_
    refine GoO.exec (is := [0, 1]) (hs := [.p, .p]) (rest := []) (ks := [0, 1, 7, 31]) (env' := [(0, .pointer (some ⟨b_2, 0, none⟩)), (1, .int .u64 x_5), (7, .int .i64 i_17), (31, .bool (decide (i_17 ≥ 0)))]) (H' := [⟨1, b_2, [.slice A_15 f_14.length c_16]⟩]) (ps := []) (by kernel_rfl) trivial ?_
    refine GoO.regionEnd ?_
    refine GoO.ite' c17_37e (by kernel_rfl) (fun h18 => ?_) (fun h18 => ?_)
    · refine GoO.skip' c17_38e ?_
      refine GoO.seq' c17_40e ?_
      refine GoO.block' c17_41e ?_
      refine GoO.draw c17_42e (by kernel_rfl) [12, 13, 14] [⟨1, b_2, [.slice A_15 f_14.length c_16]⟩] [] (n := 15) (by kernel_rfl) ?_
      simp only [List.replicate]
      refine GoF.guard (fun h19 => ?_)
      refine GoF.take [0, 1, 2, 3, 4, 5, 6, 7, 8, 9] [.p, .p, .p, .p, .b 0, .p, .p, .p, .p, .p] (ks := [0, 1, 7, 34, 38, 43]) (fu := 5) (li := [true, true, true, true, true, true, true, true, true, true, false, false, false, false, false]) (env' := [(0, .pointer (some ⟨b_2, 0, none⟩)), (1, .int .u64 x_5), (7, .int .i64 i_17), (34, .pointer (some ⟨b_2, 0, none⟩)), (38, .slice A_15 f_14.length c_16), (43, .int .u8 (wu8 (shR .u64 x_5 (wi64 (8 * i_17)))))]) (ps := [b_2 = b_2, (0 : Int) ≤ (wi64 (8 * i_17))]) (hk := [0]) (bk := []) (by kernel_rfl) (And.intro rfl (And.intro h19 trivial)) rfl rfl ?_
      refine OpTo.goF (i := 10) (by kernel_rfl) (hk := [0]) (bk := []) (GoO.lit (e := 5) (K := Kd.u8) rfl (by kernel_rfl) (by kernel_rfl) (cs := [.int .u8 (wu8 (shR .u64 x_5 (wi64 (8 * i_17))))]) (by kernel_rfl) [u8of (shR .u64 x_5 (wi64 (8 * i_17)))] (by kernel_rfl) (by kernel_rfl) (fun w S hB => ⟨[.int .u8 (wu8 (shR .u64 x_5 (wi64 (8 * i_17))))], _, rfl, (congrArg (fun v => [v]) (u8cell _)), rfl⟩) 41 _ (fun _ _ => rfl) (fun A_20 c_21 => ⟨rfl, rfl, ?_⟩))
      refine GoF.guard (fun h22 => ?_)
      refine OpTo.goF (i := 11) (by kernel_rfl) (hk := [0]) (bk := []) (GoO.appW (e := 5) (K := Kd.u8) (A := A_15) (c := c_16) (tg := 2) (bytes := 1) (zs := [.int .u8 0]) (xs := f_14) (ys := [u8of (shR .u64 x_5 (wi64 (8 * i_17)))]) (xv := .slice A_20 [u8of (shR .u64 x_5 (wi64 (8 * i_17)))].length c_21) (j := 1) (bk := [0]) rfl (by kernel_rfl) (by kernel_rfl) (by kernel_rfl) (by kernel_rfl) rfl (by kernel_rfl) rfl (fun w S hB => SrcIs.row (Reads.own w S (hB _ (List.mem_of_getElem? (i := 0) rfl)))) h22 rfl rfl rfl rfl _ (fun _ _ => rfl) (fun A_23 c_24 => ⟨rfl, rfl, ?_⟩))
      refine GoF.fin1 (i := 12) (hint := .p) (ps := []) (hk := []) (bk := []) (by kernel_rfl) rfl trivial (.inl rfl) ?_
      refine GoF.fin1 (i := 13) (hint := .p) (ps := []) (hk := []) (bk := []) (by kernel_rfl) rfl trivial (.inl rfl) ?_
      refine GoF.fin1 (i := 14) (hint := .b 0) (ps := [b_2 = b_2]) (hk := []) (bk := []) (by kernel_rfl) rfl (And.intro rfl trivial) (.inl rfl) ?_
      refine GoF.done (by kernel_rfl) ?_
      refine GoO.inBlock ?_
      refine GoO.region' (is := [0, 1, 2]) c17_43e (by kernel_rfl) ?_
      refine GoO.exec (is := [0, 1, 2]) (hs := [.p, .p, .p]) (rest := []) (ks := [0, 1, 7]) (env' := [(0, .pointer (some ⟨b_2, 0, none⟩)), (1, .int .u64 x_5), (7, .int .i64 (wi64 (i_17 - 1)))]) (H' := [⟨1, b_2, [.slice A_23 (f_14 ++ [u8of (shR .u64 x_5 (wi64 (8 * i_17)))]).length c_24]⟩]) (ps := []) (by kernel_rfl) trivial ?_
      refine GoO.regionEnd ?_
      refine GoO.inLoop ?_
      exact GoO.sub (ks := [0, 1, 7]) (hk := [0]) (bk := [0]) (by kernel_rfl) (by kernel_rfl) (by kernel_rfl) (ih1 (f_14 ++ [u8of (shR .u64 x_5 (wi64 (8 * i_17)))]) (wi64 (i_17 - 1)) A_23 c_24)
    · refine GoO.exit' c17_39e rfl ?_
      refine GoO.seq' c17_44e ?_
      refine GoO.region' (is := [0, 1]) c17_45e (by kernel_rfl) ?_
      refine GoO.exec (is := [0, 1]) (hs := [.p, .p]) (rest := []) (ks := [4]) (env' := [(4, .pointer (some ⟨b_2, 0, none⟩))]) (H' := [⟨1, b_2, [.slice A_15 f_14.length c_16]⟩]) (ps := []) (by kernel_rfl) trivial ?_
      refine GoO.regionEnd ?_
      exact GoO.ret' (h := c17_46e) (hs := []) (ps := []) (hk := [0]) (bk := [0]) Try.func17 (⟨A_15, c_16⟩ : Option Addr × Nat) (by kernel_rfl) trivial (by kernel_rfl) (by kernel_rfl)
theorem pack_Writer_Num_l0_ok (n : Nat) (w_1 : T_pack_Writer) (x_5 : Int) (b_2 : Nat) (A_3 : Option Addr) (c_4 : Nat) (w0 : World) (S0 : Fam) :
    ∀ (k : Nat) (n_6 : Int) (y_7 : Int), GoO (pack_Writer_Num.cx b_2 A_3 c_4 w0 S0) [(0, .pointer (some ⟨b_2, 0, none⟩)), (1, .int .u64 x_5), (5, .int .i64 n_6), (6, .int .u64 y_7)] [⟨1, b_2, [.slice A_3 w_1.b.length c_4]⟩] [Ow 2 Kd.u8 A_3 c_4 w_1.b] [.code c17_17, .inLoop c17_17, .inBlock 0, .code c17_27] (pack_Writer_Num.l0 n w_1 x_5 k n_6 y_7) := by
  intro k
  induction k with
  | zero => intros; rw [pack_Writer_Num.l0.eq_1]; exact GoO.stop
  | succ k ih0 =>
    intro n_6 y_7
    rw [pack_Writer_Num.l0.eq_2]
    refine GoO.seq' c17_17e ?_
    refine GoO.seq' c17_18e ?_
    refine GoO.region' (is := [0, 1]) c17_19e (by kernel_rfl) ?_
    refine GoO.exec (is := [0, 1]) (hs := [.p, .p]) (rest := []) (ks := [0, 1, 5, 6, 12]) (env' := [(0, .pointer (some ⟨b_2, 0, none⟩)), (1, .int .u64 x_5), (5, .int .i64 n_6), (6, .int .u64 y_7), (12, .bool (decide (y_7 > 0)))]) (H' := [⟨1, b_2, [.slice A_3 w_1.b.length c_4]⟩]) (ps := []) (by kernel_rfl) trivial ?_
    refine GoO.regionEnd ?_
    refine GoO.ite' c17_20e (by kernel_rfl) (fun h8 => ?_) (fun h8 => ?_)
    · refine GoO.skip' c17_21e ?_
      refine GoO.seq' c17_23e ?_
      refine GoO.block' c17_24e ?_
      refine GoO.region' (is := [0, 1, 2]) c17_25e (by kernel_rfl) ?_
      refine GoO.exec (is := [0, 1, 2]) (hs := [.p, .p, .p]) (rest := []) (ks := [0, 1, 5, 6]) (env' := [(0, .pointer (some ⟨b_2, 0, none⟩)), (1, .int .u64 x_5), (5, .int .i64 (wi64 (n_6 + 1))), (6, .int .u64 y_7)]) (H' := [⟨1, b_2, [.slice A_3 w_1.b.length c_4]⟩]) (ps := []) (by kernel_rfl) trivial ?_
      refine GoO.regionEnd ?_
      refine GoO.inBlock ?_
      refine GoO.region' (is := [0, 1, 2]) c17_26e (by kernel_rfl) ?_
      refine GoO.exec (is := [0, 1, 2]) (hs := [.p, .p, .p]) (rest := []) (ks := [0, 1, 5, 6]) (env' := [(0, .pointer (some ⟨b_2, 0, none⟩)), (1, .int .u64 x_5), (5, .int .i64 (wi64 (n_6 + 1))), (6, .int .u64 (shR .u64 y_7 8))]) (H' := [⟨1, b_2, [.slice A_3 w_1.b.length c_4]⟩]) (ps := [(0 : Int) ≤ 8]) (by kernel_rfl) (And.intro (by decide) trivial) ?_
      refine GoO.regionEnd ?_
      refine GoO.inLoop ?_
      exact GoO.sub (ks := [0, 1, 5, 6]) (hk := [0]) (bk := [0]) (by kernel_rfl) (by kernel_rfl) (by kernel_rfl) (ih0 (wi64 (n_6 + 1)) (shR .u64 y_7 8))
    · refine GoO.exit' c17_22e rfl ?_
      refine GoO.seq' c17_27e ?_
      refine GoO.region' (is := [0, 1, 2, 3, 4, 5, 6, 7, 8, 9, 10, 11]) c17_28e (by kernel_rfl) ?_
      refine GoO.exec (is := [0, 1, 2, 3, 4, 5, 6]) (hs := [.p, .p, .p, .p, .b 0, .p, .p]) (rest := [7, 8, 9, 10, 11]) (ks := [0, 1, 5, 17, 21, 23]) (env' := [(0, .pointer (some ⟨b_2, 0, none⟩)), (1, .int .u64 x_5), (5, .int .i64 n_6), (17, .pointer (some ⟨b_2, 0, none⟩)), (21, .slice A_3 w_1.b.length c_4), (23, .int .u8 (wu8 n_6))]) (H' := [⟨1, b_2, [.slice A_3 w_1.b.length c_4]⟩]) (ps := [b_2 = b_2]) (by kernel_rfl) (And.intro rfl trivial) ?_
      refine OpTo.go (GoO.lit (e := 5) (K := Kd.u8) rfl (by kernel_rfl) (by kernel_rfl) (cs := [.int .u8 (wu8 n_6)]) (by kernel_rfl) [u8of n_6] (by kernel_rfl) (by kernel_rfl) (fun w S hB => ⟨[.int .u8 (wu8 n_6)], _, rfl, (congrArg (fun v => [v]) (u8cell _)), rfl⟩) 40 _ (fun _ _ => rfl) (fun A_9 c_10 => ?_))
      refine GoO.guard (fun h11 => ?_)
      refine OpTo.go (GoO.appW (e := 5) (K := Kd.u8) (A := A_3) (c := c_4) (tg := 2) (bytes := 1) (zs := [.int .u8 0]) (xs := w_1.b) (ys := [u8of n_6]) (xv := .slice A_9 [u8of n_6].length c_10) (j := 1) (bk := [0]) rfl (by kernel_rfl) (by kernel_rfl) (by kernel_rfl) (by kernel_rfl) rfl (by kernel_rfl) rfl (fun w S hB => SrcIs.row (Reads.own w S (hB _ (List.mem_of_getElem? (i := 0) rfl)))) h11 rfl rfl rfl rfl _ (fun _ _ => rfl) (fun A_12 c_13 => ?_))
      refine GoO.exec (is := [9, 10, 11]) (hs := [.p, .p, .b 0]) (rest := []) (ks := [0, 1, 5]) (env' := [(0, .pointer (some ⟨b_2, 0, none⟩)), (1, .int .u64 x_5), (5, .int .i64 n_6)]) (H' := [⟨1, b_2, [.slice A_12 (w_1.b ++ [u8of n_6]).length c_13]⟩]) (ps := [b_2 = b_2]) (by kernel_rfl) (And.intro rfl trivial) ?_
      refine GoO.regionEnd ?_
      refine GoO.seq' c17_29e ?_
      refine GoO.seq' c17_30e ?_
      refine GoO.region' (is := [0, 1, 2]) c17_31e (by kernel_rfl) ?_
      refine GoO.exec (is := [0, 1, 2]) (hs := [.p, .p, .p]) (rest := []) (ks := [0, 1, 7]) (env' := [(0, .pointer (some ⟨b_2, 0, none⟩)), (1, .int .u64 x_5), (7, .int .i64 (wi64 (n_6 - 1)))]) (H' := [⟨1, b_2, [.slice A_12 (w_1.b ++ [u8of n_6]).length c_13]⟩]) (ps := []) (by kernel_rfl) trivial ?_
      refine GoO.regionEnd ?_
      refine GoO.block' c17_32e ?_
      refine GoO.loop' c17_33e ?_
      exact GoO.sub (ks := [0, 1, 7]) (hk := [0]) (bk := [0]) (by kernel_rfl) (by kernel_rfl) (by kernel_rfl) (pack_Writer_Num_l1_ok n x_5 b_2 A_3 c_4 w0 S0 n (w_1.b ++ [u8of n_6]) (wi64 (n_6 - 1)) A_12 c_13)
theorem pack_Writer_Num_ok (n : Nat) (w_1 : T_pack_Writer) (x_5 : Int) (b_2 : Nat) (A_3 : Option Addr) (c_4 : Nat) :
    Meets Try.prog 17 [.pointer (some ⟨b_2, 0, none⟩), .int .u64 x_5] 2 [1, 2] [⟨1, b_2, [.slice A_3 w_1.b.length c_4]⟩] [Ow 2 Kd.u8 A_3 c_4 w_1.b] (pack_Writer_Num.f n w_1 x_5) (pack_Writer_Num.R b_2 A_3 c_4) := by
  refine Meets.of (c := c17_0) (n := 49) Try.func17 (by kernel_rfl) (by kernel_rfl) (by kernel_rfl) fun w0 S0 => ?_
  unfold pack_Writer_Num.f
  show GoO (pack_Writer_Num.cx b_2 A_3 c_4 w0 S0) [(0, .pointer (some ⟨b_2, 0, none⟩)), (1, .int .u64 x_5)] [⟨1, b_2, [.slice A_3 w_1.b.length c_4]⟩] [Ow 2 Kd.u8 A_3 c_4 w_1.b] [.code c17_0] _
  refine GoO.seq' c17_0e ?_
  refine GoO.region' (is := [0]) c17_1e (by kernel_rfl) ?_
  refine GoO.exec (is := [0]) (hs := [.p]) (rest := []) (ks := [0, 1]) (env' := [(0, .pointer (some ⟨b_2, 0, none⟩)), (1, .int .u64 x_5)]) (H' := [⟨1, b_2, [.slice A_3 w_1.b.length c_4]⟩]) (ps := []) (by kernel_rfl) trivial ?_
  refine GoO.regionEnd ?_
  refine GoO.seq' c17_2e ?_
  refine GoO.seq' c17_3e ?_
  refine GoO.region' (is := [0, 1]) c17_4e (by kernel_rfl) ?_
  refine GoO.exec (is := [0, 1]) (hs := [.p, .p]) (rest := []) (ks := [0, 1, 9]) (env' := [(0, .pointer (some ⟨b_2, 0, none⟩)), (1, .int .u64 x_5), (9, .bool false)]) (H' := [⟨1, b_2, [.slice A_3 w_1.b.length c_4]⟩]) (ps := []) (by kernel_rfl) trivial ?_
  refine GoO.regionEnd ?_
  refine GoO.condF c17_5e (by kernel_rfl) ?_
  refine GoO.skip' c17_9e ?_
  refine GoO.seq' c17_10e ?_
  refine GoO.region' (is := [0]) c17_11e (by kernel_rfl) ?_
  refine GoO.exec (is := [0]) (hs := [.p]) (rest := []) (ks := [0, 1, 5]) (env' := [(0, .pointer (some ⟨b_2, 0, none⟩)), (1, .int .u64 x_5), (5, .int .i64 0)]) (H' := [⟨1, b_2, [.slice A_3 w_1.b.length c_4]⟩]) (ps := []) (by kernel_rfl) trivial ?_
  refine GoO.regionEnd ?_
  refine GoO.seq' c17_12e ?_
  refine GoO.seq' c17_13e ?_
  refine GoO.region' (is := [0, 1]) c17_14e (by kernel_rfl) ?_
  refine GoO.exec (is := [0, 1]) (hs := [.p, .p]) (rest := []) (ks := [0, 1, 5, 6]) (env' := [(0, .pointer (some ⟨b_2, 0, none⟩)), (1, .int .u64 x_5), (5, .int .i64 0), (6, .int .u64 x_5)]) (H' := [⟨1, b_2, [.slice A_3 w_1.b.length c_4]⟩]) (ps := []) (by kernel_rfl) trivial ?_
  refine GoO.regionEnd ?_
  refine GoO.block' c17_15e ?_
  refine GoO.loop' c17_16e ?_
  exact GoO.sub (ks := [0, 1, 5, 6]) (hk := [0]) (bk := [0]) (by kernel_rfl) (by kernel_rfl) (by kernel_rfl) (pack_Writer_Num_l0_ok n w_1 x_5 b_2 A_3 c_4 w0 S0 n 0 x_5)

/-! (*tontine/pack.Writer).Text -/
noncomputable def c26_0 : Code := bodyOf Try.f26
noncomputable def c26_1 : Code := cdL c26_0
noncomputable def c26_2 : Code := cdR c26_0
noncomputable def c26_3 : Code := cdL c26_2
noncomputable def c26_4 : Code := cdL c26_3
noncomputable def c26_5 : Code := cdR c26_3
noncomputable def c26_9 : Code := cdR c26_5
noncomputable def c26_10 : Code := cdR c26_2
noncomputable def c26_11 : Code := cdL c26_10
noncomputable def c26_12 : Code := cdR c26_10
noncomputable def c26_13 : Code := cdL c26_12
noncomputable def c26_14 : Code := cdR c26_12
noncomputable def c26_15 : Code := cdL c26_14
noncomputable def c26_16 : Code := cdR c26_14
noncomputable def c26_6 : Code := cdL c26_5
noncomputable def r26_1 : Array Oper := cdO c26_1
noncomputable def r26_4 : Array Oper := cdO c26_4
noncomputable def r26_11 : Array Oper := cdO c26_11
noncomputable def r26_13 : Array Oper := cdO c26_13
noncomputable def r26_15 : Array Oper := cdO c26_15
theorem c26_0e : c26_0 = .seq c26_1 c26_2 := by kernel_rfl
theorem c26_1e : c26_1 = .region 0 r26_1 false := by kernel_rfl
theorem c26_2e : c26_2 = .seq c26_3 c26_10 := by kernel_rfl
theorem c26_3e : c26_3 = .seq c26_4 c26_5 := by kernel_rfl
theorem c26_4e : c26_4 = .region 1 r26_4 false := by kernel_rfl
theorem c26_5e : c26_5 = .cond (cdC c26_5) c26_6 c26_9 := by kernel_rfl
theorem c26_9e : c26_9 = .skip := by kernel_rfl
theorem c26_10e : c26_10 = .seq c26_11 c26_12 := by kernel_rfl
theorem c26_11e : c26_11 = .region 3 r26_11 false := by kernel_rfl
theorem c26_12e : c26_12 = .seq c26_13 c26_14 := by kernel_rfl
theorem c26_13e : c26_13 = .region 4 r26_13 false := by kernel_rfl
theorem c26_14e : c26_14 = .seq c26_15 c26_16 := by kernel_rfl
theorem c26_15e : c26_15 = .region 5 r26_15 false := by kernel_rfl
theorem c26_16e : c26_16 = .ret := by kernel_rfl
noncomputable def pack_Writer_Text.R (b_2 : Nat) (A_3 : Option Addr) (c_4 : Nat) : Pst T_pack_Writer where
  ε := Option Addr × Nat
  v := fun r x => .pointer (some ⟨b_2, 0, none⟩)
  H := fun r x => [⟨1, b_2, [.slice x.1 r.b.length x.2]⟩]
  B := fun r x => [Ow 2 Kd.u8 x.1 x.2 r.b]
noncomputable def pack_Writer_Text.cx (b_2 : Nat) (A_3 : Option Addr) (c_4 : Nat) (w0 : World) (S0 : Fam) : Cx T_pack_Writer := ⟨Try.prog, 26, Try.f26, 22, w0, S0, [1, 2], 2, pack_Writer_Text.R b_2 A_3 c_4⟩
theorem pack_Writer_Text_ok (n : Nat) (w_1 : T_pack_Writer) (s_5 : (List UInt8)) (b_2 : Nat) (A_3 : Option Addr) (c_4 : Nat) :
    Meets Try.prog 26 [.pointer (some ⟨b_2, 0, none⟩), .string (bs s_5)] 2 [1, 2] [⟨1, b_2, [.slice A_3 w_1.b.length c_4]⟩] [Ow 2 Kd.u8 A_3 c_4 w_1.b] (pack_Writer_Text.f n w_1 s_5) (pack_Writer_Text.R b_2 A_3 c_4) := by
  refine Meets.of (c := c26_0) (n := 22) Try.func26 (by kernel_rfl) (by kernel_rfl) (by kernel_rfl) fun w0 S0 => ?_
  unfold pack_Writer_Text.f
  show GoO (pack_Writer_Text.cx b_2 A_3 c_4 w0 S0) [(0, .pointer (some ⟨b_2, 0, none⟩)), (1, .string (bs s_5))] [⟨1, b_2, [.slice A_3 w_1.b.length c_4]⟩] [Ow 2 Kd.u8 A_3 c_4 w_1.b] [.code c26_0] _
  refine GoO.seq' c26_0e ?_
  refine GoO.region' (is := [0]) c26_1e (by kernel_rfl) ?_
  refine GoO.exec (is := [0]) (hs := [.p]) (rest := []) (ks := [0, 1]) (env' := [(0, .pointer (some ⟨b_2, 0, none⟩)), (1, .string (bs s_5))]) (H' := [⟨1, b_2, [.slice A_3 w_1.b.length c_4]⟩]) (ps := []) (by kernel_rfl) trivial ?_
  refine GoO.regionEnd ?_
  refine GoO.seq' c26_2e ?_
  refine GoO.seq' c26_3e ?_
  refine GoO.region' (is := [0, 1]) c26_4e (by kernel_rfl) ?_
  refine GoO.exec (is := [0, 1]) (hs := [.p, .p]) (rest := []) (ks := [0, 1, 6]) (env' := [(0, .pointer (some ⟨b_2, 0, none⟩)), (1, .string (bs s_5)), (6, .bool false)]) (H' := [⟨1, b_2, [.slice A_3 w_1.b.length c_4]⟩]) (ps := []) (by kernel_rfl) trivial ?_
  refine GoO.regionEnd ?_
  refine GoO.condF c26_5e (by kernel_rfl) ?_
  refine GoO.skip' c26_9e ?_
  refine GoO.seq' c26_10e ?_
  refine GoO.region' (is := [0, 1, 2, 3, 4]) c26_11e (by kernel_rfl) ?_
  refine GoO.exec (is := [0, 1, 2, 3]) (hs := [.p, .p, .p, .p]) (rest := [4]) (ks := [0, 1, 7, 10]) (env' := [(0, .pointer (some ⟨b_2, 0, none⟩)), (1, .string (bs s_5)), (7, .pointer (some ⟨b_2, 0, none⟩)), (10, .int .u64 (wu64 (s_5.length : Int)))]) (H' := [⟨1, b_2, [.slice A_3 w_1.b.length c_4]⟩]) (ps := []) (by kernel_rfl) trivial ?_
  refine OpTo.go (GoO.call rfl (by kernel_rfl) (by kernel_rfl) (pack_Writer_Num_ok n w_1 (wu64 (s_5.length : Int)) b_2 A_3 c_4) [[0], [1], [2]] [(1, 1), (2, 2)] [(1, 0)] [(2, 0)] (hks := []) (bks := []) (by kernel_rfl) (by kernel_rfl) (by kernel_rfl) (.inl rfl) rfl rfl (by kernel_rfl) (by kernel_rfl) _ (fun _ _ => rfl) _ _ (fun _ _ => rfl) (fun _ _ => rfl) (fun _ _ => by kernel_rfl) (fun _ _ => by kernel_rfl) (fun r_6 x_12 => ?_))
  obtain ⟨A_7, c_8⟩ := x_12
  refine GoO.shape (env' := [(0, .pointer (some ⟨b_2, 0, none⟩)), (1, .string (bs s_5)), (7, .pointer (some ⟨b_2, 0, none⟩)), (10, .int .u64 (wu64 (s_5.length : Int))), (11, .pointer (some ⟨b_2, 0, none⟩))]) (H' := [⟨1, b_2, [.slice A_7 r_6.b.length c_8]⟩]) (B' := [Ow 2 Kd.u8 A_7 c_8 r_6.b]) (ks := [0, 1, 7, 10, 11]) (by kernel_rfl) (by kernel_rfl) (by kernel_rfl) ?_
  refine GoO.regionEnd ?_
  refine GoO.seq' c26_12e ?_
  refine GoO.region' (is := [0, 1, 2, 3, 4, 5, 6, 7, 8, 9]) c26_13e (by kernel_rfl) ?_
  refine GoO.exec (is := [0, 1, 2, 3, 4, 5]) (hs := [.p, .p, .p, .p, .b 0, .p]) (rest := [6, 7, 8, 9]) (ks := [0, 12, 16, 17]) (env' := [(0, .pointer (some ⟨b_2, 0, none⟩)), (12, .pointer (some ⟨b_2, 0, none⟩)), (16, .slice A_7 r_6.b.length c_8), (17, .string (bs s_5))]) (H' := [⟨1, b_2, [.slice A_7 r_6.b.length c_8]⟩]) (ps := [b_2 = b_2]) (by kernel_rfl) (And.intro rfl trivial) ?_
  refine GoO.guard (fun h9 => ?_)
  refine OpTo.go (GoO.appW (e := 5) (K := Kd.u8) (A := A_7) (c := c_8) (tg := 2) (bytes := 1) (zs := [.int .u8 0]) (xs := r_6.b) (ys := s_5) (xv := .string (bs s_5)) (j := 0) (bk := []) rfl (by kernel_rfl) (by kernel_rfl) (by kernel_rfl) (by kernel_rfl) rfl (by kernel_rfl) rfl (fun _ _ _ => SrcIs.str _) h9 rfl rfl rfl rfl _ (fun _ _ => rfl) (fun A_10 c_11 => ?_))
  refine GoO.exec (is := [7, 8, 9]) (hs := [.p, .p, .b 0]) (rest := []) (ks := [0]) (env' := [(0, .pointer (some ⟨b_2, 0, none⟩))]) (H' := [⟨1, b_2, [.slice A_10 (r_6.b ++ s_5).length c_11]⟩]) (ps := [b_2 = b_2]) (by kernel_rfl) (And.intro rfl trivial) ?_
  refine GoO.regionEnd ?_
  refine GoO.seq' c26_14e ?_
  refine GoO.region' (is := [0, 1]) c26_15e (by kernel_rfl) ?_
  refine GoO.exec (is := [0, 1]) (hs := [.p, .p]) (rest := []) (ks := [4]) (env' := [(4, .pointer (some ⟨b_2, 0, none⟩))]) (H' := [⟨1, b_2, [.slice A_10 (r_6.b ++ s_5).length c_11]⟩]) (ps := []) (by kernel_rfl) trivial ?_
  refine GoO.regionEnd ?_
  exact GoO.ret' (h := c26_16e) (hs := []) (ps := []) (hk := [0]) (bk := [0]) Try.func26 (⟨A_10, c_11⟩ : Option Addr × Nat) (by kernel_rfl) trivial (by kernel_rfl) (by kernel_rfl)

/-! tontine/plan.Write -/
noncomputable def c18_0 : Code := bodyOf Try.f18
noncomputable def c18_1 : Code := cdL c18_0
noncomputable def c18_2 : Code := cdR c18_0
noncomputable def c18_3 : Code := cdL c18_2
noncomputable def c18_4 : Code := cdR c18_2
noncomputable def c18_5 : Code := cdL c18_4
noncomputable def c18_6 : Code := cdL c18_5
noncomputable def c18_7 : Code := cdL c18_6
noncomputable def c18_8 : Code := cdR c18_6
noncomputable def c18_9 : Code := cdL c18_8
noncomputable def c18_10 : Code := cdL c18_9
noncomputable def c18_11 : Code := cdR c18_9
noncomputable def c18_12 : Code := cdR c18_8
noncomputable def c18_13 : Code := cdL c18_12
noncomputable def c18_14 : Code := cdL c18_13
noncomputable def c18_15 : Code := cdL c18_14
noncomputable def c18_16 : Code := cdR c18_14
noncomputable def c18_17 : Code := cdR c18_12
noncomputable def r18_1 : Array Oper := cdO c18_1
noncomputable def r18_3 : Array Oper := cdO c18_3
noncomputable def r18_7 : Array Oper := cdO c18_7
noncomputable def r18_15 : Array Oper := cdO c18_15
noncomputable def r18_16 : Array Oper := cdO c18_16
noncomputable def r18_17 : Array Oper := cdO c18_17
theorem c18_0e : c18_0 = .seq c18_1 c18_2 := by kernel_rfl
theorem c18_1e : c18_1 = .region 0 r18_1 false := by kernel_rfl
theorem c18_2e : c18_2 = .seq c18_3 c18_4 := by kernel_rfl
theorem c18_3e : c18_3 = .region 1 r18_3 false := by kernel_rfl
theorem c18_4e : c18_4 = .block 0 c18_5 := by kernel_rfl
theorem c18_5e : c18_5 = .loop c18_6 := by kernel_rfl
theorem c18_6e : c18_6 = .seq c18_7 c18_8 := by kernel_rfl
theorem c18_7e : c18_7 = .region 2 r18_7 false := by kernel_rfl
theorem c18_8e : c18_8 = .seq c18_9 c18_12 := by kernel_rfl
theorem c18_9e : c18_9 = .cond (cdC c18_9) c18_10 c18_11 := by kernel_rfl
theorem c18_10e : c18_10 = .skip := by kernel_rfl
theorem c18_11e : c18_11 = .exit 0 := by kernel_rfl
theorem c18_12e : c18_12 = .seq c18_13 c18_17 := by kernel_rfl
theorem c18_13e : c18_13 = .block 1 c18_14 := by kernel_rfl
theorem c18_14e : c18_14 = .seq c18_15 c18_16 := by kernel_rfl
theorem c18_15e : c18_15 = .region 3 r18_15 false := by kernel_rfl
theorem c18_16e : c18_16 = .region 4 r18_16 true := by kernel_rfl
theorem c18_17e : c18_17 = .region 5 r18_17 false := by kernel_rfl
noncomputable def plan_Write.R (b_2 : Nat) (A_3 : Option Addr) (c_4 : Nat) (A_6 : Option Addr) (c_7 : Nat) : Pst T_pack_Writer where
  ε := Option Addr × Nat
  v := fun r x => .tuple ⟨[]⟩
  H := fun r x => [⟨1, b_2, [.slice x.1 r.b.length x.2]⟩]
  B := fun r x => [Ow 2 Kd.u8 x.1 x.2 r.b]
noncomputable def plan_Write.cx (b_2 : Nat) (A_3 : Option Addr) (c_4 : Nat) (A_6 : Option Addr) (c_7 : Nat) (w0 : World) (S0 : Fam) : Cx T_pack_Writer := ⟨Try.prog, 18, Try.f18, 30, w0, S0, [1, 2], 2, plan_Write.R b_2 A_3 c_4 A_6 c_7⟩
theorem plan_Write_l0_ok (n : Nat) (l_5 : (List T_api_Step)) (b_2 : Nat) (A_6 : Option Addr) (c_7 : Nat) (A_3 : Option Addr) (c_4 : Nat) (w0 : World) (S0 : Fam) :
    ∀ (k : Nat) (f_11 : (List UInt8)) (x_14 : Int) (A_12 : Option Addr) (c_13 : Nat), GoO (plan_Write.cx b_2 A_3 c_4 A_6 c_7 w0 S0) [(0, .pointer (some ⟨b_2, 0, none⟩)), (11, .slice A_6 l_5.length c_7), (12, .int .i64 (l_5.length : Int)), (13, .int .i64 x_14)] [⟨1, b_2, [.slice A_12 f_11.length c_13]⟩] [Ow 2 Kd.u8 A_12 c_13 f_11, Rd 0 kT_api_Step A_6 c_7 l_5] [.code c18_6, .inLoop c18_6, .inBlock 0] (plan_Write.l0 n l_5 k f_11 x_14) := by
  intro k
  induction k with
  | zero => intros; rw [plan_Write.l0.eq_1]; exact GoO.stop
  | succ k ih0 =>
    intro f_11 x_14 A_12 c_13
    rw [plan_Write.l0.eq_2]
    refine GoO.seq' c18_6e ?_
    refine GoO.region' (is := [0]) c18_7e (by kernel_rfl) ?_
    refine GoO.exec (is := [0]) (hs := [.p]) (rest := []) (ks := [0, 11, 12, 13, 14]) (env' := [(0, .pointer (some ⟨b_2, 0, none⟩)), (11, .slice A_6 l_5.length c_7), (12, .int .i64 (l_5.length : Int)), (13, .int .i64 x_14), (14, .bool (decide (x_14 < (l_5.length : Int))))]) (H' := [⟨1, b_2, [.slice A_12 f_11.length c_13]⟩]) (ps := []) (by kernel_rfl) trivial ?_
    refine GoO.regionEnd ?_
    refine GoO.seq' c18_8e ?_
    refine GoO.ite' c18_9e (by kernel_rfl) (fun h15 => ?_) (fun h15 => ?_)
    · refine GoO.skip' c18_10e ?_
      refine GoO.seq' c18_12e ?_
      refine GoO.block' c18_13e ?_
      refine GoO.seq' c18_14e ?_
      refine GoO.region' (is := [0, 1, 2, 3]) c18_15e (by kernel_rfl) ?_
      refine GoO.guard (fun h16 => ?_)
      refine OpTo.go (GoO.idx (kk := .i64) (e := 41) (K := kT_api_Step) (A := A_6) (c := c_7) (xs := l_5) (iv := x_14) (j := 1) rfl (by kernel_rfl) (by kernel_rfl) (by kernel_rfl) (by kernel_rfl) rfl Reads.rd rfl h16.1 h16.2 (by decide) rfl ?_)
      refine OpTo.go (GoO.ldE' (K := kT_api_Step) (A := A_6) (c := c_7) (xs := l_5) (iN := x_14.toNat) (off := 0) (j := 1) rfl (by kernel_rfl) rfl Reads.rd (by first | exact idx_lt h16.1 h16.2 | (simp only [List.length_set]; exact idx_lt h16.1 h16.2)) (by decide) (Opn.flat _ _ _ _ _) (v := fun _ => .agg ⟨[.int .i64 ((rdL l_5 x_14).Part), .string (bs ((rdL l_5 x_14).Name)), .int .i64 ((rdL l_5 x_14).Budget)]⟩) (fun _ => by kernel_rfl) _ (fun _ => rfl) (fun _ => ?_))
      refine OpTo.go (GoO.new rfl 40 (cs := [.int .i64 0, .string (bs []), .int .i64 0]) (by kernel_rfl) _ (fun _ => rfl) (fun b_17 => ?_))
      refine GoO.exec (is := [3]) (hs := [.b 0]) (rest := []) (ks := [0, 5, 11, 12, 13]) (env' := [(0, .pointer (some ⟨b_2, 0, none⟩)), (5, .pointer (some ⟨b_17, 0, none⟩)), (11, .slice A_6 l_5.length c_7), (12, .int .i64 (l_5.length : Int)), (13, .int .i64 x_14)]) (H' := [⟨40, b_17, [.int .i64 ((rdL l_5 x_14).Part), .string (bs ((rdL l_5 x_14).Name)), .int .i64 ((rdL l_5 x_14).Budget)]⟩, ⟨1, b_2, [.slice A_12 f_11.length c_13]⟩]) (ps := [b_17 = b_17]) (by kernel_rfl) (And.intro rfl trivial) ?_
      refine GoO.regionEnd ?_
      refine GoO.draw c18_16e (by kernel_rfl) [] [⟨40, b_17, [.int .i64 ((rdL l_5 x_14).Part), .string (bs ((rdL l_5 x_14).Name)), .int .i64 ((rdL l_5 x_14).Budget)]⟩] [] (n := 12) (by kernel_rfl) ?_
      simp only [List.replicate]
      refine GoF.take [0, 1, 2, 3, 5, 6, 8, 9, 10] [.p, .p, .b 0, .p, .p, .b 0, .p, .b 0, .p] (ks := [0, 11, 12, 13, 17, 20, 23, 27]) (fu := 3) (li := [true, true, true, true, false, true, true, false, true, true, true, false]) (env' := [(0, .pointer (some ⟨b_2, 0, none⟩)), (11, .slice A_6 l_5.length c_7), (12, .int .i64 (l_5.length : Int)), (13, .int .i64 x_14), (17, .pointer (some ⟨b_2, 0, none⟩)), (20, .int .u64 (wu64 ((rdL l_5 x_14).Part))), (23, .string (bs ((rdL l_5 x_14).Name))), (27, .int .u64 (wu64 ((rdL l_5 x_14).Budget)))]) (ps := [b_17 = b_17, b_17 = b_17, b_17 = b_17]) (hk := [0]) (bk := []) (by kernel_rfl) (And.intro rfl (And.intro rfl (And.intro rfl trivial))) rfl rfl ?_
      refine OpTo.goF (i := 4) (by kernel_rfl) (hk := [1]) (bk := []) (GoO.call rfl (by kernel_rfl) (by kernel_rfl) (pack_Writer_Num_ok n (⟨f_11⟩ : T_pack_Writer) (wu64 ((rdL l_5 x_14).Part)) b_2 A_12 c_13) [[0], [1], [2]] [(1, 1), (2, 2)] [(1, 1)] [(2, 0)] (hks := [0]) (bks := [1]) (by kernel_rfl) (by kernel_rfl) (by kernel_rfl) (.inl rfl) rfl rfl (by kernel_rfl) (by kernel_rfl) _ (fun _ _ => rfl) _ _ (fun _ _ => rfl) (fun _ _ => rfl) (fun _ _ => by kernel_rfl) (fun _ _ => by kernel_rfl) (fun r_18 x_29 => ⟨rfl, rfl, ?_⟩))
      obtain ⟨A_19, c_20⟩ := x_29
      refine GoF.shape (env' := [(0, .pointer (some ⟨b_2, 0, none⟩)), (11, .slice A_6 l_5.length c_7), (12, .int .i64 (l_5.length : Int)), (13, .int .i64 x_14), (17, .pointer (some ⟨b_2, 0, none⟩)), (20, .int .u64 (wu64 ((rdL l_5 x_14).Part))), (21, .pointer (some ⟨b_2, 0, none⟩)), (23, .string (bs ((rdL l_5 x_14).Name))), (27, .int .u64 (wu64 ((rdL l_5 x_14).Budget)))]) (H' := [⟨1, b_2, [.slice A_19 r_18.b.length c_20]⟩, ⟨40, b_17, [.int .i64 ((rdL l_5 x_14).Part), .string (bs ((rdL l_5 x_14).Name)), .int .i64 ((rdL l_5 x_14).Budget)]⟩]) (B' := [Ow 2 Kd.u8 A_19 c_20 r_18.b, Rd 0 kT_api_Step A_6 c_7 l_5]) (ks := [0, 11, 12, 13, 17, 20, 21, 23, 27]) (by kernel_rfl) (by kernel_rfl) (by kernel_rfl) ?_
      refine OpTo.goF (i := 7) (by kernel_rfl) (hk := [1]) (bk := []) (GoO.call rfl (by kernel_rfl) (by kernel_rfl) (pack_Writer_Text_ok n r_18 ((rdL l_5 x_14).Name) b_2 A_19 c_20) [[0], [1], [2]] [(1, 1), (2, 2)] [(1, 0)] [(2, 0)] (hks := [1]) (bks := [1]) (by kernel_rfl) (by kernel_rfl) (by kernel_rfl) (.inl rfl) rfl rfl (by kernel_rfl) (by kernel_rfl) _ (fun _ _ => rfl) _ _ (fun _ _ => rfl) (fun _ _ => rfl) (fun _ _ => by kernel_rfl) (fun _ _ => by kernel_rfl) (fun r_21 x_28 => ⟨rfl, rfl, ?_⟩))
      obtain ⟨A_22, c_23⟩ := x_28
      refine GoF.shape (env' := [(0, .pointer (some ⟨b_2, 0, none⟩)), (11, .slice A_6 l_5.length c_7), (12, .int .i64 (l_5.length : Int)), (13, .int .i64 x_14), (17, .pointer (some ⟨b_2, 0, none⟩)), (20, .int .u64 (wu64 ((rdL l_5 x_14).Part))), (21, .pointer (some ⟨b_2, 0, none⟩)), (23, .string (bs ((rdL l_5 x_14).Name))), (24, .pointer (some ⟨b_2, 0, none⟩)), (27, .int .u64 (wu64 ((rdL l_5 x_14).Budget)))]) (H' := [⟨1, b_2, [.slice A_22 r_21.b.length c_23]⟩, ⟨40, b_17, [.int .i64 ((rdL l_5 x_14).Part), .string (bs ((rdL l_5 x_14).Name)), .int .i64 ((rdL l_5 x_14).Budget)]⟩]) (B' := [Ow 2 Kd.u8 A_22 c_23 r_21.b, Rd 0 kT_api_Step A_6 c_7 l_5]) (ks := [0, 11, 12, 13, 17, 20, 21, 23, 24, 27]) (by kernel_rfl) (by kernel_rfl) (by kernel_rfl) ?_
      refine OpTo.goF (i := 11) (by kernel_rfl) (hk := [1]) (bk := []) (GoO.call rfl (by kernel_rfl) (by kernel_rfl) (pack_Writer_Num_ok n r_21 (wu64 ((rdL l_5 x_14).Budget)) b_2 A_22 c_23) [[0], [1], [2]] [(1, 1), (2, 2)] [(1, 0)] [(2, 0)] (hks := [1]) (bks := [1]) (by kernel_rfl) (by kernel_rfl) (by kernel_rfl) (.inl rfl) rfl rfl (by kernel_rfl) (by kernel_rfl) _ (fun _ _ => rfl) _ _ (fun _ _ => rfl) (fun _ _ => rfl) (fun _ _ => by kernel_rfl) (fun _ _ => by kernel_rfl) (fun r_24 x_27 => ⟨rfl, rfl, ?_⟩))
      obtain ⟨A_25, c_26⟩ := x_27
      refine GoF.shape (env' := [(0, .pointer (some ⟨b_2, 0, none⟩)), (11, .slice A_6 l_5.length c_7), (12, .int .i64 (l_5.length : Int)), (13, .int .i64 x_14), (17, .pointer (some ⟨b_2, 0, none⟩)), (20, .int .u64 (wu64 ((rdL l_5 x_14).Part))), (21, .pointer (some ⟨b_2, 0, none⟩)), (23, .string (bs ((rdL l_5 x_14).Name))), (24, .pointer (some ⟨b_2, 0, none⟩)), (27, .int .u64 (wu64 ((rdL l_5 x_14).Budget))), (28, .pointer (some ⟨b_2, 0, none⟩))]) (H' := [⟨1, b_2, [.slice A_25 r_24.b.length c_26]⟩, ⟨40, b_17, [.int .i64 ((rdL l_5 x_14).Part), .string (bs ((rdL l_5 x_14).Name)), .int .i64 ((rdL l_5 x_14).Budget)]⟩]) (B' := [Ow 2 Kd.u8 A_25 c_26 r_24.b, Rd 0 kT_api_Step A_6 c_7 l_5]) (ks := [0, 11, 12, 13, 17, 20, 21, 23, 24, 27, 28]) (by kernel_rfl) (by kernel_rfl) (by kernel_rfl) ?_
      refine GoF.done (by kernel_rfl) ?_
      refine GoO.inBlock ?_
      refine GoO.region' (is := [0, 1]) c18_17e (by kernel_rfl) ?_
      refine GoO.exec (is := [0, 1]) (hs := [.p, .p]) (rest := []) (ks := [0, 11, 12, 13]) (env' := [(0, .pointer (some ⟨b_2, 0, none⟩)), (11, .slice A_6 l_5.length c_7), (12, .int .i64 (l_5.length : Int)), (13, .int .i64 (wi64 (x_14 + 1)))]) (H' := [⟨1, b_2, [.slice A_25 r_24.b.length c_26]⟩, ⟨40, b_17, [.int .i64 ((rdL l_5 x_14).Part), .string (bs ((rdL l_5 x_14).Name)), .int .i64 ((rdL l_5 x_14).Budget)]⟩]) (ps := []) (by kernel_rfl) trivial ?_
      refine GoO.regionEnd ?_
      refine GoO.inLoop ?_
      exact GoO.sub (ks := [0, 11, 12, 13]) (hk := [0]) (bk := [0, 1]) (by kernel_rfl) (by kernel_rfl) (by kernel_rfl) (ih0 r_24.b (wi64 (x_14 + 1)) A_25 c_26)
    · refine GoO.exit' c18_11e rfl ?_
      exact GoO.fin (hs := []) (ps := []) (hk := [0]) (bk := [0]) Try.func18 (⟨A_12, c_13⟩ : Option Addr × Nat) (by kernel_rfl) trivial (by kernel_rfl) (by kernel_rfl)
theorem plan_Write_ok (n : Nat) (w_1 : T_pack_Writer) (l_5 : (List T_api_Step)) (b_2 : Nat) (A_3 : Option Addr) (c_4 : Nat) (A_6 : Option Addr) (c_7 : Nat) :
    Meets Try.prog 18 [.pointer (some ⟨b_2, 0, none⟩), .slice A_6 l_5.length c_7] 2 [1, 2] [⟨1, b_2, [.slice A_3 w_1.b.length c_4]⟩] [Ow 2 Kd.u8 A_3 c_4 w_1.b, Rd 0 kT_api_Step A_6 c_7 l_5] (plan_Write.f n w_1 l_5) (plan_Write.R b_2 A_3 c_4 A_6 c_7) := by
  refine Meets.of (c := c18_0) (n := 30) Try.func18 (by kernel_rfl) (by kernel_rfl) (by kernel_rfl) fun w0 S0 => ?_
  unfold plan_Write.f
  show GoO (plan_Write.cx b_2 A_3 c_4 A_6 c_7 w0 S0) [(0, .pointer (some ⟨b_2, 0, none⟩)), (1, .slice A_6 l_5.length c_7)] [⟨1, b_2, [.slice A_3 w_1.b.length c_4]⟩] [Ow 2 Kd.u8 A_3 c_4 w_1.b, Rd 0 kT_api_Step A_6 c_7 l_5] [.code c18_0] _
  refine GoO.seq' c18_0e ?_
  refine GoO.region' (is := [0, 1, 2, 3, 4]) c18_1e (by kernel_rfl) ?_
  refine GoO.exec (is := [0, 1, 2, 3]) (hs := [.p, .p, .p, .p]) (rest := [4]) (ks := [0, 1, 6, 9]) (env' := [(0, .pointer (some ⟨b_2, 0, none⟩)), (1, .slice A_6 l_5.length c_7), (6, .pointer (some ⟨b_2, 0, none⟩)), (9, .int .u64 (wu64 (l_5.length : Int)))]) (H' := [⟨1, b_2, [.slice A_3 w_1.b.length c_4]⟩]) (ps := []) (by kernel_rfl) trivial ?_
  refine OpTo.go (GoO.call rfl (by kernel_rfl) (by kernel_rfl) (pack_Writer_Num_ok n w_1 (wu64 (l_5.length : Int)) b_2 A_3 c_4) [[0], [1], [2]] [(1, 1), (2, 2)] [(1, 0)] [(2, 0)] (hks := []) (bks := [1]) (by kernel_rfl) (by kernel_rfl) (by kernel_rfl) (.inl rfl) rfl rfl (by kernel_rfl) (by kernel_rfl) _ (fun _ _ => rfl) _ _ (fun _ _ => rfl) (fun _ _ => rfl) (fun _ _ => by kernel_rfl) (fun _ _ => by kernel_rfl) (fun r_8 x_30 => ?_))
  obtain ⟨A_9, c_10⟩ := x_30
  refine GoO.shape (env' := [(0, .pointer (some ⟨b_2, 0, none⟩)), (1, .slice A_6 l_5.length c_7), (6, .pointer (some ⟨b_2, 0, none⟩)), (9, .int .u64 (wu64 (l_5.length : Int))), (10, .pointer (some ⟨b_2, 0, none⟩))]) (H' := [⟨1, b_2, [.slice A_9 r_8.b.length c_10]⟩]) (B' := [Ow 2 Kd.u8 A_9 c_10 r_8.b, Rd 0 kT_api_Step A_6 c_7 l_5]) (ks := [0, 1, 6, 9, 10]) (by kernel_rfl) (by kernel_rfl) (by kernel_rfl) ?_
  refine GoO.regionEnd ?_
  refine GoO.seq' c18_2e ?_
  refine GoO.region' (is := [0, 1, 2]) c18_3e (by kernel_rfl) ?_
  refine GoO.exec (is := [0, 1, 2]) (hs := [.p, .p, .p]) (rest := []) (ks := [0, 11, 12, 13]) (env' := [(0, .pointer (some ⟨b_2, 0, none⟩)), (11, .slice A_6 l_5.length c_7), (12, .int .i64 (l_5.length : Int)), (13, .int .i64 0)]) (H' := [⟨1, b_2, [.slice A_9 r_8.b.length c_10]⟩]) (ps := []) (by kernel_rfl) trivial ?_
  refine GoO.regionEnd ?_
  refine GoO.block' c18_4e ?_
  refine GoO.loop' c18_5e ?_
  exact GoO.sub (ks := [0, 11, 12, 13]) (hk := [0]) (bk := [0, 1]) (by kernel_rfl) (by kernel_rfl) (by kernel_rfl) (plan_Write_l0_ok n l_5 b_2 A_6 c_7 A_3 c_4 w0 S0 n r_8.b 0 A_9 c_10)

/-! tontine/plan.Check -/
noncomputable def c15_0 : Code := bodyOf Try.f15
noncomputable def c15_1 : Code := cdL c15_0
noncomputable def c15_2 : Code := cdR c15_0
noncomputable def c15_3 : Code := cdL c15_2
noncomputable def c15_4 : Code := cdL c15_3
noncomputable def c15_5 : Code := cdR c15_3
noncomputable def c15_6 : Code := cdL c15_5
noncomputable def c15_7 : Code := cdL c15_6
noncomputable def c15_8 : Code := cdR c15_6
noncomputable def c15_9 : Code := cdR c15_5
noncomputable def c15_10 : Code := cdR c15_2
noncomputable def c15_11 : Code := cdL c15_10
noncomputable def c15_12 : Code := cdL c15_11
noncomputable def c15_13 : Code := cdR c15_11
noncomputable def c15_14 : Code := cdL c15_13
noncomputable def c15_15 : Code := cdL c15_14
noncomputable def c15_16 : Code := cdL c15_15
noncomputable def c15_17 : Code := cdR c15_15
noncomputable def c15_18 : Code := cdL c15_17
noncomputable def c15_19 : Code := cdL c15_18
noncomputable def c15_20 : Code := cdR c15_18
noncomputable def c15_21 : Code := cdR c15_17
noncomputable def c15_22 : Code := cdL c15_21
noncomputable def c15_23 : Code := cdL c15_22
noncomputable def c15_24 : Code := cdL c15_23
noncomputable def c15_25 : Code := cdR c15_23
noncomputable def c15_26 : Code := cdL c15_25
noncomputable def c15_27 : Code := cdR c15_25
noncomputable def c15_28 : Code := cdL c15_27
noncomputable def c15_29 : Code := cdL c15_28
noncomputable def c15_30 : Code := cdR c15_28
noncomputable def c15_31 : Code := cdR c15_27
noncomputable def c15_32 : Code := cdR c15_21
noncomputable def c15_33 : Code := cdR c15_10
noncomputable def c15_34 : Code := cdL c15_33
noncomputable def c15_35 : Code := cdR c15_33
noncomputable def r15_1 : Array Oper := cdO c15_1
noncomputable def r15_4 : Array Oper := cdO c15_4
noncomputable def r15_7 : Array Oper := cdO c15_7
noncomputable def r15_12 : Array Oper := cdO c15_12
noncomputable def r15_16 : Array Oper := cdO c15_16
noncomputable def r15_24 : Array Oper := cdO c15_24
noncomputable def r15_26 : Array Oper := cdO c15_26
noncomputable def r15_29 : Array Oper := cdO c15_29
noncomputable def r15_32 : Array Oper := cdO c15_32
noncomputable def r15_34 : Array Oper := cdO c15_34
theorem c15_0e : c15_0 = .seq c15_1 c15_2 := by kernel_rfl
theorem c15_1e : c15_1 = .region 0 r15_1 false := by kernel_rfl
theorem c15_2e : c15_2 = .seq c15_3 c15_10 := by kernel_rfl
theorem c15_3e : c15_3 = .seq c15_4 c15_5 := by kernel_rfl
theorem c15_4e : c15_4 = .region 1 r15_4 false := by kernel_rfl
theorem c15_5e : c15_5 = .cond (cdC c15_5) c15_6 c15_9 := by kernel_rfl
theorem c15_6e : c15_6 = .seq c15_7 c15_8 := by kernel_rfl
theorem c15_7e : c15_7 = .region 2 r15_7 false := by kernel_rfl
theorem c15_8e : c15_8 = .ret := by kernel_rfl
theorem c15_9e : c15_9 = .skip := by kernel_rfl
theorem c15_10e : c15_10 = .seq c15_11 c15_33 := by kernel_rfl
theorem c15_11e : c15_11 = .seq c15_12 c15_13 := by kernel_rfl
theorem c15_12e : c15_12 = .region 3 r15_12 false := by kernel_rfl
theorem c15_13e : c15_13 = .block 0 c15_14 := by kernel_rfl
theorem c15_14e : c15_14 = .loop c15_15 := by kernel_rfl
theorem c15_15e : c15_15 = .seq c15_16 c15_17 := by kernel_rfl
theorem c15_16e : c15_16 = .region 4 r15_16 false := by kernel_rfl
theorem c15_17e : c15_17 = .seq c15_18 c15_21 := by kernel_rfl
theorem c15_18e : c15_18 = .cond (cdC c15_18) c15_19 c15_20 := by kernel_rfl
theorem c15_19e : c15_19 = .skip := by kernel_rfl
theorem c15_20e : c15_20 = .exit 0 := by kernel_rfl
theorem c15_21e : c15_21 = .seq c15_22 c15_32 := by kernel_rfl
theorem c15_22e : c15_22 = .block 1 c15_23 := by kernel_rfl
theorem c15_23e : c15_23 = .seq c15_24 c15_25 := by kernel_rfl
theorem c15_24e : c15_24 = .region 5 r15_24 false := by kernel_rfl
theorem c15_25e : c15_25 = .seq c15_26 c15_27 := by kernel_rfl
theorem c15_26e : c15_26 = .region 6 r15_26 false := by kernel_rfl
theorem c15_27e : c15_27 = .cond (cdC c15_27) c15_28 c15_31 := by kernel_rfl
theorem c15_28e : c15_28 = .seq c15_29 c15_30 := by kernel_rfl
theorem c15_29e : c15_29 = .region 7 r15_29 false := by kernel_rfl
theorem c15_30e : c15_30 = .ret := by kernel_rfl
theorem c15_31e : c15_31 = .skip := by kernel_rfl
theorem c15_32e : c15_32 = .region 8 r15_32 false := by kernel_rfl
theorem c15_33e : c15_33 = .seq c15_34 c15_35 := by kernel_rfl
theorem c15_34e : c15_34 = .region 9 r15_34 false := by kernel_rfl
theorem c15_35e : c15_35 = .ret := by kernel_rfl
noncomputable def plan_Check.R (A_2 : Option Addr) (c_3 : Nat) : Pst Int where
  ε := Unit
  v := fun r x => .int .i64 r
  H := fun r x => []
  B := fun r x => []
noncomputable def plan_Check.cx (A_2 : Option Addr) (c_3 : Nat) (w0 : World) (S0 : Fam) : Cx Int := ⟨Try.prog, 15, Try.f15, 49, w0, S0, [], 0, plan_Check.R A_2 c_3⟩
theorem plan_Check_j1_ok (n : Nat) (L0 : Int → Option Int) (l_1 : (List T_api_Step)) (x_7 : Int) (A_2 : Option Addr) (c_3 : Nat) (w0 : World) (S0 : Fam) (ih0 : ∀ (x_7 : Int), GoO (plan_Check.cx A_2 c_3 w0 S0) [(13, .slice A_2 l_1.length c_3), (14, .int .i64 (l_1.length : Int)), (15, .int .i64 x_7)] [] [Rd 0 kT_api_Step A_2 c_3 l_1] [.code c15_15, .inLoop c15_15, .inBlock 0, .code c15_33] (L0 x_7)) (b_16 : Bool) :
    GoO (plan_Check.cx A_2 c_3 w0 S0) [(13, .slice A_2 l_1.length c_3), (14, .int .i64 (l_1.length : Int)), (15, .int .i64 x_7), (47, .bool b_16)] [] [Rd 0 kT_api_Step A_2 c_3 l_1] [.code c15_27, .inBlock 1, .code c15_32, .inLoop c15_15, .inBlock 0, .code c15_33] (plan_Check.j1 n L0 x_7 b_16) := by
  unfold plan_Check.j1
  refine GoO.ite' c15_27e (by kernel_rfl) (fun h17 => ?_) (fun h17 => ?_)
  · refine GoO.seq' c15_28e ?_
    refine GoO.region' (is := [0]) c15_29e (by kernel_rfl) ?_
    refine GoO.exec (is := [0]) (hs := [.p]) (rest := []) (ks := [2]) (env' := [(2, .int .i64 44)]) (H' := []) (ps := []) (by kernel_rfl) trivial ?_
    refine GoO.regionEnd ?_
    exact GoO.ret' (h := c15_30e) (hs := []) (ps := []) (hk := []) (bk := []) Try.func15 () (by kernel_rfl) trivial (by kernel_rfl) (by kernel_rfl)
  · refine GoO.skip' c15_31e ?_
    refine GoO.inBlock ?_
    refine GoO.region' (is := [0, 1]) c15_32e (by kernel_rfl) ?_
    refine GoO.exec (is := [0, 1]) (hs := [.p, .p]) (rest := []) (ks := [13, 14, 15]) (env' := [(13, .slice A_2 l_1.length c_3), (14, .int .i64 (l_1.length : Int)), (15, .int .i64 (wi64 (x_7 + 1)))]) (H' := []) (ps := []) (by kernel_rfl) trivial ?_
    refine GoO.regionEnd ?_
    refine GoO.inLoop ?_
    exact GoO.sub (ks := [13, 14, 15]) (hk := []) (bk := [0]) (by kernel_rfl) (by kernel_rfl) (by kernel_rfl) (ih0 (wi64 (x_7 + 1)))
theorem plan_Check_l0_ok (n : Nat) (l_1 : (List T_api_Step)) (A_2 : Option Addr) (c_3 : Nat) (w0 : World) (S0 : Fam) :
    ∀ (k : Nat) (x_7 : Int), GoO (plan_Check.cx A_2 c_3 w0 S0) [(13, .slice A_2 l_1.length c_3), (14, .int .i64 (l_1.length : Int)), (15, .int .i64 x_7)] [] [Rd 0 kT_api_Step A_2 c_3 l_1] [.code c15_15, .inLoop c15_15, .inBlock 0, .code c15_33] (plan_Check.l0 n l_1 k x_7) := by
  intro k
  induction k with
  | zero => intros; rw [plan_Check.l0.eq_1]; exact GoO.stop
  | succ k ih0 =>
    intro x_7
    rw [plan_Check.l0.eq_2]
    refine GoO.seq' c15_15e ?_
    refine GoO.region' (is := [0]) c15_16e (by kernel_rfl) ?_
    refine GoO.exec (is := [0]) (hs := [.p]) (rest := []) (ks := [13, 14, 15, 16]) (env' := [(13, .slice A_2 l_1.length c_3), (14, .int .i64 (l_1.length : Int)), (15, .int .i64 x_7), (16, .bool (decide (x_7 < (l_1.length : Int))))]) (H' := []) (ps := []) (by kernel_rfl) trivial ?_
    refine GoO.regionEnd ?_
    refine GoO.seq' c15_17e ?_
    refine GoO.ite' c15_18e (by kernel_rfl) (fun h8 => ?_) (fun h8 => ?_)
    · refine GoO.skip' c15_19e ?_
      refine GoO.seq' c15_21e ?_
      refine GoO.block' c15_22e ?_
      refine GoO.seq' c15_23e ?_
      refine GoO.region' (is := [0, 1, 2, 3]) c15_24e (by kernel_rfl) ?_
      refine GoO.guard (fun h9 => ?_)
      refine OpTo.go (GoO.idx (kk := .i64) (e := 41) (K := kT_api_Step) (A := A_2) (c := c_3) (xs := l_1) (iv := x_7) (j := 0) rfl (by kernel_rfl) (by kernel_rfl) (by kernel_rfl) (by kernel_rfl) rfl Reads.rd rfl h9.1 h9.2 (by decide) rfl ?_)
      refine OpTo.go (GoO.ldE' (K := kT_api_Step) (A := A_2) (c := c_3) (xs := l_1) (iN := x_7.toNat) (off := 0) (j := 0) rfl (by kernel_rfl) rfl Reads.rd (by first | exact idx_lt h9.1 h9.2 | (simp only [List.length_set]; exact idx_lt h9.1 h9.2)) (by decide) (Opn.flat _ _ _ _ _) (v := fun _ => .agg ⟨[.int .i64 ((rdL l_1 x_7).Part), .string (bs ((rdL l_1 x_7).Name)), .int .i64 ((rdL l_1 x_7).Budget)]⟩) (fun _ => by kernel_rfl) _ (fun _ => rfl) (fun _ => ?_))
      refine OpTo.go (GoO.new rfl 40 (cs := [.int .i64 0, .string (bs []), .int .i64 0]) (by kernel_rfl) _ (fun _ => rfl) (fun b_10 => ?_))
      refine GoO.exec (is := [3]) (hs := [.b 0]) (rest := []) (ks := [4, 13, 14, 15]) (env' := [(4, .pointer (some ⟨b_10, 0, none⟩)), (13, .slice A_2 l_1.length c_3), (14, .int .i64 (l_1.length : Int)), (15, .int .i64 x_7)]) (H' := [⟨40, b_10, [.int .i64 ((rdL l_1 x_7).Part), .string (bs ((rdL l_1 x_7).Name)), .int .i64 ((rdL l_1 x_7).Budget)]⟩]) (ps := [b_10 = b_10]) (by kernel_rfl) (And.intro rfl trivial) ?_
      refine GoO.regionEnd ?_
      refine GoO.seq' c15_25e ?_
      refine GoO.region' (is := [0, 1, 2, 3, 4, 5, 6, 7, 8, 9, 10, 11, 12, 13, 14, 15, 16, 17, 18, 19, 20, 21, 22, 23, 24, 25, 26, 27, 28]) c15_26e (by kernel_rfl) ?_
      refine GoO.exec (is := [0, 1, 2, 3]) (hs := [.p, .b 0, .p, .p]) (rest := [4, 5, 6, 7, 8, 9, 10, 11, 12, 13, 14, 15, 16, 17, 18, 19, 20, 21, 22, 23, 24, 25, 26, 27, 28]) (ks := [4, 13, 14, 15, 22]) (env' := [(4, .pointer (some ⟨b_10, 0, none⟩)), (13, .slice A_2 l_1.length c_3), (14, .int .i64 (l_1.length : Int)), (15, .int .i64 x_7), (22, .bool (decide (((rdL l_1 x_7).Part) < 0)))]) (H' := [⟨40, b_10, [.int .i64 ((rdL l_1 x_7).Part), .string (bs ((rdL l_1 x_7).Name)), .int .i64 ((rdL l_1 x_7).Budget)]⟩]) (ps := [b_10 = b_10]) (by kernel_rfl) (And.intro rfl trivial) ?_
      refine GoO.bsplit (t := 22) (by kernel_rfl) (fun h11 => ?_) (fun h11 => ?_)
      · refine GoO.exec (is := [4, 5, 6, 7, 8, 9, 10, 11, 12, 13, 14, 15, 16, 17, 18, 19, 20, 21, 22, 23, 24, 25, 26, 27, 28]) (hs := [.p, .p, .p, .p, .p, .p, .p, .p, .p, .p, .p, .p, .p, .p, .p, .p, .p, .p, .p, .p, .p, .p, .p, .p, .p]) (rest := []) (ks := [13, 14, 15, 47]) (env' := [(13, .slice A_2 l_1.length c_3), (14, .int .i64 (l_1.length : Int)), (15, .int .i64 x_7), (47, .bool true)]) (H' := [⟨40, b_10, [.int .i64 ((rdL l_1 x_7).Part), .string (bs ((rdL l_1 x_7).Name)), .int .i64 ((rdL l_1 x_7).Budget)]⟩]) (ps := []) (by kernel_rfl) trivial ?_
        refine GoO.regionEnd ?_
        exact GoO.sub (ks := [13, 14, 15, 47]) (hk := []) (bk := [0]) (by kernel_rfl) (by kernel_rfl) (by kernel_rfl) (plan_Check_j1_ok n (plan_Check.l0 n l_1 k) l_1 x_7 A_2 c_3 w0 S0 ih0 true)
      · refine GoO.exec (is := [4, 5, 6, 7, 8]) (hs := [.p, .b 0, .p, .p, .p]) (rest := [9, 10, 11, 12, 13, 14, 15, 16, 17, 18, 19, 20, 21, 22, 23, 24, 25, 26, 27, 28]) (ks := [4, 13, 14, 15, 27]) (env' := [(4, .pointer (some ⟨b_10, 0, none⟩)), (13, .slice A_2 l_1.length c_3), (14, .int .i64 (l_1.length : Int)), (15, .int .i64 x_7), (27, .bool (decide (((rdL l_1 x_7).Part) ≥ 4)))]) (H' := [⟨40, b_10, [.int .i64 ((rdL l_1 x_7).Part), .string (bs ((rdL l_1 x_7).Name)), .int .i64 ((rdL l_1 x_7).Budget)]⟩]) (ps := [b_10 = b_10]) (by kernel_rfl) (And.intro rfl trivial) ?_
        refine GoO.bsplit (t := 27) (by kernel_rfl) (fun h12 => ?_) (fun h12 => ?_)
        · refine GoO.exec (is := [9, 10, 11, 12, 13, 14, 15, 16, 17, 18, 19, 20, 21, 22, 23, 24, 25, 26, 27, 28]) (hs := [.p, .p, .p, .p, .p, .p, .p, .p, .p, .p, .p, .p, .p, .p, .p, .p, .p, .p, .p, .p]) (rest := []) (ks := [13, 14, 15, 47]) (env' := [(13, .slice A_2 l_1.length c_3), (14, .int .i64 (l_1.length : Int)), (15, .int .i64 x_7), (47, .bool true)]) (H' := [⟨40, b_10, [.int .i64 ((rdL l_1 x_7).Part), .string (bs ((rdL l_1 x_7).Name)), .int .i64 ((rdL l_1 x_7).Budget)]⟩]) (ps := []) (by kernel_rfl) trivial ?_
          refine GoO.regionEnd ?_
          exact GoO.sub (ks := [13, 14, 15, 47]) (hk := []) (bk := [0]) (by kernel_rfl) (by kernel_rfl) (by kernel_rfl) (plan_Check_j1_ok n (plan_Check.l0 n l_1 k) l_1 x_7 A_2 c_3 w0 S0 ih0 true)
        · refine GoO.exec (is := [9, 10, 11, 12, 13]) (hs := [.p, .b 0, .p, .p, .p]) (rest := [14, 15, 16, 17, 18, 19, 20, 21, 22, 23, 24, 25, 26, 27, 28]) (ks := [4, 13, 14, 15, 32]) (env' := [(4, .pointer (some ⟨b_10, 0, none⟩)), (13, .slice A_2 l_1.length c_3), (14, .int .i64 (l_1.length : Int)), (15, .int .i64 x_7), (32, .bool (((rdL l_1 x_7).Name) == ([] : List UInt8)))]) (H' := [⟨40, b_10, [.int .i64 ((rdL l_1 x_7).Part), .string (bs ((rdL l_1 x_7).Name)), .int .i64 ((rdL l_1 x_7).Budget)]⟩]) (ps := [b_10 = b_10]) (by kernel_rfl) (And.intro rfl trivial) ?_
          refine GoO.bsplit (t := 32) (by kernel_rfl) (fun h13 => ?_) (fun h13 => ?_)
          · refine GoO.exec (is := [14, 15, 16, 17, 18, 19, 20, 21, 22, 23, 24, 25, 26, 27, 28]) (hs := [.p, .p, .p, .p, .p, .p, .p, .p, .p, .p, .p, .p, .p, .p, .p]) (rest := []) (ks := [13, 14, 15, 47]) (env' := [(13, .slice A_2 l_1.length c_3), (14, .int .i64 (l_1.length : Int)), (15, .int .i64 x_7), (47, .bool true)]) (H' := [⟨40, b_10, [.int .i64 ((rdL l_1 x_7).Part), .string (bs ((rdL l_1 x_7).Name)), .int .i64 ((rdL l_1 x_7).Budget)]⟩]) (ps := []) (by kernel_rfl) trivial ?_
            refine GoO.regionEnd ?_
            exact GoO.sub (ks := [13, 14, 15, 47]) (hk := []) (bk := [0]) (by kernel_rfl) (by kernel_rfl) (by kernel_rfl) (plan_Check_j1_ok n (plan_Check.l0 n l_1 k) l_1 x_7 A_2 c_3 w0 S0 ih0 true)
          · refine GoO.exec (is := [14, 15, 16, 17, 18, 19]) (hs := [.p, .b 0, .p, .p, .p, .p]) (rest := [20, 21, 22, 23, 24, 25, 26, 27, 28]) (ks := [4, 13, 14, 15, 38]) (env' := [(4, .pointer (some ⟨b_10, 0, none⟩)), (13, .slice A_2 l_1.length c_3), (14, .int .i64 (l_1.length : Int)), (15, .int .i64 x_7), (38, .bool (decide ((((rdL l_1 x_7).Name).length : Int) > 16)))]) (H' := [⟨40, b_10, [.int .i64 ((rdL l_1 x_7).Part), .string (bs ((rdL l_1 x_7).Name)), .int .i64 ((rdL l_1 x_7).Budget)]⟩]) (ps := [b_10 = b_10]) (by kernel_rfl) (And.intro rfl trivial) ?_
            refine GoO.bsplit (t := 38) (by kernel_rfl) (fun h14 => ?_) (fun h14 => ?_)
            · refine GoO.exec (is := [20, 21, 22, 23, 24, 25, 26, 27, 28]) (hs := [.p, .p, .p, .p, .p, .p, .p, .p, .p]) (rest := []) (ks := [13, 14, 15, 47]) (env' := [(13, .slice A_2 l_1.length c_3), (14, .int .i64 (l_1.length : Int)), (15, .int .i64 x_7), (47, .bool true)]) (H' := [⟨40, b_10, [.int .i64 ((rdL l_1 x_7).Part), .string (bs ((rdL l_1 x_7).Name)), .int .i64 ((rdL l_1 x_7).Budget)]⟩]) (ps := []) (by kernel_rfl) trivial ?_
              refine GoO.regionEnd ?_
              exact GoO.sub (ks := [13, 14, 15, 47]) (hk := []) (bk := [0]) (by kernel_rfl) (by kernel_rfl) (by kernel_rfl) (plan_Check_j1_ok n (plan_Check.l0 n l_1 k) l_1 x_7 A_2 c_3 w0 S0 ih0 true)
            · refine GoO.exec (is := [20, 21, 22, 23, 24]) (hs := [.p, .b 0, .p, .p, .p]) (rest := [25, 26, 27, 28]) (ks := [4, 13, 14, 15, 43]) (env' := [(4, .pointer (some ⟨b_10, 0, none⟩)), (13, .slice A_2 l_1.length c_3), (14, .int .i64 (l_1.length : Int)), (15, .int .i64 x_7), (43, .bool (decide (((rdL l_1 x_7).Budget) < 1)))]) (H' := [⟨40, b_10, [.int .i64 ((rdL l_1 x_7).Part), .string (bs ((rdL l_1 x_7).Name)), .int .i64 ((rdL l_1 x_7).Budget)]⟩]) (ps := [b_10 = b_10]) (by kernel_rfl) (And.intro rfl trivial) ?_
              refine GoO.bsplit (t := 43) (by kernel_rfl) (fun h15 => ?_) (fun h15 => ?_)
              · refine GoO.exec (is := [25, 26, 27, 28]) (hs := [.p, .p, .p, .p]) (rest := []) (ks := [13, 14, 15, 47]) (env' := [(13, .slice A_2 l_1.length c_3), (14, .int .i64 (l_1.length : Int)), (15, .int .i64 x_7), (47, .bool true)]) (H' := [⟨40, b_10, [.int .i64 ((rdL l_1 x_7).Part), .string (bs ((rdL l_1 x_7).Name)), .int .i64 ((rdL l_1 x_7).Budget)]⟩]) (ps := []) (by kernel_rfl) trivial ?_
                refine GoO.regionEnd ?_
                exact GoO.sub (ks := [13, 14, 15, 47]) (hk := []) (bk := [0]) (by kernel_rfl) (by kernel_rfl) (by kernel_rfl) (plan_Check_j1_ok n (plan_Check.l0 n l_1 k) l_1 x_7 A_2 c_3 w0 S0 ih0 true)
              · refine GoO.exec (is := [25, 26, 27, 28]) (hs := [.p, .b 0, .p, .p]) (rest := []) (ks := [13, 14, 15, 47]) (env' := [(13, .slice A_2 l_1.length c_3), (14, .int .i64 (l_1.length : Int)), (15, .int .i64 x_7), (47, .bool (decide (((rdL l_1 x_7).Budget) > 9)))]) (H' := [⟨40, b_10, [.int .i64 ((rdL l_1 x_7).Part), .string (bs ((rdL l_1 x_7).Name)), .int .i64 ((rdL l_1 x_7).Budget)]⟩]) (ps := [b_10 = b_10]) (by kernel_rfl) (And.intro rfl trivial) ?_
                refine GoO.regionEnd ?_
                exact GoO.sub (ks := [13, 14, 15, 47]) (hk := []) (bk := [0]) (by kernel_rfl) (by kernel_rfl) (by kernel_rfl) (plan_Check_j1_ok n (plan_Check.l0 n l_1 k) l_1 x_7 A_2 c_3 w0 S0 ih0 (decide (((rdL l_1 x_7).Budget) > 9)))
    · refine GoO.exit' c15_20e rfl ?_
      refine GoO.seq' c15_33e ?_
      refine GoO.region' (is := [0]) c15_34e (by kernel_rfl) ?_
      refine GoO.exec (is := [0]) (hs := [.p]) (rest := []) (ks := [2]) (env' := [(2, .int .i64 0)]) (H' := []) (ps := []) (by kernel_rfl) trivial ?_
      refine GoO.regionEnd ?_
      exact GoO.ret' (h := c15_35e) (hs := []) (ps := []) (hk := []) (bk := []) Try.func15 () (by kernel_rfl) trivial (by kernel_rfl) (by kernel_rfl)
theorem plan_Check_j0_ok (n : Nat) (l_1 : (List T_api_Step)) (A_2 : Option Addr) (c_3 : Nat) (w0 : World) (S0 : Fam) (b_5 : Bool) :
    GoO (plan_Check.cx A_2 c_3 w0 S0) [(0, .slice A_2 l_1.length c_3), (12, .bool b_5)] [] [Rd 0 kT_api_Step A_2 c_3 l_1] [.code c15_5, .code c15_10] (plan_Check.j0 n l_1 b_5) := by
  unfold plan_Check.j0
  refine GoO.ite' c15_5e (by kernel_rfl) (fun h6 => ?_) (fun h6 => ?_)
  · refine GoO.seq' c15_6e ?_
    refine GoO.region' (is := [0]) c15_7e (by kernel_rfl) ?_
    refine GoO.exec (is := [0]) (hs := [.p]) (rest := []) (ks := [2]) (env' := [(2, .int .i64 44)]) (H' := []) (ps := []) (by kernel_rfl) trivial ?_
    refine GoO.regionEnd ?_
    exact GoO.ret' (h := c15_8e) (hs := []) (ps := []) (hk := []) (bk := []) Try.func15 () (by kernel_rfl) trivial (by kernel_rfl) (by kernel_rfl)
  · refine GoO.skip' c15_9e ?_
    refine GoO.seq' c15_10e ?_
    refine GoO.seq' c15_11e ?_
    refine GoO.region' (is := [0, 1, 2]) c15_12e (by kernel_rfl) ?_
    refine GoO.exec (is := [0, 1, 2]) (hs := [.p, .p, .p]) (rest := []) (ks := [13, 14, 15]) (env' := [(13, .slice A_2 l_1.length c_3), (14, .int .i64 (l_1.length : Int)), (15, .int .i64 0)]) (H' := []) (ps := []) (by kernel_rfl) trivial ?_
    refine GoO.regionEnd ?_
    refine GoO.block' c15_13e ?_
    refine GoO.loop' c15_14e ?_
    exact GoO.sub (ks := [13, 14, 15]) (hk := []) (bk := [0]) (by kernel_rfl) (by kernel_rfl) (by kernel_rfl) (plan_Check_l0_ok n l_1 A_2 c_3 w0 S0 n 0)
theorem plan_Check_ok (n : Nat) (l_1 : (List T_api_Step)) (A_2 : Option Addr) (c_3 : Nat) :
    Meets Try.prog 15 [.slice A_2 l_1.length c_3] 0 [] [] [Rd 0 kT_api_Step A_2 c_3 l_1] (plan_Check.f n l_1) (plan_Check.R A_2 c_3) := by
  refine Meets.of (c := c15_0) (n := 49) Try.func15 (by kernel_rfl) (by kernel_rfl) (by kernel_rfl) fun w0 S0 => ?_
  unfold plan_Check.f
  show GoO (plan_Check.cx A_2 c_3 w0 S0) [(0, .slice A_2 l_1.length c_3)] [] [Rd 0 kT_api_Step A_2 c_3 l_1] [.code c15_0] _
  refine GoO.seq' c15_0e ?_
  refine GoO.region' (is := [0]) c15_1e (by kernel_rfl) ?_
  refine GoO.exec (is := [0]) (hs := [.p]) (rest := []) (ks := [0]) (env' := [(0, .slice A_2 l_1.length c_3)]) (H' := []) (ps := []) (by kernel_rfl) trivial ?_
  refine GoO.regionEnd ?_
  refine GoO.seq' c15_2e ?_
  refine GoO.seq' c15_3e ?_
  refine GoO.region' (is := [0, 1, 2, 3, 4, 5, 6, 7]) c15_4e (by kernel_rfl) ?_
  refine GoO.exec (is := [0, 1, 2, 3]) (hs := [.p, .p, .p, .p]) (rest := [4, 5, 6, 7]) (ks := [0, 8]) (env' := [(0, .slice A_2 l_1.length c_3), (8, .bool (decide ((l_1.length : Int) < 1)))]) (H' := []) (ps := []) (by kernel_rfl) trivial ?_
  refine GoO.bsplit (t := 8) (by kernel_rfl) (fun h4 => ?_) (fun h4 => ?_)
  · refine GoO.exec (is := [4, 5, 6, 7]) (hs := [.p, .p, .p, .p]) (rest := []) (ks := [0, 12]) (env' := [(0, .slice A_2 l_1.length c_3), (12, .bool true)]) (H' := []) (ps := []) (by kernel_rfl) trivial ?_
    refine GoO.regionEnd ?_
    exact GoO.sub (ks := [0, 12]) (hk := []) (bk := [0]) (by kernel_rfl) (by kernel_rfl) (by kernel_rfl) (plan_Check_j0_ok n l_1 A_2 c_3 w0 S0 true)
  · refine GoO.exec (is := [4, 5, 6, 7]) (hs := [.p, .p, .p, .p]) (rest := []) (ks := [0, 12]) (env' := [(0, .slice A_2 l_1.length c_3), (12, .bool (decide ((l_1.length : Int) > 64)))]) (H' := []) (ps := []) (by kernel_rfl) trivial ?_
    refine GoO.regionEnd ?_
    exact GoO.sub (ks := [0, 12]) (hk := []) (bk := [0]) (by kernel_rfl) (by kernel_rfl) (by kernel_rfl) (plan_Check_j0_ok n l_1 A_2 c_3 w0 S0 (decide ((l_1.length : Int) > 64)))

/-! (*tontine/pack.Writer).Bytes -/
noncomputable def c19_0 : Code := bodyOf Try.f19
noncomputable def c19_1 : Code := cdL c19_0
noncomputable def c19_2 : Code := cdR c19_0
noncomputable def c19_3 : Code := cdL c19_2
noncomputable def c19_4 : Code := cdL c19_3
noncomputable def c19_5 : Code := cdR c19_3
noncomputable def c19_9 : Code := cdR c19_5
noncomputable def c19_10 : Code := cdR c19_2
noncomputable def c19_11 : Code := cdL c19_10
noncomputable def c19_12 : Code := cdR c19_10
noncomputable def c19_6 : Code := cdL c19_5
noncomputable def r19_1 : Array Oper := cdO c19_1
noncomputable def r19_4 : Array Oper := cdO c19_4
noncomputable def r19_11 : Array Oper := cdO c19_11
theorem c19_0e : c19_0 = .seq c19_1 c19_2 := by kernel_rfl
theorem c19_1e : c19_1 = .region 0 r19_1 false := by kernel_rfl
theorem c19_2e : c19_2 = .seq c19_3 c19_10 := by kernel_rfl
theorem c19_3e : c19_3 = .seq c19_4 c19_5 := by kernel_rfl
theorem c19_4e : c19_4 = .region 1 r19_4 false := by kernel_rfl
theorem c19_5e : c19_5 = .cond (cdC c19_5) c19_6 c19_9 := by kernel_rfl
theorem c19_9e : c19_9 = .skip := by kernel_rfl
theorem c19_10e : c19_10 = .seq c19_11 c19_12 := by kernel_rfl
theorem c19_11e : c19_11 = .region 3 r19_11 false := by kernel_rfl
theorem c19_12e : c19_12 = .ret := by kernel_rfl
noncomputable def pack_Writer_Bytes.R (b_2 : Nat) (A_3 : Option Addr) (c_4 : Nat) : Pst (List UInt8) where
  ε := Unit
  v := fun r x => .string (bs r)
  H := fun r x => []
  B := fun r x => []
noncomputable def pack_Writer_Bytes.cx (b_2 : Nat) (A_3 : Option Addr) (c_4 : Nat) (w0 : World) (S0 : Fam) : Cx (List UInt8) := ⟨Try.prog, 19, Try.f19, 10, w0, S0, [], 2, pack_Writer_Bytes.R b_2 A_3 c_4⟩
theorem pack_Writer_Bytes_ok (n : Nat) (w_1 : T_pack_Writer) (b_2 : Nat) (A_3 : Option Addr) (c_4 : Nat) :
    Meets Try.prog 19 [.pointer (some ⟨b_2, 0, none⟩)] 2 [] [⟨1, b_2, [.slice A_3 w_1.b.length c_4]⟩] [Ow 2 Kd.u8 A_3 c_4 w_1.b] (pack_Writer_Bytes.f n w_1) (pack_Writer_Bytes.R b_2 A_3 c_4) := by
  refine Meets.of (c := c19_0) (n := 10) Try.func19 (by kernel_rfl) (by kernel_rfl) (by kernel_rfl) fun w0 S0 => ?_
  unfold pack_Writer_Bytes.f
  show GoO (pack_Writer_Bytes.cx b_2 A_3 c_4 w0 S0) [(0, .pointer (some ⟨b_2, 0, none⟩))] [⟨1, b_2, [.slice A_3 w_1.b.length c_4]⟩] [Ow 2 Kd.u8 A_3 c_4 w_1.b] [.code c19_0] _
  refine GoO.seq' c19_0e ?_
  refine GoO.region' (is := [0]) c19_1e (by kernel_rfl) ?_
  refine GoO.exec (is := [0]) (hs := [.p]) (rest := []) (ks := [0]) (env' := [(0, .pointer (some ⟨b_2, 0, none⟩))]) (H' := [⟨1, b_2, [.slice A_3 w_1.b.length c_4]⟩]) (ps := []) (by kernel_rfl) trivial ?_
  refine GoO.regionEnd ?_
  refine GoO.seq' c19_2e ?_
  refine GoO.seq' c19_3e ?_
  refine GoO.region' (is := [0, 1]) c19_4e (by kernel_rfl) ?_
  refine GoO.exec (is := [0, 1]) (hs := [.p, .p]) (rest := []) (ks := [0, 4]) (env' := [(0, .pointer (some ⟨b_2, 0, none⟩)), (4, .bool false)]) (H' := [⟨1, b_2, [.slice A_3 w_1.b.length c_4]⟩]) (ps := []) (by kernel_rfl) trivial ?_
  refine GoO.regionEnd ?_
  refine GoO.condF c19_5e (by kernel_rfl) ?_
  refine GoO.skip' c19_9e ?_
  refine GoO.seq' c19_10e ?_
  refine GoO.region' (is := [0, 1, 2, 3, 4, 5]) c19_11e (by kernel_rfl) ?_
  refine GoO.exec (is := [0, 1, 2, 3]) (hs := [.p, .p, .p, .b 0]) (rest := [4, 5]) (ks := [8]) (env' := [(8, .slice A_3 w_1.b.length c_4)]) (H' := [⟨1, b_2, [.slice A_3 w_1.b.length c_4]⟩]) (ps := [b_2 = b_2]) (by kernel_rfl) (And.intro rfl trivial) ?_
  refine OpTo.go (GoO.toStr (e := 5) (A := A_3) (c := c_4) (xs := w_1.b) (j := 0) rfl (by kernel_rfl) (by kernel_rfl) (by kernel_rfl) (by kernel_rfl) rfl Reads.own rfl rfl ?_)
  refine GoO.exec (is := [5]) (hs := [.p]) (rest := []) (ks := [2]) (env' := [(2, .string (bs w_1.b))]) (H' := [⟨1, b_2, [.slice A_3 w_1.b.length c_4]⟩]) (ps := []) (by kernel_rfl) trivial ?_
  refine GoO.regionEnd ?_
  exact GoO.ret' (h := c19_12e) (hs := []) (ps := []) (hk := []) (bk := []) Try.func19 () (by kernel_rfl) trivial (by kernel_rfl) (by kernel_rfl)

/-! tontine/tontinelaw13.begun -/
noncomputable def c14_0 : Code := bodyOf Try.f14
noncomputable def c14_1 : Code := cdL c14_0
noncomputable def c14_2 : Code := cdR c14_0
noncomputable def c14_3 : Code := cdL c14_2
noncomputable def c14_4 : Code := cdR c14_2
noncomputable def c14_5 : Code := cdL c14_4
noncomputable def c14_6 : Code := cdR c14_4
noncomputable def c14_7 : Code := cdL c14_6
noncomputable def c14_8 : Code := cdR c14_6
noncomputable def c14_9 : Code := cdL c14_8
noncomputable def c14_10 : Code := cdR c14_8
noncomputable def r14_1 : Array Oper := cdO c14_1
noncomputable def r14_3 : Array Oper := cdO c14_3
noncomputable def r14_5 : Array Oper := cdO c14_5
noncomputable def r14_7 : Array Oper := cdO c14_7
noncomputable def r14_9 : Array Oper := cdO c14_9
theorem c14_0e : c14_0 = .seq c14_1 c14_2 := by kernel_rfl
theorem c14_1e : c14_1 = .region 0 r14_1 false := by kernel_rfl
theorem c14_2e : c14_2 = .seq c14_3 c14_4 := by kernel_rfl
theorem c14_3e : c14_3 = .region 1 r14_3 false := by kernel_rfl
theorem c14_4e : c14_4 = .seq c14_5 c14_6 := by kernel_rfl
theorem c14_5e : c14_5 = .region 2 r14_5 false := by kernel_rfl
theorem c14_6e : c14_6 = .seq c14_7 c14_8 := by kernel_rfl
theorem c14_7e : c14_7 = .region 3 r14_7 false := by kernel_rfl
theorem c14_8e : c14_8 = .seq c14_9 c14_10 := by kernel_rfl
theorem c14_9e : c14_9 = .region 4 r14_9 false := by kernel_rfl
theorem c14_10e : c14_10 = .ret := by kernel_rfl
noncomputable def tontinelaw13_begun.R : Pst Bool where
  ε := Unit
  v := fun r x => .bool r
  H := fun r x => []
  B := fun r x => []
noncomputable def tontinelaw13_begun.cx (w0 : World) (S0 : Fam) : Cx Bool := ⟨Try.prog, 14, Try.f14, 21, w0, S0, [], 0, tontinelaw13_begun.R⟩
theorem tontinelaw13_begun_ok (n : Nat) :
    Meets Try.prog 14 [] 0 [] [] [] (tontinelaw13_begun.f n) (tontinelaw13_begun.R) := by
  refine Meets.of (c := c14_0) (n := 21) Try.func14 (by kernel_rfl) (by kernel_rfl) (by kernel_rfl) fun w0 S0 => ?_
  unfold tontinelaw13_begun.f
  show GoO (tontinelaw13_begun.cx w0 S0) [] [] [] [.code c14_0] _
  refine GoO.seq' c14_0e ?_
  refine GoO.region' (is := [0]) c14_1e (by kernel_rfl) ?_
  refine GoO.exec (is := [0]) (hs := [.p]) (rest := []) (ks := []) (env' := []) (H' := []) (ps := []) (by kernel_rfl) trivial ?_
  refine GoO.regionEnd ?_
  refine GoO.seq' c14_2e ?_
  refine GoO.region' (is := [0, 1, 2]) c14_3e (by kernel_rfl) ?_
  refine GoO.exec (is := [0]) (hs := [.p]) (rest := [1, 2]) (ks := [3]) (env' := [(3, .agg ⟨[.int .i64 2, .string (bs [112, 97, 121]), .int .i64 3]⟩)]) (H' := []) (ps := []) (by kernel_rfl) trivial ?_
  refine OpTo.go (GoO.lit (e := 41) (K := kT_api_Step) rfl (by kernel_rfl) (by kernel_rfl) (cs := [.int .i64 2, .string (bs [112, 97, 121]), .int .i64 3]) (by kernel_rfl) [(⟨2, [112, 97, 121], 3⟩ : T_api_Step)] (by kernel_rfl) (by kernel_rfl) (fun w S hB => ⟨[.int .i64 2, .string (bs [112, 97, 121]), .int .i64 3], _, rfl, rfl, rfl⟩) 40 _ (fun _ _ => rfl) (fun A_1 c_2 => ?_))
  refine GoO.exec (is := [2]) (hs := [.p]) (rest := []) (ks := [1]) (env' := [(1, .slice A_1 [(⟨2, [112, 97, 121], 3⟩ : T_api_Step)].length c_2)]) (H' := []) (ps := []) (by kernel_rfl) trivial ?_
  refine GoO.regionEnd ?_
  refine GoO.seq' c14_4e ?_
  refine GoO.region' (is := [0, 1]) c14_5e (by kernel_rfl) ?_
  refine OpTo.go (GoO.new rfl 41 (cs := [.slice none ([] : List UInt8).length 0]) (by kernel_rfl) _ (fun _ => rfl) (fun b_3 => ?_))
  refine GoO.exec (is := [1]) (hs := [.p]) (rest := []) (ks := [1, 2]) (env' := [(1, .slice A_1 [(⟨2, [112, 97, 121], 3⟩ : T_api_Step)].length c_2), (2, .pointer (some ⟨b_3, 0, none⟩))]) (H' := [⟨41, b_3, [.slice none ([] : List UInt8).length 0]⟩]) (ps := []) (by kernel_rfl) trivial ?_
  refine GoO.regionEnd ?_
  refine GoO.seq' c14_6e ?_
  refine GoO.region' (is := [0, 1, 2]) c14_7e (by kernel_rfl) ?_
  refine GoO.exec (is := [0, 1]) (hs := [.p, .p]) (rest := [2]) (ks := [1, 2, 6, 7]) (env' := [(1, .slice A_1 [(⟨2, [112, 97, 121], 3⟩ : T_api_Step)].length c_2), (2, .pointer (some ⟨b_3, 0, none⟩)), (6, .pointer (some ⟨b_3, 0, none⟩)), (7, .slice A_1 [(⟨2, [112, 97, 121], 3⟩ : T_api_Step)].length c_2)]) (H' := [⟨41, b_3, [.slice none ([] : List UInt8).length 0]⟩]) (ps := []) (by kernel_rfl) trivial ?_
  refine GoO.nilOwn Kd.u8 42 ?_
  refine GoO.retag (t := 40) (u := 0) (j := 1) (hk := [0]) (bk := [0]) rfl rfl rfl rfl rfl rfl (by kernel_rfl) (by kernel_rfl) ?_
  refine GoO.own2rd (j := 0) rfl ?_
  refine OpTo.go (GoO.call rfl (by kernel_rfl) (by kernel_rfl) (plan_Write_ok n (⟨[]⟩ : T_pack_Writer) [(⟨2, [112, 97, 121], 3⟩ : T_api_Step)] b_3 none 0 A_1 c_2) [[0], [41], [42]] [(41, 1), (42, 2)] [(1, 0)] [(2, 1), (0, 0)] (hks := []) (bks := [0]) (by kernel_rfl) (by kernel_rfl) (by kernel_rfl) (.inl rfl) rfl rfl (by kernel_rfl) (by kernel_rfl) _ (fun _ _ => rfl) _ _ (fun _ _ => rfl) (fun _ _ => rfl) (fun _ _ => by kernel_rfl) (fun _ _ => by kernel_rfl) (fun r_4 x_15 => ?_))
  obtain ⟨A_5, c_6⟩ := x_15
  refine GoO.shape (env' := [(1, .slice A_1 [(⟨2, [112, 97, 121], 3⟩ : T_api_Step)].length c_2), (2, .pointer (some ⟨b_3, 0, none⟩)), (6, .pointer (some ⟨b_3, 0, none⟩)), (7, .slice A_1 [(⟨2, [112, 97, 121], 3⟩ : T_api_Step)].length c_2), (8, .tuple ⟨[]⟩)]) (H' := [⟨41, b_3, [.slice A_5 r_4.b.length c_6]⟩]) (B' := [Ow 42 Kd.u8 A_5 c_6 r_4.b, Rd 0 kT_api_Step A_1 c_2 [(⟨2, [112, 97, 121], 3⟩ : T_api_Step)]]) (ks := [1, 2, 6, 7, 8]) (by kernel_rfl) (by kernel_rfl) (by kernel_rfl) ?_
  refine GoO.regionEnd ?_
  refine GoO.seq' c14_8e ?_
  refine GoO.region' (is := [0, 1, 2, 3, 4, 5, 6, 7, 8, 9, 10, 11, 12]) c14_9e (by kernel_rfl) ?_
  refine GoO.exec (is := [0]) (hs := [.p]) (rest := [1, 2, 3, 4, 5, 6, 7, 8, 9, 10, 11, 12]) (ks := [2, 9]) (env' := [(2, .pointer (some ⟨b_3, 0, none⟩)), (9, .slice A_1 [(⟨2, [112, 97, 121], 3⟩ : T_api_Step)].length c_2)]) (H' := [⟨41, b_3, [.slice A_5 r_4.b.length c_6]⟩]) (ps := []) (by kernel_rfl) trivial ?_
  refine OpTo.go (GoO.call rfl (by kernel_rfl) (by kernel_rfl) (plan_Check_ok n [(⟨2, [112, 97, 121], 3⟩ : T_api_Step)] A_1 c_2) [[0]] [] [] [(0, 1)] (hks := [0]) (bks := [0, 1]) (by kernel_rfl) (by kernel_rfl) (by kernel_rfl) (.inl rfl) rfl rfl (by kernel_rfl) (by kernel_rfl) _ (fun _ _ => rfl) _ _ (fun _ _ => rfl) (fun _ _ => rfl) (fun _ _ => by kernel_rfl) (fun _ _ => by kernel_rfl) (fun r_7 x_14 => ?_))
  refine GoO.shape (env' := [(2, .pointer (some ⟨b_3, 0, none⟩)), (9, .slice A_1 [(⟨2, [112, 97, 121], 3⟩ : T_api_Step)].length c_2), (10, .int .i64 r_7)]) (H' := [⟨41, b_3, [.slice A_5 r_4.b.length c_6]⟩]) (B' := [Ow 42 Kd.u8 A_5 c_6 r_4.b, Rd 0 kT_api_Step A_1 c_2 [(⟨2, [112, 97, 121], 3⟩ : T_api_Step)]]) (ks := [2, 9, 10]) (by kernel_rfl) (by kernel_rfl) (by kernel_rfl) ?_
  refine GoO.exec (is := [2, 3]) (hs := [.p, .p]) (rest := [4, 5, 6, 7, 8, 9, 10, 11, 12]) (ks := [2, 12]) (env' := [(2, .pointer (some ⟨b_3, 0, none⟩)), (12, .bool (r_7 == 0))]) (H' := [⟨41, b_3, [.slice A_5 r_4.b.length c_6]⟩]) (ps := []) (by kernel_rfl) trivial ?_
  refine GoO.bsplit (t := 12) (by kernel_rfl) (fun h8 => ?_) (fun h8 => ?_)
  · refine GoO.exec (is := [4]) (hs := [.p]) (rest := [5, 6, 7, 8, 9, 10, 11, 12]) (ks := [12, 13]) (env' := [(12, .bool true), (13, .pointer (some ⟨b_3, 0, none⟩))]) (H' := [⟨41, b_3, [.slice A_5 r_4.b.length c_6]⟩]) (ps := []) (by kernel_rfl) trivial ?_
    refine OpTo.go (GoO.call rfl (by kernel_rfl) (by kernel_rfl) (pack_Writer_Bytes_ok n r_4 b_3 A_5 c_6) [[0], [41], [42]] [] [(1, 0)] [(2, 0)] (hks := [0]) (bks := [0, 1]) (by kernel_rfl) (by kernel_rfl) (by kernel_rfl) (.inl rfl) rfl rfl (by kernel_rfl) (by kernel_rfl) _ (fun _ _ => rfl) _ _ (fun _ _ => rfl) (fun _ _ => rfl) (fun _ _ => by kernel_rfl) (fun _ _ => by kernel_rfl) (fun r_9 x_13 => ?_))
    refine GoO.shape (env' := [(12, .bool true), (13, .pointer (some ⟨b_3, 0, none⟩)), (14, .string (bs r_9))]) (H' := [⟨41, b_3, [.slice A_5 r_4.b.length c_6]⟩]) (B' := [Ow 42 Kd.u8 A_5 c_6 r_4.b, Rd 0 kT_api_Step A_1 c_2 [(⟨2, [112, 97, 121], 3⟩ : T_api_Step)]]) (ks := [12, 13, 14]) (by kernel_rfl) (by kernel_rfl) (by kernel_rfl) ?_
    refine GoO.exec (is := [6, 7, 8]) (hs := [.p, .p, .p]) (rest := [9, 10, 11, 12]) (ks := [17]) (env' := [(17, .bool (r_9 == ([1, 1, 1, 2, 1, 3, 112, 97, 121, 1, 3] : List UInt8)))]) (H' := [⟨41, b_3, [.slice A_5 r_4.b.length c_6]⟩]) (ps := []) (by kernel_rfl) trivial ?_
    refine GoO.bsplit (t := 17) (by kernel_rfl) (fun h10 => ?_) (fun h10 => ?_)
    · refine GoO.nilRd kT_api_Step ?_
      refine OpTo.go (GoO.call rfl (by kernel_rfl) (by kernel_rfl) (plan_Check_ok n ([] : List T_api_Step) none 0) [[0]] [] [] [(0, 0)] (hks := [0]) (bks := [0, 1, 2]) (by kernel_rfl) (by kernel_rfl) (by kernel_rfl) (.inl rfl) rfl rfl (by kernel_rfl) (by kernel_rfl) _ (fun _ _ => rfl) _ _ (fun _ _ => rfl) (fun _ _ => rfl) (fun _ _ => by kernel_rfl) (fun _ _ => by kernel_rfl) (fun r_11 x_12 => ?_))
      refine GoO.shape (env' := [(17, .bool true), (18, .int .i64 r_11)]) (H' := [⟨41, b_3, [.slice A_5 r_4.b.length c_6]⟩]) (B' := [Rd 0 kT_api_Step none 0 ([] : List T_api_Step), Ow 42 Kd.u8 A_5 c_6 r_4.b, Rd 0 kT_api_Step A_1 c_2 [(⟨2, [112, 97, 121], 3⟩ : T_api_Step)]]) (ks := [17, 18]) (by kernel_rfl) (by kernel_rfl) (by kernel_rfl) ?_
      refine GoO.exec (is := [10, 11, 12]) (hs := [.p, .p, .p]) (rest := []) (ks := [0]) (env' := [(0, .bool (r_11 == 44))]) (H' := [⟨41, b_3, [.slice A_5 r_4.b.length c_6]⟩]) (ps := []) (by kernel_rfl) trivial ?_
      refine GoO.regionEnd ?_
      exact GoO.ret' (h := c14_10e) (hs := []) (ps := []) (hk := []) (bk := []) Try.func14 () (by kernel_rfl) trivial (by kernel_rfl) (by kernel_rfl)
    · refine GoO.exec (is := [9, 10, 11, 12]) (hs := [.p, .p, .p, .p]) (rest := []) (ks := [0]) (env' := [(0, .bool false)]) (H' := [⟨41, b_3, [.slice A_5 r_4.b.length c_6]⟩]) (ps := []) (by kernel_rfl) trivial ?_
      refine GoO.regionEnd ?_
      exact GoO.ret' (h := c14_10e) (hs := []) (ps := []) (hk := []) (bk := []) Try.func14 () (by kernel_rfl) trivial (by kernel_rfl) (by kernel_rfl)
  · refine GoO.exec (is := [4, 5, 6, 7, 8, 9, 10, 11, 12]) (hs := [.p, .p, .p, .p, .p, .p, .p, .p, .p]) (rest := []) (ks := [0]) (env' := [(0, .bool false)]) (H' := [⟨41, b_3, [.slice A_5 r_4.b.length c_6]⟩]) (ps := []) (by kernel_rfl) trivial ?_
    refine GoO.regionEnd ?_
    exact GoO.ret' (h := c14_10e) (hs := []) (ps := []) (hk := []) (bk := []) Try.func14 () (by kernel_rfl) trivial (by kernel_rfl) (by kernel_rfl)

/-! tontine/tontinelaw13.PlanLimits -/
noncomputable def c5_0 : Code := bodyOf Try.f5
noncomputable def c5_1 : Code := cdL c5_0
noncomputable def c5_2 : Code := cdR c5_0
noncomputable def c5_3 : Code := cdL c5_2
noncomputable def c5_4 : Code := cdR c5_2
noncomputable def c5_5 : Code := cdL c5_4
noncomputable def c5_6 : Code := cdL c5_5
noncomputable def c5_7 : Code := cdR c5_5
noncomputable def c5_8 : Code := cdL c5_7
noncomputable def c5_9 : Code := cdL c5_8
noncomputable def c5_10 : Code := cdR c5_8
noncomputable def c5_11 : Code := cdR c5_7
noncomputable def c5_12 : Code := cdR c5_4
noncomputable def c5_13 : Code := cdL c5_12
noncomputable def c5_14 : Code := cdR c5_12
noncomputable def c5_15 : Code := cdL c5_14
noncomputable def c5_16 : Code := cdR c5_14
noncomputable def c5_17 : Code := cdL c5_16
noncomputable def c5_18 : Code := cdL c5_17
noncomputable def c5_19 : Code := cdR c5_17
noncomputable def c5_20 : Code := cdL c5_19
noncomputable def c5_21 : Code := cdL c5_20
noncomputable def c5_22 : Code := cdL c5_21
noncomputable def c5_23 : Code := cdR c5_21
noncomputable def c5_24 : Code := cdL c5_23
noncomputable def c5_25 : Code := cdL c5_24
noncomputable def c5_26 : Code := cdR c5_24
noncomputable def c5_27 : Code := cdR c5_23
noncomputable def c5_28 : Code := cdL c5_27
noncomputable def c5_29 : Code := cdL c5_28
noncomputable def c5_30 : Code := cdR c5_27
noncomputable def c5_31 : Code := cdR c5_16
noncomputable def c5_32 : Code := cdL c5_31
noncomputable def c5_33 : Code := cdL c5_32
noncomputable def c5_34 : Code := cdR c5_32
noncomputable def c5_35 : Code := cdL c5_34
noncomputable def c5_36 : Code := cdR c5_34
noncomputable def c5_37 : Code := cdR c5_31
noncomputable def c5_38 : Code := cdL c5_37
noncomputable def c5_39 : Code := cdR c5_37
noncomputable def c5_40 : Code := cdL c5_39
noncomputable def c5_41 : Code := cdR c5_39
noncomputable def r5_1 : Array Oper := cdO c5_1
noncomputable def r5_3 : Array Oper := cdO c5_3
noncomputable def r5_6 : Array Oper := cdO c5_6
noncomputable def r5_9 : Array Oper := cdO c5_9
noncomputable def r5_13 : Array Oper := cdO c5_13
noncomputable def r5_15 : Array Oper := cdO c5_15
noncomputable def r5_18 : Array Oper := cdO c5_18
noncomputable def r5_22 : Array Oper := cdO c5_22
noncomputable def r5_29 : Array Oper := cdO c5_29
noncomputable def r5_30 : Array Oper := cdO c5_30
noncomputable def r5_33 : Array Oper := cdO c5_33
noncomputable def r5_35 : Array Oper := cdO c5_35
noncomputable def r5_38 : Array Oper := cdO c5_38
noncomputable def r5_40 : Array Oper := cdO c5_40
theorem c5_0e : c5_0 = .seq c5_1 c5_2 := by kernel_rfl
theorem c5_1e : c5_1 = .region 0 r5_1 false := by kernel_rfl
theorem c5_2e : c5_2 = .seq c5_3 c5_4 := by kernel_rfl
theorem c5_3e : c5_3 = .region 1 r5_3 true := by kernel_rfl
theorem c5_4e : c5_4 = .seq c5_5 c5_12 := by kernel_rfl
theorem c5_5e : c5_5 = .seq c5_6 c5_7 := by kernel_rfl
theorem c5_6e : c5_6 = .region 2 r5_6 false := by kernel_rfl
theorem c5_7e : c5_7 = .cond (cdC c5_7) c5_8 c5_11 := by kernel_rfl
theorem c5_8e : c5_8 = .seq c5_9 c5_10 := by kernel_rfl
theorem c5_9e : c5_9 = .region 3 r5_9 false := by kernel_rfl
theorem c5_10e : c5_10 = .ret := by kernel_rfl
theorem c5_11e : c5_11 = .skip := by kernel_rfl
theorem c5_12e : c5_12 = .seq c5_13 c5_14 := by kernel_rfl
theorem c5_13e : c5_13 = .region 4 r5_13 false := by kernel_rfl
theorem c5_14e : c5_14 = .seq c5_15 c5_16 := by kernel_rfl
theorem c5_15e : c5_15 = .region 5 r5_15 false := by kernel_rfl
theorem c5_16e : c5_16 = .seq c5_17 c5_31 := by kernel_rfl
theorem c5_17e : c5_17 = .seq c5_18 c5_19 := by kernel_rfl
theorem c5_18e : c5_18 = .region 6 r5_18 false := by kernel_rfl
theorem c5_19e : c5_19 = .block 0 c5_20 := by kernel_rfl
theorem c5_20e : c5_20 = .loop c5_21 := by kernel_rfl
theorem c5_21e : c5_21 = .seq c5_22 c5_23 := by kernel_rfl
theorem c5_22e : c5_22 = .region 7 r5_22 false := by kernel_rfl
theorem c5_23e : c5_23 = .seq c5_24 c5_27 := by kernel_rfl
theorem c5_24e : c5_24 = .cond (cdC c5_24) c5_25 c5_26 := by kernel_rfl
theorem c5_25e : c5_25 = .skip := by kernel_rfl
theorem c5_26e : c5_26 = .exit 0 := by kernel_rfl
theorem c5_27e : c5_27 = .seq c5_28 c5_30 := by kernel_rfl
theorem c5_28e : c5_28 = .block 1 c5_29 := by kernel_rfl
theorem c5_29e : c5_29 = .region 8 r5_29 false := by kernel_rfl
theorem c5_30e : c5_30 = .region 9 r5_30 false := by kernel_rfl
theorem c5_31e : c5_31 = .seq c5_32 c5_37 := by kernel_rfl
theorem c5_32e : c5_32 = .seq c5_33 c5_34 := by kernel_rfl
theorem c5_33e : c5_33 = .region 10 r5_33 false := by kernel_rfl
theorem c5_34e : c5_34 = .cond (cdC c5_34) c5_35 c5_36 := by kernel_rfl
theorem c5_35e : c5_35 = .region 11 r5_35 false := by kernel_rfl
theorem c5_36e : c5_36 = .skip := by kernel_rfl
theorem c5_37e : c5_37 = .seq c5_38 c5_39 := by kernel_rfl
theorem c5_38e : c5_38 = .region 12 r5_38 false := by kernel_rfl
theorem c5_39e : c5_39 = .seq c5_40 c5_41 := by kernel_rfl
theorem c5_40e : c5_40 = .region 13 r5_40 false := by kernel_rfl
theorem c5_41e : c5_41 = .ret := by kernel_rfl
noncomputable def tontinelaw13_PlanLimits.R : Pst Bool where
  ε := Unit
  v := fun r x => .bool r
  H := fun r x => []
  B := fun r x => []
noncomputable def tontinelaw13_PlanLimits.cx (w0 : World) (S0 : Fam) : Cx Bool := ⟨Try.prog, 5, Try.f5, 86, w0, S0, [], 0, tontinelaw13_PlanLimits.R⟩
theorem tontinelaw13_PlanLimits_j1_ok (n : Nat) (l_28 : (List T_api_Step)) (A_29 : Option Addr) (c_30 : Nat) (w0 : World) (S0 : Fam) (ok_38 : Bool) :
    GoO (tontinelaw13_PlanLimits.cx w0 S0) [(7, .slice A_29 l_28.length c_30), (8, .bool ok_38)] [] [Ow 42 kT_api_Step A_29 c_30 l_28] [.code c5_39] (tontinelaw13_PlanLimits.j1 n l_28 ok_38) := by
  unfold tontinelaw13_PlanLimits.j1
  refine GoO.seq' c5_39e ?_
  refine GoO.region' (is := [0, 1, 2, 3, 4, 5]) c5_40e (by kernel_rfl) ?_
  refine GoO.exec (is := [0]) (hs := [.p]) (rest := [1, 2, 3, 4, 5]) (ks := [8, 81]) (env' := [(8, .bool ok_38), (81, .slice A_29 l_28.length c_30)]) (H' := []) (ps := []) (by kernel_rfl) trivial ?_
  refine GoO.view (j := 0) rfl ?_
  refine OpTo.go (GoO.call rfl (by kernel_rfl) (by kernel_rfl) (plan_Check_ok n l_28 A_29 c_30) [[0, 42]] [] [] [(0, 1)] (hks := []) (bks := [0]) (by kernel_rfl) (by kernel_rfl) (by kernel_rfl) (.inr (fun _ _ => by simp [plan_Check.R])) rfl rfl (by kernel_rfl) (by kernel_rfl) _ (fun _ _ => rfl) _ _ (fun _ _ => rfl) (fun _ _ => rfl) (fun _ _ => by kernel_rfl) (fun _ _ => by kernel_rfl) (fun r_39 x_40 => ?_))
  refine GoO.shape (env' := [(8, .bool ok_38), (81, .slice A_29 l_28.length c_30), (82, .int .i64 r_39)]) (H' := []) (B' := [Ow 42 kT_api_Step A_29 c_30 l_28]) (ks := [8, 81, 82]) (by kernel_rfl) (by kernel_rfl) (by kernel_rfl) ?_
  refine GoO.exec (is := [2, 3, 4, 5]) (hs := [.p, .p, .p, .p]) (rest := []) (ks := [2]) (env' := [(2, .bool ((r_39 == 0) == ok_38))]) (H' := []) (ps := []) (by kernel_rfl) trivial ?_
  refine GoO.regionEnd ?_
  exact GoO.ret' (h := c5_41e) (hs := []) (ps := []) (hk := []) (bk := []) Try.func5 () (by kernel_rfl) trivial (by kernel_rfl) (by kernel_rfl)
theorem tontinelaw13_PlanLimits_j0_ok (n : Nat) (z_1 : (List Int)) (w0 : World) (S0 : Fam) (l_28 : (List T_api_Step)) (A_29 : Option Addr) (c_30 : Nat) :
    GoO (tontinelaw13_PlanLimits.cx w0 S0) [(3, .int .i64 ((rdL z_1 (0 : Int)).tmod 8)), (4, .int .i64 ((wi64 (((rdL z_1 (1 : Int)).tmod 30) + 30)).tmod 30)), (5, .int .i64 ((rdL z_1 (2 : Int)).tmod 14)), (6, .int .i64 ((wi64 (((rdL z_1 (3 : Int)).tmod 70) + 70)).tmod 70)), (7, .slice A_29 l_28.length c_30)] [] [Ow 42 kT_api_Step A_29 c_30 l_28] [.code c5_37] (tontinelaw13_PlanLimits.j0 n z_1 l_28) := by
  unfold tontinelaw13_PlanLimits.j0
  refine GoO.seq' c5_37e ?_
  refine GoO.region' (is := [0, 1, 2, 3, 4, 5, 6, 7, 8, 9, 10, 11, 12, 13, 14, 15, 16, 17, 18, 19, 20, 21, 22, 23, 24, 25, 26, 27, 28, 29, 30]) c5_38e (by kernel_rfl) ?_
  refine GoO.exec (is := [0, 1, 2]) (hs := [.p, .p, .p]) (rest := [3, 4, 5, 6, 7, 8, 9, 10, 11, 12, 13, 14, 15, 16, 17, 18, 19, 20, 21, 22, 23, 24, 25, 26, 27, 28, 29, 30]) (ks := [3, 4, 5, 6, 7, 53]) (env' := [(3, .int .i64 ((rdL z_1 (0 : Int)).tmod 8)), (4, .int .i64 ((wi64 (((rdL z_1 (1 : Int)).tmod 30) + 30)).tmod 30)), (5, .int .i64 ((rdL z_1 (2 : Int)).tmod 14)), (6, .int .i64 ((wi64 (((rdL z_1 (3 : Int)).tmod 70) + 70)).tmod 70)), (7, .slice A_29 l_28.length c_30), (53, .bool (decide (((wi64 (((rdL z_1 (3 : Int)).tmod 70) + 70)).tmod 70) ≥ 1)))]) (H' := []) (ps := []) (by kernel_rfl) trivial ?_
  refine GoO.bsplit (t := 53) (by kernel_rfl) (fun h31 => ?_) (fun h31 => ?_)
  · refine GoO.exec (is := [3, 4, 5, 6]) (hs := [.p, .p, .p, .p]) (rest := [7, 8, 9, 10, 11, 12, 13, 14, 15, 16, 17, 18, 19, 20, 21, 22, 23, 24, 25, 26, 27, 28, 29, 30]) (ks := [3, 4, 5, 7, 57]) (env' := [(3, .int .i64 ((rdL z_1 (0 : Int)).tmod 8)), (4, .int .i64 ((wi64 (((rdL z_1 (1 : Int)).tmod 30) + 30)).tmod 30)), (5, .int .i64 ((rdL z_1 (2 : Int)).tmod 14)), (7, .slice A_29 l_28.length c_30), (57, .bool (decide (((wi64 (((rdL z_1 (3 : Int)).tmod 70) + 70)).tmod 70) ≤ 64)))]) (H' := []) (ps := []) (by kernel_rfl) trivial ?_
    refine GoO.bsplit (t := 57) (by kernel_rfl) (fun h32 => ?_) (fun h32 => ?_)
    · refine GoO.exec (is := [7, 8, 9, 10]) (hs := [.p, .p, .p, .p]) (rest := [11, 12, 13, 14, 15, 16, 17, 18, 19, 20, 21, 22, 23, 24, 25, 26, 27, 28, 29, 30]) (ks := [3, 4, 5, 7, 61]) (env' := [(3, .int .i64 ((rdL z_1 (0 : Int)).tmod 8)), (4, .int .i64 ((wi64 (((rdL z_1 (1 : Int)).tmod 30) + 30)).tmod 30)), (5, .int .i64 ((rdL z_1 (2 : Int)).tmod 14)), (7, .slice A_29 l_28.length c_30), (61, .bool (decide (((rdL z_1 (0 : Int)).tmod 8) ≥ 0)))]) (H' := []) (ps := []) (by kernel_rfl) trivial ?_
      refine GoO.bsplit (t := 61) (by kernel_rfl) (fun h33 => ?_) (fun h33 => ?_)
      · refine GoO.exec (is := [11, 12, 13, 14]) (hs := [.p, .p, .p, .p]) (rest := [15, 16, 17, 18, 19, 20, 21, 22, 23, 24, 25, 26, 27, 28, 29, 30]) (ks := [4, 5, 7, 65]) (env' := [(4, .int .i64 ((wi64 (((rdL z_1 (1 : Int)).tmod 30) + 30)).tmod 30)), (5, .int .i64 ((rdL z_1 (2 : Int)).tmod 14)), (7, .slice A_29 l_28.length c_30), (65, .bool (decide (((rdL z_1 (0 : Int)).tmod 8) < 4)))]) (H' := []) (ps := []) (by kernel_rfl) trivial ?_
        refine GoO.bsplit (t := 65) (by kernel_rfl) (fun h34 => ?_) (fun h34 => ?_)
        · refine GoO.exec (is := [15, 16, 17, 18]) (hs := [.p, .p, .p, .p]) (rest := [19, 20, 21, 22, 23, 24, 25, 26, 27, 28, 29, 30]) (ks := [4, 5, 7, 69]) (env' := [(4, .int .i64 ((wi64 (((rdL z_1 (1 : Int)).tmod 30) + 30)).tmod 30)), (5, .int .i64 ((rdL z_1 (2 : Int)).tmod 14)), (7, .slice A_29 l_28.length c_30), (69, .bool (decide (((wi64 (((rdL z_1 (1 : Int)).tmod 30) + 30)).tmod 30) ≥ 1)))]) (H' := []) (ps := []) (by kernel_rfl) trivial ?_
          refine GoO.bsplit (t := 69) (by kernel_rfl) (fun h35 => ?_) (fun h35 => ?_)
          · refine GoO.exec (is := [19, 20, 21, 22]) (hs := [.p, .p, .p, .p]) (rest := [23, 24, 25, 26, 27, 28, 29, 30]) (ks := [5, 7, 73]) (env' := [(5, .int .i64 ((rdL z_1 (2 : Int)).tmod 14)), (7, .slice A_29 l_28.length c_30), (73, .bool (decide (((wi64 (((rdL z_1 (1 : Int)).tmod 30) + 30)).tmod 30) ≤ 16)))]) (H' := []) (ps := []) (by kernel_rfl) trivial ?_
            refine GoO.bsplit (t := 73) (by kernel_rfl) (fun h36 => ?_) (fun h36 => ?_)
            · refine GoO.exec (is := [23, 24, 25, 26]) (hs := [.p, .p, .p, .p]) (rest := [27, 28, 29, 30]) (ks := [5, 7, 77]) (env' := [(5, .int .i64 ((rdL z_1 (2 : Int)).tmod 14)), (7, .slice A_29 l_28.length c_30), (77, .bool (decide (((rdL z_1 (2 : Int)).tmod 14) ≥ 1)))]) (H' := []) (ps := []) (by kernel_rfl) trivial ?_
              refine GoO.bsplit (t := 77) (by kernel_rfl) (fun h37 => ?_) (fun h37 => ?_)
              · refine GoO.exec (is := [27, 28, 29, 30]) (hs := [.p, .p, .p, .p]) (rest := []) (ks := [7, 8]) (env' := [(7, .slice A_29 l_28.length c_30), (8, .bool (decide (((rdL z_1 (2 : Int)).tmod 14) ≤ 9)))]) (H' := []) (ps := []) (by kernel_rfl) trivial ?_
                refine GoO.regionEnd ?_
                exact GoO.sub (ks := [7, 8]) (hk := []) (bk := [0]) (by kernel_rfl) (by kernel_rfl) (by kernel_rfl) (tontinelaw13_PlanLimits_j1_ok n l_28 A_29 c_30 w0 S0 (decide (((rdL z_1 (2 : Int)).tmod 14) ≤ 9)))
              · refine GoO.exec (is := [27, 28, 29, 30]) (hs := [.p, .p, .p, .p]) (rest := []) (ks := [7, 8]) (env' := [(7, .slice A_29 l_28.length c_30), (8, .bool false)]) (H' := []) (ps := []) (by kernel_rfl) trivial ?_
                refine GoO.regionEnd ?_
                exact GoO.sub (ks := [7, 8]) (hk := []) (bk := [0]) (by kernel_rfl) (by kernel_rfl) (by kernel_rfl) (tontinelaw13_PlanLimits_j1_ok n l_28 A_29 c_30 w0 S0 false)
            · refine GoO.exec (is := [23, 24, 25, 26, 27, 28, 29, 30]) (hs := [.p, .p, .p, .p, .p, .p, .p, .p]) (rest := []) (ks := [7, 8]) (env' := [(7, .slice A_29 l_28.length c_30), (8, .bool false)]) (H' := []) (ps := []) (by kernel_rfl) trivial ?_
              refine GoO.regionEnd ?_
              exact GoO.sub (ks := [7, 8]) (hk := []) (bk := [0]) (by kernel_rfl) (by kernel_rfl) (by kernel_rfl) (tontinelaw13_PlanLimits_j1_ok n l_28 A_29 c_30 w0 S0 false)
          · refine GoO.exec (is := [19, 20, 21, 22, 23, 24, 25, 26, 27, 28, 29, 30]) (hs := [.p, .p, .p, .p, .p, .p, .p, .p, .p, .p, .p, .p]) (rest := []) (ks := [7, 8]) (env' := [(7, .slice A_29 l_28.length c_30), (8, .bool false)]) (H' := []) (ps := []) (by kernel_rfl) trivial ?_
            refine GoO.regionEnd ?_
            exact GoO.sub (ks := [7, 8]) (hk := []) (bk := [0]) (by kernel_rfl) (by kernel_rfl) (by kernel_rfl) (tontinelaw13_PlanLimits_j1_ok n l_28 A_29 c_30 w0 S0 false)
        · refine GoO.exec (is := [15, 16, 17, 18, 19, 20, 21, 22, 23, 24, 25, 26, 27, 28, 29, 30]) (hs := [.p, .p, .p, .p, .p, .p, .p, .p, .p, .p, .p, .p, .p, .p, .p, .p]) (rest := []) (ks := [7, 8]) (env' := [(7, .slice A_29 l_28.length c_30), (8, .bool false)]) (H' := []) (ps := []) (by kernel_rfl) trivial ?_
          refine GoO.regionEnd ?_
          exact GoO.sub (ks := [7, 8]) (hk := []) (bk := [0]) (by kernel_rfl) (by kernel_rfl) (by kernel_rfl) (tontinelaw13_PlanLimits_j1_ok n l_28 A_29 c_30 w0 S0 false)
      · refine GoO.exec (is := [11, 12, 13, 14, 15, 16, 17, 18, 19, 20, 21, 22, 23, 24, 25, 26, 27, 28, 29, 30]) (hs := [.p, .p, .p, .p, .p, .p, .p, .p, .p, .p, .p, .p, .p, .p, .p, .p, .p, .p, .p, .p]) (rest := []) (ks := [7, 8]) (env' := [(7, .slice A_29 l_28.length c_30), (8, .bool false)]) (H' := []) (ps := []) (by kernel_rfl) trivial ?_
        refine GoO.regionEnd ?_
        exact GoO.sub (ks := [7, 8]) (hk := []) (bk := [0]) (by kernel_rfl) (by kernel_rfl) (by kernel_rfl) (tontinelaw13_PlanLimits_j1_ok n l_28 A_29 c_30 w0 S0 false)
    · refine GoO.exec (is := [7, 8, 9, 10, 11, 12, 13, 14, 15, 16, 17, 18, 19, 20, 21, 22, 23, 24, 25, 26, 27, 28, 29, 30]) (hs := [.p, .p, .p, .p, .p, .p, .p, .p, .p, .p, .p, .p, .p, .p, .p, .p, .p, .p, .p, .p, .p, .p, .p, .p]) (rest := []) (ks := [7, 8]) (env' := [(7, .slice A_29 l_28.length c_30), (8, .bool false)]) (H' := []) (ps := []) (by kernel_rfl) trivial ?_
      refine GoO.regionEnd ?_
      exact GoO.sub (ks := [7, 8]) (hk := []) (bk := [0]) (by kernel_rfl) (by kernel_rfl) (by kernel_rfl) (tontinelaw13_PlanLimits_j1_ok n l_28 A_29 c_30 w0 S0 false)
  · refine GoO.exec (is := [3, 4, 5, 6, 7, 8, 9, 10, 11, 12, 13, 14, 15, 16, 17, 18, 19, 20, 21, 22, 23, 24, 25, 26, 27, 28, 29, 30]) (hs := [.p, .p, .p, .p, .p, .p, .p, .p, .p, .p, .p, .p, .p, .p, .p, .p, .p, .p, .p, .p, .p, .p, .p, .p, .p, .p, .p, .p]) (rest := []) (ks := [7, 8]) (env' := [(7, .slice A_29 l_28.length c_30), (8, .bool false)]) (H' := []) (ps := []) (by kernel_rfl) trivial ?_
    refine GoO.regionEnd ?_
    exact GoO.sub (ks := [7, 8]) (hk := []) (bk := [0]) (by kernel_rfl) (by kernel_rfl) (by kernel_rfl) (tontinelaw13_PlanLimits_j1_ok n l_28 A_29 c_30 w0 S0 false)
theorem tontinelaw13_PlanLimits_l0_ok (n : Nat) (z_1 : (List Int)) (w0 : World) (S0 : Fam) :
    ∀ (k : Nat) (l_13 : (List T_api_Step)) (x_16 : Int) (A_14 : Option Addr) (c_15 : Nat), GoO (tontinelaw13_PlanLimits.cx w0 S0) [(3, .int .i64 ((rdL z_1 (0 : Int)).tmod 8)), (4, .int .i64 ((wi64 (((rdL z_1 (1 : Int)).tmod 30) + 30)).tmod 30)), (5, .int .i64 ((rdL z_1 (2 : Int)).tmod 14)), (6, .int .i64 ((wi64 (((rdL z_1 (3 : Int)).tmod 70) + 70)).tmod 70)), (7, .slice A_14 l_13.length c_15), (31, .int .i64 ((wi64 (((rdL z_1 (3 : Int)).tmod 70) + 70)).tmod 70)), (32, .int .i64 x_16)] [] [Ow 42 kT_api_Step A_14 c_15 l_13] [.code c5_21, .inLoop c5_21, .inBlock 0, .code c5_31] (tontinelaw13_PlanLimits.l0 n z_1 k l_13 x_16) := by
  intro k
  induction k with
  | zero => intros; rw [tontinelaw13_PlanLimits.l0.eq_1]; exact GoO.stop
  | succ k ih0 =>
    intro l_13 x_16 A_14 c_15
    rw [tontinelaw13_PlanLimits.l0.eq_2]
    refine GoO.seq' c5_21e ?_
    refine GoO.region' (is := [0]) c5_22e (by kernel_rfl) ?_
    refine GoO.exec (is := [0]) (hs := [.p]) (rest := []) (ks := [3, 4, 5, 6, 7, 31, 32, 33]) (env' := [(3, .int .i64 ((rdL z_1 (0 : Int)).tmod 8)), (4, .int .i64 ((wi64 (((rdL z_1 (1 : Int)).tmod 30) + 30)).tmod 30)), (5, .int .i64 ((rdL z_1 (2 : Int)).tmod 14)), (6, .int .i64 ((wi64 (((rdL z_1 (3 : Int)).tmod 70) + 70)).tmod 70)), (7, .slice A_14 l_13.length c_15), (31, .int .i64 ((wi64 (((rdL z_1 (3 : Int)).tmod 70) + 70)).tmod 70)), (32, .int .i64 x_16), (33, .bool (decide (x_16 < ((wi64 (((rdL z_1 (3 : Int)).tmod 70) + 70)).tmod 70))))]) (H' := []) (ps := []) (by kernel_rfl) trivial ?_
    refine GoO.regionEnd ?_
    refine GoO.seq' c5_23e ?_
    refine GoO.ite' c5_24e (by kernel_rfl) (fun h17 => ?_) (fun h17 => ?_)
    · refine GoO.skip' c5_25e ?_
      refine GoO.seq' c5_27e ?_
      refine GoO.block' c5_28e ?_
      refine GoO.region' (is := [0, 1, 2, 3, 4]) c5_29e (by kernel_rfl) ?_
      refine GoO.exec (is := [0, 1]) (hs := [.p, .p]) (rest := [2, 3, 4]) (ks := [3, 4, 5, 6, 31, 32, 34, 35]) (env' := [(3, .int .i64 ((rdL z_1 (0 : Int)).tmod 8)), (4, .int .i64 ((wi64 (((rdL z_1 (1 : Int)).tmod 30) + 30)).tmod 30)), (5, .int .i64 ((rdL z_1 (2 : Int)).tmod 14)), (6, .int .i64 ((wi64 (((rdL z_1 (3 : Int)).tmod 70) + 70)).tmod 70)), (31, .int .i64 ((wi64 (((rdL z_1 (3 : Int)).tmod 70) + 70)).tmod 70)), (32, .int .i64 x_16), (34, .slice A_14 l_13.length c_15), (35, .agg ⟨[.int .i64 1, .string (bs [115]), .int .i64 1]⟩)]) (H' := []) (ps := []) (by kernel_rfl) trivial ?_
      refine OpTo.go (GoO.lit (e := 41) (K := kT_api_Step) rfl (by kernel_rfl) (by kernel_rfl) (cs := [.int .i64 1, .string (bs [115]), .int .i64 1]) (by kernel_rfl) [(⟨1, [115], 1⟩ : T_api_Step)] (by kernel_rfl) (by kernel_rfl) (fun w S hB => ⟨[.int .i64 1, .string (bs [115]), .int .i64 1], _, rfl, rfl, rfl⟩) 41 _ (fun _ _ => rfl) (fun A_18 c_19 => ?_))
      refine GoO.guard (fun h20 => ?_)
      refine OpTo.go (GoO.appW (e := 41) (K := kT_api_Step) (A := A_14) (c := c_15) (tg := 42) (bytes := 32) (zs := [.int .i64 0, .string (bs []), .int .i64 0]) (xs := l_13) (ys := [(⟨1, [115], 1⟩ : T_api_Step)]) (xv := .slice A_18 [(⟨1, [115], 1⟩ : T_api_Step)].length c_19) (j := 1) (bk := [0]) rfl (by kernel_rfl) (by kernel_rfl) (by kernel_rfl) (by kernel_rfl) rfl (by kernel_rfl) rfl (fun w S hB => SrcIs.row (Reads.own w S (hB _ (List.mem_of_getElem? (i := 0) rfl)))) h20 rfl rfl rfl rfl _ (fun _ _ => rfl) (fun A_21 c_22 => ?_))
      refine GoO.exec (is := [4]) (hs := [.p]) (rest := []) (ks := [3, 4, 5, 6, 7, 31, 32]) (env' := [(3, .int .i64 ((rdL z_1 (0 : Int)).tmod 8)), (4, .int .i64 ((wi64 (((rdL z_1 (1 : Int)).tmod 30) + 30)).tmod 30)), (5, .int .i64 ((rdL z_1 (2 : Int)).tmod 14)), (6, .int .i64 ((wi64 (((rdL z_1 (3 : Int)).tmod 70) + 70)).tmod 70)), (7, .slice A_21 (l_13 ++ [(⟨1, [115], 1⟩ : T_api_Step)]).length c_22), (31, .int .i64 ((wi64 (((rdL z_1 (3 : Int)).tmod 70) + 70)).tmod 70)), (32, .int .i64 x_16)]) (H' := []) (ps := []) (by kernel_rfl) trivial ?_
      refine GoO.regionEnd ?_
      refine GoO.inBlock ?_
      refine GoO.region' (is := [0, 1]) c5_30e (by kernel_rfl) ?_
      refine GoO.exec (is := [0, 1]) (hs := [.p, .p]) (rest := []) (ks := [3, 4, 5, 6, 7, 31, 32]) (env' := [(3, .int .i64 ((rdL z_1 (0 : Int)).tmod 8)), (4, .int .i64 ((wi64 (((rdL z_1 (1 : Int)).tmod 30) + 30)).tmod 30)), (5, .int .i64 ((rdL z_1 (2 : Int)).tmod 14)), (6, .int .i64 ((wi64 (((rdL z_1 (3 : Int)).tmod 70) + 70)).tmod 70)), (7, .slice A_21 (l_13 ++ [(⟨1, [115], 1⟩ : T_api_Step)]).length c_22), (31, .int .i64 ((wi64 (((rdL z_1 (3 : Int)).tmod 70) + 70)).tmod 70)), (32, .int .i64 (wi64 (x_16 + 1)))]) (H' := []) (ps := []) (by kernel_rfl) trivial ?_
      refine GoO.regionEnd ?_
      refine GoO.inLoop ?_
      exact GoO.sub (ks := [3, 4, 5, 6, 7, 31, 32]) (hk := []) (bk := [0]) (by kernel_rfl) (by kernel_rfl) (by kernel_rfl) (ih0 (l_13 ++ [(⟨1, [115], 1⟩ : T_api_Step)]) (wi64 (x_16 + 1)) A_21 c_22)
    · refine GoO.exit' c5_26e rfl ?_
      refine GoO.seq' c5_31e ?_
      refine GoO.seq' c5_32e ?_
      refine GoO.region' (is := [0, 1]) c5_33e (by kernel_rfl) ?_
      refine GoO.exec (is := [0, 1]) (hs := [.p, .p]) (rest := []) (ks := [3, 4, 5, 6, 7, 40]) (env' := [(3, .int .i64 ((rdL z_1 (0 : Int)).tmod 8)), (4, .int .i64 ((wi64 (((rdL z_1 (1 : Int)).tmod 30) + 30)).tmod 30)), (5, .int .i64 ((rdL z_1 (2 : Int)).tmod 14)), (6, .int .i64 ((wi64 (((rdL z_1 (3 : Int)).tmod 70) + 70)).tmod 70)), (7, .slice A_14 l_13.length c_15), (40, .bool (decide (((wi64 (((rdL z_1 (3 : Int)).tmod 70) + 70)).tmod 70) > 0)))]) (H' := []) (ps := []) (by kernel_rfl) trivial ?_
      refine GoO.regionEnd ?_
      refine GoO.ite' c5_34e (by kernel_rfl) (fun h23 => ?_) (fun h23 => ?_)
      · refine GoO.region' (is := [0, 1, 2, 3, 4, 5, 6, 7, 8, 9, 10]) c5_35e (by kernel_rfl) ?_
        refine GoO.exec (is := [0, 1, 2, 3, 4]) (hs := [.p, .p, .p, .p, .p]) (rest := [5, 6, 7, 8, 9, 10]) (ks := [3, 4, 5, 6, 7, 41, 43, 44, 45]) (env' := [(3, .int .i64 ((rdL z_1 (0 : Int)).tmod 8)), (4, .int .i64 ((wi64 (((rdL z_1 (1 : Int)).tmod 30) + 30)).tmod 30)), (5, .int .i64 ((rdL z_1 (2 : Int)).tmod 14)), (6, .int .i64 ((wi64 (((rdL z_1 (3 : Int)).tmod 70) + 70)).tmod 70)), (7, .slice A_14 l_13.length c_15), (41, .slice A_14 l_13.length c_15), (43, .int .i64 (wi64 (((wi64 (((rdL z_1 (3 : Int)).tmod 70) + 70)).tmod 70) - 1))), (44, .int .i64 ((rdL z_1 (0 : Int)).tmod 8)), (45, .int .i64 ((wi64 (((rdL z_1 (1 : Int)).tmod 30) + 30)).tmod 30))]) (H' := []) (ps := []) (by kernel_rfl) trivial ?_
        refine GoO.guard (fun h26 => ?_)
        refine OpTo.go (GoO.mk (e := 5) (k1 := .i64) (k2 := .i64) (K := Kd.u8) (n := (wi64 (((rdL z_1 (1 : Int)).tmod 30) + 30)).tmod 30) (c := (wi64 (((rdL z_1 (1 : Int)).tmod 30) + 30)).tmod 30) (bytes := 1) (zs := [.int .u8 0]) rfl (by kernel_rfl) (by kernel_rfl) (by kernel_rfl) (by kernel_rfl) ((0 : UInt8)) (fun _ _ => rfl) h26.1 h26.2.1 (by kernel_rfl) h26.2.2 43 _ (fun _ _ => rfl) (fun A_24 c_25 => ?_))
        refine OpTo.go (GoO.toStr (e := 5) (A := A_24) (c := c_25) (xs := List.replicate ((wi64 (((rdL z_1 (1 : Int)).tmod 30) + 30)).tmod 30).toNat (0 : UInt8)) (j := 0) rfl (by kernel_rfl) (by kernel_rfl) (by kernel_rfl) (by kernel_rfl) rfl Reads.own rfl rfl ?_)
        refine GoO.exec (is := [7, 8]) (hs := [.p, .p]) (rest := [9, 10]) (ks := [3, 4, 5, 6, 7, 41, 43, 49]) (env' := [(3, .int .i64 ((rdL z_1 (0 : Int)).tmod 8)), (4, .int .i64 ((wi64 (((rdL z_1 (1 : Int)).tmod 30) + 30)).tmod 30)), (5, .int .i64 ((rdL z_1 (2 : Int)).tmod 14)), (6, .int .i64 ((wi64 (((rdL z_1 (3 : Int)).tmod 70) + 70)).tmod 70)), (7, .slice A_14 l_13.length c_15), (41, .slice A_14 l_13.length c_15), (43, .int .i64 (wi64 (((wi64 (((rdL z_1 (3 : Int)).tmod 70) + 70)).tmod 70) - 1))), (49, .agg ⟨[.int .i64 ((rdL z_1 (0 : Int)).tmod 8), .string (bs (List.replicate ((wi64 (((rdL z_1 (1 : Int)).tmod 30) + 30)).tmod 30).toNat (0 : UInt8))), .int .i64 ((rdL z_1 (2 : Int)).tmod 14)]⟩)]) (H' := []) (ps := []) (by kernel_rfl) trivial ?_
        refine GoO.guard (fun h27 => ?_)
        refine OpTo.go (GoO.idx (kk := .i64) (e := 41) (K := kT_api_Step) (A := A_14) (c := c_15) (xs := l_13) (iv := wi64 (((wi64 (((rdL z_1 (3 : Int)).tmod 70) + 70)).tmod 70) - 1)) (j := 1) rfl (by kernel_rfl) (by kernel_rfl) (by kernel_rfl) (by kernel_rfl) rfl Reads.own rfl h27.1 h27.2 (by decide) rfl ?_)
        refine OpTo.go (GoO.stE (K := kT_api_Step) (A := A_14) (c := c_15) (xs := l_13) (iN := (wi64 (((wi64 (((rdL z_1 (3 : Int)).tmod 70) + 70)).tmod 70) - 1)).toNat) (off := 0) (tg := 42) (j := 1) (v := .agg ⟨[.int .i64 ((rdL z_1 (0 : Int)).tmod 8), .string (bs (List.replicate ((wi64 (((rdL z_1 (1 : Int)).tmod 30) + 30)).tmod 30).toNat (0 : UInt8))), .int .i64 ((rdL z_1 (2 : Int)).tmod 14)]⟩) rfl (by kernel_rfl) (by kernel_rfl) rfl (by first | exact idx_lt h27.1 h27.2 | (simp only [List.length_set]; exact idx_lt h27.1 h27.2)) (by decide) (by kernel_rfl) (by kernel_rfl) (by kernel_rfl) ((⟨(rdL z_1 (0 : Int)).tmod 8, List.replicate ((wi64 (((rdL z_1 (1 : Int)).tmod 30) + 30)).tmod 30).toNat (0 : UInt8), (rdL z_1 (2 : Int)).tmod 14⟩ : T_api_Step)) (fun w S cs _ hr => ⟨_, by subst hr; exact stored_flat rfl, rfl⟩) rfl ?_)
        refine GoO.reval (t := 7) (v := .slice A_14 l_13.length c_15) (v' := .slice A_14 (l_13.set ((wi64 (((wi64 (((rdL z_1 (3 : Int)).tmod 70) + 70)).tmod 70) - 1)).toNat) (⟨(rdL z_1 (0 : Int)).tmod 8, List.replicate ((wi64 (((rdL z_1 (1 : Int)).tmod 30) + 30)).tmod 30).toNat (0 : UInt8), (rdL z_1 (2 : Int)).tmod 14⟩ : T_api_Step)).length c_15) (by kernel_rfl) (by simp) ?_
        refine GoO.reval (t := 41) (v := .slice A_14 l_13.length c_15) (v' := .slice A_14 (l_13.set ((wi64 (((wi64 (((rdL z_1 (3 : Int)).tmod 70) + 70)).tmod 70) - 1)).toNat) (⟨(rdL z_1 (0 : Int)).tmod 8, List.replicate ((wi64 (((rdL z_1 (1 : Int)).tmod 30) + 30)).tmod 30).toNat (0 : UInt8), (rdL z_1 (2 : Int)).tmod 14⟩ : T_api_Step)).length c_15) (by kernel_rfl) (by simp) ?_
        refine GoO.regionEnd ?_
        exact GoO.sub (ks := [3, 4, 5, 6, 7]) (hk := []) (bk := [1]) (by kernel_rfl) (by kernel_rfl) (by kernel_rfl) (tontinelaw13_PlanLimits_j0_ok n z_1 w0 S0 (l_13.set ((wi64 (((wi64 (((rdL z_1 (3 : Int)).tmod 70) + 70)).tmod 70) - 1)).toNat) (⟨(rdL z_1 (0 : Int)).tmod 8, List.replicate ((wi64 (((rdL z_1 (1 : Int)).tmod 30) + 30)).tmod 30).toNat (0 : UInt8), (rdL z_1 (2 : Int)).tmod 14⟩ : T_api_Step)) A_14 c_15)
      · refine GoO.skip' c5_36e ?_
        exact GoO.sub (ks := [3, 4, 5, 6, 7]) (hk := []) (bk := [0]) (by kernel_rfl) (by kernel_rfl) (by kernel_rfl) (tontinelaw13_PlanLimits_j0_ok n z_1 w0 S0 l_13 A_14 c_15)
theorem tontinelaw13_PlanLimits_ok (n : Nat) (z_1 : (List Int)) :
    Meets Try.prog 5 [.agg ⟨arrV .i64 z_1⟩] 0 [] [] [] (tontinelaw13_PlanLimits.f n z_1) (tontinelaw13_PlanLimits.R) := by
  refine Meets.of (c := c5_0) (n := 86) Try.func5 (by kernel_rfl) (by kernel_rfl) (by kernel_rfl) fun w0 S0 => ?_
  unfold tontinelaw13_PlanLimits.f
  show GoO (tontinelaw13_PlanLimits.cx w0 S0) [(0, .agg ⟨arrV .i64 z_1⟩)] [] [] [.code c5_0] _
  refine GoO.seq' c5_0e ?_
  refine GoO.region' (is := [0, 1]) c5_1e (by kernel_rfl) ?_
  refine OpTo.go (GoO.new rfl 40 (cs := arrV .i64 z_1) (by kernel_rfl) _ (fun _ => rfl) (fun b_2 => ?_))
  refine GoO.exec (is := [1]) (hs := [.p]) (rest := []) (ks := [1]) (env' := [(1, .pointer (some ⟨b_2, 0, none⟩))]) (H' := [⟨40, b_2, arrV .i64 z_1⟩]) (ps := []) (by kernel_rfl) trivial ?_
  refine GoO.regionEnd ?_
  refine GoO.seq' c5_2e ?_
  refine GoO.draw c5_3e (by kernel_rfl) [11] [⟨40, b_2, arrV .i64 z_1⟩] [] (n := 12) (by kernel_rfl) ?_
  simp only [List.replicate]
  refine GoF.guard (fun h3 => ?_)
  refine GoF.idxB1 (i := 0) (hk := [0]) (bk := []) (b := b_2) (n := 4) (e := 3) (kk := .i64) (iv := 0) (by kernel_rfl) rfl rfl rfl (by kernel_rfl) (by kernel_rfl) (by kernel_rfl) (by kernel_rfl) h3.1 h3.2 rfl ?_
  refine GoF.guard (fun h4 => ?_)
  refine GoF.ldB1 (i := 1) (hk := [0]) (bk := []) (j := 0) (by kernel_rfl) rfl rfl rfl rfl rfl (loadBx_elt (by kernel_rfl) h4.2.1 h4.2.2) rfl ?_
  refine GoF.take [8] [.p] (ks := [1, 3]) (fu := 9) (li := [true, true, false, false, false, false, false, false, true, false, false, false]) (env' := [(1, .pointer (some ⟨b_2, 0, none⟩)), (3, .int .i64 (rdL z_1 (0 : Int)))]) (ps := []) (hk := [0]) (bk := []) (by kernel_rfl) trivial rfl rfl ?_
  refine GoF.guard (fun h5 => ?_)
  refine GoF.idxB1 (i := 2) (hk := [0]) (bk := []) (b := b_2) (n := 4) (e := 3) (kk := .i64) (iv := 1) (by kernel_rfl) rfl rfl rfl (by kernel_rfl) (by kernel_rfl) (by kernel_rfl) (by kernel_rfl) h5.1 h5.2 rfl ?_
  refine GoF.guard (fun h6 => ?_)
  refine GoF.ldB1 (i := 3) (hk := [0]) (bk := []) (j := 0) (by kernel_rfl) rfl rfl rfl rfl rfl (loadBx_elt (by kernel_rfl) h6.2.1 h6.2.2) rfl ?_
  refine GoF.take [9] [.p] (ks := [1, 3, 4]) (fu := 6) (li := [true, true, true, true, false, false, false, false, true, true, false, false]) (env' := [(1, .pointer (some ⟨b_2, 0, none⟩)), (3, .int .i64 (rdL z_1 (0 : Int))), (4, .int .i64 (rdL z_1 (1 : Int)))]) (ps := []) (hk := [0]) (bk := []) (by kernel_rfl) trivial rfl rfl ?_
  refine GoF.guard (fun h7 => ?_)
  refine GoF.idxB1 (i := 4) (hk := [0]) (bk := []) (b := b_2) (n := 4) (e := 3) (kk := .i64) (iv := 2) (by kernel_rfl) rfl rfl rfl (by kernel_rfl) (by kernel_rfl) (by kernel_rfl) (by kernel_rfl) h7.1 h7.2 rfl ?_
  refine GoF.guard (fun h8 => ?_)
  refine GoF.ldB1 (i := 5) (hk := [0]) (bk := []) (j := 0) (by kernel_rfl) rfl rfl rfl rfl rfl (loadBx_elt (by kernel_rfl) h8.2.1 h8.2.2) rfl ?_
  refine GoF.take [10] [.p] (ks := [1, 3, 4, 5]) (fu := 3) (li := [true, true, true, true, true, true, false, false, true, true, true, false]) (env' := [(1, .pointer (some ⟨b_2, 0, none⟩)), (3, .int .i64 (rdL z_1 (0 : Int))), (4, .int .i64 (rdL z_1 (1 : Int))), (5, .int .i64 (rdL z_1 (2 : Int)))]) (ps := []) (hk := [0]) (bk := []) (by kernel_rfl) trivial rfl rfl ?_
  refine GoF.guard (fun h9 => ?_)
  refine GoF.idxB1 (i := 6) (hk := [0]) (bk := []) (b := b_2) (n := 4) (e := 3) (kk := .i64) (iv := 3) (by kernel_rfl) rfl rfl rfl (by kernel_rfl) (by kernel_rfl) (by kernel_rfl) (by kernel_rfl) h9.1 h9.2 rfl ?_
  refine GoF.guard (fun h10 => ?_)
  refine GoF.ldB1 (i := 7) (hk := [0]) (bk := []) (j := 0) (by kernel_rfl) rfl rfl rfl rfl rfl (loadBx_elt (by kernel_rfl) h10.2.1 h10.2.2) rfl ?_
  refine GoF.fin1 (i := 11) (hint := .p) (ps := []) (hk := []) (bk := []) (by kernel_rfl) rfl trivial (.inl rfl) ?_
  refine GoF.done (by kernel_rfl) ?_
  refine GoO.seq' c5_4e ?_
  refine GoO.seq' c5_5e ?_
  refine GoO.region' (is := [0, 1]) c5_6e (by kernel_rfl) ?_
  refine OpTo.go (GoO.call rfl (by kernel_rfl) (by kernel_rfl) (tontinelaw13_begun_ok n) [[0]] [] [] [] (hks := [0]) (bks := []) (by kernel_rfl) (by kernel_rfl) (by kernel_rfl) (.inl rfl) rfl rfl (by kernel_rfl) (by kernel_rfl) _ (fun _ _ => rfl) _ _ (fun _ _ => rfl) (fun _ _ => rfl) (fun _ _ => by kernel_rfl) (fun _ _ => by kernel_rfl) (fun r_11 x_41 => ?_))
  refine GoO.shape (env' := [(1, .pointer (some ⟨b_2, 0, none⟩)), (3, .int .i64 (rdL z_1 (0 : Int))), (4, .int .i64 (rdL z_1 (1 : Int))), (5, .int .i64 (rdL z_1 (2 : Int))), (6, .int .i64 (rdL z_1 (3 : Int))), (15, .pointer (some ⟨b_2, (3 : Int).toNat, none⟩)), (16, .int .i64 (rdL z_1 (3 : Int))), (17, .bool r_11)]) (H' := [⟨40, b_2, arrV .i64 z_1⟩]) (B' := []) (ks := [1, 3, 4, 5, 6, 15, 16, 17]) (by kernel_rfl) (by kernel_rfl) (by kernel_rfl) ?_
  refine GoO.exec (is := [1]) (hs := [.p]) (rest := []) (ks := [3, 4, 5, 6, 18]) (env' := [(3, .int .i64 (rdL z_1 (0 : Int))), (4, .int .i64 (rdL z_1 (1 : Int))), (5, .int .i64 (rdL z_1 (2 : Int))), (6, .int .i64 (rdL z_1 (3 : Int))), (18, .bool (!r_11))]) (H' := [⟨40, b_2, arrV .i64 z_1⟩]) (ps := []) (by kernel_rfl) trivial ?_
  refine GoO.regionEnd ?_
  refine GoO.ite' c5_7e (by kernel_rfl) (fun h12 => ?_) (fun h12 => ?_)
  · refine GoO.seq' c5_8e ?_
    refine GoO.region' (is := [0]) c5_9e (by kernel_rfl) ?_
    refine GoO.exec (is := [0]) (hs := [.p]) (rest := []) (ks := [2]) (env' := [(2, .bool false)]) (H' := [⟨40, b_2, arrV .i64 z_1⟩]) (ps := []) (by kernel_rfl) trivial ?_
    refine GoO.regionEnd ?_
    exact GoO.ret' (h := c5_10e) (hs := []) (ps := []) (hk := []) (bk := []) Try.func5 () (by kernel_rfl) trivial (by kernel_rfl) (by kernel_rfl)
  · refine GoO.skip' c5_11e ?_
    refine GoO.seq' c5_12e ?_
    refine GoO.region' (is := [0, 1, 2, 3, 4, 5, 6, 7, 8, 9, 10, 11, 12, 13, 14, 15]) c5_13e (by kernel_rfl) ?_
    refine GoO.exec (is := [0, 1, 2, 3, 4, 5, 6, 7, 8, 9, 10, 11, 12, 13, 14, 15]) (hs := [.p, .p, .p, .p, .p, .p, .p, .p, .p, .p, .p, .p, .p, .p, .p, .p]) (rest := []) (ks := [3, 4, 5, 6]) (env' := [(3, .int .i64 ((rdL z_1 (0 : Int)).tmod 8)), (4, .int .i64 ((wi64 (((rdL z_1 (1 : Int)).tmod 30) + 30)).tmod 30)), (5, .int .i64 ((rdL z_1 (2 : Int)).tmod 14)), (6, .int .i64 ((wi64 (((rdL z_1 (3 : Int)).tmod 70) + 70)).tmod 70))]) (H' := [⟨40, b_2, arrV .i64 z_1⟩]) (ps := [(8 : Int) ≠ 0, (30 : Int) ≠ 0, (30 : Int) ≠ 0, (14 : Int) ≠ 0, (70 : Int) ≠ 0, (70 : Int) ≠ 0]) (by kernel_rfl) (And.intro (by decide) (And.intro (by decide) (And.intro (by decide) (And.intro (by decide) (And.intro (by decide) (And.intro (by decide) trivial)))))) ?_
    refine GoO.regionEnd ?_
    refine GoO.seq' c5_14e ?_
    refine GoO.region' (is := [0]) c5_15e (by kernel_rfl) ?_
    refine GoO.exec (is := [0]) (hs := [.p]) (rest := []) (ks := [3, 4, 5, 6, 7]) (env' := [(3, .int .i64 ((rdL z_1 (0 : Int)).tmod 8)), (4, .int .i64 ((wi64 (((rdL z_1 (1 : Int)).tmod 30) + 30)).tmod 30)), (5, .int .i64 ((rdL z_1 (2 : Int)).tmod 14)), (6, .int .i64 ((wi64 (((rdL z_1 (3 : Int)).tmod 70) + 70)).tmod 70)), (7, .slice none ([] : List T_api_Step).length 0)]) (H' := [⟨40, b_2, arrV .i64 z_1⟩]) (ps := []) (by kernel_rfl) trivial ?_
    refine GoO.regionEnd ?_
    refine GoO.seq' c5_16e ?_
    refine GoO.seq' c5_17e ?_
    refine GoO.region' (is := [0, 1]) c5_18e (by kernel_rfl) ?_
    refine GoO.exec (is := [0, 1]) (hs := [.p, .p]) (rest := []) (ks := [3, 4, 5, 6, 7, 31, 32]) (env' := [(3, .int .i64 ((rdL z_1 (0 : Int)).tmod 8)), (4, .int .i64 ((wi64 (((rdL z_1 (1 : Int)).tmod 30) + 30)).tmod 30)), (5, .int .i64 ((rdL z_1 (2 : Int)).tmod 14)), (6, .int .i64 ((wi64 (((rdL z_1 (3 : Int)).tmod 70) + 70)).tmod 70)), (7, .slice none ([] : List T_api_Step).length 0), (31, .int .i64 ((wi64 (((rdL z_1 (3 : Int)).tmod 70) + 70)).tmod 70)), (32, .int .i64 0)]) (H' := [⟨40, b_2, arrV .i64 z_1⟩]) (ps := []) (by kernel_rfl) trivial ?_
    refine GoO.regionEnd ?_
    refine GoO.block' c5_19e ?_
    refine GoO.loop' c5_20e ?_
    refine GoO.nilOwn kT_api_Step 42 ?_
    exact GoO.sub (ks := [3, 4, 5, 6, 7, 31, 32]) (hk := []) (bk := [0]) (by kernel_rfl) (by kernel_rfl) (by kernel_rfl) (tontinelaw13_PlanLimits_l0_ok n z_1 w0 S0 n ([] : List T_api_Step) 0 none 0)
end Go.GL
