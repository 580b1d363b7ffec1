import Derived.Test.YtcpcdnjpdblhoaaKindsT1
import Derived.Test.YtcpcdnjpdblhoaaProg
set_option linter.unusedVariables false
set_option linter.unusedSimpArgs false
set_option maxRecDepth 100000
namespace Go.GL
open Go Go.Proofs

/-! (*tontine/pack.Writer).Num -/
noncomputable def c17_0 : Code := bodyOf Try.f17
noncomputable def c17_1 : Code := cdL c17_0
noncomputable def c17_2 : Code := cdR c17_0
noncomputable def c17_3 : Code := cdL c17_2
noncomputable def c17_4 : Code := cdL c17_3
noncomputable def c17_5 : Code := cdR c17_3
noncomputable def c17_9 : Code := cdR c17_5
noncomputable def c17_10 : Code := cdR c17_2
noncomputable def c17_11 : Code := cdL c17_10
noncomputable def c17_12 : Code := cdR c17_10
noncomputable def c17_13 : Code := cdL c17_12
noncomputable def c17_14 : Code := cdL c17_13
noncomputable def c17_15 : Code := cdR c17_13
noncomputable def c17_16 : Code := cdL c17_15
noncomputable def c17_17 : Code := cdL c17_16
noncomputable def c17_18 : Code := cdL c17_17
noncomputable def c17_19 : Code := cdL c17_18
noncomputable def c17_20 : Code := cdR c17_18
noncomputable def c17_21 : Code := cdL c17_20
noncomputable def c17_22 : Code := cdR c17_20
noncomputable def c17_23 : Code := cdR c17_17
noncomputable def c17_24 : Code := cdL c17_23
noncomputable def c17_25 : Code := cdL c17_24
noncomputable def c17_26 : Code := cdR c17_23
noncomputable def c17_27 : Code := cdR c17_12
noncomputable def c17_28 : Code := cdL c17_27
noncomputable def c17_29 : Code := cdR c17_27
noncomputable def c17_30 : Code := cdL c17_29
noncomputable def c17_31 : Code := cdL c17_30
noncomputable def c17_32 : Code := cdR c17_30
noncomputable def c17_33 : Code := cdL c17_32
noncomputable def c17_34 : Code := cdL c17_33
noncomputable def c17_35 : Code := cdL c17_34
noncomputable def c17_36 : Code := cdL c17_35
noncomputable def c17_37 : Code := cdR c17_35
noncomputable def c17_38 : Code := cdL c17_37
noncomputable def c17_39 : Code := cdR c17_37
noncomputable def c17_40 : Code := cdR c17_34
noncomputable def c17_41 : Code := cdL c17_40
noncomputable def c17_42 : Code := cdL c17_41
noncomputable def c17_43 : Code := cdR c17_40
noncomputable def c17_44 : Code := cdR c17_29
noncomputable def c17_45 : Code := cdL c17_44
noncomputable def c17_46 : Code := cdR c17_44
noncomputable def c17_6 : Code := cdL c17_5
noncomputable def r17_1 : Array Oper := cdO c17_1
noncomputable def r17_4 : Array Oper := cdO c17_4
noncomputable def r17_11 : Array Oper := cdO c17_11
noncomputable def r17_14 : Array Oper := cdO c17_14
noncomputable def r17_19 : Array Oper := cdO c17_19
noncomputable def r17_25 : Array Oper := cdO c17_25
noncomputable def r17_26 : Array Oper := cdO c17_26
noncomputable def r17_28 : Array Oper := cdO c17_28
noncomputable def r17_31 : Array Oper := cdO c17_31
noncomputable def r17_36 : Array Oper := cdO c17_36
noncomputable def r17_42 : Array Oper := cdO c17_42
noncomputable def r17_43 : Array Oper := cdO c17_43
noncomputable def r17_45 : Array Oper := cdO c17_45
theorem c17_0e : c17_0 = .seq c17_1 c17_2 := by kernel_rfl
theorem c17_1e : c17_1 = .region 0 r17_1 false := by kernel_rfl
theorem c17_2e : c17_2 = .seq c17_3 c17_10 := by kernel_rfl
theorem c17_3e : c17_3 = .seq c17_4 c17_5 := by kernel_rfl
theorem c17_4e : c17_4 = .region 1 r17_4 false := by kernel_rfl
theorem c17_5e : c17_5 = .cond (cdC c17_5) c17_6 c17_9 := by kernel_rfl
theorem c17_9e : c17_9 = .skip := by kernel_rfl
theorem c17_10e : c17_10 = .seq c17_11 c17_12 := by kernel_rfl
theorem c17_11e : c17_11 = .region 3 r17_11 false := by kernel_rfl
theorem c17_12e : c17_12 = .seq c17_13 c17_27 := by kernel_rfl
theorem c17_13e : c17_13 = .seq c17_14 c17_15 := by kernel_rfl
theorem c17_14e : c17_14 = .region 4 r17_14 false := by kernel_rfl
theorem c17_15e : c17_15 = .block 0 c17_16 := by kernel_rfl
theorem c17_16e : c17_16 = .loop c17_17 := by kernel_rfl
theorem c17_17e : c17_17 = .seq c17_18 c17_23 := by kernel_rfl
theorem c17_18e : c17_18 = .seq c17_19 c17_20 := by kernel_rfl
theorem c17_19e : c17_19 = .region 5 r17_19 false := by kernel_rfl
theorem c17_20e : c17_20 = .cond (cdC c17_20) c17_21 c17_22 := by kernel_rfl
theorem c17_21e : c17_21 = .skip := by kernel_rfl
theorem c17_22e : c17_22 = .exit 0 := by kernel_rfl
theorem c17_23e : c17_23 = .seq c17_24 c17_26 := by kernel_rfl
theorem c17_24e : c17_24 = .block 1 c17_25 := by kernel_rfl
theorem c17_25e : c17_25 = .region 7 r17_25 false := by kernel_rfl
theorem c17_26e : c17_26 = .region 6 r17_26 false := by kernel_rfl
theorem c17_27e : c17_27 = .seq c17_28 c17_29 := by kernel_rfl
theorem c17_28e : c17_28 = .region 8 r17_28 false := by kernel_rfl
theorem c17_29e : c17_29 = .seq c17_30 c17_44 := by kernel_rfl
theorem c17_30e : c17_30 = .seq c17_31 c17_32 := by kernel_rfl
theorem c17_31e : c17_31 = .region 9 r17_31 false := by kernel_rfl
theorem c17_32e : c17_32 = .block 2 c17_33 := by kernel_rfl
theorem c17_33e : c17_33 = .loop c17_34 := by kernel_rfl
theorem c17_34e : c17_34 = .seq c17_35 c17_40 := by kernel_rfl
theorem c17_35e : c17_35 = .seq c17_36 c17_37 := by kernel_rfl
theorem c17_36e : c17_36 = .region 10 r17_36 false := by kernel_rfl
theorem c17_37e : c17_37 = .cond (cdC c17_37) c17_38 c17_39 := by kernel_rfl
theorem c17_38e : c17_38 = .skip := by kernel_rfl
theorem c17_39e : c17_39 = .exit 2 := by kernel_rfl
theorem c17_40e : c17_40 = .seq c17_41 c17_43 := by kernel_rfl
theorem c17_41e : c17_41 = .block 3 c17_42 := by kernel_rfl
theorem c17_42e : c17_42 = .region 12 r17_42 true := by kernel_rfl
theorem c17_43e : c17_43 = .region 11 r17_43 false := by kernel_rfl
theorem c17_44e : c17_44 = .seq c17_45 c17_46 := by kernel_rfl
theorem c17_45e : c17_45 = .region 13 r17_45 false := by kernel_rfl
theorem c17_46e : c17_46 = .ret := by kernel_rfl
noncomputable def pack_Writer_Num.R (b_2 : Nat) (A_3 : Option Addr) (c_4 : Nat) : Pst T_pack_Writer where
  ε := Option Addr × Nat
  v := fun r x => .pointer (some ⟨b_2, 0, none⟩)
  H := fun r x => [⟨1, b_2, [.slice x.1 r.b.length x.2]⟩]
  B := fun r x => [Ow 2 Kd.u8 x.1 x.2 r.b]
noncomputable def pack_Writer_Num.cx (b_2 : Nat) (A_3 : Option Addr) (c_4 : Nat) (w0 : World) (S0 : Fam) : Cx T_pack_Writer := ⟨Try.prog, 17, Try.f17, 49, w0, S0, [1, 2], 2, pack_Writer_Num.R b_2 A_3 c_4⟩
theorem pack_Writer_Num_l1_ok (n : Nat) (x_5 : Int) (b_2 : Nat) (A_3 : Option Addr) (c_4 : Nat) (w0 : World) (S0 : Fam) :
    ∀ (k : Nat) (f_14 : (List UInt8)) (i_17 : Int) (A_15 : Option Addr) (c_16 : Nat), GoO (pack_Writer_Num.cx b_2 A_3 c_4 w0 S0) [(0, .pointer (some ⟨b_2, 0, none⟩)), (1, .int .u64 x_5), (7, .int .i64 i_17)] [⟨1, b_2, [.slice A_15 f_14.length c_16]⟩] [Ow 2 Kd.u8 A_15 c_16 f_14] [.code c17_34, .inLoop c17_34, .inBlock 2, .code c17_44] (pack_Writer_Num.l1 n x_5 k f_14 i_17) := by
  intro k
  induction k with
  | zero => intros; rw [pack_Writer_Num.l1.eq_1]; exact GoO.stop
  | succ k ih1 =>
    intro f_14 i_17 A_15 c_16
    rw [pack_Writer_Num.l1.eq_2]
    refine GoO.seq' c17_34e ?_
    refine GoO.seq' c17_35e ?_
    refine GoO.region' (is := [0, 1]) c17_36e (by kernel_rfl) ?_
    refine GoO.exec (is := [0, 1]) (hs := [.p, .p]) (rest := []) (ks := [0, 1, 7, 31]) (env' := [(0, .pointer (some ⟨b_2, 0, none⟩)), (1, .int .u64 x_5), (7, .int .i64 i_17), (31, .bool (decide (i_17 ≥ 0)))]) (H' := [⟨1, b_2, [.slice A_15 f_14.length c_16]⟩]) (ps := []) (by kernel_rfl) trivial ?_
    refine GoO.regionEnd ?_
    refine GoO.ite' c17_37e (by kernel_rfl) (fun h18 => ?_) (fun h18 => ?_)
    · refine GoO.skip' c17_38e ?_
      refine GoO.seq' c17_40e ?_
      refine GoO.block' c17_41e ?_
      refine GoO.draw c17_42e (by kernel_rfl) [12, 13, 14] [⟨1, b_2, [.slice A_15 f_14.length c_16]⟩] [] (n := 15) (by kernel_rfl) ?_
      simp only [List.replicate]
      refine GoF.guard (fun h19 => ?_)
      refine GoF.take [0, 1, 2, 3, 4, 5, 6, 7, 8, 9] [.p, .p, .p, .p, .b 0, .p, .p, .p, .p, .p] (ks := [0, 1, 7, 34, 38, 43]) (fu := 5) (li := [true, true, true, true, true, true, true, true, true, true, false, false, false, false, false]) (env' := [(0, .pointer (some ⟨b_2, 0, none⟩)), (1, .int .u64 x_5), (7, .int .i64 i_17), (34, .pointer (some ⟨b_2, 0, none⟩)), (38, .slice A_15 f_14.length c_16), (43, .int .u8 (wu8 (shR .u64 x_5 (wi64 (8 * i_17)))))]) (ps := [b_2 = b_2, (0 : Int) ≤ (wi64 (8 * i_17))]) (hk := [0]) (bk := []) (by kernel_rfl) (And.intro rfl (And.intro h19 trivial)) rfl rfl ?_
      refine OpTo.goF (i := 10) (by kernel_rfl) (hk := [0]) (bk := []) (GoO.lit (e := 5) (K := Kd.u8) rfl (by kernel_rfl) (by kernel_rfl) (cs := [.int .u8 (wu8 (shR .u64 x_5 (wi64 (8 * i_17))))]) (by kernel_rfl) [u8of (shR .u64 x_5 (wi64 (8 * i_17)))] (by kernel_rfl) (by kernel_rfl) (fun w S hB => ⟨[.int .u8 (wu8 (shR .u64 x_5 (wi64 (8 * i_17))))], _, rfl, congrArg (fun v => [v]) (u8cell _), rfl⟩) 41 _ (fun _ _ => rfl) (fun A_20 c_21 => ⟨rfl, rfl, ?_⟩))
      refine GoF.guard (fun h22 => ?_)
      refine OpTo.goF (i := 11) (by kernel_rfl) (hk := [0]) (bk := []) (GoO.appW (e := 5) (K := Kd.u8) (A := A_15) (c := c_16) (tg := 2) (bytes := 1) (zs := [.int .u8 0]) (xs := f_14) (ys := [u8of (shR .u64 x_5 (wi64 (8 * i_17)))]) (xv := .slice A_20 [u8of (shR .u64 x_5 (wi64 (8 * i_17)))].length c_21) (j := 1) (bk := [0]) rfl (by kernel_rfl) (by kernel_rfl) (by kernel_rfl) (by kernel_rfl) rfl (by kernel_rfl) rfl (fun w S hB => SrcIs.row (Reads.own w S (hB _ (List.mem_of_getElem? (i := 0) rfl)))) h22 rfl rfl rfl rfl _ (fun _ _ => rfl) (fun A_23 c_24 => ⟨rfl, rfl, ?_⟩))
      refine GoF.fin1 (i := 12) (hint := .p) (ps := []) (hk := []) (bk := []) (by kernel_rfl) rfl trivial (.inl rfl) ?_
      refine GoF.fin1 (i := 13) (hint := .p) (ps := []) (hk := []) (bk := []) (by kernel_rfl) rfl trivial (.inl rfl) ?_
      refine GoF.fin1 (i := 14) (hint := .b 0) (ps := [b_2 = b_2]) (hk := []) (bk := []) (by kernel_rfl) rfl (And.intro rfl trivial) (.inl rfl) ?_
      refine GoF.done (by kernel_rfl) ?_
      refine GoO.inBlock ?_
      refine GoO.region' (is := [0, 1, 2]) c17_43e (by kernel_rfl) ?_
      refine GoO.exec (is := [0, 1, 2]) (hs := [.p, .p, .p]) (rest := []) (ks := [0, 1, 7]) (env' := [(0, .pointer (some ⟨b_2, 0, none⟩)), (1, .int .u64 x_5), (7, .int .i64 (wi64 (i_17 - 1)))]) (H' := [⟨1, b_2, [.slice A_23 (f_14 ++ [u8of (shR .u64 x_5 (wi64 (8 * i_17)))]).length c_24]⟩]) (ps := []) (by kernel_rfl) trivial ?_
      refine GoO.regionEnd ?_
      refine GoO.inLoop ?_
      exact GoO.sub (ks := [0, 1, 7]) (hk := [0]) (bk := [0]) (by kernel_rfl) (by kernel_rfl) (by kernel_rfl) (ih1 (f_14 ++ [u8of (shR .u64 x_5 (wi64 (8 * i_17)))]) (wi64 (i_17 - 1)) A_23 c_24)
    · refine GoO.exit' c17_39e rfl ?_
      refine GoO.seq' c17_44e ?_
      refine GoO.region' (is := [0, 1]) c17_45e (by kernel_rfl) ?_
      refine GoO.exec (is := [0, 1]) (hs := [.p, .p]) (rest := []) (ks := [4]) (env' := [(4, .pointer (some ⟨b_2, 0, none⟩))]) (H' := [⟨1, b_2, [.slice A_15 f_14.length c_16]⟩]) (ps := []) (by kernel_rfl) trivial ?_
      refine GoO.regionEnd ?_
      exact GoO.ret' (h := c17_46e) (hs := []) (ps := []) (hk := [0]) (bk := [0]) Try.func17 (⟨A_15, c_16⟩ : Option Addr × Nat) (by kernel_rfl) trivial (by kernel_rfl) (by kernel_rfl)
theorem pack_Writer_Num_l0_ok (n : Nat) (w_1 : T_pack_Writer) (x_5 : Int) (b_2 : Nat) (A_3 : Option Addr) (c_4 : Nat) (w0 : World) (S0 : Fam) :
    ∀ (k : Nat) (n_6 : Int) (y_7 : Int), GoO (pack_Writer_Num.cx b_2 A_3 c_4 w0 S0) [(0, .pointer (some ⟨b_2, 0, none⟩)), (1, .int .u64 x_5), (5, .int .i64 n_6), (6, .int .u64 y_7)] [⟨1, b_2, [.slice A_3 w_1.b.length c_4]⟩] [Ow 2 Kd.u8 A_3 c_4 w_1.b] [.code c17_17, .inLoop c17_17, .inBlock 0, .code c17_27] (pack_Writer_Num.l0 n w_1 x_5 k n_6 y_7) := by
  intro k
  induction k with
  | zero => intros; rw [pack_Writer_Num.l0.eq_1]; exact GoO.stop
  | succ k ih0 =>
    intro n_6 y_7
    rw [pack_Writer_Num.l0.eq_2]
    refine GoO.seq' c17_17e ?_
    refine GoO.seq' c17_18e ?_
    refine GoO.region' (is := [0, 1]) c17_19e (by kernel_rfl) ?_
    refine GoO.exec (is := [0, 1]) (hs := [.p, .p]) (rest := []) (ks := [0, 1, 5, 6, 12]) (env' := [(0, .pointer (some ⟨b_2, 0, none⟩)), (1, .int .u64 x_5), (5, .int .i64 n_6), (6, .int .u64 y_7), (12, .bool (decide (y_7 > 0)))]) (H' := [⟨1, b_2, [.slice A_3 w_1.b.length c_4]⟩]) (ps := []) (by kernel_rfl) trivial ?_
    refine GoO.regionEnd ?_
    refine GoO.ite' c17_20e (by kernel_rfl) (fun h8 => ?_) (fun h8 => ?_)
    · refine GoO.skip' c17_21e ?_
      refine GoO.seq' c17_23e ?_
      refine GoO.block' c17_24e ?_
      refine GoO.region' (is := [0, 1, 2]) c17_25e (by kernel_rfl) ?_
      refine GoO.exec (is := [0, 1, 2]) (hs := [.p, .p, .p]) (rest := []) (ks := [0, 1, 5, 6]) (env' := [(0, .pointer (some ⟨b_2, 0, none⟩)), (1, .int .u64 x_5), (5, .int .i64 (wi64 (n_6 + 1))), (6, .int .u64 y_7)]) (H' := [⟨1, b_2, [.slice A_3 w_1.b.length c_4]⟩]) (ps := []) (by kernel_rfl) trivial ?_
      refine GoO.regionEnd ?_
      refine GoO.inBlock ?_
      refine GoO.region' (is := [0, 1, 2]) c17_26e (by kernel_rfl) ?_
      refine GoO.exec (is := [0, 1, 2]) (hs := [.p, .p, .p]) (rest := []) (ks := [0, 1, 5, 6]) (env' := [(0, .pointer (some ⟨b_2, 0, none⟩)), (1, .int .u64 x_5), (5, .int .i64 (wi64 (n_6 + 1))), (6, .int .u64 (shR .u64 y_7 8))]) (H' := [⟨1, b_2, [.slice A_3 w_1.b.length c_4]⟩]) (ps := [(0 : Int) ≤ 8]) (by kernel_rfl) (And.intro (by decide) trivial) ?_
      refine GoO.regionEnd ?_
      refine GoO.inLoop ?_
      exact GoO.sub (ks := [0, 1, 5, 6]) (hk := [0]) (bk := [0]) (by kernel_rfl) (by kernel_rfl) (by kernel_rfl) (ih0 (wi64 (n_6 + 1)) (shR .u64 y_7 8))
    · refine GoO.exit' c17_22e rfl ?_
      refine GoO.seq' c17_27e ?_
      refine GoO.region' (is := [0, 1, 2, 3, 4, 5, 6, 7, 8, 9, 10, 11]) c17_28e (by kernel_rfl) ?_
      refine GoO.exec (is := [0, 1, 2, 3, 4, 5, 6]) (hs := [.p, .p, .p, .p, .b 0, .p, .p]) (rest := [7, 8, 9, 10, 11]) (ks := [0, 1, 5, 17, 21, 23]) (env' := [(0, .pointer (some ⟨b_2, 0, none⟩)), (1, .int .u64 x_5), (5, .int .i64 n_6), (17, .pointer (some ⟨b_2, 0, none⟩)), (21, .slice A_3 w_1.b.length c_4), (23, .int .u8 (wu8 n_6))]) (H' := [⟨1, b_2, [.slice A_3 w_1.b.length c_4]⟩]) (ps := [b_2 = b_2]) (by kernel_rfl) (And.intro rfl trivial) ?_
      refine OpTo.go (GoO.lit (e := 5) (K := Kd.u8) rfl (by kernel_rfl) (by kernel_rfl) (cs := [.int .u8 (wu8 n_6)]) (by kernel_rfl) [u8of n_6] (by kernel_rfl) (by kernel_rfl) (fun w S hB => ⟨[.int .u8 (wu8 n_6)], _, rfl, congrArg (fun v => [v]) (u8cell _), rfl⟩) 40 _ (fun _ _ => rfl) (fun A_9 c_10 => ?_))
      refine GoO.guard (fun h11 => ?_)
      refine OpTo.go (GoO.appW (e := 5) (K := Kd.u8) (A := A_3) (c := c_4) (tg := 2) (bytes := 1) (zs := [.int .u8 0]) (xs := w_1.b) (ys := [u8of n_6]) (xv := .slice A_9 [u8of n_6].length c_10) (j := 1) (bk := [0]) rfl (by kernel_rfl) (by kernel_rfl) (by kernel_rfl) (by kernel_rfl) rfl (by kernel_rfl) rfl (fun w S hB => SrcIs.row (Reads.own w S (hB _ (List.mem_of_getElem? (i := 0) rfl)))) h11 rfl rfl rfl rfl _ (fun _ _ => rfl) (fun A_12 c_13 => ?_))
      refine GoO.exec (is := [9, 10, 11]) (hs := [.p, .p, .b 0]) (rest := []) (ks := [0, 1, 5]) (env' := [(0, .pointer (some ⟨b_2, 0, none⟩)), (1, .int .u64 x_5), (5, .int .i64 n_6)]) (H' := [⟨1, b_2, [.slice A_12 (w_1.b ++ [u8of n_6]).length c_13]⟩]) (ps := [b_2 = b_2]) (by kernel_rfl) (And.intro rfl trivial) ?_
      refine GoO.regionEnd ?_
      refine GoO.seq' c17_29e ?_
      refine GoO.seq' c17_30e ?_
      refine GoO.region' (is := [0, 1, 2]) c17_31e (by kernel_rfl) ?_
      refine GoO.exec (is := [0, 1, 2]) (hs := [.p, .p, .p]) (rest := []) (ks := [0, 1, 7]) (env' := [(0, .pointer (some ⟨b_2, 0, none⟩)), (1, .int .u64 x_5), (7, .int .i64 (wi64 (n_6 - 1)))]) (H' := [⟨1, b_2, [.slice A_12 (w_1.b ++ [u8of n_6]).length c_13]⟩]) (ps := []) (by kernel_rfl) trivial ?_
      refine GoO.regionEnd ?_
      refine GoO.block' c17_32e ?_
      refine GoO.loop' c17_33e ?_
      exact GoO.sub (ks := [0, 1, 7]) (hk := [0]) (bk := [0]) (by kernel_rfl) (by kernel_rfl) (by kernel_rfl) (pack_Writer_Num_l1_ok n x_5 b_2 A_3 c_4 w0 S0 n (w_1.b ++ [u8of n_6]) (wi64 (n_6 - 1)) A_12 c_13)
theorem pack_Writer_Num_ok (n : Nat) (w_1 : T_pack_Writer) (x_5 : Int) (b_2 : Nat) (A_3 : Option Addr) (c_4 : Nat) :
    Meets Try.prog 17 [.pointer (some ⟨b_2, 0, none⟩), .int .u64 x_5] 2 [1, 2] [⟨1, b_2, [.slice A_3 w_1.b.length c_4]⟩] [Ow 2 Kd.u8 A_3 c_4 w_1.b] (pack_Writer_Num.f n w_1 x_5) (pack_Writer_Num.R b_2 A_3 c_4) := by
  refine Meets.of (c := c17_0) (n := 49) Try.func17 (by kernel_rfl) (by kernel_rfl) (by kernel_rfl) fun w0 S0 => ?_
  unfold pack_Writer_Num.f
  show GoO (pack_Writer_Num.cx b_2 A_3 c_4 w0 S0) [(0, .pointer (some ⟨b_2, 0, none⟩)), (1, .int .u64 x_5)] [⟨1, b_2, [.slice A_3 w_1.b.length c_4]⟩] [Ow 2 Kd.u8 A_3 c_4 w_1.b] [.code c17_0] _
  refine GoO.seq' c17_0e ?_
  refine GoO.region' (is := [0]) c17_1e (by kernel_rfl) ?_
  refine GoO.exec (is := [0]) (hs := [.p]) (rest := []) (ks := [0, 1]) (env' := [(0, .pointer (some ⟨b_2, 0, none⟩)), (1, .int .u64 x_5)]) (H' := [⟨1, b_2, [.slice A_3 w_1.b.length c_4]⟩]) (ps := []) (by kernel_rfl) trivial ?_
  refine GoO.regionEnd ?_
  refine GoO.seq' c17_2e ?_
  refine GoO.seq' c17_3e ?_
  refine GoO.region' (is := [0, 1]) c17_4e (by kernel_rfl) ?_
  refine GoO.exec (is := [0, 1]) (hs := [.p, .p]) (rest := []) (ks := [0, 1, 9]) (env' := [(0, .pointer (some ⟨b_2, 0, none⟩)), (1, .int .u64 x_5), (9, .bool false)]) (H' := [⟨1, b_2, [.slice A_3 w_1.b.length c_4]⟩]) (ps := []) (by kernel_rfl) trivial ?_
  refine GoO.regionEnd ?_
  refine GoO.condF c17_5e (by kernel_rfl) ?_
  refine GoO.skip' c17_9e ?_
  refine GoO.seq' c17_10e ?_
  refine GoO.region' (is := [0]) c17_11e (by kernel_rfl) ?_
  refine GoO.exec (is := [0]) (hs := [.p]) (rest := []) (ks := [0, 1, 5]) (env' := [(0, .pointer (some ⟨b_2, 0, none⟩)), (1, .int .u64 x_5), (5, .int .i64 0)]) (H' := [⟨1, b_2, [.slice A_3 w_1.b.length c_4]⟩]) (ps := []) (by kernel_rfl) trivial ?_
  refine GoO.regionEnd ?_
  refine GoO.seq' c17_12e ?_
  refine GoO.seq' c17_13e ?_
  refine GoO.region' (is := [0, 1]) c17_14e (by kernel_rfl) ?_
  refine GoO.exec (is := [0, 1]) (hs := [.p, .p]) (rest := []) (ks := [0, 1, 5, 6]) (env' := [(0, .pointer (some ⟨b_2, 0, none⟩)), (1, .int .u64 x_5), (5, .int .i64 0), (6, .int .u64 x_5)]) (H' := [⟨1, b_2, [.slice A_3 w_1.b.length c_4]⟩]) (ps := []) (by kernel_rfl) trivial ?_
  refine GoO.regionEnd ?_
  refine GoO.block' c17_15e ?_
  refine GoO.loop' c17_16e ?_
  exact GoO.sub (ks := [0, 1, 5, 6]) (hk := [0]) (bk := [0]) (by kernel_rfl) (by kernel_rfl) (by kernel_rfl) (pack_Writer_Num_l0_ok n w_1 x_5 b_2 A_3 c_4 w0 S0 n 0 x_5)

/-! (*tontine/pack.Writer).Text -/
noncomputable def c26_0 : Code := bodyOf Try.f26
noncomputable def c26_1 : Code := cdL c26_0
noncomputable def c26_2 : Code := cdR c26_0
noncomputable def c26_3 : Code := cdL c26_2
noncomputable def c26_4 : Code := cdL c26_3
noncomputable def c26_5 : Code := cdR c26_3
noncomputable def c26_9 : Code := cdR c26_5
noncomputable def c26_10 : Code := cdR c26_2
noncomputable def c26_11 : Code := cdL c26_10
noncomputable def c26_12 : Code := cdR c26_10
noncomputable def c26_13 : Code := cdL c26_12
noncomputable def c26_14 : Code := cdR c26_12
noncomputable def c26_15 : Code := cdL c26_14
noncomputable def c26_16 : Code := cdR c26_14
noncomputable def c26_6 : Code := cdL c26_5
noncomputable def r26_1 : Array Oper := cdO c26_1
noncomputable def r26_4 : Array Oper := cdO c26_4
noncomputable def r26_11 : Array Oper := cdO c26_11
noncomputable def r26_13 : Array Oper := cdO c26_13
noncomputable def r26_15 : Array Oper := cdO c26_15
theorem c26_0e : c26_0 = .seq c26_1 c26_2 := by kernel_rfl
theorem c26_1e : c26_1 = .region 0 r26_1 false := by kernel_rfl
theorem c26_2e : c26_2 = .seq c26_3 c26_10 := by kernel_rfl
theorem c26_3e : c26_3 = .seq c26_4 c26_5 := by kernel_rfl
theorem c26_4e : c26_4 = .region 1 r26_4 false := by kernel_rfl
theorem c26_5e : c26_5 = .cond (cdC c26_5) c26_6 c26_9 := by kernel_rfl
theorem c26_9e : c26_9 = .skip := by kernel_rfl
theorem c26_10e : c26_10 = .seq c26_11 c26_12 := by kernel_rfl
theorem c26_11e : c26_11 = .region 3 r26_11 false := by kernel_rfl
theorem c26_12e : c26_12 = .seq c26_13 c26_14 := by kernel_rfl
theorem c26_13e : c26_13 = .region 4 r26_13 false := by kernel_rfl
theorem c26_14e : c26_14 = .seq c26_15 c26_16 := by kernel_rfl
theorem c26_15e : c26_15 = .region 5 r26_15 false := by kernel_rfl
theorem c26_16e : c26_16 = .ret := by kernel_rfl
noncomputable def pack_Writer_Text.R (b_2 : Nat) (A_3 : Option Addr) (c_4 : Nat) : Pst T_pack_Writer where
  ε := Option Addr × Nat
  v := fun r x => .pointer (some ⟨b_2, 0, none⟩)
  H := fun r x => [⟨1, b_2, [.slice x.1 r.b.length x.2]⟩]
  B := fun r x => [Ow 2 Kd.u8 x.1 x.2 r.b]
noncomputable def pack_Writer_Text.cx (b_2 : Nat) (A_3 : Option Addr) (c_4 : Nat) (w0 : World) (S0 : Fam) : Cx T_pack_Writer := ⟨Try.prog, 26, Try.f26, 22, w0, S0, [1, 2], 2, pack_Writer_Text.R b_2 A_3 c_4⟩
theorem pack_Writer_Text_ok (n : Nat) (w_1 : T_pack_Writer) (s_5 : (List UInt8)) (b_2 : Nat) (A_3 : Option Addr) (c_4 : Nat) :
    Meets Try.prog 26 [.pointer (some ⟨b_2, 0, none⟩), .string (bs s_5)] 2 [1, 2] [⟨1, b_2, [.slice A_3 w_1.b.length c_4]⟩] [Ow 2 Kd.u8 A_3 c_4 w_1.b] (pack_Writer_Text.f n w_1 s_5) (pack_Writer_Text.R b_2 A_3 c_4) := by
  refine Meets.of (c := c26_0) (n := 22) Try.func26 (by kernel_rfl) (by kernel_rfl) (by kernel_rfl) fun w0 S0 => ?_
  unfold pack_Writer_Text.f
  show GoO (pack_Writer_Text.cx b_2 A_3 c_4 w0 S0) [(0, .pointer (some ⟨b_2, 0, none⟩)), (1, .string (bs s_5))] [⟨1, b_2, [.slice A_3 w_1.b.length c_4]⟩] [Ow 2 Kd.u8 A_3 c_4 w_1.b] [.code c26_0] _
  refine GoO.seq' c26_0e ?_
  refine GoO.region' (is := [0]) c26_1e (by kernel_rfl) ?_
  refine GoO.exec (is := [0]) (hs := [.p]) (rest := []) (ks := [0, 1]) (env' := [(0, .pointer (some ⟨b_2, 0, none⟩)), (1, .string (bs s_5))]) (H' := [⟨1, b_2, [.slice A_3 w_1.b.length c_4]⟩]) (ps := []) (by kernel_rfl) trivial ?_
  refine GoO.regionEnd ?_
  refine GoO.seq' c26_2e ?_
  refine GoO.seq' c26_3e ?_
  refine GoO.region' (is := [0, 1]) c26_4e (by kernel_rfl) ?_
  refine GoO.exec (is := [0, 1]) (hs := [.p, .p]) (rest := []) (ks := [0, 1, 6]) (env' := [(0, .pointer (some ⟨b_2, 0, none⟩)), (1, .string (bs s_5)), (6, .bool false)]) (H' := [⟨1, b_2, [.slice A_3 w_1.b.length c_4]⟩]) (ps := []) (by kernel_rfl) trivial ?_
  refine GoO.regionEnd ?_
  refine GoO.condF c26_5e (by kernel_rfl) ?_
  refine GoO.skip' c26_9e ?_
  refine GoO.seq' c26_10e ?_
  refine GoO.region' (is := [0, 1, 2, 3, 4]) c26_11e (by kernel_rfl) ?_
  refine GoO.exec (is := [0, 1, 2, 3]) (hs := [.p, .p, .p, .p]) (rest := [4]) (ks := [0, 1, 7, 10]) (env' := [(0, .pointer (some ⟨b_2, 0, none⟩)), (1, .string (bs s_5)), (7, .pointer (some ⟨b_2, 0, none⟩)), (10, .int .u64 (wu64 (s_5.length : Int)))]) (H' := [⟨1, b_2, [.slice A_3 w_1.b.length c_4]⟩]) (ps := []) (by kernel_rfl) trivial ?_
  refine OpTo.go (GoO.call rfl (by kernel_rfl) (by kernel_rfl) (pack_Writer_Num_ok n w_1 (wu64 (s_5.length : Int)) b_2 A_3 c_4) [[0], [1], [2]] [(1, 1), (2, 2)] [(1, 0)] [(2, 0)] (hks := []) (bks := []) (by kernel_rfl) (by kernel_rfl) (by kernel_rfl) (.inl rfl) rfl rfl (by kernel_rfl) (by kernel_rfl) _ (fun _ _ => rfl) _ _ (fun _ _ => rfl) (fun _ _ => rfl) (fun _ _ => by kernel_rfl) (fun _ _ => by kernel_rfl) (fun r_6 x_12 => ?_))
  obtain ⟨A_7, c_8⟩ := x_12
  refine GoO.shape (env' := [(0, .pointer (some ⟨b_2, 0, none⟩)), (1, .string (bs s_5)), (7, .pointer (some ⟨b_2, 0, none⟩)), (10, .int .u64 (wu64 (s_5.length : Int))), (11, .pointer (some ⟨b_2, 0, none⟩))]) (H' := [⟨1, b_2, [.slice A_7 r_6.b.length c_8]⟩]) (B' := [Ow 2 Kd.u8 A_7 c_8 r_6.b]) (ks := [0, 1, 7, 10, 11]) (by kernel_rfl) (by kernel_rfl) (by kernel_rfl) ?_
  refine GoO.regionEnd ?_
  refine GoO.seq' c26_12e ?_
  refine GoO.region' (is := [0, 1, 2, 3, 4, 5, 6, 7, 8, 9]) c26_13e (by kernel_rfl) ?_
  refine GoO.exec (is := [0, 1, 2, 3, 4, 5]) (hs := [.p, .p, .p, .p, .b 0, .p]) (rest := [6, 7, 8, 9]) (ks := [0, 12, 16, 17]) (env' := [(0, .pointer (some ⟨b_2, 0, none⟩)), (12, .pointer (some ⟨b_2, 0, none⟩)), (16, .slice A_7 r_6.b.length c_8), (17, .string (bs s_5))]) (H' := [⟨1, b_2, [.slice A_7 r_6.b.length c_8]⟩]) (ps := [b_2 = b_2]) (by kernel_rfl) (And.intro rfl trivial) ?_
  refine GoO.guard (fun h9 => ?_)
  refine OpTo.go (GoO.appW (e := 5) (K := Kd.u8) (A := A_7) (c := c_8) (tg := 2) (bytes := 1) (zs := [.int .u8 0]) (xs := r_6.b) (ys := s_5) (xv := .string (bs s_5)) (j := 0) (bk := []) rfl (by kernel_rfl) (by kernel_rfl) (by kernel_rfl) (by kernel_rfl) rfl (by kernel_rfl) rfl (fun _ _ _ => SrcIs.str _) h9 rfl rfl rfl rfl _ (fun _ _ => rfl) (fun A_10 c_11 => ?_))
  refine GoO.exec (is := [7, 8, 9]) (hs := [.p, .p, .b 0]) (rest := []) (ks := [0]) (env' := [(0, .pointer (some ⟨b_2, 0, none⟩))]) (H' := [⟨1, b_2, [.slice A_10 (r_6.b ++ s_5).length c_11]⟩]) (ps := [b_2 = b_2]) (by kernel_rfl) (And.intro rfl trivial) ?_
  refine GoO.regionEnd ?_
  refine GoO.seq' c26_14e ?_
  refine GoO.region' (is := [0, 1]) c26_15e (by kernel_rfl) ?_
  refine GoO.exec (is := [0, 1]) (hs := [.p, .p]) (rest := []) (ks := [4]) (env' := [(4, .pointer (some ⟨b_2, 0, none⟩))]) (H' := [⟨1, b_2, [.slice A_10 (r_6.b ++ s_5).length c_11]⟩]) (ps := []) (by kernel_rfl) trivial ?_
  refine GoO.regionEnd ?_
  exact GoO.ret' (h := c26_16e) (hs := []) (ps := []) (hk := [0]) (bk := [0]) Try.func26 (⟨A_10, c_11⟩ : Option Addr × Nat) (by kernel_rfl) trivial (by kernel_rfl) (by kernel_rfl)

/-! (*tontine/pack.Writer).Bytes -/
noncomputable def c19_0 : Code := bodyOf Try.f19
noncomputable def c19_1 : Code := cdL c19_0
noncomputable def c19_2 : Code := cdR c19_0
noncomputable def c19_3 : Code := cdL c19_2
noncomputable def c19_4 : Code := cdL c19_3
noncomputable def c19_5 : Code := cdR c19_3
noncomputable def c19_9 : Code := cdR c19_5
noncomputable def c19_10 : Code := cdR c19_2
noncomputable def c19_11 : Code := cdL c19_10
noncomputable def c19_12 : Code := cdR c19_10
noncomputable def c19_6 : Code := cdL c19_5
noncomputable def r19_1 : Array Oper := cdO c19_1
noncomputable def r19_4 : Array Oper := cdO c19_4
noncomputable def r19_11 : Array Oper := cdO c19_11
theorem c19_0e : c19_0 = .seq c19_1 c19_2 := by kernel_rfl
theorem c19_1e : c19_1 = .region 0 r19_1 false := by kernel_rfl
theorem c19_2e : c19_2 = .seq c19_3 c19_10 := by kernel_rfl
theorem c19_3e : c19_3 = .seq c19_4 c19_5 := by kernel_rfl
theorem c19_4e : c19_4 = .region 1 r19_4 false := by kernel_rfl
theorem c19_5e : c19_5 = .cond (cdC c19_5) c19_6 c19_9 := by kernel_rfl
theorem c19_9e : c19_9 = .skip := by kernel_rfl
theorem c19_10e : c19_10 = .seq c19_11 c19_12 := by kernel_rfl
theorem c19_11e : c19_11 = .region 3 r19_11 false := by kernel_rfl
theorem c19_12e : c19_12 = .ret := by kernel_rfl
noncomputable def pack_Writer_Bytes.R (b_2 : Nat) (A_3 : Option Addr) (c_4 : Nat) : Pst (List UInt8) where
  ε := Unit
  v := fun r x => .string (bs r)
  H := fun r x => []
  B := fun r x => []
noncomputable def pack_Writer_Bytes.cx (b_2 : Nat) (A_3 : Option Addr) (c_4 : Nat) (w0 : World) (S0 : Fam) : Cx (List UInt8) := ⟨Try.prog, 19, Try.f19, 10, w0, S0, [], 2, pack_Writer_Bytes.R b_2 A_3 c_4⟩
theorem pack_Writer_Bytes_ok (n : Nat) (w_1 : T_pack_Writer) (b_2 : Nat) (A_3 : Option Addr) (c_4 : Nat) :
    Meets Try.prog 19 [.pointer (some ⟨b_2, 0, none⟩)] 2 [] [⟨1, b_2, [.slice A_3 w_1.b.length c_4]⟩] [Ow 2 Kd.u8 A_3 c_4 w_1.b] (pack_Writer_Bytes.f n w_1) (pack_Writer_Bytes.R b_2 A_3 c_4) := by
  refine Meets.of (c := c19_0) (n := 10) Try.func19 (by kernel_rfl) (by kernel_rfl) (by kernel_rfl) fun w0 S0 => ?_
  unfold pack_Writer_Bytes.f
  show GoO (pack_Writer_Bytes.cx b_2 A_3 c_4 w0 S0) [(0, .pointer (some ⟨b_2, 0, none⟩))] [⟨1, b_2, [.slice A_3 w_1.b.length c_4]⟩] [Ow 2 Kd.u8 A_3 c_4 w_1.b] [.code c19_0] _
  refine GoO.seq' c19_0e ?_
  refine GoO.region' (is := [0]) c19_1e (by kernel_rfl) ?_
  refine GoO.exec (is := [0]) (hs := [.p]) (rest := []) (ks := [0]) (env' := [(0, .pointer (some ⟨b_2, 0, none⟩))]) (H' := [⟨1, b_2, [.slice A_3 w_1.b.length c_4]⟩]) (ps := []) (by kernel_rfl) trivial ?_
  refine GoO.regionEnd ?_
  refine GoO.seq' c19_2e ?_
  refine GoO.seq' c19_3e ?_
  refine GoO.region' (is := [0, 1]) c19_4e (by kernel_rfl) ?_
  refine GoO.exec (is := [0, 1]) (hs := [.p, .p]) (rest := []) (ks := [0, 4]) (env' := [(0, .pointer (some ⟨b_2, 0, none⟩)), (4, .bool false)]) (H' := [⟨1, b_2, [.slice A_3 w_1.b.length c_4]⟩]) (ps := []) (by kernel_rfl) trivial ?_
  refine GoO.regionEnd ?_
  refine GoO.condF c19_5e (by kernel_rfl) ?_
  refine GoO.skip' c19_9e ?_
  refine GoO.seq' c19_10e ?_
  refine GoO.region' (is := [0, 1, 2, 3, 4, 5]) c19_11e (by kernel_rfl) ?_
  refine GoO.exec (is := [0, 1, 2, 3]) (hs := [.p, .p, .p, .b 0]) (rest := [4, 5]) (ks := [8]) (env' := [(8, .slice A_3 w_1.b.length c_4)]) (H' := [⟨1, b_2, [.slice A_3 w_1.b.length c_4]⟩]) (ps := [b_2 = b_2]) (by kernel_rfl) (And.intro rfl trivial) ?_
  refine OpTo.go (GoO.toStr (e := 5) (A := A_3) (c := c_4) (xs := w_1.b) (j := 0) rfl (by kernel_rfl) (by kernel_rfl) (by kernel_rfl) (by kernel_rfl) rfl Reads.own rfl rfl ?_)
  refine GoO.exec (is := [5]) (hs := [.p]) (rest := []) (ks := [2]) (env' := [(2, .string (bs w_1.b))]) (H' := [⟨1, b_2, [.slice A_3 w_1.b.length c_4]⟩]) (ps := []) (by kernel_rfl) trivial ?_
  refine GoO.regionEnd ?_
  exact GoO.ret' (h := c19_12e) (hs := []) (ps := []) (hk := []) (bk := []) Try.func19 () (by kernel_rfl) trivial (by kernel_rfl) (by kernel_rfl)

/-! tontine/pack.From -/
noncomputable def c23_0 : Code := bodyOf Try.f23
noncomputable def c23_1 : Code := cdL c23_0
noncomputable def c23_2 : Code := cdR c23_0
noncomputable def c23_3 : Code := cdL c23_2
noncomputable def c23_4 : Code := cdR c23_2
noncomputable def r23_1 : Array Oper := cdO c23_1
noncomputable def r23_3 : Array Oper := cdO c23_3
theorem c23_0e : c23_0 = .seq c23_1 c23_2 := by kernel_rfl
theorem c23_1e : c23_1 = .region 0 r23_1 false := by kernel_rfl
theorem c23_2e : c23_2 = .seq c23_3 c23_4 := by kernel_rfl
theorem c23_3e : c23_3 = .region 1 r23_3 false := by kernel_rfl
theorem c23_4e : c23_4 = .ret := by kernel_rfl
noncomputable def pack_From.R : Pst T_pack_Reader where
  ε := Nat
  v := fun r x => .pointer (some ⟨x, 0, none⟩)
  H := fun r x => [⟨1, x, [.string (bs r.s), .bool r.bad]⟩]
  B := fun r x => []
noncomputable def pack_From.cx (w0 : World) (S0 : Fam) : Cx T_pack_Reader := ⟨Try.prog, 23, Try.f23, 6, w0, S0, [], 0, pack_From.R⟩
theorem pack_From_ok (n : Nat) (s_1 : (List UInt8)) :
    Meets Try.prog 23 [.string (bs s_1)] 0 [] [] [] (pack_From.f n s_1) (pack_From.R) := by
  refine Meets.of (c := c23_0) (n := 6) Try.func23 (by kernel_rfl) (by kernel_rfl) (by kernel_rfl) fun w0 S0 => ?_
  unfold pack_From.f
  show GoO (pack_From.cx w0 S0) [(0, .string (bs s_1))] [] [] [.code c23_0] _
  refine GoO.seq' c23_0e ?_
  refine GoO.region' (is := [0]) c23_1e (by kernel_rfl) ?_
  refine GoO.exec (is := [0]) (hs := [.p]) (rest := []) (ks := [0]) (env' := [(0, .string (bs s_1))]) (H' := []) (ps := []) (by kernel_rfl) trivial ?_
  refine GoO.regionEnd ?_
  refine GoO.seq' c23_2e ?_
  refine GoO.region' (is := [0, 1, 2, 3]) c23_3e (by kernel_rfl) ?_
  refine GoO.exec (is := [0, 1]) (hs := [.p, .p]) (rest := [2, 3]) (ks := [4]) (env' := [(4, .agg ⟨[.string (bs s_1), .bool false]⟩)]) (H' := []) (ps := []) (by kernel_rfl) trivial ?_
  refine OpTo.go (GoO.new rfl 40 (cs := [.string (bs s_1), .bool false]) (by kernel_rfl) _ (fun _ => rfl) (fun b_2 => ?_))
  refine GoO.exec (is := [3]) (hs := [.p]) (rest := []) (ks := [2]) (env' := [(2, .pointer (some ⟨b_2, 0, none⟩))]) (H' := [⟨40, b_2, [.string (bs s_1), .bool false]⟩]) (ps := []) (by kernel_rfl) trivial ?_
  refine GoO.regionEnd ?_
  refine GoO.retagB (t := 40) (u := 1) (j := 0) (hk := []) (bk := []) rfl rfl rfl rfl rfl rfl (by kernel_rfl) (by kernel_rfl) ?_
  exact GoO.ret' (h := c23_4e) (hs := []) (ps := []) (hk := [0]) (bk := []) Try.func23 b_2 (by kernel_rfl) trivial (by kernel_rfl) (by kernel_rfl)

/-! (*tontine/pack.Reader).fail -/
noncomputable def c43_0 : Code := bodyOf Try.f43
noncomputable def c43_1 : Code := cdL c43_0
noncomputable def c43_2 : Code := cdR c43_0
noncomputable def c43_3 : Code := cdL c43_2
noncomputable def c43_4 : Code := cdL c43_3
noncomputable def c43_5 : Code := cdR c43_3
noncomputable def c43_6 : Code := cdL c43_5
noncomputable def c43_8 : Code := cdR c43_2
noncomputable def c43_9 : Code := cdL c43_8
noncomputable def c43_10 : Code := cdR c43_8
noncomputable def c43_7 : Code := cdR c43_5
noncomputable def r43_1 : Array Oper := cdO c43_1
noncomputable def r43_4 : Array Oper := cdO c43_4
noncomputable def r43_6 : Array Oper := cdO c43_6
noncomputable def r43_9 : Array Oper := cdO c43_9
theorem c43_0e : c43_0 = .seq c43_1 c43_2 := by kernel_rfl
theorem c43_1e : c43_1 = .region 0 r43_1 false := by kernel_rfl
theorem c43_2e : c43_2 = .seq c43_3 c43_8 := by kernel_rfl
theorem c43_3e : c43_3 = .seq c43_4 c43_5 := by kernel_rfl
theorem c43_4e : c43_4 = .region 1 r43_4 false := by kernel_rfl
theorem c43_5e : c43_5 = .cond (cdC c43_5) c43_6 c43_7 := by kernel_rfl
theorem c43_6e : c43_6 = .region 2 r43_6 false := by kernel_rfl
theorem c43_8e : c43_8 = .seq c43_9 c43_10 := by kernel_rfl
theorem c43_9e : c43_9 = .region 3 r43_9 false := by kernel_rfl
theorem c43_10e : c43_10 = .ret := by kernel_rfl
theorem c43_7e : c43_7 = .skip := by kernel_rfl
noncomputable def pack_Reader_fail.R (b_2 : Nat) : Pst (Int × T_pack_Reader) where
  ε := Unit
  v := fun r x => .int .u64 r.1
  H := fun r x => [⟨1, b_2, [.string (bs r.2.s), .bool r.2.bad]⟩]
  B := fun r x => []
noncomputable def pack_Reader_fail.cx (b_2 : Nat) (w0 : World) (S0 : Fam) : Cx (Int × T_pack_Reader) := ⟨Try.prog, 43, Try.f43, 11, w0, S0, [1], 1, pack_Reader_fail.R b_2⟩
theorem pack_Reader_fail_ok (n : Nat) (r_1 : T_pack_Reader) (b_2 : Nat) :
    Meets Try.prog 43 [.pointer (some ⟨b_2, 0, none⟩)] 1 [1] [⟨1, b_2, [.string (bs r_1.s), .bool r_1.bad]⟩] [] (pack_Reader_fail.f n r_1) (pack_Reader_fail.R b_2) := by
  refine Meets.of (c := c43_0) (n := 11) Try.func43 (by kernel_rfl) (by kernel_rfl) (by kernel_rfl) fun w0 S0 => ?_
  unfold pack_Reader_fail.f
  show GoO (pack_Reader_fail.cx b_2 w0 S0) [(0, .pointer (some ⟨b_2, 0, none⟩))] [⟨1, b_2, [.string (bs r_1.s), .bool r_1.bad]⟩] [] [.code c43_0] _
  refine GoO.seq' c43_0e ?_
  refine GoO.region' (is := [0]) c43_1e (by kernel_rfl) ?_
  refine GoO.exec (is := [0]) (hs := [.p]) (rest := []) (ks := [0]) (env' := [(0, .pointer (some ⟨b_2, 0, none⟩))]) (H' := [⟨1, b_2, [.string (bs r_1.s), .bool r_1.bad]⟩]) (ps := []) (by kernel_rfl) trivial ?_
  refine GoO.regionEnd ?_
  refine GoO.seq' c43_2e ?_
  refine GoO.seq' c43_3e ?_
  refine GoO.region' (is := [0, 1]) c43_4e (by kernel_rfl) ?_
  refine GoO.exec (is := [0, 1]) (hs := [.p, .p]) (rest := []) (ks := [0, 4]) (env' := [(0, .pointer (some ⟨b_2, 0, none⟩)), (4, .bool true)]) (H' := [⟨1, b_2, [.string (bs r_1.s), .bool r_1.bad]⟩]) (ps := []) (by kernel_rfl) trivial ?_
  refine GoO.regionEnd ?_
  refine GoO.condT c43_5e (by kernel_rfl) ?_
  refine GoO.region' (is := [0, 1, 2, 3, 4, 5, 6, 7]) c43_6e (by kernel_rfl) ?_
  refine GoO.exec (is := [0, 1, 2, 3, 4, 5, 6, 7]) (hs := [.p, .p, .p, .p, .b 0, .p, .p, .b 0]) (rest := []) (ks := []) (env' := []) (H' := [⟨1, b_2, [.string (bs []), .bool true]⟩]) (ps := [b_2 = b_2, b_2 = b_2]) (by kernel_rfl) (And.intro rfl (And.intro rfl trivial)) ?_
  refine GoO.regionEnd ?_
  refine GoO.seq' c43_8e ?_
  refine GoO.region' (is := [0]) c43_9e (by kernel_rfl) ?_
  refine GoO.exec (is := [0]) (hs := [.p]) (rest := []) (ks := [2]) (env' := [(2, .int .u64 0)]) (H' := [⟨1, b_2, [.string (bs []), .bool true]⟩]) (ps := []) (by kernel_rfl) trivial ?_
  refine GoO.regionEnd ?_
  exact GoO.ret' (h := c43_10e) (hs := []) (ps := []) (hk := [0]) (bk := []) Try.func43 () (by kernel_rfl) trivial (by kernel_rfl) (by kernel_rfl)

/-! (*tontine/pack.Reader).Num -/
noncomputable def c24_0 : Code := bodyOf Try.f24
noncomputable def c24_1 : Code := cdL c24_0
noncomputable def c24_2 : Code := cdR c24_0
noncomputable def c24_3 : Code := cdL c24_2
noncomputable def c24_4 : Code := cdL c24_3
noncomputable def c24_5 : Code := cdR c24_3
noncomputable def c24_6 : Code := cdL c24_5
noncomputable def c24_7 : Code := cdL c24_6
noncomputable def c24_8 : Code := cdR c24_6
noncomputable def c24_9 : Code := cdR c24_5
noncomputable def c24_10 : Code := cdR c24_2
noncomputable def c24_11 : Code := cdL c24_10
noncomputable def c24_12 : Code := cdR c24_10
noncomputable def c24_13 : Code := cdL c24_12
noncomputable def c24_14 : Code := cdL c24_13
noncomputable def c24_15 : Code := cdR c24_13
noncomputable def c24_16 : Code := cdL c24_15
noncomputable def c24_17 : Code := cdL c24_16
noncomputable def c24_18 : Code := cdR c24_16
noncomputable def c24_19 : Code := cdR c24_15
noncomputable def c24_20 : Code := cdR c24_12
noncomputable def c24_21 : Code := cdL c24_20
noncomputable def c24_22 : Code := cdR c24_20
noncomputable def c24_23 : Code := cdL c24_22
noncomputable def c24_24 : Code := cdL c24_23
noncomputable def c24_25 : Code := cdR c24_23
noncomputable def c24_26 : Code := cdL c24_25
noncomputable def c24_27 : Code := cdL c24_26
noncomputable def c24_28 : Code := cdL c24_27
noncomputable def c24_29 : Code := cdL c24_28
noncomputable def c24_30 : Code := cdR c24_28
noncomputable def c24_31 : Code := cdL c24_30
noncomputable def c24_32 : Code := cdR c24_30
noncomputable def c24_33 : Code := cdR c24_27
noncomputable def c24_34 : Code := cdL c24_33
noncomputable def c24_35 : Code := cdL c24_34
noncomputable def c24_36 : Code := cdR c24_33
noncomputable def c24_37 : Code := cdR c24_22
noncomputable def c24_38 : Code := cdL c24_37
noncomputable def c24_39 : Code := cdR c24_37
noncomputable def c24_40 : Code := cdL c24_39
noncomputable def c24_41 : Code := cdR c24_39
noncomputable def r24_1 : Array Oper := cdO c24_1
noncomputable def r24_4 : Array Oper := cdO c24_4
noncomputable def r24_7 : Array Oper := cdO c24_7
noncomputable def r24_11 : Array Oper := cdO c24_11
noncomputable def r24_14 : Array Oper := cdO c24_14
noncomputable def r24_17 : Array Oper := cdO c24_17
noncomputable def r24_21 : Array Oper := cdO c24_21
noncomputable def r24_24 : Array Oper := cdO c24_24
noncomputable def r24_29 : Array Oper := cdO c24_29
noncomputable def r24_35 : Array Oper := cdO c24_35
noncomputable def r24_36 : Array Oper := cdO c24_36
noncomputable def r24_38 : Array Oper := cdO c24_38
noncomputable def r24_40 : Array Oper := cdO c24_40
theorem c24_0e : c24_0 = .seq c24_1 c24_2 := by kernel_rfl
theorem c24_1e : c24_1 = .region 0 r24_1 false := by kernel_rfl
theorem c24_2e : c24_2 = .seq c24_3 c24_10 := by kernel_rfl
theorem c24_3e : c24_3 = .seq c24_4 c24_5 := by kernel_rfl
theorem c24_4e : c24_4 = .region 1 r24_4 false := by kernel_rfl
theorem c24_5e : c24_5 = .cond (cdC c24_5) c24_6 c24_9 := by kernel_rfl
theorem c24_6e : c24_6 = .seq c24_7 c24_8 := by kernel_rfl
theorem c24_7e : c24_7 = .region 2 r24_7 false := by kernel_rfl
theorem c24_8e : c24_8 = .ret := by kernel_rfl
theorem c24_9e : c24_9 = .skip := by kernel_rfl
theorem c24_10e : c24_10 = .seq c24_11 c24_12 := by kernel_rfl
theorem c24_11e : c24_11 = .region 3 r24_11 false := by kernel_rfl
theorem c24_12e : c24_12 = .seq c24_13 c24_20 := by kernel_rfl
theorem c24_13e : c24_13 = .seq c24_14 c24_15 := by kernel_rfl
theorem c24_14e : c24_14 = .region 4 r24_14 false := by kernel_rfl
theorem c24_15e : c24_15 = .cond (cdC c24_15) c24_16 c24_19 := by kernel_rfl
theorem c24_16e : c24_16 = .seq c24_17 c24_18 := by kernel_rfl
theorem c24_17e : c24_17 = .region 5 r24_17 false := by kernel_rfl
theorem c24_18e : c24_18 = .ret := by kernel_rfl
theorem c24_19e : c24_19 = .skip := by kernel_rfl
theorem c24_20e : c24_20 = .seq c24_21 c24_22 := by kernel_rfl
theorem c24_21e : c24_21 = .region 6 r24_21 false := by kernel_rfl
theorem c24_22e : c24_22 = .seq c24_23 c24_37 := by kernel_rfl
theorem c24_23e : c24_23 = .seq c24_24 c24_25 := by kernel_rfl
theorem c24_24e : c24_24 = .region 7 r24_24 false := by kernel_rfl
theorem c24_25e : c24_25 = .block 0 c24_26 := by kernel_rfl
theorem c24_26e : c24_26 = .loop c24_27 := by kernel_rfl
theorem c24_27e : c24_27 = .seq c24_28 c24_33 := by kernel_rfl
theorem c24_28e : c24_28 = .seq c24_29 c24_30 := by kernel_rfl
theorem c24_29e : c24_29 = .region 8 r24_29 false := by kernel_rfl
theorem c24_30e : c24_30 = .cond (cdC c24_30) c24_31 c24_32 := by kernel_rfl
theorem c24_31e : c24_31 = .skip := by kernel_rfl
theorem c24_32e : c24_32 = .exit 0 := by kernel_rfl
theorem c24_33e : c24_33 = .seq c24_34 c24_36 := by kernel_rfl
theorem c24_34e : c24_34 = .block 1 c24_35 := by kernel_rfl
theorem c24_35e : c24_35 = .region 10 r24_35 false := by kernel_rfl
theorem c24_36e : c24_36 = .region 9 r24_36 false := by kernel_rfl
theorem c24_37e : c24_37 = .seq c24_38 c24_39 := by kernel_rfl
theorem c24_38e : c24_38 = .region 11 r24_38 false := by kernel_rfl
theorem c24_39e : c24_39 = .seq c24_40 c24_41 := by kernel_rfl
theorem c24_40e : c24_40 = .region 12 r24_40 false := by kernel_rfl
theorem c24_41e : c24_41 = .ret := by kernel_rfl
noncomputable def pack_Reader_Num.R (b_2 : Nat) : Pst (Int × T_pack_Reader) where
  ε := Unit
  v := fun r x => .int .u64 r.1
  H := fun r x => [⟨1, b_2, [.string (bs r.2.s), .bool r.2.bad]⟩]
  B := fun r x => []
noncomputable def pack_Reader_Num.cx (b_2 : Nat) (w0 : World) (S0 : Fam) : Cx (Int × T_pack_Reader) := ⟨Try.prog, 24, Try.f24, 75, w0, S0, [1], 1, pack_Reader_Num.R b_2⟩
theorem pack_Reader_Num_l0_ok (n : Nat) (r_1 : T_pack_Reader) (b_2 : Nat) (w0 : World) (S0 : Fam) :
    ∀ (k : Nat) (x_15 : Int) (i_16 : Int), GoO (pack_Reader_Num.cx b_2 w0 S0) [(0, .pointer (some ⟨b_2, 0, none⟩)), (3, .int .i64 (wi64 ((rdB r_1.s 0).toNat : Int))), (4, .int .u64 x_15), (5, .int .i64 i_16)] [⟨1, b_2, [.string (bs r_1.s), .bool r_1.bad]⟩] [] [.code c24_27, .inLoop c24_27, .inBlock 0, .code c24_37] (pack_Reader_Num.l0 n r_1 k x_15 i_16) := by
  intro k
  induction k with
  | zero => intros; rw [pack_Reader_Num.l0.eq_1]; exact GoO.stop
  | succ k ih0 =>
    intro x_15 i_16
    rw [pack_Reader_Num.l0.eq_2]
    refine GoO.seq' c24_27e ?_
    refine GoO.seq' c24_28e ?_
    refine GoO.region' (is := [0, 1, 2]) c24_29e (by kernel_rfl) ?_
    refine GoO.exec (is := [0, 1, 2]) (hs := [.p, .p, .p]) (rest := []) (ks := [0, 3, 4, 5, 51]) (env' := [(0, .pointer (some ⟨b_2, 0, none⟩)), (3, .int .i64 (wi64 ((rdB r_1.s 0).toNat : Int))), (4, .int .u64 x_15), (5, .int .i64 i_16), (51, .bool (decide (i_16 ≤ (wi64 ((rdB r_1.s 0).toNat : Int)))))]) (H' := [⟨1, b_2, [.string (bs r_1.s), .bool r_1.bad]⟩]) (ps := []) (by kernel_rfl) trivial ?_
    refine GoO.regionEnd ?_
    refine GoO.ite' c24_30e (by kernel_rfl) (fun h17 => ?_) (fun h17 => ?_)
    · refine GoO.skip' c24_31e ?_
      refine GoO.seq' c24_33e ?_
      refine GoO.block' c24_34e ?_
      refine GoO.region' (is := [0, 1, 2, 3, 4, 5, 6, 7, 8, 9, 10]) c24_35e (by kernel_rfl) ?_
      refine GoO.guard (fun h18 => ?_)
      refine GoO.exec (is := [0, 1, 2, 3, 4, 5, 6, 7, 8, 9, 10]) (hs := [.p, .p, .p, .p, .p, .b 0, .p, .p, .p, .p, .p]) (rest := []) (ks := [0, 3, 4, 5]) (env' := [(0, .pointer (some ⟨b_2, 0, none⟩)), (3, .int .i64 (wi64 ((rdB r_1.s 0).toNat : Int))), (4, .int .u64 (bOr .u64 (shL .u64 x_15 8) (wu64 ((rdB r_1.s i_16).toNat : Int)))), (5, .int .i64 i_16)]) (H' := [⟨1, b_2, [.string (bs r_1.s), .bool r_1.bad]⟩]) (ps := [(0 : Int) ≤ 8, b_2 = b_2, (0 : Int) ≤ i_16, i_16 < (r_1.s.length : Int)]) (by kernel_rfl) (And.intro (by decide) (And.intro rfl (And.intro h18.1 (And.intro h18.2 trivial)))) ?_
      refine GoO.regionEnd ?_
      refine GoO.inBlock ?_
      refine GoO.region' (is := [0, 1, 2]) c24_36e (by kernel_rfl) ?_
      refine GoO.exec (is := [0, 1, 2]) (hs := [.p, .p, .p]) (rest := []) (ks := [0, 3, 4, 5]) (env' := [(0, .pointer (some ⟨b_2, 0, none⟩)), (3, .int .i64 (wi64 ((rdB r_1.s 0).toNat : Int))), (4, .int .u64 (bOr .u64 (shL .u64 x_15 8) (wu64 ((rdB r_1.s i_16).toNat : Int)))), (5, .int .i64 (wi64 (i_16 + 1)))]) (H' := [⟨1, b_2, [.string (bs r_1.s), .bool r_1.bad]⟩]) (ps := []) (by kernel_rfl) trivial ?_
      refine GoO.regionEnd ?_
      refine GoO.inLoop ?_
      exact GoO.sub (ks := [0, 3, 4, 5]) (hk := [0]) (bk := []) (by kernel_rfl) (by kernel_rfl) (by kernel_rfl) (ih0 (bOr .u64 (shL .u64 x_15 8) (wu64 ((rdB r_1.s i_16).toNat : Int))) (wi64 (i_16 + 1)))
    · refine GoO.exit' c24_32e rfl ?_
      refine GoO.seq' c24_37e ?_
      refine GoO.region' (is := [0, 1, 2, 3, 4, 5, 6, 7, 8, 9, 10]) c24_38e (by kernel_rfl) ?_
      refine GoO.guard (fun h19 => ?_)
      refine GoO.exec (is := [0, 1, 2, 3, 4, 5, 6, 7, 8, 9, 10]) (hs := [.p, .p, .p, .p, .b 0, .p, .p, .p, .p, .p, .b 0]) (rest := []) (ks := [4]) (env' := [(4, .int .u64 x_15)]) (H' := [⟨1, b_2, [.string (bs (r_1.s.drop (wi64 ((wi64 ((rdB r_1.s 0).toNat : Int)) + 1)).toNat)), .bool r_1.bad]⟩]) (ps := [b_2 = b_2, (0 : Int) ≤ (wi64 ((wi64 ((rdB r_1.s 0).toNat : Int)) + 1)), (wi64 ((wi64 ((rdB r_1.s 0).toNat : Int)) + 1)) ≤ (r_1.s.length : Int), b_2 = b_2]) (by kernel_rfl) (And.intro rfl (And.intro h19.1 (And.intro h19.2 (And.intro rfl trivial)))) ?_
      refine GoO.regionEnd ?_
      refine GoO.seq' c24_39e ?_
      refine GoO.region' (is := [0, 1]) c24_40e (by kernel_rfl) ?_
      refine GoO.exec (is := [0, 1]) (hs := [.p, .p]) (rest := []) (ks := [2]) (env' := [(2, .int .u64 x_15)]) (H' := [⟨1, b_2, [.string (bs (r_1.s.drop (wi64 ((wi64 ((rdB r_1.s 0).toNat : Int)) + 1)).toNat)), .bool r_1.bad]⟩]) (ps := []) (by kernel_rfl) trivial ?_
      refine GoO.regionEnd ?_
      exact GoO.ret' (h := c24_41e) (hs := []) (ps := []) (hk := [0]) (bk := []) Try.func24 () (by kernel_rfl) trivial (by kernel_rfl) (by kernel_rfl)
theorem pack_Reader_Num_j0_ok (n : Nat) (r_1 : T_pack_Reader) (b_2 : Nat) (w0 : World) (S0 : Fam) (b_11 : Bool) :
    GoO (pack_Reader_Num.cx b_2 w0 S0) [(0, .pointer (some ⟨b_2, 0, none⟩)), (3, .int .i64 (wi64 ((rdB r_1.s 0).toNat : Int))), (46, .bool b_11)] [⟨1, b_2, [.string (bs r_1.s), .bool r_1.bad]⟩] [] [.code c24_15, .code c24_20] (pack_Reader_Num.j0 n r_1 b_11) := by
  unfold pack_Reader_Num.j0
  refine GoO.ite' c24_15e (by kernel_rfl) (fun h12 => ?_) (fun h12 => ?_)
  · refine GoO.seq' c24_16e ?_
    refine GoO.region' (is := [0, 1, 2]) c24_17e (by kernel_rfl) ?_
    refine GoO.exec (is := [0]) (hs := [.p]) (rest := [1, 2]) (ks := [47]) (env' := [(47, .pointer (some ⟨b_2, 0, none⟩))]) (H' := [⟨1, b_2, [.string (bs r_1.s), .bool r_1.bad]⟩]) (ps := []) (by kernel_rfl) trivial ?_
    refine OpTo.go (GoO.call rfl (by kernel_rfl) (by kernel_rfl) (pack_Reader_fail_ok n r_1 b_2) [[0], [1]] [(1, 1)] [(1, 0)] [] (hks := []) (bks := []) (by kernel_rfl) (by kernel_rfl) (by kernel_rfl) (.inl rfl) rfl rfl (by kernel_rfl) (by kernel_rfl) _ (fun _ _ => rfl) _ _ (fun _ _ => rfl) (fun _ _ => rfl) (fun _ _ => by kernel_rfl) (fun _ _ => by kernel_rfl) (fun r_13 x_14 => ?_))
    refine GoO.shape (env' := [(47, .pointer (some ⟨b_2, 0, none⟩)), (48, .int .u64 r_13.1)]) (H' := [⟨1, b_2, [.string (bs r_13.2.s), .bool r_13.2.bad]⟩]) (B' := []) (ks := [47, 48]) (by kernel_rfl) (by kernel_rfl) (by kernel_rfl) ?_
    refine GoO.exec (is := [2]) (hs := [.p]) (rest := []) (ks := [2]) (env' := [(2, .int .u64 r_13.1)]) (H' := [⟨1, b_2, [.string (bs r_13.2.s), .bool r_13.2.bad]⟩]) (ps := []) (by kernel_rfl) trivial ?_
    refine GoO.regionEnd ?_
    exact GoO.ret' (h := c24_18e) (hs := []) (ps := []) (hk := [0]) (bk := []) Try.func24 () (by kernel_rfl) trivial (by kernel_rfl) (by kernel_rfl)
  · refine GoO.skip' c24_19e ?_
    refine GoO.seq' c24_20e ?_
    refine GoO.region' (is := [0]) c24_21e (by kernel_rfl) ?_
    refine GoO.exec (is := [0]) (hs := [.p]) (rest := []) (ks := [0, 3, 4]) (env' := [(0, .pointer (some ⟨b_2, 0, none⟩)), (3, .int .i64 (wi64 ((rdB r_1.s 0).toNat : Int))), (4, .int .u64 0)]) (H' := [⟨1, b_2, [.string (bs r_1.s), .bool r_1.bad]⟩]) (ps := []) (by kernel_rfl) trivial ?_
    refine GoO.regionEnd ?_
    refine GoO.seq' c24_22e ?_
    refine GoO.seq' c24_23e ?_
    refine GoO.region' (is := [0]) c24_24e (by kernel_rfl) ?_
    refine GoO.exec (is := [0]) (hs := [.p]) (rest := []) (ks := [0, 3, 4, 5]) (env' := [(0, .pointer (some ⟨b_2, 0, none⟩)), (3, .int .i64 (wi64 ((rdB r_1.s 0).toNat : Int))), (4, .int .u64 0), (5, .int .i64 1)]) (H' := [⟨1, b_2, [.string (bs r_1.s), .bool r_1.bad]⟩]) (ps := []) (by kernel_rfl) trivial ?_
    refine GoO.regionEnd ?_
    refine GoO.block' c24_25e ?_
    refine GoO.loop' c24_26e ?_
    exact GoO.sub (ks := [0, 3, 4, 5]) (hk := [0]) (bk := []) (by kernel_rfl) (by kernel_rfl) (by kernel_rfl) (pack_Reader_Num_l0_ok n r_1 b_2 w0 S0 n 0 1)
theorem pack_Reader_Num_ok (n : Nat) (r_1 : T_pack_Reader) (b_2 : Nat) :
    Meets Try.prog 24 [.pointer (some ⟨b_2, 0, none⟩)] 1 [1] [⟨1, b_2, [.string (bs r_1.s), .bool r_1.bad]⟩] [] (pack_Reader_Num.f n r_1) (pack_Reader_Num.R b_2) := by
  refine Meets.of (c := c24_0) (n := 75) Try.func24 (by kernel_rfl) (by kernel_rfl) (by kernel_rfl) fun w0 S0 => ?_
  unfold pack_Reader_Num.f
  show GoO (pack_Reader_Num.cx b_2 w0 S0) [(0, .pointer (some ⟨b_2, 0, none⟩))] [⟨1, b_2, [.string (bs r_1.s), .bool r_1.bad]⟩] [] [.code c24_0] _
  refine GoO.seq' c24_0e ?_
  refine GoO.region' (is := [0]) c24_1e (by kernel_rfl) ?_
  refine GoO.exec (is := [0]) (hs := [.p]) (rest := []) (ks := [0]) (env' := [(0, .pointer (some ⟨b_2, 0, none⟩))]) (H' := [⟨1, b_2, [.string (bs r_1.s), .bool r_1.bad]⟩]) (ps := []) (by kernel_rfl) trivial ?_
  refine GoO.regionEnd ?_
  refine GoO.seq' c24_2e ?_
  refine GoO.seq' c24_3e ?_
  refine GoO.region' (is := [0, 1, 2, 3, 4, 5, 6, 7, 8]) c24_4e (by kernel_rfl) ?_
  refine GoO.exec (is := [0, 1, 2, 3, 4, 5, 6, 7, 8]) (hs := [.p, .p, .p, .p, .p, .p, .b 0, .p, .p]) (rest := []) (ks := [0, 14]) (env' := [(0, .pointer (some ⟨b_2, 0, none⟩)), (14, .bool (r_1.s == ([] : List UInt8)))]) (H' := [⟨1, b_2, [.string (bs r_1.s), .bool r_1.bad]⟩]) (ps := [b_2 = b_2]) (by kernel_rfl) (And.intro rfl trivial) ?_
  refine GoO.regionEnd ?_
  refine GoO.ite' c24_5e (by kernel_rfl) (fun h3 => ?_) (fun h3 => ?_)
  · refine GoO.seq' c24_6e ?_
    refine GoO.region' (is := [0, 1, 2]) c24_7e (by kernel_rfl) ?_
    refine GoO.exec (is := [0]) (hs := [.p]) (rest := [1, 2]) (ks := [15]) (env' := [(15, .pointer (some ⟨b_2, 0, none⟩))]) (H' := [⟨1, b_2, [.string (bs r_1.s), .bool r_1.bad]⟩]) (ps := []) (by kernel_rfl) trivial ?_
    refine OpTo.go (GoO.call rfl (by kernel_rfl) (by kernel_rfl) (pack_Reader_fail_ok n r_1 b_2) [[0], [1]] [(1, 1)] [(1, 0)] [] (hks := []) (bks := []) (by kernel_rfl) (by kernel_rfl) (by kernel_rfl) (.inl rfl) rfl rfl (by kernel_rfl) (by kernel_rfl) _ (fun _ _ => rfl) _ _ (fun _ _ => rfl) (fun _ _ => rfl) (fun _ _ => by kernel_rfl) (fun _ _ => by kernel_rfl) (fun r_4 x_5 => ?_))
    refine GoO.shape (env' := [(15, .pointer (some ⟨b_2, 0, none⟩)), (16, .int .u64 r_4.1)]) (H' := [⟨1, b_2, [.string (bs r_4.2.s), .bool r_4.2.bad]⟩]) (B' := []) (ks := [15, 16]) (by kernel_rfl) (by kernel_rfl) (by kernel_rfl) ?_
    refine GoO.exec (is := [2]) (hs := [.p]) (rest := []) (ks := [2]) (env' := [(2, .int .u64 r_4.1)]) (H' := [⟨1, b_2, [.string (bs r_4.2.s), .bool r_4.2.bad]⟩]) (ps := []) (by kernel_rfl) trivial ?_
    refine GoO.regionEnd ?_
    exact GoO.ret' (h := c24_8e) (hs := []) (ps := []) (hk := [0]) (bk := []) Try.func24 () (by kernel_rfl) trivial (by kernel_rfl) (by kernel_rfl)
  · refine GoO.skip' c24_9e ?_
    refine GoO.seq' c24_10e ?_
    refine GoO.region' (is := [0, 1, 2, 3, 4, 5, 6]) c24_11e (by kernel_rfl) ?_
    refine GoO.guard (fun h6 => ?_)
    refine GoO.exec (is := [0, 1, 2, 3, 4, 5, 6]) (hs := [.p, .p, .p, .b 0, .p, .p, .p]) (rest := []) (ks := [0, 3]) (env' := [(0, .pointer (some ⟨b_2, 0, none⟩)), (3, .int .i64 (wi64 ((rdB r_1.s 0).toNat : Int)))]) (H' := [⟨1, b_2, [.string (bs r_1.s), .bool r_1.bad]⟩]) (ps := [b_2 = b_2, (0 : Int) ≤ 0, 0 < (r_1.s.length : Int)]) (by kernel_rfl) (And.intro rfl (And.intro h6.1 (And.intro h6.2 trivial))) ?_
    refine GoO.regionEnd ?_
    refine GoO.seq' c24_12e ?_
    refine GoO.seq' c24_13e ?_
    refine GoO.region' (is := [0, 1, 2, 3, 4, 5, 6, 7, 8, 9, 10, 11, 12, 13, 14, 15, 16, 17, 18, 19, 20, 21, 22, 23]) c24_14e (by kernel_rfl) ?_
    refine GoO.exec (is := [0, 1, 2]) (hs := [.p, .p, .p]) (rest := [3, 4, 5, 6, 7, 8, 9, 10, 11, 12, 13, 14, 15, 16, 17, 18, 19, 20, 21, 22, 23]) (ks := [0, 3, 25]) (env' := [(0, .pointer (some ⟨b_2, 0, none⟩)), (3, .int .i64 (wi64 ((rdB r_1.s 0).toNat : Int))), (25, .bool (decide ((wi64 ((rdB r_1.s 0).toNat : Int)) > 8)))]) (H' := [⟨1, b_2, [.string (bs r_1.s), .bool r_1.bad]⟩]) (ps := []) (by kernel_rfl) trivial ?_
    refine GoO.bsplit (t := 25) (by kernel_rfl) (fun h7 => ?_) (fun h7 => ?_)
    · refine GoO.exec (is := [3, 4, 5, 6, 7, 8, 9, 10, 11, 12, 13, 14, 15, 16, 17, 18, 19, 20, 21, 22, 23]) (hs := [.p, .p, .p, .p, .p, .p, .p, .p, .p, .p, .p, .p, .p, .p, .p, .p, .p, .p, .p, .p, .p]) (rest := []) (ks := [0, 3, 46]) (env' := [(0, .pointer (some ⟨b_2, 0, none⟩)), (3, .int .i64 (wi64 ((rdB r_1.s 0).toNat : Int))), (46, .bool true)]) (H' := [⟨1, b_2, [.string (bs r_1.s), .bool r_1.bad]⟩]) (ps := []) (by kernel_rfl) trivial ?_
      refine GoO.regionEnd ?_
      exact GoO.sub (ks := [0, 3, 46]) (hk := [0]) (bk := []) (by kernel_rfl) (by kernel_rfl) (by kernel_rfl) (pack_Reader_Num_j0_ok n r_1 b_2 w0 S0 true)
    · refine GoO.exec (is := [3, 4, 5, 6, 7, 8, 9, 10, 11, 12]) (hs := [.p, .p, .p, .p, .b 0, .p, .p, .p, .p, .p]) (rest := [13, 14, 15, 16, 17, 18, 19, 20, 21, 22, 23]) (ks := [0, 3, 35]) (env' := [(0, .pointer (some ⟨b_2, 0, none⟩)), (3, .int .i64 (wi64 ((rdB r_1.s 0).toNat : Int))), (35, .bool (decide ((wi64 ((rdB r_1.s 0).toNat : Int)) > (wi64 ((r_1.s.length : Int) - 1)))))]) (H' := [⟨1, b_2, [.string (bs r_1.s), .bool r_1.bad]⟩]) (ps := [b_2 = b_2]) (by kernel_rfl) (And.intro rfl trivial) ?_
      refine GoO.bsplit (t := 35) (by kernel_rfl) (fun h8 => ?_) (fun h8 => ?_)
      · refine GoO.exec (is := [13, 14, 15, 16, 17, 18, 19, 20, 21, 22, 23]) (hs := [.p, .p, .p, .p, .p, .p, .p, .p, .p, .p, .p]) (rest := []) (ks := [0, 3, 46]) (env' := [(0, .pointer (some ⟨b_2, 0, none⟩)), (3, .int .i64 (wi64 ((rdB r_1.s 0).toNat : Int))), (46, .bool true)]) (H' := [⟨1, b_2, [.string (bs r_1.s), .bool r_1.bad]⟩]) (ps := []) (by kernel_rfl) trivial ?_
        refine GoO.regionEnd ?_
        exact GoO.sub (ks := [0, 3, 46]) (hk := [0]) (bk := []) (by kernel_rfl) (by kernel_rfl) (by kernel_rfl) (pack_Reader_Num_j0_ok n r_1 b_2 w0 S0 true)
      · refine GoO.exec (is := [13, 14, 15]) (hs := [.p, .p, .p]) (rest := [16, 17, 18, 19, 20, 21, 22, 23]) (ks := [0, 3, 35, 38]) (env' := [(0, .pointer (some ⟨b_2, 0, none⟩)), (3, .int .i64 (wi64 ((rdB r_1.s 0).toNat : Int))), (35, .bool false), (38, .bool (decide ((wi64 ((rdB r_1.s 0).toNat : Int)) > 0)))]) (H' := [⟨1, b_2, [.string (bs r_1.s), .bool r_1.bad]⟩]) (ps := []) (by kernel_rfl) trivial ?_
        refine GoO.bsplit (t := 38) (by kernel_rfl) (fun h9 => ?_) (fun h9 => ?_)
        · refine GoO.guard (fun h10 => ?_)
          refine GoO.exec (is := [16, 17, 18, 19, 20, 21, 22, 23]) (hs := [.p, .p, .p, .b 0, .p, .p, .p, .p]) (rest := []) (ks := [0, 3, 46]) (env' := [(0, .pointer (some ⟨b_2, 0, none⟩)), (3, .int .i64 (wi64 ((rdB r_1.s 0).toNat : Int))), (46, .bool (((rdB r_1.s 1).toNat : Int) == 0))]) (H' := [⟨1, b_2, [.string (bs r_1.s), .bool r_1.bad]⟩]) (ps := [b_2 = b_2, (0 : Int) ≤ 1, 1 < (r_1.s.length : Int)]) (by kernel_rfl) (And.intro rfl (And.intro h10.1 (And.intro h10.2 trivial))) ?_
          refine GoO.regionEnd ?_
          exact GoO.sub (ks := [0, 3, 46]) (hk := [0]) (bk := []) (by kernel_rfl) (by kernel_rfl) (by kernel_rfl) (pack_Reader_Num_j0_ok n r_1 b_2 w0 S0 (((rdB r_1.s 1).toNat : Int) == 0))
        · refine GoO.exec (is := [16, 17, 18, 19, 20, 21, 22, 23]) (hs := [.p, .p, .p, .p, .p, .p, .p, .p]) (rest := []) (ks := [0, 3, 46]) (env' := [(0, .pointer (some ⟨b_2, 0, none⟩)), (3, .int .i64 (wi64 ((rdB r_1.s 0).toNat : Int))), (46, .bool false)]) (H' := [⟨1, b_2, [.string (bs r_1.s), .bool r_1.bad]⟩]) (ps := []) (by kernel_rfl) trivial ?_
          refine GoO.regionEnd ?_
          exact GoO.sub (ks := [0, 3, 46]) (hk := [0]) (bk := []) (by kernel_rfl) (by kernel_rfl) (by kernel_rfl) (pack_Reader_Num_j0_ok n r_1 b_2 w0 S0 false)

/-! (*tontine/pack.Reader).Up -/
noncomputable def c27_0 : Code := bodyOf Try.f27
noncomputable def c27_1 : Code := cdL c27_0
noncomputable def c27_2 : Code := cdR c27_0
noncomputable def c27_3 : Code := cdL c27_2
noncomputable def c27_4 : Code := cdR c27_2
noncomputable def c27_5 : Code := cdL c27_4
noncomputable def c27_6 : Code := cdL c27_5
noncomputable def c27_7 : Code := cdR c27_5
noncomputable def c27_8 : Code := cdL c27_7
noncomputable def c27_9 : Code := cdL c27_8
noncomputable def c27_10 : Code := cdR c27_8
noncomputable def c27_11 : Code := cdR c27_7
noncomputable def c27_12 : Code := cdR c27_4
noncomputable def c27_13 : Code := cdL c27_12
noncomputable def c27_14 : Code := cdR c27_12
noncomputable def r27_1 : Array Oper := cdO c27_1
noncomputable def r27_3 : Array Oper := cdO c27_3
noncomputable def r27_6 : Array Oper := cdO c27_6
noncomputable def r27_9 : Array Oper := cdO c27_9
noncomputable def r27_13 : Array Oper := cdO c27_13
theorem c27_0e : c27_0 = .seq c27_1 c27_2 := by kernel_rfl
theorem c27_1e : c27_1 = .region 0 r27_1 false := by kernel_rfl
theorem c27_2e : c27_2 = .seq c27_3 c27_4 := by kernel_rfl
theorem c27_3e : c27_3 = .region 1 r27_3 false := by kernel_rfl
theorem c27_4e : c27_4 = .seq c27_5 c27_12 := by kernel_rfl
theorem c27_5e : c27_5 = .seq c27_6 c27_7 := by kernel_rfl
theorem c27_6e : c27_6 = .region 2 r27_6 false := by kernel_rfl
theorem c27_7e : c27_7 = .cond (cdC c27_7) c27_8 c27_11 := by kernel_rfl
theorem c27_8e : c27_8 = .seq c27_9 c27_10 := by kernel_rfl
theorem c27_9e : c27_9 = .region 3 r27_9 false := by kernel_rfl
theorem c27_10e : c27_10 = .ret := by kernel_rfl
theorem c27_11e : c27_11 = .skip := by kernel_rfl
theorem c27_12e : c27_12 = .seq c27_13 c27_14 := by kernel_rfl
theorem c27_13e : c27_13 = .region 4 r27_13 false := by kernel_rfl
theorem c27_14e : c27_14 = .ret := by kernel_rfl
noncomputable def pack_Reader_Up.R (b_2 : Nat) : Pst (Int × T_pack_Reader) where
  ε := Unit
  v := fun r x => .int .i64 r.1
  H := fun r x => [⟨1, b_2, [.string (bs r.2.s), .bool r.2.bad]⟩]
  B := fun r x => []
noncomputable def pack_Reader_Up.cx (b_2 : Nat) (w0 : World) (S0 : Fam) : Cx (Int × T_pack_Reader) := ⟨Try.prog, 27, Try.f27, 21, w0, S0, [1], 1, pack_Reader_Up.R b_2⟩
theorem pack_Reader_Up_j0_ok (n : Nat) (r_4 : Int × T_pack_Reader) (b_2 : Nat) (w0 : World) (S0 : Fam) (b_6 : Bool) :
    GoO (pack_Reader_Up.cx b_2 w0 S0) [(0, .pointer (some ⟨b_2, 0, none⟩)), (5, .int .u64 r_4.1), (15, .bool b_6)] [⟨1, b_2, [.string (bs r_4.2.s), .bool r_4.2.bad]⟩] [] [.code c27_7, .code c27_12] (pack_Reader_Up.j0 n r_4 b_6) := by
  unfold pack_Reader_Up.j0
  refine GoO.ite' c27_7e (by kernel_rfl) (fun h7 => ?_) (fun h7 => ?_)
  · refine GoO.seq' c27_8e ?_
    refine GoO.region' (is := [0, 1, 2, 3]) c27_9e (by kernel_rfl) ?_
    refine GoO.exec (is := [0]) (hs := [.p]) (rest := [1, 2, 3]) (ks := [16]) (env' := [(16, .pointer (some ⟨b_2, 0, none⟩))]) (H' := [⟨1, b_2, [.string (bs r_4.2.s), .bool r_4.2.bad]⟩]) (ps := []) (by kernel_rfl) trivial ?_
    refine OpTo.go (GoO.call rfl (by kernel_rfl) (by kernel_rfl) (pack_Reader_fail_ok n r_4.2 b_2) [[0], [1]] [(1, 1)] [(1, 0)] [] (hks := []) (bks := []) (by kernel_rfl) (by kernel_rfl) (by kernel_rfl) (.inl rfl) rfl rfl (by kernel_rfl) (by kernel_rfl) _ (fun _ _ => rfl) _ _ (fun _ _ => rfl) (fun _ _ => rfl) (fun _ _ => by kernel_rfl) (fun _ _ => by kernel_rfl) (fun r_8 x_9 => ?_))
    refine GoO.shape (env' := [(16, .pointer (some ⟨b_2, 0, none⟩)), (17, .int .u64 r_8.1)]) (H' := [⟨1, b_2, [.string (bs r_8.2.s), .bool r_8.2.bad]⟩]) (B' := []) (ks := [16, 17]) (by kernel_rfl) (by kernel_rfl) (by kernel_rfl) ?_
    refine GoO.exec (is := [2, 3]) (hs := [.p, .p]) (rest := []) (ks := [4]) (env' := [(4, .int .i64 (wi64 r_8.1))]) (H' := [⟨1, b_2, [.string (bs r_8.2.s), .bool r_8.2.bad]⟩]) (ps := []) (by kernel_rfl) trivial ?_
    refine GoO.regionEnd ?_
    exact GoO.ret' (h := c27_10e) (hs := []) (ps := []) (hk := [0]) (bk := []) Try.func27 () (by kernel_rfl) trivial (by kernel_rfl) (by kernel_rfl)
  · refine GoO.skip' c27_11e ?_
    refine GoO.seq' c27_12e ?_
    refine GoO.region' (is := [0, 1, 2]) c27_13e (by kernel_rfl) ?_
    refine GoO.exec (is := [0, 1, 2]) (hs := [.p, .p, .p]) (rest := []) (ks := [4]) (env' := [(4, .int .i64 (wi64 r_4.1))]) (H' := [⟨1, b_2, [.string (bs r_4.2.s), .bool r_4.2.bad]⟩]) (ps := []) (by kernel_rfl) trivial ?_
    refine GoO.regionEnd ?_
    exact GoO.ret' (h := c27_14e) (hs := []) (ps := []) (hk := [0]) (bk := []) Try.func27 () (by kernel_rfl) trivial (by kernel_rfl) (by kernel_rfl)
theorem pack_Reader_Up_ok (n : Nat) (r_1 : T_pack_Reader) (limit_3 : Int) (b_2 : Nat) :
    Meets Try.prog 27 [.pointer (some ⟨b_2, 0, none⟩), .int .i64 limit_3] 1 [1] [⟨1, b_2, [.string (bs r_1.s), .bool r_1.bad]⟩] [] (pack_Reader_Up.f n r_1 limit_3) (pack_Reader_Up.R b_2) := by
  refine Meets.of (c := c27_0) (n := 21) Try.func27 (by kernel_rfl) (by kernel_rfl) (by kernel_rfl) fun w0 S0 => ?_
  unfold pack_Reader_Up.f
  show GoO (pack_Reader_Up.cx b_2 w0 S0) [(0, .pointer (some ⟨b_2, 0, none⟩)), (1, .int .i64 limit_3)] [⟨1, b_2, [.string (bs r_1.s), .bool r_1.bad]⟩] [] [.code c27_0] _
  refine GoO.seq' c27_0e ?_
  refine GoO.region' (is := [0]) c27_1e (by kernel_rfl) ?_
  refine GoO.exec (is := [0]) (hs := [.p]) (rest := []) (ks := [0, 1]) (env' := [(0, .pointer (some ⟨b_2, 0, none⟩)), (1, .int .i64 limit_3)]) (H' := [⟨1, b_2, [.string (bs r_1.s), .bool r_1.bad]⟩]) (ps := []) (by kernel_rfl) trivial ?_
  refine GoO.regionEnd ?_
  refine GoO.seq' c27_2e ?_
  refine GoO.region' (is := [0, 1, 2]) c27_3e (by kernel_rfl) ?_
  refine GoO.exec (is := [0]) (hs := [.p]) (rest := [1, 2]) (ks := [0, 1, 6]) (env' := [(0, .pointer (some ⟨b_2, 0, none⟩)), (1, .int .i64 limit_3), (6, .pointer (some ⟨b_2, 0, none⟩))]) (H' := [⟨1, b_2, [.string (bs r_1.s), .bool r_1.bad]⟩]) (ps := []) (by kernel_rfl) trivial ?_
  refine OpTo.go (GoO.call rfl (by kernel_rfl) (by kernel_rfl) (pack_Reader_Num_ok n r_1 b_2) [[0], [1]] [(1, 1)] [(1, 0)] [] (hks := []) (bks := []) (by kernel_rfl) (by kernel_rfl) (by kernel_rfl) (.inl rfl) rfl rfl (by kernel_rfl) (by kernel_rfl) _ (fun _ _ => rfl) _ _ (fun _ _ => rfl) (fun _ _ => rfl) (fun _ _ => by kernel_rfl) (fun _ _ => by kernel_rfl) (fun r_4 x_10 => ?_))
  refine GoO.shape (env' := [(0, .pointer (some ⟨b_2, 0, none⟩)), (1, .int .i64 limit_3), (6, .pointer (some ⟨b_2, 0, none⟩)), (7, .int .u64 r_4.1)]) (H' := [⟨1, b_2, [.string (bs r_4.2.s), .bool r_4.2.bad]⟩]) (B' := []) (ks := [0, 1, 6, 7]) (by kernel_rfl) (by kernel_rfl) (by kernel_rfl) ?_
  refine GoO.exec (is := [2]) (hs := [.p]) (rest := []) (ks := [0, 1, 5]) (env' := [(0, .pointer (some ⟨b_2, 0, none⟩)), (1, .int .i64 limit_3), (5, .int .u64 r_4.1)]) (H' := [⟨1, b_2, [.string (bs r_4.2.s), .bool r_4.2.bad]⟩]) (ps := []) (by kernel_rfl) trivial ?_
  refine GoO.regionEnd ?_
  refine GoO.seq' c27_4e ?_
  refine GoO.seq' c27_5e ?_
  refine GoO.region' (is := [0, 1, 2, 3, 4, 5, 6, 7]) c27_6e (by kernel_rfl) ?_
  refine GoO.exec (is := [0, 1, 2]) (hs := [.p, .p, .p]) (rest := [3, 4, 5, 6, 7]) (ks := [0, 1, 5, 10]) (env' := [(0, .pointer (some ⟨b_2, 0, none⟩)), (1, .int .i64 limit_3), (5, .int .u64 r_4.1), (10, .bool (decide (limit_3 < 0)))]) (H' := [⟨1, b_2, [.string (bs r_4.2.s), .bool r_4.2.bad]⟩]) (ps := []) (by kernel_rfl) trivial ?_
  refine GoO.bsplit (t := 10) (by kernel_rfl) (fun h5 => ?_) (fun h5 => ?_)
  · refine GoO.exec (is := [3, 4, 5, 6, 7]) (hs := [.p, .p, .p, .p, .p]) (rest := []) (ks := [0, 5, 15]) (env' := [(0, .pointer (some ⟨b_2, 0, none⟩)), (5, .int .u64 r_4.1), (15, .bool true)]) (H' := [⟨1, b_2, [.string (bs r_4.2.s), .bool r_4.2.bad]⟩]) (ps := []) (by kernel_rfl) trivial ?_
    refine GoO.regionEnd ?_
    exact GoO.sub (ks := [0, 5, 15]) (hk := [0]) (bk := []) (by kernel_rfl) (by kernel_rfl) (by kernel_rfl) (pack_Reader_Up_j0_ok n r_4 b_2 w0 S0 true)
  · refine GoO.exec (is := [3, 4, 5, 6, 7]) (hs := [.p, .p, .p, .p, .p]) (rest := []) (ks := [0, 5, 15]) (env' := [(0, .pointer (some ⟨b_2, 0, none⟩)), (5, .int .u64 r_4.1), (15, .bool (decide (r_4.1 > (wu64 limit_3))))]) (H' := [⟨1, b_2, [.string (bs r_4.2.s), .bool r_4.2.bad]⟩]) (ps := []) (by kernel_rfl) trivial ?_
    refine GoO.regionEnd ?_
    exact GoO.sub (ks := [0, 5, 15]) (hk := [0]) (bk := []) (by kernel_rfl) (by kernel_rfl) (by kernel_rfl) (pack_Reader_Up_j0_ok n r_4 b_2 w0 S0 (decide (r_4.1 > (wu64 limit_3))))

/-! (*tontine/pack.Reader).Text -/
noncomputable def c28_0 : Code := bodyOf Try.f28
noncomputable def c28_1 : Code := cdL c28_0
noncomputable def c28_2 : Code := cdR c28_0
noncomputable def c28_3 : Code := cdL c28_2
noncomputable def c28_4 : Code := cdR c28_2
noncomputable def c28_5 : Code := cdL c28_4
noncomputable def c28_6 : Code := cdL c28_5
noncomputable def c28_7 : Code := cdR c28_5
noncomputable def c28_8 : Code := cdL c28_7
noncomputable def c28_9 : Code := cdL c28_8
noncomputable def c28_10 : Code := cdR c28_8
noncomputable def c28_11 : Code := cdL c28_10
noncomputable def c28_12 : Code := cdR c28_10
noncomputable def c28_13 : Code := cdR c28_7
noncomputable def c28_14 : Code := cdR c28_4
noncomputable def c28_15 : Code := cdL c28_14
noncomputable def c28_16 : Code := cdR c28_14
noncomputable def c28_17 : Code := cdL c28_16
noncomputable def c28_18 : Code := cdR c28_16
noncomputable def c28_19 : Code := cdL c28_18
noncomputable def c28_20 : Code := cdR c28_18
noncomputable def r28_1 : Array Oper := cdO c28_1
noncomputable def r28_3 : Array Oper := cdO c28_3
noncomputable def r28_6 : Array Oper := cdO c28_6
noncomputable def r28_9 : Array Oper := cdO c28_9
noncomputable def r28_11 : Array Oper := cdO c28_11
noncomputable def r28_15 : Array Oper := cdO c28_15
noncomputable def r28_17 : Array Oper := cdO c28_17
noncomputable def r28_19 : Array Oper := cdO c28_19
theorem c28_0e : c28_0 = .seq c28_1 c28_2 := by kernel_rfl
theorem c28_1e : c28_1 = .region 0 r28_1 false := by kernel_rfl
theorem c28_2e : c28_2 = .seq c28_3 c28_4 := by kernel_rfl
theorem c28_3e : c28_3 = .region 1 r28_3 false := by kernel_rfl
theorem c28_4e : c28_4 = .seq c28_5 c28_14 := by kernel_rfl
theorem c28_5e : c28_5 = .seq c28_6 c28_7 := by kernel_rfl
theorem c28_6e : c28_6 = .region 2 r28_6 false := by kernel_rfl
theorem c28_7e : c28_7 = .cond (cdC c28_7) c28_8 c28_13 := by kernel_rfl
theorem c28_8e : c28_8 = .seq c28_9 c28_10 := by kernel_rfl
theorem c28_9e : c28_9 = .region 3 r28_9 false := by kernel_rfl
theorem c28_10e : c28_10 = .seq c28_11 c28_12 := by kernel_rfl
theorem c28_11e : c28_11 = .region 4 r28_11 false := by kernel_rfl
theorem c28_12e : c28_12 = .ret := by kernel_rfl
theorem c28_13e : c28_13 = .skip := by kernel_rfl
theorem c28_14e : c28_14 = .seq c28_15 c28_16 := by kernel_rfl
theorem c28_15e : c28_15 = .region 5 r28_15 false := by kernel_rfl
theorem c28_16e : c28_16 = .seq c28_17 c28_18 := by kernel_rfl
theorem c28_17e : c28_17 = .region 6 r28_17 false := by kernel_rfl
theorem c28_18e : c28_18 = .seq c28_19 c28_20 := by kernel_rfl
theorem c28_19e : c28_19 = .region 7 r28_19 false := by kernel_rfl
theorem c28_20e : c28_20 = .ret := by kernel_rfl
noncomputable def pack_Reader_Text.R (b_2 : Nat) : Pst ((List UInt8) × T_pack_Reader) where
  ε := Unit
  v := fun r x => .string (bs r.1)
  H := fun r x => [⟨1, b_2, [.string (bs r.2.s), .bool r.2.bad]⟩]
  B := fun r x => []
noncomputable def pack_Reader_Text.cx (b_2 : Nat) (w0 : World) (S0 : Fam) : Cx ((List UInt8) × T_pack_Reader) := ⟨Try.prog, 28, Try.f28, 39, w0, S0, [1], 1, pack_Reader_Text.R b_2⟩
theorem pack_Reader_Text_ok (n : Nat) (r_1 : T_pack_Reader) (limit_3 : Int) (b_2 : Nat) :
    Meets Try.prog 28 [.pointer (some ⟨b_2, 0, none⟩), .int .i64 limit_3] 1 [1] [⟨1, b_2, [.string (bs r_1.s), .bool r_1.bad]⟩] [] (pack_Reader_Text.f n r_1 limit_3) (pack_Reader_Text.R b_2) := by
  refine Meets.of (c := c28_0) (n := 39) Try.func28 (by kernel_rfl) (by kernel_rfl) (by kernel_rfl) fun w0 S0 => ?_
  unfold pack_Reader_Text.f
  show GoO (pack_Reader_Text.cx b_2 w0 S0) [(0, .pointer (some ⟨b_2, 0, none⟩)), (1, .int .i64 limit_3)] [⟨1, b_2, [.string (bs r_1.s), .bool r_1.bad]⟩] [] [.code c28_0] _
  refine GoO.seq' c28_0e ?_
  refine GoO.region' (is := [0]) c28_1e (by kernel_rfl) ?_
  refine GoO.exec (is := [0]) (hs := [.p]) (rest := []) (ks := [0, 1]) (env' := [(0, .pointer (some ⟨b_2, 0, none⟩)), (1, .int .i64 limit_3)]) (H' := [⟨1, b_2, [.string (bs r_1.s), .bool r_1.bad]⟩]) (ps := []) (by kernel_rfl) trivial ?_
  refine GoO.regionEnd ?_
  refine GoO.seq' c28_2e ?_
  refine GoO.region' (is := [0, 1, 2, 3]) c28_3e (by kernel_rfl) ?_
  refine GoO.exec (is := [0, 1]) (hs := [.p, .p]) (rest := [2, 3]) (ks := [0, 7, 8]) (env' := [(0, .pointer (some ⟨b_2, 0, none⟩)), (7, .pointer (some ⟨b_2, 0, none⟩)), (8, .int .i64 limit_3)]) (H' := [⟨1, b_2, [.string (bs r_1.s), .bool r_1.bad]⟩]) (ps := []) (by kernel_rfl) trivial ?_
  refine OpTo.go (GoO.call rfl (by kernel_rfl) (by kernel_rfl) (pack_Reader_Up_ok n r_1 limit_3 b_2) [[0], [1]] [(1, 1)] [(1, 0)] [] (hks := []) (bks := []) (by kernel_rfl) (by kernel_rfl) (by kernel_rfl) (.inl rfl) rfl rfl (by kernel_rfl) (by kernel_rfl) _ (fun _ _ => rfl) _ _ (fun _ _ => rfl) (fun _ _ => rfl) (fun _ _ => by kernel_rfl) (fun _ _ => by kernel_rfl) (fun r_4 x_10 => ?_))
  refine GoO.shape (env' := [(0, .pointer (some ⟨b_2, 0, none⟩)), (7, .pointer (some ⟨b_2, 0, none⟩)), (8, .int .i64 limit_3), (9, .int .i64 r_4.1)]) (H' := [⟨1, b_2, [.string (bs r_4.2.s), .bool r_4.2.bad]⟩]) (B' := []) (ks := [0, 7, 8, 9]) (by kernel_rfl) (by kernel_rfl) (by kernel_rfl) ?_
  refine GoO.exec (is := [3]) (hs := [.p]) (rest := []) (ks := [0, 5]) (env' := [(0, .pointer (some ⟨b_2, 0, none⟩)), (5, .int .i64 r_4.1)]) (H' := [⟨1, b_2, [.string (bs r_4.2.s), .bool r_4.2.bad]⟩]) (ps := []) (by kernel_rfl) trivial ?_
  refine GoO.regionEnd ?_
  refine GoO.seq' c28_4e ?_
  refine GoO.seq' c28_5e ?_
  refine GoO.region' (is := [0, 1, 2, 3, 4, 5, 6, 7, 8, 9, 10]) c28_6e (by kernel_rfl) ?_
  refine GoO.exec (is := [0, 1, 2, 3, 4, 5, 6, 7, 8, 9, 10]) (hs := [.p, .p, .p, .p, .p, .p, .p, .b 0, .p, .p, .p]) (rest := []) (ks := [0, 5, 20]) (env' := [(0, .pointer (some ⟨b_2, 0, none⟩)), (5, .int .i64 r_4.1), (20, .bool (decide (r_4.1 > (r_4.2.s.length : Int))))]) (H' := [⟨1, b_2, [.string (bs r_4.2.s), .bool r_4.2.bad]⟩]) (ps := [b_2 = b_2]) (by kernel_rfl) (And.intro rfl trivial) ?_
  refine GoO.regionEnd ?_
  refine GoO.ite' c28_7e (by kernel_rfl) (fun h5 => ?_) (fun h5 => ?_)
  · refine GoO.seq' c28_8e ?_
    refine GoO.region' (is := [0, 1]) c28_9e (by kernel_rfl) ?_
    refine GoO.exec (is := [0]) (hs := [.p]) (rest := [1]) (ks := [21]) (env' := [(21, .pointer (some ⟨b_2, 0, none⟩))]) (H' := [⟨1, b_2, [.string (bs r_4.2.s), .bool r_4.2.bad]⟩]) (ps := []) (by kernel_rfl) trivial ?_
    refine OpTo.go (GoO.call rfl (by kernel_rfl) (by kernel_rfl) (pack_Reader_fail_ok n r_4.2 b_2) [[0], [1]] [(1, 1)] [(1, 0)] [] (hks := []) (bks := []) (by kernel_rfl) (by kernel_rfl) (by kernel_rfl) (.inl rfl) rfl rfl (by kernel_rfl) (by kernel_rfl) _ (fun _ _ => rfl) _ _ (fun _ _ => rfl) (fun _ _ => rfl) (fun _ _ => by kernel_rfl) (fun _ _ => by kernel_rfl) (fun r_6 x_7 => ?_))
    refine GoO.shape (env' := [(21, .pointer (some ⟨b_2, 0, none⟩)), (22, .int .u64 r_6.1)]) (H' := [⟨1, b_2, [.string (bs r_6.2.s), .bool r_6.2.bad]⟩]) (B' := []) (ks := [21, 22]) (by kernel_rfl) (by kernel_rfl) (by kernel_rfl) ?_
    refine GoO.regionEnd ?_
    refine GoO.seq' c28_10e ?_
    refine GoO.region' (is := [0]) c28_11e (by kernel_rfl) ?_
    refine GoO.exec (is := [0]) (hs := [.p]) (rest := []) (ks := [4]) (env' := [(4, .string (bs []))]) (H' := [⟨1, b_2, [.string (bs r_6.2.s), .bool r_6.2.bad]⟩]) (ps := []) (by kernel_rfl) trivial ?_
    refine GoO.regionEnd ?_
    exact GoO.ret' (h := c28_12e) (hs := []) (ps := []) (hk := [0]) (bk := []) Try.func28 () (by kernel_rfl) trivial (by kernel_rfl) (by kernel_rfl)
  · refine GoO.skip' c28_13e ?_
    refine GoO.seq' c28_14e ?_
    refine GoO.region' (is := [0, 1, 2, 3, 4, 5, 6]) c28_15e (by kernel_rfl) ?_
    refine GoO.guard (fun h8 => ?_)
    refine GoO.exec (is := [0, 1, 2, 3, 4, 5, 6]) (hs := [.p, .p, .p, .b 0, .p, .p, .p]) (rest := []) (ks := [0, 5, 6]) (env' := [(0, .pointer (some ⟨b_2, 0, none⟩)), (5, .int .i64 r_4.1), (6, .string (bs (r_4.2.s.take r_4.1.toNat)))]) (H' := [⟨1, b_2, [.string (bs r_4.2.s), .bool r_4.2.bad]⟩]) (ps := [b_2 = b_2, (0 : Int) ≤ r_4.1, r_4.1 ≤ (r_4.2.s.length : Int)]) (by kernel_rfl) (And.intro rfl (And.intro h8.1 (And.intro h8.2 trivial))) ?_
    refine GoO.regionEnd ?_
    refine GoO.seq' c28_16e ?_
    refine GoO.region' (is := [0, 1, 2, 3, 4, 5, 6, 7, 8, 9]) c28_17e (by kernel_rfl) ?_
    refine GoO.guard (fun h9 => ?_)
    refine GoO.exec (is := [0, 1, 2, 3, 4, 5, 6, 7, 8, 9]) (hs := [.p, .p, .p, .p, .b 0, .p, .p, .p, .p, .b 0]) (rest := []) (ks := [6]) (env' := [(6, .string (bs (r_4.2.s.take r_4.1.toNat)))]) (H' := [⟨1, b_2, [.string (bs (r_4.2.s.drop r_4.1.toNat)), .bool r_4.2.bad]⟩]) (ps := [b_2 = b_2, (0 : Int) ≤ r_4.1, r_4.1 ≤ (r_4.2.s.length : Int), b_2 = b_2]) (by kernel_rfl) (And.intro rfl (And.intro h9.1 (And.intro h9.2 (And.intro rfl trivial)))) ?_
    refine GoO.regionEnd ?_
    refine GoO.seq' c28_18e ?_
    refine GoO.region' (is := [0, 1]) c28_19e (by kernel_rfl) ?_
    refine GoO.exec (is := [0, 1]) (hs := [.p, .p]) (rest := []) (ks := [4]) (env' := [(4, .string (bs (r_4.2.s.take r_4.1.toNat)))]) (H' := [⟨1, b_2, [.string (bs (r_4.2.s.drop r_4.1.toNat)), .bool r_4.2.bad]⟩]) (ps := []) (by kernel_rfl) trivial ?_
    refine GoO.regionEnd ?_
    exact GoO.ret' (h := c28_20e) (hs := []) (ps := []) (hk := [0]) (bk := []) Try.func28 () (by kernel_rfl) trivial (by kernel_rfl) (by kernel_rfl)

/-! (*tontine/pack.Reader).Left -/
noncomputable def c25_0 : Code := bodyOf Try.f25
noncomputable def c25_1 : Code := cdL c25_0
noncomputable def c25_2 : Code := cdR c25_0
noncomputable def c25_3 : Code := cdL c25_2
noncomputable def c25_4 : Code := cdL c25_3
noncomputable def c25_5 : Code := cdR c25_3
noncomputable def c25_9 : Code := cdR c25_5
noncomputable def c25_10 : Code := cdR c25_2
noncomputable def c25_11 : Code := cdL c25_10
noncomputable def c25_12 : Code := cdR c25_10
noncomputable def c25_6 : Code := cdL c25_5
noncomputable def r25_1 : Array Oper := cdO c25_1
noncomputable def r25_4 : Array Oper := cdO c25_4
noncomputable def r25_11 : Array Oper := cdO c25_11
theorem c25_0e : c25_0 = .seq c25_1 c25_2 := by kernel_rfl
theorem c25_1e : c25_1 = .region 0 r25_1 false := by kernel_rfl
theorem c25_2e : c25_2 = .seq c25_3 c25_10 := by kernel_rfl
theorem c25_3e : c25_3 = .seq c25_4 c25_5 := by kernel_rfl
theorem c25_4e : c25_4 = .region 1 r25_4 false := by kernel_rfl
theorem c25_5e : c25_5 = .cond (cdC c25_5) c25_6 c25_9 := by kernel_rfl
theorem c25_9e : c25_9 = .skip := by kernel_rfl
theorem c25_10e : c25_10 = .seq c25_11 c25_12 := by kernel_rfl
theorem c25_11e : c25_11 = .region 3 r25_11 true := by kernel_rfl
theorem c25_12e : c25_12 = .ret := by kernel_rfl
noncomputable def pack_Reader_Left.R (b_2 : Nat) : Pst (Int × Bool) where
  ε := Unit
  v := fun r x => .tuple ⟨[.int .i64 r.1, .bool r.2]⟩
  H := fun r x => []
  B := fun r x => []
noncomputable def pack_Reader_Left.cx (b_2 : Nat) (w0 : World) (S0 : Fam) : Cx (Int × Bool) := ⟨Try.prog, 25, Try.f25, 16, w0, S0, [], 1, pack_Reader_Left.R b_2⟩
theorem pack_Reader_Left_ok (n : Nat) (r_1 : T_pack_Reader) (b_2 : Nat) :
    Meets Try.prog 25 [.pointer (some ⟨b_2, 0, none⟩)] 1 [] [⟨1, b_2, [.string (bs r_1.s), .bool r_1.bad]⟩] [] (pack_Reader_Left.f n r_1) (pack_Reader_Left.R b_2) := by
  refine Meets.of (c := c25_0) (n := 16) Try.func25 (by kernel_rfl) (by kernel_rfl) (by kernel_rfl) fun w0 S0 => ?_
  unfold pack_Reader_Left.f
  show GoO (pack_Reader_Left.cx b_2 w0 S0) [(0, .pointer (some ⟨b_2, 0, none⟩))] [⟨1, b_2, [.string (bs r_1.s), .bool r_1.bad]⟩] [] [.code c25_0] _
  refine GoO.seq' c25_0e ?_
  refine GoO.region' (is := [0, 1]) c25_1e (by kernel_rfl) ?_
  refine GoO.exec (is := [0, 1]) (hs := [.p, .p]) (rest := []) (ks := [0]) (env' := [(0, .pointer (some ⟨b_2, 0, none⟩))]) (H' := [⟨1, b_2, [.string (bs r_1.s), .bool r_1.bad]⟩]) (ps := []) (by kernel_rfl) trivial ?_
  refine GoO.regionEnd ?_
  refine GoO.seq' c25_2e ?_
  refine GoO.seq' c25_3e ?_
  refine GoO.region' (is := [0, 1]) c25_4e (by kernel_rfl) ?_
  refine GoO.exec (is := [0, 1]) (hs := [.p, .p]) (rest := []) (ks := [0, 5]) (env' := [(0, .pointer (some ⟨b_2, 0, none⟩)), (5, .bool false)]) (H' := [⟨1, b_2, [.string (bs r_1.s), .bool r_1.bad]⟩]) (ps := []) (by kernel_rfl) trivial ?_
  refine GoO.regionEnd ?_
  refine GoO.condF c25_5e (by kernel_rfl) ?_
  refine GoO.skip' c25_9e ?_
  refine GoO.seq' c25_10e ?_
  refine GoO.draw c25_11e (by kernel_rfl) [11] [⟨1, b_2, [.string (bs r_1.s), .bool r_1.bad]⟩] [] (n := 12) (by kernel_rfl) ?_
  simp only [List.replicate]
  refine GoF.take [0, 1, 2, 3, 4, 5, 6, 7, 8, 9, 10] [.p, .p, .p, .b 0, .p, .p, .p, .p, .b 0, .p, .p] (ks := [2, 15]) (fu := 1) (li := [true, true, true, true, true, true, true, true, true, true, true, false]) (env' := [(2, .int .i64 (r_1.s.length : Int)), (15, .bool (!r_1.bad))]) (ps := [b_2 = b_2, b_2 = b_2]) (hk := [0]) (bk := []) (by kernel_rfl) (And.intro rfl (And.intro rfl trivial)) rfl rfl ?_
  refine GoF.fin1 (i := 11) (hint := .p) (ps := []) (hk := []) (bk := []) (by kernel_rfl) rfl trivial (.inl rfl) ?_
  refine GoF.done (by kernel_rfl) ?_
  exact GoO.ret' (h := c25_12e) (hs := []) (ps := []) (hk := []) (bk := []) Try.func25 () (by kernel_rfl) trivial (by kernel_rfl) (by kernel_rfl)

/-! (*tontine/pack.Reader).Done -/
noncomputable def c29_0 : Code := bodyOf Try.f29
noncomputable def c29_1 : Code := cdL c29_0
noncomputable def c29_2 : Code := cdR c29_0
noncomputable def c29_3 : Code := cdL c29_2
noncomputable def c29_4 : Code := cdR c29_2
noncomputable def c29_5 : Code := cdL c29_4
noncomputable def c29_6 : Code := cdR c29_4
noncomputable def r29_1 : Array Oper := cdO c29_1
noncomputable def r29_3 : Array Oper := cdO c29_3
noncomputable def r29_5 : Array Oper := cdO c29_5
theorem c29_0e : c29_0 = .seq c29_1 c29_2 := by kernel_rfl
theorem c29_1e : c29_1 = .region 0 r29_1 false := by kernel_rfl
theorem c29_2e : c29_2 = .seq c29_3 c29_4 := by kernel_rfl
theorem c29_3e : c29_3 = .region 1 r29_3 false := by kernel_rfl
theorem c29_4e : c29_4 = .seq c29_5 c29_6 := by kernel_rfl
theorem c29_5e : c29_5 = .region 2 r29_5 false := by kernel_rfl
theorem c29_6e : c29_6 = .ret := by kernel_rfl
noncomputable def pack_Reader_Done.R (b_2 : Nat) : Pst Bool where
  ε := Unit
  v := fun r x => .bool r
  H := fun r x => []
  B := fun r x => []
noncomputable def pack_Reader_Done.cx (b_2 : Nat) (w0 : World) (S0 : Fam) : Cx Bool := ⟨Try.prog, 29, Try.f29, 15, w0, S0, [], 1, pack_Reader_Done.R b_2⟩
theorem pack_Reader_Done_ok (n : Nat) (r_1 : T_pack_Reader) (b_2 : Nat) :
    Meets Try.prog 29 [.pointer (some ⟨b_2, 0, none⟩)] 1 [] [⟨1, b_2, [.string (bs r_1.s), .bool r_1.bad]⟩] [] (pack_Reader_Done.f n r_1) (pack_Reader_Done.R b_2) := by
  refine Meets.of (c := c29_0) (n := 15) Try.func29 (by kernel_rfl) (by kernel_rfl) (by kernel_rfl) fun w0 S0 => ?_
  unfold pack_Reader_Done.f
  show GoO (pack_Reader_Done.cx b_2 w0 S0) [(0, .pointer (some ⟨b_2, 0, none⟩))] [⟨1, b_2, [.string (bs r_1.s), .bool r_1.bad]⟩] [] [.code c29_0] _
  refine GoO.seq' c29_0e ?_
  refine GoO.region' (is := [0]) c29_1e (by kernel_rfl) ?_
  refine GoO.exec (is := [0]) (hs := [.p]) (rest := []) (ks := [0]) (env' := [(0, .pointer (some ⟨b_2, 0, none⟩))]) (H' := [⟨1, b_2, [.string (bs r_1.s), .bool r_1.bad]⟩]) (ps := []) (by kernel_rfl) trivial ?_
  refine GoO.regionEnd ?_
  refine GoO.seq' c29_2e ?_
  refine GoO.region' (is := [0, 1, 2, 3, 4, 5, 6]) c29_3e (by kernel_rfl) ?_
  refine GoO.exec (is := [0]) (hs := [.p]) (rest := [1, 2, 3, 4, 5, 6]) (ks := [6]) (env' := [(6, .pointer (some ⟨b_2, 0, none⟩))]) (H' := [⟨1, b_2, [.string (bs r_1.s), .bool r_1.bad]⟩]) (ps := []) (by kernel_rfl) trivial ?_
  refine OpTo.go (GoO.call rfl (by kernel_rfl) (by kernel_rfl) (pack_Reader_Left_ok n r_1 b_2) [[0], [1]] [] [(1, 0)] [] (hks := [0]) (bks := []) (by kernel_rfl) (by kernel_rfl) (by kernel_rfl) (.inl rfl) rfl rfl (by kernel_rfl) (by kernel_rfl) _ (fun _ _ => rfl) _ _ (fun _ _ => rfl) (fun _ _ => rfl) (fun _ _ => by kernel_rfl) (fun _ _ => by kernel_rfl) (fun r_3 x_5 => ?_))
  refine GoO.shape (env' := [(6, .pointer (some ⟨b_2, 0, none⟩)), (7, .tuple ⟨[.int .i64 r_3.1, .bool r_3.2]⟩)]) (H' := [⟨1, b_2, [.string (bs r_1.s), .bool r_1.bad]⟩]) (B' := []) (ks := [6, 7]) (by kernel_rfl) (by kernel_rfl) (by kernel_rfl) ?_
  refine GoO.exec (is := [2, 3, 4, 5, 6]) (hs := [.p, .p, .p, .p, .p]) (rest := []) (ks := [3, 4]) (env' := [(3, .int .i64 r_3.1), (4, .bool r_3.2)]) (H' := [⟨1, b_2, [.string (bs r_1.s), .bool r_1.bad]⟩]) (ps := []) (by kernel_rfl) trivial ?_
  refine GoO.regionEnd ?_
  refine GoO.seq' c29_4e ?_
  refine GoO.region' (is := [0, 1, 2, 3, 4, 5]) c29_5e (by kernel_rfl) ?_
  refine GoO.exec (is := [0, 1, 2]) (hs := [.p, .p, .p]) (rest := [3, 4, 5]) (ks := [4, 12]) (env' := [(4, .bool r_3.2), (12, .bool (r_3.1 == 0))]) (H' := [⟨1, b_2, [.string (bs r_1.s), .bool r_1.bad]⟩]) (ps := []) (by kernel_rfl) trivial ?_
  refine GoO.bsplit (t := 12) (by kernel_rfl) (fun h4 => ?_) (fun h4 => ?_)
  · refine GoO.exec (is := [3, 4, 5]) (hs := [.p, .p, .p]) (rest := []) (ks := [2]) (env' := [(2, .bool r_3.2)]) (H' := [⟨1, b_2, [.string (bs r_1.s), .bool r_1.bad]⟩]) (ps := []) (by kernel_rfl) trivial ?_
    refine GoO.regionEnd ?_
    exact GoO.ret' (h := c29_6e) (hs := []) (ps := []) (hk := []) (bk := []) Try.func29 () (by kernel_rfl) trivial (by kernel_rfl) (by kernel_rfl)
  · refine GoO.exec (is := [3, 4, 5]) (hs := [.p, .p, .p]) (rest := []) (ks := [2]) (env' := [(2, .bool false)]) (H' := [⟨1, b_2, [.string (bs r_1.s), .bool r_1.bad]⟩]) (ps := []) (by kernel_rfl) trivial ?_
    refine GoO.regionEnd ?_
    exact GoO.ret' (h := c29_6e) (hs := []) (ps := []) (hk := []) (bk := []) Try.func29 () (by kernel_rfl) trivial (by kernel_rfl) (by kernel_rfl)

/-! tontine/tontinelaw03.begun -/
noncomputable def c22_0 : Code := bodyOf Try.f22
noncomputable def c22_1 : Code := cdL c22_0
noncomputable def c22_2 : Code := cdR c22_0
noncomputable def c22_3 : Code := cdL c22_2
noncomputable def c22_4 : Code := cdR c22_2
noncomputable def c22_5 : Code := cdL c22_4
noncomputable def c22_6 : Code := cdR c22_4
noncomputable def c22_7 : Code := cdL c22_6
noncomputable def c22_8 : Code := cdR c22_6
noncomputable def r22_1 : Array Oper := cdO c22_1
noncomputable def r22_3 : Array Oper := cdO c22_3
noncomputable def r22_5 : Array Oper := cdO c22_5
noncomputable def r22_7 : Array Oper := cdO c22_7
theorem c22_0e : c22_0 = .seq c22_1 c22_2 := by kernel_rfl
theorem c22_1e : c22_1 = .region 0 r22_1 false := by kernel_rfl
theorem c22_2e : c22_2 = .seq c22_3 c22_4 := by kernel_rfl
theorem c22_3e : c22_3 = .region 1 r22_3 false := by kernel_rfl
theorem c22_4e : c22_4 = .seq c22_5 c22_6 := by kernel_rfl
theorem c22_5e : c22_5 = .region 2 r22_5 false := by kernel_rfl
theorem c22_6e : c22_6 = .seq c22_7 c22_8 := by kernel_rfl
theorem c22_7e : c22_7 = .region 3 r22_7 false := by kernel_rfl
theorem c22_8e : c22_8 = .ret := by kernel_rfl
noncomputable def tontinelaw03_begun.R : Pst Bool where
  ε := Unit
  v := fun r x => .bool r
  H := fun r x => []
  B := fun r x => []
noncomputable def tontinelaw03_begun.cx (w0 : World) (S0 : Fam) : Cx Bool := ⟨Try.prog, 22, Try.f22, 25, w0, S0, [], 0, tontinelaw03_begun.R⟩
theorem tontinelaw03_begun_ok (n : Nat) :
    Meets Try.prog 22 [] 0 [] [] [] (tontinelaw03_begun.f n) (tontinelaw03_begun.R) := by
  refine Meets.of (c := c22_0) (n := 25) Try.func22 (by kernel_rfl) (by kernel_rfl) (by kernel_rfl) fun w0 S0 => ?_
  unfold tontinelaw03_begun.f
  show GoO (tontinelaw03_begun.cx w0 S0) [] [] [] [.code c22_0] _
  refine GoO.seq' c22_0e ?_
  refine GoO.region' (is := [0]) c22_1e (by kernel_rfl) ?_
  refine GoO.exec (is := [0]) (hs := [.p]) (rest := []) (ks := []) (env' := []) (H' := []) (ps := []) (by kernel_rfl) trivial ?_
  refine GoO.regionEnd ?_
  refine GoO.seq' c22_2e ?_
  refine GoO.region' (is := [0, 1, 2, 3, 4]) c22_3e (by kernel_rfl) ?_
  refine OpTo.go (GoO.new rfl 40 (cs := [.slice none ([] : List UInt8).length 0]) (by kernel_rfl) _ (fun _ => rfl) (fun b_1 => ?_))
  refine GoO.nilOwn Kd.u8 41 ?_
  refine OpTo.go (GoO.call rfl (by kernel_rfl) (by kernel_rfl) (pack_Writer_Num_ok n (⟨[]⟩ : T_pack_Writer) 300 b_1 none 0) [[0], [40], [41]] [(40, 1), (41, 2)] [(1, 0)] [(2, 0)] (hks := []) (bks := []) (by kernel_rfl) (by kernel_rfl) (by kernel_rfl) (.inl rfl) rfl rfl (by kernel_rfl) (by kernel_rfl) _ (fun _ _ => rfl) _ _ (fun _ _ => rfl) (fun _ _ => rfl) (fun _ _ => by kernel_rfl) (fun _ _ => by kernel_rfl) (fun r_2 x_23 => ?_))
  obtain ⟨A_3, c_4⟩ := x_23
  refine GoO.shape (env' := [(3, .pointer (some ⟨b_1, 0, none⟩)), (4, .pointer (some ⟨b_1, 0, none⟩))]) (H' := [⟨40, b_1, [.slice A_3 r_2.b.length c_4]⟩]) (B' := [Ow 41 Kd.u8 A_3 c_4 r_2.b]) (ks := [3, 4]) (by kernel_rfl) (by kernel_rfl) (by kernel_rfl) ?_
  refine OpTo.go (GoO.call rfl (by kernel_rfl) (by kernel_rfl) (pack_Writer_Text_ok n r_2 [97, 98] b_1 A_3 c_4) [[0], [40], [41]] [(40, 1), (41, 2)] [(1, 0)] [(2, 0)] (hks := []) (bks := []) (by kernel_rfl) (by kernel_rfl) (by kernel_rfl) (.inl rfl) rfl rfl (by kernel_rfl) (by kernel_rfl) _ (fun _ _ => rfl) _ _ (fun _ _ => rfl) (fun _ _ => rfl) (fun _ _ => by kernel_rfl) (fun _ _ => by kernel_rfl) (fun r_5 x_22 => ?_))
  obtain ⟨A_6, c_7⟩ := x_22
  refine GoO.shape (env' := [(3, .pointer (some ⟨b_1, 0, none⟩)), (4, .pointer (some ⟨b_1, 0, none⟩)), (5, .pointer (some ⟨b_1, 0, none⟩))]) (H' := [⟨40, b_1, [.slice A_6 r_5.b.length c_7]⟩]) (B' := [Ow 41 Kd.u8 A_6 c_7 r_5.b]) (ks := [3, 4, 5]) (by kernel_rfl) (by kernel_rfl) (by kernel_rfl) ?_
  refine OpTo.go (GoO.call rfl (by kernel_rfl) (by kernel_rfl) (pack_Writer_Bytes_ok n r_5 b_1 A_6 c_7) [[0], [40], [41]] [] [(1, 0)] [(2, 0)] (hks := [0]) (bks := [0]) (by kernel_rfl) (by kernel_rfl) (by kernel_rfl) (.inl rfl) rfl rfl (by kernel_rfl) (by kernel_rfl) _ (fun _ _ => rfl) _ _ (fun _ _ => rfl) (fun _ _ => rfl) (fun _ _ => by kernel_rfl) (fun _ _ => by kernel_rfl) (fun r_8 x_21 => ?_))
  refine GoO.shape (env' := [(3, .pointer (some ⟨b_1, 0, none⟩)), (4, .pointer (some ⟨b_1, 0, none⟩)), (5, .pointer (some ⟨b_1, 0, none⟩)), (6, .string (bs r_8))]) (H' := [⟨40, b_1, [.slice A_6 r_5.b.length c_7]⟩]) (B' := [Ow 41 Kd.u8 A_6 c_7 r_5.b]) (ks := [3, 4, 5, 6]) (by kernel_rfl) (by kernel_rfl) (by kernel_rfl) ?_
  refine GoO.exec (is := [4]) (hs := [.p]) (rest := []) (ks := [1]) (env' := [(1, .string (bs r_8))]) (H' := [⟨40, b_1, [.slice A_6 r_5.b.length c_7]⟩]) (ps := []) (by kernel_rfl) trivial ?_
  refine GoO.regionEnd ?_
  refine GoO.seq' c22_4e ?_
  refine GoO.region' (is := [0, 1, 2]) c22_5e (by kernel_rfl) ?_
  refine GoO.exec (is := [0]) (hs := [.p]) (rest := [1, 2]) (ks := [1, 7]) (env' := [(1, .string (bs r_8)), (7, .string (bs r_8))]) (H' := [⟨40, b_1, [.slice A_6 r_5.b.length c_7]⟩]) (ps := []) (by kernel_rfl) trivial ?_
  refine OpTo.go (GoO.call rfl (by kernel_rfl) (by kernel_rfl) (pack_From_ok n r_8) [[0]] [(42, 1)] [] [] (hks := [0]) (bks := [0]) (by kernel_rfl) (by kernel_rfl) (by kernel_rfl) (.inl rfl) rfl rfl (by kernel_rfl) (by kernel_rfl) _ (fun _ _ => rfl) _ _ (fun _ _ => rfl) (fun _ _ => rfl) (fun _ _ => by kernel_rfl) (fun _ _ => by kernel_rfl) (fun r_9 b_10 => ?_))
  refine GoO.shape (env' := [(1, .string (bs r_8)), (7, .string (bs r_8)), (8, .pointer (some ⟨b_10, 0, none⟩))]) (H' := [⟨42, b_10, [.string (bs r_9.s), .bool r_9.bad]⟩, ⟨40, b_1, [.slice A_6 r_5.b.length c_7]⟩]) (B' := [Ow 41 Kd.u8 A_6 c_7 r_5.b]) (ks := [1, 7, 8]) (by kernel_rfl) (by kernel_rfl) (by kernel_rfl) ?_
  refine GoO.exec (is := [2]) (hs := [.p]) (rest := []) (ks := [1, 2]) (env' := [(1, .string (bs r_8)), (2, .pointer (some ⟨b_10, 0, none⟩))]) (H' := [⟨42, b_10, [.string (bs r_9.s), .bool r_9.bad]⟩, ⟨40, b_1, [.slice A_6 r_5.b.length c_7]⟩]) (ps := []) (by kernel_rfl) trivial ?_
  refine GoO.regionEnd ?_
  refine GoO.seq' c22_6e ?_
  refine GoO.region' (is := [0, 1, 2, 3, 4, 5, 6, 7, 8, 9, 10, 11, 12, 13, 14, 15, 16]) c22_7e (by kernel_rfl) ?_
  refine GoO.exec (is := [0, 1, 2]) (hs := [.p, .p, .p]) (rest := [3, 4, 5, 6, 7, 8, 9, 10, 11, 12, 13, 14, 15, 16]) (ks := [2, 11]) (env' := [(2, .pointer (some ⟨b_10, 0, none⟩)), (11, .bool (r_8 == ([2, 1, 44, 1, 2, 97, 98] : List UInt8)))]) (H' := [⟨42, b_10, [.string (bs r_9.s), .bool r_9.bad]⟩, ⟨40, b_1, [.slice A_6 r_5.b.length c_7]⟩]) (ps := []) (by kernel_rfl) trivial ?_
  refine GoO.bsplit (t := 11) (by kernel_rfl) (fun h11 => ?_) (fun h11 => ?_)
  · refine GoO.exec (is := [3]) (hs := [.p]) (rest := [4, 5, 6, 7, 8, 9, 10, 11, 12, 13, 14, 15, 16]) (ks := [2, 11, 12]) (env' := [(2, .pointer (some ⟨b_10, 0, none⟩)), (11, .bool true), (12, .pointer (some ⟨b_10, 0, none⟩))]) (H' := [⟨42, b_10, [.string (bs r_9.s), .bool r_9.bad]⟩, ⟨40, b_1, [.slice A_6 r_5.b.length c_7]⟩]) (ps := []) (by kernel_rfl) trivial ?_
    refine OpTo.go (GoO.call rfl (by kernel_rfl) (by kernel_rfl) (pack_Reader_Num_ok n r_9 b_10) [[0], [42]] [(42, 1)] [(1, 0)] [] (hks := [1]) (bks := [0]) (by kernel_rfl) (by kernel_rfl) (by kernel_rfl) (.inl rfl) rfl rfl (by kernel_rfl) (by kernel_rfl) _ (fun _ _ => rfl) _ _ (fun _ _ => rfl) (fun _ _ => rfl) (fun _ _ => by kernel_rfl) (fun _ _ => by kernel_rfl) (fun r_12 x_19 => ?_))
    refine GoO.shape (env' := [(2, .pointer (some ⟨b_10, 0, none⟩)), (11, .bool true), (12, .pointer (some ⟨b_10, 0, none⟩)), (13, .int .u64 r_12.1)]) (H' := [⟨42, b_10, [.string (bs r_12.2.s), .bool r_12.2.bad]⟩, ⟨40, b_1, [.slice A_6 r_5.b.length c_7]⟩]) (B' := [Ow 41 Kd.u8 A_6 c_7 r_5.b]) (ks := [2, 11, 12, 13]) (by kernel_rfl) (by kernel_rfl) (by kernel_rfl) ?_
    refine GoO.exec (is := [5, 6, 7]) (hs := [.p, .p, .p]) (rest := [8, 9, 10, 11, 12, 13, 14, 15, 16]) (ks := [2, 16]) (env' := [(2, .pointer (some ⟨b_10, 0, none⟩)), (16, .bool (r_12.1 == 300))]) (H' := [⟨42, b_10, [.string (bs r_12.2.s), .bool r_12.2.bad]⟩, ⟨40, b_1, [.slice A_6 r_5.b.length c_7]⟩]) (ps := []) (by kernel_rfl) trivial ?_
    refine GoO.bsplit (t := 16) (by kernel_rfl) (fun h13 => ?_) (fun h13 => ?_)
    · refine GoO.exec (is := [8]) (hs := [.p]) (rest := [9, 10, 11, 12, 13, 14, 15, 16]) (ks := [2, 16, 17]) (env' := [(2, .pointer (some ⟨b_10, 0, none⟩)), (16, .bool true), (17, .pointer (some ⟨b_10, 0, none⟩))]) (H' := [⟨42, b_10, [.string (bs r_12.2.s), .bool r_12.2.bad]⟩, ⟨40, b_1, [.slice A_6 r_5.b.length c_7]⟩]) (ps := []) (by kernel_rfl) trivial ?_
      refine OpTo.go (GoO.call rfl (by kernel_rfl) (by kernel_rfl) (pack_Reader_Text_ok n r_12.2 2 b_10) [[0], [42]] [(42, 1)] [(1, 0)] [] (hks := [1]) (bks := [0]) (by kernel_rfl) (by kernel_rfl) (by kernel_rfl) (.inl rfl) rfl rfl (by kernel_rfl) (by kernel_rfl) _ (fun _ _ => rfl) _ _ (fun _ _ => rfl) (fun _ _ => rfl) (fun _ _ => by kernel_rfl) (fun _ _ => by kernel_rfl) (fun r_14 x_18 => ?_))
      refine GoO.shape (env' := [(2, .pointer (some ⟨b_10, 0, none⟩)), (16, .bool true), (17, .pointer (some ⟨b_10, 0, none⟩)), (18, .string (bs r_14.1))]) (H' := [⟨42, b_10, [.string (bs r_14.2.s), .bool r_14.2.bad]⟩, ⟨40, b_1, [.slice A_6 r_5.b.length c_7]⟩]) (B' := [Ow 41 Kd.u8 A_6 c_7 r_5.b]) (ks := [2, 16, 17, 18]) (by kernel_rfl) (by kernel_rfl) (by kernel_rfl) ?_
      refine GoO.exec (is := [10, 11, 12]) (hs := [.p, .p, .p]) (rest := [13, 14, 15, 16]) (ks := [2, 21]) (env' := [(2, .pointer (some ⟨b_10, 0, none⟩)), (21, .bool (r_14.1 == ([97, 98] : List UInt8)))]) (H' := [⟨42, b_10, [.string (bs r_14.2.s), .bool r_14.2.bad]⟩, ⟨40, b_1, [.slice A_6 r_5.b.length c_7]⟩]) (ps := []) (by kernel_rfl) trivial ?_
      refine GoO.bsplit (t := 21) (by kernel_rfl) (fun h15 => ?_) (fun h15 => ?_)
      · refine GoO.exec (is := [13]) (hs := [.p]) (rest := [14, 15, 16]) (ks := [21, 22]) (env' := [(21, .bool true), (22, .pointer (some ⟨b_10, 0, none⟩))]) (H' := [⟨42, b_10, [.string (bs r_14.2.s), .bool r_14.2.bad]⟩, ⟨40, b_1, [.slice A_6 r_5.b.length c_7]⟩]) (ps := []) (by kernel_rfl) trivial ?_
        refine OpTo.go (GoO.call rfl (by kernel_rfl) (by kernel_rfl) (pack_Reader_Done_ok n r_14.2 b_10) [[0], [42]] [] [(1, 0)] [] (hks := [0, 1]) (bks := [0]) (by kernel_rfl) (by kernel_rfl) (by kernel_rfl) (.inl rfl) rfl rfl (by kernel_rfl) (by kernel_rfl) _ (fun _ _ => rfl) _ _ (fun _ _ => rfl) (fun _ _ => rfl) (fun _ _ => by kernel_rfl) (fun _ _ => by kernel_rfl) (fun r_16 x_17 => ?_))
        refine GoO.shape (env' := [(21, .bool true), (22, .pointer (some ⟨b_10, 0, none⟩)), (23, .bool r_16)]) (H' := [⟨42, b_10, [.string (bs r_14.2.s), .bool r_14.2.bad]⟩, ⟨40, b_1, [.slice A_6 r_5.b.length c_7]⟩]) (B' := [Ow 41 Kd.u8 A_6 c_7 r_5.b]) (ks := [21, 22, 23]) (by kernel_rfl) (by kernel_rfl) (by kernel_rfl) ?_
        refine GoO.exec (is := [15, 16]) (hs := [.p, .p]) (rest := []) (ks := [0]) (env' := [(0, .bool r_16)]) (H' := [⟨42, b_10, [.string (bs r_14.2.s), .bool r_14.2.bad]⟩, ⟨40, b_1, [.slice A_6 r_5.b.length c_7]⟩]) (ps := []) (by kernel_rfl) trivial ?_
        refine GoO.regionEnd ?_
        exact GoO.ret' (h := c22_8e) (hs := []) (ps := []) (hk := []) (bk := []) Try.func22 () (by kernel_rfl) trivial (by kernel_rfl) (by kernel_rfl)
      · refine GoO.exec (is := [13, 14, 15, 16]) (hs := [.p, .p, .p, .p]) (rest := []) (ks := [0]) (env' := [(0, .bool false)]) (H' := [⟨42, b_10, [.string (bs r_14.2.s), .bool r_14.2.bad]⟩, ⟨40, b_1, [.slice A_6 r_5.b.length c_7]⟩]) (ps := []) (by kernel_rfl) trivial ?_
        refine GoO.regionEnd ?_
        exact GoO.ret' (h := c22_8e) (hs := []) (ps := []) (hk := []) (bk := []) Try.func22 () (by kernel_rfl) trivial (by kernel_rfl) (by kernel_rfl)
    · refine GoO.exec (is := [8, 9, 10, 11, 12, 13, 14, 15, 16]) (hs := [.p, .p, .p, .p, .p, .p, .p, .p, .p]) (rest := []) (ks := [0]) (env' := [(0, .bool false)]) (H' := [⟨42, b_10, [.string (bs r_12.2.s), .bool r_12.2.bad]⟩, ⟨40, b_1, [.slice A_6 r_5.b.length c_7]⟩]) (ps := []) (by kernel_rfl) trivial ?_
      refine GoO.regionEnd ?_
      exact GoO.ret' (h := c22_8e) (hs := []) (ps := []) (hk := []) (bk := []) Try.func22 () (by kernel_rfl) trivial (by kernel_rfl) (by kernel_rfl)
  · refine GoO.exec (is := [3, 4, 5, 6, 7, 8, 9, 10, 11, 12, 13, 14, 15, 16]) (hs := [.p, .p, .p, .p, .p, .p, .p, .p, .p, .p, .p, .p, .p, .p]) (rest := []) (ks := [0]) (env' := [(0, .bool false)]) (H' := [⟨42, b_10, [.string (bs r_9.s), .bool r_9.bad]⟩, ⟨40, b_1, [.slice A_6 r_5.b.length c_7]⟩]) (ps := []) (by kernel_rfl) trivial ?_
    refine GoO.regionEnd ?_
    exact GoO.ret' (h := c22_8e) (hs := []) (ps := []) (hk := []) (bk := []) Try.func22 () (by kernel_rfl) trivial (by kernel_rfl) (by kernel_rfl)

/-! (*tontine/pack.Writer).Int -/
noncomputable def c36_0 : Code := bodyOf Try.f36
noncomputable def c36_1 : Code := cdL c36_0
noncomputable def c36_2 : Code := cdR c36_0
noncomputable def c36_3 : Code := cdL c36_2
noncomputable def c36_4 : Code := cdR c36_2
noncomputable def r36_1 : Array Oper := cdO c36_1
noncomputable def r36_3 : Array Oper := cdO c36_3
theorem c36_0e : c36_0 = .seq c36_1 c36_2 := by kernel_rfl
theorem c36_1e : c36_1 = .region 0 r36_1 false := by kernel_rfl
theorem c36_2e : c36_2 = .seq c36_3 c36_4 := by kernel_rfl
theorem c36_3e : c36_3 = .region 1 r36_3 false := by kernel_rfl
theorem c36_4e : c36_4 = .ret := by kernel_rfl
noncomputable def pack_Writer_Int.R (b_2 : Nat) (A_3 : Option Addr) (c_4 : Nat) : Pst T_pack_Writer where
  ε := Option Addr × Nat
  v := fun r x => .pointer (some ⟨b_2, 0, none⟩)
  H := fun r x => [⟨1, b_2, [.slice x.1 r.b.length x.2]⟩]
  B := fun r x => [Ow 2 Kd.u8 x.1 x.2 r.b]
noncomputable def pack_Writer_Int.cx (b_2 : Nat) (A_3 : Option Addr) (c_4 : Nat) (w0 : World) (S0 : Fam) : Cx T_pack_Writer := ⟨Try.prog, 36, Try.f36, 14, w0, S0, [1, 2], 2, pack_Writer_Int.R b_2 A_3 c_4⟩
theorem pack_Writer_Int_ok (n : Nat) (w_1 : T_pack_Writer) (x_5 : Int) (b_2 : Nat) (A_3 : Option Addr) (c_4 : Nat) :
    Meets Try.prog 36 [.pointer (some ⟨b_2, 0, none⟩), .int .i64 x_5] 2 [1, 2] [⟨1, b_2, [.slice A_3 w_1.b.length c_4]⟩] [Ow 2 Kd.u8 A_3 c_4 w_1.b] (pack_Writer_Int.f n w_1 x_5) (pack_Writer_Int.R b_2 A_3 c_4) := by
  refine Meets.of (c := c36_0) (n := 14) Try.func36 (by kernel_rfl) (by kernel_rfl) (by kernel_rfl) fun w0 S0 => ?_
  unfold pack_Writer_Int.f
  show GoO (pack_Writer_Int.cx b_2 A_3 c_4 w0 S0) [(0, .pointer (some ⟨b_2, 0, none⟩)), (1, .int .i64 x_5)] [⟨1, b_2, [.slice A_3 w_1.b.length c_4]⟩] [Ow 2 Kd.u8 A_3 c_4 w_1.b] [.code c36_0] _
  refine GoO.seq' c36_0e ?_
  refine GoO.region' (is := [0]) c36_1e (by kernel_rfl) ?_
  refine GoO.exec (is := [0]) (hs := [.p]) (rest := []) (ks := [0, 1]) (env' := [(0, .pointer (some ⟨b_2, 0, none⟩)), (1, .int .i64 x_5)]) (H' := [⟨1, b_2, [.slice A_3 w_1.b.length c_4]⟩]) (ps := []) (by kernel_rfl) trivial ?_
  refine GoO.regionEnd ?_
  refine GoO.seq' c36_2e ?_
  refine GoO.region' (is := [0, 1, 2, 3, 4, 5, 6, 7, 8, 9]) c36_3e (by kernel_rfl) ?_
  refine GoO.exec (is := [0, 1, 2, 3, 4, 5, 6, 7]) (hs := [.p, .p, .p, .p, .p, .p, .p, .p]) (rest := [8, 9]) (ks := [5, 12]) (env' := [(5, .pointer (some ⟨b_2, 0, none⟩)), (12, .int .u64 (bXor .u64 (shL .u64 (wu64 x_5) 1) (wu64 (shR .i64 x_5 63))))]) (H' := [⟨1, b_2, [.slice A_3 w_1.b.length c_4]⟩]) (ps := [(0 : Int) ≤ 1, (0 : Int) ≤ 63]) (by kernel_rfl) (And.intro (by decide) (And.intro (by decide) trivial)) ?_
  refine OpTo.go (GoO.call rfl (by kernel_rfl) (by kernel_rfl) (pack_Writer_Num_ok n w_1 (bXor .u64 (shL .u64 (wu64 x_5) 1) (wu64 (shR .i64 x_5 63))) b_2 A_3 c_4) [[0], [1], [2]] [(1, 1), (2, 2)] [(1, 0)] [(2, 0)] (hks := []) (bks := []) (by kernel_rfl) (by kernel_rfl) (by kernel_rfl) (.inl rfl) rfl rfl (by kernel_rfl) (by kernel_rfl) _ (fun _ _ => rfl) _ _ (fun _ _ => rfl) (fun _ _ => rfl) (fun _ _ => by kernel_rfl) (fun _ _ => by kernel_rfl) (fun r_6 x_9 => ?_))
  obtain ⟨A_7, c_8⟩ := x_9
  refine GoO.shape (env' := [(5, .pointer (some ⟨b_2, 0, none⟩)), (12, .int .u64 (bXor .u64 (shL .u64 (wu64 x_5) 1) (wu64 (shR .i64 x_5 63)))), (13, .pointer (some ⟨b_2, 0, none⟩))]) (H' := [⟨1, b_2, [.slice A_7 r_6.b.length c_8]⟩]) (B' := [Ow 2 Kd.u8 A_7 c_8 r_6.b]) (ks := [5, 12, 13]) (by kernel_rfl) (by kernel_rfl) (by kernel_rfl) ?_
  refine GoO.exec (is := [9]) (hs := [.p]) (rest := []) (ks := [4]) (env' := [(4, .pointer (some ⟨b_2, 0, none⟩))]) (H' := [⟨1, b_2, [.slice A_7 r_6.b.length c_8]⟩]) (ps := []) (by kernel_rfl) trivial ?_
  refine GoO.regionEnd ?_
  exact GoO.ret' (h := c36_4e) (hs := []) (ps := []) (hk := [0]) (bk := [0]) Try.func36 (⟨A_7, c_8⟩ : Option Addr × Nat) (by kernel_rfl) trivial (by kernel_rfl) (by kernel_rfl)

/-! (*tontine/pack.Writer).Bool -/
noncomputable def c38_0 : Code := bodyOf Try.f38
noncomputable def c38_1 : Code := cdL c38_0
noncomputable def c38_2 : Code := cdR c38_0
noncomputable def c38_3 : Code := cdL c38_2
noncomputable def c38_4 : Code := cdL c38_3
noncomputable def c38_5 : Code := cdR c38_3
noncomputable def c38_6 : Code := cdL c38_5
noncomputable def c38_7 : Code := cdL c38_6
noncomputable def c38_8 : Code := cdR c38_6
noncomputable def c38_9 : Code := cdR c38_5
noncomputable def c38_10 : Code := cdR c38_2
noncomputable def c38_11 : Code := cdL c38_10
noncomputable def c38_12 : Code := cdR c38_10
noncomputable def r38_1 : Array Oper := cdO c38_1
noncomputable def r38_4 : Array Oper := cdO c38_4
noncomputable def r38_7 : Array Oper := cdO c38_7
noncomputable def r38_11 : Array Oper := cdO c38_11
theorem c38_0e : c38_0 = .seq c38_1 c38_2 := by kernel_rfl
theorem c38_1e : c38_1 = .region 0 r38_1 false := by kernel_rfl
theorem c38_2e : c38_2 = .seq c38_3 c38_10 := by kernel_rfl
theorem c38_3e : c38_3 = .seq c38_4 c38_5 := by kernel_rfl
theorem c38_4e : c38_4 = .region 1 r38_4 false := by kernel_rfl
theorem c38_5e : c38_5 = .cond (cdC c38_5) c38_6 c38_9 := by kernel_rfl
theorem c38_6e : c38_6 = .seq c38_7 c38_8 := by kernel_rfl
theorem c38_7e : c38_7 = .region 2 r38_7 false := by kernel_rfl
theorem c38_8e : c38_8 = .ret := by kernel_rfl
theorem c38_9e : c38_9 = .skip := by kernel_rfl
theorem c38_10e : c38_10 = .seq c38_11 c38_12 := by kernel_rfl
theorem c38_11e : c38_11 = .region 3 r38_11 false := by kernel_rfl
theorem c38_12e : c38_12 = .ret := by kernel_rfl
noncomputable def pack_Writer_Bool.R (b_2 : Nat) (A_3 : Option Addr) (c_4 : Nat) : Pst T_pack_Writer where
  ε := Option Addr × Nat
  v := fun r x => .pointer (some ⟨b_2, 0, none⟩)
  H := fun r x => [⟨1, b_2, [.slice x.1 r.b.length x.2]⟩]
  B := fun r x => [Ow 2 Kd.u8 x.1 x.2 r.b]
noncomputable def pack_Writer_Bool.cx (b_2 : Nat) (A_3 : Option Addr) (c_4 : Nat) (w0 : World) (S0 : Fam) : Cx T_pack_Writer := ⟨Try.prog, 38, Try.f38, 10, w0, S0, [1, 2], 2, pack_Writer_Bool.R b_2 A_3 c_4⟩
theorem pack_Writer_Bool_ok (n : Nat) (w_1 : T_pack_Writer) (x_5 : Bool) (b_2 : Nat) (A_3 : Option Addr) (c_4 : Nat) :
    Meets Try.prog 38 [.pointer (some ⟨b_2, 0, none⟩), .bool x_5] 2 [1, 2] [⟨1, b_2, [.slice A_3 w_1.b.length c_4]⟩] [Ow 2 Kd.u8 A_3 c_4 w_1.b] (pack_Writer_Bool.f n w_1 x_5) (pack_Writer_Bool.R b_2 A_3 c_4) := by
  refine Meets.of (c := c38_0) (n := 10) Try.func38 (by kernel_rfl) (by kernel_rfl) (by kernel_rfl) fun w0 S0 => ?_
  unfold pack_Writer_Bool.f
  show GoO (pack_Writer_Bool.cx b_2 A_3 c_4 w0 S0) [(0, .pointer (some ⟨b_2, 0, none⟩)), (1, .bool x_5)] [⟨1, b_2, [.slice A_3 w_1.b.length c_4]⟩] [Ow 2 Kd.u8 A_3 c_4 w_1.b] [.code c38_0] _
  refine GoO.seq' c38_0e ?_
  refine GoO.region' (is := [0]) c38_1e (by kernel_rfl) ?_
  refine GoO.exec (is := [0]) (hs := [.p]) (rest := []) (ks := [0, 1]) (env' := [(0, .pointer (some ⟨b_2, 0, none⟩)), (1, .bool x_5)]) (H' := [⟨1, b_2, [.slice A_3 w_1.b.length c_4]⟩]) (ps := []) (by kernel_rfl) trivial ?_
  refine GoO.regionEnd ?_
  refine GoO.seq' c38_2e ?_
  refine GoO.seq' c38_3e ?_
  refine GoO.region' (is := [0]) c38_4e (by kernel_rfl) ?_
  refine GoO.exec (is := [0]) (hs := [.p]) (rest := []) (ks := [0, 5]) (env' := [(0, .pointer (some ⟨b_2, 0, none⟩)), (5, .bool x_5)]) (H' := [⟨1, b_2, [.slice A_3 w_1.b.length c_4]⟩]) (ps := []) (by kernel_rfl) trivial ?_
  refine GoO.regionEnd ?_
  refine GoO.ite' c38_5e (by kernel_rfl) (fun h6 => ?_) (fun h6 => ?_)
  · refine GoO.seq' c38_6e ?_
    refine GoO.region' (is := [0, 1, 2]) c38_7e (by kernel_rfl) ?_
    refine GoO.exec (is := [0]) (hs := [.p]) (rest := [1, 2]) (ks := [6]) (env' := [(6, .pointer (some ⟨b_2, 0, none⟩))]) (H' := [⟨1, b_2, [.slice A_3 w_1.b.length c_4]⟩]) (ps := []) (by kernel_rfl) trivial ?_
    refine OpTo.go (GoO.call rfl (by kernel_rfl) (by kernel_rfl) (pack_Writer_Num_ok n w_1 1 b_2 A_3 c_4) [[0], [1], [2]] [(1, 1), (2, 2)] [(1, 0)] [(2, 0)] (hks := []) (bks := []) (by kernel_rfl) (by kernel_rfl) (by kernel_rfl) (.inl rfl) rfl rfl (by kernel_rfl) (by kernel_rfl) _ (fun _ _ => rfl) _ _ (fun _ _ => rfl) (fun _ _ => rfl) (fun _ _ => by kernel_rfl) (fun _ _ => by kernel_rfl) (fun r_7 x_10 => ?_))
    obtain ⟨A_8, c_9⟩ := x_10
    refine GoO.shape (env' := [(6, .pointer (some ⟨b_2, 0, none⟩)), (7, .pointer (some ⟨b_2, 0, none⟩))]) (H' := [⟨1, b_2, [.slice A_8 r_7.b.length c_9]⟩]) (B' := [Ow 2 Kd.u8 A_8 c_9 r_7.b]) (ks := [6, 7]) (by kernel_rfl) (by kernel_rfl) (by kernel_rfl) ?_
    refine GoO.exec (is := [2]) (hs := [.p]) (rest := []) (ks := [4]) (env' := [(4, .pointer (some ⟨b_2, 0, none⟩))]) (H' := [⟨1, b_2, [.slice A_8 r_7.b.length c_9]⟩]) (ps := []) (by kernel_rfl) trivial ?_
    refine GoO.regionEnd ?_
    exact GoO.ret' (h := c38_8e) (hs := []) (ps := []) (hk := [0]) (bk := [0]) Try.func38 (⟨A_8, c_9⟩ : Option Addr × Nat) (by kernel_rfl) trivial (by kernel_rfl) (by kernel_rfl)
  · refine GoO.skip' c38_9e ?_
    refine GoO.seq' c38_10e ?_
    refine GoO.region' (is := [0, 1, 2]) c38_11e (by kernel_rfl) ?_
    refine GoO.exec (is := [0]) (hs := [.p]) (rest := [1, 2]) (ks := [8]) (env' := [(8, .pointer (some ⟨b_2, 0, none⟩))]) (H' := [⟨1, b_2, [.slice A_3 w_1.b.length c_4]⟩]) (ps := []) (by kernel_rfl) trivial ?_
    refine OpTo.go (GoO.call rfl (by kernel_rfl) (by kernel_rfl) (pack_Writer_Num_ok n w_1 0 b_2 A_3 c_4) [[0], [1], [2]] [(1, 1), (2, 2)] [(1, 0)] [(2, 0)] (hks := []) (bks := []) (by kernel_rfl) (by kernel_rfl) (by kernel_rfl) (.inl rfl) rfl rfl (by kernel_rfl) (by kernel_rfl) _ (fun _ _ => rfl) _ _ (fun _ _ => rfl) (fun _ _ => rfl) (fun _ _ => by kernel_rfl) (fun _ _ => by kernel_rfl) (fun r_11 x_14 => ?_))
    obtain ⟨A_12, c_13⟩ := x_14
    refine GoO.shape (env' := [(8, .pointer (some ⟨b_2, 0, none⟩)), (9, .pointer (some ⟨b_2, 0, none⟩))]) (H' := [⟨1, b_2, [.slice A_12 r_11.b.length c_13]⟩]) (B' := [Ow 2 Kd.u8 A_12 c_13 r_11.b]) (ks := [8, 9]) (by kernel_rfl) (by kernel_rfl) (by kernel_rfl) ?_
    refine GoO.exec (is := [2]) (hs := [.p]) (rest := []) (ks := [4]) (env' := [(4, .pointer (some ⟨b_2, 0, none⟩))]) (H' := [⟨1, b_2, [.slice A_12 r_11.b.length c_13]⟩]) (ps := []) (by kernel_rfl) trivial ?_
    refine GoO.regionEnd ?_
    exact GoO.ret' (h := c38_12e) (hs := []) (ps := []) (hk := [0]) (bk := [0]) Try.func38 (⟨A_12, c_13⟩ : Option Addr × Nat) (by kernel_rfl) trivial (by kernel_rfl) (by kernel_rfl)

/-! (*tontine/pack.Reader).Int -/
noncomputable def c31_0 : Code := bodyOf Try.f31
noncomputable def c31_1 : Code := cdL c31_0
noncomputable def c31_2 : Code := cdR c31_0
noncomputable def c31_3 : Code := cdL c31_2
noncomputable def c31_4 : Code := cdR c31_2
noncomputable def c31_5 : Code := cdL c31_4
noncomputable def c31_6 : Code := cdR c31_4
noncomputable def r31_1 : Array Oper := cdO c31_1
noncomputable def r31_3 : Array Oper := cdO c31_3
noncomputable def r31_5 : Array Oper := cdO c31_5
theorem c31_0e : c31_0 = .seq c31_1 c31_2 := by kernel_rfl
theorem c31_1e : c31_1 = .region 0 r31_1 false := by kernel_rfl
theorem c31_2e : c31_2 = .seq c31_3 c31_4 := by kernel_rfl
theorem c31_3e : c31_3 = .region 1 r31_3 false := by kernel_rfl
theorem c31_4e : c31_4 = .seq c31_5 c31_6 := by kernel_rfl
theorem c31_5e : c31_5 = .region 2 r31_5 false := by kernel_rfl
theorem c31_6e : c31_6 = .ret := by kernel_rfl
noncomputable def pack_Reader_Int.R (b_2 : Nat) : Pst (Int × T_pack_Reader) where
  ε := Unit
  v := fun r x => .int .i64 r.1
  H := fun r x => [⟨1, b_2, [.string (bs r.2.s), .bool r.2.bad]⟩]
  B := fun r x => []
noncomputable def pack_Reader_Int.cx (b_2 : Nat) (w0 : World) (S0 : Fam) : Cx (Int × T_pack_Reader) := ⟨Try.prog, 31, Try.f31, 14, w0, S0, [1], 1, pack_Reader_Int.R b_2⟩
theorem pack_Reader_Int_ok (n : Nat) (r_1 : T_pack_Reader) (b_2 : Nat) :
    Meets Try.prog 31 [.pointer (some ⟨b_2, 0, none⟩)] 1 [1] [⟨1, b_2, [.string (bs r_1.s), .bool r_1.bad]⟩] [] (pack_Reader_Int.f n r_1) (pack_Reader_Int.R b_2) := by
  refine Meets.of (c := c31_0) (n := 14) Try.func31 (by kernel_rfl) (by kernel_rfl) (by kernel_rfl) fun w0 S0 => ?_
  unfold pack_Reader_Int.f
  show GoO (pack_Reader_Int.cx b_2 w0 S0) [(0, .pointer (some ⟨b_2, 0, none⟩))] [⟨1, b_2, [.string (bs r_1.s), .bool r_1.bad]⟩] [] [.code c31_0] _
  refine GoO.seq' c31_0e ?_
  refine GoO.region' (is := [0]) c31_1e (by kernel_rfl) ?_
  refine GoO.exec (is := [0]) (hs := [.p]) (rest := []) (ks := [0]) (env' := [(0, .pointer (some ⟨b_2, 0, none⟩))]) (H' := [⟨1, b_2, [.string (bs r_1.s), .bool r_1.bad]⟩]) (ps := []) (by kernel_rfl) trivial ?_
  refine GoO.regionEnd ?_
  refine GoO.seq' c31_2e ?_
  refine GoO.region' (is := [0, 1, 2]) c31_3e (by kernel_rfl) ?_
  refine GoO.exec (is := [0]) (hs := [.p]) (rest := [1, 2]) (ks := [4]) (env' := [(4, .pointer (some ⟨b_2, 0, none⟩))]) (H' := [⟨1, b_2, [.string (bs r_1.s), .bool r_1.bad]⟩]) (ps := []) (by kernel_rfl) trivial ?_
  refine OpTo.go (GoO.call rfl (by kernel_rfl) (by kernel_rfl) (pack_Reader_Num_ok n r_1 b_2) [[0], [1]] [(1, 1)] [(1, 0)] [] (hks := []) (bks := []) (by kernel_rfl) (by kernel_rfl) (by kernel_rfl) (.inl rfl) rfl rfl (by kernel_rfl) (by kernel_rfl) _ (fun _ _ => rfl) _ _ (fun _ _ => rfl) (fun _ _ => rfl) (fun _ _ => by kernel_rfl) (fun _ _ => by kernel_rfl) (fun r_3 x_4 => ?_))
  refine GoO.shape (env' := [(4, .pointer (some ⟨b_2, 0, none⟩)), (5, .int .u64 r_3.1)]) (H' := [⟨1, b_2, [.string (bs r_3.2.s), .bool r_3.2.bad]⟩]) (B' := []) (ks := [4, 5]) (by kernel_rfl) (by kernel_rfl) (by kernel_rfl) ?_
  refine GoO.exec (is := [2]) (hs := [.p]) (rest := []) (ks := [3]) (env' := [(3, .int .u64 r_3.1)]) (H' := [⟨1, b_2, [.string (bs r_3.2.s), .bool r_3.2.bad]⟩]) (ps := []) (by kernel_rfl) trivial ?_
  refine GoO.regionEnd ?_
  refine GoO.seq' c31_4e ?_
  refine GoO.region' (is := [0, 1, 2, 3, 4, 5, 6, 7, 8]) c31_5e (by kernel_rfl) ?_
  refine GoO.exec (is := [0, 1, 2, 3, 4, 5, 6, 7, 8]) (hs := [.p, .p, .p, .p, .p, .p, .p, .p, .p]) (rest := []) (ks := [2]) (env' := [(2, .int .i64 (bXor .i64 (wi64 (shR .u64 r_3.1 1)) (wi64 (0 - (wi64 (bAnd .u64 r_3.1 1))))))]) (H' := [⟨1, b_2, [.string (bs r_3.2.s), .bool r_3.2.bad]⟩]) (ps := [(0 : Int) ≤ 1]) (by kernel_rfl) (And.intro (by decide) trivial) ?_
  refine GoO.regionEnd ?_
  exact GoO.ret' (h := c31_6e) (hs := []) (ps := []) (hk := [0]) (bk := []) Try.func31 () (by kernel_rfl) trivial (by kernel_rfl) (by kernel_rfl)

/-! (*tontine/pack.Reader).Bool -/
noncomputable def c33_0 : Code := bodyOf Try.f33
noncomputable def c33_1 : Code := cdL c33_0
noncomputable def c33_2 : Code := cdR c33_0
noncomputable def c33_3 : Code := cdL c33_2
noncomputable def c33_4 : Code := cdR c33_2
noncomputable def r33_1 : Array Oper := cdO c33_1
noncomputable def r33_3 : Array Oper := cdO c33_3
theorem c33_0e : c33_0 = .seq c33_1 c33_2 := by kernel_rfl
theorem c33_1e : c33_1 = .region 0 r33_1 false := by kernel_rfl
theorem c33_2e : c33_2 = .seq c33_3 c33_4 := by kernel_rfl
theorem c33_3e : c33_3 = .region 1 r33_3 false := by kernel_rfl
theorem c33_4e : c33_4 = .ret := by kernel_rfl
noncomputable def pack_Reader_Bool.R (b_2 : Nat) : Pst (Bool × T_pack_Reader) where
  ε := Unit
  v := fun r x => .bool r.1
  H := fun r x => [⟨1, b_2, [.string (bs r.2.s), .bool r.2.bad]⟩]
  B := fun r x => []
noncomputable def pack_Reader_Bool.cx (b_2 : Nat) (w0 : World) (S0 : Fam) : Cx (Bool × T_pack_Reader) := ⟨Try.prog, 33, Try.f33, 6, w0, S0, [1], 1, pack_Reader_Bool.R b_2⟩
theorem pack_Reader_Bool_ok (n : Nat) (r_1 : T_pack_Reader) (b_2 : Nat) :
    Meets Try.prog 33 [.pointer (some ⟨b_2, 0, none⟩)] 1 [1] [⟨1, b_2, [.string (bs r_1.s), .bool r_1.bad]⟩] [] (pack_Reader_Bool.f n r_1) (pack_Reader_Bool.R b_2) := by
  refine Meets.of (c := c33_0) (n := 6) Try.func33 (by kernel_rfl) (by kernel_rfl) (by kernel_rfl) fun w0 S0 => ?_
  unfold pack_Reader_Bool.f
  show GoO (pack_Reader_Bool.cx b_2 w0 S0) [(0, .pointer (some ⟨b_2, 0, none⟩))] [⟨1, b_2, [.string (bs r_1.s), .bool r_1.bad]⟩] [] [.code c33_0] _
  refine GoO.seq' c33_0e ?_
  refine GoO.region' (is := [0]) c33_1e (by kernel_rfl) ?_
  refine GoO.exec (is := [0]) (hs := [.p]) (rest := []) (ks := [0]) (env' := [(0, .pointer (some ⟨b_2, 0, none⟩))]) (H' := [⟨1, b_2, [.string (bs r_1.s), .bool r_1.bad]⟩]) (ps := []) (by kernel_rfl) trivial ?_
  refine GoO.regionEnd ?_
  refine GoO.seq' c33_2e ?_
  refine GoO.region' (is := [0, 1, 2, 3]) c33_3e (by kernel_rfl) ?_
  refine GoO.exec (is := [0]) (hs := [.p]) (rest := [1, 2, 3]) (ks := [3]) (env' := [(3, .pointer (some ⟨b_2, 0, none⟩))]) (H' := [⟨1, b_2, [.string (bs r_1.s), .bool r_1.bad]⟩]) (ps := []) (by kernel_rfl) trivial ?_
  refine OpTo.go (GoO.call rfl (by kernel_rfl) (by kernel_rfl) (pack_Reader_Up_ok n r_1 1 b_2) [[0], [1]] [(1, 1)] [(1, 0)] [] (hks := []) (bks := []) (by kernel_rfl) (by kernel_rfl) (by kernel_rfl) (.inl rfl) rfl rfl (by kernel_rfl) (by kernel_rfl) _ (fun _ _ => rfl) _ _ (fun _ _ => rfl) (fun _ _ => rfl) (fun _ _ => by kernel_rfl) (fun _ _ => by kernel_rfl) (fun r_3 x_4 => ?_))
  refine GoO.shape (env' := [(3, .pointer (some ⟨b_2, 0, none⟩)), (4, .int .i64 r_3.1)]) (H' := [⟨1, b_2, [.string (bs r_3.2.s), .bool r_3.2.bad]⟩]) (B' := []) (ks := [3, 4]) (by kernel_rfl) (by kernel_rfl) (by kernel_rfl) ?_
  refine GoO.exec (is := [2, 3]) (hs := [.p, .p]) (rest := []) (ks := [2]) (env' := [(2, .bool (r_3.1 == 1))]) (H' := [⟨1, b_2, [.string (bs r_3.2.s), .bool r_3.2.bad]⟩]) (ps := []) (by kernel_rfl) trivial ?_
  refine GoO.regionEnd ?_
  exact GoO.ret' (h := c33_4e) (hs := []) (ps := []) (hk := [0]) (bk := []) Try.func33 () (by kernel_rfl) trivial (by kernel_rfl) (by kernel_rfl)

/-! tontine/tontinelaw03.PackBack -/
noncomputable def c10_0 : Code := bodyOf Try.f10
noncomputable def c10_1 : Code := cdL c10_0
noncomputable def c10_2 : Code := cdR c10_0
noncomputable def c10_3 : Code := cdL c10_2
noncomputable def c10_4 : Code := cdL c10_3
noncomputable def c10_5 : Code := cdR c10_3
noncomputable def c10_6 : Code := cdL c10_5
noncomputable def c10_7 : Code := cdL c10_6
noncomputable def c10_8 : Code := cdR c10_6
noncomputable def c10_9 : Code := cdR c10_5
noncomputable def c10_10 : Code := cdR c10_2
noncomputable def c10_11 : Code := cdL c10_10
noncomputable def c10_12 : Code := cdR c10_10
noncomputable def c10_13 : Code := cdL c10_12
noncomputable def c10_14 : Code := cdR c10_12
noncomputable def c10_15 : Code := cdL c10_14
noncomputable def c10_16 : Code := cdL c10_15
noncomputable def c10_17 : Code := cdR c10_15
noncomputable def c10_18 : Code := cdL c10_17
noncomputable def c10_19 : Code := cdL c10_18
noncomputable def c10_20 : Code := cdL c10_19
noncomputable def c10_21 : Code := cdR c10_19
noncomputable def c10_22 : Code := cdL c10_21
noncomputable def c10_23 : Code := cdL c10_22
noncomputable def c10_24 : Code := cdR c10_22
noncomputable def c10_25 : Code := cdR c10_21
noncomputable def c10_26 : Code := cdL c10_25
noncomputable def c10_27 : Code := cdL c10_26
noncomputable def c10_28 : Code := cdL c10_27
noncomputable def c10_29 : Code := cdR c10_27
noncomputable def c10_30 : Code := cdL c10_29
noncomputable def c10_31 : Code := cdL c10_30
noncomputable def c10_32 : Code := cdR c10_30
noncomputable def c10_33 : Code := cdL c10_32
noncomputable def c10_34 : Code := cdR c10_32
noncomputable def c10_35 : Code := cdL c10_34
noncomputable def c10_36 : Code := cdL c10_35
noncomputable def c10_37 : Code := cdR c10_35
noncomputable def c10_38 : Code := cdR c10_34
noncomputable def c10_39 : Code := cdR c10_29
noncomputable def c10_40 : Code := cdR c10_25
noncomputable def c10_41 : Code := cdR c10_14
noncomputable def c10_42 : Code := cdL c10_41
noncomputable def c10_43 : Code := cdR c10_41
noncomputable def c10_44 : Code := cdL c10_43
noncomputable def c10_45 : Code := cdL c10_44
noncomputable def c10_46 : Code := cdR c10_44
noncomputable def c10_47 : Code := cdL c10_46
noncomputable def c10_48 : Code := cdL c10_47
noncomputable def c10_49 : Code := cdL c10_48
noncomputable def c10_50 : Code := cdR c10_48
noncomputable def c10_51 : Code := cdL c10_50
noncomputable def c10_52 : Code := cdL c10_51
noncomputable def c10_53 : Code := cdR c10_51
noncomputable def c10_54 : Code := cdR c10_50
noncomputable def c10_55 : Code := cdL c10_54
noncomputable def c10_56 : Code := cdL c10_55
noncomputable def c10_57 : Code := cdL c10_56
noncomputable def c10_58 : Code := cdR c10_56
noncomputable def c10_59 : Code := cdL c10_58
noncomputable def c10_60 : Code := cdR c10_58
noncomputable def c10_61 : Code := cdL c10_60
noncomputable def c10_62 : Code := cdL c10_61
noncomputable def c10_63 : Code := cdR c10_61
noncomputable def c10_64 : Code := cdR c10_60
noncomputable def c10_65 : Code := cdR c10_54
noncomputable def c10_66 : Code := cdR c10_43
noncomputable def c10_67 : Code := cdL c10_66
noncomputable def c10_68 : Code := cdR c10_66
noncomputable def r10_1 : Array Oper := cdO c10_1
noncomputable def r10_4 : Array Oper := cdO c10_4
noncomputable def r10_7 : Array Oper := cdO c10_7
noncomputable def r10_11 : Array Oper := cdO c10_11
noncomputable def r10_13 : Array Oper := cdO c10_13
noncomputable def r10_16 : Array Oper := cdO c10_16
noncomputable def r10_20 : Array Oper := cdO c10_20
noncomputable def r10_28 : Array Oper := cdO c10_28
noncomputable def r10_31 : Array Oper := cdO c10_31
noncomputable def r10_33 : Array Oper := cdO c10_33
noncomputable def r10_36 : Array Oper := cdO c10_36
noncomputable def r10_39 : Array Oper := cdO c10_39
noncomputable def r10_40 : Array Oper := cdO c10_40
noncomputable def r10_42 : Array Oper := cdO c10_42
noncomputable def r10_45 : Array Oper := cdO c10_45
noncomputable def r10_49 : Array Oper := cdO c10_49
noncomputable def r10_57 : Array Oper := cdO c10_57
noncomputable def r10_59 : Array Oper := cdO c10_59
noncomputable def r10_62 : Array Oper := cdO c10_62
noncomputable def r10_65 : Array Oper := cdO c10_65
noncomputable def r10_67 : Array Oper := cdO c10_67
theorem c10_0e : c10_0 = .seq c10_1 c10_2 := by kernel_rfl
theorem c10_1e : c10_1 = .region 0 r10_1 false := by kernel_rfl
theorem c10_2e : c10_2 = .seq c10_3 c10_10 := by kernel_rfl
theorem c10_3e : c10_3 = .seq c10_4 c10_5 := by kernel_rfl
theorem c10_4e : c10_4 = .region 1 r10_4 false := by kernel_rfl
theorem c10_5e : c10_5 = .cond (cdC c10_5) c10_6 c10_9 := by kernel_rfl
theorem c10_6e : c10_6 = .seq c10_7 c10_8 := by kernel_rfl
theorem c10_7e : c10_7 = .region 2 r10_7 false := by kernel_rfl
theorem c10_8e : c10_8 = .ret := by kernel_rfl
theorem c10_9e : c10_9 = .skip := by kernel_rfl
theorem c10_10e : c10_10 = .seq c10_11 c10_12 := by kernel_rfl
theorem c10_11e : c10_11 = .region 3 r10_11 false := by kernel_rfl
theorem c10_12e : c10_12 = .seq c10_13 c10_14 := by kernel_rfl
theorem c10_13e : c10_13 = .region 4 r10_13 false := by kernel_rfl
theorem c10_14e : c10_14 = .seq c10_15 c10_41 := by kernel_rfl
theorem c10_15e : c10_15 = .seq c10_16 c10_17 := by kernel_rfl
theorem c10_16e : c10_16 = .region 5 r10_16 false := by kernel_rfl
theorem c10_17e : c10_17 = .block 0 c10_18 := by kernel_rfl
theorem c10_18e : c10_18 = .loop c10_19 := by kernel_rfl
theorem c10_19e : c10_19 = .seq c10_20 c10_21 := by kernel_rfl
theorem c10_20e : c10_20 = .region 6 r10_20 false := by kernel_rfl
theorem c10_21e : c10_21 = .seq c10_22 c10_25 := by kernel_rfl
theorem c10_22e : c10_22 = .cond (cdC c10_22) c10_23 c10_24 := by kernel_rfl
theorem c10_23e : c10_23 = .skip := by kernel_rfl
theorem c10_24e : c10_24 = .exit 0 := by kernel_rfl
theorem c10_25e : c10_25 = .seq c10_26 c10_40 := by kernel_rfl
theorem c10_26e : c10_26 = .block 1 c10_27 := by kernel_rfl
theorem c10_27e : c10_27 = .seq c10_28 c10_29 := by kernel_rfl
theorem c10_28e : c10_28 = .region 7 r10_28 false := by kernel_rfl
theorem c10_29e : c10_29 = .seq c10_30 c10_39 := by kernel_rfl
theorem c10_30e : c10_30 = .seq c10_31 c10_32 := by kernel_rfl
theorem c10_31e : c10_31 = .region 8 r10_31 false := by kernel_rfl
theorem c10_32e : c10_32 = .seq c10_33 c10_34 := by kernel_rfl
theorem c10_33e : c10_33 = .region 9 r10_33 false := by kernel_rfl
theorem c10_34e : c10_34 = .cond (cdC c10_34) c10_35 c10_38 := by kernel_rfl
theorem c10_35e : c10_35 = .seq c10_36 c10_37 := by kernel_rfl
theorem c10_36e : c10_36 = .region 10 r10_36 false := by kernel_rfl
theorem c10_37e : c10_37 = .ret := by kernel_rfl
theorem c10_38e : c10_38 = .skip := by kernel_rfl
theorem c10_39e : c10_39 = .region 11 r10_39 true := by kernel_rfl
theorem c10_40e : c10_40 = .region 12 r10_40 false := by kernel_rfl
theorem c10_41e : c10_41 = .seq c10_42 c10_43 := by kernel_rfl
theorem c10_42e : c10_42 = .region 13 r10_42 false := by kernel_rfl
theorem c10_43e : c10_43 = .seq c10_44 c10_66 := by kernel_rfl
theorem c10_44e : c10_44 = .seq c10_45 c10_46 := by kernel_rfl
theorem c10_45e : c10_45 = .region 14 r10_45 false := by kernel_rfl
theorem c10_46e : c10_46 = .block 2 c10_47 := by kernel_rfl
theorem c10_47e : c10_47 = .loop c10_48 := by kernel_rfl
theorem c10_48e : c10_48 = .seq c10_49 c10_50 := by kernel_rfl
theorem c10_49e : c10_49 = .region 15 r10_49 false := by kernel_rfl
theorem c10_50e : c10_50 = .seq c10_51 c10_54 := by kernel_rfl
theorem c10_51e : c10_51 = .cond (cdC c10_51) c10_52 c10_53 := by kernel_rfl
theorem c10_52e : c10_52 = .skip := by kernel_rfl
theorem c10_53e : c10_53 = .exit 2 := by kernel_rfl
theorem c10_54e : c10_54 = .seq c10_55 c10_65 := by kernel_rfl
theorem c10_55e : c10_55 = .block 3 c10_56 := by kernel_rfl
theorem c10_56e : c10_56 = .seq c10_57 c10_58 := by kernel_rfl
theorem c10_57e : c10_57 = .region 16 r10_57 false := by kernel_rfl
theorem c10_58e : c10_58 = .seq c10_59 c10_60 := by kernel_rfl
theorem c10_59e : c10_59 = .region 17 r10_59 true := by kernel_rfl
theorem c10_60e : c10_60 = .cond (cdC c10_60) c10_61 c10_64 := by kernel_rfl
theorem c10_61e : c10_61 = .seq c10_62 c10_63 := by kernel_rfl
theorem c10_62e : c10_62 = .region 18 r10_62 false := by kernel_rfl
theorem c10_63e : c10_63 = .ret := by kernel_rfl
theorem c10_64e : c10_64 = .skip := by kernel_rfl
theorem c10_65e : c10_65 = .region 19 r10_65 false := by kernel_rfl
theorem c10_66e : c10_66 = .seq c10_67 c10_68 := by kernel_rfl
theorem c10_67e : c10_67 = .region 20 r10_67 false := by kernel_rfl
theorem c10_68e : c10_68 = .ret := by kernel_rfl
noncomputable def tontinelaw03_PackBack.R (A_2 : Option Addr) (c_3 : Nat) : Pst Bool where
  ε := Unit
  v := fun r x => .bool r
  H := fun r x => []
  B := fun r x => []
noncomputable def tontinelaw03_PackBack.cx (A_2 : Option Addr) (c_3 : Nat) (w0 : World) (S0 : Fam) : Cx Bool := ⟨Try.prog, 10, Try.f10, 90, w0, S0, [], 0, tontinelaw03_PackBack.R A_2 c_3⟩
theorem tontinelaw03_PackBack_j0_ok (n : Nat) (L0 : (List UInt8) → Int → Int → Option Bool) (l_1 : (List T_tontinelaw03_Thing)) (f_7 : (List UInt8)) (n_10 : Int) (x_11 : Int) (A_2 : Option Addr) (c_3 : Nat) (b_6 : Nat) (A_8 : Option Addr) (c_9 : Nat) (b_14 : Nat) (w0 : World) (S0 : Fam) (ih0 : ∀ (f_7 : (List UInt8)) (n_10 : Int) (x_11 : Int) (A_8 : Option Addr) (c_9 : Nat), GoO (tontinelaw03_PackBack.cx A_2 c_3 w0 S0) [(0, .slice A_2 l_1.length c_3), (3, .pointer (some ⟨b_6, 0, none⟩)), (4, .int .i64 n_10), (13, .slice A_2 l_1.length c_3), (14, .int .i64 (l_1.length : Int)), (15, .int .i64 x_11)] [⟨40, b_6, [.slice A_8 f_7.length c_9]⟩] [Rd 0 kT_tontinelaw03_Thing A_2 c_3 l_1, Ow 42 Kd.u8 A_8 c_9 f_7] [.code c10_19, .inLoop c10_19, .inBlock 0, .code c10_41] (L0 f_7 n_10 x_11)) (b_16 : Bool) :
    GoO (tontinelaw03_PackBack.cx A_2 c_3 w0 S0) [(0, .slice A_2 l_1.length c_3), (3, .pointer (some ⟨b_6, 0, none⟩)), (4, .int .i64 (wi64 (n_10 + 1))), (6, .pointer (some ⟨b_14, 0, none⟩)), (13, .slice A_2 l_1.length c_3), (14, .int .i64 (l_1.length : Int)), (15, .int .i64 x_11), (28, .bool b_16)] [⟨40, b_6, [.slice A_8 f_7.length c_9]⟩, ⟨41, b_14, [.int .i64 ((rdL l_1 x_11).Kind), .int .u64 ((rdL l_1 x_11).Num), .string (bs ((rdL l_1 x_11).Text))]⟩] [Rd 0 kT_tontinelaw03_Thing A_2 c_3 l_1, Ow 42 Kd.u8 A_8 c_9 f_7] [.code c10_34, .code c10_39, .inBlock 1, .code c10_40, .inLoop c10_19, .inBlock 0, .code c10_41] (tontinelaw03_PackBack.j0 n L0 l_1 f_7 n_10 x_11 b_16) := by
  unfold tontinelaw03_PackBack.j0
  refine GoO.ite' c10_34e (by kernel_rfl) (fun h17 => ?_) (fun h17 => ?_)
  · refine GoO.seq' c10_35e ?_
    refine GoO.region' (is := [0]) c10_36e (by kernel_rfl) ?_
    refine GoO.exec (is := [0]) (hs := [.p]) (rest := []) (ks := [2]) (env' := [(2, .bool true)]) (H' := [⟨40, b_6, [.slice A_8 f_7.length c_9]⟩, ⟨41, b_14, [.int .i64 ((rdL l_1 x_11).Kind), .int .u64 ((rdL l_1 x_11).Num), .string (bs ((rdL l_1 x_11).Text))]⟩]) (ps := []) (by kernel_rfl) trivial ?_
    refine GoO.regionEnd ?_
    exact GoO.ret' (h := c10_37e) (hs := []) (ps := []) (hk := []) (bk := []) Try.func10 () (by kernel_rfl) trivial (by kernel_rfl) (by kernel_rfl)
  · refine GoO.skip' c10_38e ?_
    refine GoO.draw c10_39e (by kernel_rfl) [] [⟨41, b_14, [.int .i64 ((rdL l_1 x_11).Kind), .int .u64 ((rdL l_1 x_11).Num), .string (bs ((rdL l_1 x_11).Text))]⟩] [] (n := 16) (by kernel_rfl) ?_
    simp only [List.replicate]
    refine GoF.take [0, 1, 2, 4, 5, 6, 8, 9, 10, 11, 13, 14] [.p, .p, .b 0, .p, .b 0, .p, .p, .b 0, .p, .p, .p, .b 0] (ks := [0, 3, 4, 13, 14, 15, 29, 31, 35, 40, 43]) (fu := 4) (li := [true, true, true, false, true, true, true, false, true, true, true, true, false, true, true, false]) (env' := [(0, .slice A_2 l_1.length c_3), (3, .pointer (some ⟨b_6, 0, none⟩)), (4, .int .i64 (wi64 (n_10 + 1))), (13, .slice A_2 l_1.length c_3), (14, .int .i64 (l_1.length : Int)), (15, .int .i64 x_11), (29, .pointer (some ⟨b_6, 0, none⟩)), (31, .int .u64 ((rdL l_1 x_11).Num)), (35, .int .i64 (wi64 ((rdL l_1 x_11).Num))), (40, .bool ((bAnd .u64 ((rdL l_1 x_11).Num) 1) == 1)), (43, .string (bs ((rdL l_1 x_11).Text)))]) (ps := [b_14 = b_14, b_14 = b_14, b_14 = b_14, b_14 = b_14]) (hk := [1]) (bk := []) (by kernel_rfl) (And.intro rfl (And.intro rfl (And.intro rfl (And.intro rfl trivial)))) rfl rfl ?_
    refine OpTo.goF (i := 3) (by kernel_rfl) (hk := [1]) (bk := []) (GoO.call rfl (by kernel_rfl) (by kernel_rfl) (pack_Writer_Num_ok n (⟨f_7⟩ : T_pack_Writer) ((rdL l_1 x_11).Num) b_6 A_8 c_9) [[0], [40], [42]] [(40, 1), (42, 2)] [(1, 0)] [(2, 1)] (hks := [1]) (bks := [0]) (by kernel_rfl) (by kernel_rfl) (by kernel_rfl) (.inl rfl) rfl rfl (by kernel_rfl) (by kernel_rfl) _ (fun _ _ => rfl) _ _ (fun _ _ => rfl) (fun _ _ => rfl) (fun _ _ => by kernel_rfl) (fun _ _ => by kernel_rfl) (fun r_18 x_33 => ⟨rfl, rfl, ?_⟩))
    obtain ⟨A_19, c_20⟩ := x_33
    refine GoF.shape (env' := [(0, .slice A_2 l_1.length c_3), (3, .pointer (some ⟨b_6, 0, none⟩)), (4, .int .i64 (wi64 (n_10 + 1))), (13, .slice A_2 l_1.length c_3), (14, .int .i64 (l_1.length : Int)), (15, .int .i64 x_11), (29, .pointer (some ⟨b_6, 0, none⟩)), (31, .int .u64 ((rdL l_1 x_11).Num)), (32, .pointer (some ⟨b_6, 0, none⟩)), (35, .int .i64 (wi64 ((rdL l_1 x_11).Num))), (40, .bool ((bAnd .u64 ((rdL l_1 x_11).Num) 1) == 1)), (43, .string (bs ((rdL l_1 x_11).Text)))]) (H' := [⟨40, b_6, [.slice A_19 r_18.b.length c_20]⟩, ⟨41, b_14, [.int .i64 ((rdL l_1 x_11).Kind), .int .u64 ((rdL l_1 x_11).Num), .string (bs ((rdL l_1 x_11).Text))]⟩]) (B' := [Ow 42 Kd.u8 A_19 c_20 r_18.b, Rd 0 kT_tontinelaw03_Thing A_2 c_3 l_1]) (ks := [0, 3, 4, 13, 14, 15, 29, 31, 32, 35, 40, 43]) (by kernel_rfl) (by kernel_rfl) (by kernel_rfl) ?_
    refine OpTo.goF (i := 7) (by kernel_rfl) (hk := [1]) (bk := []) (GoO.call rfl (by kernel_rfl) (by kernel_rfl) (pack_Writer_Int_ok n r_18 (wi64 ((rdL l_1 x_11).Num)) b_6 A_19 c_20) [[0], [40], [42]] [(40, 1), (42, 2)] [(1, 0)] [(2, 0)] (hks := [1]) (bks := [1]) (by kernel_rfl) (by kernel_rfl) (by kernel_rfl) (.inl rfl) rfl rfl (by kernel_rfl) (by kernel_rfl) _ (fun _ _ => rfl) _ _ (fun _ _ => rfl) (fun _ _ => rfl) (fun _ _ => by kernel_rfl) (fun _ _ => by kernel_rfl) (fun r_21 x_32 => ⟨rfl, rfl, ?_⟩))
    obtain ⟨A_22, c_23⟩ := x_32
    refine GoF.shape (env' := [(0, .slice A_2 l_1.length c_3), (3, .pointer (some ⟨b_6, 0, none⟩)), (4, .int .i64 (wi64 (n_10 + 1))), (13, .slice A_2 l_1.length c_3), (14, .int .i64 (l_1.length : Int)), (15, .int .i64 x_11), (29, .pointer (some ⟨b_6, 0, none⟩)), (31, .int .u64 ((rdL l_1 x_11).Num)), (32, .pointer (some ⟨b_6, 0, none⟩)), (35, .int .i64 (wi64 ((rdL l_1 x_11).Num))), (36, .pointer (some ⟨b_6, 0, none⟩)), (40, .bool ((bAnd .u64 ((rdL l_1 x_11).Num) 1) == 1)), (43, .string (bs ((rdL l_1 x_11).Text)))]) (H' := [⟨40, b_6, [.slice A_22 r_21.b.length c_23]⟩, ⟨41, b_14, [.int .i64 ((rdL l_1 x_11).Kind), .int .u64 ((rdL l_1 x_11).Num), .string (bs ((rdL l_1 x_11).Text))]⟩]) (B' := [Ow 42 Kd.u8 A_22 c_23 r_21.b, Rd 0 kT_tontinelaw03_Thing A_2 c_3 l_1]) (ks := [0, 3, 4, 13, 14, 15, 29, 31, 32, 35, 36, 40, 43]) (by kernel_rfl) (by kernel_rfl) (by kernel_rfl) ?_
    refine OpTo.goF (i := 12) (by kernel_rfl) (hk := [1]) (bk := []) (GoO.call rfl (by kernel_rfl) (by kernel_rfl) (pack_Writer_Bool_ok n r_21 ((bAnd .u64 ((rdL l_1 x_11).Num) 1) == 1) b_6 A_22 c_23) [[0], [40], [42]] [(40, 1), (42, 2)] [(1, 0)] [(2, 0)] (hks := [1]) (bks := [1]) (by kernel_rfl) (by kernel_rfl) (by kernel_rfl) (.inl rfl) rfl rfl (by kernel_rfl) (by kernel_rfl) _ (fun _ _ => rfl) _ _ (fun _ _ => rfl) (fun _ _ => rfl) (fun _ _ => by kernel_rfl) (fun _ _ => by kernel_rfl) (fun r_24 x_31 => ⟨rfl, rfl, ?_⟩))
    obtain ⟨A_25, c_26⟩ := x_31
    refine GoF.shape (env' := [(0, .slice A_2 l_1.length c_3), (3, .pointer (some ⟨b_6, 0, none⟩)), (4, .int .i64 (wi64 (n_10 + 1))), (13, .slice A_2 l_1.length c_3), (14, .int .i64 (l_1.length : Int)), (15, .int .i64 x_11), (29, .pointer (some ⟨b_6, 0, none⟩)), (31, .int .u64 ((rdL l_1 x_11).Num)), (32, .pointer (some ⟨b_6, 0, none⟩)), (35, .int .i64 (wi64 ((rdL l_1 x_11).Num))), (36, .pointer (some ⟨b_6, 0, none⟩)), (40, .bool ((bAnd .u64 ((rdL l_1 x_11).Num) 1) == 1)), (41, .pointer (some ⟨b_6, 0, none⟩)), (43, .string (bs ((rdL l_1 x_11).Text)))]) (H' := [⟨40, b_6, [.slice A_25 r_24.b.length c_26]⟩, ⟨41, b_14, [.int .i64 ((rdL l_1 x_11).Kind), .int .u64 ((rdL l_1 x_11).Num), .string (bs ((rdL l_1 x_11).Text))]⟩]) (B' := [Ow 42 Kd.u8 A_25 c_26 r_24.b, Rd 0 kT_tontinelaw03_Thing A_2 c_3 l_1]) (ks := [0, 3, 4, 13, 14, 15, 29, 31, 32, 35, 36, 40, 41, 43]) (by kernel_rfl) (by kernel_rfl) (by kernel_rfl) ?_
    refine OpTo.goF (i := 15) (by kernel_rfl) (hk := [1]) (bk := []) (GoO.call rfl (by kernel_rfl) (by kernel_rfl) (pack_Writer_Text_ok n r_24 ((rdL l_1 x_11).Text) b_6 A_25 c_26) [[0], [40], [42]] [(40, 1), (42, 2)] [(1, 0)] [(2, 0)] (hks := [1]) (bks := [1]) (by kernel_rfl) (by kernel_rfl) (by kernel_rfl) (.inl rfl) rfl rfl (by kernel_rfl) (by kernel_rfl) _ (fun _ _ => rfl) _ _ (fun _ _ => rfl) (fun _ _ => rfl) (fun _ _ => by kernel_rfl) (fun _ _ => by kernel_rfl) (fun r_27 x_30 => ⟨rfl, rfl, ?_⟩))
    obtain ⟨A_28, c_29⟩ := x_30
    refine GoF.shape (env' := [(0, .slice A_2 l_1.length c_3), (3, .pointer (some ⟨b_6, 0, none⟩)), (4, .int .i64 (wi64 (n_10 + 1))), (13, .slice A_2 l_1.length c_3), (14, .int .i64 (l_1.length : Int)), (15, .int .i64 x_11), (29, .pointer (some ⟨b_6, 0, none⟩)), (31, .int .u64 ((rdL l_1 x_11).Num)), (32, .pointer (some ⟨b_6, 0, none⟩)), (35, .int .i64 (wi64 ((rdL l_1 x_11).Num))), (36, .pointer (some ⟨b_6, 0, none⟩)), (40, .bool ((bAnd .u64 ((rdL l_1 x_11).Num) 1) == 1)), (41, .pointer (some ⟨b_6, 0, none⟩)), (43, .string (bs ((rdL l_1 x_11).Text))), (44, .pointer (some ⟨b_6, 0, none⟩))]) (H' := [⟨40, b_6, [.slice A_28 r_27.b.length c_29]⟩, ⟨41, b_14, [.int .i64 ((rdL l_1 x_11).Kind), .int .u64 ((rdL l_1 x_11).Num), .string (bs ((rdL l_1 x_11).Text))]⟩]) (B' := [Ow 42 Kd.u8 A_28 c_29 r_27.b, Rd 0 kT_tontinelaw03_Thing A_2 c_3 l_1]) (ks := [0, 3, 4, 13, 14, 15, 29, 31, 32, 35, 36, 40, 41, 43, 44]) (by kernel_rfl) (by kernel_rfl) (by kernel_rfl) ?_
    refine GoF.done (by kernel_rfl) ?_
    refine GoO.inBlock ?_
    refine GoO.region' (is := [0, 1]) c10_40e (by kernel_rfl) ?_
    refine GoO.exec (is := [0, 1]) (hs := [.p, .p]) (rest := []) (ks := [0, 3, 4, 13, 14, 15]) (env' := [(0, .slice A_2 l_1.length c_3), (3, .pointer (some ⟨b_6, 0, none⟩)), (4, .int .i64 (wi64 (n_10 + 1))), (13, .slice A_2 l_1.length c_3), (14, .int .i64 (l_1.length : Int)), (15, .int .i64 (wi64 (x_11 + 1)))]) (H' := [⟨40, b_6, [.slice A_28 r_27.b.length c_29]⟩, ⟨41, b_14, [.int .i64 ((rdL l_1 x_11).Kind), .int .u64 ((rdL l_1 x_11).Num), .string (bs ((rdL l_1 x_11).Text))]⟩]) (ps := []) (by kernel_rfl) trivial ?_
    refine GoO.regionEnd ?_
    refine GoO.inLoop ?_
    exact GoO.sub (ks := [0, 3, 4, 13, 14, 15]) (hk := [0]) (bk := [1, 0]) (by kernel_rfl) (by kernel_rfl) (by kernel_rfl) (ih0 r_27.b (wi64 (n_10 + 1)) (wi64 (x_11 + 1)) A_28 c_29)
theorem tontinelaw03_PackBack_j1_ok (n : Nat) (L1 : (List UInt8) → Bool → Int → Option Bool) (l_1 : (List T_tontinelaw03_Thing)) (f_37 : (List UInt8)) (f_38 : Bool) (x_39 : Int) (A_2 : Option Addr) (c_3 : Nat) (b_36 : Nat) (w0 : World) (S0 : Fam) (ih1 : ∀ (f_37 : (List UInt8)) (f_38 : Bool) (x_39 : Int), GoO (tontinelaw03_PackBack.cx A_2 c_3 w0 S0) [(7, .pointer (some ⟨b_36, 0, none⟩)), (49, .slice A_2 l_1.length c_3), (50, .int .i64 (l_1.length : Int)), (51, .int .i64 x_39)] [⟨43, b_36, [.string (bs f_37), .bool f_38]⟩] [Rd 0 kT_tontinelaw03_Thing A_2 c_3 l_1] [.code c10_48, .inLoop c10_48, .inBlock 2, .code c10_66] (L1 f_37 f_38 x_39)) (f_50 : (List UInt8)) (f_51 : Bool) (b_52 : Bool) :
    GoO (tontinelaw03_PackBack.cx A_2 c_3 w0 S0) [(7, .pointer (some ⟨b_36, 0, none⟩)), (49, .slice A_2 l_1.length c_3), (50, .int .i64 (l_1.length : Int)), (51, .int .i64 x_39), (86, .bool b_52)] [⟨43, b_36, [.string (bs f_50), .bool f_51]⟩] [Rd 0 kT_tontinelaw03_Thing A_2 c_3 l_1] [.code c10_60, .inBlock 3, .code c10_65, .inLoop c10_48, .inBlock 2, .code c10_66] (tontinelaw03_PackBack.j1 n L1 x_39 f_50 f_51 b_52) := by
  unfold tontinelaw03_PackBack.j1
  refine GoO.ite' c10_60e (by kernel_rfl) (fun h53 => ?_) (fun h53 => ?_)
  · refine GoO.seq' c10_61e ?_
    refine GoO.region' (is := [0]) c10_62e (by kernel_rfl) ?_
    refine GoO.exec (is := [0]) (hs := [.p]) (rest := []) (ks := [2]) (env' := [(2, .bool false)]) (H' := [⟨43, b_36, [.string (bs f_50), .bool f_51]⟩]) (ps := []) (by kernel_rfl) trivial ?_
    refine GoO.regionEnd ?_
    exact GoO.ret' (h := c10_63e) (hs := []) (ps := []) (hk := []) (bk := []) Try.func10 () (by kernel_rfl) trivial (by kernel_rfl) (by kernel_rfl)
  · refine GoO.skip' c10_64e ?_
    refine GoO.inBlock ?_
    refine GoO.region' (is := [0, 1]) c10_65e (by kernel_rfl) ?_
    refine GoO.exec (is := [0, 1]) (hs := [.p, .p]) (rest := []) (ks := [7, 49, 50, 51]) (env' := [(7, .pointer (some ⟨b_36, 0, none⟩)), (49, .slice A_2 l_1.length c_3), (50, .int .i64 (l_1.length : Int)), (51, .int .i64 (wi64 (x_39 + 1)))]) (H' := [⟨43, b_36, [.string (bs f_50), .bool f_51]⟩]) (ps := []) (by kernel_rfl) trivial ?_
    refine GoO.regionEnd ?_
    refine GoO.inLoop ?_
    exact GoO.sub (ks := [7, 49, 50, 51]) (hk := [0]) (bk := [0]) (by kernel_rfl) (by kernel_rfl) (by kernel_rfl) (ih1 f_50 f_51 (wi64 (x_39 + 1)))
theorem tontinelaw03_PackBack_l1_ok (n : Nat) (l_1 : (List T_tontinelaw03_Thing)) (A_2 : Option Addr) (c_3 : Nat) (b_36 : Nat) (w0 : World) (S0 : Fam) :
    ∀ (k : Nat) (f_37 : (List UInt8)) (f_38 : Bool) (x_39 : Int), GoO (tontinelaw03_PackBack.cx A_2 c_3 w0 S0) [(7, .pointer (some ⟨b_36, 0, none⟩)), (49, .slice A_2 l_1.length c_3), (50, .int .i64 (l_1.length : Int)), (51, .int .i64 x_39)] [⟨43, b_36, [.string (bs f_37), .bool f_38]⟩] [Rd 0 kT_tontinelaw03_Thing A_2 c_3 l_1] [.code c10_48, .inLoop c10_48, .inBlock 2, .code c10_66] (tontinelaw03_PackBack.l1 n l_1 k f_37 f_38 x_39) := by
  intro k
  induction k with
  | zero => intros; rw [tontinelaw03_PackBack.l1.eq_1]; exact GoO.stop
  | succ k ih1 =>
    intro f_37 f_38 x_39
    rw [tontinelaw03_PackBack.l1.eq_2]
    refine GoO.seq' c10_48e ?_
    refine GoO.region' (is := [0]) c10_49e (by kernel_rfl) ?_
    refine GoO.exec (is := [0]) (hs := [.p]) (rest := []) (ks := [7, 49, 50, 51, 52]) (env' := [(7, .pointer (some ⟨b_36, 0, none⟩)), (49, .slice A_2 l_1.length c_3), (50, .int .i64 (l_1.length : Int)), (51, .int .i64 x_39), (52, .bool (decide (x_39 < (l_1.length : Int))))]) (H' := [⟨43, b_36, [.string (bs f_37), .bool f_38]⟩]) (ps := []) (by kernel_rfl) trivial ?_
    refine GoO.regionEnd ?_
    refine GoO.seq' c10_50e ?_
    refine GoO.ite' c10_51e (by kernel_rfl) (fun h40 => ?_) (fun h40 => ?_)
    · refine GoO.skip' c10_52e ?_
      refine GoO.seq' c10_54e ?_
      refine GoO.block' c10_55e ?_
      refine GoO.seq' c10_56e ?_
      refine GoO.region' (is := [0, 1, 2, 3]) c10_57e (by kernel_rfl) ?_
      refine GoO.guard (fun h41 => ?_)
      refine OpTo.go (GoO.idx (kk := .i64) (e := 59) (K := kT_tontinelaw03_Thing) (A := A_2) (c := c_3) (xs := l_1) (iv := x_39) (j := 0) rfl (by kernel_rfl) (by kernel_rfl) (by kernel_rfl) (by kernel_rfl) rfl Reads.rd rfl h41.1 h41.2 (by decide) rfl ?_)
      refine OpTo.go (GoO.ldE' (K := kT_tontinelaw03_Thing) (A := A_2) (c := c_3) (xs := l_1) (iN := x_39.toNat) (off := 0) (j := 0) rfl (by kernel_rfl) rfl Reads.rd (idx_lt h41.1 h41.2) (by decide) (Opn.flat _ _ _ _ _) (v := fun _ => .agg ⟨[.int .i64 ((rdL l_1 x_39).Kind), .int .u64 ((rdL l_1 x_39).Num), .string (bs ((rdL l_1 x_39).Text))]⟩) (fun _ => by kernel_rfl) _ (fun _ => rfl) (fun _ => ?_))
      refine OpTo.go (GoO.new rfl 44 (cs := [.int .i64 0, .int .u64 0, .string (bs [])]) (by kernel_rfl) _ (fun _ => rfl) (fun b_42 => ?_))
      refine GoO.exec (is := [3]) (hs := [.b 0]) (rest := []) (ks := [7, 9, 49, 50, 51]) (env' := [(7, .pointer (some ⟨b_36, 0, none⟩)), (9, .pointer (some ⟨b_42, 0, none⟩)), (49, .slice A_2 l_1.length c_3), (50, .int .i64 (l_1.length : Int)), (51, .int .i64 x_39)]) (H' := [⟨44, b_42, [.int .i64 ((rdL l_1 x_39).Kind), .int .u64 ((rdL l_1 x_39).Num), .string (bs ((rdL l_1 x_39).Text))]⟩, ⟨43, b_36, [.string (bs f_37), .bool f_38]⟩]) (ps := [b_42 = b_42]) (by kernel_rfl) (And.intro rfl trivial) ?_
      refine GoO.regionEnd ?_
      refine GoO.seq' c10_58e ?_
      refine GoO.draw c10_59e (by kernel_rfl) [] [⟨44, b_42, [.int .i64 ((rdL l_1 x_39).Kind), .int .u64 ((rdL l_1 x_39).Num), .string (bs ((rdL l_1 x_39).Text))]⟩] [] (n := 32) (by kernel_rfl) ?_
      simp only [List.replicate]
      refine GoF.take [0, 2, 3] [.p, .p, .b 0] (ks := [7, 9, 49, 50, 51, 55, 58]) (fu := 29) (li := [true, false, true, true, false, false, false, false, false, false, false, false, false, false, false, false, false, false, false, false, false, false, false, false, false, false, false, false, false, false, false, false]) (env' := [(7, .pointer (some ⟨b_36, 0, none⟩)), (9, .pointer (some ⟨b_42, 0, none⟩)), (49, .slice A_2 l_1.length c_3), (50, .int .i64 (l_1.length : Int)), (51, .int .i64 x_39), (55, .pointer (some ⟨b_36, 0, none⟩)), (58, .int .u64 ((rdL l_1 x_39).Num))]) (ps := [b_42 = b_42]) (hk := [0]) (bk := []) (by kernel_rfl) (And.intro rfl trivial) rfl rfl ?_
      refine OpTo.goF (i := 1) (by kernel_rfl) (hk := [1]) (bk := []) (GoO.call rfl (by kernel_rfl) (by kernel_rfl) (pack_Reader_Num_ok n (⟨f_37, f_38⟩ : T_pack_Reader) b_36) [[0], [43]] [(43, 1)] [(1, 1)] [] (hks := [0]) (bks := [0]) (by kernel_rfl) (by kernel_rfl) (by kernel_rfl) (.inl rfl) rfl rfl (by kernel_rfl) (by kernel_rfl) _ (fun _ _ => rfl) _ _ (fun _ _ => rfl) (fun _ _ => rfl) (fun _ _ => by kernel_rfl) (fun _ _ => by kernel_rfl) (fun r_43 x_53 => ⟨rfl, rfl, ?_⟩))
      refine GoF.shape (env' := [(7, .pointer (some ⟨b_36, 0, none⟩)), (9, .pointer (some ⟨b_42, 0, none⟩)), (49, .slice A_2 l_1.length c_3), (50, .int .i64 (l_1.length : Int)), (51, .int .i64 x_39), (55, .pointer (some ⟨b_36, 0, none⟩)), (56, .int .u64 r_43.1), (58, .int .u64 ((rdL l_1 x_39).Num))]) (H' := [⟨43, b_36, [.string (bs r_43.2.s), .bool r_43.2.bad]⟩, ⟨44, b_42, [.int .i64 ((rdL l_1 x_39).Kind), .int .u64 ((rdL l_1 x_39).Num), .string (bs ((rdL l_1 x_39).Text))]⟩]) (B' := [Rd 0 kT_tontinelaw03_Thing A_2 c_3 l_1]) (ks := [7, 9, 49, 50, 51, 55, 56, 58]) (by kernel_rfl) (by kernel_rfl) (by kernel_rfl) ?_
      refine GoF.take [4, 5] [.p, .p] (ks := [7, 9, 49, 50, 51, 60]) (fu := 26) (li := [true, true, true, true, true, true, false, false, false, false, false, false, false, false, false, false, false, false, false, false, false, false, false, false, false, false, false, false, false, false, false, false]) (env' := [(7, .pointer (some ⟨b_36, 0, none⟩)), (9, .pointer (some ⟨b_42, 0, none⟩)), (49, .slice A_2 l_1.length c_3), (50, .int .i64 (l_1.length : Int)), (51, .int .i64 x_39), (60, .bool (r_43.1 != ((rdL l_1 x_39).Num)))]) (ps := []) (hk := [1]) (bk := []) (by kernel_rfl) trivial rfl rfl ?_
      refine GoF.bsplit (t := 60) (by kernel_rfl) (fun h44 => ?_) (fun h44 => ?_)
      · refine GoF.take [6, 7, 8, 9, 10, 11, 12, 13, 14, 15, 16, 17, 18, 19, 20, 21, 22, 23, 24, 25, 26, 27, 28, 29, 30, 31] [.p, .p, .p, .p, .p, .p, .p, .p, .p, .p, .p, .p, .p, .p, .p, .p, .p, .p, .p, .p, .p, .p, .p, .p, .p, .p] (ks := [7, 49, 50, 51, 86]) (fu := 0) (li := [true, true, true, true, true, true, true, true, true, true, true, true, true, true, true, true, true, true, true, true, true, true, true, true, true, true, true, true, true, true, true, true]) (env' := [(7, .pointer (some ⟨b_36, 0, none⟩)), (49, .slice A_2 l_1.length c_3), (50, .int .i64 (l_1.length : Int)), (51, .int .i64 x_39), (86, .bool true)]) (ps := []) (hk := [1]) (bk := []) (by kernel_rfl) trivial rfl rfl ?_
        refine GoF.done (by kernel_rfl) ?_
        exact GoO.sub (ks := [7, 49, 50, 51, 86]) (hk := [0]) (bk := [0]) (by kernel_rfl) (by kernel_rfl) (by kernel_rfl) (tontinelaw03_PackBack_j1_ok n (tontinelaw03_PackBack.l1 n l_1 k) l_1 f_37 f_38 x_39 A_2 c_3 b_36 w0 S0 ih1 r_43.2.s r_43.2.bad true)
      · refine GoF.take [6, 8, 9, 10] [.p, .p, .b 0, .p] (ks := [7, 9, 49, 50, 51, 60, 61, 65]) (fu := 22) (li := [true, true, true, true, true, true, true, false, true, true, true, false, false, false, false, false, false, false, false, false, false, false, false, false, false, false, false, false, false, false, false, false]) (env' := [(7, .pointer (some ⟨b_36, 0, none⟩)), (9, .pointer (some ⟨b_42, 0, none⟩)), (49, .slice A_2 l_1.length c_3), (50, .int .i64 (l_1.length : Int)), (51, .int .i64 x_39), (60, .bool false), (61, .pointer (some ⟨b_36, 0, none⟩)), (65, .int .i64 (wi64 ((rdL l_1 x_39).Num)))]) (ps := [b_42 = b_42]) (hk := [1]) (bk := []) (by kernel_rfl) (And.intro rfl trivial) rfl rfl ?_
        refine OpTo.goF (i := 7) (by kernel_rfl) (hk := [1]) (bk := []) (GoO.call rfl (by kernel_rfl) (by kernel_rfl) (pack_Reader_Int_ok n r_43.2 b_36) [[0], [43]] [(43, 1)] [(1, 0)] [] (hks := [1]) (bks := [0]) (by kernel_rfl) (by kernel_rfl) (by kernel_rfl) (.inl rfl) rfl rfl (by kernel_rfl) (by kernel_rfl) _ (fun _ _ => rfl) _ _ (fun _ _ => rfl) (fun _ _ => rfl) (fun _ _ => by kernel_rfl) (fun _ _ => by kernel_rfl) (fun r_45 x_52 => ⟨rfl, rfl, ?_⟩))
        refine GoF.shape (env' := [(7, .pointer (some ⟨b_36, 0, none⟩)), (9, .pointer (some ⟨b_42, 0, none⟩)), (49, .slice A_2 l_1.length c_3), (50, .int .i64 (l_1.length : Int)), (51, .int .i64 x_39), (60, .bool false), (61, .pointer (some ⟨b_36, 0, none⟩)), (62, .int .i64 r_45.1), (65, .int .i64 (wi64 ((rdL l_1 x_39).Num)))]) (H' := [⟨43, b_36, [.string (bs r_45.2.s), .bool r_45.2.bad]⟩, ⟨44, b_42, [.int .i64 ((rdL l_1 x_39).Kind), .int .u64 ((rdL l_1 x_39).Num), .string (bs ((rdL l_1 x_39).Text))]⟩]) (B' := [Rd 0 kT_tontinelaw03_Thing A_2 c_3 l_1]) (ks := [7, 9, 49, 50, 51, 60, 61, 62, 65]) (by kernel_rfl) (by kernel_rfl) (by kernel_rfl) ?_
        refine GoF.take [11, 12, 13] [.p, .p, .p] (ks := [7, 9, 49, 50, 51, 68]) (fu := 18) (li := [true, true, true, true, true, true, true, true, true, true, true, true, true, true, false, false, false, false, false, false, false, false, false, false, false, false, false, false, false, false, false, false]) (env' := [(7, .pointer (some ⟨b_36, 0, none⟩)), (9, .pointer (some ⟨b_42, 0, none⟩)), (49, .slice A_2 l_1.length c_3), (50, .int .i64 (l_1.length : Int)), (51, .int .i64 x_39), (68, .bool (r_45.1 != (wi64 ((rdL l_1 x_39).Num))))]) (ps := []) (hk := [1]) (bk := []) (by kernel_rfl) trivial rfl rfl ?_
        refine GoF.bsplit (t := 68) (by kernel_rfl) (fun h46 => ?_) (fun h46 => ?_)
        · refine GoF.take [14, 15, 16, 17, 18, 19, 20, 21, 22, 23, 24, 25, 26, 27, 28, 29, 30, 31] [.p, .p, .p, .p, .p, .p, .p, .p, .p, .p, .p, .p, .p, .p, .p, .p, .p, .p] (ks := [7, 49, 50, 51, 86]) (fu := 0) (li := [true, true, true, true, true, true, true, true, true, true, true, true, true, true, true, true, true, true, true, true, true, true, true, true, true, true, true, true, true, true, true, true]) (env' := [(7, .pointer (some ⟨b_36, 0, none⟩)), (49, .slice A_2 l_1.length c_3), (50, .int .i64 (l_1.length : Int)), (51, .int .i64 x_39), (86, .bool true)]) (ps := []) (hk := [1]) (bk := []) (by kernel_rfl) trivial rfl rfl ?_
          refine GoF.done (by kernel_rfl) ?_
          exact GoO.sub (ks := [7, 49, 50, 51, 86]) (hk := [0]) (bk := [0]) (by kernel_rfl) (by kernel_rfl) (by kernel_rfl) (tontinelaw03_PackBack_j1_ok n (tontinelaw03_PackBack.l1 n l_1 k) l_1 f_37 f_38 x_39 A_2 c_3 b_36 w0 S0 ih1 r_45.2.s r_45.2.bad true)
        · refine GoF.take [14, 16, 17, 18, 19] [.p, .p, .b 0, .p, .p] (ks := [7, 9, 49, 50, 51, 68, 69, 74]) (fu := 13) (li := [true, true, true, true, true, true, true, true, true, true, true, true, true, true, true, false, true, true, true, true, false, false, false, false, false, false, false, false, false, false, false, false]) (env' := [(7, .pointer (some ⟨b_36, 0, none⟩)), (9, .pointer (some ⟨b_42, 0, none⟩)), (49, .slice A_2 l_1.length c_3), (50, .int .i64 (l_1.length : Int)), (51, .int .i64 x_39), (68, .bool false), (69, .pointer (some ⟨b_36, 0, none⟩)), (74, .bool ((bAnd .u64 ((rdL l_1 x_39).Num) 1) == 1))]) (ps := [b_42 = b_42]) (hk := [1]) (bk := []) (by kernel_rfl) (And.intro rfl trivial) rfl rfl ?_
          refine OpTo.goF (i := 15) (by kernel_rfl) (hk := [1]) (bk := []) (GoO.call rfl (by kernel_rfl) (by kernel_rfl) (pack_Reader_Bool_ok n r_45.2 b_36) [[0], [43]] [(43, 1)] [(1, 0)] [] (hks := [1]) (bks := [0]) (by kernel_rfl) (by kernel_rfl) (by kernel_rfl) (.inl rfl) rfl rfl (by kernel_rfl) (by kernel_rfl) _ (fun _ _ => rfl) _ _ (fun _ _ => rfl) (fun _ _ => rfl) (fun _ _ => by kernel_rfl) (fun _ _ => by kernel_rfl) (fun r_47 x_51 => ⟨rfl, rfl, ?_⟩))
          refine GoF.shape (env' := [(7, .pointer (some ⟨b_36, 0, none⟩)), (9, .pointer (some ⟨b_42, 0, none⟩)), (49, .slice A_2 l_1.length c_3), (50, .int .i64 (l_1.length : Int)), (51, .int .i64 x_39), (68, .bool false), (69, .pointer (some ⟨b_36, 0, none⟩)), (70, .bool r_47.1), (74, .bool ((bAnd .u64 ((rdL l_1 x_39).Num) 1) == 1))]) (H' := [⟨43, b_36, [.string (bs r_47.2.s), .bool r_47.2.bad]⟩, ⟨44, b_42, [.int .i64 ((rdL l_1 x_39).Kind), .int .u64 ((rdL l_1 x_39).Num), .string (bs ((rdL l_1 x_39).Text))]⟩]) (B' := [Rd 0 kT_tontinelaw03_Thing A_2 c_3 l_1]) (ks := [7, 9, 49, 50, 51, 68, 69, 70, 74]) (by kernel_rfl) (by kernel_rfl) (by kernel_rfl) ?_
          refine GoF.take [20, 21, 22] [.p, .p, .p] (ks := [7, 9, 49, 50, 51, 77]) (fu := 9) (li := [true, true, true, true, true, true, true, true, true, true, true, true, true, true, true, true, true, true, true, true, true, true, true, false, false, false, false, false, false, false, false, false]) (env' := [(7, .pointer (some ⟨b_36, 0, none⟩)), (9, .pointer (some ⟨b_42, 0, none⟩)), (49, .slice A_2 l_1.length c_3), (50, .int .i64 (l_1.length : Int)), (51, .int .i64 x_39), (77, .bool (!(r_47.1 == ((bAnd .u64 ((rdL l_1 x_39).Num) 1) == 1))))]) (ps := []) (hk := [1]) (bk := []) (by kernel_rfl) trivial rfl rfl ?_
          refine GoF.bsplit (t := 77) (by kernel_rfl) (fun h48 => ?_) (fun h48 => ?_)
          · refine GoF.take [23, 24, 25, 26, 27, 28, 29, 30, 31] [.p, .p, .p, .p, .p, .p, .p, .p, .p] (ks := [7, 49, 50, 51, 86]) (fu := 0) (li := [true, true, true, true, true, true, true, true, true, true, true, true, true, true, true, true, true, true, true, true, true, true, true, true, true, true, true, true, true, true, true, true]) (env' := [(7, .pointer (some ⟨b_36, 0, none⟩)), (49, .slice A_2 l_1.length c_3), (50, .int .i64 (l_1.length : Int)), (51, .int .i64 x_39), (86, .bool true)]) (ps := []) (hk := [1]) (bk := []) (by kernel_rfl) trivial rfl rfl ?_
            refine GoF.done (by kernel_rfl) ?_
            exact GoO.sub (ks := [7, 49, 50, 51, 86]) (hk := [0]) (bk := [0]) (by kernel_rfl) (by kernel_rfl) (by kernel_rfl) (tontinelaw03_PackBack_j1_ok n (tontinelaw03_PackBack.l1 n l_1 k) l_1 f_37 f_38 x_39 A_2 c_3 b_36 w0 S0 ih1 r_47.2.s r_47.2.bad true)
          · refine GoF.take [23, 24, 25, 26, 28, 29] [.p, .p, .b 0, .p, .p, .b 0] (ks := [7, 49, 50, 51, 77, 78, 81, 84]) (fu := 3) (li := [true, true, true, true, true, true, true, true, true, true, true, true, true, true, true, true, true, true, true, true, true, true, true, true, true, true, true, false, true, true, false, false]) (env' := [(7, .pointer (some ⟨b_36, 0, none⟩)), (49, .slice A_2 l_1.length c_3), (50, .int .i64 (l_1.length : Int)), (51, .int .i64 x_39), (77, .bool false), (78, .pointer (some ⟨b_36, 0, none⟩)), (81, .int .i64 (((rdL l_1 x_39).Text).length : Int)), (84, .string (bs ((rdL l_1 x_39).Text)))]) (ps := [b_42 = b_42, b_42 = b_42]) (hk := [1]) (bk := []) (by kernel_rfl) (And.intro rfl (And.intro rfl trivial)) rfl rfl ?_
            refine OpTo.goF (i := 27) (by kernel_rfl) (hk := [1]) (bk := []) (GoO.call rfl (by kernel_rfl) (by kernel_rfl) (pack_Reader_Text_ok n r_47.2 (((rdL l_1 x_39).Text).length : Int) b_36) [[0], [43]] [(43, 1)] [(1, 0)] [] (hks := [1]) (bks := [0]) (by kernel_rfl) (by kernel_rfl) (by kernel_rfl) (.inl rfl) rfl rfl (by kernel_rfl) (by kernel_rfl) _ (fun _ _ => rfl) _ _ (fun _ _ => rfl) (fun _ _ => rfl) (fun _ _ => by kernel_rfl) (fun _ _ => by kernel_rfl) (fun r_49 x_50 => ⟨rfl, rfl, ?_⟩))
            refine GoF.shape (env' := [(7, .pointer (some ⟨b_36, 0, none⟩)), (49, .slice A_2 l_1.length c_3), (50, .int .i64 (l_1.length : Int)), (51, .int .i64 x_39), (77, .bool false), (78, .pointer (some ⟨b_36, 0, none⟩)), (81, .int .i64 (((rdL l_1 x_39).Text).length : Int)), (82, .string (bs r_49.1)), (84, .string (bs ((rdL l_1 x_39).Text)))]) (H' := [⟨43, b_36, [.string (bs r_49.2.s), .bool r_49.2.bad]⟩, ⟨44, b_42, [.int .i64 ((rdL l_1 x_39).Kind), .int .u64 ((rdL l_1 x_39).Num), .string (bs ((rdL l_1 x_39).Text))]⟩]) (B' := [Rd 0 kT_tontinelaw03_Thing A_2 c_3 l_1]) (ks := [7, 49, 50, 51, 77, 78, 81, 82, 84]) (by kernel_rfl) (by kernel_rfl) (by kernel_rfl) ?_
            refine GoF.take [30, 31] [.p, .p] (ks := [7, 49, 50, 51, 86]) (fu := 0) (li := [true, true, true, true, true, true, true, true, true, true, true, true, true, true, true, true, true, true, true, true, true, true, true, true, true, true, true, true, true, true, true, true]) (env' := [(7, .pointer (some ⟨b_36, 0, none⟩)), (49, .slice A_2 l_1.length c_3), (50, .int .i64 (l_1.length : Int)), (51, .int .i64 x_39), (86, .bool (!(r_49.1 == ((rdL l_1 x_39).Text))))]) (ps := []) (hk := [1]) (bk := []) (by kernel_rfl) trivial rfl rfl ?_
            refine GoF.done (by kernel_rfl) ?_
            exact GoO.sub (ks := [7, 49, 50, 51, 86]) (hk := [0]) (bk := [0]) (by kernel_rfl) (by kernel_rfl) (by kernel_rfl) (tontinelaw03_PackBack_j1_ok n (tontinelaw03_PackBack.l1 n l_1 k) l_1 f_37 f_38 x_39 A_2 c_3 b_36 w0 S0 ih1 r_49.2.s r_49.2.bad (!(r_49.1 == ((rdL l_1 x_39).Text))))
    · refine GoO.exit' c10_53e rfl ?_
      refine GoO.seq' c10_66e ?_
      refine GoO.region' (is := [0, 1, 2]) c10_67e (by kernel_rfl) ?_
      refine GoO.exec (is := [0]) (hs := [.p]) (rest := [1, 2]) (ks := [88]) (env' := [(88, .pointer (some ⟨b_36, 0, none⟩))]) (H' := [⟨43, b_36, [.string (bs f_37), .bool f_38]⟩]) (ps := []) (by kernel_rfl) trivial ?_
      refine OpTo.go (GoO.call rfl (by kernel_rfl) (by kernel_rfl) (pack_Reader_Done_ok n (⟨f_37, f_38⟩ : T_pack_Reader) b_36) [[0], [43]] [] [(1, 0)] [] (hks := [0]) (bks := [0]) (by kernel_rfl) (by kernel_rfl) (by kernel_rfl) (.inl rfl) rfl rfl (by kernel_rfl) (by kernel_rfl) _ (fun _ _ => rfl) _ _ (fun _ _ => rfl) (fun _ _ => rfl) (fun _ _ => by kernel_rfl) (fun _ _ => by kernel_rfl) (fun r_54 x_55 => ?_))
      refine GoO.shape (env' := [(88, .pointer (some ⟨b_36, 0, none⟩)), (89, .bool r_54)]) (H' := [⟨43, b_36, [.string (bs f_37), .bool f_38]⟩]) (B' := [Rd 0 kT_tontinelaw03_Thing A_2 c_3 l_1]) (ks := [88, 89]) (by kernel_rfl) (by kernel_rfl) (by kernel_rfl) ?_
      refine GoO.exec (is := [2]) (hs := [.p]) (rest := []) (ks := [2]) (env' := [(2, .bool r_54)]) (H' := [⟨43, b_36, [.string (bs f_37), .bool f_38]⟩]) (ps := []) (by kernel_rfl) trivial ?_
      refine GoO.regionEnd ?_
      exact GoO.ret' (h := c10_68e) (hs := []) (ps := []) (hk := []) (bk := []) Try.func10 () (by kernel_rfl) trivial (by kernel_rfl) (by kernel_rfl)
theorem tontinelaw03_PackBack_l0_ok (n : Nat) (l_1 : (List T_tontinelaw03_Thing)) (A_2 : Option Addr) (c_3 : Nat) (b_6 : Nat) (w0 : World) (S0 : Fam) :
    ∀ (k : Nat) (f_7 : (List UInt8)) (n_10 : Int) (x_11 : Int) (A_8 : Option Addr) (c_9 : Nat), GoO (tontinelaw03_PackBack.cx A_2 c_3 w0 S0) [(0, .slice A_2 l_1.length c_3), (3, .pointer (some ⟨b_6, 0, none⟩)), (4, .int .i64 n_10), (13, .slice A_2 l_1.length c_3), (14, .int .i64 (l_1.length : Int)), (15, .int .i64 x_11)] [⟨40, b_6, [.slice A_8 f_7.length c_9]⟩] [Rd 0 kT_tontinelaw03_Thing A_2 c_3 l_1, Ow 42 Kd.u8 A_8 c_9 f_7] [.code c10_19, .inLoop c10_19, .inBlock 0, .code c10_41] (tontinelaw03_PackBack.l0 n l_1 k f_7 n_10 x_11) := by
  intro k
  induction k with
  | zero => intros; rw [tontinelaw03_PackBack.l0.eq_1]; exact GoO.stop
  | succ k ih0 =>
    intro f_7 n_10 x_11 A_8 c_9
    rw [tontinelaw03_PackBack.l0.eq_2]
    refine GoO.seq' c10_19e ?_
    refine GoO.region' (is := [0]) c10_20e (by kernel_rfl) ?_
    refine GoO.exec (is := [0]) (hs := [.p]) (rest := []) (ks := [0, 3, 4, 13, 14, 15, 16]) (env' := [(0, .slice A_2 l_1.length c_3), (3, .pointer (some ⟨b_6, 0, none⟩)), (4, .int .i64 n_10), (13, .slice A_2 l_1.length c_3), (14, .int .i64 (l_1.length : Int)), (15, .int .i64 x_11), (16, .bool (decide (x_11 < (l_1.length : Int))))]) (H' := [⟨40, b_6, [.slice A_8 f_7.length c_9]⟩]) (ps := []) (by kernel_rfl) trivial ?_
    refine GoO.regionEnd ?_
    refine GoO.seq' c10_21e ?_
    refine GoO.ite' c10_22e (by kernel_rfl) (fun h12 => ?_) (fun h12 => ?_)
    · refine GoO.skip' c10_23e ?_
      refine GoO.seq' c10_25e ?_
      refine GoO.block' c10_26e ?_
      refine GoO.seq' c10_27e ?_
      refine GoO.region' (is := [0, 1, 2, 3]) c10_28e (by kernel_rfl) ?_
      refine GoO.guard (fun h13 => ?_)
      refine OpTo.go (GoO.idx (kk := .i64) (e := 59) (K := kT_tontinelaw03_Thing) (A := A_2) (c := c_3) (xs := l_1) (iv := x_11) (j := 0) rfl (by kernel_rfl) (by kernel_rfl) (by kernel_rfl) (by kernel_rfl) rfl Reads.rd rfl h13.1 h13.2 (by decide) rfl ?_)
      refine OpTo.go (GoO.ldE' (K := kT_tontinelaw03_Thing) (A := A_2) (c := c_3) (xs := l_1) (iN := x_11.toNat) (off := 0) (j := 0) rfl (by kernel_rfl) rfl Reads.rd (idx_lt h13.1 h13.2) (by decide) (Opn.flat _ _ _ _ _) (v := fun _ => .agg ⟨[.int .i64 ((rdL l_1 x_11).Kind), .int .u64 ((rdL l_1 x_11).Num), .string (bs ((rdL l_1 x_11).Text))]⟩) (fun _ => by kernel_rfl) _ (fun _ => rfl) (fun _ => ?_))
      refine OpTo.go (GoO.new rfl 41 (cs := [.int .i64 0, .int .u64 0, .string (bs [])]) (by kernel_rfl) _ (fun _ => rfl) (fun b_14 => ?_))
      refine GoO.exec (is := [3]) (hs := [.b 0]) (rest := []) (ks := [0, 3, 4, 6, 13, 14, 15]) (env' := [(0, .slice A_2 l_1.length c_3), (3, .pointer (some ⟨b_6, 0, none⟩)), (4, .int .i64 n_10), (6, .pointer (some ⟨b_14, 0, none⟩)), (13, .slice A_2 l_1.length c_3), (14, .int .i64 (l_1.length : Int)), (15, .int .i64 x_11)]) (H' := [⟨41, b_14, [.int .i64 ((rdL l_1 x_11).Kind), .int .u64 ((rdL l_1 x_11).Num), .string (bs ((rdL l_1 x_11).Text))]⟩, ⟨40, b_6, [.slice A_8 f_7.length c_9]⟩]) (ps := [b_14 = b_14]) (by kernel_rfl) (And.intro rfl trivial) ?_
      refine GoO.regionEnd ?_
      refine GoO.seq' c10_29e ?_
      refine GoO.seq' c10_30e ?_
      refine GoO.region' (is := [0, 1, 2]) c10_31e (by kernel_rfl) ?_
      refine GoO.exec (is := [0, 1, 2]) (hs := [.p, .p, .p]) (rest := []) (ks := [0, 3, 4, 6, 13, 14, 15]) (env' := [(0, .slice A_2 l_1.length c_3), (3, .pointer (some ⟨b_6, 0, none⟩)), (4, .int .i64 (wi64 (n_10 + 1))), (6, .pointer (some ⟨b_14, 0, none⟩)), (13, .slice A_2 l_1.length c_3), (14, .int .i64 (l_1.length : Int)), (15, .int .i64 x_11)]) (H' := [⟨41, b_14, [.int .i64 ((rdL l_1 x_11).Kind), .int .u64 ((rdL l_1 x_11).Num), .string (bs ((rdL l_1 x_11).Text))]⟩, ⟨40, b_6, [.slice A_8 f_7.length c_9]⟩]) (ps := []) (by kernel_rfl) trivial ?_
      refine GoO.regionEnd ?_
      refine GoO.seq' c10_32e ?_
      refine GoO.region' (is := [0, 1, 2, 3, 4, 5, 6, 7]) c10_33e (by kernel_rfl) ?_
      refine GoO.exec (is := [0, 1, 2]) (hs := [.p, .p, .p]) (rest := [3, 4, 5, 6, 7]) (ks := [0, 3, 4, 6, 13, 14, 15, 23]) (env' := [(0, .slice A_2 l_1.length c_3), (3, .pointer (some ⟨b_6, 0, none⟩)), (4, .int .i64 (wi64 (n_10 + 1))), (6, .pointer (some ⟨b_14, 0, none⟩)), (13, .slice A_2 l_1.length c_3), (14, .int .i64 (l_1.length : Int)), (15, .int .i64 x_11), (23, .bool (decide ((wi64 (n_10 + 1)) > 200)))]) (H' := [⟨41, b_14, [.int .i64 ((rdL l_1 x_11).Kind), .int .u64 ((rdL l_1 x_11).Num), .string (bs ((rdL l_1 x_11).Text))]⟩, ⟨40, b_6, [.slice A_8 f_7.length c_9]⟩]) (ps := []) (by kernel_rfl) trivial ?_
      refine GoO.bsplit (t := 23) (by kernel_rfl) (fun h15 => ?_) (fun h15 => ?_)
      · refine GoO.exec (is := [3, 4, 5, 6, 7]) (hs := [.p, .p, .p, .p, .p]) (rest := []) (ks := [0, 3, 4, 6, 13, 14, 15, 28]) (env' := [(0, .slice A_2 l_1.length c_3), (3, .pointer (some ⟨b_6, 0, none⟩)), (4, .int .i64 (wi64 (n_10 + 1))), (6, .pointer (some ⟨b_14, 0, none⟩)), (13, .slice A_2 l_1.length c_3), (14, .int .i64 (l_1.length : Int)), (15, .int .i64 x_11), (28, .bool true)]) (H' := [⟨41, b_14, [.int .i64 ((rdL l_1 x_11).Kind), .int .u64 ((rdL l_1 x_11).Num), .string (bs ((rdL l_1 x_11).Text))]⟩, ⟨40, b_6, [.slice A_8 f_7.length c_9]⟩]) (ps := []) (by kernel_rfl) trivial ?_
        refine GoO.regionEnd ?_
        exact GoO.sub (ks := [0, 3, 4, 6, 13, 14, 15, 28]) (hk := [1, 0]) (bk := [0, 1]) (by kernel_rfl) (by kernel_rfl) (by kernel_rfl) (tontinelaw03_PackBack_j0_ok n (tontinelaw03_PackBack.l0 n l_1 k) l_1 f_7 n_10 x_11 A_2 c_3 b_6 A_8 c_9 b_14 w0 S0 ih0 true)
      · refine GoO.exec (is := [3, 4, 5, 6, 7]) (hs := [.p, .b 0, .p, .p, .p]) (rest := []) (ks := [0, 3, 4, 6, 13, 14, 15, 28]) (env' := [(0, .slice A_2 l_1.length c_3), (3, .pointer (some ⟨b_6, 0, none⟩)), (4, .int .i64 (wi64 (n_10 + 1))), (6, .pointer (some ⟨b_14, 0, none⟩)), (13, .slice A_2 l_1.length c_3), (14, .int .i64 (l_1.length : Int)), (15, .int .i64 x_11), (28, .bool (decide ((((rdL l_1 x_11).Text).length : Int) > 1000)))]) (H' := [⟨41, b_14, [.int .i64 ((rdL l_1 x_11).Kind), .int .u64 ((rdL l_1 x_11).Num), .string (bs ((rdL l_1 x_11).Text))]⟩, ⟨40, b_6, [.slice A_8 f_7.length c_9]⟩]) (ps := [b_14 = b_14]) (by kernel_rfl) (And.intro rfl trivial) ?_
        refine GoO.regionEnd ?_
        exact GoO.sub (ks := [0, 3, 4, 6, 13, 14, 15, 28]) (hk := [1, 0]) (bk := [0, 1]) (by kernel_rfl) (by kernel_rfl) (by kernel_rfl) (tontinelaw03_PackBack_j0_ok n (tontinelaw03_PackBack.l0 n l_1 k) l_1 f_7 n_10 x_11 A_2 c_3 b_6 A_8 c_9 b_14 w0 S0 ih0 (decide ((((rdL l_1 x_11).Text).length : Int) > 1000)))
    · refine GoO.exit' c10_24e rfl ?_
      refine GoO.seq' c10_41e ?_
      refine GoO.region' (is := [0, 1, 2, 3]) c10_42e (by kernel_rfl) ?_
      refine GoO.exec (is := [0]) (hs := [.p]) (rest := [1, 2, 3]) (ks := [0, 46]) (env' := [(0, .slice A_2 l_1.length c_3), (46, .pointer (some ⟨b_6, 0, none⟩))]) (H' := [⟨40, b_6, [.slice A_8 f_7.length c_9]⟩]) (ps := []) (by kernel_rfl) trivial ?_
      refine OpTo.go (GoO.call rfl (by kernel_rfl) (by kernel_rfl) (pack_Writer_Bytes_ok n (⟨f_7⟩ : T_pack_Writer) b_6 A_8 c_9) [[0], [40], [42]] [] [(1, 0)] [(2, 1)] (hks := [0]) (bks := [0, 1]) (by kernel_rfl) (by kernel_rfl) (by kernel_rfl) (.inl rfl) rfl rfl (by kernel_rfl) (by kernel_rfl) _ (fun _ _ => rfl) _ _ (fun _ _ => rfl) (fun _ _ => rfl) (fun _ _ => by kernel_rfl) (fun _ _ => by kernel_rfl) (fun r_34 x_57 => ?_))
      refine GoO.shape (env' := [(0, .slice A_2 l_1.length c_3), (46, .pointer (some ⟨b_6, 0, none⟩)), (47, .string (bs r_34))]) (H' := [⟨40, b_6, [.slice A_8 f_7.length c_9]⟩]) (B' := [Rd 0 kT_tontinelaw03_Thing A_2 c_3 l_1, Ow 42 Kd.u8 A_8 c_9 f_7]) (ks := [0, 46, 47]) (by kernel_rfl) (by kernel_rfl) (by kernel_rfl) ?_
      refine OpTo.go (GoO.call rfl (by kernel_rfl) (by kernel_rfl) (pack_From_ok n r_34) [[0]] [(43, 1)] [] [] (hks := [0]) (bks := [0, 1]) (by kernel_rfl) (by kernel_rfl) (by kernel_rfl) (.inl rfl) rfl rfl (by kernel_rfl) (by kernel_rfl) _ (fun _ _ => rfl) _ _ (fun _ _ => rfl) (fun _ _ => rfl) (fun _ _ => by kernel_rfl) (fun _ _ => by kernel_rfl) (fun r_35 b_36 => ?_))
      refine GoO.shape (env' := [(0, .slice A_2 l_1.length c_3), (46, .pointer (some ⟨b_6, 0, none⟩)), (47, .string (bs r_34)), (48, .pointer (some ⟨b_36, 0, none⟩))]) (H' := [⟨43, b_36, [.string (bs r_35.s), .bool r_35.bad]⟩, ⟨40, b_6, [.slice A_8 f_7.length c_9]⟩]) (B' := [Rd 0 kT_tontinelaw03_Thing A_2 c_3 l_1, Ow 42 Kd.u8 A_8 c_9 f_7]) (ks := [0, 46, 47, 48]) (by kernel_rfl) (by kernel_rfl) (by kernel_rfl) ?_
      refine GoO.exec (is := [3]) (hs := [.p]) (rest := []) (ks := [0, 7]) (env' := [(0, .slice A_2 l_1.length c_3), (7, .pointer (some ⟨b_36, 0, none⟩))]) (H' := [⟨43, b_36, [.string (bs r_35.s), .bool r_35.bad]⟩, ⟨40, b_6, [.slice A_8 f_7.length c_9]⟩]) (ps := []) (by kernel_rfl) trivial ?_
      refine GoO.regionEnd ?_
      refine GoO.seq' c10_43e ?_
      refine GoO.seq' c10_44e ?_
      refine GoO.region' (is := [0, 1, 2]) c10_45e (by kernel_rfl) ?_
      refine GoO.exec (is := [0, 1, 2]) (hs := [.p, .p, .p]) (rest := []) (ks := [7, 49, 50, 51]) (env' := [(7, .pointer (some ⟨b_36, 0, none⟩)), (49, .slice A_2 l_1.length c_3), (50, .int .i64 (l_1.length : Int)), (51, .int .i64 0)]) (H' := [⟨43, b_36, [.string (bs r_35.s), .bool r_35.bad]⟩, ⟨40, b_6, [.slice A_8 f_7.length c_9]⟩]) (ps := []) (by kernel_rfl) trivial ?_
      refine GoO.regionEnd ?_
      refine GoO.block' c10_46e ?_
      refine GoO.loop' c10_47e ?_
      exact GoO.sub (ks := [7, 49, 50, 51]) (hk := [0]) (bk := [0]) (by kernel_rfl) (by kernel_rfl) (by kernel_rfl) (tontinelaw03_PackBack_l1_ok n l_1 A_2 c_3 b_36 w0 S0 n r_35.s r_35.bad 0)
theorem tontinelaw03_PackBack_ok (n : Nat) (l_1 : (List T_tontinelaw03_Thing)) (A_2 : Option Addr) (c_3 : Nat) :
    Meets Try.prog 10 [.slice A_2 l_1.length c_3] 0 [] [] [Rd 0 kT_tontinelaw03_Thing A_2 c_3 l_1] (tontinelaw03_PackBack.f n l_1) (tontinelaw03_PackBack.R A_2 c_3) := by
  refine Meets.of (c := c10_0) (n := 90) Try.func10 (by kernel_rfl) (by kernel_rfl) (by kernel_rfl) fun w0 S0 => ?_
  unfold tontinelaw03_PackBack.f
  show GoO (tontinelaw03_PackBack.cx A_2 c_3 w0 S0) [(0, .slice A_2 l_1.length c_3)] [] [Rd 0 kT_tontinelaw03_Thing A_2 c_3 l_1] [.code c10_0] _
  refine GoO.seq' c10_0e ?_
  refine GoO.region' (is := [0]) c10_1e (by kernel_rfl) ?_
  refine GoO.exec (is := [0]) (hs := [.p]) (rest := []) (ks := [0]) (env' := [(0, .slice A_2 l_1.length c_3)]) (H' := []) (ps := []) (by kernel_rfl) trivial ?_
  refine GoO.regionEnd ?_
  refine GoO.seq' c10_2e ?_
  refine GoO.seq' c10_3e ?_
  refine GoO.region' (is := [0, 1]) c10_4e (by kernel_rfl) ?_
  refine OpTo.go (GoO.call rfl (by kernel_rfl) (by kernel_rfl) (tontinelaw03_begun_ok n) [[0]] [] [] [] (hks := []) (bks := [0]) (by kernel_rfl) (by kernel_rfl) (by kernel_rfl) (.inl rfl) rfl rfl (by kernel_rfl) (by kernel_rfl) _ (fun _ _ => rfl) _ _ (fun _ _ => rfl) (fun _ _ => rfl) (fun _ _ => by kernel_rfl) (fun _ _ => by kernel_rfl) (fun r_4 x_58 => ?_))
  refine GoO.shape (env' := [(0, .slice A_2 l_1.length c_3), (10, .bool r_4)]) (H' := []) (B' := [Rd 0 kT_tontinelaw03_Thing A_2 c_3 l_1]) (ks := [0, 10]) (by kernel_rfl) (by kernel_rfl) (by kernel_rfl) ?_
  refine GoO.exec (is := [1]) (hs := [.p]) (rest := []) (ks := [0, 11]) (env' := [(0, .slice A_2 l_1.length c_3), (11, .bool (!r_4))]) (H' := []) (ps := []) (by kernel_rfl) trivial ?_
  refine GoO.regionEnd ?_
  refine GoO.ite' c10_5e (by kernel_rfl) (fun h5 => ?_) (fun h5 => ?_)
  · refine GoO.seq' c10_6e ?_
    refine GoO.region' (is := [0]) c10_7e (by kernel_rfl) ?_
    refine GoO.exec (is := [0]) (hs := [.p]) (rest := []) (ks := [2]) (env' := [(2, .bool false)]) (H' := []) (ps := []) (by kernel_rfl) trivial ?_
    refine GoO.regionEnd ?_
    exact GoO.ret' (h := c10_8e) (hs := []) (ps := []) (hk := []) (bk := []) Try.func10 () (by kernel_rfl) trivial (by kernel_rfl) (by kernel_rfl)
  · refine GoO.skip' c10_9e ?_
    refine GoO.seq' c10_10e ?_
    refine GoO.region' (is := [0, 1]) c10_11e (by kernel_rfl) ?_
    refine OpTo.go (GoO.new rfl 40 (cs := [.slice none ([] : List UInt8).length 0]) (by kernel_rfl) _ (fun _ => rfl) (fun b_6 => ?_))
    refine GoO.exec (is := [1]) (hs := [.p]) (rest := []) (ks := [0, 3]) (env' := [(0, .slice A_2 l_1.length c_3), (3, .pointer (some ⟨b_6, 0, none⟩))]) (H' := [⟨40, b_6, [.slice none ([] : List UInt8).length 0]⟩]) (ps := []) (by kernel_rfl) trivial ?_
    refine GoO.regionEnd ?_
    refine GoO.seq' c10_12e ?_
    refine GoO.region' (is := [0]) c10_13e (by kernel_rfl) ?_
    refine GoO.exec (is := [0]) (hs := [.p]) (rest := []) (ks := [0, 3, 4]) (env' := [(0, .slice A_2 l_1.length c_3), (3, .pointer (some ⟨b_6, 0, none⟩)), (4, .int .i64 0)]) (H' := [⟨40, b_6, [.slice none ([] : List UInt8).length 0]⟩]) (ps := []) (by kernel_rfl) trivial ?_
    refine GoO.regionEnd ?_
    refine GoO.seq' c10_14e ?_
    refine GoO.seq' c10_15e ?_
    refine GoO.region' (is := [0, 1, 2]) c10_16e (by kernel_rfl) ?_
    refine GoO.exec (is := [0, 1, 2]) (hs := [.p, .p, .p]) (rest := []) (ks := [0, 3, 4, 13, 14, 15]) (env' := [(0, .slice A_2 l_1.length c_3), (3, .pointer (some ⟨b_6, 0, none⟩)), (4, .int .i64 0), (13, .slice A_2 l_1.length c_3), (14, .int .i64 (l_1.length : Int)), (15, .int .i64 0)]) (H' := [⟨40, b_6, [.slice none ([] : List UInt8).length 0]⟩]) (ps := []) (by kernel_rfl) trivial ?_
    refine GoO.regionEnd ?_
    refine GoO.block' c10_17e ?_
    refine GoO.loop' c10_18e ?_
    refine GoO.nilOwn Kd.u8 42 ?_
    exact GoO.sub (ks := [0, 3, 4, 13, 14, 15]) (hk := [0]) (bk := [1, 0]) (by kernel_rfl) (by kernel_rfl) (by kernel_rfl) (tontinelaw03_PackBack_l0_ok n l_1 A_2 c_3 b_6 w0 S0 n ([] : List UInt8) 0 0 none 0)
end Go.GL
