import Derived.Test.YtcpcdnjpdblhoaaKindsT1
import Derived.Test.YtcpcdnjpdblhoaaProg
set_option linter.unusedVariables false
set_option linter.unusedSimpArgs false
set_option maxRecDepth 100000
namespace Go.GL
open Go Go.Proofs

/-! (*tontine/pack.Writer).Num -/
noncomputable def c17_0 : Code := bodyOf Try.f17
noncomputable def c17_1 : Code := cdL c17_0
noncomputable def c17_2 : Code := cdR c17_0
noncomputable def c17_3 : Code := cdL c17_2
noncomputable def c17_4 : Code := cdL c17_3
noncomputable def c17_5 : Code := cdR c17_3
noncomputable def c17_9 : Code := cdR c17_5
noncomputable def c17_10 : Code := cdR c17_2
noncomputable def c17_11 : Code := cdL c17_10
noncomputable def c17_12 : Code := cdR c17_10
noncomputable def c17_13 : Code := cdL c17_12
noncomputable def c17_14 : Code := cdL c17_13
noncomputable def c17_15 : Code := cdR c17_13
noncomputable def c17_16 : Code := cdL c17_15
noncomputable def c17_17 : Code := cdL c17_16
noncomputable def c17_18 : Code := cdL c17_17
noncomputable def c17_19 : Code := cdL c17_18
noncomputable def c17_20 : Code := cdR c17_18
noncomputable def c17_21 : Code := cdL c17_20
noncomputable def c17_22 : Code := cdR c17_20
noncomputable def c17_23 : Code := cdR c17_17
noncomputable def c17_24 : Code := cdL c17_23
noncomputable def c17_25 : Code := cdL c17_24
noncomputable def c17_26 : Code := cdR c17_23
noncomputable def c17_27 : Code := cdR c17_12
noncomputable def c17_28 : Code := cdL c17_27
noncomputable def c17_29 : Code := cdR c17_27
noncomputable def c17_30 : Code := cdL c17_29
noncomputable def c17_31 : Code := cdL c17_30
noncomputable def c17_32 : Code := cdR c17_30
noncomputable def c17_33 : Code := cdL c17_32
noncomputable def c17_34 : Code := cdL c17_33
noncomputable def c17_35 : Code := cdL c17_34
noncomputable def c17_36 : Code := cdL c17_35
noncomputable def c17_37 : Code := cdR c17_35
noncomputable def c17_38 : Code := cdL c17_37
noncomputable def c17_39 : Code := cdR c17_37
noncomputable def c17_40 : Code := cdR c17_34
noncomputable def c17_41 : Code := cdL c17_40
noncomputable def c17_42 : Code := cdL c17_41
noncomputable def c17_43 : Code := cdR c17_40
noncomputable def c17_44 : Code := cdR c17_29
noncomputable def c17_45 : Code := cdL c17_44
noncomputable def c17_46 : Code := cdR c17_44
noncomputable def c17_6 : Code := cdL c17_5
noncomputable def r17_1 : Array Oper := cdO c17_1
noncomputable def r17_4 : Array Oper := cdO c17_4
noncomputable def r17_11 : Array Oper := cdO c17_11
noncomputable def r17_14 : Array Oper := cdO c17_14
noncomputable def r17_19 : Array Oper := cdO c17_19
noncomputable def r17_25 : Array Oper := cdO c17_25
noncomputable def r17_26 : Array Oper := cdO c17_26
noncomputable def r17_28 : Array Oper := cdO c17_28
noncomputable def r17_31 : Array Oper := cdO c17_31
noncomputable def r17_36 : Array Oper := cdO c17_36
noncomputable def r17_42 : Array Oper := cdO c17_42
noncomputable def r17_43 : Array Oper := cdO c17_43
noncomputable def r17_45 : Array Oper := cdO c17_45
theorem c17_0e : c17_0 = .seq c17_1 c17_2 := by kernel_rfl
theorem c17_1e : c17_1 = .region 0 r17_1 false := by kernel_rfl
theorem c17_2e : c17_2 = .seq c17_3 c17_10 := by kernel_rfl
theorem c17_3e : c17_3 = .seq c17_4 c17_5 := by kernel_rfl
theorem c17_4e : c17_4 = .region 1 r17_4 false := by kernel_rfl
theorem c17_5e : c17_5 = .cond (cdC c17_5) c17_6 c17_9 := by kernel_rfl
theorem c17_9e : c17_9 = .skip := by kernel_rfl
theorem c17_10e : c17_10 = .seq c17_11 c17_12 := by kernel_rfl
theorem c17_11e : c17_11 = .region 3 r17_11 false := by kernel_rfl
theorem c17_12e : c17_12 = .seq c17_13 c17_27 := by kernel_rfl
theorem c17_13e : c17_13 = .seq c17_14 c17_15 := by kernel_rfl
theorem c17_14e : c17_14 = .region 4 r17_14 false := by kernel_rfl
theorem c17_15e : c17_15 = .block 0 c17_16 := by kernel_rfl
theorem c17_16e : c17_16 = .loop c17_17 := by kernel_rfl
theorem c17_17e : c17_17 = .seq c17_18 c17_23 := by kernel_rfl
theorem c17_18e : c17_18 = .seq c17_19 c17_20 := by kernel_rfl
theorem c17_19e : c17_19 = .region 5 r17_19 false := by kernel_rfl
theorem c17_20e : c17_20 = .cond (cdC c17_20) c17_21 c17_22 := by kernel_rfl
theorem c17_21e : c17_21 = .skip := by kernel_rfl
theorem c17_22e : c17_22 = .exit 0 := by kernel_rfl
theorem c17_23e : c17_23 = .seq c17_24 c17_26 := by kernel_rfl
theorem c17_24e : c17_24 = .block 1 c17_25 := by kernel_rfl
theorem c17_25e : c17_25 = .region 7 r17_25 false := by kernel_rfl
theorem c17_26e : c17_26 = .region 6 r17_26 false := by kernel_rfl
theorem c17_27e : c17_27 = .seq c17_28 c17_29 := by kernel_rfl
theorem c17_28e : c17_28 = .region 8 r17_28 false := by kernel_rfl
theorem c17_29e : c17_29 = .seq c17_30 c17_44 := by kernel_rfl
theorem c17_30e : c17_30 = .seq c17_31 c17_32 := by kernel_rfl
theorem c17_31e : c17_31 = .region 9 r17_31 false := by kernel_rfl
theorem c17_32e : c17_32 = .block 2 c17_33 := by kernel_rfl
theorem c17_33e : c17_33 = .loop c17_34 := by kernel_rfl
theorem c17_34e : c17_34 = .seq c17_35 c17_40 := by kernel_rfl
theorem c17_35e : c17_35 = .seq c17_36 c17_37 := by kernel_rfl
theorem c17_36e : c17_36 = .region 10 r17_36 false := by kernel_rfl
theorem c17_37e : c17_37 = .cond (cdC c17_37) c17_38 c17_39 := by kernel_rfl
theorem c17_38e : c17_38 = .skip := by kernel_rfl
theorem c17_39e : c17_39 = .exit 2 := by kernel_rfl
theorem c17_40e : c17_40 = .seq c17_41 c17_43 := by kernel_rfl
theorem c17_41e : c17_41 = .block 3 c17_42 := by kernel_rfl
theorem c17_42e : c17_42 = .region 12 r17_42 true := by kernel_rfl
theorem c17_43e : c17_43 = .region 11 r17_43 false := by kernel_rfl
theorem c17_44e : c17_44 = .seq c17_45 c17_46 := by kernel_rfl
theorem c17_45e : c17_45 = .region 13 r17_45 false := by kernel_rfl
theorem c17_46e : c17_46 = .ret := by kernel_rfl
noncomputable def pack_Writer_Num.R (b_2 : Nat) (A_3 : Option Addr) (c_4 : Nat) : Pst T_pack_Writer where
  ε := Option Addr × Nat
  v := fun r x => .pointer (some ⟨b_2, 0, none⟩)
  H := fun r x => [⟨1, b_2, [.slice x.1 r.b.length x.2]⟩]
  B := fun r x => [Ow 2 Kd.u8 x.1 x.2 r.b]
noncomputable def pack_Writer_Num.cx (b_2 : Nat) (A_3 : Option Addr) (c_4 : Nat) (w0 : World) (S0 : Fam) : Cx T_pack_Writer := ⟨Try.prog, 17, Try.f17, 49, w0, S0, [1, 2], 2, pack_Writer_Num.R b_2 A_3 c_4⟩
theorem pack_Writer_Num_l1_ok (n : Nat) (x_5 : Int) (b_2 : Nat) (A_3 : Option Addr) (c_4 : Nat) (w0 : World) (S0 : Fam) :
    ∀ (k : Nat) (f_14 : (List UInt8)) (i_17 : Int) (A_15 : Option Addr) (c_16 : Nat), GoO (pack_Writer_Num.cx b_2 A_3 c_4 w0 S0) [(0, .pointer (some ⟨b_2, 0, none⟩)), (1, .int .u64 x_5), (7, .int .i64 i_17)] [⟨1, b_2, [.slice A_15 f_14.length c_16]⟩] [Ow 2 Kd.u8 A_15 c_16 f_14] [.code c17_34, .inLoop c17_34, .inBlock 2, .code c17_44] (pack_Writer_Num.l1 n x_5 k f_14 i_17) := by
  intro k
  induction k with
  | zero => intros; rw [pack_Writer_Num.l1.eq_1]; exact GoO.stop
  | succ k ih1 =>
    intro f_14 i_17 A_15 c_16
    rw [pack_Writer_Num.l1.eq_2]
    refine GoO.seq' c17_34e ?_
    refine GoO.seq' c17_35e ?_
    refine GoO.region' (is := [0, 1]) c17_36e (by kernel_rfl) ?_
    refine GoO.exec (is := [0, 1]) (hs := [.p, .p]) (rest := []) (ks := [0, 1, 7, 31]) (env' := [(0, .pointer (some ⟨b_2, 0, none⟩)), (1, .int .u64 x_5), (7, .int .i64 i_17), (31, .bool (decide (i_17 ≥ 0)))]) (H' := [⟨1, b_2, [.slice A_15 f_14.length c_16]⟩]) (ps := []) (by kernel_rfl) trivial ?_
    refine GoO.regionEnd ?_
    refine GoO.ite' c17_37e (by kernel_rfl) (fun h18 => ?_) (fun h18 => ?_)
    · refine GoO.skip' c17_38e ?_
      refine GoO.seq' c17_40e ?_
      refine GoO.block' c17_41e ?_
      refine GoO.draw c17_42e (by kernel_rfl) [12, 13, 14] [⟨1, b_2, [.slice A_15 f_14.length c_16]⟩] [] (n := 15) (by kernel_rfl) ?_
      simp only [List.replicate]
      refine GoF.guard (fun h19 => ?_)
      refine GoF.take [0, 1, 2, 3, 4, 5, 6, 7, 8, 9] [.p, .p, .p, .p, .b 0, .p, .p, .p, .p, .p] (ks := [0, 1, 7, 34, 38, 43]) (fu := 5) (li := [true, true, true, true, true, true, true, true, true, true, false, false, false, false, false]) (env' := [(0, .pointer (some ⟨b_2, 0, none⟩)), (1, .int .u64 x_5), (7, .int .i64 i_17), (34, .pointer (some ⟨b_2, 0, none⟩)), (38, .slice A_15 f_14.length c_16), (43, .int .u8 (wu8 (shR .u64 x_5 (wi64 (8 * i_17)))))]) (ps := [b_2 = b_2, (0 : Int) ≤ (wi64 (8 * i_17))]) (hk := [0]) (bk := []) (by kernel_rfl) (And.intro rfl (And.intro h19 trivial)) rfl rfl ?_
      refine OpTo.goF (i := 10) (by kernel_rfl) (hk := [0]) (bk := []) (GoO.lit (e := 5) (K := Kd.u8) rfl (by kernel_rfl) (by kernel_rfl) (cs := [.int .u8 (wu8 (shR .u64 x_5 (wi64 (8 * i_17))))]) (by kernel_rfl) [u8of (shR .u64 x_5 (wi64 (8 * i_17)))] (by kernel_rfl) (by kernel_rfl) (fun w S hB => ⟨[.int .u8 (wu8 (shR .u64 x_5 (wi64 (8 * i_17))))], _, rfl, congrArg (fun v => [v]) (u8cell _), rfl⟩) 41 _ (fun _ _ => rfl) (fun A_20 c_21 => ⟨rfl, rfl, ?_⟩))
      refine GoF.guard (fun h22 => ?_)
      refine OpTo.goF (i := 11) (by kernel_rfl) (hk := [0]) (bk := []) (GoO.appW (e := 5) (K := Kd.u8) (A := A_15) (c := c_16) (tg := 2) (bytes := 1) (zs := [.int .u8 0]) (xs := f_14) (ys := [u8of (shR .u64 x_5 (wi64 (8 * i_17)))]) (xv := .slice A_20 [u8of (shR .u64 x_5 (wi64 (8 * i_17)))].length c_21) (j := 1) (bk := [0]) rfl (by kernel_rfl) (by kernel_rfl) (by kernel_rfl) (by kernel_rfl) rfl (by kernel_rfl) rfl (fun w S hB => SrcIs.row (Reads.own w S (hB _ (List.mem_of_getElem? (i := 0) rfl)))) h22 rfl rfl rfl rfl _ (fun _ _ => rfl) (fun A_23 c_24 => ⟨rfl, rfl, ?_⟩))
      refine GoF.fin1 (i := 12) (hint := .p) (ps := []) (hk := []) (bk := []) (by kernel_rfl) rfl trivial (.inl rfl) ?_
      refine GoF.fin1 (i := 13) (hint := .p) (ps := []) (hk := []) (bk := []) (by kernel_rfl) rfl trivial (.inl rfl) ?_
      refine GoF.fin1 (i := 14) (hint := .b 0) (ps := [b_2 = b_2]) (hk := []) (bk := []) (by kernel_rfl) rfl (And.intro rfl trivial) (.inl rfl) ?_
      refine GoF.done (by kernel_rfl) ?_
      refine GoO.inBlock ?_
      refine GoO.region' (is := [0, 1, 2]) c17_43e (by kernel_rfl) ?_
      refine GoO.exec (is := [0, 1, 2]) (hs := [.p, .p, .p]) (rest := []) (ks := [0, 1, 7]) (env' := [(0, .pointer (some ⟨b_2, 0, none⟩)), (1, .int .u64 x_5), (7, .int .i64 (wi64 (i_17 - 1)))]) (H' := [⟨1, b_2, [.slice A_23 (f_14 ++ [u8of (shR .u64 x_5 (wi64 (8 * i_17)))]).length c_24]⟩]) (ps := []) (by kernel_rfl) trivial ?_
      refine GoO.regionEnd ?_
      refine GoO.inLoop ?_
      exact GoO.sub (ks := [0, 1, 7]) (hk := [0]) (bk := [0]) (by kernel_rfl) (by kernel_rfl) (by kernel_rfl) (ih1 (f_14 ++ [u8of (shR .u64 x_5 (wi64 (8 * i_17)))]) (wi64 (i_17 - 1)) A_23 c_24)
    · refine GoO.exit' c17_39e rfl ?_
      refine GoO.seq' c17_44e ?_
      refine GoO.region' (is := [0, 1]) c17_45e (by kernel_rfl) ?_
      refine GoO.exec (is := [0, 1]) (hs := [.p, .p]) (rest := []) (ks := [4]) (env' := [(4, .pointer (some ⟨b_2, 0, none⟩))]) (H' := [⟨1, b_2, [.slice A_15 f_14.length c_16]⟩]) (ps := []) (by kernel_rfl) trivial ?_
      refine GoO.regionEnd ?_
      exact GoO.ret' (h := c17_46e) (hs := []) (ps := []) (hk := [0]) (bk := [0]) Try.func17 (⟨A_15, c_16⟩ : Option Addr × Nat) (by kernel_rfl) trivial (by kernel_rfl) (by kernel_rfl)
theorem pack_Writer_Num_l0_ok (n : Nat) (w_1 : T_pack_Writer) (x_5 : Int) (b_2 : Nat) (A_3 : Option Addr) (c_4 : Nat) (w0 : World) (S0 : Fam) :
    ∀ (k : Nat) (n_6 : Int) (y_7 : Int), GoO (pack_Writer_Num.cx b_2 A_3 c_4 w0 S0) [(0, .pointer (some ⟨b_2, 0, none⟩)), (1, .int .u64 x_5), (5, .int .i64 n_6), (6, .int .u64 y_7)] [⟨1, b_2, [.slice A_3 w_1.b.length c_4]⟩] [Ow 2 Kd.u8 A_3 c_4 w_1.b] [.code c17_17, .inLoop c17_17, .inBlock 0, .code c17_27] (pack_Writer_Num.l0 n w_1 x_5 k n_6 y_7) := by
  intro k
  induction k with
  | zero => intros; rw [pack_Writer_Num.l0.eq_1]; exact GoO.stop
  | succ k ih0 =>
    intro n_6 y_7
    rw [pack_Writer_Num.l0.eq_2]
    refine GoO.seq' c17_17e ?_
    refine GoO.seq' c17_18e ?_
    refine GoO.region' (is := [0, 1]) c17_19e (by kernel_rfl) ?_
    refine GoO.exec (is := [0, 1]) (hs := [.p, .p]) (rest := []) (ks := [0, 1, 5, 6, 12]) (env' := [(0, .pointer (some ⟨b_2, 0, none⟩)), (1, .int .u64 x_5), (5, .int .i64 n_6), (6, .int .u64 y_7), (12, .bool (decide (y_7 > 0)))]) (H' := [⟨1, b_2, [.slice A_3 w_1.b.length c_4]⟩]) (ps := []) (by kernel_rfl) trivial ?_
    refine GoO.regionEnd ?_
    refine GoO.ite' c17_20e (by kernel_rfl) (fun h8 => ?_) (fun h8 => ?_)
    · refine GoO.skip' c17_21e ?_
      refine GoO.seq' c17_23e ?_
      refine GoO.block' c17_24e ?_
      refine GoO.region' (is := [0, 1, 2]) c17_25e (by kernel_rfl) ?_
      refine GoO.exec (is := [0, 1, 2]) (hs := [.p, .p, .p]) (rest := []) (ks := [0, 1, 5, 6]) (env' := [(0, .pointer (some ⟨b_2, 0, none⟩)), (1, .int .u64 x_5), (5, .int .i64 (wi64 (n_6 + 1))), (6, .int .u64 y_7)]) (H' := [⟨1, b_2, [.slice A_3 w_1.b.length c_4]⟩]) (ps := []) (by kernel_rfl) trivial ?_
      refine GoO.regionEnd ?_
      refine GoO.inBlock ?_
      refine GoO.region' (is := [0, 1, 2]) c17_26e (by kernel_rfl) ?_
      refine GoO.exec (is := [0, 1, 2]) (hs := [.p, .p, .p]) (rest := []) (ks := [0, 1, 5, 6]) (env' := [(0, .pointer (some ⟨b_2, 0, none⟩)), (1, .int .u64 x_5), (5, .int .i64 (wi64 (n_6 + 1))), (6, .int .u64 (shR .u64 y_7 8))]) (H' := [⟨1, b_2, [.slice A_3 w_1.b.length c_4]⟩]) (ps := [(0 : Int) ≤ 8]) (by kernel_rfl) (And.intro (by decide) trivial) ?_
      refine GoO.regionEnd ?_
      refine GoO.inLoop ?_
      exact GoO.sub (ks := [0, 1, 5, 6]) (hk := [0]) (bk := [0]) (by kernel_rfl) (by kernel_rfl) (by kernel_rfl) (ih0 (wi64 (n_6 + 1)) (shR .u64 y_7 8))
    · refine GoO.exit' c17_22e rfl ?_
      refine GoO.seq' c17_27e ?_
      refine GoO.region' (is := [0, 1, 2, 3, 4, 5, 6, 7, 8, 9, 10, 11]) c17_28e (by kernel_rfl) ?_
      refine GoO.exec (is := [0, 1, 2, 3, 4, 5, 6]) (hs := [.p, .p, .p, .p, .b 0, .p, .p]) (rest := [7, 8, 9, 10, 11]) (ks := [0, 1, 5, 17, 21, 23]) (env' := [(0, .pointer (some ⟨b_2, 0, none⟩)), (1, .int .u64 x_5), (5, .int .i64 n_6), (17, .pointer (some ⟨b_2, 0, none⟩)), (21, .slice A_3 w_1.b.length c_4), (23, .int .u8 (wu8 n_6))]) (H' := [⟨1, b_2, [.slice A_3 w_1.b.length c_4]⟩]) (ps := [b_2 = b_2]) (by kernel_rfl) (And.intro rfl trivial) ?_
      refine OpTo.go (GoO.lit (e := 5) (K := Kd.u8) rfl (by kernel_rfl) (by kernel_rfl) (cs := [.int .u8 (wu8 n_6)]) (by kernel_rfl) [u8of n_6] (by kernel_rfl) (by kernel_rfl) (fun w S hB => ⟨[.int .u8 (wu8 n_6)], _, rfl, congrArg (fun v => [v]) (u8cell _), rfl⟩) 40 _ (fun _ _ => rfl) (fun A_9 c_10 => ?_))
      refine GoO.guard (fun h11 => ?_)
      refine OpTo.go (GoO.appW (e := 5) (K := Kd.u8) (A := A_3) (c := c_4) (tg := 2) (bytes := 1) (zs := [.int .u8 0]) (xs := w_1.b) (ys := [u8of n_6]) (xv := .slice A_9 [u8of n_6].length c_10) (j := 1) (bk := [0]) rfl (by kernel_rfl) (by kernel_rfl) (by kernel_rfl) (by kernel_rfl) rfl (by kernel_rfl) rfl (fun w S hB => SrcIs.row (Reads.own w S (hB _ (List.mem_of_getElem? (i := 0) rfl)))) h11 rfl rfl rfl rfl _ (fun _ _ => rfl) (fun A_12 c_13 => ?_))
      refine GoO.exec (is := [9, 10, 11]) (hs := [.p, .p, .b 0]) (rest := []) (ks := [0, 1, 5]) (env' := [(0, .pointer (some ⟨b_2, 0, none⟩)), (1, .int .u64 x_5), (5, .int .i64 n_6)]) (H' := [⟨1, b_2, [.slice A_12 (w_1.b ++ [u8of n_6]).length c_13]⟩]) (ps := [b_2 = b_2]) (by kernel_rfl) (And.intro rfl trivial) ?_
      refine GoO.regionEnd ?_
      refine GoO.seq' c17_29e ?_
      refine GoO.seq' c17_30e ?_
      refine GoO.region' (is := [0, 1, 2]) c17_31e (by kernel_rfl) ?_
      refine GoO.exec (is := [0, 1, 2]) (hs := [.p, .p, .p]) (rest := []) (ks := [0, 1, 7]) (env' := [(0, .pointer (some ⟨b_2, 0, none⟩)), (1, .int .u64 x_5), (7, .int .i64 (wi64 (n_6 - 1)))]) (H' := [⟨1, b_2, [.slice A_12 (w_1.b ++ [u8of n_6]).length c_13]⟩]) (ps := []) (by kernel_rfl) trivial ?_
      refine GoO.regionEnd ?_
      refine GoO.block' c17_32e ?_
      refine GoO.loop' c17_33e ?_
      exact GoO.sub (ks := [0, 1, 7]) (hk := [0]) (bk := [0]) (by kernel_rfl) (by kernel_rfl) (by kernel_rfl) (pack_Writer_Num_l1_ok n x_5 b_2 A_3 c_4 w0 S0 n (w_1.b ++ [u8of n_6]) (wi64 (n_6 - 1)) A_12 c_13)
theorem pack_Writer_Num_ok (n : Nat) (w_1 : T_pack_Writer) (x_5 : Int) (b_2 : Nat) (A_3 : Option Addr) (c_4 : Nat) :
    Meets Try.prog 17 [.pointer (some ⟨b_2, 0, none⟩), .int .u64 x_5] 2 [1, 2] [⟨1, b_2, [.slice A_3 w_1.b.length c_4]⟩] [Ow 2 Kd.u8 A_3 c_4 w_1.b] (pack_Writer_Num.f n w_1 x_5) (pack_Writer_Num.R b_2 A_3 c_4) := by
  refine Meets.of (c := c17_0) (n := 49) Try.func17 (by kernel_rfl) (by kernel_rfl) (by kernel_rfl) fun w0 S0 => ?_
  unfold pack_Writer_Num.f
  show GoO (pack_Writer_Num.cx b_2 A_3 c_4 w0 S0) [(0, .pointer (some ⟨b_2, 0, none⟩)), (1, .int .u64 x_5)] [⟨1, b_2, [.slice A_3 w_1.b.length c_4]⟩] [Ow 2 Kd.u8 A_3 c_4 w_1.b] [.code c17_0] _
  refine GoO.seq' c17_0e ?_
  refine GoO.region' (is := [0]) c17_1e (by kernel_rfl) ?_
  refine GoO.exec (is := [0]) (hs := [.p]) (rest := []) (ks := [0, 1]) (env' := [(0, .pointer (some ⟨b_2, 0, none⟩)), (1, .int .u64 x_5)]) (H' := [⟨1, b_2, [.slice A_3 w_1.b.length c_4]⟩]) (ps := []) (by kernel_rfl) trivial ?_
  refine GoO.regionEnd ?_
  refine GoO.seq' c17_2e ?_
  refine GoO.seq' c17_3e ?_
  refine GoO.region' (is := [0, 1]) c17_4e (by kernel_rfl) ?_
  refine GoO.exec (is := [0, 1]) (hs := [.p, .p]) (rest := []) (ks := [0, 1, 9]) (env' := [(0, .pointer (some ⟨b_2, 0, none⟩)), (1, .int .u64 x_5), (9, .bool false)]) (H' := [⟨1, b_2, [.slice A_3 w_1.b.length c_4]⟩]) (ps := []) (by kernel_rfl) trivial ?_
  refine GoO.regionEnd ?_
  refine GoO.condF c17_5e (by kernel_rfl) ?_
  refine GoO.skip' c17_9e ?_
  refine GoO.seq' c17_10e ?_
  refine GoO.region' (is := [0]) c17_11e (by kernel_rfl) ?_
  refine GoO.exec (is := [0]) (hs := [.p]) (rest := []) (ks := [0, 1, 5]) (env' := [(0, .pointer (some ⟨b_2, 0, none⟩)), (1, .int .u64 x_5), (5, .int .i64 0)]) (H' := [⟨1, b_2, [.slice A_3 w_1.b.length c_4]⟩]) (ps := []) (by kernel_rfl) trivial ?_
  refine GoO.regionEnd ?_
  refine GoO.seq' c17_12e ?_
  refine GoO.seq' c17_13e ?_
  refine GoO.region' (is := [0, 1]) c17_14e (by kernel_rfl) ?_
  refine GoO.exec (is := [0, 1]) (hs := [.p, .p]) (rest := []) (ks := [0, 1, 5, 6]) (env' := [(0, .pointer (some ⟨b_2, 0, none⟩)), (1, .int .u64 x_5), (5, .int .i64 0), (6, .int .u64 x_5)]) (H' := [⟨1, b_2, [.slice A_3 w_1.b.length c_4]⟩]) (ps := []) (by kernel_rfl) trivial ?_
  refine GoO.regionEnd ?_
  refine GoO.block' c17_15e ?_
  refine GoO.loop' c17_16e ?_
  exact GoO.sub (ks := [0, 1, 5, 6]) (hk := [0]) (bk := [0]) (by kernel_rfl) (by kernel_rfl) (by kernel_rfl) (pack_Writer_Num_l0_ok n w_1 x_5 b_2 A_3 c_4 w0 S0 n 0 x_5)

/-! (*tontine/pack.Writer).Text -/
noncomputable def c26_0 : Code := bodyOf Try.f26
noncomputable def c26_1 : Code := cdL c26_0
noncomputable def c26_2 : Code := cdR c26_0
noncomputable def c26_3 : Code := cdL c26_2
noncomputable def c26_4 : Code := cdL c26_3
noncomputable def c26_5 : Code := cdR c26_3
noncomputable def c26_9 : Code := cdR c26_5
noncomputable def c26_10 : Code := cdR c26_2
noncomputable def c26_11 : Code := cdL c26_10
noncomputable def c26_12 : Code := cdR c26_10
noncomputable def c26_13 : Code := cdL c26_12
noncomputable def c26_14 : Code := cdR c26_12
noncomputable def c26_15 : Code := cdL c26_14
noncomputable def c26_16 : Code := cdR c26_14
noncomputable def c26_6 : Code := cdL c26_5
noncomputable def r26_1 : Array Oper := cdO c26_1
noncomputable def r26_4 : Array Oper := cdO c26_4
noncomputable def r26_11 : Array Oper := cdO c26_11
noncomputable def r26_13 : Array Oper := cdO c26_13
noncomputable def r26_15 : Array Oper := cdO c26_15
theorem c26_0e : c26_0 = .seq c26_1 c26_2 := by kernel_rfl
theorem c26_1e : c26_1 = .region 0 r26_1 false := by kernel_rfl
theorem c26_2e : c26_2 = .seq c26_3 c26_10 := by kernel_rfl
theorem c26_3e : c26_3 = .seq c26_4 c26_5 := by kernel_rfl
theorem c26_4e : c26_4 = .region 1 r26_4 false := by kernel_rfl
theorem c26_5e : c26_5 = .cond (cdC c26_5) c26_6 c26_9 := by kernel_rfl
theorem c26_9e : c26_9 = .skip := by kernel_rfl
theorem c26_10e : c26_10 = .seq c26_11 c26_12 := by kernel_rfl
theorem c26_11e : c26_11 = .region 3 r26_11 false := by kernel_rfl
theorem c26_12e : c26_12 = .seq c26_13 c26_14 := by kernel_rfl
theorem c26_13e : c26_13 = .region 4 r26_13 false := by kernel_rfl
theorem c26_14e : c26_14 = .seq c26_15 c26_16 := by kernel_rfl
theorem c26_15e : c26_15 = .region 5 r26_15 false := by kernel_rfl
theorem c26_16e : c26_16 = .ret := by kernel_rfl
noncomputable def pack_Writer_Text.R (b_2 : Nat) (A_3 : Option Addr) (c_4 : Nat) : Pst T_pack_Writer where
  ε := Option Addr × Nat
  v := fun r x => .pointer (some ⟨b_2, 0, none⟩)
  H := fun r x => [⟨1, b_2, [.slice x.1 r.b.length x.2]⟩]
  B := fun r x => [Ow 2 Kd.u8 x.1 x.2 r.b]
noncomputable def pack_Writer_Text.cx (b_2 : Nat) (A_3 : Option Addr) (c_4 : Nat) (w0 : World) (S0 : Fam) : Cx T_pack_Writer := ⟨Try.prog, 26, Try.f26, 22, w0, S0, [1, 2], 2, pack_Writer_Text.R b_2 A_3 c_4⟩
theorem pack_Writer_Text_ok (n : Nat) (w_1 : T_pack_Writer) (s_5 : (List UInt8)) (b_2 : Nat) (A_3 : Option Addr) (c_4 : Nat) :
    Meets Try.prog 26 [.pointer (some ⟨b_2, 0, none⟩), .string (bs s_5)] 2 [1, 2] [⟨1, b_2, [.slice A_3 w_1.b.length c_4]⟩] [Ow 2 Kd.u8 A_3 c_4 w_1.b] (pack_Writer_Text.f n w_1 s_5) (pack_Writer_Text.R b_2 A_3 c_4) := by
  refine Meets.of (c := c26_0) (n := 22) Try.func26 (by kernel_rfl) (by kernel_rfl) (by kernel_rfl) fun w0 S0 => ?_
  unfold pack_Writer_Text.f
  show GoO (pack_Writer_Text.cx b_2 A_3 c_4 w0 S0) [(0, .pointer (some ⟨b_2, 0, none⟩)), (1, .string (bs s_5))] [⟨1, b_2, [.slice A_3 w_1.b.length c_4]⟩] [Ow 2 Kd.u8 A_3 c_4 w_1.b] [.code c26_0] _
  refine GoO.seq' c26_0e ?_
  refine GoO.region' (is := [0]) c26_1e (by kernel_rfl) ?_
  refine GoO.exec (is := [0]) (hs := [.p]) (rest := []) (ks := [0, 1]) (env' := [(0, .pointer (some ⟨b_2, 0, none⟩)), (1, .string (bs s_5))]) (H' := [⟨1, b_2, [.slice A_3 w_1.b.length c_4]⟩]) (ps := []) (by kernel_rfl) trivial ?_
  refine GoO.regionEnd ?_
  refine GoO.seq' c26_2e ?_
  refine GoO.seq' c26_3e ?_
  refine GoO.region' (is := [0, 1]) c26_4e (by kernel_rfl) ?_
  refine GoO.exec (is := [0, 1]) (hs := [.p, .p]) (rest := []) (ks := [0, 1, 6]) (env' := [(0, .pointer (some ⟨b_2, 0, none⟩)), (1, .string (bs s_5)), (6, .bool false)]) (H' := [⟨1, b_2, [.slice A_3 w_1.b.length c_4]⟩]) (ps := []) (by kernel_rfl) trivial ?_
  refine GoO.regionEnd ?_
  refine GoO.condF c26_5e (by kernel_rfl) ?_
  refine GoO.skip' c26_9e ?_
  refine GoO.seq' c26_10e ?_
  refine GoO.region' (is := [0, 1, 2, 3, 4]) c26_11e (by kernel_rfl) ?_
  refine GoO.exec (is := [0, 1, 2, 3]) (hs := [.p, .p, .p, .p]) (rest := [4]) (ks := [0, 1, 7, 10]) (env' := [(0, .pointer (some ⟨b_2, 0, none⟩)), (1, .string (bs s_5)), (7, .pointer (some ⟨b_2, 0, none⟩)), (10, .int .u64 (wu64 (s_5.length : Int)))]) (H' := [⟨1, b_2, [.slice A_3 w_1.b.length c_4]⟩]) (ps := []) (by kernel_rfl) trivial ?_
  refine OpTo.go (GoO.call rfl (by kernel_rfl) (by kernel_rfl) (pack_Writer_Num_ok n w_1 (wu64 (s_5.length : Int)) b_2 A_3 c_4) [[0], [1], [2]] [(1, 1), (2, 2)] [(1, 0)] [(2, 0)] (hks := []) (bks := []) (by kernel_rfl) (by kernel_rfl) (by kernel_rfl) (.inl rfl) rfl rfl (by kernel_rfl) (by kernel_rfl) _ (fun _ _ => rfl) _ _ (fun _ _ => rfl) (fun _ _ => rfl) (fun _ _ => by kernel_rfl) (fun _ _ => by kernel_rfl) (fun r_6 x_12 => ?_))
  obtain ⟨A_7, c_8⟩ := x_12
  refine GoO.shape (env' := [(0, .pointer (some ⟨b_2, 0, none⟩)), (1, .string (bs s_5)), (7, .pointer (some ⟨b_2, 0, none⟩)), (10, .int .u64 (wu64 (s_5.length : Int))), (11, .pointer (some ⟨b_2, 0, none⟩))]) (H' := [⟨1, b_2, [.slice A_7 r_6.b.length c_8]⟩]) (B' := [Ow 2 Kd.u8 A_7 c_8 r_6.b]) (ks := [0, 1, 7, 10, 11]) (by kernel_rfl) (by kernel_rfl) (by kernel_rfl) ?_
  refine GoO.regionEnd ?_
  refine GoO.seq' c26_12e ?_
  refine GoO.region' (is := [0, 1, 2, 3, 4, 5, 6, 7, 8, 9]) c26_13e (by kernel_rfl) ?_
  refine GoO.exec (is := [0, 1, 2, 3, 4, 5]) (hs := [.p, .p, .p, .p, .b 0, .p]) (rest := [6, 7, 8, 9]) (ks := [0, 12, 16, 17]) (env' := [(0, .pointer (some ⟨b_2, 0, none⟩)), (12, .pointer (some ⟨b_2, 0, none⟩)), (16, .slice A_7 r_6.b.length c_8), (17, .string (bs s_5))]) (H' := [⟨1, b_2, [.slice A_7 r_6.b.length c_8]⟩]) (ps := [b_2 = b_2]) (by kernel_rfl) (And.intro rfl trivial) ?_
  refine GoO.guard (fun h9 => ?_)
  refine OpTo.go (GoO.appW (e := 5) (K := Kd.u8) (A := A_7) (c := c_8) (tg := 2) (bytes := 1) (zs := [.int .u8 0]) (xs := r_6.b) (ys := s_5) (xv := .string (bs s_5)) (j := 0) (bk := []) rfl (by kernel_rfl) (by kernel_rfl) (by kernel_rfl) (by kernel_rfl) rfl (by kernel_rfl) rfl (fun _ _ _ => SrcIs.str _) h9 rfl rfl rfl rfl _ (fun _ _ => rfl) (fun A_10 c_11 => ?_))
  refine GoO.exec (is := [7, 8, 9]) (hs := [.p, .p, .b 0]) (rest := []) (ks := [0]) (env' := [(0, .pointer (some ⟨b_2, 0, none⟩))]) (H' := [⟨1, b_2, [.slice A_10 (r_6.b ++ s_5).length c_11]⟩]) (ps := [b_2 = b_2]) (by kernel_rfl) (And.intro rfl trivial) ?_
  refine GoO.regionEnd ?_
  refine GoO.seq' c26_14e ?_
  refine GoO.region' (is := [0, 1]) c26_15e (by kernel_rfl) ?_
  refine GoO.exec (is := [0, 1]) (hs := [.p, .p]) (rest := []) (ks := [4]) (env' := [(4, .pointer (some ⟨b_2, 0, none⟩))]) (H' := [⟨1, b_2, [.slice A_10 (r_6.b ++ s_5).length c_11]⟩]) (ps := []) (by kernel_rfl) trivial ?_
  refine GoO.regionEnd ?_
  exact GoO.ret' (h := c26_16e) (hs := []) (ps := []) (hk := [0]) (bk := [0]) Try.func26 (⟨A_10, c_11⟩ : Option Addr × Nat) (by kernel_rfl) trivial (by kernel_rfl) (by kernel_rfl)

/-! (*tontine/pack.Writer).Bytes -/
noncomputable def c19_0 : Code := bodyOf Try.f19
noncomputable def c19_1 : Code := cdL c19_0
noncomputable def c19_2 : Code := cdR c19_0
noncomputable def c19_3 : Code := cdL c19_2
noncomputable def c19_4 : Code := cdL c19_3
noncomputable def c19_5 : Code := cdR c19_3
noncomputable def c19_9 : Code := cdR c19_5
noncomputable def c19_10 : Code := cdR c19_2
noncomputable def c19_11 : Code := cdL c19_10
noncomputable def c19_12 : Code := cdR c19_10
noncomputable def c19_6 : Code := cdL c19_5
noncomputable def r19_1 : Array Oper := cdO c19_1
noncomputable def r19_4 : Array Oper := cdO c19_4
noncomputable def r19_11 : Array Oper := cdO c19_11
theorem c19_0e : c19_0 = .seq c19_1 c19_2 := by kernel_rfl
theorem c19_1e : c19_1 = .region 0 r19_1 false := by kernel_rfl
theorem c19_2e : c19_2 = .seq c19_3 c19_10 := by kernel_rfl
theorem c19_3e : c19_3 = .seq c19_4 c19_5 := by kernel_rfl
theorem c19_4e : c19_4 = .region 1 r19_4 false := by kernel_rfl
theorem c19_5e : c19_5 = .cond (cdC c19_5) c19_6 c19_9 := by kernel_rfl
theorem c19_9e : c19_9 = .skip := by kernel_rfl
theorem c19_10e : c19_10 = .seq c19_11 c19_12 := by kernel_rfl
theorem c19_11e : c19_11 = .region 3 r19_11 false := by kernel_rfl
theorem c19_12e : c19_12 = .ret := by kernel_rfl
noncomputable def pack_Writer_Bytes.R (b_2 : Nat) (A_3 : Option Addr) (c_4 : Nat) : Pst (List UInt8) where
  ε := Unit
  v := fun r x => .string (bs r)
  H := fun r x => []
  B := fun r x => []
noncomputable def pack_Writer_Bytes.cx (b_2 : Nat) (A_3 : Option Addr) (c_4 : Nat) (w0 : World) (S0 : Fam) : Cx (List UInt8) := ⟨Try.prog, 19, Try.f19, 10, w0, S0, [], 2, pack_Writer_Bytes.R b_2 A_3 c_4⟩
theorem pack_Writer_Bytes_ok (n : Nat) (w_1 : T_pack_Writer) (b_2 : Nat) (A_3 : Option Addr) (c_4 : Nat) :
    Meets Try.prog 19 [.pointer (some ⟨b_2, 0, none⟩)] 2 [] [⟨1, b_2, [.slice A_3 w_1.b.length c_4]⟩] [Ow 2 Kd.u8 A_3 c_4 w_1.b] (pack_Writer_Bytes.f n w_1) (pack_Writer_Bytes.R b_2 A_3 c_4) := by
  refine Meets.of (c := c19_0) (n := 10) Try.func19 (by kernel_rfl) (by kernel_rfl) (by kernel_rfl) fun w0 S0 => ?_
  unfold pack_Writer_Bytes.f
  show GoO (pack_Writer_Bytes.cx b_2 A_3 c_4 w0 S0) [(0, .pointer (some ⟨b_2, 0, none⟩))] [⟨1, b_2, [.slice A_3 w_1.b.length c_4]⟩] [Ow 2 Kd.u8 A_3 c_4 w_1.b] [.code c19_0] _
  refine GoO.seq' c19_0e ?_
  refine GoO.region' (is := [0]) c19_1e (by kernel_rfl) ?_
  refine GoO.exec (is := [0]) (hs := [.p]) (rest := []) (ks := [0]) (env' := [(0, .pointer (some ⟨b_2, 0, none⟩))]) (H' := [⟨1, b_2, [.slice A_3 w_1.b.length c_4]⟩]) (ps := []) (by kernel_rfl) trivial ?_
  refine GoO.regionEnd ?_
  refine GoO.seq' c19_2e ?_
  refine GoO.seq' c19_3e ?_
  refine GoO.region' (is := [0, 1]) c19_4e (by kernel_rfl) ?_
  refine GoO.exec (is := [0, 1]) (hs := [.p, .p]) (rest := []) (ks := [0, 4]) (env' := [(0, .pointer (some ⟨b_2, 0, none⟩)), (4, .bool false)]) (H' := [⟨1, b_2, [.slice A_3 w_1.b.length c_4]⟩]) (ps := []) (by kernel_rfl) trivial ?_
  refine GoO.regionEnd ?_
  refine GoO.condF c19_5e (by kernel_rfl) ?_
  refine GoO.skip' c19_9e ?_
  refine GoO.seq' c19_10e ?_
  refine GoO.region' (is := [0, 1, 2, 3, 4, 5]) c19_11e (by kernel_rfl) ?_
  refine GoO.exec (is := [0, 1, 2, 3]) (hs := [.p, .p, .p, .b 0]) (rest := [4, 5]) (ks := [8]) (env' := [(8, .slice A_3 w_1.b.length c_4)]) (H' := [⟨1, b_2, [.slice A_3 w_1.b.length c_4]⟩]) (ps := [b_2 = b_2]) (by kernel_rfl) (And.intro rfl trivial) ?_
  refine OpTo.go (GoO.toStr (e := 5) (A := A_3) (c := c_4) (xs := w_1.b) (j := 0) rfl (by kernel_rfl) (by kernel_rfl) (by kernel_rfl) (by kernel_rfl) rfl Reads.own rfl rfl ?_)
  refine GoO.exec (is := [5]) (hs := [.p]) (rest := []) (ks := [2]) (env' := [(2, .string (bs w_1.b))]) (H' := [⟨1, b_2, [.slice A_3 w_1.b.length c_4]⟩]) (ps := []) (by kernel_rfl) trivial ?_
  refine GoO.regionEnd ?_
  exact GoO.ret' (h := c19_12e) (hs := []) (ps := []) (hk := []) (bk := []) Try.func19 () (by kernel_rfl) trivial (by kernel_rfl) (by kernel_rfl)

/-! tontine/pack.From -/
noncomputable def c23_0 : Code := bodyOf Try.f23
noncomputable def c23_1 : Code := cdL c23_0
noncomputable def c23_2 : Code := cdR c23_0
noncomputable def c23_3 : Code := cdL c23_2
noncomputable def c23_4 : Code := cdR c23_2
noncomputable def r23_1 : Array Oper := cdO c23_1
noncomputable def r23_3 : Array Oper := cdO c23_3
theorem c23_0e : c23_0 = .seq c23_1 c23_2 := by kernel_rfl
theorem c23_1e : c23_1 = .region 0 r23_1 false := by kernel_rfl
theorem c23_2e : c23_2 = .seq c23_3 c23_4 := by kernel_rfl
theorem c23_3e : c23_3 = .region 1 r23_3 false := by kernel_rfl
theorem c23_4e : c23_4 = .ret := by kernel_rfl
noncomputable def pack_From.R : Pst T_pack_Reader where
  ε := Nat
  v := fun r x => .pointer (some ⟨x, 0, none⟩)
  H := fun r x => [⟨1, x, [.string (bs r.s), .bool r.bad]⟩]
  B := fun r x => []
noncomputable def pack_From.cx (w0 : World) (S0 : Fam) : Cx T_pack_Reader := ⟨Try.prog, 23, Try.f23, 6, w0, S0, [], 0, pack_From.R⟩
theorem pack_From_ok (n : Nat) (s_1 : (List UInt8)) :
    Meets Try.prog 23 [.string (bs s_1)] 0 [] [] [] (pack_From.f n s_1) (pack_From.R) := by
  refine Meets.of (c := c23_0) (n := 6) Try.func23 (by kernel_rfl) (by kernel_rfl) (by kernel_rfl) fun w0 S0 => ?_
  unfold pack_From.f
  show GoO (pack_From.cx w0 S0) [(0, .string (bs s_1))] [] [] [.code c23_0] _
  refine GoO.seq' c23_0e ?_
  refine GoO.region' (is := [0]) c23_1e (by kernel_rfl) ?_
  refine GoO.exec (is := [0]) (hs := [.p]) (rest := []) (ks := [0]) (env' := [(0, .string (bs s_1))]) (H' := []) (ps := []) (by kernel_rfl) trivial ?_
  refine GoO.regionEnd ?_
  refine GoO.seq' c23_2e ?_
  refine GoO.region' (is := [0, 1, 2, 3]) c23_3e (by kernel_rfl) ?_
  refine GoO.exec (is := [0, 1]) (hs := [.p, .p]) (rest := [2, 3]) (ks := [4]) (env' := [(4, .agg ⟨[.string (bs s_1), .bool false]⟩)]) (H' := []) (ps := []) (by kernel_rfl) trivial ?_
  refine OpTo.go (GoO.new rfl 40 (cs := [.string (bs s_1), .bool false]) (by kernel_rfl) _ (fun _ => rfl) (fun b_2 => ?_))
  refine GoO.exec (is := [3]) (hs := [.p]) (rest := []) (ks := [2]) (env' := [(2, .pointer (some ⟨b_2, 0, none⟩))]) (H' := [⟨40, b_2, [.string (bs s_1), .bool false]⟩]) (ps := []) (by kernel_rfl) trivial ?_
  refine GoO.regionEnd ?_
  refine GoO.retagB (t := 40) (u := 1) (j := 0) (hk := []) (bk := []) rfl rfl rfl rfl rfl rfl (by kernel_rfl) (by kernel_rfl) ?_
  exact GoO.ret' (h := c23_4e) (hs := []) (ps := []) (hk := [0]) (bk := []) Try.func23 b_2 (by kernel_rfl) trivial (by kernel_rfl) (by kernel_rfl)

/-! (*tontine/pack.Reader).fail -/
noncomputable def c43_0 : Code := bodyOf Try.f43
noncomputable def c43_1 : Code := cdL c43_0
noncomputable def c43_2 : Code := cdR c43_0
noncomputable def c43_3 : Code := cdL c43_2
noncomputable def c43_4 : Code := cdL c43_3
noncomputable def c43_5 : Code := cdR c43_3
noncomputable def c43_6 : Code := cdL c43_5
noncomputable def c43_8 : Code := cdR c43_2
noncomputable def c43_9 : Code := cdL c43_8
noncomputable def c43_10 : Code := cdR c43_8
noncomputable def c43_7 : Code := cdR c43_5
noncomputable def r43_1 : Array Oper := cdO c43_1
noncomputable def r43_4 : Array Oper := cdO c43_4
noncomputable def r43_6 : Array Oper := cdO c43_6
noncomputable def r43_9 : Array Oper := cdO c43_9
theorem c43_0e : c43_0 = .seq c43_1 c43_2 := by kernel_rfl
theorem c43_1e : c43_1 = .region 0 r43_1 false := by kernel_rfl
theorem c43_2e : c43_2 = .seq c43_3 c43_8 := by kernel_rfl
theorem c43_3e : c43_3 = .seq c43_4 c43_5 := by kernel_rfl
theorem c43_4e : c43_4 = .region 1 r43_4 false := by kernel_rfl
theorem c43_5e : c43_5 = .cond (cdC c43_5) c43_6 c43_7 := by kernel_rfl
theorem c43_6e : c43_6 = .region 2 r43_6 false := by kernel_rfl
theorem c43_8e : c43_8 = .seq c43_9 c43_10 := by kernel_rfl
theorem c43_9e : c43_9 = .region 3 r43_9 false := by kernel_rfl
theorem c43_10e : c43_10 = .ret := by kernel_rfl
theorem c43_7e : c43_7 = .skip := by kernel_rfl
noncomputable def pack_Reader_fail.R (b_2 : Nat) : Pst (Int × T_pack_Reader) where
  ε := Unit
  v := fun r x => .int .u64 r.1
  H := fun r x => [⟨1, b_2, [.string (bs r.2.s), .bool r.2.bad]⟩]
  B := fun r x => []
noncomputable def pack_Reader_fail.cx (b_2 : Nat) (w0 : World) (S0 : Fam) : Cx (Int × T_pack_Reader) := ⟨Try.prog, 43, Try.f43, 11, w0, S0, [1], 1, pack_Reader_fail.R b_2⟩
theorem pack_Reader_fail_ok (n : Nat) (r_1 : T_pack_Reader) (b_2 : Nat) :
    Meets Try.prog 43 [.pointer (some ⟨b_2, 0, none⟩)] 1 [1] [⟨1, b_2, [.string (bs r_1.s), .bool r_1.bad]⟩] [] (pack_Reader_fail.f n r_1) (pack_Reader_fail.R b_2) := by
  refine Meets.of (c := c43_0) (n := 11) Try.func43 (by kernel_rfl) (by kernel_rfl) (by kernel_rfl) fun w0 S0 => ?_
  unfold pack_Reader_fail.f
  show GoO (pack_Reader_fail.cx b_2 w0 S0) [(0, .pointer (some ⟨b_2, 0, none⟩))] [⟨1, b_2, [.string (bs r_1.s), .bool r_1.bad]⟩] [] [.code c43_0] _
  refine GoO.seq' c43_0e ?_
  refine GoO.region' (is := [0]) c43_1e (by kernel_rfl) ?_
  refine GoO.exec (is := [0]) (hs := [.p]) (rest := []) (ks := [0]) (env' := [(0, .pointer (some ⟨b_2, 0, none⟩))]) (H' := [⟨1, b_2, [.string (bs r_1.s), .bool r_1.bad]⟩]) (ps := []) (by kernel_rfl) trivial ?_
  refine GoO.regionEnd ?_
  refine GoO.seq' c43_2e ?_
  refine GoO.seq' c43_3e ?_
  refine GoO.region' (is := [0, 1]) c43_4e (by kernel_rfl) ?_
  refine GoO.exec (is := [0, 1]) (hs := [.p, .p]) (rest := []) (ks := [0, 4]) (env' := [(0, .pointer (some ⟨b_2, 0, none⟩)), (4, .bool true)]) (H' := [⟨1, b_2, [.string (bs r_1.s), .bool r_1.bad]⟩]) (ps := []) (by kernel_rfl) trivial ?_
  refine GoO.regionEnd ?_
  refine GoO.condT c43_5e (by kernel_rfl) ?_
  refine GoO.region' (is := [0, 1, 2, 3, 4, 5, 6, 7]) c43_6e (by kernel_rfl) ?_
  refine GoO.exec (is := [0, 1, 2, 3, 4, 5, 6, 7]) (hs := [.p, .p, .p, .p, .b 0, .p, .p, .b 0]) (rest := []) (ks := []) (env' := []) (H' := [⟨1, b_2, [.string (bs []), .bool true]⟩]) (ps := [b_2 = b_2, b_2 = b_2]) (by kernel_rfl) (And.intro rfl (And.intro rfl trivial)) ?_
  refine GoO.regionEnd ?_
  refine GoO.seq' c43_8e ?_
  refine GoO.region' (is := [0]) c43_9e (by kernel_rfl) ?_
  refine GoO.exec (is := [0]) (hs := [.p]) (rest := []) (ks := [2]) (env' := [(2, .int .u64 0)]) (H' := [⟨1, b_2, [.string (bs []), .bool true]⟩]) (ps := []) (by kernel_rfl) trivial ?_
  refine GoO.regionEnd ?_
  exact GoO.ret' (h := c43_10e) (hs := []) (ps := []) (hk := [0]) (bk := []) Try.func43 () (by kernel_rfl) trivial (by kernel_rfl) (by kernel_rfl)

/-! (*tontine/pack.Reader).Num -/
noncomputable def c24_0 : Code := bodyOf Try.f24
noncomputable def c24_1 : Code := cdL c24_0
noncomputable def c24_2 : Code := cdR c24_0
noncomputable def c24_3 : Code := cdL c24_2
noncomputable def c24_4 : Code := cdL c24_3
noncomputable def c24_5 : Code := cdR c24_3
noncomputable def c24_6 : Code := cdL c24_5
noncomputable def c24_7 : Code := cdL c24_6
noncomputable def c24_8 : Code := cdR c24_6
noncomputable def c24_9 : Code := cdR c24_5
noncomputable def c24_10 : Code := cdR c24_2
noncomputable def c24_11 : Code := cdL c24_10
noncomputable def c24_12 : Code := cdR c24_10
noncomputable def c24_13 : Code := cdL c24_12
noncomputable def c24_14 : Code := cdL c24_13
noncomputable def c24_15 : Code := cdR c24_13
noncomputable def c24_16 : Code := cdL c24_15
noncomputable def c24_17 : Code := cdL c24_16
noncomputable def c24_18 : Code := cdR c24_16
noncomputable def c24_19 : Code := cdR c24_15
noncomputable def c24_20 : Code := cdR c24_12
noncomputable def c24_21 : Code := cdL c24_20
noncomputable def c24_22 : Code := cdR c24_20
noncomputable def c24_23 : Code := cdL c24_22
noncomputable def c24_24 : Code := cdL c24_23
noncomputable def c24_25 : Code := cdR c24_23
noncomputable def c24_26 : Code := cdL c24_25
noncomputable def c24_27 : Code := cdL c24_26
noncomputable def c24_28 : Code := cdL c24_27
noncomputable def c24_29 : Code := cdL c24_28
noncomputable def c24_30 : Code := cdR c24_28
noncomputable def c24_31 : Code := cdL c24_30
noncomputable def c24_32 : Code := cdR c24_30
noncomputable def c24_33 : Code := cdR c24_27
noncomputable def c24_34 : Code := cdL c24_33
noncomputable def c24_35 : Code := cdL c24_34
noncomputable def c24_36 : Code := cdR c24_33
noncomputable def c24_37 : Code := cdR c24_22
noncomputable def c24_38 : Code := cdL c24_37
noncomputable def c24_39 : Code := cdR c24_37
noncomputable def c24_40 : Code := cdL c24_39
noncomputable def c24_41 : Code := cdR c24_39
noncomputable def r24_1 : Array Oper := cdO c24_1
noncomputable def r24_4 : Array Oper := cdO c24_4
noncomputable def r24_7 : Array Oper := cdO c24_7
noncomputable def r24_11 : Array Oper := cdO c24_11
noncomputable def r24_14 : Array Oper := cdO c24_14
noncomputable def r24_17 : Array Oper := cdO c24_17
noncomputable def r24_21 : Array Oper := cdO c24_21
noncomputable def r24_24 : Array Oper := cdO c24_24
noncomputable def r24_29 : Array Oper := cdO c24_29
noncomputable def r24_35 : Array Oper := cdO c24_35
noncomputable def r24_36 : Array Oper := cdO c24_36
noncomputable def r24_38 : Array Oper := cdO c24_38
noncomputable def r24_40 : Array Oper := cdO c24_40
theorem c24_0e : c24_0 = .seq c24_1 c24_2 := by kernel_rfl
theorem c24_1e : c24_1 = .region 0 r24_1 false := by kernel_rfl
theorem c24_2e : c24_2 = .seq c24_3 c24_10 := by kernel_rfl
theorem c24_3e : c24_3 = .seq c24_4 c24_5 := by kernel_rfl
theorem c24_4e : c24_4 = .region 1 r24_4 false := by kernel_rfl
theorem c24_5e : c24_5 = .cond (cdC c24_5) c24_6 c24_9 := by kernel_rfl
theorem c24_6e : c24_6 = .seq c24_7 c24_8 := by kernel_rfl
theorem c24_7e : c24_7 = .region 2 r24_7 false := by kernel_rfl
theorem c24_8e : c24_8 = .ret := by kernel_rfl
theorem c24_9e : c24_9 = .skip := by kernel_rfl
theorem c24_10e : c24_10 = .seq c24_11 c24_12 := by kernel_rfl
theorem c24_11e : c24_11 = .region 3 r24_11 false := by kernel_rfl
theorem c24_12e : c24_12 = .seq c24_13 c24_20 := by kernel_rfl
theorem c24_13e : c24_13 = .seq c24_14 c24_15 := by kernel_rfl
theorem c24_14e : c24_14 = .region 4 r24_14 false := by kernel_rfl
theorem c24_15e : c24_15 = .cond (cdC c24_15) c24_16 c24_19 := by kernel_rfl
theorem c24_16e : c24_16 = .seq c24_17 c24_18 := by kernel_rfl
theorem c24_17e : c24_17 = .region 5 r24_17 false := by kernel_rfl
theorem c24_18e : c24_18 = .ret := by kernel_rfl
theorem c24_19e : c24_19 = .skip := by kernel_rfl
theorem c24_20e : c24_20 = .seq c24_21 c24_22 := by kernel_rfl
theorem c24_21e : c24_21 = .region 6 r24_21 false := by kernel_rfl
theorem c24_22e : c24_22 = .seq c24_23 c24_37 := by kernel_rfl
theorem c24_23e : c24_23 = .seq c24_24 c24_25 := by kernel_rfl
theorem c24_24e : c24_24 = .region 7 r24_24 false := by kernel_rfl
theorem c24_25e : c24_25 = .block 0 c24_26 := by kernel_rfl
theorem c24_26e : c24_26 = .loop c24_27 := by kernel_rfl
theorem c24_27e : c24_27 = .seq c24_28 c24_33 := by kernel_rfl
theorem c24_28e : c24_28 = .seq c24_29 c24_30 := by kernel_rfl
theorem c24_29e : c24_29 = .region 8 r24_29 false := by kernel_rfl
theorem c24_30e : c24_30 = .cond (cdC c24_30) c24_31 c24_32 := by kernel_rfl
theorem c24_31e : c24_31 = .skip := by kernel_rfl
theorem c24_32e : c24_32 = .exit 0 := by kernel_rfl
theorem c24_33e : c24_33 = .seq c24_34 c24_36 := by kernel_rfl
theorem c24_34e : c24_34 = .block 1 c24_35 := by kernel_rfl
theorem c24_35e : c24_35 = .region 10 r24_35 false := by kernel_rfl
theorem c24_36e : c24_36 = .region 9 r24_36 false := by kernel_rfl
theorem c24_37e : c24_37 = .seq c24_38 c24_39 := by kernel_rfl
theorem c24_38e : c24_38 = .region 11 r24_38 false := by kernel_rfl
theorem c24_39e : c24_39 = .seq c24_40 c24_41 := by kernel_rfl
theorem c24_40e : c24_40 = .region 12 r24_40 false := by kernel_rfl
theorem c24_41e : c24_41 = .ret := by kernel_rfl
noncomputable def pack_Reader_Num.R (b_2 : Nat) : Pst (Int × T_pack_Reader) where
  ε := Unit
  v := fun r x => .int .u64 r.1
  H := fun r x => [⟨1, b_2, [.string (bs r.2.s), .bool r.2.bad]⟩]
  B := fun r x => []
noncomputable def pack_Reader_Num.cx (b_2 : Nat) (w0 : World) (S0 : Fam) : Cx (Int × T_pack_Reader) := ⟨Try.prog, 24, Try.f24, 75, w0, S0, [1], 1, pack_Reader_Num.R b_2⟩
theorem pack_Reader_Num_l0_ok (n : Nat) (r_1 : T_pack_Reader) (b_2 : Nat) (w0 : World) (S0 : Fam) :
    ∀ (k : Nat) (x_15 : Int) (i_16 : Int), GoO (pack_Reader_Num.cx b_2 w0 S0) [(0, .pointer (some ⟨b_2, 0, none⟩)), (3, .int .i64 (wi64 ((rdB r_1.s 0).toNat : Int))), (4, .int .u64 x_15), (5, .int .i64 i_16)] [⟨1, b_2, [.string (bs r_1.s), .bool r_1.bad]⟩] [] [.code c24_27, .inLoop c24_27, .inBlock 0, .code c24_37] (pack_Reader_Num.l0 n r_1 k x_15 i_16) := by
  intro k
  induction k with
  | zero => intros; rw [pack_Reader_Num.l0.eq_1]; exact GoO.stop
  | succ k ih0 =>
    intro x_15 i_16
    rw [pack_Reader_Num.l0.eq_2]
    refine GoO.seq' c24_27e ?_
    refine GoO.seq' c24_28e ?_
    refine GoO.region' (is := [0, 1, 2]) c24_29e (by kernel_rfl) ?_
    refine GoO.exec (is := [0, 1, 2]) (hs := [.p, .p, .p]) (rest := []) (ks := [0, 3, 4, 5, 51]) (env' := [(0, .pointer (some ⟨b_2, 0, none⟩)), (3, .int .i64 (wi64 ((rdB r_1.s 0).toNat : Int))), (4, .int .u64 x_15), (5, .int .i64 i_16), (51, .bool (decide (i_16 ≤ (wi64 ((rdB r_1.s 0).toNat : Int)))))]) (H' := [⟨1, b_2, [.string (bs r_1.s), .bool r_1.bad]⟩]) (ps := []) (by kernel_rfl) trivial ?_
    refine GoO.regionEnd ?_
    refine GoO.ite' c24_30e (by kernel_rfl) (fun h17 => ?_) (fun h17 => ?_)
    · refine GoO.skip' c24_31e ?_
      refine GoO.seq' c24_33e ?_
      refine GoO.block' c24_34e ?_
      refine GoO.region' (is := [0, 1, 2, 3, 4, 5, 6, 7, 8, 9, 10]) c24_35e (by kernel_rfl) ?_
      refine GoO.guard (fun h18 => ?_)
      refine GoO.exec (is := [0, 1, 2, 3, 4, 5, 6, 7, 8, 9, 10]) (hs := [.p, .p, .p, .p, .p, .b 0, .p, .p, .p, .p, .p]) (rest := []) (ks := [0, 3, 4, 5]) (env' := [(0, .pointer (some ⟨b_2, 0, none⟩)), (3, .int .i64 (wi64 ((rdB r_1.s 0).toNat : Int))), (4, .int .u64 (bOr .u64 (shL .u64 x_15 8) (wu64 ((rdB r_1.s i_16).toNat : Int)))), (5, .int .i64 i_16)]) (H' := [⟨1, b_2, [.string (bs r_1.s), .bool r_1.bad]⟩]) (ps := [(0 : Int) ≤ 8, b_2 = b_2, (0 : Int) ≤ i_16, i_16 < (r_1.s.length : Int)]) (by kernel_rfl) (And.intro (by decide) (And.intro rfl (And.intro h18.1 (And.intro h18.2 trivial)))) ?_
      refine GoO.regionEnd ?_
      refine GoO.inBlock ?_
      refine GoO.region' (is := [0, 1, 2]) c24_36e (by kernel_rfl) ?_
      refine GoO.exec (is := [0, 1, 2]) (hs := [.p, .p, .p]) (rest := []) (ks := [0, 3, 4, 5]) (env' := [(0, .pointer (some ⟨b_2, 0, none⟩)), (3, .int .i64 (wi64 ((rdB r_1.s 0).toNat : Int))), (4, .int .u64 (bOr .u64 (shL .u64 x_15 8) (wu64 ((rdB r_1.s i_16).toNat : Int)))), (5, .int .i64 (wi64 (i_16 + 1)))]) (H' := [⟨1, b_2, [.string (bs r_1.s), .bool r_1.bad]⟩]) (ps := []) (by kernel_rfl) trivial ?_
      refine GoO.regionEnd ?_
      refine GoO.inLoop ?_
      exact GoO.sub (ks := [0, 3, 4, 5]) (hk := [0]) (bk := []) (by kernel_rfl) (by kernel_rfl) (by kernel_rfl) (ih0 (bOr .u64 (shL .u64 x_15 8) (wu64 ((rdB r_1.s i_16).toNat : Int))) (wi64 (i_16 + 1)))
    · refine GoO.exit' c24_32e rfl ?_
      refine GoO.seq' c24_37e ?_
      refine GoO.region' (is := [0, 1, 2, 3, 4, 5, 6, 7, 8, 9, 10]) c24_38e (by kernel_rfl) ?_
      refine GoO.guard (fun h19 => ?_)
      refine GoO.exec (is := [0, 1, 2, 3, 4, 5, 6, 7, 8, 9, 10]) (hs := [.p, .p, .p, .p, .b 0, .p, .p, .p, .p, .p, .b 0]) (rest := []) (ks := [4]) (env' := [(4, .int .u64 x_15)]) (H' := [⟨1, b_2, [.string (bs (r_1.s.drop (wi64 ((wi64 ((rdB r_1.s 0).toNat : Int)) + 1)).toNat)), .bool r_1.bad]⟩]) (ps := [b_2 = b_2, (0 : Int) ≤ (wi64 ((wi64 ((rdB r_1.s 0).toNat : Int)) + 1)), (wi64 ((wi64 ((rdB r_1.s 0).toNat : Int)) + 1)) ≤ (r_1.s.length : Int), b_2 = b_2]) (by kernel_rfl) (And.intro rfl (And.intro h19.1 (And.intro h19.2 (And.intro rfl trivial)))) ?_
      refine GoO.regionEnd ?_
      refine GoO.seq' c24_39e ?_
      refine GoO.region' (is := [0, 1]) c24_40e (by kernel_rfl) ?_
      refine GoO.exec (is := [0, 1]) (hs := [.p, .p]) (rest := []) (ks := [2]) (env' := [(2, .int .u64 x_15)]) (H' := [⟨1, b_2, [.string (bs (r_1.s.drop (wi64 ((wi64 ((rdB r_1.s 0).toNat : Int)) + 1)).toNat)), .bool r_1.bad]⟩]) (ps := []) (by kernel_rfl) trivial ?_
      refine GoO.regionEnd ?_
      exact GoO.ret' (h := c24_41e) (hs := []) (ps := []) (hk := [0]) (bk := []) Try.func24 () (by kernel_rfl) trivial (by kernel_rfl) (by kernel_rfl)
theorem pack_Reader_Num_j0_ok (n : Nat) (r_1 : T_pack_Reader) (b_2 : Nat) (w0 : World) (S0 : Fam) (b_11 : Bool) :
    GoO (pack_Reader_Num.cx b_2 w0 S0) [(0, .pointer (some ⟨b_2, 0, none⟩)), (3, .int .i64 (wi64 ((rdB r_1.s 0).toNat : Int))), (46, .bool b_11)] [⟨1, b_2, [.string (bs r_1.s), .bool r_1.bad]⟩] [] [.code c24_15, .code c24_20] (pack_Reader_Num.j0 n r_1 b_11) := by
  unfold pack_Reader_Num.j0
  refine GoO.ite' c24_15e (by kernel_rfl) (fun h12 => ?_) (fun h12 => ?_)
  · refine GoO.seq' c24_16e ?_
    refine GoO.region' (is := [0, 1, 2]) c24_17e (by kernel_rfl) ?_
    refine GoO.exec (is := [0]) (hs := [.p]) (rest := [1, 2]) (ks := [47]) (env' := [(47, .pointer (some ⟨b_2, 0, none⟩))]) (H' := [⟨1, b_2, [.string (bs r_1.s), .bool r_1.bad]⟩]) (ps := []) (by kernel_rfl) trivial ?_
    refine OpTo.go (GoO.call rfl (by kernel_rfl) (by kernel_rfl) (pack_Reader_fail_ok n r_1 b_2) [[0], [1]] [(1, 1)] [(1, 0)] [] (hks := []) (bks := []) (by kernel_rfl) (by kernel_rfl) (by kernel_rfl) (.inl rfl) rfl rfl (by kernel_rfl) (by kernel_rfl) _ (fun _ _ => rfl) _ _ (fun _ _ => rfl) (fun _ _ => rfl) (fun _ _ => by kernel_rfl) (fun _ _ => by kernel_rfl) (fun r_13 x_14 => ?_))
    refine GoO.shape (env' := [(47, .pointer (some ⟨b_2, 0, none⟩)), (48, .int .u64 r_13.1)]) (H' := [⟨1, b_2, [.string (bs r_13.2.s), .bool r_13.2.bad]⟩]) (B' := []) (ks := [47, 48]) (by kernel_rfl) (by kernel_rfl) (by kernel_rfl) ?_
    refine GoO.exec (is := [2]) (hs := [.p]) (rest := []) (ks := [2]) (env' := [(2, .int .u64 r_13.1)]) (H' := [⟨1, b_2, [.string (bs r_13.2.s), .bool r_13.2.bad]⟩]) (ps := []) (by kernel_rfl) trivial ?_
    refine GoO.regionEnd ?_
    exact GoO.ret' (h := c24_18e) (hs := []) (ps := []) (hk := [0]) (bk := []) Try.func24 () (by kernel_rfl) trivial (by kernel_rfl) (by kernel_rfl)
  · refine GoO.skip' c24_19e ?_
    refine GoO.seq' c24_20e ?_
    refine GoO.region' (is := [0]) c24_21e (by kernel_rfl) ?_
    refine GoO.exec (is := [0]) (hs := [.p]) (rest := []) (ks := [0, 3, 4]) (env' := [(0, .pointer (some ⟨b_2, 0, none⟩)), (3, .int .i64 (wi64 ((rdB r_1.s 0).toNat : Int))), (4, .int .u64 0)]) (H' := [⟨1, b_2, [.string (bs r_1.s), .bool r_1.bad]⟩]) (ps := []) (by kernel_rfl) trivial ?_
    refine GoO.regionEnd ?_
    refine GoO.seq' c24_22e ?_
    refine GoO.seq' c24_23e ?_
    refine GoO.region' (is := [0]) c24_24e (by kernel_rfl) ?_
    refine GoO.exec (is := [0]) (hs := [.p]) (rest := []) (ks := [0, 3, 4, 5]) (env' := [(0, .pointer (some ⟨b_2, 0, none⟩)), (3, .int .i64 (wi64 ((rdB r_1.s 0).toNat : Int))), (4, .int .u64 0), (5, .int .i64 1)]) (H' := [⟨1, b_2, [.string (bs r_1.s), .bool r_1.bad]⟩]) (ps := []) (by kernel_rfl) trivial ?_
    refine GoO.regionEnd ?_
    refine GoO.block' c24_25e ?_
    refine GoO.loop' c24_26e ?_
    exact GoO.sub (ks := [0, 3, 4, 5]) (hk := [0]) (bk := []) (by kernel_rfl) (by kernel_rfl) (by kernel_rfl) (pack_Reader_Num_l0_ok n r_1 b_2 w0 S0 n 0 1)
theorem pack_Reader_Num_ok (n : Nat) (r_1 : T_pack_Reader) (b_2 : Nat) :
    Meets Try.prog 24 [.pointer (some ⟨b_2, 0, none⟩)] 1 [1] [⟨1, b_2, [.string (bs r_1.s), .bool r_1.bad]⟩] [] (pack_Reader_Num.f n r_1) (pack_Reader_Num.R b_2) := by
  refine Meets.of (c := c24_0) (n := 75) Try.func24 (by kernel_rfl) (by kernel_rfl) (by kernel_rfl) fun w0 S0 => ?_
  unfold pack_Reader_Num.f
  show GoO (pack_Reader_Num.cx b_2 w0 S0) [(0, .pointer (some ⟨b_2, 0, none⟩))] [⟨1, b_2, [.string (bs r_1.s), .bool r_1.bad]⟩] [] [.code c24_0] _
  refine GoO.seq' c24_0e ?_
  refine GoO.region' (is := [0]) c24_1e (by kernel_rfl) ?_
  refine GoO.exec (is := [0]) (hs := [.p]) (rest := []) (ks := [0]) (env' := [(0, .pointer (some ⟨b_2, 0, none⟩))]) (H' := [⟨1, b_2, [.string (bs r_1.s), .bool r_1.bad]⟩]) (ps := []) (by kernel_rfl) trivial ?_
  refine GoO.regionEnd ?_
  refine GoO.seq' c24_2e ?_
  refine GoO.seq' c24_3e ?_
  refine GoO.region' (is := [0, 1, 2, 3, 4, 5, 6, 7, 8]) c24_4e (by kernel_rfl) ?_
  refine GoO.exec (is := [0, 1, 2, 3, 4, 5, 6, 7, 8]) (hs := [.p, .p, .p, .p, .p, .p, .b 0, .p, .p]) (rest := []) (ks := [0, 14]) (env' := [(0, .pointer (some ⟨b_2, 0, none⟩)), (14, .bool (r_1.s == ([] : List UInt8)))]) (H' := [⟨1, b_2, [.string (bs r_1.s), .bool r_1.bad]⟩]) (ps := [b_2 = b_2]) (by kernel_rfl) (And.intro rfl trivial) ?_
  refine GoO.regionEnd ?_
  refine GoO.ite' c24_5e (by kernel_rfl) (fun h3 => ?_) (fun h3 => ?_)
  · refine GoO.seq' c24_6e ?_
    refine GoO.region' (is := [0, 1, 2]) c24_7e (by kernel_rfl) ?_
    refine GoO.exec (is := [0]) (hs := [.p]) (rest := [1, 2]) (ks := [15]) (env' := [(15, .pointer (some ⟨b_2, 0, none⟩))]) (H' := [⟨1, b_2, [.string (bs r_1.s), .bool r_1.bad]⟩]) (ps := []) (by kernel_rfl) trivial ?_
    refine OpTo.go (GoO.call rfl (by kernel_rfl) (by kernel_rfl) (pack_Reader_fail_ok n r_1 b_2) [[0], [1]] [(1, 1)] [(1, 0)] [] (hks := []) (bks := []) (by kernel_rfl) (by kernel_rfl) (by kernel_rfl) (.inl rfl) rfl rfl (by kernel_rfl) (by kernel_rfl) _ (fun _ _ => rfl) _ _ (fun _ _ => rfl) (fun _ _ => rfl) (fun _ _ => by kernel_rfl) (fun _ _ => by kernel_rfl) (fun r_4 x_5 => ?_))
    refine GoO.shape (env' := [(15, .pointer (some ⟨b_2, 0, none⟩)), (16, .int .u64 r_4.1)]) (H' := [⟨1, b_2, [.string (bs r_4.2.s), .bool r_4.2.bad]⟩]) (B' := []) (ks := [15, 16]) (by kernel_rfl) (by kernel_rfl) (by kernel_rfl) ?_
    refine GoO.exec (is := [2]) (hs := [.p]) (rest := []) (ks := [2]) (env' := [(2, .int .u64 r_4.1)]) (H' := [⟨1, b_2, [.string (bs r_4.2.s), .bool r_4.2.bad]⟩]) (ps := []) (by kernel_rfl) trivial ?_
    refine GoO.regionEnd ?_
    exact GoO.ret' (h := c24_8e) (hs := []) (ps := []) (hk := [0]) (bk := []) Try.func24 () (by kernel_rfl) trivial (by kernel_rfl) (by kernel_rfl)
  · refine GoO.skip' c24_9e ?_
    refine GoO.seq' c24_10e ?_
    refine GoO.region' (is := [0, 1, 2, 3, 4, 5, 6]) c24_11e (by kernel_rfl) ?_
    refine GoO.guard (fun h6 => ?_)
    refine GoO.exec (is := [0, 1, 2, 3, 4, 5, 6]) (hs := [.p, .p, .p, .b 0, .p, .p, .p]) (rest := []) (ks := [0, 3]) (env' := [(0, .pointer (some ⟨b_2, 0, none⟩)), (3, .int .i64 (wi64 ((rdB r_1.s 0).toNat : Int)))]) (H' := [⟨1, b_2, [.string (bs r_1.s), .bool r_1.bad]⟩]) (ps := [b_2 = b_2, (0 : Int) ≤ 0, 0 < (r_1.s.length : Int)]) (by kernel_rfl) (And.intro rfl (And.intro h6.1 (And.intro h6.2 trivial))) ?_
    refine GoO.regionEnd ?_
    refine GoO.seq' c24_12e ?_
    refine GoO.seq' c24_13e ?_
    refine GoO.region' (is := [0, 1, 2, 3, 4, 5, 6, 7, 8, 9, 10, 11, 12, 13, 14, 15, 16, 17, 18, 19, 20, 21, 22, 23]) c24_14e (by kernel_rfl) ?_
    refine GoO.exec (is := [0, 1, 2]) (hs := [.p, .p, .p]) (rest := [3, 4, 5, 6, 7, 8, 9, 10, 11, 12, 13, 14, 15, 16, 17, 18, 19, 20, 21, 22, 23]) (ks := [0, 3, 25]) (env' := [(0, .pointer (some ⟨b_2, 0, none⟩)), (3, .int .i64 (wi64 ((rdB r_1.s 0).toNat : Int))), (25, .bool (decide ((wi64 ((rdB r_1.s 0).toNat : Int)) > 8)))]) (H' := [⟨1, b_2, [.string (bs r_1.s), .bool r_1.bad]⟩]) (ps := []) (by kernel_rfl) trivial ?_
    refine GoO.bsplit (t := 25) (by kernel_rfl) (fun h7 => ?_) (fun h7 => ?_)
    · refine GoO.exec (is := [3, 4, 5, 6, 7, 8, 9, 10, 11, 12, 13, 14, 15, 16, 17, 18, 19, 20, 21, 22, 23]) (hs := [.p, .p, .p, .p, .p, .p, .p, .p, .p, .p, .p, .p, .p, .p, .p, .p, .p, .p, .p, .p, .p]) (rest := []) (ks := [0, 3, 46]) (env' := [(0, .pointer (some ⟨b_2, 0, none⟩)), (3, .int .i64 (wi64 ((rdB r_1.s 0).toNat : Int))), (46, .bool true)]) (H' := [⟨1, b_2, [.string (bs r_1.s), .bool r_1.bad]⟩]) (ps := []) (by kernel_rfl) trivial ?_
      refine GoO.regionEnd ?_
      exact GoO.sub (ks := [0, 3, 46]) (hk := [0]) (bk := []) (by kernel_rfl) (by kernel_rfl) (by kernel_rfl) (pack_Reader_Num_j0_ok n r_1 b_2 w0 S0 true)
    · refine GoO.exec (is := [3, 4, 5, 6, 7, 8, 9, 10, 11, 12]) (hs := [.p, .p, .p, .p, .b 0, .p, .p, .p, .p, .p]) (rest := [13, 14, 15, 16, 17, 18, 19, 20, 21, 22, 23]) (ks := [0, 3, 35]) (env' := [(0, .pointer (some ⟨b_2, 0, none⟩)), (3, .int .i64 (wi64 ((rdB r_1.s 0).toNat : Int))), (35, .bool (decide ((wi64 ((rdB r_1.s 0).toNat : Int)) > (wi64 ((r_1.s.length : Int) - 1)))))]) (H' := [⟨1, b_2, [.string (bs r_1.s), .bool r_1.bad]⟩]) (ps := [b_2 = b_2]) (by kernel_rfl) (And.intro rfl trivial) ?_
      refine GoO.bsplit (t := 35) (by kernel_rfl) (fun h8 => ?_) (fun h8 => ?_)
      · refine GoO.exec (is := [13, 14, 15, 16, 17, 18, 19, 20, 21, 22, 23]) (hs := [.p, .p, .p, .p, .p, .p, .p, .p, .p, .p, .p]) (rest := []) (ks := [0, 3, 46]) (env' := [(0, .pointer (some ⟨b_2, 0, none⟩)), (3, .int .i64 (wi64 ((rdB r_1.s 0).toNat : Int))), (46, .bool true)]) (H' := [⟨1, b_2, [.string (bs r_1.s), .bool r_1.bad]⟩]) (ps := []) (by kernel_rfl) trivial ?_
        refine GoO.regionEnd ?_
        exact GoO.sub (ks := [0, 3, 46]) (hk := [0]) (bk := []) (by kernel_rfl) (by kernel_rfl) (by kernel_rfl) (pack_Reader_Num_j0_ok n r_1 b_2 w0 S0 true)
      · refine GoO.exec (is := [13, 14, 15]) (hs := [.p, .p, .p]) (rest := [16, 17, 18, 19, 20, 21, 22, 23]) (ks := [0, 3, 35, 38]) (env' := [(0, .pointer (some ⟨b_2, 0, none⟩)), (3, .int .i64 (wi64 ((rdB r_1.s 0).toNat : Int))), (35, .bool false), (38, .bool (decide ((wi64 ((rdB r_1.s 0).toNat : Int)) > 0)))]) (H' := [⟨1, b_2, [.string (bs r_1.s), .bool r_1.bad]⟩]) (ps := []) (by kernel_rfl) trivial ?_
        refine GoO.bsplit (t := 38) (by kernel_rfl) (fun h9 => ?_) (fun h9 => ?_)
        · refine GoO.guard (fun h10 => ?_)
          refine GoO.exec (is := [16, 17, 18, 19, 20, 21, 22, 23]) (hs := [.p, .p, .p, .b 0, .p, .p, .p, .p]) (rest := []) (ks := [0, 3, 46]) (env' := [(0, .pointer (some ⟨b_2, 0, none⟩)), (3, .int .i64 (wi64 ((rdB r_1.s 0).toNat : Int))), (46, .bool (((rdB r_1.s 1).toNat : Int) == 0))]) (H' := [⟨1, b_2, [.string (bs r_1.s), .bool r_1.bad]⟩]) (ps := [b_2 = b_2, (0 : Int) ≤ 1, 1 < (r_1.s.length : Int)]) (by kernel_rfl) (And.intro rfl (And.intro h10.1 (And.intro h10.2 trivial))) ?_
          refine GoO.regionEnd ?_
          exact GoO.sub (ks := [0, 3, 46]) (hk := [0]) (bk := []) (by kernel_rfl) (by kernel_rfl) (by kernel_rfl) (pack_Reader_Num_j0_ok n r_1 b_2 w0 S0 (((rdB r_1.s 1).toNat : Int) == 0))
        · refine GoO.exec (is := [16, 17, 18, 19, 20, 21, 22, 23]) (hs := [.p, .p, .p, .p, .p, .p, .p, .p]) (rest := []) (ks := [0, 3, 46]) (env' := [(0, .pointer (some ⟨b_2, 0, none⟩)), (3, .int .i64 (wi64 ((rdB r_1.s 0).toNat : Int))), (46, .bool false)]) (H' := [⟨1, b_2, [.string (bs r_1.s), .bool r_1.bad]⟩]) (ps := []) (by kernel_rfl) trivial ?_
          refine GoO.regionEnd ?_
          exact GoO.sub (ks := [0, 3, 46]) (hk := [0]) (bk := []) (by kernel_rfl) (by kernel_rfl) (by kernel_rfl) (pack_Reader_Num_j0_ok n r_1 b_2 w0 S0 false)

/-! (*tontine/pack.Reader).Up -/
noncomputable def c27_0 : Code := bodyOf Try.f27
noncomputable def c27_1 : Code := cdL c27_0
noncomputable def c27_2 : Code := cdR c27_0
noncomputable def c27_3 : Code := cdL c27_2
noncomputable def c27_4 : Code := cdR c27_2
noncomputable def c27_5 : Code := cdL c27_4
noncomputable def c27_6 : Code := cdL c27_5
noncomputable def c27_7 : Code := cdR c27_5
noncomputable def c27_8 : Code := cdL c27_7
noncomputable def c27_9 : Code := cdL c27_8
noncomputable def c27_10 : Code := cdR c27_8
noncomputable def c27_11 : Code := cdR c27_7
noncomputable def c27_12 : Code := cdR c27_4
noncomputable def c27_13 : Code := cdL c27_12
noncomputable def c27_14 : Code := cdR c27_12
noncomputable def r27_1 : Array Oper := cdO c27_1
noncomputable def r27_3 : Array Oper := cdO c27_3
noncomputable def r27_6 : Array Oper := cdO c27_6
noncomputable def r27_9 : Array Oper := cdO c27_9
noncomputable def r27_13 : Array Oper := cdO c27_13
theorem c27_0e : c27_0 = .seq c27_1 c27_2 := by kernel_rfl
theorem c27_1e : c27_1 = .region 0 r27_1 false := by kernel_rfl
theorem c27_2e : c27_2 = .seq c27_3 c27_4 := by kernel_rfl
theorem c27_3e : c27_3 = .region 1 r27_3 false := by kernel_rfl
theorem c27_4e : c27_4 = .seq c27_5 c27_12 := by kernel_rfl
theorem c27_5e : c27_5 = .seq c27_6 c27_7 := by kernel_rfl
theorem c27_6e : c27_6 = .region 2 r27_6 false := by kernel_rfl
theorem c27_7e : c27_7 = .cond (cdC c27_7) c27_8 c27_11 := by kernel_rfl
theorem c27_8e : c27_8 = .seq c27_9 c27_10 := by kernel_rfl
theorem c27_9e : c27_9 = .region 3 r27_9 false := by kernel_rfl
theorem c27_10e : c27_10 = .ret := by kernel_rfl
theorem c27_11e : c27_11 = .skip := by kernel_rfl
theorem c27_12e : c27_12 = .seq c27_13 c27_14 := by kernel_rfl
theorem c27_13e : c27_13 = .region 4 r27_13 false := by kernel_rfl
theorem c27_14e : c27_14 = .ret := by kernel_rfl
noncomputable def pack_Reader_Up.R (b_2 : Nat) : Pst (Int × T_pack_Reader) where
  ε := Unit
  v := fun r x => .int .i64 r.1
  H := fun r x => [⟨1, b_2, [.string (bs r.2.s), .bool r.2.bad]⟩]
  B := fun r x => []
noncomputable def pack_Reader_Up.cx (b_2 : Nat) (w0 : World) (S0 : Fam) : Cx (Int × T_pack_Reader) := ⟨Try.prog, 27, Try.f27, 21, w0, S0, [1], 1, pack_Reader_Up.R b_2⟩
theorem pack_Reader_Up_j0_ok (n : Nat) (r_4 : Int × T_pack_Reader) (b_2 : Nat) (w0 : World) (S0 : Fam) (b_6 : Bool) :
    GoO (pack_Reader_Up.cx b_2 w0 S0) [(0, .pointer (some ⟨b_2, 0, none⟩)), (5, .int .u64 r_4.1), (15, .bool b_6)] [⟨1, b_2, [.string (bs r_4.2.s), .bool r_4.2.bad]⟩] [] [.code c27_7, .code c27_12] (pack_Reader_Up.j0 n r_4 b_6) := by
  unfold pack_Reader_Up.j0
  refine GoO.ite' c27_7e (by kernel_rfl) (fun h7 => ?_) (fun h7 => ?_)
  · refine GoO.seq' c27_8e ?_
    refine GoO.region' (is := [0, 1, 2, 3]) c27_9e (by kernel_rfl) ?_
    refine GoO.exec (is := [0]) (hs := [.p]) (rest := [1, 2, 3]) (ks := [16]) (env' := [(16, .pointer (some ⟨b_2, 0, none⟩))]) (H' := [⟨1, b_2, [.string (bs r_4.2.s), .bool r_4.2.bad]⟩]) (ps := []) (by kernel_rfl) trivial ?_
    refine OpTo.go (GoO.call rfl (by kernel_rfl) (by kernel_rfl) (pack_Reader_fail_ok n r_4.2 b_2) [[0], [1]] [(1, 1)] [(1, 0)] [] (hks := []) (bks := []) (by kernel_rfl) (by kernel_rfl) (by kernel_rfl) (.inl rfl) rfl rfl (by kernel_rfl) (by kernel_rfl) _ (fun _ _ => rfl) _ _ (fun _ _ => rfl) (fun _ _ => rfl) (fun _ _ => by kernel_rfl) (fun _ _ => by kernel_rfl) (fun r_8 x_9 => ?_))
    refine GoO.shape (env' := [(16, .pointer (some ⟨b_2, 0, none⟩)), (17, .int .u64 r_8.1)]) (H' := [⟨1, b_2, [.string (bs r_8.2.s), .bool r_8.2.bad]⟩]) (B' := []) (ks := [16, 17]) (by kernel_rfl) (by kernel_rfl) (by kernel_rfl) ?_
    refine GoO.exec (is := [2, 3]) (hs := [.p, .p]) (rest := []) (ks := [4]) (env' := [(4, .int .i64 (wi64 r_8.1))]) (H' := [⟨1, b_2, [.string (bs r_8.2.s), .bool r_8.2.bad]⟩]) (ps := []) (by kernel_rfl) trivial ?_
    refine GoO.regionEnd ?_
    exact GoO.ret' (h := c27_10e) (hs := []) (ps := []) (hk := [0]) (bk := []) Try.func27 () (by kernel_rfl) trivial (by kernel_rfl) (by kernel_rfl)
  · refine GoO.skip' c27_11e ?_
    refine GoO.seq' c27_12e ?_
    refine GoO.region' (is := [0, 1, 2]) c27_13e (by kernel_rfl) ?_
    refine GoO.exec (is := [0, 1, 2]) (hs := [.p, .p, .p]) (rest := []) (ks := [4]) (env' := [(4, .int .i64 (wi64 r_4.1))]) (H' := [⟨1, b_2, [.string (bs r_4.2.s), .bool r_4.2.bad]⟩]) (ps := []) (by kernel_rfl) trivial ?_
    refine GoO.regionEnd ?_
    exact GoO.ret' (h := c27_14e) (hs := []) (ps := []) (hk := [0]) (bk := []) Try.func27 () (by kernel_rfl) trivial (by kernel_rfl) (by kernel_rfl)
theorem pack_Reader_Up_ok (n : Nat) (r_1 : T_pack_Reader) (limit_3 : Int) (b_2 : Nat) :
    Meets Try.prog 27 [.pointer (some ⟨b_2, 0, none⟩), .int .i64 limit_3] 1 [1] [⟨1, b_2, [.string (bs r_1.s), .bool r_1.bad]⟩] [] (pack_Reader_Up.f n r_1 limit_3) (pack_Reader_Up.R b_2) := by
  refine Meets.of (c := c27_0) (n := 21) Try.func27 (by kernel_rfl) (by kernel_rfl) (by kernel_rfl) fun w0 S0 => ?_
  unfold pack_Reader_Up.f
  show GoO (pack_Reader_Up.cx b_2 w0 S0) [(0, .pointer (some ⟨b_2, 0, none⟩)), (1, .int .i64 limit_3)] [⟨1, b_2, [.string (bs r_1.s), .bool r_1.bad]⟩] [] [.code c27_0] _
  refine GoO.seq' c27_0e ?_
  refine GoO.region' (is := [0]) c27_1e (by kernel_rfl) ?_
  refine GoO.exec (is := [0]) (hs := [.p]) (rest := []) (ks := [0, 1]) (env' := [(0, .pointer (some ⟨b_2, 0, none⟩)), (1, .int .i64 limit_3)]) (H' := [⟨1, b_2, [.string (bs r_1.s), .bool r_1.bad]⟩]) (ps := []) (by kernel_rfl) trivial ?_
  refine GoO.regionEnd ?_
  refine GoO.seq' c27_2e ?_
  refine GoO.region' (is := [0, 1, 2]) c27_3e (by kernel_rfl) ?_
  refine GoO.exec (is := [0]) (hs := [.p]) (rest := [1, 2]) (ks := [0, 1, 6]) (env' := [(0, .pointer (some ⟨b_2, 0, none⟩)), (1, .int .i64 limit_3), (6, .pointer (some ⟨b_2, 0, none⟩))]) (H' := [⟨1, b_2, [.string (bs r_1.s), .bool r_1.bad]⟩]) (ps := []) (by kernel_rfl) trivial ?_
  refine OpTo.go (GoO.call rfl (by kernel_rfl) (by kernel_rfl) (pack_Reader_Num_ok n r_1 b_2) [[0], [1]] [(1, 1)] [(1, 0)] [] (hks := []) (bks := []) (by kernel_rfl) (by kernel_rfl) (by kernel_rfl) (.inl rfl) rfl rfl (by kernel_rfl) (by kernel_rfl) _ (fun _ _ => rfl) _ _ (fun _ _ => rfl) (fun _ _ => rfl) (fun _ _ => by kernel_rfl) (fun _ _ => by kernel_rfl) (fun r_4 x_10 => ?_))
  refine GoO.shape (env' := [(0, .pointer (some ⟨b_2, 0, none⟩)), (1, .int .i64 limit_3), (6, .pointer (some ⟨b_2, 0, none⟩)), (7, .int .u64 r_4.1)]) (H' := [⟨1, b_2, [.string (bs r_4.2.s), .bool r_4.2.bad]⟩]) (B' := []) (ks := [0, 1, 6, 7]) (by kernel_rfl) (by kernel_rfl) (by kernel_rfl) ?_
  refine GoO.exec (is := [2]) (hs := [.p]) (rest := []) (ks := [0, 1, 5]) (env' := [(0, .pointer (some ⟨b_2, 0, none⟩)), (1, .int .i64 limit_3), (5, .int .u64 r_4.1)]) (H' := [⟨1, b_2, [.string (bs r_4.2.s), .bool r_4.2.bad]⟩]) (ps := []) (by kernel_rfl) trivial ?_
  refine GoO.regionEnd ?_
  refine GoO.seq' c27_4e ?_
  refine GoO.seq' c27_5e ?_
  refine GoO.region' (is := [0, 1, 2, 3, 4, 5, 6, 7]) c27_6e (by kernel_rfl) ?_
  refine GoO.exec (is := [0, 1, 2]) (hs := [.p, .p, .p]) (rest := [3, 4, 5, 6, 7]) (ks := [0, 1, 5, 10]) (env' := [(0, .pointer (some ⟨b_2, 0, none⟩)), (1, .int .i64 limit_3), (5, .int .u64 r_4.1), (10, .bool (decide (limit_3 < 0)))]) (H' := [⟨1, b_2, [.string (bs r_4.2.s), .bool r_4.2.bad]⟩]) (ps := []) (by kernel_rfl) trivial ?_
  refine GoO.bsplit (t := 10) (by kernel_rfl) (fun h5 => ?_) (fun h5 => ?_)
  · refine GoO.exec (is := [3, 4, 5, 6, 7]) (hs := [.p, .p, .p, .p, .p]) (rest := []) (ks := [0, 5, 15]) (env' := [(0, .pointer (some ⟨b_2, 0, none⟩)), (5, .int .u64 r_4.1), (15, .bool true)]) (H' := [⟨1, b_2, [.string (bs r_4.2.s), .bool r_4.2.bad]⟩]) (ps := []) (by kernel_rfl) trivial ?_
    refine GoO.regionEnd ?_
    exact GoO.sub (ks := [0, 5, 15]) (hk := [0]) (bk := []) (by kernel_rfl) (by kernel_rfl) (by kernel_rfl) (pack_Reader_Up_j0_ok n r_4 b_2 w0 S0 true)
  · refine GoO.exec (is := [3, 4, 5, 6, 7]) (hs := [.p, .p, .p, .p, .p]) (rest := []) (ks := [0, 5, 15]) (env' := [(0, .pointer (some ⟨b_2, 0, none⟩)), (5, .int .u64 r_4.1), (15, .bool (decide (r_4.1 > (wu64 limit_3))))]) (H' := [⟨1, b_2, [.string (bs r_4.2.s), .bool r_4.2.bad]⟩]) (ps := []) (by kernel_rfl) trivial ?_
    refine GoO.regionEnd ?_
    exact GoO.sub (ks := [0, 5, 15]) (hk := [0]) (bk := []) (by kernel_rfl) (by kernel_rfl) (by kernel_rfl) (pack_Reader_Up_j0_ok n r_4 b_2 w0 S0 (decide (r_4.1 > (wu64 limit_3))))

/-! (*tontine/pack.Reader).Text -/
noncomputable def c28_0 : Code := bodyOf Try.f28
noncomputable def c28_1 : Code := cdL c28_0
noncomputable def c28_2 : Code := cdR c28_0
noncomputable def c28_3 : Code := cdL c28_2
noncomputable def c28_4 : Code := cdR c28_2
noncomputable def c28_5 : Code := cdL c28_4
noncomputable def c28_6 : Code := cdL c28_5
noncomputable def c28_7 : Code := cdR c28_5
noncomputable def c28_8 : Code := cdL c28_7
noncomputable def c28_9 : Code := cdL c28_8
noncomputable def c28_10 : Code := cdR c28_8
noncomputable def c28_11 : Code := cdL c28_10
noncomputable def c28_12 : Code := cdR c28_10
noncomputable def c28_13 : Code := cdR c28_7
noncomputable def c28_14 : Code := cdR c28_4
noncomputable def c28_15 : Code := cdL c28_14
noncomputable def c28_16 : Code := cdR c28_14
noncomputable def c28_17 : Code := cdL c28_16
noncomputable def c28_18 : Code := cdR c28_16
noncomputable def c28_19 : Code := cdL c28_18
noncomputable def c28_20 : Code := cdR c28_18
noncomputable def r28_1 : Array Oper := cdO c28_1
noncomputable def r28_3 : Array Oper := cdO c28_3
noncomputable def r28_6 : Array Oper := cdO c28_6
noncomputable def r28_9 : Array Oper := cdO c28_9
noncomputable def r28_11 : Array Oper := cdO c28_11
noncomputable def r28_15 : Array Oper := cdO c28_15
noncomputable def r28_17 : Array Oper := cdO c28_17
noncomputable def r28_19 : Array Oper := cdO c28_19
theorem c28_0e : c28_0 = .seq c28_1 c28_2 := by kernel_rfl
theorem c28_1e : c28_1 = .region 0 r28_1 false := by kernel_rfl
theorem c28_2e : c28_2 = .seq c28_3 c28_4 := by kernel_rfl
theorem c28_3e : c28_3 = .region 1 r28_3 false := by kernel_rfl
theorem c28_4e : c28_4 = .seq c28_5 c28_14 := by kernel_rfl
theorem c28_5e : c28_5 = .seq c28_6 c28_7 := by kernel_rfl
theorem c28_6e : c28_6 = .region 2 r28_6 false := by kernel_rfl
theorem c28_7e : c28_7 = .cond (cdC c28_7) c28_8 c28_13 := by kernel_rfl
theorem c28_8e : c28_8 = .seq c28_9 c28_10 := by kernel_rfl
theorem c28_9e : c28_9 = .region 3 r28_9 false := by kernel_rfl
theorem c28_10e : c28_10 = .seq c28_11 c28_12 := by kernel_rfl
theorem c28_11e : c28_11 = .region 4 r28_11 false := by kernel_rfl
theorem c28_12e : c28_12 = .ret := by kernel_rfl
theorem c28_13e : c28_13 = .skip := by kernel_rfl
theorem c28_14e : c28_14 = .seq c28_15 c28_16 := by kernel_rfl
theorem c28_15e : c28_15 = .region 5 r28_15 false := by kernel_rfl
theorem c28_16e : c28_16 = .seq c28_17 c28_18 := by kernel_rfl
theorem c28_17e : c28_17 = .region 6 r28_17 false := by kernel_rfl
theorem c28_18e : c28_18 = .seq c28_19 c28_20 := by kernel_rfl
theorem c28_19e : c28_19 = .region 7 r28_19 false := by kernel_rfl
theorem c28_20e : c28_20 = .ret := by kernel_rfl
noncomputable def pack_Reader_Text.R (b_2 : Nat) : Pst ((List UInt8) × T_pack_Reader) where
  ε := Unit
  v := fun r x => .string (bs r.1)
  H := fun r x => [⟨1, b_2, [.string (bs r.2.s), .bool r.2.bad]⟩]
  B := fun r x => []
noncomputable def pack_Reader_Text.cx (b_2 : Nat) (w0 : World) (S0 : Fam) : Cx ((List UInt8) × T_pack_Reader) := ⟨Try.prog, 28, Try.f28, 39, w0, S0, [1], 1, pack_Reader_Text.R b_2⟩
theorem pack_Reader_Text_ok (n : Nat) (r_1 : T_pack_Reader) (limit_3 : Int) (b_2 : Nat) :
    Meets Try.prog 28 [.pointer (some ⟨b_2, 0, none⟩), .int .i64 limit_3] 1 [1] [⟨1, b_2, [.string (bs r_1.s), .bool r_1.bad]⟩] [] (pack_Reader_Text.f n r_1 limit_3) (pack_Reader_Text.R b_2) := by
  refine Meets.of (c := c28_0) (n := 39) Try.func28 (by kernel_rfl) (by kernel_rfl) (by kernel_rfl) fun w0 S0 => ?_
  unfold pack_Reader_Text.f
  show GoO (pack_Reader_Text.cx b_2 w0 S0) [(0, .pointer (some ⟨b_2, 0, none⟩)), (1, .int .i64 limit_3)] [⟨1, b_2, [.string (bs r_1.s), .bool r_1.bad]⟩] [] [.code c28_0] _
  refine GoO.seq' c28_0e ?_
  refine GoO.region' (is := [0]) c28_1e (by kernel_rfl) ?_
  refine GoO.exec (is := [0]) (hs := [.p]) (rest := []) (ks := [0, 1]) (env' := [(0, .pointer (some ⟨b_2, 0, none⟩)), (1, .int .i64 limit_3)]) (H' := [⟨1, b_2, [.string (bs r_1.s), .bool r_1.bad]⟩]) (ps := []) (by kernel_rfl) trivial ?_
  refine GoO.regionEnd ?_
  refine GoO.seq' c28_2e ?_
  refine GoO.region' (is := [0, 1, 2, 3]) c28_3e (by kernel_rfl) ?_
  refine GoO.exec (is := [0, 1]) (hs := [.p, .p]) (rest := [2, 3]) (ks := [0, 7, 8]) (env' := [(0, .pointer (some ⟨b_2, 0, none⟩)), (7, .pointer (some ⟨b_2, 0, none⟩)), (8, .int .i64 limit_3)]) (H' := [⟨1, b_2, [.string (bs r_1.s), .bool r_1.bad]⟩]) (ps := []) (by kernel_rfl) trivial ?_
  refine OpTo.go (GoO.call rfl (by kernel_rfl) (by kernel_rfl) (pack_Reader_Up_ok n r_1 limit_3 b_2) [[0], [1]] [(1, 1)] [(1, 0)] [] (hks := []) (bks := []) (by kernel_rfl) (by kernel_rfl) (by kernel_rfl) (.inl rfl) rfl rfl (by kernel_rfl) (by kernel_rfl) _ (fun _ _ => rfl) _ _ (fun _ _ => rfl) (fun _ _ => rfl) (fun _ _ => by kernel_rfl) (fun _ _ => by kernel_rfl) (fun r_4 x_10 => ?_))
  refine GoO.shape (env' := [(0, .pointer (some ⟨b_2, 0, none⟩)), (7, .pointer (some ⟨b_2, 0, none⟩)), (8, .int .i64 limit_3), (9, .int .i64 r_4.1)]) (H' := [⟨1, b_2, [.string (bs r_4.2.s), .bool r_4.2.bad]⟩]) (B' := []) (ks := [0, 7, 8, 9]) (by kernel_rfl) (by kernel_rfl) (by kernel_rfl) ?_
  refine GoO.exec (is := [3]) (hs := [.p]) (rest := []) (ks := [0, 5]) (env' := [(0, .pointer (some ⟨b_2, 0, none⟩)), (5, .int .i64 r_4.1)]) (H' := [⟨1, b_2, [.string (bs r_4.2.s), .bool r_4.2.bad]⟩]) (ps := []) (by kernel_rfl) trivial ?_
  refine GoO.regionEnd ?_
  refine GoO.seq' c28_4e ?_
  refine GoO.seq' c28_5e ?_
  refine GoO.region' (is := [0, 1, 2, 3, 4, 5, 6, 7, 8, 9, 10]) c28_6e (by kernel_rfl) ?_
  refine GoO.exec (is := [0, 1, 2, 3, 4, 5, 6, 7, 8, 9, 10]) (hs := [.p, .p, .p, .p, .p, .p, .p, .b 0, .p, .p, .p]) (rest := []) (ks := [0, 5, 20]) (env' := [(0, .pointer (some ⟨b_2, 0, none⟩)), (5, .int .i64 r_4.1), (20, .bool (decide (r_4.1 > (r_4.2.s.length : Int))))]) (H' := [⟨1, b_2, [.string (bs r_4.2.s), .bool r_4.2.bad]⟩]) (ps := [b_2 = b_2]) (by kernel_rfl) (And.intro rfl trivial) ?_
  refine GoO.regionEnd ?_
  refine GoO.ite' c28_7e (by kernel_rfl) (fun h5 => ?_) (fun h5 => ?_)
  · refine GoO.seq' c28_8e ?_
    refine GoO.region' (is := [0, 1]) c28_9e (by kernel_rfl) ?_
    refine GoO.exec (is := [0]) (hs := [.p]) (rest := [1]) (ks := [21]) (env' := [(21, .pointer (some ⟨b_2, 0, none⟩))]) (H' := [⟨1, b_2, [.string (bs r_4.2.s), .bool r_4.2.bad]⟩]) (ps := []) (by kernel_rfl) trivial ?_
    refine OpTo.go (GoO.call rfl (by kernel_rfl) (by kernel_rfl) (pack_Reader_fail_ok n r_4.2 b_2) [[0], [1]] [(1, 1)] [(1, 0)] [] (hks := []) (bks := []) (by kernel_rfl) (by kernel_rfl) (by kernel_rfl) (.inl rfl) rfl rfl (by kernel_rfl) (by kernel_rfl) _ (fun _ _ => rfl) _ _ (fun _ _ => rfl) (fun _ _ => rfl) (fun _ _ => by kernel_rfl) (fun _ _ => by kernel_rfl) (fun r_6 x_7 => ?_))
    refine GoO.shape (env' := [(21, .pointer (some ⟨b_2, 0, none⟩)), (22, .int .u64 r_6.1)]) (H' := [⟨1, b_2, [.string (bs r_6.2.s), .bool r_6.2.bad]⟩]) (B' := []) (ks := [21, 22]) (by kernel_rfl) (by kernel_rfl) (by kernel_rfl) ?_
    refine GoO.regionEnd ?_
    refine GoO.seq' c28_10e ?_
    refine GoO.region' (is := [0]) c28_11e (by kernel_rfl) ?_
    refine GoO.exec (is := [0]) (hs := [.p]) (rest := []) (ks := [4]) (env' := [(4, .string (bs []))]) (H' := [⟨1, b_2, [.string (bs r_6.2.s), .bool r_6.2.bad]⟩]) (ps := []) (by kernel_rfl) trivial ?_
    refine GoO.regionEnd ?_
    exact GoO.ret' (h := c28_12e) (hs := []) (ps := []) (hk := [0]) (bk := []) Try.func28 () (by kernel_rfl) trivial (by kernel_rfl) (by kernel_rfl)
  · refine GoO.skip' c28_13e ?_
    refine GoO.seq' c28_14e ?_
    refine GoO.region' (is := [0, 1, 2, 3, 4, 5, 6]) c28_15e (by kernel_rfl) ?_
    refine GoO.guard (fun h8 => ?_)
    refine GoO.exec (is := [0, 1, 2, 3, 4, 5, 6]) (hs := [.p, .p, .p, .b 0, .p, .p, .p]) (rest := []) (ks := [0, 5, 6]) (env' := [(0, .pointer (some ⟨b_2, 0, none⟩)), (5, .int .i64 r_4.1), (6, .string (bs (r_4.2.s.take r_4.1.toNat)))]) (H' := [⟨1, b_2, [.string (bs r_4.2.s), .bool r_4.2.bad]⟩]) (ps := [b_2 = b_2, (0 : Int) ≤ r_4.1, r_4.1 ≤ (r_4.2.s.length : Int)]) (by kernel_rfl) (And.intro rfl (And.intro h8.1 (And.intro h8.2 trivial))) ?_
    refine GoO.regionEnd ?_
    refine GoO.seq' c28_16e ?_
    refine GoO.region' (is := [0, 1, 2, 3, 4, 5, 6, 7, 8, 9]) c28_17e (by kernel_rfl) ?_
    refine GoO.guard (fun h9 => ?_)
    refine GoO.exec (is := [0, 1, 2, 3, 4, 5, 6, 7, 8, 9]) (hs := [.p, .p, .p, .p, .b 0, .p, .p, .p, .p, .b 0]) (rest := []) (ks := [6]) (env' := [(6, .string (bs (r_4.2.s.take r_4.1.toNat)))]) (H' := [⟨1, b_2, [.string (bs (r_4.2.s.drop r_4.1.toNat)), .bool r_4.2.bad]⟩]) (ps := [b_2 = b_2, (0 : Int) ≤ r_4.1, r_4.1 ≤ (r_4.2.s.length : Int), b_2 = b_2]) (by kernel_rfl) (And.intro rfl (And.intro h9.1 (And.intro h9.2 (And.intro rfl trivial)))) ?_
    refine GoO.regionEnd ?_
    refine GoO.seq' c28_18e ?_
    refine GoO.region' (is := [0, 1]) c28_19e (by kernel_rfl) ?_
    refine GoO.exec (is := [0, 1]) (hs := [.p, .p]) (rest := []) (ks := [4]) (env' := [(4, .string (bs (r_4.2.s.take r_4.1.toNat)))]) (H' := [⟨1, b_2, [.string (bs (r_4.2.s.drop r_4.1.toNat)), .bool r_4.2.bad]⟩]) (ps := []) (by kernel_rfl) trivial ?_
    refine GoO.regionEnd ?_
    exact GoO.ret' (h := c28_20e) (hs := []) (ps := []) (hk := [0]) (bk := []) Try.func28 () (by kernel_rfl) trivial (by kernel_rfl) (by kernel_rfl)

/-! (*tontine/pack.Reader).Left -/
noncomputable def c25_0 : Code := bodyOf Try.f25
noncomputable def c25_1 : Code := cdL c25_0
noncomputable def c25_2 : Code := cdR c25_0
noncomputable def c25_3 : Code := cdL c25_2
noncomputable def c25_4 : Code := cdL c25_3
noncomputable def c25_5 : Code := cdR c25_3
noncomputable def c25_9 : Code := cdR c25_5
noncomputable def c25_10 : Code := cdR c25_2
noncomputable def c25_11 : Code := cdL c25_10
noncomputable def c25_12 : Code := cdR c25_10
noncomputable def c25_6 : Code := cdL c25_5
noncomputable def r25_1 : Array Oper := cdO c25_1
noncomputable def r25_4 : Array Oper := cdO c25_4
noncomputable def r25_11 : Array Oper := cdO c25_11
theorem c25_0e : c25_0 = .seq c25_1 c25_2 := by kernel_rfl
theorem c25_1e : c25_1 = .region 0 r25_1 false := by kernel_rfl
theorem c25_2e : c25_2 = .seq c25_3 c25_10 := by kernel_rfl
theorem c25_3e : c25_3 = .seq c25_4 c25_5 := by kernel_rfl
theorem c25_4e : c25_4 = .region 1 r25_4 false := by kernel_rfl
theorem c25_5e : c25_5 = .cond (cdC c25_5) c25_6 c25_9 := by kernel_rfl
theorem c25_9e : c25_9 = .skip := by kernel_rfl
theorem c25_10e : c25_10 = .seq c25_11 c25_12 := by kernel_rfl
theorem c25_11e : c25_11 = .region 3 r25_11 true := by kernel_rfl
theorem c25_12e : c25_12 = .ret := by kernel_rfl
noncomputable def pack_Reader_Left.R (b_2 : Nat) : Pst (Int × Bool) where
  ε := Unit
  v := fun r x => .tuple ⟨[.int .i64 r.1, .bool r.2]⟩
  H := fun r x => []
  B := fun r x => []
noncomputable def pack_Reader_Left.cx (b_2 : Nat) (w0 : World) (S0 : Fam) : Cx (Int × Bool) := ⟨Try.prog, 25, Try.f25, 16, w0, S0, [], 1, pack_Reader_Left.R b_2⟩
theorem pack_Reader_Left_ok (n : Nat) (r_1 : T_pack_Reader) (b_2 : Nat) :
    Meets Try.prog 25 [.pointer (some ⟨b_2, 0, none⟩)] 1 [] [⟨1, b_2, [.string (bs r_1.s), .bool r_1.bad]⟩] [] (pack_Reader_Left.f n r_1) (pack_Reader_Left.R b_2) := by
  refine Meets.of (c := c25_0) (n := 16) Try.func25 (by kernel_rfl) (by kernel_rfl) (by kernel_rfl) fun w0 S0 => ?_
  unfold pack_Reader_Left.f
  show GoO (pack_Reader_Left.cx b_2 w0 S0) [(0, .pointer (some ⟨b_2, 0, none⟩))] [⟨1, b_2, [.string (bs r_1.s), .bool r_1.bad]⟩] [] [.code c25_0] _
  refine GoO.seq' c25_0e ?_
  refine GoO.region' (is := [0, 1]) c25_1e (by kernel_rfl) ?_
  refine GoO.exec (is := [0, 1]) (hs := [.p, .p]) (rest := []) (ks := [0]) (env' := [(0, .pointer (some ⟨b_2, 0, none⟩))]) (H' := [⟨1, b_2, [.string (bs r_1.s), .bool r_1.bad]⟩]) (ps := []) (by kernel_rfl) trivial ?_
  refine GoO.regionEnd ?_
  refine GoO.seq' c25_2e ?_
  refine GoO.seq' c25_3e ?_
  refine GoO.region' (is := [0, 1]) c25_4e (by kernel_rfl) ?_
  refine GoO.exec (is := [0, 1]) (hs := [.p, .p]) (rest := []) (ks := [0, 5]) (env' := [(0, .pointer (some ⟨b_2, 0, none⟩)), (5, .bool false)]) (H' := [⟨1, b_2, [.string (bs r_1.s), .bool r_1.bad]⟩]) (ps := []) (by kernel_rfl) trivial ?_
  refine GoO.regionEnd ?_
  refine GoO.condF c25_5e (by kernel_rfl) ?_
  refine GoO.skip' c25_9e ?_
  refine GoO.seq' c25_10e ?_
  refine GoO.draw c25_11e (by kernel_rfl) [11] [⟨1, b_2, [.string (bs r_1.s), .bool r_1.bad]⟩] [] (n := 12) (by kernel_rfl) ?_
  simp only [List.replicate]
  refine GoF.take [0, 1, 2, 3, 4, 5, 6, 7, 8, 9, 10] [.p, .p, .p, .b 0, .p, .p, .p, .p, .b 0, .p, .p] (ks := [2, 15]) (fu := 1) (li := [true, true, true, true, true, true, true, true, true, true, true, false]) (env' := [(2, .int .i64 (r_1.s.length : Int)), (15, .bool (!r_1.bad))]) (ps := [b_2 = b_2, b_2 = b_2]) (hk := [0]) (bk := []) (by kernel_rfl) (And.intro rfl (And.intro rfl trivial)) rfl rfl ?_
  refine GoF.fin1 (i := 11) (hint := .p) (ps := []) (hk := []) (bk := []) (by kernel_rfl) rfl trivial (.inl rfl) ?_
  refine GoF.done (by kernel_rfl) ?_
  exact GoO.ret' (h := c25_12e) (hs := []) (ps := []) (hk := []) (bk := []) Try.func25 () (by kernel_rfl) trivial (by kernel_rfl) (by kernel_rfl)

/-! (*tontine/pack.Reader).Done -/
noncomputable def c29_0 : Code := bodyOf Try.f29
noncomputable def c29_1 : Code := cdL c29_0
noncomputable def c29_2 : Code := cdR c29_0
noncomputable def c29_3 : Code := cdL c29_2
noncomputable def c29_4 : Code := cdR c29_2
noncomputable def c29_5 : Code := cdL c29_4
noncomputable def c29_6 : Code := cdR c29_4
noncomputable def r29_1 : Array Oper := cdO c29_1
noncomputable def r29_3 : Array Oper := cdO c29_3
noncomputable def r29_5 : Array Oper := cdO c29_5
theorem c29_0e : c29_0 = .seq c29_1 c29_2 := by kernel_rfl
theorem c29_1e : c29_1 = .region 0 r29_1 false := by kernel_rfl
theorem c29_2e : c29_2 = .seq c29_3 c29_4 := by kernel_rfl
theorem c29_3e : c29_3 = .region 1 r29_3 false := by kernel_rfl
theorem c29_4e : c29_4 = .seq c29_5 c29_6 := by kernel_rfl
theorem c29_5e : c29_5 = .region 2 r29_5 false := by kernel_rfl
theorem c29_6e : c29_6 = .ret := by kernel_rfl
noncomputable def pack_Reader_Done.R (b_2 : Nat) : Pst Bool where
  ε := Unit
  v := fun r x => .bool r
  H := fun r x => []
  B := fun r x => []
noncomputable def pack_Reader_Done.cx (b_2 : Nat) (w0 : World) (S0 : Fam) : Cx Bool := ⟨Try.prog, 29, Try.f29, 15, w0, S0, [], 1, pack_Reader_Done.R b_2⟩
theorem pack_Reader_Done_ok (n : Nat) (r_1 : T_pack_Reader) (b_2 : Nat) :
    Meets Try.prog 29 [.pointer (some ⟨b_2, 0, none⟩)] 1 [] [⟨1, b_2, [.string (bs r_1.s), .bool r_1.bad]⟩] [] (pack_Reader_Done.f n r_1) (pack_Reader_Done.R b_2) := by
  refine Meets.of (c := c29_0) (n := 15) Try.func29 (by kernel_rfl) (by kernel_rfl) (by kernel_rfl) fun w0 S0 => ?_
  unfold pack_Reader_Done.f
  show GoO (pack_Reader_Done.cx b_2 w0 S0) [(0, .pointer (some ⟨b_2, 0, none⟩))] [⟨1, b_2, [.string (bs r_1.s), .bool r_1.bad]⟩] [] [.code c29_0] _
  refine GoO.seq' c29_0e ?_
  refine GoO.region' (is := [0]) c29_1e (by kernel_rfl) ?_
  refine GoO.exec (is := [0]) (hs := [.p]) (rest := []) (ks := [0]) (env' := [(0, .pointer (some ⟨b_2, 0, none⟩))]) (H' := [⟨1, b_2, [.string (bs r_1.s), .bool r_1.bad]⟩]) (ps := []) (by kernel_rfl) trivial ?_
  refine GoO.regionEnd ?_
  refine GoO.seq' c29_2e ?_
  refine GoO.region' (is := [0, 1, 2, 3, 4, 5, 6]) c29_3e (by kernel_rfl) ?_
  refine GoO.exec (is := [0]) (hs := [.p]) (rest := [1, 2, 3, 4, 5, 6]) (ks := [6]) (env' := [(6, .pointer (some ⟨b_2, 0, none⟩))]) (H' := [⟨1, b_2, [.string (bs r_1.s), .bool r_1.bad]⟩]) (ps := []) (by kernel_rfl) trivial ?_
  refine OpTo.go (GoO.call rfl (by kernel_rfl) (by kernel_rfl) (pack_Reader_Left_ok n r_1 b_2) [[0], [1]] [] [(1, 0)] [] (hks := [0]) (bks := []) (by kernel_rfl) (by kernel_rfl) (by kernel_rfl) (.inl rfl) rfl rfl (by kernel_rfl) (by kernel_rfl) _ (fun _ _ => rfl) _ _ (fun _ _ => rfl) (fun _ _ => rfl) (fun _ _ => by kernel_rfl) (fun _ _ => by kernel_rfl) (fun r_3 x_5 => ?_))
  refine GoO.shape (env' := [(6, .pointer (some ⟨b_2, 0, none⟩)), (7, .tuple ⟨[.int .i64 r_3.1, .bool r_3.2]⟩)]) (H' := [⟨1, b_2, [.string (bs r_1.s), .bool r_1.bad]⟩]) (B' := []) (ks := [6, 7]) (by kernel_rfl) (by kernel_rfl) (by kernel_rfl) ?_
  refine GoO.exec (is := [2, 3, 4, 5, 6]) (hs := [.p, .p, .p, .p, .p]) (rest := []) (ks := [3, 4]) (env' := [(3, .int .i64 r_3.1), (4, .bool r_3.2)]) (H' := [⟨1, b_2, [.string (bs r_1.s), .bool r_1.bad]⟩]) (ps := []) (by kernel_rfl) trivial ?_
  refine GoO.regionEnd ?_
  refine GoO.seq' c29_4e ?_
  refine GoO.region' (is := [0, 1, 2, 3, 4, 5]) c29_5e (by kernel_rfl) ?_
  refine GoO.exec (is := [0, 1, 2]) (hs := [.p, .p, .p]) (rest := [3, 4, 5]) (ks := [4, 12]) (env' := [(4, .bool r_3.2), (12, .bool (r_3.1 == 0))]) (H' := [⟨1, b_2, [.string (bs r_1.s), .bool r_1.bad]⟩]) (ps := []) (by kernel_rfl) trivial ?_
  refine GoO.bsplit (t := 12) (by kernel_rfl) (fun h4 => ?_) (fun h4 => ?_)
  · refine GoO.exec (is := [3, 4, 5]) (hs := [.p, .p, .p]) (rest := []) (ks := [2]) (env' := [(2, .bool r_3.2)]) (H' := [⟨1, b_2, [.string (bs r_1.s), .bool r_1.bad]⟩]) (ps := []) (by kernel_rfl) trivial ?_
    refine GoO.regionEnd ?_
    exact GoO.ret' (h := c29_6e) (hs := []) (ps := []) (hk := []) (bk := []) Try.func29 () (by kernel_rfl) trivial (by kernel_rfl) (by kernel_rfl)
  · refine GoO.exec (is := [3, 4, 5]) (hs := [.p, .p, .p]) (rest := []) (ks := [2]) (env' := [(2, .bool false)]) (H' := [⟨1, b_2, [.string (bs r_1.s), .bool r_1.bad]⟩]) (ps := []) (by kernel_rfl) trivial ?_
    refine GoO.regionEnd ?_
    exact GoO.ret' (h := c29_6e) (hs := []) (ps := []) (hk := []) (bk := []) Try.func29 () (by kernel_rfl) trivial (by kernel_rfl) (by kernel_rfl)

/-! tontine/tontinelaw03.begun -/
noncomputable def c22_0 : Code := bodyOf Try.f22
noncomputable def c22_1 : Code := cdL c22_0
noncomputable def c22_2 : Code := cdR c22_0
noncomputable def c22_3 : Code := cdL c22_2
noncomputable def c22_4 : Code := cdR c22_2
noncomputable def c22_5 : Code := cdL c22_4
noncomputable def c22_6 : Code := cdR c22_4
noncomputable def c22_7 : Code := cdL c22_6
noncomputable def c22_8 : Code := cdR c22_6
noncomputable def r22_1 : Array Oper := cdO c22_1
noncomputable def r22_3 : Array Oper := cdO c22_3
noncomputable def r22_5 : Array Oper := cdO c22_5
noncomputable def r22_7 : Array Oper := cdO c22_7
theorem c22_0e : c22_0 = .seq c22_1 c22_2 := by kernel_rfl
theorem c22_1e : c22_1 = .region 0 r22_1 false := by kernel_rfl
theorem c22_2e : c22_2 = .seq c22_3 c22_4 := by kernel_rfl
theorem c22_3e : c22_3 = .region 1 r22_3 false := by kernel_rfl
theorem c22_4e : c22_4 = .seq c22_5 c22_6 := by kernel_rfl
theorem c22_5e : c22_5 = .region 2 r22_5 false := by kernel_rfl
theorem c22_6e : c22_6 = .seq c22_7 c22_8 := by kernel_rfl
theorem c22_7e : c22_7 = .region 3 r22_7 false := by kernel_rfl
theorem c22_8e : c22_8 = .ret := by kernel_rfl
noncomputable def tontinelaw03_begun.R : Pst Bool where
  ε := Unit
  v := fun r x => .bool r
  H := fun r x => []
  B := fun r x => []
noncomputable def tontinelaw03_begun.cx (w0 : World) (S0 : Fam) : Cx Bool := ⟨Try.prog, 22, Try.f22, 25, w0, S0, [], 0, tontinelaw03_begun.R⟩
theorem tontinelaw03_begun_ok (n : Nat) :
    Meets Try.prog 22 [] 0 [] [] [] (tontinelaw03_begun.f n) (tontinelaw03_begun.R) := by
  refine Meets.of (c := c22_0) (n := 25) Try.func22 (by kernel_rfl) (by kernel_rfl) (by kernel_rfl) fun w0 S0 => ?_
  unfold tontinelaw03_begun.f
  show GoO (tontinelaw03_begun.cx w0 S0) [] [] [] [.code c22_0] _
  refine GoO.seq' c22_0e ?_
  refine GoO.region' (is := [0]) c22_1e (by kernel_rfl) ?_
  refine GoO.exec (is := [0]) (hs := [.p]) (rest := []) (ks := []) (env' := []) (H' := []) (ps := []) (by kernel_rfl) trivial ?_
  refine GoO.regionEnd ?_
  refine GoO.seq' c22_2e ?_
  refine GoO.region' (is := [0, 1, 2, 3, 4]) c22_3e (by kernel_rfl) ?_
  refine OpTo.go (GoO.new rfl 40 (cs := [.slice none ([] : List UInt8).length 0]) (by kernel_rfl) _ (fun _ => rfl) (fun b_1 => ?_))
  refine GoO.nilOwn Kd.u8 41 ?_
  refine OpTo.go (GoO.call rfl (by kernel_rfl) (by kernel_rfl) (pack_Writer_Num_ok n (⟨[]⟩ : T_pack_Writer) 300 b_1 none 0) [[0], [40], [41]] [(40, 1), (41, 2)] [(1, 0)] [(2, 0)] (hks := []) (bks := []) (by kernel_rfl) (by kernel_rfl) (by kernel_rfl) (.inl rfl) rfl rfl (by kernel_rfl) (by kernel_rfl) _ (fun _ _ => rfl) _ _ (fun _ _ => rfl) (fun _ _ => rfl) (fun _ _ => by kernel_rfl) (fun _ _ => by kernel_rfl) (fun r_2 x_23 => ?_))
  obtain ⟨A_3, c_4⟩ := x_23
  refine GoO.shape (env' := [(3, .pointer (some ⟨b_1, 0, none⟩)), (4, .pointer (some ⟨b_1, 0, none⟩))]) (H' := [⟨40, b_1, [.slice A_3 r_2.b.length c_4]⟩]) (B' := [Ow 41 Kd.u8 A_3 c_4 r_2.b]) (ks := [3, 4]) (by kernel_rfl) (by kernel_rfl) (by kernel_rfl) ?_
  refine OpTo.go (GoO.call rfl (by kernel_rfl) (by kernel_rfl) (pack_Writer_Text_ok n r_2 [97, 98] b_1 A_3 c_4) [[0], [40], [41]] [(40, 1), (41, 2)] [(1, 0)] [(2, 0)] (hks := []) (bks := []) (by kernel_rfl) (by kernel_rfl) (by kernel_rfl) (.inl rfl) rfl rfl (by kernel_rfl) (by kernel_rfl) _ (fun _ _ => rfl) _ _ (fun _ _ => rfl) (fun _ _ => rfl) (fun _ _ => by kernel_rfl) (fun _ _ => by kernel_rfl) (fun r_5 x_22 => ?_))
  obtain ⟨A_6, c_7⟩ := x_22
  refine GoO.shape (env' := [(3, .pointer (some ⟨b_1, 0, none⟩)), (4, .pointer (some ⟨b_1, 0, none⟩)), (5, .pointer (some ⟨b_1, 0, none⟩))]) (H' := [⟨40, b_1, [.slice A_6 r_5.b.length c_7]⟩]) (B' := [Ow 41 Kd.u8 A_6 c_7 r_5.b]) (ks := [3, 4, 5]) (by kernel_rfl) (by kernel_rfl) (by kernel_rfl) ?_
  refine OpTo.go (GoO.call rfl (by kernel_rfl) (by kernel_rfl) (pack_Writer_Bytes_ok n r_5 b_1 A_6 c_7) [[0], [40], [41]] [] [(1, 0)] [(2, 0)] (hks := [0]) (bks := [0]) (by kernel_rfl) (by kernel_rfl) (by kernel_rfl) (.inl rfl) rfl rfl (by kernel_rfl) (by kernel_rfl) _ (fun _ _ => rfl) _ _ (fun _ _ => rfl) (fun _ _ => rfl) (fun _ _ => by kernel_rfl) (fun _ _ => by kernel_rfl) (fun r_8 x_21 => ?_))
  refine GoO.shape (env' := [(3, .pointer (some ⟨b_1, 0, none⟩)), (4, .pointer (some ⟨b_1, 0, none⟩)), (5, .pointer (some ⟨b_1, 0, none⟩)), (6, .string (bs r_8))]) (H' := [⟨40, b_1, [.slice A_6 r_5.b.length c_7]⟩]) (B' := [Ow 41 Kd.u8 A_6 c_7 r_5.b]) (ks := [3, 4, 5, 6]) (by kernel_rfl) (by kernel_rfl) (by kernel_rfl) ?_
  refine GoO.exec (is := [4]) (hs := [.p]) (rest := []) (ks := [1]) (env' := [(1, .string (bs r_8))]) (H' := [⟨40, b_1, [.slice A_6 r_5.b.length c_7]⟩]) (ps := []) (by kernel_rfl) trivial ?_
  refine GoO.regionEnd ?_
  refine GoO.seq' c22_4e ?_
  refine GoO.region' (is := [0, 1, 2]) c22_5e (by kernel_rfl) ?_
  refine GoO.exec (is := [0]) (hs := [.p]) (rest := [1, 2]) (ks := [1, 7]) (env' := [(1, .string (bs r_8)), (7, .string (bs r_8))]) (H' := [⟨40, b_1, [.slice A_6 r_5.b.length c_7]⟩]) (ps := []) (by kernel_rfl) trivial ?_
  refine OpTo.go (GoO.call rfl (by kernel_rfl) (by kernel_rfl) (pack_From_ok n r_8) [[0]] [(42, 1)] [] [] (hks := [0]) (bks := [0]) (by kernel_rfl) (by kernel_rfl) (by kernel_rfl) (.inl rfl) rfl rfl (by kernel_rfl) (by kernel_rfl) _ (fun _ _ => rfl) _ _ (fun _ _ => rfl) (fun _ _ => rfl) (fun _ _ => by kernel_rfl) (fun _ _ => by kernel_rfl) (fun r_9 b_10 => ?_))
  refine GoO.shape (env' := [(1, .string (bs r_8)), (7, .string (bs r_8)), (8, .pointer (some ⟨b_10, 0, none⟩))]) (H' := [⟨42, b_10, [.string (bs r_9.s), .bool r_9.bad]⟩, ⟨40, b_1, [.slice A_6 r_5.b.length c_7]⟩]) (B' := [Ow 41 Kd.u8 A_6 c_7 r_5.b]) (ks := [1, 7, 8]) (by kernel_rfl) (by kernel_rfl) (by kernel_rfl) ?_
  refine GoO.exec (is := [2]) (hs := [.p]) (rest := []) (ks := [1, 2]) (env' := [(1, .string (bs r_8)), (2, .pointer (some ⟨b_10, 0, none⟩))]) (H' := [⟨42, b_10, [.string (bs r_9.s), .bool r_9.bad]⟩, ⟨40, b_1, [.slice A_6 r_5.b.length c_7]⟩]) (ps := []) (by kernel_rfl) trivial ?_
  refine GoO.regionEnd ?_
  refine GoO.seq' c22_6e ?_
  refine GoO.region' (is := [0, 1, 2, 3, 4, 5, 6, 7, 8, 9, 10, 11, 12, 13, 14, 15, 16]) c22_7e (by kernel_rfl) ?_
  refine GoO.exec (is := [0, 1, 2]) (hs := [.p, .p, .p]) (rest := [3, 4, 5, 6, 7, 8, 9, 10, 11, 12, 13, 14, 15, 16]) (ks := [2, 11]) (env' := [(2, .pointer (some ⟨b_10, 0, none⟩)), (11, .bool (r_8 == ([2, 1, 44, 1, 2, 97, 98] : List UInt8)))]) (H' := [⟨42, b_10, [.string (bs r_9.s), .bool r_9.bad]⟩, ⟨40, b_1, [.slice A_6 r_5.b.length c_7]⟩]) (ps := []) (by kernel_rfl) trivial ?_
  refine GoO.bsplit (t := 11) (by kernel_rfl) (fun h11 => ?_) (fun h11 => ?_)
  · refine GoO.exec (is := [3]) (hs := [.p]) (rest := [4, 5, 6, 7, 8, 9, 10, 11, 12, 13, 14, 15, 16]) (ks := [2, 11, 12]) (env' := [(2, .pointer (some ⟨b_10, 0, none⟩)), (11, .bool true), (12, .pointer (some ⟨b_10, 0, none⟩))]) (H' := [⟨42, b_10, [.string (bs r_9.s), .bool r_9.bad]⟩, ⟨40, b_1, [.slice A_6 r_5.b.length c_7]⟩]) (ps := []) (by kernel_rfl) trivial ?_
    refine OpTo.go (GoO.call rfl (by kernel_rfl) (by kernel_rfl) (pack_Reader_Num_ok n r_9 b_10) [[0], [42]] [(42, 1)] [(1, 0)] [] (hks := [1]) (bks := [0]) (by kernel_rfl) (by kernel_rfl) (by kernel_rfl) (.inl rfl) rfl rfl (by kernel_rfl) (by kernel_rfl) _ (fun _ _ => rfl) _ _ (fun _ _ => rfl) (fun _ _ => rfl) (fun _ _ => by kernel_rfl) (fun _ _ => by kernel_rfl) (fun r_12 x_19 => ?_))
    refine GoO.shape (env' := [(2, .pointer (some ⟨b_10, 0, none⟩)), (11, .bool true), (12, .pointer (some ⟨b_10, 0, none⟩)), (13, .int .u64 r_12.1)]) (H' := [⟨42, b_10, [.string (bs r_12.2.s), .bool r_12.2.bad]⟩, ⟨40, b_1, [.slice A_6 r_5.b.length c_7]⟩]) (B' := [Ow 41 Kd.u8 A_6 c_7 r_5.b]) (ks := [2, 11, 12, 13]) (by kernel_rfl) (by kernel_rfl) (by kernel_rfl) ?_
    refine GoO.exec (is := [5, 6, 7]) (hs := [.p, .p, .p]) (rest := [8, 9, 10, 11, 12, 13, 14, 15, 16]) (ks := [2, 16]) (env' := [(2, .pointer (some ⟨b_10, 0, none⟩)), (16, .bool (r_12.1 == 300))]) (H' := [⟨42, b_10, [.string (bs r_12.2.s), .bool r_12.2.bad]⟩, ⟨40, b_1, [.slice A_6 r_5.b.length c_7]⟩]) (ps := []) (by kernel_rfl) trivial ?_
    refine GoO.bsplit (t := 16) (by kernel_rfl) (fun h13 => ?_) (fun h13 => ?_)
    · refine GoO.exec (is := [8]) (hs := [.p]) (rest := [9, 10, 11, 12, 13, 14, 15, 16]) (ks := [2, 16, 17]) (env' := [(2, .pointer (some ⟨b_10, 0, none⟩)), (16, .bool true), (17, .pointer (some ⟨b_10, 0, none⟩))]) (H' := [⟨42, b_10, [.string (bs r_12.2.s), .bool r_12.2.bad]⟩, ⟨40, b_1, [.slice A_6 r_5.b.length c_7]⟩]) (ps := []) (by kernel_rfl) trivial ?_
      refine OpTo.go (GoO.call rfl (by kernel_rfl) (by kernel_rfl) (pack_Reader_Text_ok n r_12.2 2 b_10) [[0], [42]] [(42, 1)] [(1, 0)] [] (hks := [1]) (bks := [0]) (by kernel_rfl) (by kernel_rfl) (by kernel_rfl) (.inl rfl) rfl rfl (by kernel_rfl) (by kernel_rfl) _ (fun _ _ => rfl) _ _ (fun _ _ => rfl) (fun _ _ => rfl) (fun _ _ => by kernel_rfl) (fun _ _ => by kernel_rfl) (fun r_14 x_18 => ?_))
      refine GoO.shape (env' := [(2, .pointer (some ⟨b_10, 0, none⟩)), (16, .bool true), (17, .pointer (some ⟨b_10, 0, none⟩)), (18, .string (bs r_14.1))]) (H' := [⟨42, b_10, [.string (bs r_14.2.s), .bool r_14.2.bad]⟩, ⟨40, b_1, [.slice A_6 r_5.b.length c_7]⟩]) (B' := [Ow 41 Kd.u8 A_6 c_7 r_5.b]) (ks := [2, 16, 17, 18]) (by kernel_rfl) (by kernel_rfl) (by kernel_rfl) ?_
      refine GoO.exec (is := [10, 11, 12]) (hs := [.p, .p, .p]) (rest := [13, 14, 15, 16]) (ks := [2, 21]) (env' := [(2, .pointer (some ⟨b_10, 0, none⟩)), (21, .bool (r_14.1 == ([97, 98] : List UInt8)))]) (H' := [⟨42, b_10, [.string (bs r_14.2.s), .bool r_14.2.bad]⟩, ⟨40, b_1, [.slice A_6 r_5.b.length c_7]⟩]) (ps := []) (by kernel_rfl) trivial ?_
      refine GoO.bsplit (t := 21) (by kernel_rfl) (fun h15 => ?_) (fun h15 => ?_)
      · refine GoO.exec (is := [13]) (hs := [.p]) (rest := [14, 15, 16]) (ks := [21, 22]) (env' := [(21, .bool true), (22, .pointer (some ⟨b_10, 0, none⟩))]) (H' := [⟨42, b_10, [.string (bs r_14.2.s), .bool r_14.2.bad]⟩, ⟨40, b_1, [.slice A_6 r_5.b.length c_7]⟩]) (ps := []) (by kernel_rfl) trivial ?_
        refine OpTo.go (GoO.call rfl (by kernel_rfl) (by kernel_rfl) (pack_Reader_Done_ok n r_14.2 b_10) [[0], [42]] [] [(1, 0)] [] (hks := [0, 1]) (bks := [0]) (by kernel_rfl) (by kernel_rfl) (by kernel_rfl) (.inl rfl) rfl rfl (by kernel_rfl) (by kernel_rfl) _ (fun _ _ => rfl) _ _ (fun _ _ => rfl) (fun _ _ => rfl) (fun _ _ => by kernel_rfl) (fun _ _ => by kernel_rfl) (fun r_16 x_17 => ?_))
        refine GoO.shape (env' := [(21, .bool true), (22, .pointer (some ⟨b_10, 0, none⟩)), (23, .bool r_16)]) (H' := [⟨42, b_10, [.string (bs r_14.2.s), .bool r_14.2.bad]⟩, ⟨40, b_1, [.slice A_6 r_5.b.length c_7]⟩]) (B' := [Ow 41 Kd.u8 A_6 c_7 r_5.b]) (ks := [21, 22, 23]) (by kernel_rfl) (by kernel_rfl) (by kernel_rfl) ?_
        refine GoO.exec (is := [15, 16]) (hs := [.p, .p]) (rest := []) (ks := [0]) (env' := [(0, .bool r_16)]) (H' := [⟨42, b_10, [.string (bs r_14.2.s), .bool r_14.2.bad]⟩, ⟨40, b_1, [.slice A_6 r_5.b.length c_7]⟩]) (ps := []) (by kernel_rfl) trivial ?_
        refine GoO.regionEnd ?_
        exact GoO.ret' (h := c22_8e) (hs := []) (ps := []) (hk := []) (bk := []) Try.func22 () (by kernel_rfl) trivial (by kernel_rfl) (by kernel_rfl)
      · refine GoO.exec (is := [13, 14, 15, 16]) (hs := [.p, .p, .p, .p]) (rest := []) (ks := [0]) (env' := [(0, .bool false)]) (H' := [⟨42, b_10, [.string (bs r_14.2.s), .bool r_14.2.bad]⟩, ⟨40, b_1, [.slice A_6 r_5.b.length c_7]⟩]) (ps := []) (by kernel_rfl) trivial ?_
        refine GoO.regionEnd ?_
        exact GoO.ret' (h := c22_8e) (hs := []) (ps := []) (hk := []) (bk := []) Try.func22 () (by kernel_rfl) trivial (by kernel_rfl) (by kernel_rfl)
    · refine GoO.exec (is := [8, 9, 10, 11, 12, 13, 14, 15, 16]) (hs := [.p, .p, .p, .p, .p, .p, .p, .p, .p]) (rest := []) (ks := [0]) (env' := [(0, .bool false)]) (H' := [⟨42, b_10, [.string (bs r_12.2.s), .bool r_12.2.bad]⟩, ⟨40, b_1, [.slice A_6 r_5.b.length c_7]⟩]) (ps := []) (by kernel_rfl) trivial ?_
      refine GoO.regionEnd ?_
      exact GoO.ret' (h := c22_8e) (hs := []) (ps := []) (hk := []) (bk := []) Try.func22 () (by kernel_rfl) trivial (by kernel_rfl) (by kernel_rfl)
  · refine GoO.exec (is := [3, 4, 5, 6, 7, 8, 9, 10, 11, 12, 13, 14, 15, 16]) (hs := [.p, .p, .p, .p, .p, .p, .p, .p, .p, .p, .p, .p, .p, .p]) (rest := []) (ks := [0]) (env' := [(0, .bool false)]) (H' := [⟨42, b_10, [.string (bs r_9.s), .bool r_9.bad]⟩, ⟨40, b_1, [.slice A_6 r_5.b.length c_7]⟩]) (ps := []) (by kernel_rfl) trivial ?_
    refine GoO.regionEnd ?_
    exact GoO.ret' (h := c22_8e) (hs := []) (ps := []) (hk := []) (bk := []) Try.func22 () (by kernel_rfl) trivial (by kernel_rfl) (by kernel_rfl)

/-! tontine/tontinelaw03.PackOne -/
noncomputable def c6_0 : Code := bodyOf Try.f6
noncomputable def c6_1 : Code := cdL c6_0
noncomputable def c6_2 : Code := cdR c6_0
noncomputable def c6_3 : Code := cdL c6_2
noncomputable def c6_4 : Code := cdL c6_3
noncomputable def c6_5 : Code := cdR c6_3
noncomputable def c6_6 : Code := cdL c6_5
noncomputable def c6_7 : Code := cdL c6_6
noncomputable def c6_8 : Code := cdR c6_6
noncomputable def c6_9 : Code := cdR c6_5
noncomputable def c6_10 : Code := cdR c6_2
noncomputable def c6_11 : Code := cdL c6_10
noncomputable def c6_12 : Code := cdR c6_10
noncomputable def c6_13 : Code := cdL c6_12
noncomputable def c6_14 : Code := cdR c6_12
noncomputable def c6_15 : Code := cdL c6_14
noncomputable def c6_16 : Code := cdR c6_14
noncomputable def c6_17 : Code := cdL c6_16
noncomputable def c6_18 : Code := cdL c6_17
noncomputable def c6_19 : Code := cdR c6_17
noncomputable def c6_20 : Code := cdL c6_19
noncomputable def c6_21 : Code := cdL c6_20
noncomputable def c6_22 : Code := cdR c6_20
noncomputable def c6_23 : Code := cdR c6_19
noncomputable def c6_24 : Code := cdR c6_16
noncomputable def c6_25 : Code := cdL c6_24
noncomputable def c6_26 : Code := cdR c6_24
noncomputable def c6_27 : Code := cdL c6_26
noncomputable def c6_28 : Code := cdR c6_26
noncomputable def r6_1 : Array Oper := cdO c6_1
noncomputable def r6_4 : Array Oper := cdO c6_4
noncomputable def r6_7 : Array Oper := cdO c6_7
noncomputable def r6_11 : Array Oper := cdO c6_11
noncomputable def r6_13 : Array Oper := cdO c6_13
noncomputable def r6_15 : Array Oper := cdO c6_15
noncomputable def r6_18 : Array Oper := cdO c6_18
noncomputable def r6_21 : Array Oper := cdO c6_21
noncomputable def r6_25 : Array Oper := cdO c6_25
noncomputable def r6_27 : Array Oper := cdO c6_27
theorem c6_0e : c6_0 = .seq c6_1 c6_2 := by kernel_rfl
theorem c6_1e : c6_1 = .region 0 r6_1 false := by kernel_rfl
theorem c6_2e : c6_2 = .seq c6_3 c6_10 := by kernel_rfl
theorem c6_3e : c6_3 = .seq c6_4 c6_5 := by kernel_rfl
theorem c6_4e : c6_4 = .region 1 r6_4 false := by kernel_rfl
theorem c6_5e : c6_5 = .cond (cdC c6_5) c6_6 c6_9 := by kernel_rfl
theorem c6_6e : c6_6 = .seq c6_7 c6_8 := by kernel_rfl
theorem c6_7e : c6_7 = .region 2 r6_7 false := by kernel_rfl
theorem c6_8e : c6_8 = .ret := by kernel_rfl
theorem c6_9e : c6_9 = .skip := by kernel_rfl
theorem c6_10e : c6_10 = .seq c6_11 c6_12 := by kernel_rfl
theorem c6_11e : c6_11 = .region 3 r6_11 false := by kernel_rfl
theorem c6_12e : c6_12 = .seq c6_13 c6_14 := by kernel_rfl
theorem c6_13e : c6_13 = .region 4 r6_13 false := by kernel_rfl
theorem c6_14e : c6_14 = .seq c6_15 c6_16 := by kernel_rfl
theorem c6_15e : c6_15 = .region 5 r6_15 false := by kernel_rfl
theorem c6_16e : c6_16 = .seq c6_17 c6_24 := by kernel_rfl
theorem c6_17e : c6_17 = .seq c6_18 c6_19 := by kernel_rfl
theorem c6_18e : c6_18 = .region 6 r6_18 true := by kernel_rfl
theorem c6_19e : c6_19 = .cond (cdC c6_19) c6_20 c6_23 := by kernel_rfl
theorem c6_20e : c6_20 = .seq c6_21 c6_22 := by kernel_rfl
theorem c6_21e : c6_21 = .region 7 r6_21 false := by kernel_rfl
theorem c6_22e : c6_22 = .ret := by kernel_rfl
theorem c6_23e : c6_23 = .skip := by kernel_rfl
theorem c6_24e : c6_24 = .seq c6_25 c6_26 := by kernel_rfl
theorem c6_25e : c6_25 = .region 8 r6_25 false := by kernel_rfl
theorem c6_26e : c6_26 = .seq c6_27 c6_28 := by kernel_rfl
theorem c6_27e : c6_27 = .region 9 r6_27 false := by kernel_rfl
theorem c6_28e : c6_28 = .ret := by kernel_rfl
noncomputable def tontinelaw03_PackOne.R : Pst Bool where
  ε := Unit
  v := fun r x => .bool r
  H := fun r x => []
  B := fun r x => []
noncomputable def tontinelaw03_PackOne.cx (w0 : World) (S0 : Fam) : Cx Bool := ⟨Try.prog, 6, Try.f6, 73, w0, S0, [], 0, tontinelaw03_PackOne.R⟩
theorem tontinelaw03_PackOne_j0_ok (n : Nat) (a_2 : Int) (b_3 : Int) (r_8 : Int × T_pack_Reader) (r_9 : Int × Bool) (w0 : World) (S0 : Fam) (b_17 : Bool) :
    GoO (tontinelaw03_PackOne.cx w0 S0) [(1, .int .u64 a_2), (2, .int .u64 b_3), (8, .int .u64 r_8.1), (9, .int .i64 r_9.1), (10, .bool r_9.2), (37, .bool b_17)] [] [] [.code c6_19, .code c6_24] (tontinelaw03_PackOne.j0 n a_2 b_3 r_8 r_9 b_17) := by
  unfold tontinelaw03_PackOne.j0
  refine GoO.ite' c6_19e (by kernel_rfl) (fun h18 => ?_) (fun h18 => ?_)
  · refine GoO.seq' c6_20e ?_
    refine GoO.region' (is := [0]) c6_21e (by kernel_rfl) ?_
    refine GoO.exec (is := [0]) (hs := [.p]) (rest := []) (ks := [6]) (env' := [(6, .bool false)]) (H' := []) (ps := []) (by kernel_rfl) trivial ?_
    refine GoO.regionEnd ?_
    exact GoO.ret' (h := c6_22e) (hs := []) (ps := []) (hk := []) (bk := []) Try.func6 () (by kernel_rfl) trivial (by kernel_rfl) (by kernel_rfl)
  · refine GoO.skip' c6_23e ?_
    refine GoO.seq' c6_24e ?_
    refine GoO.region' (is := [0, 1, 2, 3, 4, 5, 6, 7, 8, 9]) c6_25e (by kernel_rfl) ?_
    refine OpTo.go (GoO.new rfl 43 (cs := [.slice none ([] : List UInt8).length 0]) (by kernel_rfl) _ (fun _ => rfl) (fun b_19 => ?_))
    refine GoO.exec (is := [1]) (hs := [.p]) (rest := [2, 3, 4, 5, 6, 7, 8, 9]) (ks := [1, 2, 8, 9, 10, 38, 39]) (env' := [(1, .int .u64 a_2), (2, .int .u64 b_3), (8, .int .u64 r_8.1), (9, .int .i64 r_9.1), (10, .bool r_9.2), (38, .pointer (some ⟨b_19, 0, none⟩)), (39, .int .u64 a_2)]) (H' := [⟨43, b_19, [.slice none ([] : List UInt8).length 0]⟩]) (ps := []) (by kernel_rfl) trivial ?_
    refine GoO.nilOwn Kd.u8 44 ?_
    refine OpTo.go (GoO.call rfl (by kernel_rfl) (by kernel_rfl) (pack_Writer_Num_ok n (⟨[]⟩ : T_pack_Writer) a_2 b_19 none 0) [[0], [43], [44]] [(43, 1), (44, 2)] [(1, 0)] [(2, 0)] (hks := []) (bks := []) (by kernel_rfl) (by kernel_rfl) (by kernel_rfl) (.inl rfl) rfl rfl (by kernel_rfl) (by kernel_rfl) _ (fun _ _ => rfl) _ _ (fun _ _ => rfl) (fun _ _ => rfl) (fun _ _ => by kernel_rfl) (fun _ _ => by kernel_rfl) (fun r_20 x_36 => ?_))
    obtain ⟨A_21, c_22⟩ := x_36
    refine GoO.shape (env' := [(1, .int .u64 a_2), (2, .int .u64 b_3), (8, .int .u64 r_8.1), (9, .int .i64 r_9.1), (10, .bool r_9.2), (38, .pointer (some ⟨b_19, 0, none⟩)), (39, .int .u64 a_2), (40, .pointer (some ⟨b_19, 0, none⟩))]) (H' := [⟨43, b_19, [.slice A_21 r_20.b.length c_22]⟩]) (B' := [Ow 44 Kd.u8 A_21 c_22 r_20.b]) (ks := [1, 2, 8, 9, 10, 38, 39, 40]) (by kernel_rfl) (by kernel_rfl) (by kernel_rfl) ?_
    refine OpTo.go (GoO.call rfl (by kernel_rfl) (by kernel_rfl) (pack_Writer_Bytes_ok n r_20 b_19 A_21 c_22) [[0], [43], [44]] [] [(1, 0)] [(2, 0)] (hks := [0]) (bks := [0]) (by kernel_rfl) (by kernel_rfl) (by kernel_rfl) (.inl rfl) rfl rfl (by kernel_rfl) (by kernel_rfl) _ (fun _ _ => rfl) _ _ (fun _ _ => rfl) (fun _ _ => rfl) (fun _ _ => by kernel_rfl) (fun _ _ => by kernel_rfl) (fun r_23 x_35 => ?_))
    refine GoO.shape (env' := [(1, .int .u64 a_2), (2, .int .u64 b_3), (8, .int .u64 r_8.1), (9, .int .i64 r_9.1), (10, .bool r_9.2), (38, .pointer (some ⟨b_19, 0, none⟩)), (39, .int .u64 a_2), (40, .pointer (some ⟨b_19, 0, none⟩)), (41, .string (bs r_23))]) (H' := [⟨43, b_19, [.slice A_21 r_20.b.length c_22]⟩]) (B' := [Ow 44 Kd.u8 A_21 c_22 r_20.b]) (ks := [1, 2, 8, 9, 10, 38, 39, 40, 41]) (by kernel_rfl) (by kernel_rfl) (by kernel_rfl) ?_
    refine OpTo.go (GoO.new rfl 45 (cs := [.slice none ([] : List UInt8).length 0]) (by kernel_rfl) _ (fun _ => rfl) (fun b_24 => ?_))
    refine GoO.exec (is := [5]) (hs := [.p]) (rest := [6, 7, 8, 9]) (ks := [1, 2, 8, 9, 10, 41, 42, 43]) (env' := [(1, .int .u64 a_2), (2, .int .u64 b_3), (8, .int .u64 r_8.1), (9, .int .i64 r_9.1), (10, .bool r_9.2), (41, .string (bs r_23)), (42, .pointer (some ⟨b_24, 0, none⟩)), (43, .int .u64 b_3)]) (H' := [⟨45, b_24, [.slice none ([] : List UInt8).length 0]⟩, ⟨43, b_19, [.slice A_21 r_20.b.length c_22]⟩]) (ps := []) (by kernel_rfl) trivial ?_
    refine GoO.nilOwn Kd.u8 46 ?_
    refine OpTo.go (GoO.call rfl (by kernel_rfl) (by kernel_rfl) (pack_Writer_Num_ok n (⟨[]⟩ : T_pack_Writer) b_3 b_24 none 0) [[0], [45], [46]] [(45, 1), (46, 2)] [(1, 0)] [(2, 0)] (hks := [1]) (bks := [1]) (by kernel_rfl) (by kernel_rfl) (by kernel_rfl) (.inl rfl) rfl rfl (by kernel_rfl) (by kernel_rfl) _ (fun _ _ => rfl) _ _ (fun _ _ => rfl) (fun _ _ => rfl) (fun _ _ => by kernel_rfl) (fun _ _ => by kernel_rfl) (fun r_25 x_34 => ?_))
    obtain ⟨A_26, c_27⟩ := x_34
    refine GoO.shape (env' := [(1, .int .u64 a_2), (2, .int .u64 b_3), (8, .int .u64 r_8.1), (9, .int .i64 r_9.1), (10, .bool r_9.2), (41, .string (bs r_23)), (42, .pointer (some ⟨b_24, 0, none⟩)), (43, .int .u64 b_3), (44, .pointer (some ⟨b_24, 0, none⟩))]) (H' := [⟨45, b_24, [.slice A_26 r_25.b.length c_27]⟩, ⟨43, b_19, [.slice A_21 r_20.b.length c_22]⟩]) (B' := [Ow 46 Kd.u8 A_26 c_27 r_25.b, Ow 44 Kd.u8 A_21 c_22 r_20.b]) (ks := [1, 2, 8, 9, 10, 41, 42, 43, 44]) (by kernel_rfl) (by kernel_rfl) (by kernel_rfl) ?_
    refine OpTo.go (GoO.call rfl (by kernel_rfl) (by kernel_rfl) (pack_Writer_Bytes_ok n r_25 b_24 A_26 c_27) [[0], [45], [46]] [] [(1, 0)] [(2, 0)] (hks := [0, 1]) (bks := [0, 1]) (by kernel_rfl) (by kernel_rfl) (by kernel_rfl) (.inl rfl) rfl rfl (by kernel_rfl) (by kernel_rfl) _ (fun _ _ => rfl) _ _ (fun _ _ => rfl) (fun _ _ => rfl) (fun _ _ => by kernel_rfl) (fun _ _ => by kernel_rfl) (fun r_28 x_33 => ?_))
    refine GoO.shape (env' := [(1, .int .u64 a_2), (2, .int .u64 b_3), (8, .int .u64 r_8.1), (9, .int .i64 r_9.1), (10, .bool r_9.2), (41, .string (bs r_23)), (42, .pointer (some ⟨b_24, 0, none⟩)), (43, .int .u64 b_3), (44, .pointer (some ⟨b_24, 0, none⟩)), (45, .string (bs r_28))]) (H' := [⟨45, b_24, [.slice A_26 r_25.b.length c_27]⟩, ⟨43, b_19, [.slice A_21 r_20.b.length c_22]⟩]) (B' := [Ow 46 Kd.u8 A_26 c_27 r_25.b, Ow 44 Kd.u8 A_21 c_22 r_20.b]) (ks := [1, 2, 8, 9, 10, 41, 42, 43, 44, 45]) (by kernel_rfl) (by kernel_rfl) (by kernel_rfl) ?_
    refine GoO.exec (is := [8, 9]) (hs := [.p, .p]) (rest := []) (ks := [1, 2, 8, 9, 10, 11, 12]) (env' := [(1, .int .u64 a_2), (2, .int .u64 b_3), (8, .int .u64 r_8.1), (9, .int .i64 r_9.1), (10, .bool r_9.2), (11, .string (bs r_23)), (12, .string (bs r_28))]) (H' := [⟨45, b_24, [.slice A_26 r_25.b.length c_27]⟩, ⟨43, b_19, [.slice A_21 r_20.b.length c_22]⟩]) (ps := []) (by kernel_rfl) trivial ?_
    refine GoO.regionEnd ?_
    refine GoO.seq' c6_26e ?_
    refine GoO.region' (is := [0, 1, 2, 3, 4, 5, 6, 7, 8, 9, 10, 11, 12, 13, 14, 15, 16, 17, 18, 19, 20, 21, 22, 23, 24, 25, 26, 27]) c6_27e (by kernel_rfl) ?_
    refine GoO.exec (is := [0, 1, 2, 3, 4, 5, 6, 7]) (hs := [.p, .p, .p, .p, .p, .p, .p, .p]) (rest := [8, 9, 10, 11, 12, 13, 14, 15, 16, 17, 18, 19, 20, 21, 22, 23, 24, 25, 26, 27]) (ks := [1, 2, 8, 9, 10, 11, 12, 53]) (env' := [(1, .int .u64 a_2), (2, .int .u64 b_3), (8, .int .u64 r_8.1), (9, .int .i64 r_9.1), (10, .bool r_9.2), (11, .string (bs r_23)), (12, .string (bs r_28)), (53, .bool ((r_23 == r_28) == (a_2 == b_3)))]) (H' := [⟨45, b_24, [.slice A_26 r_25.b.length c_27]⟩, ⟨43, b_19, [.slice A_21 r_20.b.length c_22]⟩]) (ps := []) (by kernel_rfl) trivial ?_
    refine GoO.bsplit (t := 53) (by kernel_rfl) (fun h29 => ?_) (fun h29 => ?_)
    · refine GoO.exec (is := [8, 9, 10, 11, 12, 13, 14, 15, 16]) (hs := [.p, .p, .p, .p, .p, .p, .p, .p, .p]) (rest := [17, 18, 19, 20, 21, 22, 23, 24, 25, 26, 27]) (ks := [8, 9, 10, 62]) (env' := [(8, .int .u64 r_8.1), (9, .int .i64 r_9.1), (10, .bool r_9.2), (62, .bool ((Op.bytesLess r_23 r_28) == (decide (a_2 < b_3))))]) (H' := [⟨45, b_24, [.slice A_26 r_25.b.length c_27]⟩, ⟨43, b_19, [.slice A_21 r_20.b.length c_22]⟩]) (ps := []) (by kernel_rfl) trivial ?_
      refine GoO.bsplit (t := 62) (by kernel_rfl) (fun h30 => ?_) (fun h30 => ?_)
      · refine GoO.exec (is := [17, 18]) (hs := [.p, .p]) (rest := [19, 20, 21, 22, 23, 24, 25, 26, 27]) (ks := [8, 9, 62, 64]) (env' := [(8, .int .u64 r_8.1), (9, .int .i64 r_9.1), (62, .bool true), (64, .bool r_9.2)]) (H' := [⟨45, b_24, [.slice A_26 r_25.b.length c_27]⟩, ⟨43, b_19, [.slice A_21 r_20.b.length c_22]⟩]) (ps := []) (by kernel_rfl) trivial ?_
        refine GoO.bsplit (t := 64) (by kernel_rfl) (fun h31 => ?_) (fun h31 => ?_)
        · refine GoO.exec (is := [19, 20, 21, 22, 23, 24, 25, 26, 27]) (hs := [.p, .p, .p, .p, .p, .p, .p, .p, .p]) (rest := []) (ks := [6]) (env' := [(6, .bool true)]) (H' := [⟨45, b_24, [.slice A_26 r_25.b.length c_27]⟩, ⟨43, b_19, [.slice A_21 r_20.b.length c_22]⟩]) (ps := []) (by kernel_rfl) trivial ?_
          refine GoO.regionEnd ?_
          exact GoO.ret' (h := c6_28e) (hs := []) (ps := []) (hk := []) (bk := []) Try.func6 () (by kernel_rfl) trivial (by kernel_rfl) (by kernel_rfl)
        · refine GoO.exec (is := [19, 20, 21]) (hs := [.p, .p, .p]) (rest := [22, 23, 24, 25, 26, 27]) (ks := [9, 62, 64, 67]) (env' := [(9, .int .i64 r_9.1), (62, .bool true), (64, .bool false), (67, .bool (r_8.1 == 0))]) (H' := [⟨45, b_24, [.slice A_26 r_25.b.length c_27]⟩, ⟨43, b_19, [.slice A_21 r_20.b.length c_22]⟩]) (ps := []) (by kernel_rfl) trivial ?_
          refine GoO.bsplit (t := 67) (by kernel_rfl) (fun h32 => ?_) (fun h32 => ?_)
          · refine GoO.exec (is := [22, 23, 24, 25, 26, 27]) (hs := [.p, .p, .p, .p, .p, .p]) (rest := []) (ks := [6]) (env' := [(6, .bool (r_9.1 == 0))]) (H' := [⟨45, b_24, [.slice A_26 r_25.b.length c_27]⟩, ⟨43, b_19, [.slice A_21 r_20.b.length c_22]⟩]) (ps := []) (by kernel_rfl) trivial ?_
            refine GoO.regionEnd ?_
            exact GoO.ret' (h := c6_28e) (hs := []) (ps := []) (hk := []) (bk := []) Try.func6 () (by kernel_rfl) trivial (by kernel_rfl) (by kernel_rfl)
          · refine GoO.exec (is := [22, 23, 24, 25, 26, 27]) (hs := [.p, .p, .p, .p, .p, .p]) (rest := []) (ks := [6]) (env' := [(6, .bool false)]) (H' := [⟨45, b_24, [.slice A_26 r_25.b.length c_27]⟩, ⟨43, b_19, [.slice A_21 r_20.b.length c_22]⟩]) (ps := []) (by kernel_rfl) trivial ?_
            refine GoO.regionEnd ?_
            exact GoO.ret' (h := c6_28e) (hs := []) (ps := []) (hk := []) (bk := []) Try.func6 () (by kernel_rfl) trivial (by kernel_rfl) (by kernel_rfl)
      · refine GoO.exec (is := [17, 18, 19, 20, 21, 22, 23, 24, 25, 26, 27]) (hs := [.p, .p, .p, .p, .p, .p, .p, .p, .p, .p, .p]) (rest := []) (ks := [6]) (env' := [(6, .bool false)]) (H' := [⟨45, b_24, [.slice A_26 r_25.b.length c_27]⟩, ⟨43, b_19, [.slice A_21 r_20.b.length c_22]⟩]) (ps := []) (by kernel_rfl) trivial ?_
        refine GoO.regionEnd ?_
        exact GoO.ret' (h := c6_28e) (hs := []) (ps := []) (hk := []) (bk := []) Try.func6 () (by kernel_rfl) trivial (by kernel_rfl) (by kernel_rfl)
    · refine GoO.exec (is := [8, 9, 10, 11, 12, 13, 14, 15, 16, 17, 18, 19, 20, 21, 22, 23, 24, 25, 26, 27]) (hs := [.p, .p, .p, .p, .p, .p, .p, .p, .p, .p, .p, .p, .p, .p, .p, .p, .p, .p, .p, .p]) (rest := []) (ks := [6]) (env' := [(6, .bool false)]) (H' := [⟨45, b_24, [.slice A_26 r_25.b.length c_27]⟩, ⟨43, b_19, [.slice A_21 r_20.b.length c_22]⟩]) (ps := []) (by kernel_rfl) trivial ?_
      refine GoO.regionEnd ?_
      exact GoO.ret' (h := c6_28e) (hs := []) (ps := []) (hk := []) (bk := []) Try.func6 () (by kernel_rfl) trivial (by kernel_rfl) (by kernel_rfl)
theorem tontinelaw03_PackOne_ok (n : Nat) (s_1 : (List UInt8)) (a_2 : Int) (b_3 : Int) :
    Meets Try.prog 6 [.string (bs s_1), .int .u64 a_2, .int .u64 b_3] 0 [] [] [] (tontinelaw03_PackOne.f n s_1 a_2 b_3) (tontinelaw03_PackOne.R) := by
  refine Meets.of (c := c6_0) (n := 73) Try.func6 (by kernel_rfl) (by kernel_rfl) (by kernel_rfl) fun w0 S0 => ?_
  unfold tontinelaw03_PackOne.f
  show GoO (tontinelaw03_PackOne.cx w0 S0) [(0, .string (bs s_1)), (1, .int .u64 a_2), (2, .int .u64 b_3)] [] [] [.code c6_0] _
  refine GoO.seq' c6_0e ?_
  refine GoO.region' (is := [0]) c6_1e (by kernel_rfl) ?_
  refine GoO.exec (is := [0]) (hs := [.p]) (rest := []) (ks := [0, 1, 2]) (env' := [(0, .string (bs s_1)), (1, .int .u64 a_2), (2, .int .u64 b_3)]) (H' := []) (ps := []) (by kernel_rfl) trivial ?_
  refine GoO.regionEnd ?_
  refine GoO.seq' c6_2e ?_
  refine GoO.seq' c6_3e ?_
  refine GoO.region' (is := [0, 1]) c6_4e (by kernel_rfl) ?_
  refine OpTo.go (GoO.call rfl (by kernel_rfl) (by kernel_rfl) (tontinelaw03_begun_ok n) [[0]] [] [] [] (hks := []) (bks := []) (by kernel_rfl) (by kernel_rfl) (by kernel_rfl) (.inl rfl) rfl rfl (by kernel_rfl) (by kernel_rfl) _ (fun _ _ => rfl) _ _ (fun _ _ => rfl) (fun _ _ => rfl) (fun _ _ => by kernel_rfl) (fun _ _ => by kernel_rfl) (fun r_4 x_40 => ?_))
  refine GoO.shape (env' := [(0, .string (bs s_1)), (1, .int .u64 a_2), (2, .int .u64 b_3), (13, .bool r_4)]) (H' := []) (B' := []) (ks := [0, 1, 2, 13]) (by kernel_rfl) (by kernel_rfl) (by kernel_rfl) ?_
  refine GoO.exec (is := [1]) (hs := [.p]) (rest := []) (ks := [0, 1, 2, 14]) (env' := [(0, .string (bs s_1)), (1, .int .u64 a_2), (2, .int .u64 b_3), (14, .bool (!r_4))]) (H' := []) (ps := []) (by kernel_rfl) trivial ?_
  refine GoO.regionEnd ?_
  refine GoO.ite' c6_5e (by kernel_rfl) (fun h5 => ?_) (fun h5 => ?_)
  · refine GoO.seq' c6_6e ?_
    refine GoO.region' (is := [0]) c6_7e (by kernel_rfl) ?_
    refine GoO.exec (is := [0]) (hs := [.p]) (rest := []) (ks := [6]) (env' := [(6, .bool false)]) (H' := []) (ps := []) (by kernel_rfl) trivial ?_
    refine GoO.regionEnd ?_
    exact GoO.ret' (h := c6_8e) (hs := []) (ps := []) (hk := []) (bk := []) Try.func6 () (by kernel_rfl) trivial (by kernel_rfl) (by kernel_rfl)
  · refine GoO.skip' c6_9e ?_
    refine GoO.seq' c6_10e ?_
    refine GoO.region' (is := [0, 1, 2]) c6_11e (by kernel_rfl) ?_
    refine GoO.exec (is := [0]) (hs := [.p]) (rest := [1, 2]) (ks := [0, 1, 2, 15]) (env' := [(0, .string (bs s_1)), (1, .int .u64 a_2), (2, .int .u64 b_3), (15, .string (bs s_1))]) (H' := []) (ps := []) (by kernel_rfl) trivial ?_
    refine OpTo.go (GoO.call rfl (by kernel_rfl) (by kernel_rfl) (pack_From_ok n s_1) [[0]] [(40, 1)] [] [] (hks := []) (bks := []) (by kernel_rfl) (by kernel_rfl) (by kernel_rfl) (.inl rfl) rfl rfl (by kernel_rfl) (by kernel_rfl) _ (fun _ _ => rfl) _ _ (fun _ _ => rfl) (fun _ _ => rfl) (fun _ _ => by kernel_rfl) (fun _ _ => by kernel_rfl) (fun r_6 b_7 => ?_))
    refine GoO.shape (env' := [(0, .string (bs s_1)), (1, .int .u64 a_2), (2, .int .u64 b_3), (15, .string (bs s_1)), (16, .pointer (some ⟨b_7, 0, none⟩))]) (H' := [⟨40, b_7, [.string (bs r_6.s), .bool r_6.bad]⟩]) (B' := []) (ks := [0, 1, 2, 15, 16]) (by kernel_rfl) (by kernel_rfl) (by kernel_rfl) ?_
    refine GoO.exec (is := [2]) (hs := [.p]) (rest := []) (ks := [0, 1, 2, 7]) (env' := [(0, .string (bs s_1)), (1, .int .u64 a_2), (2, .int .u64 b_3), (7, .pointer (some ⟨b_7, 0, none⟩))]) (H' := [⟨40, b_7, [.string (bs r_6.s), .bool r_6.bad]⟩]) (ps := []) (by kernel_rfl) trivial ?_
    refine GoO.regionEnd ?_
    refine GoO.seq' c6_12e ?_
    refine GoO.region' (is := [0, 1, 2]) c6_13e (by kernel_rfl) ?_
    refine GoO.exec (is := [0]) (hs := [.p]) (rest := [1, 2]) (ks := [0, 1, 2, 7, 17]) (env' := [(0, .string (bs s_1)), (1, .int .u64 a_2), (2, .int .u64 b_3), (7, .pointer (some ⟨b_7, 0, none⟩)), (17, .pointer (some ⟨b_7, 0, none⟩))]) (H' := [⟨40, b_7, [.string (bs r_6.s), .bool r_6.bad]⟩]) (ps := []) (by kernel_rfl) trivial ?_
    refine OpTo.go (GoO.call rfl (by kernel_rfl) (by kernel_rfl) (pack_Reader_Num_ok n r_6 b_7) [[0], [40]] [(40, 1)] [(1, 0)] [] (hks := []) (bks := []) (by kernel_rfl) (by kernel_rfl) (by kernel_rfl) (.inl rfl) rfl rfl (by kernel_rfl) (by kernel_rfl) _ (fun _ _ => rfl) _ _ (fun _ _ => rfl) (fun _ _ => rfl) (fun _ _ => by kernel_rfl) (fun _ _ => by kernel_rfl) (fun r_8 x_38 => ?_))
    refine GoO.shape (env' := [(0, .string (bs s_1)), (1, .int .u64 a_2), (2, .int .u64 b_3), (7, .pointer (some ⟨b_7, 0, none⟩)), (17, .pointer (some ⟨b_7, 0, none⟩)), (18, .int .u64 r_8.1)]) (H' := [⟨40, b_7, [.string (bs r_8.2.s), .bool r_8.2.bad]⟩]) (B' := []) (ks := [0, 1, 2, 7, 17, 18]) (by kernel_rfl) (by kernel_rfl) (by kernel_rfl) ?_
    refine GoO.exec (is := [2]) (hs := [.p]) (rest := []) (ks := [0, 1, 2, 7, 8]) (env' := [(0, .string (bs s_1)), (1, .int .u64 a_2), (2, .int .u64 b_3), (7, .pointer (some ⟨b_7, 0, none⟩)), (8, .int .u64 r_8.1)]) (H' := [⟨40, b_7, [.string (bs r_8.2.s), .bool r_8.2.bad]⟩]) (ps := []) (by kernel_rfl) trivial ?_
    refine GoO.regionEnd ?_
    refine GoO.seq' c6_14e ?_
    refine GoO.region' (is := [0, 1, 2, 3, 4, 5, 6]) c6_15e (by kernel_rfl) ?_
    refine GoO.exec (is := [0]) (hs := [.p]) (rest := [1, 2, 3, 4, 5, 6]) (ks := [0, 1, 2, 8, 20]) (env' := [(0, .string (bs s_1)), (1, .int .u64 a_2), (2, .int .u64 b_3), (8, .int .u64 r_8.1), (20, .pointer (some ⟨b_7, 0, none⟩))]) (H' := [⟨40, b_7, [.string (bs r_8.2.s), .bool r_8.2.bad]⟩]) (ps := []) (by kernel_rfl) trivial ?_
    refine OpTo.go (GoO.call rfl (by kernel_rfl) (by kernel_rfl) (pack_Reader_Left_ok n r_8.2 b_7) [[0], [40]] [] [(1, 0)] [] (hks := [0]) (bks := []) (by kernel_rfl) (by kernel_rfl) (by kernel_rfl) (.inl rfl) rfl rfl (by kernel_rfl) (by kernel_rfl) _ (fun _ _ => rfl) _ _ (fun _ _ => rfl) (fun _ _ => rfl) (fun _ _ => by kernel_rfl) (fun _ _ => by kernel_rfl) (fun r_9 x_37 => ?_))
    refine GoO.shape (env' := [(0, .string (bs s_1)), (1, .int .u64 a_2), (2, .int .u64 b_3), (8, .int .u64 r_8.1), (20, .pointer (some ⟨b_7, 0, none⟩)), (21, .tuple ⟨[.int .i64 r_9.1, .bool r_9.2]⟩)]) (H' := [⟨40, b_7, [.string (bs r_8.2.s), .bool r_8.2.bad]⟩]) (B' := []) (ks := [0, 1, 2, 8, 20, 21]) (by kernel_rfl) (by kernel_rfl) (by kernel_rfl) ?_
    refine GoO.exec (is := [2, 3, 4, 5, 6]) (hs := [.p, .p, .p, .p, .p]) (rest := []) (ks := [0, 1, 2, 8, 9, 10]) (env' := [(0, .string (bs s_1)), (1, .int .u64 a_2), (2, .int .u64 b_3), (8, .int .u64 r_8.1), (9, .int .i64 r_9.1), (10, .bool r_9.2)]) (H' := [⟨40, b_7, [.string (bs r_8.2.s), .bool r_8.2.bad]⟩]) (ps := []) (by kernel_rfl) trivial ?_
    refine GoO.regionEnd ?_
    refine GoO.seq' c6_16e ?_
    refine GoO.seq' c6_17e ?_
    refine GoO.draw c6_18e (by kernel_rfl) [] [] [] (n := 14) (by kernel_rfl) ?_
    simp only [List.replicate]
    refine GoF.take [0, 1] [.p, .p] (ks := [0, 1, 2, 8, 9, 10, 25]) (fu := 12) (li := [true, true, false, false, false, false, false, false, false, false, false, false, false, false]) (env' := [(0, .string (bs s_1)), (1, .int .u64 a_2), (2, .int .u64 b_3), (8, .int .u64 r_8.1), (9, .int .i64 r_9.1), (10, .bool r_9.2), (25, .bool r_9.2)]) (ps := []) (hk := []) (bk := []) (by kernel_rfl) trivial rfl rfl ?_
    refine GoF.bsplit (t := 25) (by kernel_rfl) (fun h10 => ?_) (fun h10 => ?_)
    · refine GoF.guard (fun h11 => ?_)
      refine GoF.take [3, 6, 7, 8, 9, 10, 11] [.p, .p, .p, .p, .p, .p, .p] (ks := [1, 2, 8, 9, 10, 25, 27, 35]) (fu := 5) (li := [true, true, false, true, false, false, true, true, true, true, true, true, false, false]) (env' := [(1, .int .u64 a_2), (2, .int .u64 b_3), (8, .int .u64 r_8.1), (9, .int .i64 r_9.1), (10, .bool r_9.2), (25, .bool true), (27, .int .u64 r_8.1), (35, .string (bs (s_1.take (wi64 ((s_1.length : Int) - r_9.1)).toNat)))]) (ps := [(0 : Int) ≤ (wi64 ((s_1.length : Int) - r_9.1)), (wi64 ((s_1.length : Int) - r_9.1)) ≤ (s_1.length : Int)]) (hk := []) (bk := []) (by kernel_rfl) (And.intro h11.1 (And.intro h11.2 trivial)) rfl rfl ?_
      refine OpTo.goF (i := 2) (by kernel_rfl) (hk := []) (bk := []) (GoO.new rfl 41 (cs := [.slice none ([] : List UInt8).length 0]) (by kernel_rfl) _ (fun _ => rfl) (fun b_12 => ⟨rfl, rfl, ?_⟩))
      refine GoF.nilOwn Kd.u8 42 ?_
      refine OpTo.goF (i := 4) (by kernel_rfl) (hk := []) (bk := []) (GoO.call rfl (by kernel_rfl) (by kernel_rfl) (pack_Writer_Num_ok n (⟨[]⟩ : T_pack_Writer) r_8.1 b_12 none 0) [[0], [41], [42]] [(41, 1), (42, 2)] [(1, 0)] [(2, 0)] (hks := [1]) (bks := []) (by kernel_rfl) (by kernel_rfl) (by kernel_rfl) (.inl rfl) rfl rfl (by kernel_rfl) (by kernel_rfl) _ (fun _ _ => rfl) _ _ (fun _ _ => rfl) (fun _ _ => rfl) (fun _ _ => by kernel_rfl) (fun _ _ => by kernel_rfl) (fun r_13 x_18 => ⟨rfl, rfl, ?_⟩))
      obtain ⟨A_14, c_15⟩ := x_18
      refine GoF.shape (env' := [(1, .int .u64 a_2), (2, .int .u64 b_3), (8, .int .u64 r_8.1), (9, .int .i64 r_9.1), (10, .bool r_9.2), (25, .bool true), (26, .pointer (some ⟨b_12, 0, none⟩)), (27, .int .u64 r_8.1), (28, .pointer (some ⟨b_12, 0, none⟩)), (35, .string (bs (s_1.take (wi64 ((s_1.length : Int) - r_9.1)).toNat)))]) (H' := [⟨41, b_12, [.slice A_14 r_13.b.length c_15]⟩, ⟨40, b_7, [.string (bs r_8.2.s), .bool r_8.2.bad]⟩]) (B' := [Ow 42 Kd.u8 A_14 c_15 r_13.b]) (ks := [1, 2, 8, 9, 10, 25, 26, 27, 28, 35]) (by kernel_rfl) (by kernel_rfl) (by kernel_rfl) ?_
      refine OpTo.goF (i := 5) (by kernel_rfl) (hk := []) (bk := []) (GoO.call rfl (by kernel_rfl) (by kernel_rfl) (pack_Writer_Bytes_ok n r_13 b_12 A_14 c_15) [[0], [41], [42]] [] [(1, 0)] [(2, 0)] (hks := [0, 1]) (bks := [0]) (by kernel_rfl) (by kernel_rfl) (by kernel_rfl) (.inl rfl) rfl rfl (by kernel_rfl) (by kernel_rfl) _ (fun _ _ => rfl) _ _ (fun _ _ => rfl) (fun _ _ => rfl) (fun _ _ => by kernel_rfl) (fun _ _ => by kernel_rfl) (fun r_16 x_17 => ⟨rfl, rfl, ?_⟩))
      refine GoF.shape (env' := [(1, .int .u64 a_2), (2, .int .u64 b_3), (8, .int .u64 r_8.1), (9, .int .i64 r_9.1), (10, .bool r_9.2), (25, .bool true), (26, .pointer (some ⟨b_12, 0, none⟩)), (27, .int .u64 r_8.1), (28, .pointer (some ⟨b_12, 0, none⟩)), (29, .string (bs r_16)), (35, .string (bs (s_1.take (wi64 ((s_1.length : Int) - r_9.1)).toNat)))]) (H' := [⟨41, b_12, [.slice A_14 r_13.b.length c_15]⟩, ⟨40, b_7, [.string (bs r_8.2.s), .bool r_8.2.bad]⟩]) (B' := [Ow 42 Kd.u8 A_14 c_15 r_13.b]) (ks := [1, 2, 8, 9, 10, 25, 26, 27, 28, 29, 35]) (by kernel_rfl) (by kernel_rfl) (by kernel_rfl) ?_
      refine GoF.take [12, 13] [.p, .p] (ks := [1, 2, 8, 9, 10, 37]) (fu := 0) (li := [true, true, true, true, true, true, true, true, true, true, true, true, true, true]) (env' := [(1, .int .u64 a_2), (2, .int .u64 b_3), (8, .int .u64 r_8.1), (9, .int .i64 r_9.1), (10, .bool r_9.2), (37, .bool (!(r_16 == (s_1.take (wi64 ((s_1.length : Int) - r_9.1)).toNat))))]) (ps := []) (hk := []) (bk := []) (by kernel_rfl) trivial rfl rfl ?_
      refine GoF.done (by kernel_rfl) ?_
      exact GoO.sub (ks := [1, 2, 8, 9, 10, 37]) (hk := []) (bk := []) (by kernel_rfl) (by kernel_rfl) (by kernel_rfl) (tontinelaw03_PackOne_j0_ok n a_2 b_3 r_8 r_9 w0 S0 (!(r_16 == (s_1.take (wi64 ((s_1.length : Int) - r_9.1)).toNat))))
    · refine GoF.take [2, 3, 4, 5, 6, 7, 8, 9, 10, 11, 12, 13] [.p, .p, .p, .p, .p, .p, .p, .p, .p, .p, .p, .p] (ks := [1, 2, 8, 9, 10, 37]) (fu := 0) (li := [true, true, true, true, true, true, true, true, true, true, true, true, true, true]) (env' := [(1, .int .u64 a_2), (2, .int .u64 b_3), (8, .int .u64 r_8.1), (9, .int .i64 r_9.1), (10, .bool r_9.2), (37, .bool false)]) (ps := []) (hk := []) (bk := []) (by kernel_rfl) trivial rfl rfl ?_
      refine GoF.done (by kernel_rfl) ?_
      exact GoO.sub (ks := [1, 2, 8, 9, 10, 37]) (hk := []) (bk := []) (by kernel_rfl) (by kernel_rfl) (by kernel_rfl) (tontinelaw03_PackOne_j0_ok n a_2 b_3 r_8 r_9 w0 S0 false)
end Go.GL
