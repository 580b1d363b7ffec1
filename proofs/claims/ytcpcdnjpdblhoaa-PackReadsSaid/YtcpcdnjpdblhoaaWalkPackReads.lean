import Derived.Test.YtcpcdnjpdblhoaaKindsT1
import Derived.Test.YtcpcdnjpdblhoaaProg
set_option linter.unusedVariables false
set_option linter.unusedSimpArgs false
set_option maxRecDepth 100000
namespace Go.GL
open Go Go.Proofs

/-! (*tontine/pack.Writer).Num -/
noncomputable def c17_0 : Code := bodyOf Try.f17
noncomputable def c17_1 : Code := cdL c17_0
noncomputable def c17_2 : Code := cdR c17_0
noncomputable def c17_3 : Code := cdL c17_2
noncomputable def c17_4 : Code := cdL c17_3
noncomputable def c17_5 : Code := cdR c17_3
noncomputable def c17_9 : Code := cdR c17_5
noncomputable def c17_10 : Code := cdR c17_2
noncomputable def c17_11 : Code := cdL c17_10
noncomputable def c17_12 : Code := cdR c17_10
noncomputable def c17_13 : Code := cdL c17_12
noncomputable def c17_14 : Code := cdL c17_13
noncomputable def c17_15 : Code := cdR c17_13
noncomputable def c17_16 : Code := cdL c17_15
noncomputable def c17_17 : Code := cdL c17_16
noncomputable def c17_18 : Code := cdL c17_17
noncomputable def c17_19 : Code := cdL c17_18
noncomputable def c17_20 : Code := cdR c17_18
noncomputable def c17_21 : Code := cdL c17_20
noncomputable def c17_22 : Code := cdR c17_20
noncomputable def c17_23 : Code := cdR c17_17
noncomputable def c17_24 : Code := cdL c17_23
noncomputable def c17_25 : Code := cdL c17_24
noncomputable def c17_26 : Code := cdR c17_23
noncomputable def c17_27 : Code := cdR c17_12
noncomputable def c17_28 : Code := cdL c17_27
noncomputable def c17_29 : Code := cdR c17_27
noncomputable def c17_30 : Code := cdL c17_29
noncomputable def c17_31 : Code := cdL c17_30
noncomputable def c17_32 : Code := cdR c17_30
noncomputable def c17_33 : Code := cdL c17_32
noncomputable def c17_34 : Code := cdL c17_33
noncomputable def c17_35 : Code := cdL c17_34
noncomputable def c17_36 : Code := cdL c17_35
noncomputable def c17_37 : Code := cdR c17_35
noncomputable def c17_38 : Code := cdL c17_37
noncomputable def c17_39 : Code := cdR c17_37
noncomputable def c17_40 : Code := cdR c17_34
noncomputable def c17_41 : Code := cdL c17_40
noncomputable def c17_42 : Code := cdL c17_41
noncomputable def c17_43 : Code := cdR c17_40
noncomputable def c17_44 : Code := cdR c17_29
noncomputable def c17_45 : Code := cdL c17_44
noncomputable def c17_46 : Code := cdR c17_44
noncomputable def c17_6 : Code := cdL c17_5
noncomputable def r17_1 : Array Oper := cdO c17_1
noncomputable def r17_4 : Array Oper := cdO c17_4
noncomputable def r17_11 : Array Oper := cdO c17_11
noncomputable def r17_14 : Array Oper := cdO c17_14
noncomputable def r17_19 : Array Oper := cdO c17_19
noncomputable def r17_25 : Array Oper := cdO c17_25
noncomputable def r17_26 : Array Oper := cdO c17_26
noncomputable def r17_28 : Array Oper := cdO c17_28
noncomputable def r17_31 : Array Oper := cdO c17_31
noncomputable def r17_36 : Array Oper := cdO c17_36
noncomputable def r17_42 : Array Oper := cdO c17_42
noncomputable def r17_43 : Array Oper := cdO c17_43
noncomputable def r17_45 : Array Oper := cdO c17_45
theorem c17_0e : c17_0 = .seq c17_1 c17_2 := by kernel_rfl
theorem c17_1e : c17_1 = .region 0 r17_1 false := by kernel_rfl
theorem c17_2e : c17_2 = .seq c17_3 c17_10 := by kernel_rfl
theorem c17_3e : c17_3 = .seq c17_4 c17_5 := by kernel_rfl
theorem c17_4e : c17_4 = .region 1 r17_4 false := by kernel_rfl
theorem c17_5e : c17_5 = .cond (cdC c17_5) c17_6 c17_9 := by kernel_rfl
theorem c17_9e : c17_9 = .skip := by kernel_rfl
theorem c17_10e : c17_10 = .seq c17_11 c17_12 := by kernel_rfl
theorem c17_11e : c17_11 = .region 3 r17_11 false := by kernel_rfl
theorem c17_12e : c17_12 = .seq c17_13 c17_27 := by kernel_rfl
theorem c17_13e : c17_13 = .seq c17_14 c17_15 := by kernel_rfl
theorem c17_14e : c17_14 = .region 4 r17_14 false := by kernel_rfl
theorem c17_15e : c17_15 = .block 0 c17_16 := by kernel_rfl
theorem c17_16e : c17_16 = .loop c17_17 := by kernel_rfl
theorem c17_17e : c17_17 = .seq c17_18 c17_23 := by kernel_rfl
theorem c17_18e : c17_18 = .seq c17_19 c17_20 := by kernel_rfl
theorem c17_19e : c17_19 = .region 5 r17_19 false := by kernel_rfl
theorem c17_20e : c17_20 = .cond (cdC c17_20) c17_21 c17_22 := by kernel_rfl
theorem c17_21e : c17_21 = .skip := by kernel_rfl
theorem c17_22e : c17_22 = .exit 0 := by kernel_rfl
theorem c17_23e : c17_23 = .seq c17_24 c17_26 := by kernel_rfl
theorem c17_24e : c17_24 = .block 1 c17_25 := by kernel_rfl
theorem c17_25e : c17_25 = .region 7 r17_25 false := by kernel_rfl
theorem c17_26e : c17_26 = .region 6 r17_26 false := by kernel_rfl
theorem c17_27e : c17_27 = .seq c17_28 c17_29 := by kernel_rfl
theorem c17_28e : c17_28 = .region 8 r17_28 false := by kernel_rfl
theorem c17_29e : c17_29 = .seq c17_30 c17_44 := by kernel_rfl
theorem c17_30e : c17_30 = .seq c17_31 c17_32 := by kernel_rfl
theorem c17_31e : c17_31 = .region 9 r17_31 false := by kernel_rfl
theorem c17_32e : c17_32 = .block 2 c17_33 := by kernel_rfl
theorem c17_33e : c17_33 = .loop c17_34 := by kernel_rfl
theorem c17_34e : c17_34 = .seq c17_35 c17_40 := by kernel_rfl
theorem c17_35e : c17_35 = .seq c17_36 c17_37 := by kernel_rfl
theorem c17_36e : c17_36 = .region 10 r17_36 false := by kernel_rfl
theorem c17_37e : c17_37 = .cond (cdC c17_37) c17_38 c17_39 := by kernel_rfl
theorem c17_38e : c17_38 = .skip := by kernel_rfl
theorem c17_39e : c17_39 = .exit 2 := by kernel_rfl
theorem c17_40e : c17_40 = .seq c17_41 c17_43 := by kernel_rfl
theorem c17_41e : c17_41 = .block 3 c17_42 := by kernel_rfl
theorem c17_42e : c17_42 = .region 12 r17_42 true := by kernel_rfl
theorem c17_43e : c17_43 = .region 11 r17_43 false := by kernel_rfl
theorem c17_44e : c17_44 = .seq c17_45 c17_46 := by kernel_rfl
theorem c17_45e : c17_45 = .region 13 r17_45 false := by kernel_rfl
theorem c17_46e : c17_46 = .ret := by kernel_rfl
noncomputable def pack_Writer_Num.R (b_2 : Nat) (A_3 : Option Addr) (c_4 : Nat) : Pst T_pack_Writer where
  ε := Option Addr × Nat
  v := fun r x => .pointer (some ⟨b_2, 0, none⟩)
  H := fun r x => [⟨1, b_2, [.slice x.1 r.b.length x.2]⟩]
  B := fun r x => [Ow 2 Kd.u8 x.1 x.2 r.b]
noncomputable def pack_Writer_Num.cx (b_2 : Nat) (A_3 : Option Addr) (c_4 : Nat) (w0 : World) (S0 : Fam) : Cx T_pack_Writer := ⟨Try.prog, 17, Try.f17, 49, w0, S0, [1, 2], 2, pack_Writer_Num.R b_2 A_3 c_4⟩
theorem pack_Writer_Num_l1_ok (n : Nat) (x_5 : Int) (b_2 : Nat) (A_3 : Option Addr) (c_4 : Nat) (w0 : World) (S0 : Fam) :
    ∀ (k : Nat) (f_14 : (List UInt8)) (i_17 : Int) (A_15 : Option Addr) (c_16 : Nat), GoO (pack_Writer_Num.cx b_2 A_3 c_4 w0 S0) [(0, .pointer (some ⟨b_2, 0, none⟩)), (1, .int .u64 x_5), (7, .int .i64 i_17)] [⟨1, b_2, [.slice A_15 f_14.length c_16]⟩] [Ow 2 Kd.u8 A_15 c_16 f_14] [.code c17_34, .inLoop c17_34, .inBlock 2, .code c17_44] (pack_Writer_Num.l1 n x_5 k f_14 i_17) := by
  intro k
  induction k with
  | zero => intros; rw [pack_Writer_Num.l1.eq_1]; exact GoO.stop
  | succ k ih1 =>
    intro f_14 i_17 A_15 c_16
    rw [pack_Writer_Num.l1.eq_2]
    refine GoO.seq' c17_34e ?_
    refine GoO.seq' c17_35e ?_
    refine GoO.region' (is := [0, 1]) c17_36e (by kernel_rfl) ?_
    refine GoO.exec (is := [0, 1]) (hs := [.p, .p]) (rest := []) (ks := [0, 1, 7, 31]) (env' := [(0, .pointer (some ⟨b_2, 0, none⟩)), (1, .int .u64 x_5), (7, .int .i64 i_17), (31, .bool (decide (i_17 ≥ 0)))]) (H' := [⟨1, b_2, [.slice A_15 f_14.length c_16]⟩]) (ps := []) (by kernel_rfl) trivial ?_
    refine GoO.regionEnd ?_
    refine GoO.ite' c17_37e (by kernel_rfl) (fun h18 => ?_) (fun h18 => ?_)
    · refine GoO.skip' c17_38e ?_
      refine GoO.seq' c17_40e ?_
      refine GoO.block' c17_41e ?_
      refine GoO.draw c17_42e (by kernel_rfl) [12, 13, 14] [⟨1, b_2, [.slice A_15 f_14.length c_16]⟩] [] (n := 15) (by kernel_rfl) ?_
      simp only [List.replicate]
      refine GoF.guard (fun h19 => ?_)
      refine GoF.take [0, 1, 2, 3, 4, 5, 6, 7, 8, 9] [.p, .p, .p, .p, .b 0, .p, .p, .p, .p, .p] (ks := [0, 1, 7, 34, 38, 43]) (fu := 5) (li := [true, true, true, true, true, true, true, true, true, true, false, false, false, false, false]) (env' := [(0, .pointer (some ⟨b_2, 0, none⟩)), (1, .int .u64 x_5), (7, .int .i64 i_17), (34, .pointer (some ⟨b_2, 0, none⟩)), (38, .slice A_15 f_14.length c_16), (43, .int .u8 (wu8 (shR .u64 x_5 (wi64 (8 * i_17)))))]) (ps := [b_2 = b_2, (0 : Int) ≤ (wi64 (8 * i_17))]) (hk := [0]) (bk := []) (by kernel_rfl) (And.intro rfl (And.intro h19 trivial)) rfl rfl ?_
      refine OpTo.goF (i := 10) (by kernel_rfl) (hk := [0]) (bk := []) (GoO.lit (e := 5) (K := Kd.u8) rfl (by kernel_rfl) (by kernel_rfl) (cs := [.int .u8 (wu8 (shR .u64 x_5 (wi64 (8 * i_17))))]) (by kernel_rfl) [u8of (shR .u64 x_5 (wi64 (8 * i_17)))] (by kernel_rfl) (by kernel_rfl) (fun w S hB => ⟨[.int .u8 (wu8 (shR .u64 x_5 (wi64 (8 * i_17))))], _, rfl, congrArg (fun v => [v]) (u8cell _), rfl⟩) 41 _ (fun _ _ => rfl) (fun A_20 c_21 => ⟨rfl, rfl, ?_⟩))
      refine GoF.guard (fun h22 => ?_)
      refine OpTo.goF (i := 11) (by kernel_rfl) (hk := [0]) (bk := []) (GoO.appW (e := 5) (K := Kd.u8) (A := A_15) (c := c_16) (tg := 2) (bytes := 1) (zs := [.int .u8 0]) (xs := f_14) (ys := [u8of (shR .u64 x_5 (wi64 (8 * i_17)))]) (xv := .slice A_20 [u8of (shR .u64 x_5 (wi64 (8 * i_17)))].length c_21) (j := 1) (bk := [0]) rfl (by kernel_rfl) (by kernel_rfl) (by kernel_rfl) (by kernel_rfl) rfl (by kernel_rfl) rfl (fun w S hB => SrcIs.row (Reads.own w S (hB _ (List.mem_of_getElem? (i := 0) rfl)))) h22 rfl rfl rfl rfl _ (fun _ _ => rfl) (fun A_23 c_24 => ⟨rfl, rfl, ?_⟩))
      refine GoF.fin1 (i := 12) (hint := .p) (ps := []) (hk := []) (bk := []) (by kernel_rfl) rfl trivial (.inl rfl) ?_
      refine GoF.fin1 (i := 13) (hint := .p) (ps := []) (hk := []) (bk := []) (by kernel_rfl) rfl trivial (.inl rfl) ?_
      refine GoF.fin1 (i := 14) (hint := .b 0) (ps := [b_2 = b_2]) (hk := []) (bk := []) (by kernel_rfl) rfl (And.intro rfl trivial) (.inl rfl) ?_
      refine GoF.done (by kernel_rfl) ?_
      refine GoO.inBlock ?_
      refine GoO.region' (is := [0, 1, 2]) c17_43e (by kernel_rfl) ?_
      refine GoO.exec (is := [0, 1, 2]) (hs := [.p, .p, .p]) (rest := []) (ks := [0, 1, 7]) (env' := [(0, .pointer (some ⟨b_2, 0, none⟩)), (1, .int .u64 x_5), (7, .int .i64 (wi64 (i_17 - 1)))]) (H' := [⟨1, b_2, [.slice A_23 (f_14 ++ [u8of (shR .u64 x_5 (wi64 (8 * i_17)))]).length c_24]⟩]) (ps := []) (by kernel_rfl) trivial ?_
      refine GoO.regionEnd ?_
      refine GoO.inLoop ?_
      exact GoO.sub (ks := [0, 1, 7]) (hk := [0]) (bk := [0]) (by kernel_rfl) (by kernel_rfl) (by kernel_rfl) (ih1 (f_14 ++ [u8of (shR .u64 x_5 (wi64 (8 * i_17)))]) (wi64 (i_17 - 1)) A_23 c_24)
    · refine GoO.exit' c17_39e rfl ?_
      refine GoO.seq' c17_44e ?_
      refine GoO.region' (is := [0, 1]) c17_45e (by kernel_rfl) ?_
      refine GoO.exec (is := [0, 1]) (hs := [.p, .p]) (rest := []) (ks := [4]) (env' := [(4, .pointer (some ⟨b_2, 0, none⟩))]) (H' := [⟨1, b_2, [.slice A_15 f_14.length c_16]⟩]) (ps := []) (by kernel_rfl) trivial ?_
      refine GoO.regionEnd ?_
      exact GoO.ret' (h := c17_46e) (hs := []) (ps := []) (hk := [0]) (bk := [0]) Try.func17 (⟨A_15, c_16⟩ : Option Addr × Nat) (by kernel_rfl) trivial (by kernel_rfl) (by kernel_rfl)
theorem pack_Writer_Num_l0_ok (n : Nat) (w_1 : T_pack_Writer) (x_5 : Int) (b_2 : Nat) (A_3 : Option Addr) (c_4 : Nat) (w0 : World) (S0 : Fam) :
    ∀ (k : Nat) (n_6 : Int) (y_7 : Int), GoO (pack_Writer_Num.cx b_2 A_3 c_4 w0 S0) [(0, .pointer (some ⟨b_2, 0, none⟩)), (1, .int .u64 x_5), (5, .int .i64 n_6), (6, .int .u64 y_7)] [⟨1, b_2, [.slice A_3 w_1.b.length c_4]⟩] [Ow 2 Kd.u8 A_3 c_4 w_1.b] [.code c17_17, .inLoop c17_17, .inBlock 0, .code c17_27] (pack_Writer_Num.l0 n w_1 x_5 k n_6 y_7) := by
  intro k
  induction k with
  | zero => intros; rw [pack_Writer_Num.l0.eq_1]; exact GoO.stop
  | succ k ih0 =>
    intro n_6 y_7
    rw [pack_Writer_Num.l0.eq_2]
    refine GoO.seq' c17_17e ?_
    refine GoO.seq' c17_18e ?_
    refine GoO.region' (is := [0, 1]) c17_19e (by kernel_rfl) ?_
    refine GoO.exec (is := [0, 1]) (hs := [.p, .p]) (rest := []) (ks := [0, 1, 5, 6, 12]) (env' := [(0, .pointer (some ⟨b_2, 0, none⟩)), (1, .int .u64 x_5), (5, .int .i64 n_6), (6, .int .u64 y_7), (12, .bool (decide (y_7 > 0)))]) (H' := [⟨1, b_2, [.slice A_3 w_1.b.length c_4]⟩]) (ps := []) (by kernel_rfl) trivial ?_
    refine GoO.regionEnd ?_
    refine GoO.ite' c17_20e (by kernel_rfl) (fun h8 => ?_) (fun h8 => ?_)
    · refine GoO.skip' c17_21e ?_
      refine GoO.seq' c17_23e ?_
      refine GoO.block' c17_24e ?_
      refine GoO.region' (is := [0, 1, 2]) c17_25e (by kernel_rfl) ?_
      refine GoO.exec (is := [0, 1, 2]) (hs := [.p, .p, .p]) (rest := []) (ks := [0, 1, 5, 6]) (env' := [(0, .pointer (some ⟨b_2, 0, none⟩)), (1, .int .u64 x_5), (5, .int .i64 (wi64 (n_6 + 1))), (6, .int .u64 y_7)]) (H' := [⟨1, b_2, [.slice A_3 w_1.b.length c_4]⟩]) (ps := []) (by kernel_rfl) trivial ?_
      refine GoO.regionEnd ?_
      refine GoO.inBlock ?_
      refine GoO.region' (is := [0, 1, 2]) c17_26e (by kernel_rfl) ?_
      refine GoO.exec (is := [0, 1, 2]) (hs := [.p, .p, .p]) (rest := []) (ks := [0, 1, 5, 6]) (env' := [(0, .pointer (some ⟨b_2, 0, none⟩)), (1, .int .u64 x_5), (5, .int .i64 (wi64 (n_6 + 1))), (6, .int .u64 (shR .u64 y_7 8))]) (H' := [⟨1, b_2, [.slice A_3 w_1.b.length c_4]⟩]) (ps := [(0 : Int) ≤ 8]) (by kernel_rfl) (And.intro (by decide) trivial) ?_
      refine GoO.regionEnd ?_
      refine GoO.inLoop ?_
      exact GoO.sub (ks := [0, 1, 5, 6]) (hk := [0]) (bk := [0]) (by kernel_rfl) (by kernel_rfl) (by kernel_rfl) (ih0 (wi64 (n_6 + 1)) (shR .u64 y_7 8))
    · refine GoO.exit' c17_22e rfl ?_
      refine GoO.seq' c17_27e ?_
      refine GoO.region' (is := [0, 1, 2, 3, 4, 5, 6, 7, 8, 9, 10, 11]) c17_28e (by kernel_rfl) ?_
      refine GoO.exec (is := [0, 1, 2, 3, 4, 5, 6]) (hs := [.p, .p, .p, .p, .b 0, .p, .p]) (rest := [7, 8, 9, 10, 11]) (ks := [0, 1, 5, 17, 21, 23]) (env' := [(0, .pointer (some ⟨b_2, 0, none⟩)), (1, .int .u64 x_5), (5, .int .i64 n_6), (17, .pointer (some ⟨b_2, 0, none⟩)), (21, .slice A_3 w_1.b.length c_4), (23, .int .u8 (wu8 n_6))]) (H' := [⟨1, b_2, [.slice A_3 w_1.b.length c_4]⟩]) (ps := [b_2 = b_2]) (by kernel_rfl) (And.intro rfl trivial) ?_
      refine OpTo.go (GoO.lit (e := 5) (K := Kd.u8) rfl (by kernel_rfl) (by kernel_rfl) (cs := [.int .u8 (wu8 n_6)]) (by kernel_rfl) [u8of n_6] (by kernel_rfl) (by kernel_rfl) (fun w S hB => ⟨[.int .u8 (wu8 n_6)], _, rfl, congrArg (fun v => [v]) (u8cell _), rfl⟩) 40 _ (fun _ _ => rfl) (fun A_9 c_10 => ?_))
      refine GoO.guard (fun h11 => ?_)
      refine OpTo.go (GoO.appW (e := 5) (K := Kd.u8) (A := A_3) (c := c_4) (tg := 2) (bytes := 1) (zs := [.int .u8 0]) (xs := w_1.b) (ys := [u8of n_6]) (xv := .slice A_9 [u8of n_6].length c_10) (j := 1) (bk := [0]) rfl (by kernel_rfl) (by kernel_rfl) (by kernel_rfl) (by kernel_rfl) rfl (by kernel_rfl) rfl (fun w S hB => SrcIs.row (Reads.own w S (hB _ (List.mem_of_getElem? (i := 0) rfl)))) h11 rfl rfl rfl rfl _ (fun _ _ => rfl) (fun A_12 c_13 => ?_))
      refine GoO.exec (is := [9, 10, 11]) (hs := [.p, .p, .b 0]) (rest := []) (ks := [0, 1, 5]) (env' := [(0, .pointer (some ⟨b_2, 0, none⟩)), (1, .int .u64 x_5), (5, .int .i64 n_6)]) (H' := [⟨1, b_2, [.slice A_12 (w_1.b ++ [u8of n_6]).length c_13]⟩]) (ps := [b_2 = b_2]) (by kernel_rfl) (And.intro rfl trivial) ?_
      refine GoO.regionEnd ?_
      refine GoO.seq' c17_29e ?_
      refine GoO.seq' c17_30e ?_
      refine GoO.region' (is := [0, 1, 2]) c17_31e (by kernel_rfl) ?_
      refine GoO.exec (is := [0, 1, 2]) (hs := [.p, .p, .p]) (rest := []) (ks := [0, 1, 7]) (env' := [(0, .pointer (some ⟨b_2, 0, none⟩)), (1, .int .u64 x_5), (7, .int .i64 (wi64 (n_6 - 1)))]) (H' := [⟨1, b_2, [.slice A_12 (w_1.b ++ [u8of n_6]).length c_13]⟩]) (ps := []) (by kernel_rfl) trivial ?_
      refine GoO.regionEnd ?_
      refine GoO.block' c17_32e ?_
      refine GoO.loop' c17_33e ?_
      exact GoO.sub (ks := [0, 1, 7]) (hk := [0]) (bk := [0]) (by kernel_rfl) (by kernel_rfl) (by kernel_rfl) (pack_Writer_Num_l1_ok n x_5 b_2 A_3 c_4 w0 S0 n (w_1.b ++ [u8of n_6]) (wi64 (n_6 - 1)) A_12 c_13)
theorem pack_Writer_Num_ok (n : Nat) (w_1 : T_pack_Writer) (x_5 : Int) (b_2 : Nat) (A_3 : Option Addr) (c_4 : Nat) :
    Meets Try.prog 17 [.pointer (some ⟨b_2, 0, none⟩), .int .u64 x_5] 2 [1, 2] [⟨1, b_2, [.slice A_3 w_1.b.length c_4]⟩] [Ow 2 Kd.u8 A_3 c_4 w_1.b] (pack_Writer_Num.f n w_1 x_5) (pack_Writer_Num.R b_2 A_3 c_4) := by
  refine Meets.of (c := c17_0) (n := 49) Try.func17 (by kernel_rfl) (by kernel_rfl) (by kernel_rfl) fun w0 S0 => ?_
  unfold pack_Writer_Num.f
  show GoO (pack_Writer_Num.cx b_2 A_3 c_4 w0 S0) [(0, .pointer (some ⟨b_2, 0, none⟩)), (1, .int .u64 x_5)] [⟨1, b_2, [.slice A_3 w_1.b.length c_4]⟩] [Ow 2 Kd.u8 A_3 c_4 w_1.b] [.code c17_0] _
  refine GoO.seq' c17_0e ?_
  refine GoO.region' (is := [0]) c17_1e (by kernel_rfl) ?_
  refine GoO.exec (is := [0]) (hs := [.p]) (rest := []) (ks := [0, 1]) (env' := [(0, .pointer (some ⟨b_2, 0, none⟩)), (1, .int .u64 x_5)]) (H' := [⟨1, b_2, [.slice A_3 w_1.b.length c_4]⟩]) (ps := []) (by kernel_rfl) trivial ?_
  refine GoO.regionEnd ?_
  refine GoO.seq' c17_2e ?_
  refine GoO.seq' c17_3e ?_
  refine GoO.region' (is := [0, 1]) c17_4e (by kernel_rfl) ?_
  refine GoO.exec (is := [0, 1]) (hs := [.p, .p]) (rest := []) (ks := [0, 1, 9]) (env' := [(0, .pointer (some ⟨b_2, 0, none⟩)), (1, .int .u64 x_5), (9, .bool false)]) (H' := [⟨1, b_2, [.slice A_3 w_1.b.length c_4]⟩]) (ps := []) (by kernel_rfl) trivial ?_
  refine GoO.regionEnd ?_
  refine GoO.condF c17_5e (by kernel_rfl) ?_
  refine GoO.skip' c17_9e ?_
  refine GoO.seq' c17_10e ?_
  refine GoO.region' (is := [0]) c17_11e (by kernel_rfl) ?_
  refine GoO.exec (is := [0]) (hs := [.p]) (rest := []) (ks := [0, 1, 5]) (env' := [(0, .pointer (some ⟨b_2, 0, none⟩)), (1, .int .u64 x_5), (5, .int .i64 0)]) (H' := [⟨1, b_2, [.slice A_3 w_1.b.length c_4]⟩]) (ps := []) (by kernel_rfl) trivial ?_
  refine GoO.regionEnd ?_
  refine GoO.seq' c17_12e ?_
  refine GoO.seq' c17_13e ?_
  refine GoO.region' (is := [0, 1]) c17_14e (by kernel_rfl) ?_
  refine GoO.exec (is := [0, 1]) (hs := [.p, .p]) (rest := []) (ks := [0, 1, 5, 6]) (env' := [(0, .pointer (some ⟨b_2, 0, none⟩)), (1, .int .u64 x_5), (5, .int .i64 0), (6, .int .u64 x_5)]) (H' := [⟨1, b_2, [.slice A_3 w_1.b.length c_4]⟩]) (ps := []) (by kernel_rfl) trivial ?_
  refine GoO.regionEnd ?_
  refine GoO.block' c17_15e ?_
  refine GoO.loop' c17_16e ?_
  exact GoO.sub (ks := [0, 1, 5, 6]) (hk := [0]) (bk := [0]) (by kernel_rfl) (by kernel_rfl) (by kernel_rfl) (pack_Writer_Num_l0_ok n w_1 x_5 b_2 A_3 c_4 w0 S0 n 0 x_5)

/-! (*tontine/pack.Writer).Text -/
noncomputable def c26_0 : Code := bodyOf Try.f26
noncomputable def c26_1 : Code := cdL c26_0
noncomputable def c26_2 : Code := cdR c26_0
noncomputable def c26_3 : Code := cdL c26_2
noncomputable def c26_4 : Code := cdL c26_3
noncomputable def c26_5 : Code := cdR c26_3
noncomputable def c26_9 : Code := cdR c26_5
noncomputable def c26_10 : Code := cdR c26_2
noncomputable def c26_11 : Code := cdL c26_10
noncomputable def c26_12 : Code := cdR c26_10
noncomputable def c26_13 : Code := cdL c26_12
noncomputable def c26_14 : Code := cdR c26_12
noncomputable def c26_15 : Code := cdL c26_14
noncomputable def c26_16 : Code := cdR c26_14
noncomputable def c26_6 : Code := cdL c26_5
noncomputable def r26_1 : Array Oper := cdO c26_1
noncomputable def r26_4 : Array Oper := cdO c26_4
noncomputable def r26_11 : Array Oper := cdO c26_11
noncomputable def r26_13 : Array Oper := cdO c26_13
noncomputable def r26_15 : Array Oper := cdO c26_15
theorem c26_0e : c26_0 = .seq c26_1 c26_2 := by kernel_rfl
theorem c26_1e : c26_1 = .region 0 r26_1 false := by kernel_rfl
theorem c26_2e : c26_2 = .seq c26_3 c26_10 := by kernel_rfl
theorem c26_3e : c26_3 = .seq c26_4 c26_5 := by kernel_rfl
theorem c26_4e : c26_4 = .region 1 r26_4 false := by kernel_rfl
theorem c26_5e : c26_5 = .cond (cdC c26_5) c26_6 c26_9 := by kernel_rfl
theorem c26_9e : c26_9 = .skip := by kernel_rfl
theorem c26_10e : c26_10 = .seq c26_11 c26_12 := by kernel_rfl
theorem c26_11e : c26_11 = .region 3 r26_11 false := by kernel_rfl
theorem c26_12e : c26_12 = .seq c26_13 c26_14 := by kernel_rfl
theorem c26_13e : c26_13 = .region 4 r26_13 false := by kernel_rfl
theorem c26_14e : c26_14 = .seq c26_15 c26_16 := by kernel_rfl
theorem c26_15e : c26_15 = .region 5 r26_15 false := by kernel_rfl
theorem c26_16e : c26_16 = .ret := by kernel_rfl
noncomputable def pack_Writer_Text.R (b_2 : Nat) (A_3 : Option Addr) (c_4 : Nat) : Pst T_pack_Writer where
  ε := Option Addr × Nat
  v := fun r x => .pointer (some ⟨b_2, 0, none⟩)
  H := fun r x => [⟨1, b_2, [.slice x.1 r.b.length x.2]⟩]
  B := fun r x => [Ow 2 Kd.u8 x.1 x.2 r.b]
noncomputable def pack_Writer_Text.cx (b_2 : Nat) (A_3 : Option Addr) (c_4 : Nat) (w0 : World) (S0 : Fam) : Cx T_pack_Writer := ⟨Try.prog, 26, Try.f26, 22, w0, S0, [1, 2], 2, pack_Writer_Text.R b_2 A_3 c_4⟩
theorem pack_Writer_Text_ok (n : Nat) (w_1 : T_pack_Writer) (s_5 : (List UInt8)) (b_2 : Nat) (A_3 : Option Addr) (c_4 : Nat) :
    Meets Try.prog 26 [.pointer (some ⟨b_2, 0, none⟩), .string (bs s_5)] 2 [1, 2] [⟨1, b_2, [.slice A_3 w_1.b.length c_4]⟩] [Ow 2 Kd.u8 A_3 c_4 w_1.b] (pack_Writer_Text.f n w_1 s_5) (pack_Writer_Text.R b_2 A_3 c_4) := by
  refine Meets.of (c := c26_0) (n := 22) Try.func26 (by kernel_rfl) (by kernel_rfl) (by kernel_rfl) fun w0 S0 => ?_
  unfold pack_Writer_Text.f
  show GoO (pack_Writer_Text.cx b_2 A_3 c_4 w0 S0) [(0, .pointer (some ⟨b_2, 0, none⟩)), (1, .string (bs s_5))] [⟨1, b_2, [.slice A_3 w_1.b.length c_4]⟩] [Ow 2 Kd.u8 A_3 c_4 w_1.b] [.code c26_0] _
  refine GoO.seq' c26_0e ?_
  refine GoO.region' (is := [0]) c26_1e (by kernel_rfl) ?_
  refine GoO.exec (is := [0]) (hs := [.p]) (rest := []) (ks := [0, 1]) (env' := [(0, .pointer (some ⟨b_2, 0, none⟩)), (1, .string (bs s_5))]) (H' := [⟨1, b_2, [.slice A_3 w_1.b.length c_4]⟩]) (ps := []) (by kernel_rfl) trivial ?_
  refine GoO.regionEnd ?_
  refine GoO.seq' c26_2e ?_
  refine GoO.seq' c26_3e ?_
  refine GoO.region' (is := [0, 1]) c26_4e (by kernel_rfl) ?_
  refine GoO.exec (is := [0, 1]) (hs := [.p, .p]) (rest := []) (ks := [0, 1, 6]) (env' := [(0, .pointer (some ⟨b_2, 0, none⟩)), (1, .string (bs s_5)), (6, .bool false)]) (H' := [⟨1, b_2, [.slice A_3 w_1.b.length c_4]⟩]) (ps := []) (by kernel_rfl) trivial ?_
  refine GoO.regionEnd ?_
  refine GoO.condF c26_5e (by kernel_rfl) ?_
  refine GoO.skip' c26_9e ?_
  refine GoO.seq' c26_10e ?_
  refine GoO.region' (is := [0, 1, 2, 3, 4]) c26_11e (by kernel_rfl) ?_
  refine GoO.exec (is := [0, 1, 2, 3]) (hs := [.p, .p, .p, .p]) (rest := [4]) (ks := [0, 1, 7, 10]) (env' := [(0, .pointer (some ⟨b_2, 0, none⟩)), (1, .string (bs s_5)), (7, .pointer (some ⟨b_2, 0, none⟩)), (10, .int .u64 (wu64 (s_5.length : Int)))]) (H' := [⟨1, b_2, [.slice A_3 w_1.b.length c_4]⟩]) (ps := []) (by kernel_rfl) trivial ?_
  refine OpTo.go (GoO.call rfl (by kernel_rfl) (by kernel_rfl) (pack_Writer_Num_ok n w_1 (wu64 (s_5.length : Int)) b_2 A_3 c_4) [[0], [1], [2]] [(1, 1), (2, 2)] [(1, 0)] [(2, 0)] (hks := []) (bks := []) (by kernel_rfl) (by kernel_rfl) (by kernel_rfl) (.inl rfl) rfl rfl (by kernel_rfl) (by kernel_rfl) _ (fun _ _ => rfl) _ _ (fun _ _ => rfl) (fun _ _ => rfl) (fun _ _ => by kernel_rfl) (fun _ _ => by kernel_rfl) (fun r_6 x_12 => ?_))
  obtain ⟨A_7, c_8⟩ := x_12
  refine GoO.shape (env' := [(0, .pointer (some ⟨b_2, 0, none⟩)), (1, .string (bs s_5)), (7, .pointer (some ⟨b_2, 0, none⟩)), (10, .int .u64 (wu64 (s_5.length : Int))), (11, .pointer (some ⟨b_2, 0, none⟩))]) (H' := [⟨1, b_2, [.slice A_7 r_6.b.length c_8]⟩]) (B' := [Ow 2 Kd.u8 A_7 c_8 r_6.b]) (ks := [0, 1, 7, 10, 11]) (by kernel_rfl) (by kernel_rfl) (by kernel_rfl) ?_
  refine GoO.regionEnd ?_
  refine GoO.seq' c26_12e ?_
  refine GoO.region' (is := [0, 1, 2, 3, 4, 5, 6, 7, 8, 9]) c26_13e (by kernel_rfl) ?_
  refine GoO.exec (is := [0, 1, 2, 3, 4, 5]) (hs := [.p, .p, .p, .p, .b 0, .p]) (rest := [6, 7, 8, 9]) (ks := [0, 12, 16, 17]) (env' := [(0, .pointer (some ⟨b_2, 0, none⟩)), (12, .pointer (some ⟨b_2, 0, none⟩)), (16, .slice A_7 r_6.b.length c_8), (17, .string (bs s_5))]) (H' := [⟨1, b_2, [.slice A_7 r_6.b.length c_8]⟩]) (ps := [b_2 = b_2]) (by kernel_rfl) (And.intro rfl trivial) ?_
  refine GoO.guard (fun h9 => ?_)
  refine OpTo.go (GoO.appW (e := 5) (K := Kd.u8) (A := A_7) (c := c_8) (tg := 2) (bytes := 1) (zs := [.int .u8 0]) (xs := r_6.b) (ys := s_5) (xv := .string (bs s_5)) (j := 0) (bk := []) rfl (by kernel_rfl) (by kernel_rfl) (by kernel_rfl) (by kernel_rfl) rfl (by kernel_rfl) rfl (fun _ _ _ => SrcIs.str _) h9 rfl rfl rfl rfl _ (fun _ _ => rfl) (fun A_10 c_11 => ?_))
  refine GoO.exec (is := [7, 8, 9]) (hs := [.p, .p, .b 0]) (rest := []) (ks := [0]) (env' := [(0, .pointer (some ⟨b_2, 0, none⟩))]) (H' := [⟨1, b_2, [.slice A_10 (r_6.b ++ s_5).length c_11]⟩]) (ps := [b_2 = b_2]) (by kernel_rfl) (And.intro rfl trivial) ?_
  refine GoO.regionEnd ?_
  refine GoO.seq' c26_14e ?_
  refine GoO.region' (is := [0, 1]) c26_15e (by kernel_rfl) ?_
  refine GoO.exec (is := [0, 1]) (hs := [.p, .p]) (rest := []) (ks := [4]) (env' := [(4, .pointer (some ⟨b_2, 0, none⟩))]) (H' := [⟨1, b_2, [.slice A_10 (r_6.b ++ s_5).length c_11]⟩]) (ps := []) (by kernel_rfl) trivial ?_
  refine GoO.regionEnd ?_
  exact GoO.ret' (h := c26_16e) (hs := []) (ps := []) (hk := [0]) (bk := [0]) Try.func26 (⟨A_10, c_11⟩ : Option Addr × Nat) (by kernel_rfl) trivial (by kernel_rfl) (by kernel_rfl)

/-! (*tontine/pack.Writer).Bytes -/
noncomputable def c19_0 : Code := bodyOf Try.f19
noncomputable def c19_1 : Code := cdL c19_0
noncomputable def c19_2 : Code := cdR c19_0
noncomputable def c19_3 : Code := cdL c19_2
noncomputable def c19_4 : Code := cdL c19_3
noncomputable def c19_5 : Code := cdR c19_3
noncomputable def c19_9 : Code := cdR c19_5
noncomputable def c19_10 : Code := cdR c19_2
noncomputable def c19_11 : Code := cdL c19_10
noncomputable def c19_12 : Code := cdR c19_10
noncomputable def c19_6 : Code := cdL c19_5
noncomputable def r19_1 : Array Oper := cdO c19_1
noncomputable def r19_4 : Array Oper := cdO c19_4
noncomputable def r19_11 : Array Oper := cdO c19_11
theorem c19_0e : c19_0 = .seq c19_1 c19_2 := by kernel_rfl
theorem c19_1e : c19_1 = .region 0 r19_1 false := by kernel_rfl
theorem c19_2e : c19_2 = .seq c19_3 c19_10 := by kernel_rfl
theorem c19_3e : c19_3 = .seq c19_4 c19_5 := by kernel_rfl
theorem c19_4e : c19_4 = .region 1 r19_4 false := by kernel_rfl
theorem c19_5e : c19_5 = .cond (cdC c19_5) c19_6 c19_9 := by kernel_rfl
theorem c19_9e : c19_9 = .skip := by kernel_rfl
theorem c19_10e : c19_10 = .seq c19_11 c19_12 := by kernel_rfl
theorem c19_11e : c19_11 = .region 3 r19_11 false := by kernel_rfl
theorem c19_12e : c19_12 = .ret := by kernel_rfl
noncomputable def pack_Writer_Bytes.R (b_2 : Nat) (A_3 : Option Addr) (c_4 : Nat) : Pst (List UInt8) where
  ε := Unit
  v := fun r x => .string (bs r)
  H := fun r x => []
  B := fun r x => []
noncomputable def pack_Writer_Bytes.cx (b_2 : Nat) (A_3 : Option Addr) (c_4 : Nat) (w0 : World) (S0 : Fam) : Cx (List UInt8) := ⟨Try.prog, 19, Try.f19, 10, w0, S0, [], 2, pack_Writer_Bytes.R b_2 A_3 c_4⟩
theorem pack_Writer_Bytes_ok (n : Nat) (w_1 : T_pack_Writer) (b_2 : Nat) (A_3 : Option Addr) (c_4 : Nat) :
    Meets Try.prog 19 [.pointer (some ⟨b_2, 0, none⟩)] 2 [] [⟨1, b_2, [.slice A_3 w_1.b.length c_4]⟩] [Ow 2 Kd.u8 A_3 c_4 w_1.b] (pack_Writer_Bytes.f n w_1) (pack_Writer_Bytes.R b_2 A_3 c_4) := by
  refine Meets.of (c := c19_0) (n := 10) Try.func19 (by kernel_rfl) (by kernel_rfl) (by kernel_rfl) fun w0 S0 => ?_
  unfold pack_Writer_Bytes.f
  show GoO (pack_Writer_Bytes.cx b_2 A_3 c_4 w0 S0) [(0, .pointer (some ⟨b_2, 0, none⟩))] [⟨1, b_2, [.slice A_3 w_1.b.length c_4]⟩] [Ow 2 Kd.u8 A_3 c_4 w_1.b] [.code c19_0] _
  refine GoO.seq' c19_0e ?_
  refine GoO.region' (is := [0]) c19_1e (by kernel_rfl) ?_
  refine GoO.exec (is := [0]) (hs := [.p]) (rest := []) (ks := [0]) (env' := [(0, .pointer (some ⟨b_2, 0, none⟩))]) (H' := [⟨1, b_2, [.slice A_3 w_1.b.length c_4]⟩]) (ps := []) (by kernel_rfl) trivial ?_
  refine GoO.regionEnd ?_
  refine GoO.seq' c19_2e ?_
  refine GoO.seq' c19_3e ?_
  refine GoO.region' (is := [0, 1]) c19_4e (by kernel_rfl) ?_
  refine GoO.exec (is := [0, 1]) (hs := [.p, .p]) (rest := []) (ks := [0, 4]) (env' := [(0, .pointer (some ⟨b_2, 0, none⟩)), (4, .bool false)]) (H' := [⟨1, b_2, [.slice A_3 w_1.b.length c_4]⟩]) (ps := []) (by kernel_rfl) trivial ?_
  refine GoO.regionEnd ?_
  refine GoO.condF c19_5e (by kernel_rfl) ?_
  refine GoO.skip' c19_9e ?_
  refine GoO.seq' c19_10e ?_
  refine GoO.region' (is := [0, 1, 2, 3, 4, 5]) c19_11e (by kernel_rfl) ?_
  refine GoO.exec (is := [0, 1, 2, 3]) (hs := [.p, .p, .p, .b 0]) (rest := [4, 5]) (ks := [8]) (env' := [(8, .slice A_3 w_1.b.length c_4)]) (H' := [⟨1, b_2, [.slice A_3 w_1.b.length c_4]⟩]) (ps := [b_2 = b_2]) (by kernel_rfl) (And.intro rfl trivial) ?_
  refine OpTo.go (GoO.toStr (e := 5) (A := A_3) (c := c_4) (xs := w_1.b) (j := 0) rfl (by kernel_rfl) (by kernel_rfl) (by kernel_rfl) (by kernel_rfl) rfl Reads.own rfl rfl ?_)
  refine GoO.exec (is := [5]) (hs := [.p]) (rest := []) (ks := [2]) (env' := [(2, .string (bs w_1.b))]) (H' := [⟨1, b_2, [.slice A_3 w_1.b.length c_4]⟩]) (ps := []) (by kernel_rfl) trivial ?_
  refine GoO.regionEnd ?_
  exact GoO.ret' (h := c19_12e) (hs := []) (ps := []) (hk := []) (bk := []) Try.func19 () (by kernel_rfl) trivial (by kernel_rfl) (by kernel_rfl)

/-! tontine/pack.From -/
noncomputable def c23_0 : Code := bodyOf Try.f23
noncomputable def c23_1 : Code := cdL c23_0
noncomputable def c23_2 : Code := cdR c23_0
noncomputable def c23_3 : Code := cdL c23_2
noncomputable def c23_4 : Code := cdR c23_2
noncomputable def r23_1 : Array Oper := cdO c23_1
noncomputable def r23_3 : Array Oper := cdO c23_3
theorem c23_0e : c23_0 = .seq c23_1 c23_2 := by kernel_rfl
theorem c23_1e : c23_1 = .region 0 r23_1 false := by kernel_rfl
theorem c23_2e : c23_2 = .seq c23_3 c23_4 := by kernel_rfl
theorem c23_3e : c23_3 = .region 1 r23_3 false := by kernel_rfl
theorem c23_4e : c23_4 = .ret := by kernel_rfl
noncomputable def pack_From.R : Pst T_pack_Reader where
  ε := Nat
  v := fun r x => .pointer (some ⟨x, 0, none⟩)
  H := fun r x => [⟨1, x, [.string (bs r.s), .bool r.bad]⟩]
  B := fun r x => []
noncomputable def pack_From.cx (w0 : World) (S0 : Fam) : Cx T_pack_Reader := ⟨Try.prog, 23, Try.f23, 6, w0, S0, [], 0, pack_From.R⟩
theorem pack_From_ok (n : Nat) (s_1 : (List UInt8)) :
    Meets Try.prog 23 [.string (bs s_1)] 0 [] [] [] (pack_From.f n s_1) (pack_From.R) := by
  refine Meets.of (c := c23_0) (n := 6) Try.func23 (by kernel_rfl) (by kernel_rfl) (by kernel_rfl) fun w0 S0 => ?_
  unfold pack_From.f
  show GoO (pack_From.cx w0 S0) [(0, .string (bs s_1))] [] [] [.code c23_0] _
  refine GoO.seq' c23_0e ?_
  refine GoO.region' (is := [0]) c23_1e (by kernel_rfl) ?_
  refine GoO.exec (is := [0]) (hs := [.p]) (rest := []) (ks := [0]) (env' := [(0, .string (bs s_1))]) (H' := []) (ps := []) (by kernel_rfl) trivial ?_
  refine GoO.regionEnd ?_
  refine GoO.seq' c23_2e ?_
  refine GoO.region' (is := [0, 1, 2, 3]) c23_3e (by kernel_rfl) ?_
  refine GoO.exec (is := [0, 1]) (hs := [.p, .p]) (rest := [2, 3]) (ks := [4]) (env' := [(4, .agg ⟨[.string (bs s_1), .bool false]⟩)]) (H' := []) (ps := []) (by kernel_rfl) trivial ?_
  refine OpTo.go (GoO.new rfl 40 (cs := [.string (bs s_1), .bool false]) (by kernel_rfl) _ (fun _ => rfl) (fun b_2 => ?_))
  refine GoO.exec (is := [3]) (hs := [.p]) (rest := []) (ks := [2]) (env' := [(2, .pointer (some ⟨b_2, 0, none⟩))]) (H' := [⟨40, b_2, [.string (bs s_1), .bool false]⟩]) (ps := []) (by kernel_rfl) trivial ?_
  refine GoO.regionEnd ?_
  refine GoO.retagB (t := 40) (u := 1) (j := 0) (hk := []) (bk := []) rfl rfl rfl rfl rfl rfl (by kernel_rfl) (by kernel_rfl) ?_
  exact GoO.ret' (h := c23_4e) (hs := []) (ps := []) (hk := [0]) (bk := []) Try.func23 b_2 (by kernel_rfl) trivial (by kernel_rfl) (by kernel_rfl)

/-! (*tontine/pack.Reader).fail -/
noncomputable def c43_0 : Code := bodyOf Try.f43
noncomputable def c43_1 : Code := cdL c43_0
noncomputable def c43_2 : Code := cdR c43_0
noncomputable def c43_3 : Code := cdL c43_2
noncomputable def c43_4 : Code := cdL c43_3
noncomputable def c43_5 : Code := cdR c43_3
noncomputable def c43_6 : Code := cdL c43_5
noncomputable def c43_8 : Code := cdR c43_2
noncomputable def c43_9 : Code := cdL c43_8
noncomputable def c43_10 : Code := cdR c43_8
noncomputable def c43_7 : Code := cdR c43_5
noncomputable def r43_1 : Array Oper := cdO c43_1
noncomputable def r43_4 : Array Oper := cdO c43_4
noncomputable def r43_6 : Array Oper := cdO c43_6
noncomputable def r43_9 : Array Oper := cdO c43_9
theorem c43_0e : c43_0 = .seq c43_1 c43_2 := by kernel_rfl
theorem c43_1e : c43_1 = .region 0 r43_1 false := by kernel_rfl
theorem c43_2e : c43_2 = .seq c43_3 c43_8 := by kernel_rfl
theorem c43_3e : c43_3 = .seq c43_4 c43_5 := by kernel_rfl
theorem c43_4e : c43_4 = .region 1 r43_4 false := by kernel_rfl
theorem c43_5e : c43_5 = .cond (cdC c43_5) c43_6 c43_7 := by kernel_rfl
theorem c43_6e : c43_6 = .region 2 r43_6 false := by kernel_rfl
theorem c43_8e : c43_8 = .seq c43_9 c43_10 := by kernel_rfl
theorem c43_9e : c43_9 = .region 3 r43_9 false := by kernel_rfl
theorem c43_10e : c43_10 = .ret := by kernel_rfl
theorem c43_7e : c43_7 = .skip := by kernel_rfl
noncomputable def pack_Reader_fail.R (b_2 : Nat) : Pst (Int × T_pack_Reader) where
  ε := Unit
  v := fun r x => .int .u64 r.1
  H := fun r x => [⟨1, b_2, [.string (bs r.2.s), .bool r.2.bad]⟩]
  B := fun r x => []
noncomputable def pack_Reader_fail.cx (b_2 : Nat) (w0 : World) (S0 : Fam) : Cx (Int × T_pack_Reader) := ⟨Try.prog, 43, Try.f43, 11, w0, S0, [1], 1, pack_Reader_fail.R b_2⟩
theorem pack_Reader_fail_ok (n : Nat) (r_1 : T_pack_Reader) (b_2 : Nat) :
    Meets Try.prog 43 [.pointer (some ⟨b_2, 0, none⟩)] 1 [1] [⟨1, b_2, [.string (bs r_1.s), .bool r_1.bad]⟩] [] (pack_Reader_fail.f n r_1) (pack_Reader_fail.R b_2) := by
  refine Meets.of (c := c43_0) (n := 11) Try.func43 (by kernel_rfl) (by kernel_rfl) (by kernel_rfl) fun w0 S0 => ?_
  unfold pack_Reader_fail.f
  show GoO (pack_Reader_fail.cx b_2 w0 S0) [(0, .pointer (some ⟨b_2, 0, none⟩))] [⟨1, b_2, [.string (bs r_1.s), .bool r_1.bad]⟩] [] [.code c43_0] _
  refine GoO.seq' c43_0e ?_
  refine GoO.region' (is := [0]) c43_1e (by kernel_rfl) ?_
  refine GoO.exec (is := [0]) (hs := [.p]) (rest := []) (ks := [0]) (env' := [(0, .pointer (some ⟨b_2, 0, none⟩))]) (H' := [⟨1, b_2, [.string (bs r_1.s), .bool r_1.bad]⟩]) (ps := []) (by kernel_rfl) trivial ?_
  refine GoO.regionEnd ?_
  refine GoO.seq' c43_2e ?_
  refine GoO.seq' c43_3e ?_
  refine GoO.region' (is := [0, 1]) c43_4e (by kernel_rfl) ?_
  refine GoO.exec (is := [0, 1]) (hs := [.p, .p]) (rest := []) (ks := [0, 4]) (env' := [(0, .pointer (some ⟨b_2, 0, none⟩)), (4, .bool true)]) (H' := [⟨1, b_2, [.string (bs r_1.s), .bool r_1.bad]⟩]) (ps := []) (by kernel_rfl) trivial ?_
  refine GoO.regionEnd ?_
  refine GoO.condT c43_5e (by kernel_rfl) ?_
  refine GoO.region' (is := [0, 1, 2, 3, 4, 5, 6, 7]) c43_6e (by kernel_rfl) ?_
  refine GoO.exec (is := [0, 1, 2, 3, 4, 5, 6, 7]) (hs := [.p, .p, .p, .p, .b 0, .p, .p, .b 0]) (rest := []) (ks := []) (env' := []) (H' := [⟨1, b_2, [.string (bs []), .bool true]⟩]) (ps := [b_2 = b_2, b_2 = b_2]) (by kernel_rfl) (And.intro rfl (And.intro rfl trivial)) ?_
  refine GoO.regionEnd ?_
  refine GoO.seq' c43_8e ?_
  refine GoO.region' (is := [0]) c43_9e (by kernel_rfl) ?_
  refine GoO.exec (is := [0]) (hs := [.p]) (rest := []) (ks := [2]) (env' := [(2, .int .u64 0)]) (H' := [⟨1, b_2, [.string (bs []), .bool true]⟩]) (ps := []) (by kernel_rfl) trivial ?_
  refine GoO.regionEnd ?_
  exact GoO.ret' (h := c43_10e) (hs := []) (ps := []) (hk := [0]) (bk := []) Try.func43 () (by kernel_rfl) trivial (by kernel_rfl) (by kernel_rfl)

/-! (*tontine/pack.Reader).Num -/
noncomputable def c24_0 : Code := bodyOf Try.f24
noncomputable def c24_1 : Code := cdL c24_0
noncomputable def c24_2 : Code := cdR c24_0
noncomputable def c24_3 : Code := cdL c24_2
noncomputable def c24_4 : Code := cdL c24_3
noncomputable def c24_5 : Code := cdR c24_3
noncomputable def c24_6 : Code := cdL c24_5
noncomputable def c24_7 : Code := cdL c24_6
noncomputable def c24_8 : Code := cdR c24_6
noncomputable def c24_9 : Code := cdR c24_5
noncomputable def c24_10 : Code := cdR c24_2
noncomputable def c24_11 : Code := cdL c24_10
noncomputable def c24_12 : Code := cdR c24_10
noncomputable def c24_13 : Code := cdL c24_12
noncomputable def c24_14 : Code := cdL c24_13
noncomputable def c24_15 : Code := cdR c24_13
noncomputable def c24_16 : Code := cdL c24_15
noncomputable def c24_17 : Code := cdL c24_16
noncomputable def c24_18 : Code := cdR c24_16
noncomputable def c24_19 : Code := cdR c24_15
noncomputable def c24_20 : Code := cdR c24_12
noncomputable def c24_21 : Code := cdL c24_20
noncomputable def c24_22 : Code := cdR c24_20
noncomputable def c24_23 : Code := cdL c24_22
noncomputable def c24_24 : Code := cdL c24_23
noncomputable def c24_25 : Code := cdR c24_23
noncomputable def c24_26 : Code := cdL c24_25
noncomputable def c24_27 : Code := cdL c24_26
noncomputable def c24_28 : Code := cdL c24_27
noncomputable def c24_29 : Code := cdL c24_28
noncomputable def c24_30 : Code := cdR c24_28
noncomputable def c24_31 : Code := cdL c24_30
noncomputable def c24_32 : Code := cdR c24_30
noncomputable def c24_33 : Code := cdR c24_27
noncomputable def c24_34 : Code := cdL c24_33
noncomputable def c24_35 : Code := cdL c24_34
noncomputable def c24_36 : Code := cdR c24_33
noncomputable def c24_37 : Code := cdR c24_22
noncomputable def c24_38 : Code := cdL c24_37
noncomputable def c24_39 : Code := cdR c24_37
noncomputable def c24_40 : Code := cdL c24_39
noncomputable def c24_41 : Code := cdR c24_39
noncomputable def r24_1 : Array Oper := cdO c24_1
noncomputable def r24_4 : Array Oper := cdO c24_4
noncomputable def r24_7 : Array Oper := cdO c24_7
noncomputable def r24_11 : Array Oper := cdO c24_11
noncomputable def r24_14 : Array Oper := cdO c24_14
noncomputable def r24_17 : Array Oper := cdO c24_17
noncomputable def r24_21 : Array Oper := cdO c24_21
noncomputable def r24_24 : Array Oper := cdO c24_24
noncomputable def r24_29 : Array Oper := cdO c24_29
noncomputable def r24_35 : Array Oper := cdO c24_35
noncomputable def r24_36 : Array Oper := cdO c24_36
noncomputable def r24_38 : Array Oper := cdO c24_38
noncomputable def r24_40 : Array Oper := cdO c24_40
theorem c24_0e : c24_0 = .seq c24_1 c24_2 := by kernel_rfl
theorem c24_1e : c24_1 = .region 0 r24_1 false := by kernel_rfl
theorem c24_2e : c24_2 = .seq c24_3 c24_10 := by kernel_rfl
theorem c24_3e : c24_3 = .seq c24_4 c24_5 := by kernel_rfl
theorem c24_4e : c24_4 = .region 1 r24_4 false := by kernel_rfl
theorem c24_5e : c24_5 = .cond (cdC c24_5) c24_6 c24_9 := by kernel_rfl
theorem c24_6e : c24_6 = .seq c24_7 c24_8 := by kernel_rfl
theorem c24_7e : c24_7 = .region 2 r24_7 false := by kernel_rfl
theorem c24_8e : c24_8 = .ret := by kernel_rfl
theorem c24_9e : c24_9 = .skip := by kernel_rfl
theorem c24_10e : c24_10 = .seq c24_11 c24_12 := by kernel_rfl
theorem c24_11e : c24_11 = .region 3 r24_11 false := by kernel_rfl
theorem c24_12e : c24_12 = .seq c24_13 c24_20 := by kernel_rfl
theorem c24_13e : c24_13 = .seq c24_14 c24_15 := by kernel_rfl
theorem c24_14e : c24_14 = .region 4 r24_14 false := by kernel_rfl
theorem c24_15e : c24_15 = .cond (cdC c24_15) c24_16 c24_19 := by kernel_rfl
theorem c24_16e : c24_16 = .seq c24_17 c24_18 := by kernel_rfl
theorem c24_17e : c24_17 = .region 5 r24_17 false := by kernel_rfl
theorem c24_18e : c24_18 = .ret := by kernel_rfl
theorem c24_19e : c24_19 = .skip := by kernel_rfl
theorem c24_20e : c24_20 = .seq c24_21 c24_22 := by kernel_rfl
theorem c24_21e : c24_21 = .region 6 r24_21 false := by kernel_rfl
theorem c24_22e : c24_22 = .seq c24_23 c24_37 := by kernel_rfl
theorem c24_23e : c24_23 = .seq c24_24 c24_25 := by kernel_rfl
theorem c24_24e : c24_24 = .region 7 r24_24 false := by kernel_rfl
theorem c24_25e : c24_25 = .block 0 c24_26 := by kernel_rfl
theorem c24_26e : c24_26 = .loop c24_27 := by kernel_rfl
theorem c24_27e : c24_27 = .seq c24_28 c24_33 := by kernel_rfl
theorem c24_28e : c24_28 = .seq c24_29 c24_30 := by kernel_rfl
theorem c24_29e : c24_29 = .region 8 r24_29 false := by kernel_rfl
theorem c24_30e : c24_30 = .cond (cdC c24_30) c24_31 c24_32 := by kernel_rfl
theorem c24_31e : c24_31 = .skip := by kernel_rfl
theorem c24_32e : c24_32 = .exit 0 := by kernel_rfl
theorem c24_33e : c24_33 = .seq c24_34 c24_36 := by kernel_rfl
theorem c24_34e : c24_34 = .block 1 c24_35 := by kernel_rfl
theorem c24_35e : c24_35 = .region 10 r24_35 false := by kernel_rfl
theorem c24_36e : c24_36 = .region 9 r24_36 false := by kernel_rfl
theorem c24_37e : c24_37 = .seq c24_38 c24_39 := by kernel_rfl
theorem c24_38e : c24_38 = .region 11 r24_38 false := by kernel_rfl
theorem c24_39e : c24_39 = .seq c24_40 c24_41 := by kernel_rfl
theorem c24_40e : c24_40 = .region 12 r24_40 false := by kernel_rfl
theorem c24_41e : c24_41 = .ret := by kernel_rfl
noncomputable def pack_Reader_Num.R (b_2 : Nat) : Pst (Int × T_pack_Reader) where
  ε := Unit
  v := fun r x => .int .u64 r.1
  H := fun r x => [⟨1, b_2, [.string (bs r.2.s), .bool r.2.bad]⟩]
  B := fun r x => []
noncomputable def pack_Reader_Num.cx (b_2 : Nat) (w0 : World) (S0 : Fam) : Cx (Int × T_pack_Reader) := ⟨Try.prog, 24, Try.f24, 75, w0, S0, [1], 1, pack_Reader_Num.R b_2⟩
theorem pack_Reader_Num_l0_ok (n : Nat) (r_1 : T_pack_Reader) (b_2 : Nat) (w0 : World) (S0 : Fam) :
    ∀ (k : Nat) (x_15 : Int) (i_16 : Int), GoO (pack_Reader_Num.cx b_2 w0 S0) [(0, .pointer (some ⟨b_2, 0, none⟩)), (3, .int .i64 (wi64 ((rdB r_1.s 0).toNat : Int))), (4, .int .u64 x_15), (5, .int .i64 i_16)] [⟨1, b_2, [.string (bs r_1.s), .bool r_1.bad]⟩] [] [.code c24_27, .inLoop c24_27, .inBlock 0, .code c24_37] (pack_Reader_Num.l0 n r_1 k x_15 i_16) := by
  intro k
  induction k with
  | zero => intros; rw [pack_Reader_Num.l0.eq_1]; exact GoO.stop
  | succ k ih0 =>
    intro x_15 i_16
    rw [pack_Reader_Num.l0.eq_2]
    refine GoO.seq' c24_27e ?_
    refine GoO.seq' c24_28e ?_
    refine GoO.region' (is := [0, 1, 2]) c24_29e (by kernel_rfl) ?_
    refine GoO.exec (is := [0, 1, 2]) (hs := [.p, .p, .p]) (rest := []) (ks := [0, 3, 4, 5, 51]) (env' := [(0, .pointer (some ⟨b_2, 0, none⟩)), (3, .int .i64 (wi64 ((rdB r_1.s 0).toNat : Int))), (4, .int .u64 x_15), (5, .int .i64 i_16), (51, .bool (decide (i_16 ≤ (wi64 ((rdB r_1.s 0).toNat : Int)))))]) (H' := [⟨1, b_2, [.string (bs r_1.s), .bool r_1.bad]⟩]) (ps := []) (by kernel_rfl) trivial ?_
    refine GoO.regionEnd ?_
    refine GoO.ite' c24_30e (by kernel_rfl) (fun h17 => ?_) (fun h17 => ?_)
    · refine GoO.skip' c24_31e ?_
      refine GoO.seq' c24_33e ?_
      refine GoO.block' c24_34e ?_
      refine GoO.region' (is := [0, 1, 2, 3, 4, 5, 6, 7, 8, 9, 10]) c24_35e (by kernel_rfl) ?_
      refine GoO.guard (fun h18 => ?_)
      refine GoO.exec (is := [0, 1, 2, 3, 4, 5, 6, 7, 8, 9, 10]) (hs := [.p, .p, .p, .p, .p, .b 0, .p, .p, .p, .p, .p]) (rest := []) (ks := [0, 3, 4, 5]) (env' := [(0, .pointer (some ⟨b_2, 0, none⟩)), (3, .int .i64 (wi64 ((rdB r_1.s 0).toNat : Int))), (4, .int .u64 (bOr .u64 (shL .u64 x_15 8) (wu64 ((rdB r_1.s i_16).toNat : Int)))), (5, .int .i64 i_16)]) (H' := [⟨1, b_2, [.string (bs r_1.s), .bool r_1.bad]⟩]) (ps := [(0 : Int) ≤ 8, b_2 = b_2, (0 : Int) ≤ i_16, i_16 < (r_1.s.length : Int)]) (by kernel_rfl) (And.intro (by decide) (And.intro rfl (And.intro h18.1 (And.intro h18.2 trivial)))) ?_
      refine GoO.regionEnd ?_
      refine GoO.inBlock ?_
      refine GoO.region' (is := [0, 1, 2]) c24_36e (by kernel_rfl) ?_
      refine GoO.exec (is := [0, 1, 2]) (hs := [.p, .p, .p]) (rest := []) (ks := [0, 3, 4, 5]) (env' := [(0, .pointer (some ⟨b_2, 0, none⟩)), (3, .int .i64 (wi64 ((rdB r_1.s 0).toNat : Int))), (4, .int .u64 (bOr .u64 (shL .u64 x_15 8) (wu64 ((rdB r_1.s i_16).toNat : Int)))), (5, .int .i64 (wi64 (i_16 + 1)))]) (H' := [⟨1, b_2, [.string (bs r_1.s), .bool r_1.bad]⟩]) (ps := []) (by kernel_rfl) trivial ?_
      refine GoO.regionEnd ?_
      refine GoO.inLoop ?_
      exact GoO.sub (ks := [0, 3, 4, 5]) (hk := [0]) (bk := []) (by kernel_rfl) (by kernel_rfl) (by kernel_rfl) (ih0 (bOr .u64 (shL .u64 x_15 8) (wu64 ((rdB r_1.s i_16).toNat : Int))) (wi64 (i_16 + 1)))
    · refine GoO.exit' c24_32e rfl ?_
      refine GoO.seq' c24_37e ?_
      refine GoO.region' (is := [0, 1, 2, 3, 4, 5, 6, 7, 8, 9, 10]) c24_38e (by kernel_rfl) ?_
      refine GoO.guard (fun h19 => ?_)
      refine GoO.exec (is := [0, 1, 2, 3, 4, 5, 6, 7, 8, 9, 10]) (hs := [.p, .p, .p, .p, .b 0, .p, .p, .p, .p, .p, .b 0]) (rest := []) (ks := [4]) (env' := [(4, .int .u64 x_15)]) (H' := [⟨1, b_2, [.string (bs (r_1.s.drop (wi64 ((wi64 ((rdB r_1.s 0).toNat : Int)) + 1)).toNat)), .bool r_1.bad]⟩]) (ps := [b_2 = b_2, (0 : Int) ≤ (wi64 ((wi64 ((rdB r_1.s 0).toNat : Int)) + 1)), (wi64 ((wi64 ((rdB r_1.s 0).toNat : Int)) + 1)) ≤ (r_1.s.length : Int), b_2 = b_2]) (by kernel_rfl) (And.intro rfl (And.intro h19.1 (And.intro h19.2 (And.intro rfl trivial)))) ?_
      refine GoO.regionEnd ?_
      refine GoO.seq' c24_39e ?_
      refine GoO.region' (is := [0, 1]) c24_40e (by kernel_rfl) ?_
      refine GoO.exec (is := [0, 1]) (hs := [.p, .p]) (rest := []) (ks := [2]) (env' := [(2, .int .u64 x_15)]) (H' := [⟨1, b_2, [.string (bs (r_1.s.drop (wi64 ((wi64 ((rdB r_1.s 0).toNat : Int)) + 1)).toNat)), .bool r_1.bad]⟩]) (ps := []) (by kernel_rfl) trivial ?_
      refine GoO.regionEnd ?_
      exact GoO.ret' (h := c24_41e) (hs := []) (ps := []) (hk := [0]) (bk := []) Try.func24 () (by kernel_rfl) trivial (by kernel_rfl) (by kernel_rfl)
theorem pack_Reader_Num_j0_ok (n : Nat) (r_1 : T_pack_Reader) (b_2 : Nat) (w0 : World) (S0 : Fam) (b_11 : Bool) :
    GoO (pack_Reader_Num.cx b_2 w0 S0) [(0, .pointer (some ⟨b_2, 0, none⟩)), (3, .int .i64 (wi64 ((rdB r_1.s 0).toNat : Int))), (46, .bool b_11)] [⟨1, b_2, [.string (bs r_1.s), .bool r_1.bad]⟩] [] [.code c24_15, .code c24_20] (pack_Reader_Num.j0 n r_1 b_11) := by
  unfold pack_Reader_Num.j0
  refine GoO.ite' c24_15e (by kernel_rfl) (fun h12 => ?_) (fun h12 => ?_)
  · refine GoO.seq' c24_16e ?_
    refine GoO.region' (is := [0, 1, 2]) c24_17e (by kernel_rfl) ?_
    refine GoO.exec (is := [0]) (hs := [.p]) (rest := [1, 2]) (ks := [47]) (env' := [(47, .pointer (some ⟨b_2, 0, none⟩))]) (H' := [⟨1, b_2, [.string (bs r_1.s), .bool r_1.bad]⟩]) (ps := []) (by kernel_rfl) trivial ?_
    refine OpTo.go (GoO.call rfl (by kernel_rfl) (by kernel_rfl) (pack_Reader_fail_ok n r_1 b_2) [[0], [1]] [(1, 1)] [(1, 0)] [] (hks := []) (bks := []) (by kernel_rfl) (by kernel_rfl) (by kernel_rfl) (.inl rfl) rfl rfl (by kernel_rfl) (by kernel_rfl) _ (fun _ _ => rfl) _ _ (fun _ _ => rfl) (fun _ _ => rfl) (fun _ _ => by kernel_rfl) (fun _ _ => by kernel_rfl) (fun r_13 x_14 => ?_))
    refine GoO.shape (env' := [(47, .pointer (some ⟨b_2, 0, none⟩)), (48, .int .u64 r_13.1)]) (H' := [⟨1, b_2, [.string (bs r_13.2.s), .bool r_13.2.bad]⟩]) (B' := []) (ks := [47, 48]) (by kernel_rfl) (by kernel_rfl) (by kernel_rfl) ?_
    refine GoO.exec (is := [2]) (hs := [.p]) (rest := []) (ks := [2]) (env' := [(2, .int .u64 r_13.1)]) (H' := [⟨1, b_2, [.string (bs r_13.2.s), .bool r_13.2.bad]⟩]) (ps := []) (by kernel_rfl) trivial ?_
    refine GoO.regionEnd ?_
    exact GoO.ret' (h := c24_18e) (hs := []) (ps := []) (hk := [0]) (bk := []) Try.func24 () (by kernel_rfl) trivial (by kernel_rfl) (by kernel_rfl)
  · refine GoO.skip' c24_19e ?_
    refine GoO.seq' c24_20e ?_
    refine GoO.region' (is := [0]) c24_21e (by kernel_rfl) ?_
    refine GoO.exec (is := [0]) (hs := [.p]) (rest := []) (ks := [0, 3, 4]) (env' := [(0, .pointer (some ⟨b_2, 0, none⟩)), (3, .int .i64 (wi64 ((rdB r_1.s 0).toNat : Int))), (4, .int .u64 0)]) (H' := [⟨1, b_2, [.string (bs r_1.s), .bool r_1.bad]⟩]) (ps := []) (by kernel_rfl) trivial ?_
    refine GoO.regionEnd ?_
    refine GoO.seq' c24_22e ?_
    refine GoO.seq' c24_23e ?_
    refine GoO.region' (is := [0]) c24_24e (by kernel_rfl) ?_
    refine GoO.exec (is := [0]) (hs := [.p]) (rest := []) (ks := [0, 3, 4, 5]) (env' := [(0, .pointer (some ⟨b_2, 0, none⟩)), (3, .int .i64 (wi64 ((rdB r_1.s 0).toNat : Int))), (4, .int .u64 0), (5, .int .i64 1)]) (H' := [⟨1, b_2, [.string (bs r_1.s), .bool r_1.bad]⟩]) (ps := []) (by kernel_rfl) trivial ?_
    refine GoO.regionEnd ?_
    refine GoO.block' c24_25e ?_
    refine GoO.loop' c24_26e ?_
    exact GoO.sub (ks := [0, 3, 4, 5]) (hk := [0]) (bk := []) (by kernel_rfl) (by kernel_rfl) (by kernel_rfl) (pack_Reader_Num_l0_ok n r_1 b_2 w0 S0 n 0 1)
theorem pack_Reader_Num_ok (n : Nat) (r_1 : T_pack_Reader) (b_2 : Nat) :
    Meets Try.prog 24 [.pointer (some ⟨b_2, 0, none⟩)] 1 [1] [⟨1, b_2, [.string (bs r_1.s), .bool r_1.bad]⟩] [] (pack_Reader_Num.f n r_1) (pack_Reader_Num.R b_2) := by
  refine Meets.of (c := c24_0) (n := 75) Try.func24 (by kernel_rfl) (by kernel_rfl) (by kernel_rfl) fun w0 S0 => ?_
  unfold pack_Reader_Num.f
  show GoO (pack_Reader_Num.cx b_2 w0 S0) [(0, .pointer (some ⟨b_2, 0, none⟩))] [⟨1, b_2, [.string (bs r_1.s), .bool r_1.bad]⟩] [] [.code c24_0] _
  refine GoO.seq' c24_0e ?_
  refine GoO.region' (is := [0]) c24_1e (by kernel_rfl) ?_
  refine GoO.exec (is := [0]) (hs := [.p]) (rest := []) (ks := [0]) (env' := [(0, .pointer (some ⟨b_2, 0, none⟩))]) (H' := [⟨1, b_2, [.string (bs r_1.s), .bool r_1.bad]⟩]) (ps := []) (by kernel_rfl) trivial ?_
  refine GoO.regionEnd ?_
  refine GoO.seq' c24_2e ?_
  refine GoO.seq' c24_3e ?_
  refine GoO.region' (is := [0, 1, 2, 3, 4, 5, 6, 7, 8]) c24_4e (by kernel_rfl) ?_
  refine GoO.exec (is := [0, 1, 2, 3, 4, 5, 6, 7, 8]) (hs := [.p, .p, .p, .p, .p, .p, .b 0, .p, .p]) (rest := []) (ks := [0, 14]) (env' := [(0, .pointer (some ⟨b_2, 0, none⟩)), (14, .bool (r_1.s == ([] : List UInt8)))]) (H' := [⟨1, b_2, [.string (bs r_1.s), .bool r_1.bad]⟩]) (ps := [b_2 = b_2]) (by kernel_rfl) (And.intro rfl trivial) ?_
  refine GoO.regionEnd ?_
  refine GoO.ite' c24_5e (by kernel_rfl) (fun h3 => ?_) (fun h3 => ?_)
  · refine GoO.seq' c24_6e ?_
    refine GoO.region' (is := [0, 1, 2]) c24_7e (by kernel_rfl) ?_
    refine GoO.exec (is := [0]) (hs := [.p]) (rest := [1, 2]) (ks := [15]) (env' := [(15, .pointer (some ⟨b_2, 0, none⟩))]) (H' := [⟨1, b_2, [.string (bs r_1.s), .bool r_1.bad]⟩]) (ps := []) (by kernel_rfl) trivial ?_
    refine OpTo.go (GoO.call rfl (by kernel_rfl) (by kernel_rfl) (pack_Reader_fail_ok n r_1 b_2) [[0], [1]] [(1, 1)] [(1, 0)] [] (hks := []) (bks := []) (by kernel_rfl) (by kernel_rfl) (by kernel_rfl) (.inl rfl) rfl rfl (by kernel_rfl) (by kernel_rfl) _ (fun _ _ => rfl) _ _ (fun _ _ => rfl) (fun _ _ => rfl) (fun _ _ => by kernel_rfl) (fun _ _ => by kernel_rfl) (fun r_4 x_5 => ?_))
    refine GoO.shape (env' := [(15, .pointer (some ⟨b_2, 0, none⟩)), (16, .int .u64 r_4.1)]) (H' := [⟨1, b_2, [.string (bs r_4.2.s), .bool r_4.2.bad]⟩]) (B' := []) (ks := [15, 16]) (by kernel_rfl) (by kernel_rfl) (by kernel_rfl) ?_
    refine GoO.exec (is := [2]) (hs := [.p]) (rest := []) (ks := [2]) (env' := [(2, .int .u64 r_4.1)]) (H' := [⟨1, b_2, [.string (bs r_4.2.s), .bool r_4.2.bad]⟩]) (ps := []) (by kernel_rfl) trivial ?_
    refine GoO.regionEnd ?_
    exact GoO.ret' (h := c24_8e) (hs := []) (ps := []) (hk := [0]) (bk := []) Try.func24 () (by kernel_rfl) trivial (by kernel_rfl) (by kernel_rfl)
  · refine GoO.skip' c24_9e ?_
    refine GoO.seq' c24_10e ?_
    refine GoO.region' (is := [0, 1, 2, 3, 4, 5, 6]) c24_11e (by kernel_rfl) ?_
    refine GoO.guard (fun h6 => ?_)
    refine GoO.exec (is := [0, 1, 2, 3, 4, 5, 6]) (hs := [.p, .p, .p, .b 0, .p, .p, .p]) (rest := []) (ks := [0, 3]) (env' := [(0, .pointer (some ⟨b_2, 0, none⟩)), (3, .int .i64 (wi64 ((rdB r_1.s 0).toNat : Int)))]) (H' := [⟨1, b_2, [.string (bs r_1.s), .bool r_1.bad]⟩]) (ps := [b_2 = b_2, (0 : Int) ≤ 0, 0 < (r_1.s.length : Int)]) (by kernel_rfl) (And.intro rfl (And.intro h6.1 (And.intro h6.2 trivial))) ?_
    refine GoO.regionEnd ?_
    refine GoO.seq' c24_12e ?_
    refine GoO.seq' c24_13e ?_
    refine GoO.region' (is := [0, 1, 2, 3, 4, 5, 6, 7, 8, 9, 10, 11, 12, 13, 14, 15, 16, 17, 18, 19, 20, 21, 22, 23]) c24_14e (by kernel_rfl) ?_
    refine GoO.exec (is := [0, 1, 2]) (hs := [.p, .p, .p]) (rest := [3, 4, 5, 6, 7, 8, 9, 10, 11, 12, 13, 14, 15, 16, 17, 18, 19, 20, 21, 22, 23]) (ks := [0, 3, 25]) (env' := [(0, .pointer (some ⟨b_2, 0, none⟩)), (3, .int .i64 (wi64 ((rdB r_1.s 0).toNat : Int))), (25, .bool (decide ((wi64 ((rdB r_1.s 0).toNat : Int)) > 8)))]) (H' := [⟨1, b_2, [.string (bs r_1.s), .bool r_1.bad]⟩]) (ps := []) (by kernel_rfl) trivial ?_
    refine GoO.bsplit (t := 25) (by kernel_rfl) (fun h7 => ?_) (fun h7 => ?_)
    · refine GoO.exec (is := [3, 4, 5, 6, 7, 8, 9, 10, 11, 12, 13, 14, 15, 16, 17, 18, 19, 20, 21, 22, 23]) (hs := [.p, .p, .p, .p, .p, .p, .p, .p, .p, .p, .p, .p, .p, .p, .p, .p, .p, .p, .p, .p, .p]) (rest := []) (ks := [0, 3, 46]) (env' := [(0, .pointer (some ⟨b_2, 0, none⟩)), (3, .int .i64 (wi64 ((rdB r_1.s 0).toNat : Int))), (46, .bool true)]) (H' := [⟨1, b_2, [.string (bs r_1.s), .bool r_1.bad]⟩]) (ps := []) (by kernel_rfl) trivial ?_
      refine GoO.regionEnd ?_
      exact GoO.sub (ks := [0, 3, 46]) (hk := [0]) (bk := []) (by kernel_rfl) (by kernel_rfl) (by kernel_rfl) (pack_Reader_Num_j0_ok n r_1 b_2 w0 S0 true)
    · refine GoO.exec (is := [3, 4, 5, 6, 7, 8, 9, 10, 11, 12]) (hs := [.p, .p, .p, .p, .b 0, .p, .p, .p, .p, .p]) (rest := [13, 14, 15, 16, 17, 18, 19, 20, 21, 22, 23]) (ks := [0, 3, 35]) (env' := [(0, .pointer (some ⟨b_2, 0, none⟩)), (3, .int .i64 (wi64 ((rdB r_1.s 0).toNat : Int))), (35, .bool (decide ((wi64 ((rdB r_1.s 0).toNat : Int)) > (wi64 ((r_1.s.length : Int) - 1)))))]) (H' := [⟨1, b_2, [.string (bs r_1.s), .bool r_1.bad]⟩]) (ps := [b_2 = b_2]) (by kernel_rfl) (And.intro rfl trivial) ?_
      refine GoO.bsplit (t := 35) (by kernel_rfl) (fun h8 => ?_) (fun h8 => ?_)
      · refine GoO.exec (is := [13, 14, 15, 16, 17, 18, 19, 20, 21, 22, 23]) (hs := [.p, .p, .p, .p, .p, .p, .p, .p, .p, .p, .p]) (rest := []) (ks := [0, 3, 46]) (env' := [(0, .pointer (some ⟨b_2, 0, none⟩)), (3, .int .i64 (wi64 ((rdB r_1.s 0).toNat : Int))), (46, .bool true)]) (H' := [⟨1, b_2, [.string (bs r_1.s), .bool r_1.bad]⟩]) (ps := []) (by kernel_rfl) trivial ?_
        refine GoO.regionEnd ?_
        exact GoO.sub (ks := [0, 3, 46]) (hk := [0]) (bk := []) (by kernel_rfl) (by kernel_rfl) (by kernel_rfl) (pack_Reader_Num_j0_ok n r_1 b_2 w0 S0 true)
      · refine GoO.exec (is := [13, 14, 15]) (hs := [.p, .p, .p]) (rest := [16, 17, 18, 19, 20, 21, 22, 23]) (ks := [0, 3, 35, 38]) (env' := [(0, .pointer (some ⟨b_2, 0, none⟩)), (3, .int .i64 (wi64 ((rdB r_1.s 0).toNat : Int))), (35, .bool false), (38, .bool (decide ((wi64 ((rdB r_1.s 0).toNat : Int)) > 0)))]) (H' := [⟨1, b_2, [.string (bs r_1.s), .bool r_1.bad]⟩]) (ps := []) (by kernel_rfl) trivial ?_
        refine GoO.bsplit (t := 38) (by kernel_rfl) (fun h9 => ?_) (fun h9 => ?_)
        · refine GoO.guard (fun h10 => ?_)
          refine GoO.exec (is := [16, 17, 18, 19, 20, 21, 22, 23]) (hs := [.p, .p, .p, .b 0, .p, .p, .p, .p]) (rest := []) (ks := [0, 3, 46]) (env' := [(0, .pointer (some ⟨b_2, 0, none⟩)), (3, .int .i64 (wi64 ((rdB r_1.s 0).toNat : Int))), (46, .bool (((rdB r_1.s 1).toNat : Int) == 0))]) (H' := [⟨1, b_2, [.string (bs r_1.s), .bool r_1.bad]⟩]) (ps := [b_2 = b_2, (0 : Int) ≤ 1, 1 < (r_1.s.length : Int)]) (by kernel_rfl) (And.intro rfl (And.intro h10.1 (And.intro h10.2 trivial))) ?_
          refine GoO.regionEnd ?_
          exact GoO.sub (ks := [0, 3, 46]) (hk := [0]) (bk := []) (by kernel_rfl) (by kernel_rfl) (by kernel_rfl) (pack_Reader_Num_j0_ok n r_1 b_2 w0 S0 (((rdB r_1.s 1).toNat : Int) == 0))
        · refine GoO.exec (is := [16, 17, 18, 19, 20, 21, 22, 23]) (hs := [.p, .p, .p, .p, .p, .p, .p, .p]) (rest := []) (ks := [0, 3, 46]) (env' := [(0, .pointer (some ⟨b_2, 0, none⟩)), (3, .int .i64 (wi64 ((rdB r_1.s 0).toNat : Int))), (46, .bool false)]) (H' := [⟨1, b_2, [.string (bs r_1.s), .bool r_1.bad]⟩]) (ps := []) (by kernel_rfl) trivial ?_
          refine GoO.regionEnd ?_
          exact GoO.sub (ks := [0, 3, 46]) (hk := [0]) (bk := []) (by kernel_rfl) (by kernel_rfl) (by kernel_rfl) (pack_Reader_Num_j0_ok n r_1 b_2 w0 S0 false)

/-! (*tontine/pack.Reader).Up -/
noncomputable def c27_0 : Code := bodyOf Try.f27
noncomputable def c27_1 : Code := cdL c27_0
noncomputable def c27_2 : Code := cdR c27_0
noncomputable def c27_3 : Code := cdL c27_2
noncomputable def c27_4 : Code := cdR c27_2
noncomputable def c27_5 : Code := cdL c27_4
noncomputable def c27_6 : Code := cdL c27_5
noncomputable def c27_7 : Code := cdR c27_5
noncomputable def c27_8 : Code := cdL c27_7
noncomputable def c27_9 : Code := cdL c27_8
noncomputable def c27_10 : Code := cdR c27_8
noncomputable def c27_11 : Code := cdR c27_7
noncomputable def c27_12 : Code := cdR c27_4
noncomputable def c27_13 : Code := cdL c27_12
noncomputable def c27_14 : Code := cdR c27_12
noncomputable def r27_1 : Array Oper := cdO c27_1
noncomputable def r27_3 : Array Oper := cdO c27_3
noncomputable def r27_6 : Array Oper := cdO c27_6
noncomputable def r27_9 : Array Oper := cdO c27_9
noncomputable def r27_13 : Array Oper := cdO c27_13
theorem c27_0e : c27_0 = .seq c27_1 c27_2 := by kernel_rfl
theorem c27_1e : c27_1 = .region 0 r27_1 false := by kernel_rfl
theorem c27_2e : c27_2 = .seq c27_3 c27_4 := by kernel_rfl
theorem c27_3e : c27_3 = .region 1 r27_3 false := by kernel_rfl
theorem c27_4e : c27_4 = .seq c27_5 c27_12 := by kernel_rfl
theorem c27_5e : c27_5 = .seq c27_6 c27_7 := by kernel_rfl
theorem c27_6e : c27_6 = .region 2 r27_6 false := by kernel_rfl
theorem c27_7e : c27_7 = .cond (cdC c27_7) c27_8 c27_11 := by kernel_rfl
theorem c27_8e : c27_8 = .seq c27_9 c27_10 := by kernel_rfl
theorem c27_9e : c27_9 = .region 3 r27_9 false := by kernel_rfl
theorem c27_10e : c27_10 = .ret := by kernel_rfl
theorem c27_11e : c27_11 = .skip := by kernel_rfl
theorem c27_12e : c27_12 = .seq c27_13 c27_14 := by kernel_rfl
theorem c27_13e : c27_13 = .region 4 r27_13 false := by kernel_rfl
theorem c27_14e : c27_14 = .ret := by kernel_rfl
noncomputable def pack_Reader_Up.R (b_2 : Nat) : Pst (Int × T_pack_Reader) where
  ε := Unit
  v := fun r x => .int .i64 r.1
  H := fun r x => [⟨1, b_2, [.string (bs r.2.s), .bool r.2.bad]⟩]
  B := fun r x => []
noncomputable def pack_Reader_Up.cx (b_2 : Nat) (w0 : World) (S0 : Fam) : Cx (Int × T_pack_Reader) := ⟨Try.prog, 27, Try.f27, 21, w0, S0, [1], 1, pack_Reader_Up.R b_2⟩
theorem pack_Reader_Up_j0_ok (n : Nat) (r_4 : Int × T_pack_Reader) (b_2 : Nat) (w0 : World) (S0 : Fam) (b_6 : Bool) :
    GoO (pack_Reader_Up.cx b_2 w0 S0) [(0, .pointer (some ⟨b_2, 0, none⟩)), (5, .int .u64 r_4.1), (15, .bool b_6)] [⟨1, b_2, [.string (bs r_4.2.s), .bool r_4.2.bad]⟩] [] [.code c27_7, .code c27_12] (pack_Reader_Up.j0 n r_4 b_6) := by
  unfold pack_Reader_Up.j0
  refine GoO.ite' c27_7e (by kernel_rfl) (fun h7 => ?_) (fun h7 => ?_)
  · refine GoO.seq' c27_8e ?_
    refine GoO.region' (is := [0, 1, 2, 3]) c27_9e (by kernel_rfl) ?_
    refine GoO.exec (is := [0]) (hs := [.p]) (rest := [1, 2, 3]) (ks := [16]) (env' := [(16, .pointer (some ⟨b_2, 0, none⟩))]) (H' := [⟨1, b_2, [.string (bs r_4.2.s), .bool r_4.2.bad]⟩]) (ps := []) (by kernel_rfl) trivial ?_
    refine OpTo.go (GoO.call rfl (by kernel_rfl) (by kernel_rfl) (pack_Reader_fail_ok n r_4.2 b_2) [[0], [1]] [(1, 1)] [(1, 0)] [] (hks := []) (bks := []) (by kernel_rfl) (by kernel_rfl) (by kernel_rfl) (.inl rfl) rfl rfl (by kernel_rfl) (by kernel_rfl) _ (fun _ _ => rfl) _ _ (fun _ _ => rfl) (fun _ _ => rfl) (fun _ _ => by kernel_rfl) (fun _ _ => by kernel_rfl) (fun r_8 x_9 => ?_))
    refine GoO.shape (env' := [(16, .pointer (some ⟨b_2, 0, none⟩)), (17, .int .u64 r_8.1)]) (H' := [⟨1, b_2, [.string (bs r_8.2.s), .bool r_8.2.bad]⟩]) (B' := []) (ks := [16, 17]) (by kernel_rfl) (by kernel_rfl) (by kernel_rfl) ?_
    refine GoO.exec (is := [2, 3]) (hs := [.p, .p]) (rest := []) (ks := [4]) (env' := [(4, .int .i64 (wi64 r_8.1))]) (H' := [⟨1, b_2, [.string (bs r_8.2.s), .bool r_8.2.bad]⟩]) (ps := []) (by kernel_rfl) trivial ?_
    refine GoO.regionEnd ?_
    exact GoO.ret' (h := c27_10e) (hs := []) (ps := []) (hk := [0]) (bk := []) Try.func27 () (by kernel_rfl) trivial (by kernel_rfl) (by kernel_rfl)
  · refine GoO.skip' c27_11e ?_
    refine GoO.seq' c27_12e ?_
    refine GoO.region' (is := [0, 1, 2]) c27_13e (by kernel_rfl) ?_
    refine GoO.exec (is := [0, 1, 2]) (hs := [.p, .p, .p]) (rest := []) (ks := [4]) (env' := [(4, .int .i64 (wi64 r_4.1))]) (H' := [⟨1, b_2, [.string (bs r_4.2.s), .bool r_4.2.bad]⟩]) (ps := []) (by kernel_rfl) trivial ?_
    refine GoO.regionEnd ?_
    exact GoO.ret' (h := c27_14e) (hs := []) (ps := []) (hk := [0]) (bk := []) Try.func27 () (by kernel_rfl) trivial (by kernel_rfl) (by kernel_rfl)
theorem pack_Reader_Up_ok (n : Nat) (r_1 : T_pack_Reader) (limit_3 : Int) (b_2 : Nat) :
    Meets Try.prog 27 [.pointer (some ⟨b_2, 0, none⟩), .int .i64 limit_3] 1 [1] [⟨1, b_2, [.string (bs r_1.s), .bool r_1.bad]⟩] [] (pack_Reader_Up.f n r_1 limit_3) (pack_Reader_Up.R b_2) := by
  refine Meets.of (c := c27_0) (n := 21) Try.func27 (by kernel_rfl) (by kernel_rfl) (by kernel_rfl) fun w0 S0 => ?_
  unfold pack_Reader_Up.f
  show GoO (pack_Reader_Up.cx b_2 w0 S0) [(0, .pointer (some ⟨b_2, 0, none⟩)), (1, .int .i64 limit_3)] [⟨1, b_2, [.string (bs r_1.s), .bool r_1.bad]⟩] [] [.code c27_0] _
  refine GoO.seq' c27_0e ?_
  refine GoO.region' (is := [0]) c27_1e (by kernel_rfl) ?_
  refine GoO.exec (is := [0]) (hs := [.p]) (rest := []) (ks := [0, 1]) (env' := [(0, .pointer (some ⟨b_2, 0, none⟩)), (1, .int .i64 limit_3)]) (H' := [⟨1, b_2, [.string (bs r_1.s), .bool r_1.bad]⟩]) (ps := []) (by kernel_rfl) trivial ?_
  refine GoO.regionEnd ?_
  refine GoO.seq' c27_2e ?_
  refine GoO.region' (is := [0, 1, 2]) c27_3e (by kernel_rfl) ?_
  refine GoO.exec (is := [0]) (hs := [.p]) (rest := [1, 2]) (ks := [0, 1, 6]) (env' := [(0, .pointer (some ⟨b_2, 0, none⟩)), (1, .int .i64 limit_3), (6, .pointer (some ⟨b_2, 0, none⟩))]) (H' := [⟨1, b_2, [.string (bs r_1.s), .bool r_1.bad]⟩]) (ps := []) (by kernel_rfl) trivial ?_
  refine OpTo.go (GoO.call rfl (by kernel_rfl) (by kernel_rfl) (pack_Reader_Num_ok n r_1 b_2) [[0], [1]] [(1, 1)] [(1, 0)] [] (hks := []) (bks := []) (by kernel_rfl) (by kernel_rfl) (by kernel_rfl) (.inl rfl) rfl rfl (by kernel_rfl) (by kernel_rfl) _ (fun _ _ => rfl) _ _ (fun _ _ => rfl) (fun _ _ => rfl) (fun _ _ => by kernel_rfl) (fun _ _ => by kernel_rfl) (fun r_4 x_10 => ?_))
  refine GoO.shape (env' := [(0, .pointer (some ⟨b_2, 0, none⟩)), (1, .int .i64 limit_3), (6, .pointer (some ⟨b_2, 0, none⟩)), (7, .int .u64 r_4.1)]) (H' := [⟨1, b_2, [.string (bs r_4.2.s), .bool r_4.2.bad]⟩]) (B' := []) (ks := [0, 1, 6, 7]) (by kernel_rfl) (by kernel_rfl) (by kernel_rfl) ?_
  refine GoO.exec (is := [2]) (hs := [.p]) (rest := []) (ks := [0, 1, 5]) (env' := [(0, .pointer (some ⟨b_2, 0, none⟩)), (1, .int .i64 limit_3), (5, .int .u64 r_4.1)]) (H' := [⟨1, b_2, [.string (bs r_4.2.s), .bool r_4.2.bad]⟩]) (ps := []) (by kernel_rfl) trivial ?_
  refine GoO.regionEnd ?_
  refine GoO.seq' c27_4e ?_
  refine GoO.seq' c27_5e ?_
  refine GoO.region' (is := [0, 1, 2, 3, 4, 5, 6, 7]) c27_6e (by kernel_rfl) ?_
  refine GoO.exec (is := [0, 1, 2]) (hs := [.p, .p, .p]) (rest := [3, 4, 5, 6, 7]) (ks := [0, 1, 5, 10]) (env' := [(0, .pointer (some ⟨b_2, 0, none⟩)), (1, .int .i64 limit_3), (5, .int .u64 r_4.1), (10, .bool (decide (limit_3 < 0)))]) (H' := [⟨1, b_2, [.string (bs r_4.2.s), .bool r_4.2.bad]⟩]) (ps := []) (by kernel_rfl) trivial ?_
  refine GoO.bsplit (t := 10) (by kernel_rfl) (fun h5 => ?_) (fun h5 => ?_)
  · refine GoO.exec (is := [3, 4, 5, 6, 7]) (hs := [.p, .p, .p, .p, .p]) (rest := []) (ks := [0, 5, 15]) (env' := [(0, .pointer (some ⟨b_2, 0, none⟩)), (5, .int .u64 r_4.1), (15, .bool true)]) (H' := [⟨1, b_2, [.string (bs r_4.2.s), .bool r_4.2.bad]⟩]) (ps := []) (by kernel_rfl) trivial ?_
    refine GoO.regionEnd ?_
    exact GoO.sub (ks := [0, 5, 15]) (hk := [0]) (bk := []) (by kernel_rfl) (by kernel_rfl) (by kernel_rfl) (pack_Reader_Up_j0_ok n r_4 b_2 w0 S0 true)
  · refine GoO.exec (is := [3, 4, 5, 6, 7]) (hs := [.p, .p, .p, .p, .p]) (rest := []) (ks := [0, 5, 15]) (env' := [(0, .pointer (some ⟨b_2, 0, none⟩)), (5, .int .u64 r_4.1), (15, .bool (decide (r_4.1 > (wu64 limit_3))))]) (H' := [⟨1, b_2, [.string (bs r_4.2.s), .bool r_4.2.bad]⟩]) (ps := []) (by kernel_rfl) trivial ?_
    refine GoO.regionEnd ?_
    exact GoO.sub (ks := [0, 5, 15]) (hk := [0]) (bk := []) (by kernel_rfl) (by kernel_rfl) (by kernel_rfl) (pack_Reader_Up_j0_ok n r_4 b_2 w0 S0 (decide (r_4.1 > (wu64 limit_3))))

/-! (*tontine/pack.Reader).Text -/
noncomputable def c28_0 : Code := bodyOf Try.f28
noncomputable def c28_1 : Code := cdL c28_0
noncomputable def c28_2 : Code := cdR c28_0
noncomputable def c28_3 : Code := cdL c28_2
noncomputable def c28_4 : Code := cdR c28_2
noncomputable def c28_5 : Code := cdL c28_4
noncomputable def c28_6 : Code := cdL c28_5
noncomputable def c28_7 : Code := cdR c28_5
noncomputable def c28_8 : Code := cdL c28_7
noncomputable def c28_9 : Code := cdL c28_8
noncomputable def c28_10 : Code := cdR c28_8
noncomputable def c28_11 : Code := cdL c28_10
noncomputable def c28_12 : Code := cdR c28_10
noncomputable def c28_13 : Code := cdR c28_7
noncomputable def c28_14 : Code := cdR c28_4
noncomputable def c28_15 : Code := cdL c28_14
noncomputable def c28_16 : Code := cdR c28_14
noncomputable def c28_17 : Code := cdL c28_16
noncomputable def c28_18 : Code := cdR c28_16
noncomputable def c28_19 : Code := cdL c28_18
noncomputable def c28_20 : Code := cdR c28_18
noncomputable def r28_1 : Array Oper := cdO c28_1
noncomputable def r28_3 : Array Oper := cdO c28_3
noncomputable def r28_6 : Array Oper := cdO c28_6
noncomputable def r28_9 : Array Oper := cdO c28_9
noncomputable def r28_11 : Array Oper := cdO c28_11
noncomputable def r28_15 : Array Oper := cdO c28_15
noncomputable def r28_17 : Array Oper := cdO c28_17
noncomputable def r28_19 : Array Oper := cdO c28_19
theorem c28_0e : c28_0 = .seq c28_1 c28_2 := by kernel_rfl
theorem c28_1e : c28_1 = .region 0 r28_1 false := by kernel_rfl
theorem c28_2e : c28_2 = .seq c28_3 c28_4 := by kernel_rfl
theorem c28_3e : c28_3 = .region 1 r28_3 false := by kernel_rfl
theorem c28_4e : c28_4 = .seq c28_5 c28_14 := by kernel_rfl
theorem c28_5e : c28_5 = .seq c28_6 c28_7 := by kernel_rfl
theorem c28_6e : c28_6 = .region 2 r28_6 false := by kernel_rfl
theorem c28_7e : c28_7 = .cond (cdC c28_7) c28_8 c28_13 := by kernel_rfl
theorem c28_8e : c28_8 = .seq c28_9 c28_10 := by kernel_rfl
theorem c28_9e : c28_9 = .region 3 r28_9 false := by kernel_rfl
theorem c28_10e : c28_10 = .seq c28_11 c28_12 := by kernel_rfl
theorem c28_11e : c28_11 = .region 4 r28_11 false := by kernel_rfl
theorem c28_12e : c28_12 = .ret := by kernel_rfl
theorem c28_13e : c28_13 = .skip := by kernel_rfl
theorem c28_14e : c28_14 = .seq c28_15 c28_16 := by kernel_rfl
theorem c28_15e : c28_15 = .region 5 r28_15 false := by kernel_rfl
theorem c28_16e : c28_16 = .seq c28_17 c28_18 := by kernel_rfl
theorem c28_17e : c28_17 = .region 6 r28_17 false := by kernel_rfl
theorem c28_18e : c28_18 = .seq c28_19 c28_20 := by kernel_rfl
theorem c28_19e : c28_19 = .region 7 r28_19 false := by kernel_rfl
theorem c28_20e : c28_20 = .ret := by kernel_rfl
noncomputable def pack_Reader_Text.R (b_2 : Nat) : Pst ((List UInt8) × T_pack_Reader) where
  ε := Unit
  v := fun r x => .string (bs r.1)
  H := fun r x => [⟨1, b_2, [.string (bs r.2.s), .bool r.2.bad]⟩]
  B := fun r x => []
noncomputable def pack_Reader_Text.cx (b_2 : Nat) (w0 : World) (S0 : Fam) : Cx ((List UInt8) × T_pack_Reader) := ⟨Try.prog, 28, Try.f28, 39, w0, S0, [1], 1, pack_Reader_Text.R b_2⟩
theorem pack_Reader_Text_ok (n : Nat) (r_1 : T_pack_Reader) (limit_3 : Int) (b_2 : Nat) :
    Meets Try.prog 28 [.pointer (some ⟨b_2, 0, none⟩), .int .i64 limit_3] 1 [1] [⟨1, b_2, [.string (bs r_1.s), .bool r_1.bad]⟩] [] (pack_Reader_Text.f n r_1 limit_3) (pack_Reader_Text.R b_2) := by
  refine Meets.of (c := c28_0) (n := 39) Try.func28 (by kernel_rfl) (by kernel_rfl) (by kernel_rfl) fun w0 S0 => ?_
  unfold pack_Reader_Text.f
  show GoO (pack_Reader_Text.cx b_2 w0 S0) [(0, .pointer (some ⟨b_2, 0, none⟩)), (1, .int .i64 limit_3)] [⟨1, b_2, [.string (bs r_1.s), .bool r_1.bad]⟩] [] [.code c28_0] _
  refine GoO.seq' c28_0e ?_
  refine GoO.region' (is := [0]) c28_1e (by kernel_rfl) ?_
  refine GoO.exec (is := [0]) (hs := [.p]) (rest := []) (ks := [0, 1]) (env' := [(0, .pointer (some ⟨b_2, 0, none⟩)), (1, .int .i64 limit_3)]) (H' := [⟨1, b_2, [.string (bs r_1.s), .bool r_1.bad]⟩]) (ps := []) (by kernel_rfl) trivial ?_
  refine GoO.regionEnd ?_
  refine GoO.seq' c28_2e ?_
  refine GoO.region' (is := [0, 1, 2, 3]) c28_3e (by kernel_rfl) ?_
  refine GoO.exec (is := [0, 1]) (hs := [.p, .p]) (rest := [2, 3]) (ks := [0, 7, 8]) (env' := [(0, .pointer (some ⟨b_2, 0, none⟩)), (7, .pointer (some ⟨b_2, 0, none⟩)), (8, .int .i64 limit_3)]) (H' := [⟨1, b_2, [.string (bs r_1.s), .bool r_1.bad]⟩]) (ps := []) (by kernel_rfl) trivial ?_
  refine OpTo.go (GoO.call rfl (by kernel_rfl) (by kernel_rfl) (pack_Reader_Up_ok n r_1 limit_3 b_2) [[0], [1]] [(1, 1)] [(1, 0)] [] (hks := []) (bks := []) (by kernel_rfl) (by kernel_rfl) (by kernel_rfl) (.inl rfl) rfl rfl (by kernel_rfl) (by kernel_rfl) _ (fun _ _ => rfl) _ _ (fun _ _ => rfl) (fun _ _ => rfl) (fun _ _ => by kernel_rfl) (fun _ _ => by kernel_rfl) (fun r_4 x_10 => ?_))
  refine GoO.shape (env' := [(0, .pointer (some ⟨b_2, 0, none⟩)), (7, .pointer (some ⟨b_2, 0, none⟩)), (8, .int .i64 limit_3), (9, .int .i64 r_4.1)]) (H' := [⟨1, b_2, [.string (bs r_4.2.s), .bool r_4.2.bad]⟩]) (B' := []) (ks := [0, 7, 8, 9]) (by kernel_rfl) (by kernel_rfl) (by kernel_rfl) ?_
  refine GoO.exec (is := [3]) (hs := [.p]) (rest := []) (ks := [0, 5]) (env' := [(0, .pointer (some ⟨b_2, 0, none⟩)), (5, .int .i64 r_4.1)]) (H' := [⟨1, b_2, [.string (bs r_4.2.s), .bool r_4.2.bad]⟩]) (ps := []) (by kernel_rfl) trivial ?_
  refine GoO.regionEnd ?_
  refine GoO.seq' c28_4e ?_
  refine GoO.seq' c28_5e ?_
  refine GoO.region' (is := [0, 1, 2, 3, 4, 5, 6, 7, 8, 9, 10]) c28_6e (by kernel_rfl) ?_
  refine GoO.exec (is := [0, 1, 2, 3, 4, 5, 6, 7, 8, 9, 10]) (hs := [.p, .p, .p, .p, .p, .p, .p, .b 0, .p, .p, .p]) (rest := []) (ks := [0, 5, 20]) (env' := [(0, .pointer (some ⟨b_2, 0, none⟩)), (5, .int .i64 r_4.1), (20, .bool (decide (r_4.1 > (r_4.2.s.length : Int))))]) (H' := [⟨1, b_2, [.string (bs r_4.2.s), .bool r_4.2.bad]⟩]) (ps := [b_2 = b_2]) (by kernel_rfl) (And.intro rfl trivial) ?_
  refine GoO.regionEnd ?_
  refine GoO.ite' c28_7e (by kernel_rfl) (fun h5 => ?_) (fun h5 => ?_)
  · refine GoO.seq' c28_8e ?_
    refine GoO.region' (is := [0, 1]) c28_9e (by kernel_rfl) ?_
    refine GoO.exec (is := [0]) (hs := [.p]) (rest := [1]) (ks := [21]) (env' := [(21, .pointer (some ⟨b_2, 0, none⟩))]) (H' := [⟨1, b_2, [.string (bs r_4.2.s), .bool r_4.2.bad]⟩]) (ps := []) (by kernel_rfl) trivial ?_
    refine OpTo.go (GoO.call rfl (by kernel_rfl) (by kernel_rfl) (pack_Reader_fail_ok n r_4.2 b_2) [[0], [1]] [(1, 1)] [(1, 0)] [] (hks := []) (bks := []) (by kernel_rfl) (by kernel_rfl) (by kernel_rfl) (.inl rfl) rfl rfl (by kernel_rfl) (by kernel_rfl) _ (fun _ _ => rfl) _ _ (fun _ _ => rfl) (fun _ _ => rfl) (fun _ _ => by kernel_rfl) (fun _ _ => by kernel_rfl) (fun r_6 x_7 => ?_))
    refine GoO.shape (env' := [(21, .pointer (some ⟨b_2, 0, none⟩)), (22, .int .u64 r_6.1)]) (H' := [⟨1, b_2, [.string (bs r_6.2.s), .bool r_6.2.bad]⟩]) (B' := []) (ks := [21, 22]) (by kernel_rfl) (by kernel_rfl) (by kernel_rfl) ?_
    refine GoO.regionEnd ?_
    refine GoO.seq' c28_10e ?_
    refine GoO.region' (is := [0]) c28_11e (by kernel_rfl) ?_
    refine GoO.exec (is := [0]) (hs := [.p]) (rest := []) (ks := [4]) (env' := [(4, .string (bs []))]) (H' := [⟨1, b_2, [.string (bs r_6.2.s), .bool r_6.2.bad]⟩]) (ps := []) (by kernel_rfl) trivial ?_
    refine GoO.regionEnd ?_
    exact GoO.ret' (h := c28_12e) (hs := []) (ps := []) (hk := [0]) (bk := []) Try.func28 () (by kernel_rfl) trivial (by kernel_rfl) (by kernel_rfl)
  · refine GoO.skip' c28_13e ?_
    refine GoO.seq' c28_14e ?_
    refine GoO.region' (is := [0, 1, 2, 3, 4, 5, 6]) c28_15e (by kernel_rfl) ?_
    refine GoO.guard (fun h8 => ?_)
    refine GoO.exec (is := [0, 1, 2, 3, 4, 5, 6]) (hs := [.p, .p, .p, .b 0, .p, .p, .p]) (rest := []) (ks := [0, 5, 6]) (env' := [(0, .pointer (some ⟨b_2, 0, none⟩)), (5, .int .i64 r_4.1), (6, .string (bs (r_4.2.s.take r_4.1.toNat)))]) (H' := [⟨1, b_2, [.string (bs r_4.2.s), .bool r_4.2.bad]⟩]) (ps := [b_2 = b_2, (0 : Int) ≤ r_4.1, r_4.1 ≤ (r_4.2.s.length : Int)]) (by kernel_rfl) (And.intro rfl (And.intro h8.1 (And.intro h8.2 trivial))) ?_
    refine GoO.regionEnd ?_
    refine GoO.seq' c28_16e ?_
    refine GoO.region' (is := [0, 1, 2, 3, 4, 5, 6, 7, 8, 9]) c28_17e (by kernel_rfl) ?_
    refine GoO.guard (fun h9 => ?_)
    refine GoO.exec (is := [0, 1, 2, 3, 4, 5, 6, 7, 8, 9]) (hs := [.p, .p, .p, .p, .b 0, .p, .p, .p, .p, .b 0]) (rest := []) (ks := [6]) (env' := [(6, .string (bs (r_4.2.s.take r_4.1.toNat)))]) (H' := [⟨1, b_2, [.string (bs (r_4.2.s.drop r_4.1.toNat)), .bool r_4.2.bad]⟩]) (ps := [b_2 = b_2, (0 : Int) ≤ r_4.1, r_4.1 ≤ (r_4.2.s.length : Int), b_2 = b_2]) (by kernel_rfl) (And.intro rfl (And.intro h9.1 (And.intro h9.2 (And.intro rfl trivial)))) ?_
    refine GoO.regionEnd ?_
    refine GoO.seq' c28_18e ?_
    refine GoO.region' (is := [0, 1]) c28_19e (by kernel_rfl) ?_
    refine GoO.exec (is := [0, 1]) (hs := [.p, .p]) (rest := []) (ks := [4]) (env' := [(4, .string (bs (r_4.2.s.take r_4.1.toNat)))]) (H' := [⟨1, b_2, [.string (bs (r_4.2.s.drop r_4.1.toNat)), .bool r_4.2.bad]⟩]) (ps := []) (by kernel_rfl) trivial ?_
    refine GoO.regionEnd ?_
    exact GoO.ret' (h := c28_20e) (hs := []) (ps := []) (hk := [0]) (bk := []) Try.func28 () (by kernel_rfl) trivial (by kernel_rfl) (by kernel_rfl)

/-! (*tontine/pack.Reader).Left -/
noncomputable def c25_0 : Code := bodyOf Try.f25
noncomputable def c25_1 : Code := cdL c25_0
noncomputable def c25_2 : Code := cdR c25_0
noncomputable def c25_3 : Code := cdL c25_2
noncomputable def c25_4 : Code := cdL c25_3
noncomputable def c25_5 : Code := cdR c25_3
noncomputable def c25_9 : Code := cdR c25_5
noncomputable def c25_10 : Code := cdR c25_2
noncomputable def c25_11 : Code := cdL c25_10
noncomputable def c25_12 : Code := cdR c25_10
noncomputable def c25_6 : Code := cdL c25_5
noncomputable def r25_1 : Array Oper := cdO c25_1
noncomputable def r25_4 : Array Oper := cdO c25_4
noncomputable def r25_11 : Array Oper := cdO c25_11
theorem c25_0e : c25_0 = .seq c25_1 c25_2 := by kernel_rfl
theorem c25_1e : c25_1 = .region 0 r25_1 false := by kernel_rfl
theorem c25_2e : c25_2 = .seq c25_3 c25_10 := by kernel_rfl
theorem c25_3e : c25_3 = .seq c25_4 c25_5 := by kernel_rfl
theorem c25_4e : c25_4 = .region 1 r25_4 false := by kernel_rfl
theorem c25_5e : c25_5 = .cond (cdC c25_5) c25_6 c25_9 := by kernel_rfl
theorem c25_9e : c25_9 = .skip := by kernel_rfl
theorem c25_10e : c25_10 = .seq c25_11 c25_12 := by kernel_rfl
theorem c25_11e : c25_11 = .region 3 r25_11 true := by kernel_rfl
theorem c25_12e : c25_12 = .ret := by kernel_rfl
noncomputable def pack_Reader_Left.R (b_2 : Nat) : Pst (Int × Bool) where
  ε := Unit
  v := fun r x => .tuple ⟨[.int .i64 r.1, .bool r.2]⟩
  H := fun r x => []
  B := fun r x => []
noncomputable def pack_Reader_Left.cx (b_2 : Nat) (w0 : World) (S0 : Fam) : Cx (Int × Bool) := ⟨Try.prog, 25, Try.f25, 16, w0, S0, [], 1, pack_Reader_Left.R b_2⟩
theorem pack_Reader_Left_ok (n : Nat) (r_1 : T_pack_Reader) (b_2 : Nat) :
    Meets Try.prog 25 [.pointer (some ⟨b_2, 0, none⟩)] 1 [] [⟨1, b_2, [.string (bs r_1.s), .bool r_1.bad]⟩] [] (pack_Reader_Left.f n r_1) (pack_Reader_Left.R b_2) := by
  refine Meets.of (c := c25_0) (n := 16) Try.func25 (by kernel_rfl) (by kernel_rfl) (by kernel_rfl) fun w0 S0 => ?_
  unfold pack_Reader_Left.f
  show GoO (pack_Reader_Left.cx b_2 w0 S0) [(0, .pointer (some ⟨b_2, 0, none⟩))] [⟨1, b_2, [.string (bs r_1.s), .bool r_1.bad]⟩] [] [.code c25_0] _
  refine GoO.seq' c25_0e ?_
  refine GoO.region' (is := [0, 1]) c25_1e (by kernel_rfl) ?_
  refine GoO.exec (is := [0, 1]) (hs := [.p, .p]) (rest := []) (ks := [0]) (env' := [(0, .pointer (some ⟨b_2, 0, none⟩))]) (H' := [⟨1, b_2, [.string (bs r_1.s), .bool r_1.bad]⟩]) (ps := []) (by kernel_rfl) trivial ?_
  refine GoO.regionEnd ?_
  refine GoO.seq' c25_2e ?_
  refine GoO.seq' c25_3e ?_
  refine GoO.region' (is := [0, 1]) c25_4e (by kernel_rfl) ?_
  refine GoO.exec (is := [0, 1]) (hs := [.p, .p]) (rest := []) (ks := [0, 5]) (env' := [(0, .pointer (some ⟨b_2, 0, none⟩)), (5, .bool false)]) (H' := [⟨1, b_2, [.string (bs r_1.s), .bool r_1.bad]⟩]) (ps := []) (by kernel_rfl) trivial ?_
  refine GoO.regionEnd ?_
  refine GoO.condF c25_5e (by kernel_rfl) ?_
  refine GoO.skip' c25_9e ?_
  refine GoO.seq' c25_10e ?_
  refine GoO.draw c25_11e (by kernel_rfl) [11] [⟨1, b_2, [.string (bs r_1.s), .bool r_1.bad]⟩] [] (n := 12) (by kernel_rfl) ?_
  simp only [List.replicate]
  refine GoF.take [0, 1, 2, 3, 4, 5, 6, 7, 8, 9, 10] [.p, .p, .p, .b 0, .p, .p, .p, .p, .b 0, .p, .p] (ks := [2, 15]) (fu := 1) (li := [true, true, true, true, true, true, true, true, true, true, true, false]) (env' := [(2, .int .i64 (r_1.s.length : Int)), (15, .bool (!r_1.bad))]) (ps := [b_2 = b_2, b_2 = b_2]) (hk := [0]) (bk := []) (by kernel_rfl) (And.intro rfl (And.intro rfl trivial)) rfl rfl ?_
  refine GoF.fin1 (i := 11) (hint := .p) (ps := []) (hk := []) (bk := []) (by kernel_rfl) rfl trivial (.inl rfl) ?_
  refine GoF.done (by kernel_rfl) ?_
  exact GoO.ret' (h := c25_12e) (hs := []) (ps := []) (hk := []) (bk := []) Try.func25 () (by kernel_rfl) trivial (by kernel_rfl) (by kernel_rfl)

/-! (*tontine/pack.Reader).Done -/
noncomputable def c29_0 : Code := bodyOf Try.f29
noncomputable def c29_1 : Code := cdL c29_0
noncomputable def c29_2 : Code := cdR c29_0
noncomputable def c29_3 : Code := cdL c29_2
noncomputable def c29_4 : Code := cdR c29_2
noncomputable def c29_5 : Code := cdL c29_4
noncomputable def c29_6 : Code := cdR c29_4
noncomputable def r29_1 : Array Oper := cdO c29_1
noncomputable def r29_3 : Array Oper := cdO c29_3
noncomputable def r29_5 : Array Oper := cdO c29_5
theorem c29_0e : c29_0 = .seq c29_1 c29_2 := by kernel_rfl
theorem c29_1e : c29_1 = .region 0 r29_1 false := by kernel_rfl
theorem c29_2e : c29_2 = .seq c29_3 c29_4 := by kernel_rfl
theorem c29_3e : c29_3 = .region 1 r29_3 false := by kernel_rfl
theorem c29_4e : c29_4 = .seq c29_5 c29_6 := by kernel_rfl
theorem c29_5e : c29_5 = .region 2 r29_5 false := by kernel_rfl
theorem c29_6e : c29_6 = .ret := by kernel_rfl
noncomputable def pack_Reader_Done.R (b_2 : Nat) : Pst Bool where
  ε := Unit
  v := fun r x => .bool r
  H := fun r x => []
  B := fun r x => []
noncomputable def pack_Reader_Done.cx (b_2 : Nat) (w0 : World) (S0 : Fam) : Cx Bool := ⟨Try.prog, 29, Try.f29, 15, w0, S0, [], 1, pack_Reader_Done.R b_2⟩
theorem pack_Reader_Done_ok (n : Nat) (r_1 : T_pack_Reader) (b_2 : Nat) :
    Meets Try.prog 29 [.pointer (some ⟨b_2, 0, none⟩)] 1 [] [⟨1, b_2, [.string (bs r_1.s), .bool r_1.bad]⟩] [] (pack_Reader_Done.f n r_1) (pack_Reader_Done.R b_2) := by
  refine Meets.of (c := c29_0) (n := 15) Try.func29 (by kernel_rfl) (by kernel_rfl) (by kernel_rfl) fun w0 S0 => ?_
  unfold pack_Reader_Done.f
  show GoO (pack_Reader_Done.cx b_2 w0 S0) [(0, .pointer (some ⟨b_2, 0, none⟩))] [⟨1, b_2, [.string (bs r_1.s), .bool r_1.bad]⟩] [] [.code c29_0] _
  refine GoO.seq' c29_0e ?_
  refine GoO.region' (is := [0]) c29_1e (by kernel_rfl) ?_
  refine GoO.exec (is := [0]) (hs := [.p]) (rest := []) (ks := [0]) (env' := [(0, .pointer (some ⟨b_2, 0, none⟩))]) (H' := [⟨1, b_2, [.string (bs r_1.s), .bool r_1.bad]⟩]) (ps := []) (by kernel_rfl) trivial ?_
  refine GoO.regionEnd ?_
  refine GoO.seq' c29_2e ?_
  refine GoO.region' (is := [0, 1, 2, 3, 4, 5, 6]) c29_3e (by kernel_rfl) ?_
  refine GoO.exec (is := [0]) (hs := [.p]) (rest := [1, 2, 3, 4, 5, 6]) (ks := [6]) (env' := [(6, .pointer (some ⟨b_2, 0, none⟩))]) (H' := [⟨1, b_2, [.string (bs r_1.s), .bool r_1.bad]⟩]) (ps := []) (by kernel_rfl) trivial ?_
  refine OpTo.go (GoO.call rfl (by kernel_rfl) (by kernel_rfl) (pack_Reader_Left_ok n r_1 b_2) [[0], [1]] [] [(1, 0)] [] (hks := [0]) (bks := []) (by kernel_rfl) (by kernel_rfl) (by kernel_rfl) (.inl rfl) rfl rfl (by kernel_rfl) (by kernel_rfl) _ (fun _ _ => rfl) _ _ (fun _ _ => rfl) (fun _ _ => rfl) (fun _ _ => by kernel_rfl) (fun _ _ => by kernel_rfl) (fun r_3 x_5 => ?_))
  refine GoO.shape (env' := [(6, .pointer (some ⟨b_2, 0, none⟩)), (7, .tuple ⟨[.int .i64 r_3.1, .bool r_3.2]⟩)]) (H' := [⟨1, b_2, [.string (bs r_1.s), .bool r_1.bad]⟩]) (B' := []) (ks := [6, 7]) (by kernel_rfl) (by kernel_rfl) (by kernel_rfl) ?_
  refine GoO.exec (is := [2, 3, 4, 5, 6]) (hs := [.p, .p, .p, .p, .p]) (rest := []) (ks := [3, 4]) (env' := [(3, .int .i64 r_3.1), (4, .bool r_3.2)]) (H' := [⟨1, b_2, [.string (bs r_1.s), .bool r_1.bad]⟩]) (ps := []) (by kernel_rfl) trivial ?_
  refine GoO.regionEnd ?_
  refine GoO.seq' c29_4e ?_
  refine GoO.region' (is := [0, 1, 2, 3, 4, 5]) c29_5e (by kernel_rfl) ?_
  refine GoO.exec (is := [0, 1, 2]) (hs := [.p, .p, .p]) (rest := [3, 4, 5]) (ks := [4, 12]) (env' := [(4, .bool r_3.2), (12, .bool (r_3.1 == 0))]) (H' := [⟨1, b_2, [.string (bs r_1.s), .bool r_1.bad]⟩]) (ps := []) (by kernel_rfl) trivial ?_
  refine GoO.bsplit (t := 12) (by kernel_rfl) (fun h4 => ?_) (fun h4 => ?_)
  · refine GoO.exec (is := [3, 4, 5]) (hs := [.p, .p, .p]) (rest := []) (ks := [2]) (env' := [(2, .bool r_3.2)]) (H' := [⟨1, b_2, [.string (bs r_1.s), .bool r_1.bad]⟩]) (ps := []) (by kernel_rfl) trivial ?_
    refine GoO.regionEnd ?_
    exact GoO.ret' (h := c29_6e) (hs := []) (ps := []) (hk := []) (bk := []) Try.func29 () (by kernel_rfl) trivial (by kernel_rfl) (by kernel_rfl)
  · refine GoO.exec (is := [3, 4, 5]) (hs := [.p, .p, .p]) (rest := []) (ks := [2]) (env' := [(2, .bool false)]) (H' := [⟨1, b_2, [.string (bs r_1.s), .bool r_1.bad]⟩]) (ps := []) (by kernel_rfl) trivial ?_
    refine GoO.regionEnd ?_
    exact GoO.ret' (h := c29_6e) (hs := []) (ps := []) (hk := []) (bk := []) Try.func29 () (by kernel_rfl) trivial (by kernel_rfl) (by kernel_rfl)

/-! tontine/tontinelaw03.begun -/
noncomputable def c22_0 : Code := bodyOf Try.f22
noncomputable def c22_1 : Code := cdL c22_0
noncomputable def c22_2 : Code := cdR c22_0
noncomputable def c22_3 : Code := cdL c22_2
noncomputable def c22_4 : Code := cdR c22_2
noncomputable def c22_5 : Code := cdL c22_4
noncomputable def c22_6 : Code := cdR c22_4
noncomputable def c22_7 : Code := cdL c22_6
noncomputable def c22_8 : Code := cdR c22_6
noncomputable def r22_1 : Array Oper := cdO c22_1
noncomputable def r22_3 : Array Oper := cdO c22_3
noncomputable def r22_5 : Array Oper := cdO c22_5
noncomputable def r22_7 : Array Oper := cdO c22_7
theorem c22_0e : c22_0 = .seq c22_1 c22_2 := by kernel_rfl
theorem c22_1e : c22_1 = .region 0 r22_1 false := by kernel_rfl
theorem c22_2e : c22_2 = .seq c22_3 c22_4 := by kernel_rfl
theorem c22_3e : c22_3 = .region 1 r22_3 false := by kernel_rfl
theorem c22_4e : c22_4 = .seq c22_5 c22_6 := by kernel_rfl
theorem c22_5e : c22_5 = .region 2 r22_5 false := by kernel_rfl
theorem c22_6e : c22_6 = .seq c22_7 c22_8 := by kernel_rfl
theorem c22_7e : c22_7 = .region 3 r22_7 false := by kernel_rfl
theorem c22_8e : c22_8 = .ret := by kernel_rfl
noncomputable def tontinelaw03_begun.R : Pst Bool where
  ε := Unit
  v := fun r x => .bool r
  H := fun r x => []
  B := fun r x => []
noncomputable def tontinelaw03_begun.cx (w0 : World) (S0 : Fam) : Cx Bool := ⟨Try.prog, 22, Try.f22, 25, w0, S0, [], 0, tontinelaw03_begun.R⟩
theorem tontinelaw03_begun_ok (n : Nat) :
    Meets Try.prog 22 [] 0 [] [] [] (tontinelaw03_begun.f n) (tontinelaw03_begun.R) := by
  refine Meets.of (c := c22_0) (n := 25) Try.func22 (by kernel_rfl) (by kernel_rfl) (by kernel_rfl) fun w0 S0 => ?_
  unfold tontinelaw03_begun.f
  show GoO (tontinelaw03_begun.cx w0 S0) [] [] [] [.code c22_0] _
  refine GoO.seq' c22_0e ?_
  refine GoO.region' (is := [0]) c22_1e (by kernel_rfl) ?_
  refine GoO.exec (is := [0]) (hs := [.p]) (rest := []) (ks := []) (env' := []) (H' := []) (ps := []) (by kernel_rfl) trivial ?_
  refine GoO.regionEnd ?_
  refine GoO.seq' c22_2e ?_
  refine GoO.region' (is := [0, 1, 2, 3, 4]) c22_3e (by kernel_rfl) ?_
  refine OpTo.go (GoO.new rfl 40 (cs := [.slice none ([] : List UInt8).length 0]) (by kernel_rfl) _ (fun _ => rfl) (fun b_1 => ?_))
  refine GoO.nilOwn Kd.u8 41 ?_
  refine OpTo.go (GoO.call rfl (by kernel_rfl) (by kernel_rfl) (pack_Writer_Num_ok n (⟨[]⟩ : T_pack_Writer) 300 b_1 none 0) [[0], [40], [41]] [(40, 1), (41, 2)] [(1, 0)] [(2, 0)] (hks := []) (bks := []) (by kernel_rfl) (by kernel_rfl) (by kernel_rfl) (.inl rfl) rfl rfl (by kernel_rfl) (by kernel_rfl) _ (fun _ _ => rfl) _ _ (fun _ _ => rfl) (fun _ _ => rfl) (fun _ _ => by kernel_rfl) (fun _ _ => by kernel_rfl) (fun r_2 x_23 => ?_))
  obtain ⟨A_3, c_4⟩ := x_23
  refine GoO.shape (env' := [(3, .pointer (some ⟨b_1, 0, none⟩)), (4, .pointer (some ⟨b_1, 0, none⟩))]) (H' := [⟨40, b_1, [.slice A_3 r_2.b.length c_4]⟩]) (B' := [Ow 41 Kd.u8 A_3 c_4 r_2.b]) (ks := [3, 4]) (by kernel_rfl) (by kernel_rfl) (by kernel_rfl) ?_
  refine OpTo.go (GoO.call rfl (by kernel_rfl) (by kernel_rfl) (pack_Writer_Text_ok n r_2 [97, 98] b_1 A_3 c_4) [[0], [40], [41]] [(40, 1), (41, 2)] [(1, 0)] [(2, 0)] (hks := []) (bks := []) (by kernel_rfl) (by kernel_rfl) (by kernel_rfl) (.inl rfl) rfl rfl (by kernel_rfl) (by kernel_rfl) _ (fun _ _ => rfl) _ _ (fun _ _ => rfl) (fun _ _ => rfl) (fun _ _ => by kernel_rfl) (fun _ _ => by kernel_rfl) (fun r_5 x_22 => ?_))
  obtain ⟨A_6, c_7⟩ := x_22
  refine GoO.shape (env' := [(3, .pointer (some ⟨b_1, 0, none⟩)), (4, .pointer (some ⟨b_1, 0, none⟩)), (5, .pointer (some ⟨b_1, 0, none⟩))]) (H' := [⟨40, b_1, [.slice A_6 r_5.b.length c_7]⟩]) (B' := [Ow 41 Kd.u8 A_6 c_7 r_5.b]) (ks := [3, 4, 5]) (by kernel_rfl) (by kernel_rfl) (by kernel_rfl) ?_
  refine OpTo.go (GoO.call rfl (by kernel_rfl) (by kernel_rfl) (pack_Writer_Bytes_ok n r_5 b_1 A_6 c_7) [[0], [40], [41]] [] [(1, 0)] [(2, 0)] (hks := [0]) (bks := [0]) (by kernel_rfl) (by kernel_rfl) (by kernel_rfl) (.inl rfl) rfl rfl (by kernel_rfl) (by kernel_rfl) _ (fun _ _ => rfl) _ _ (fun _ _ => rfl) (fun _ _ => rfl) (fun _ _ => by kernel_rfl) (fun _ _ => by kernel_rfl) (fun r_8 x_21 => ?_))
  refine GoO.shape (env' := [(3, .pointer (some ⟨b_1, 0, none⟩)), (4, .pointer (some ⟨b_1, 0, none⟩)), (5, .pointer (some ⟨b_1, 0, none⟩)), (6, .string (bs r_8))]) (H' := [⟨40, b_1, [.slice A_6 r_5.b.length c_7]⟩]) (B' := [Ow 41 Kd.u8 A_6 c_7 r_5.b]) (ks := [3, 4, 5, 6]) (by kernel_rfl) (by kernel_rfl) (by kernel_rfl) ?_
  refine GoO.exec (is := [4]) (hs := [.p]) (rest := []) (ks := [1]) (env' := [(1, .string (bs r_8))]) (H' := [⟨40, b_1, [.slice A_6 r_5.b.length c_7]⟩]) (ps := []) (by kernel_rfl) trivial ?_
  refine GoO.regionEnd ?_
  refine GoO.seq' c22_4e ?_
  refine GoO.region' (is := [0, 1, 2]) c22_5e (by kernel_rfl) ?_
  refine GoO.exec (is := [0]) (hs := [.p]) (rest := [1, 2]) (ks := [1, 7]) (env' := [(1, .string (bs r_8)), (7, .string (bs r_8))]) (H' := [⟨40, b_1, [.slice A_6 r_5.b.length c_7]⟩]) (ps := []) (by kernel_rfl) trivial ?_
  refine OpTo.go (GoO.call rfl (by kernel_rfl) (by kernel_rfl) (pack_From_ok n r_8) [[0]] [(42, 1)] [] [] (hks := [0]) (bks := [0]) (by kernel_rfl) (by kernel_rfl) (by kernel_rfl) (.inl rfl) rfl rfl (by kernel_rfl) (by kernel_rfl) _ (fun _ _ => rfl) _ _ (fun _ _ => rfl) (fun _ _ => rfl) (fun _ _ => by kernel_rfl) (fun _ _ => by kernel_rfl) (fun r_9 b_10 => ?_))
  refine GoO.shape (env' := [(1, .string (bs r_8)), (7, .string (bs r_8)), (8, .pointer (some ⟨b_10, 0, none⟩))]) (H' := [⟨42, b_10, [.string (bs r_9.s), .bool r_9.bad]⟩, ⟨40, b_1, [.slice A_6 r_5.b.length c_7]⟩]) (B' := [Ow 41 Kd.u8 A_6 c_7 r_5.b]) (ks := [1, 7, 8]) (by kernel_rfl) (by kernel_rfl) (by kernel_rfl) ?_
  refine GoO.exec (is := [2]) (hs := [.p]) (rest := []) (ks := [1, 2]) (env' := [(1, .string (bs r_8)), (2, .pointer (some ⟨b_10, 0, none⟩))]) (H' := [⟨42, b_10, [.string (bs r_9.s), .bool r_9.bad]⟩, ⟨40, b_1, [.slice A_6 r_5.b.length c_7]⟩]) (ps := []) (by kernel_rfl) trivial ?_
  refine GoO.regionEnd ?_
  refine GoO.seq' c22_6e ?_
  refine GoO.region' (is := [0, 1, 2, 3, 4, 5, 6, 7, 8, 9, 10, 11, 12, 13, 14, 15, 16]) c22_7e (by kernel_rfl) ?_
  refine GoO.exec (is := [0, 1, 2]) (hs := [.p, .p, .p]) (rest := [3, 4, 5, 6, 7, 8, 9, 10, 11, 12, 13, 14, 15, 16]) (ks := [2, 11]) (env' := [(2, .pointer (some ⟨b_10, 0, none⟩)), (11, .bool (r_8 == ([2, 1, 44, 1, 2, 97, 98] : List UInt8)))]) (H' := [⟨42, b_10, [.string (bs r_9.s), .bool r_9.bad]⟩, ⟨40, b_1, [.slice A_6 r_5.b.length c_7]⟩]) (ps := []) (by kernel_rfl) trivial ?_
  refine GoO.bsplit (t := 11) (by kernel_rfl) (fun h11 => ?_) (fun h11 => ?_)
  · refine GoO.exec (is := [3]) (hs := [.p]) (rest := [4, 5, 6, 7, 8, 9, 10, 11, 12, 13, 14, 15, 16]) (ks := [2, 11, 12]) (env' := [(2, .pointer (some ⟨b_10, 0, none⟩)), (11, .bool true), (12, .pointer (some ⟨b_10, 0, none⟩))]) (H' := [⟨42, b_10, [.string (bs r_9.s), .bool r_9.bad]⟩, ⟨40, b_1, [.slice A_6 r_5.b.length c_7]⟩]) (ps := []) (by kernel_rfl) trivial ?_
    refine OpTo.go (GoO.call rfl (by kernel_rfl) (by kernel_rfl) (pack_Reader_Num_ok n r_9 b_10) [[0], [42]] [(42, 1)] [(1, 0)] [] (hks := [1]) (bks := [0]) (by kernel_rfl) (by kernel_rfl) (by kernel_rfl) (.inl rfl) rfl rfl (by kernel_rfl) (by kernel_rfl) _ (fun _ _ => rfl) _ _ (fun _ _ => rfl) (fun _ _ => rfl) (fun _ _ => by kernel_rfl) (fun _ _ => by kernel_rfl) (fun r_12 x_19 => ?_))
    refine GoO.shape (env' := [(2, .pointer (some ⟨b_10, 0, none⟩)), (11, .bool true), (12, .pointer (some ⟨b_10, 0, none⟩)), (13, .int .u64 r_12.1)]) (H' := [⟨42, b_10, [.string (bs r_12.2.s), .bool r_12.2.bad]⟩, ⟨40, b_1, [.slice A_6 r_5.b.length c_7]⟩]) (B' := [Ow 41 Kd.u8 A_6 c_7 r_5.b]) (ks := [2, 11, 12, 13]) (by kernel_rfl) (by kernel_rfl) (by kernel_rfl) ?_
    refine GoO.exec (is := [5, 6, 7]) (hs := [.p, .p, .p]) (rest := [8, 9, 10, 11, 12, 13, 14, 15, 16]) (ks := [2, 16]) (env' := [(2, .pointer (some ⟨b_10, 0, none⟩)), (16, .bool (r_12.1 == 300))]) (H' := [⟨42, b_10, [.string (bs r_12.2.s), .bool r_12.2.bad]⟩, ⟨40, b_1, [.slice A_6 r_5.b.length c_7]⟩]) (ps := []) (by kernel_rfl) trivial ?_
    refine GoO.bsplit (t := 16) (by kernel_rfl) (fun h13 => ?_) (fun h13 => ?_)
    · refine GoO.exec (is := [8]) (hs := [.p]) (rest := [9, 10, 11, 12, 13, 14, 15, 16]) (ks := [2, 16, 17]) (env' := [(2, .pointer (some ⟨b_10, 0, none⟩)), (16, .bool true), (17, .pointer (some ⟨b_10, 0, none⟩))]) (H' := [⟨42, b_10, [.string (bs r_12.2.s), .bool r_12.2.bad]⟩, ⟨40, b_1, [.slice A_6 r_5.b.length c_7]⟩]) (ps := []) (by kernel_rfl) trivial ?_
      refine OpTo.go (GoO.call rfl (by kernel_rfl) (by kernel_rfl) (pack_Reader_Text_ok n r_12.2 2 b_10) [[0], [42]] [(42, 1)] [(1, 0)] [] (hks := [1]) (bks := [0]) (by kernel_rfl) (by kernel_rfl) (by kernel_rfl) (.inl rfl) rfl rfl (by kernel_rfl) (by kernel_rfl) _ (fun _ _ => rfl) _ _ (fun _ _ => rfl) (fun _ _ => rfl) (fun _ _ => by kernel_rfl) (fun _ _ => by kernel_rfl) (fun r_14 x_18 => ?_))
      refine GoO.shape (env' := [(2, .pointer (some ⟨b_10, 0, none⟩)), (16, .bool true), (17, .pointer (some ⟨b_10, 0, none⟩)), (18, .string (bs r_14.1))]) (H' := [⟨42, b_10, [.string (bs r_14.2.s), .bool r_14.2.bad]⟩, ⟨40, b_1, [.slice A_6 r_5.b.length c_7]⟩]) (B' := [Ow 41 Kd.u8 A_6 c_7 r_5.b]) (ks := [2, 16, 17, 18]) (by kernel_rfl) (by kernel_rfl) (by kernel_rfl) ?_
      refine GoO.exec (is := [10, 11, 12]) (hs := [.p, .p, .p]) (rest := [13, 14, 15, 16]) (ks := [2, 21]) (env' := [(2, .pointer (some ⟨b_10, 0, none⟩)), (21, .bool (r_14.1 == ([97, 98] : List UInt8)))]) (H' := [⟨42, b_10, [.string (bs r_14.2.s), .bool r_14.2.bad]⟩, ⟨40, b_1, [.slice A_6 r_5.b.length c_7]⟩]) (ps := []) (by kernel_rfl) trivial ?_
      refine GoO.bsplit (t := 21) (by kernel_rfl) (fun h15 => ?_) (fun h15 => ?_)
      · refine GoO.exec (is := [13]) (hs := [.p]) (rest := [14, 15, 16]) (ks := [21, 22]) (env' := [(21, .bool true), (22, .pointer (some ⟨b_10, 0, none⟩))]) (H' := [⟨42, b_10, [.string (bs r_14.2.s), .bool r_14.2.bad]⟩, ⟨40, b_1, [.slice A_6 r_5.b.length c_7]⟩]) (ps := []) (by kernel_rfl) trivial ?_
        refine OpTo.go (GoO.call rfl (by kernel_rfl) (by kernel_rfl) (pack_Reader_Done_ok n r_14.2 b_10) [[0], [42]] [] [(1, 0)] [] (hks := [0, 1]) (bks := [0]) (by kernel_rfl) (by kernel_rfl) (by kernel_rfl) (.inl rfl) rfl rfl (by kernel_rfl) (by kernel_rfl) _ (fun _ _ => rfl) _ _ (fun _ _ => rfl) (fun _ _ => rfl) (fun _ _ => by kernel_rfl) (fun _ _ => by kernel_rfl) (fun r_16 x_17 => ?_))
        refine GoO.shape (env' := [(21, .bool true), (22, .pointer (some ⟨b_10, 0, none⟩)), (23, .bool r_16)]) (H' := [⟨42, b_10, [.string (bs r_14.2.s), .bool r_14.2.bad]⟩, ⟨40, b_1, [.slice A_6 r_5.b.length c_7]⟩]) (B' := [Ow 41 Kd.u8 A_6 c_7 r_5.b]) (ks := [21, 22, 23]) (by kernel_rfl) (by kernel_rfl) (by kernel_rfl) ?_
        refine GoO.exec (is := [15, 16]) (hs := [.p, .p]) (rest := []) (ks := [0]) (env' := [(0, .bool r_16)]) (H' := [⟨42, b_10, [.string (bs r_14.2.s), .bool r_14.2.bad]⟩, ⟨40, b_1, [.slice A_6 r_5.b.length c_7]⟩]) (ps := []) (by kernel_rfl) trivial ?_
        refine GoO.regionEnd ?_
        exact GoO.ret' (h := c22_8e) (hs := []) (ps := []) (hk := []) (bk := []) Try.func22 () (by kernel_rfl) trivial (by kernel_rfl) (by kernel_rfl)
      · refine GoO.exec (is := [13, 14, 15, 16]) (hs := [.p, .p, .p, .p]) (rest := []) (ks := [0]) (env' := [(0, .bool false)]) (H' := [⟨42, b_10, [.string (bs r_14.2.s), .bool r_14.2.bad]⟩, ⟨40, b_1, [.slice A_6 r_5.b.length c_7]⟩]) (ps := []) (by kernel_rfl) trivial ?_
        refine GoO.regionEnd ?_
        exact GoO.ret' (h := c22_8e) (hs := []) (ps := []) (hk := []) (bk := []) Try.func22 () (by kernel_rfl) trivial (by kernel_rfl) (by kernel_rfl)
    · refine GoO.exec (is := [8, 9, 10, 11, 12, 13, 14, 15, 16]) (hs := [.p, .p, .p, .p, .p, .p, .p, .p, .p]) (rest := []) (ks := [0]) (env' := [(0, .bool false)]) (H' := [⟨42, b_10, [.string (bs r_12.2.s), .bool r_12.2.bad]⟩, ⟨40, b_1, [.slice A_6 r_5.b.length c_7]⟩]) (ps := []) (by kernel_rfl) trivial ?_
      refine GoO.regionEnd ?_
      exact GoO.ret' (h := c22_8e) (hs := []) (ps := []) (hk := []) (bk := []) Try.func22 () (by kernel_rfl) trivial (by kernel_rfl) (by kernel_rfl)
  · refine GoO.exec (is := [3, 4, 5, 6, 7, 8, 9, 10, 11, 12, 13, 14, 15, 16]) (hs := [.p, .p, .p, .p, .p, .p, .p, .p, .p, .p, .p, .p, .p, .p]) (rest := []) (ks := [0]) (env' := [(0, .bool false)]) (H' := [⟨42, b_10, [.string (bs r_9.s), .bool r_9.bad]⟩, ⟨40, b_1, [.slice A_6 r_5.b.length c_7]⟩]) (ps := []) (by kernel_rfl) trivial ?_
    refine GoO.regionEnd ?_
    exact GoO.ret' (h := c22_8e) (hs := []) (ps := []) (hk := []) (bk := []) Try.func22 () (by kernel_rfl) trivial (by kernel_rfl) (by kernel_rfl)

/-! (*tontine/tontineref03.Reader).Fail -/
noncomputable def c44_0 : Code := bodyOf Try.f44
noncomputable def c44_1 : Code := cdL c44_0
noncomputable def c44_2 : Code := cdR c44_0
noncomputable def r44_1 : Array Oper := cdO c44_1
noncomputable def r44_2 : Array Oper := cdO c44_2
theorem c44_0e : c44_0 = .seq c44_1 c44_2 := by kernel_rfl
theorem c44_1e : c44_1 = .region 0 r44_1 false := by kernel_rfl
theorem c44_2e : c44_2 = .region 1 r44_2 false := by kernel_rfl
noncomputable def tontineref03_Reader_Fail.R (b_2 : Nat) : Pst T_tontineref03_Reader where
  ε := Unit
  v := fun r x => .tuple ⟨[]⟩
  H := fun r x => [⟨1, b_2, [.string (bs r.S_), .bool r.Bad]⟩]
  B := fun r x => []
noncomputable def tontineref03_Reader_Fail.cx (b_2 : Nat) (w0 : World) (S0 : Fam) : Cx T_tontineref03_Reader := ⟨Try.prog, 44, Try.f44, 8, w0, S0, [1], 1, tontineref03_Reader_Fail.R b_2⟩
theorem tontineref03_Reader_Fail_ok (n : Nat) (r_1 : T_tontineref03_Reader) (b_2 : Nat) :
    Meets Try.prog 44 [.pointer (some ⟨b_2, 0, none⟩)] 1 [1] [⟨1, b_2, [.string (bs r_1.S_), .bool r_1.Bad]⟩] [] (tontineref03_Reader_Fail.f n r_1) (tontineref03_Reader_Fail.R b_2) := by
  refine Meets.of (c := c44_0) (n := 8) Try.func44 (by kernel_rfl) (by kernel_rfl) (by kernel_rfl) fun w0 S0 => ?_
  unfold tontineref03_Reader_Fail.f
  show GoO (tontineref03_Reader_Fail.cx b_2 w0 S0) [(0, .pointer (some ⟨b_2, 0, none⟩))] [⟨1, b_2, [.string (bs r_1.S_), .bool r_1.Bad]⟩] [] [.code c44_0] _
  refine GoO.seq' c44_0e ?_
  refine GoO.region' (is := [0, 1, 2, 3]) c44_1e (by kernel_rfl) ?_
  refine GoO.exec (is := [0, 1, 2, 3]) (hs := [.p, .p, .p, .b 0]) (rest := []) (ks := [0]) (env' := [(0, .pointer (some ⟨b_2, 0, none⟩))]) (H' := [⟨1, b_2, [.string (bs []), .bool r_1.Bad]⟩]) (ps := [b_2 = b_2]) (by kernel_rfl) (And.intro rfl trivial) ?_
  refine GoO.regionEnd ?_
  refine GoO.region' (is := [0, 1, 2, 3]) c44_2e (by kernel_rfl) ?_
  refine GoO.exec (is := [0, 1, 2, 3]) (hs := [.p, .p, .p, .b 0]) (rest := []) (ks := []) (env' := []) (H' := [⟨1, b_2, [.string (bs []), .bool true]⟩]) (ps := [b_2 = b_2]) (by kernel_rfl) (And.intro rfl trivial) ?_
  refine GoO.regionEnd ?_
  exact GoO.fin (hs := []) (ps := []) (hk := [0]) (bk := []) Try.func44 () (by kernel_rfl) trivial (by kernel_rfl) (by kernel_rfl)

/-! (*tontine/tontineref03.Reader).Num -/
noncomputable def c30_0 : Code := bodyOf Try.f30
noncomputable def c30_1 : Code := cdL c30_0
noncomputable def c30_2 : Code := cdR c30_0
noncomputable def c30_3 : Code := cdL c30_2
noncomputable def c30_4 : Code := cdR c30_2
noncomputable def c30_5 : Code := cdL c30_4
noncomputable def c30_6 : Code := cdL c30_5
noncomputable def c30_7 : Code := cdR c30_5
noncomputable def c30_8 : Code := cdL c30_7
noncomputable def c30_9 : Code := cdR c30_7
noncomputable def c30_10 : Code := cdR c30_4
noncomputable def c30_11 : Code := cdL c30_10
noncomputable def c30_12 : Code := cdL c30_11
noncomputable def c30_13 : Code := cdR c30_11
noncomputable def c30_14 : Code := cdL c30_13
noncomputable def c30_15 : Code := cdL c30_14
noncomputable def c30_16 : Code := cdR c30_14
noncomputable def c30_17 : Code := cdL c30_16
noncomputable def c30_18 : Code := cdR c30_16
noncomputable def c30_19 : Code := cdR c30_13
noncomputable def c30_20 : Code := cdR c30_10
noncomputable def c30_21 : Code := cdL c30_20
noncomputable def c30_22 : Code := cdR c30_20
noncomputable def c30_23 : Code := cdL c30_22
noncomputable def c30_24 : Code := cdL c30_23
noncomputable def c30_25 : Code := cdR c30_23
noncomputable def c30_26 : Code := cdL c30_25
noncomputable def c30_27 : Code := cdL c30_26
noncomputable def c30_28 : Code := cdL c30_27
noncomputable def c30_29 : Code := cdL c30_28
noncomputable def c30_30 : Code := cdR c30_28
noncomputable def c30_31 : Code := cdL c30_30
noncomputable def c30_32 : Code := cdR c30_30
noncomputable def c30_33 : Code := cdR c30_27
noncomputable def c30_34 : Code := cdL c30_33
noncomputable def c30_35 : Code := cdL c30_34
noncomputable def c30_36 : Code := cdR c30_33
noncomputable def c30_37 : Code := cdR c30_22
noncomputable def c30_38 : Code := cdL c30_37
noncomputable def c30_39 : Code := cdR c30_37
noncomputable def c30_40 : Code := cdL c30_39
noncomputable def c30_41 : Code := cdR c30_39
noncomputable def r30_1 : Array Oper := cdO c30_1
noncomputable def r30_3 : Array Oper := cdO c30_3
noncomputable def r30_6 : Array Oper := cdO c30_6
noncomputable def r30_8 : Array Oper := cdO c30_8
noncomputable def r30_12 : Array Oper := cdO c30_12
noncomputable def r30_15 : Array Oper := cdO c30_15
noncomputable def r30_17 : Array Oper := cdO c30_17
noncomputable def r30_21 : Array Oper := cdO c30_21
noncomputable def r30_24 : Array Oper := cdO c30_24
noncomputable def r30_29 : Array Oper := cdO c30_29
noncomputable def r30_35 : Array Oper := cdO c30_35
noncomputable def r30_36 : Array Oper := cdO c30_36
noncomputable def r30_38 : Array Oper := cdO c30_38
noncomputable def r30_40 : Array Oper := cdO c30_40
theorem c30_0e : c30_0 = .seq c30_1 c30_2 := by kernel_rfl
theorem c30_1e : c30_1 = .region 0 r30_1 false := by kernel_rfl
theorem c30_2e : c30_2 = .seq c30_3 c30_4 := by kernel_rfl
theorem c30_3e : c30_3 = .region 1 r30_3 false := by kernel_rfl
theorem c30_4e : c30_4 = .seq c30_5 c30_10 := by kernel_rfl
theorem c30_5e : c30_5 = .seq c30_6 c30_7 := by kernel_rfl
theorem c30_6e : c30_6 = .region 2 r30_6 false := by kernel_rfl
theorem c30_7e : c30_7 = .cond (cdC c30_7) c30_8 c30_9 := by kernel_rfl
theorem c30_8e : c30_8 = .region 3 r30_8 false := by kernel_rfl
theorem c30_9e : c30_9 = .skip := by kernel_rfl
theorem c30_10e : c30_10 = .seq c30_11 c30_20 := by kernel_rfl
theorem c30_11e : c30_11 = .seq c30_12 c30_13 := by kernel_rfl
theorem c30_12e : c30_12 = .region 4 r30_12 false := by kernel_rfl
theorem c30_13e : c30_13 = .cond (cdC c30_13) c30_14 c30_19 := by kernel_rfl
theorem c30_14e : c30_14 = .seq c30_15 c30_16 := by kernel_rfl
theorem c30_15e : c30_15 = .region 5 r30_15 false := by kernel_rfl
theorem c30_16e : c30_16 = .seq c30_17 c30_18 := by kernel_rfl
theorem c30_17e : c30_17 = .region 6 r30_17 false := by kernel_rfl
theorem c30_18e : c30_18 = .ret := by kernel_rfl
theorem c30_19e : c30_19 = .skip := by kernel_rfl
theorem c30_20e : c30_20 = .seq c30_21 c30_22 := by kernel_rfl
theorem c30_21e : c30_21 = .region 7 r30_21 false := by kernel_rfl
theorem c30_22e : c30_22 = .seq c30_23 c30_37 := by kernel_rfl
theorem c30_23e : c30_23 = .seq c30_24 c30_25 := by kernel_rfl
theorem c30_24e : c30_24 = .region 8 r30_24 false := by kernel_rfl
theorem c30_25e : c30_25 = .block 0 c30_26 := by kernel_rfl
theorem c30_26e : c30_26 = .loop c30_27 := by kernel_rfl
theorem c30_27e : c30_27 = .seq c30_28 c30_33 := by kernel_rfl
theorem c30_28e : c30_28 = .seq c30_29 c30_30 := by kernel_rfl
theorem c30_29e : c30_29 = .region 9 r30_29 false := by kernel_rfl
theorem c30_30e : c30_30 = .cond (cdC c30_30) c30_31 c30_32 := by kernel_rfl
theorem c30_31e : c30_31 = .skip := by kernel_rfl
theorem c30_32e : c30_32 = .exit 0 := by kernel_rfl
theorem c30_33e : c30_33 = .seq c30_34 c30_36 := by kernel_rfl
theorem c30_34e : c30_34 = .block 1 c30_35 := by kernel_rfl
theorem c30_35e : c30_35 = .region 11 r30_35 false := by kernel_rfl
theorem c30_36e : c30_36 = .region 10 r30_36 false := by kernel_rfl
theorem c30_37e : c30_37 = .seq c30_38 c30_39 := by kernel_rfl
theorem c30_38e : c30_38 = .region 12 r30_38 false := by kernel_rfl
theorem c30_39e : c30_39 = .seq c30_40 c30_41 := by kernel_rfl
theorem c30_40e : c30_40 = .region 13 r30_40 false := by kernel_rfl
theorem c30_41e : c30_41 = .ret := by kernel_rfl
noncomputable def tontineref03_Reader_Num.R (b_2 : Nat) : Pst (Int × T_tontineref03_Reader) where
  ε := Unit
  v := fun r x => .int .u64 r.1
  H := fun r x => [⟨1, b_2, [.string (bs r.2.S_), .bool r.2.Bad]⟩]
  B := fun r x => []
noncomputable def tontineref03_Reader_Num.cx (b_2 : Nat) (w0 : World) (S0 : Fam) : Cx (Int × T_tontineref03_Reader) := ⟨Try.prog, 30, Try.f30, 74, w0, S0, [1], 1, tontineref03_Reader_Num.R b_2⟩
theorem tontineref03_Reader_Num_l0_ok (n : Nat) (r_1 : T_tontineref03_Reader) (n_5 : Int) (b_2 : Nat) (w0 : World) (S0 : Fam) :
    ∀ (k : Nat) (x_15 : Int) (i_16 : Int), GoO (tontineref03_Reader_Num.cx b_2 w0 S0) [(0, .pointer (some ⟨b_2, 0, none⟩)), (3, .int .i64 n_5), (4, .int .u64 x_15), (5, .int .i64 i_16)] [⟨1, b_2, [.string (bs r_1.S_), .bool r_1.Bad]⟩] [] [.code c30_27, .inLoop c30_27, .inBlock 0, .code c30_37] (tontineref03_Reader_Num.l0 n r_1 n_5 k x_15 i_16) := by
  intro k
  induction k with
  | zero => intros; rw [tontineref03_Reader_Num.l0.eq_1]; exact GoO.stop
  | succ k ih0 =>
    intro x_15 i_16
    rw [tontineref03_Reader_Num.l0.eq_2]
    refine GoO.seq' c30_27e ?_
    refine GoO.seq' c30_28e ?_
    refine GoO.region' (is := [0, 1, 2]) c30_29e (by kernel_rfl) ?_
    refine GoO.exec (is := [0, 1, 2]) (hs := [.p, .p, .p]) (rest := []) (ks := [0, 3, 4, 5, 50]) (env' := [(0, .pointer (some ⟨b_2, 0, none⟩)), (3, .int .i64 n_5), (4, .int .u64 x_15), (5, .int .i64 i_16), (50, .bool (decide (i_16 ≤ n_5)))]) (H' := [⟨1, b_2, [.string (bs r_1.S_), .bool r_1.Bad]⟩]) (ps := []) (by kernel_rfl) trivial ?_
    refine GoO.regionEnd ?_
    refine GoO.ite' c30_30e (by kernel_rfl) (fun h17 => ?_) (fun h17 => ?_)
    · refine GoO.skip' c30_31e ?_
      refine GoO.seq' c30_33e ?_
      refine GoO.block' c30_34e ?_
      refine GoO.region' (is := [0, 1, 2, 3, 4, 5, 6, 7, 8, 9, 10]) c30_35e (by kernel_rfl) ?_
      refine GoO.guard (fun h18 => ?_)
      refine GoO.exec (is := [0, 1, 2, 3, 4, 5, 6, 7, 8, 9, 10]) (hs := [.p, .p, .p, .p, .p, .b 0, .p, .p, .p, .p, .p]) (rest := []) (ks := [0, 3, 4, 5]) (env' := [(0, .pointer (some ⟨b_2, 0, none⟩)), (3, .int .i64 n_5), (4, .int .u64 (wu64 ((wu64 (256 * x_15)) + (wu64 ((rdB r_1.S_ i_16).toNat : Int))))), (5, .int .i64 i_16)]) (H' := [⟨1, b_2, [.string (bs r_1.S_), .bool r_1.Bad]⟩]) (ps := [b_2 = b_2, (0 : Int) ≤ i_16, i_16 < (r_1.S_.length : Int)]) (by kernel_rfl) (And.intro rfl (And.intro h18.1 (And.intro h18.2 trivial))) ?_
      refine GoO.regionEnd ?_
      refine GoO.inBlock ?_
      refine GoO.region' (is := [0, 1, 2]) c30_36e (by kernel_rfl) ?_
      refine GoO.exec (is := [0, 1, 2]) (hs := [.p, .p, .p]) (rest := []) (ks := [0, 3, 4, 5]) (env' := [(0, .pointer (some ⟨b_2, 0, none⟩)), (3, .int .i64 n_5), (4, .int .u64 (wu64 ((wu64 (256 * x_15)) + (wu64 ((rdB r_1.S_ i_16).toNat : Int))))), (5, .int .i64 (wi64 (i_16 + 1)))]) (H' := [⟨1, b_2, [.string (bs r_1.S_), .bool r_1.Bad]⟩]) (ps := []) (by kernel_rfl) trivial ?_
      refine GoO.regionEnd ?_
      refine GoO.inLoop ?_
      exact GoO.sub (ks := [0, 3, 4, 5]) (hk := [0]) (bk := []) (by kernel_rfl) (by kernel_rfl) (by kernel_rfl) (ih0 (wu64 ((wu64 (256 * x_15)) + (wu64 ((rdB r_1.S_ i_16).toNat : Int)))) (wi64 (i_16 + 1)))
    · refine GoO.exit' c30_32e rfl ?_
      refine GoO.seq' c30_37e ?_
      refine GoO.region' (is := [0, 1, 2, 3, 4, 5, 6, 7, 8, 9, 10]) c30_38e (by kernel_rfl) ?_
      refine GoO.guard (fun h19 => ?_)
      refine GoO.exec (is := [0, 1, 2, 3, 4, 5, 6, 7, 8, 9, 10]) (hs := [.p, .p, .p, .p, .b 0, .p, .p, .p, .p, .p, .b 0]) (rest := []) (ks := [4]) (env' := [(4, .int .u64 x_15)]) (H' := [⟨1, b_2, [.string (bs (r_1.S_.drop (wi64 (n_5 + 1)).toNat)), .bool r_1.Bad]⟩]) (ps := [b_2 = b_2, (0 : Int) ≤ (wi64 (n_5 + 1)), (wi64 (n_5 + 1)) ≤ (r_1.S_.length : Int), b_2 = b_2]) (by kernel_rfl) (And.intro rfl (And.intro h19.1 (And.intro h19.2 (And.intro rfl trivial)))) ?_
      refine GoO.regionEnd ?_
      refine GoO.seq' c30_39e ?_
      refine GoO.region' (is := [0, 1]) c30_40e (by kernel_rfl) ?_
      refine GoO.exec (is := [0, 1]) (hs := [.p, .p]) (rest := []) (ks := [2]) (env' := [(2, .int .u64 x_15)]) (H' := [⟨1, b_2, [.string (bs (r_1.S_.drop (wi64 (n_5 + 1)).toNat)), .bool r_1.Bad]⟩]) (ps := []) (by kernel_rfl) trivial ?_
      refine GoO.regionEnd ?_
      exact GoO.ret' (h := c30_41e) (hs := []) (ps := []) (hk := [0]) (bk := []) Try.func30 () (by kernel_rfl) trivial (by kernel_rfl) (by kernel_rfl)
theorem tontineref03_Reader_Num_j1_ok (n : Nat) (r_1 : T_tontineref03_Reader) (n_5 : Int) (b_2 : Nat) (w0 : World) (S0 : Fam) (b_11 : Bool) :
    GoO (tontineref03_Reader_Num.cx b_2 w0 S0) [(0, .pointer (some ⟨b_2, 0, none⟩)), (3, .int .i64 n_5), (45, .bool b_11)] [⟨1, b_2, [.string (bs r_1.S_), .bool r_1.Bad]⟩] [] [.code c30_13, .code c30_20] (tontineref03_Reader_Num.j1 n r_1 n_5 b_11) := by
  unfold tontineref03_Reader_Num.j1
  refine GoO.ite' c30_13e (by kernel_rfl) (fun h12 => ?_) (fun h12 => ?_)
  · refine GoO.seq' c30_14e ?_
    refine GoO.region' (is := [0, 1]) c30_15e (by kernel_rfl) ?_
    refine GoO.exec (is := [0]) (hs := [.p]) (rest := [1]) (ks := [46]) (env' := [(46, .pointer (some ⟨b_2, 0, none⟩))]) (H' := [⟨1, b_2, [.string (bs r_1.S_), .bool r_1.Bad]⟩]) (ps := []) (by kernel_rfl) trivial ?_
    refine OpTo.go (GoO.call rfl (by kernel_rfl) (by kernel_rfl) (tontineref03_Reader_Fail_ok n r_1 b_2) [[0], [1]] [(1, 1)] [(1, 0)] [] (hks := []) (bks := []) (by kernel_rfl) (by kernel_rfl) (by kernel_rfl) (.inl rfl) rfl rfl (by kernel_rfl) (by kernel_rfl) _ (fun _ _ => rfl) _ _ (fun _ _ => rfl) (fun _ _ => rfl) (fun _ _ => by kernel_rfl) (fun _ _ => by kernel_rfl) (fun r_13 x_14 => ?_))
    refine GoO.shape (env' := [(46, .pointer (some ⟨b_2, 0, none⟩)), (47, .tuple ⟨[]⟩)]) (H' := [⟨1, b_2, [.string (bs r_13.S_), .bool r_13.Bad]⟩]) (B' := []) (ks := [46, 47]) (by kernel_rfl) (by kernel_rfl) (by kernel_rfl) ?_
    refine GoO.regionEnd ?_
    refine GoO.seq' c30_16e ?_
    refine GoO.region' (is := [0]) c30_17e (by kernel_rfl) ?_
    refine GoO.exec (is := [0]) (hs := [.p]) (rest := []) (ks := [2]) (env' := [(2, .int .u64 0)]) (H' := [⟨1, b_2, [.string (bs r_13.S_), .bool r_13.Bad]⟩]) (ps := []) (by kernel_rfl) trivial ?_
    refine GoO.regionEnd ?_
    exact GoO.ret' (h := c30_18e) (hs := []) (ps := []) (hk := [0]) (bk := []) Try.func30 () (by kernel_rfl) trivial (by kernel_rfl) (by kernel_rfl)
  · refine GoO.skip' c30_19e ?_
    refine GoO.seq' c30_20e ?_
    refine GoO.region' (is := [0]) c30_21e (by kernel_rfl) ?_
    refine GoO.exec (is := [0]) (hs := [.p]) (rest := []) (ks := [0, 3, 4]) (env' := [(0, .pointer (some ⟨b_2, 0, none⟩)), (3, .int .i64 n_5), (4, .int .u64 0)]) (H' := [⟨1, b_2, [.string (bs r_1.S_), .bool r_1.Bad]⟩]) (ps := []) (by kernel_rfl) trivial ?_
    refine GoO.regionEnd ?_
    refine GoO.seq' c30_22e ?_
    refine GoO.seq' c30_23e ?_
    refine GoO.region' (is := [0]) c30_24e (by kernel_rfl) ?_
    refine GoO.exec (is := [0]) (hs := [.p]) (rest := []) (ks := [0, 3, 4, 5]) (env' := [(0, .pointer (some ⟨b_2, 0, none⟩)), (3, .int .i64 n_5), (4, .int .u64 0), (5, .int .i64 1)]) (H' := [⟨1, b_2, [.string (bs r_1.S_), .bool r_1.Bad]⟩]) (ps := []) (by kernel_rfl) trivial ?_
    refine GoO.regionEnd ?_
    refine GoO.block' c30_25e ?_
    refine GoO.loop' c30_26e ?_
    exact GoO.sub (ks := [0, 3, 4, 5]) (hk := [0]) (bk := []) (by kernel_rfl) (by kernel_rfl) (by kernel_rfl) (tontineref03_Reader_Num_l0_ok n r_1 n_5 b_2 w0 S0 n 0 1)
theorem tontineref03_Reader_Num_j0_ok (n : Nat) (r_1 : T_tontineref03_Reader) (b_2 : Nat) (w0 : World) (S0 : Fam) (n_5 : Int) :
    GoO (tontineref03_Reader_Num.cx b_2 w0 S0) [(0, .pointer (some ⟨b_2, 0, none⟩)), (3, .int .i64 n_5)] [⟨1, b_2, [.string (bs r_1.S_), .bool r_1.Bad]⟩] [] [.code c30_10] (tontineref03_Reader_Num.j0 n r_1 n_5) := by
  unfold tontineref03_Reader_Num.j0
  refine GoO.seq' c30_10e ?_
  refine GoO.seq' c30_11e ?_
  refine GoO.region' (is := [0, 1, 2, 3, 4, 5, 6, 7, 8, 9, 10, 11, 12, 13, 14, 15, 16, 17, 18, 19, 20, 21, 22, 23, 24, 25, 26, 27]) c30_12e (by kernel_rfl) ?_
  refine GoO.exec (is := [0, 1, 2]) (hs := [.p, .p, .p]) (rest := [3, 4, 5, 6, 7, 8, 9, 10, 11, 12, 13, 14, 15, 16, 17, 18, 19, 20, 21, 22, 23, 24, 25, 26, 27]) (ks := [0, 3, 20]) (env' := [(0, .pointer (some ⟨b_2, 0, none⟩)), (3, .int .i64 n_5), (20, .bool (decide (n_5 < 0)))]) (H' := [⟨1, b_2, [.string (bs r_1.S_), .bool r_1.Bad]⟩]) (ps := []) (by kernel_rfl) trivial ?_
  refine GoO.bsplit (t := 20) (by kernel_rfl) (fun h6 => ?_) (fun h6 => ?_)
  · refine GoO.exec (is := [3, 4, 5, 6, 7, 8, 9, 10, 11, 12, 13, 14, 15, 16, 17, 18, 19, 20, 21, 22, 23, 24, 25, 26, 27]) (hs := [.p, .p, .p, .p, .p, .p, .p, .p, .p, .p, .p, .p, .p, .p, .p, .p, .p, .p, .p, .p, .p, .p, .p, .p, .p]) (rest := []) (ks := [0, 3, 45]) (env' := [(0, .pointer (some ⟨b_2, 0, none⟩)), (3, .int .i64 n_5), (45, .bool true)]) (H' := [⟨1, b_2, [.string (bs r_1.S_), .bool r_1.Bad]⟩]) (ps := []) (by kernel_rfl) trivial ?_
    refine GoO.regionEnd ?_
    exact GoO.sub (ks := [0, 3, 45]) (hk := [0]) (bk := []) (by kernel_rfl) (by kernel_rfl) (by kernel_rfl) (tontineref03_Reader_Num_j1_ok n r_1 n_5 b_2 w0 S0 true)
  · refine GoO.exec (is := [3, 4, 5, 6]) (hs := [.p, .p, .p, .p]) (rest := [7, 8, 9, 10, 11, 12, 13, 14, 15, 16, 17, 18, 19, 20, 21, 22, 23, 24, 25, 26, 27]) (ks := [0, 3, 24]) (env' := [(0, .pointer (some ⟨b_2, 0, none⟩)), (3, .int .i64 n_5), (24, .bool (decide (n_5 > 8)))]) (H' := [⟨1, b_2, [.string (bs r_1.S_), .bool r_1.Bad]⟩]) (ps := []) (by kernel_rfl) trivial ?_
    refine GoO.bsplit (t := 24) (by kernel_rfl) (fun h7 => ?_) (fun h7 => ?_)
    · refine GoO.exec (is := [7, 8, 9, 10, 11, 12, 13, 14, 15, 16, 17, 18, 19, 20, 21, 22, 23, 24, 25, 26, 27]) (hs := [.p, .p, .p, .p, .p, .p, .p, .p, .p, .p, .p, .p, .p, .p, .p, .p, .p, .p, .p, .p, .p]) (rest := []) (ks := [0, 3, 45]) (env' := [(0, .pointer (some ⟨b_2, 0, none⟩)), (3, .int .i64 n_5), (45, .bool true)]) (H' := [⟨1, b_2, [.string (bs r_1.S_), .bool r_1.Bad]⟩]) (ps := []) (by kernel_rfl) trivial ?_
      refine GoO.regionEnd ?_
      exact GoO.sub (ks := [0, 3, 45]) (hk := [0]) (bk := []) (by kernel_rfl) (by kernel_rfl) (by kernel_rfl) (tontineref03_Reader_Num_j1_ok n r_1 n_5 b_2 w0 S0 true)
    · refine GoO.exec (is := [7, 8, 9, 10, 11, 12, 13, 14, 15, 16]) (hs := [.p, .p, .p, .b 0, .p, .p, .p, .p, .p, .p]) (rest := [17, 18, 19, 20, 21, 22, 23, 24, 25, 26, 27]) (ks := [0, 3, 34]) (env' := [(0, .pointer (some ⟨b_2, 0, none⟩)), (3, .int .i64 n_5), (34, .bool (decide ((r_1.S_.length : Int) < (wi64 (n_5 + 1)))))]) (H' := [⟨1, b_2, [.string (bs r_1.S_), .bool r_1.Bad]⟩]) (ps := [b_2 = b_2]) (by kernel_rfl) (And.intro rfl trivial) ?_
      refine GoO.bsplit (t := 34) (by kernel_rfl) (fun h8 => ?_) (fun h8 => ?_)
      · refine GoO.exec (is := [17, 18, 19, 20, 21, 22, 23, 24, 25, 26, 27]) (hs := [.p, .p, .p, .p, .p, .p, .p, .p, .p, .p, .p]) (rest := []) (ks := [0, 3, 45]) (env' := [(0, .pointer (some ⟨b_2, 0, none⟩)), (3, .int .i64 n_5), (45, .bool true)]) (H' := [⟨1, b_2, [.string (bs r_1.S_), .bool r_1.Bad]⟩]) (ps := []) (by kernel_rfl) trivial ?_
        refine GoO.regionEnd ?_
        exact GoO.sub (ks := [0, 3, 45]) (hk := [0]) (bk := []) (by kernel_rfl) (by kernel_rfl) (by kernel_rfl) (tontineref03_Reader_Num_j1_ok n r_1 n_5 b_2 w0 S0 true)
      · refine GoO.exec (is := [17, 18, 19]) (hs := [.p, .p, .p]) (rest := [20, 21, 22, 23, 24, 25, 26, 27]) (ks := [0, 3, 34, 37]) (env' := [(0, .pointer (some ⟨b_2, 0, none⟩)), (3, .int .i64 n_5), (34, .bool false), (37, .bool (decide (n_5 > 0)))]) (H' := [⟨1, b_2, [.string (bs r_1.S_), .bool r_1.Bad]⟩]) (ps := []) (by kernel_rfl) trivial ?_
        refine GoO.bsplit (t := 37) (by kernel_rfl) (fun h9 => ?_) (fun h9 => ?_)
        · refine GoO.guard (fun h10 => ?_)
          refine GoO.exec (is := [20, 21, 22, 23, 24, 25, 26, 27]) (hs := [.p, .p, .p, .b 0, .p, .p, .p, .p]) (rest := []) (ks := [0, 3, 45]) (env' := [(0, .pointer (some ⟨b_2, 0, none⟩)), (3, .int .i64 n_5), (45, .bool (((rdB r_1.S_ 1).toNat : Int) == 0))]) (H' := [⟨1, b_2, [.string (bs r_1.S_), .bool r_1.Bad]⟩]) (ps := [b_2 = b_2, (0 : Int) ≤ 1, 1 < (r_1.S_.length : Int)]) (by kernel_rfl) (And.intro rfl (And.intro h10.1 (And.intro h10.2 trivial))) ?_
          refine GoO.regionEnd ?_
          exact GoO.sub (ks := [0, 3, 45]) (hk := [0]) (bk := []) (by kernel_rfl) (by kernel_rfl) (by kernel_rfl) (tontineref03_Reader_Num_j1_ok n r_1 n_5 b_2 w0 S0 (((rdB r_1.S_ 1).toNat : Int) == 0))
        · refine GoO.exec (is := [20, 21, 22, 23, 24, 25, 26, 27]) (hs := [.p, .p, .p, .p, .p, .p, .p, .p]) (rest := []) (ks := [0, 3, 45]) (env' := [(0, .pointer (some ⟨b_2, 0, none⟩)), (3, .int .i64 n_5), (45, .bool false)]) (H' := [⟨1, b_2, [.string (bs r_1.S_), .bool r_1.Bad]⟩]) (ps := []) (by kernel_rfl) trivial ?_
          refine GoO.regionEnd ?_
          exact GoO.sub (ks := [0, 3, 45]) (hk := [0]) (bk := []) (by kernel_rfl) (by kernel_rfl) (by kernel_rfl) (tontineref03_Reader_Num_j1_ok n r_1 n_5 b_2 w0 S0 false)
theorem tontineref03_Reader_Num_ok (n : Nat) (r_1 : T_tontineref03_Reader) (b_2 : Nat) :
    Meets Try.prog 30 [.pointer (some ⟨b_2, 0, none⟩)] 1 [1] [⟨1, b_2, [.string (bs r_1.S_), .bool r_1.Bad]⟩] [] (tontineref03_Reader_Num.f n r_1) (tontineref03_Reader_Num.R b_2) := by
  refine Meets.of (c := c30_0) (n := 74) Try.func30 (by kernel_rfl) (by kernel_rfl) (by kernel_rfl) fun w0 S0 => ?_
  unfold tontineref03_Reader_Num.f
  show GoO (tontineref03_Reader_Num.cx b_2 w0 S0) [(0, .pointer (some ⟨b_2, 0, none⟩))] [⟨1, b_2, [.string (bs r_1.S_), .bool r_1.Bad]⟩] [] [.code c30_0] _
  refine GoO.seq' c30_0e ?_
  refine GoO.region' (is := [0]) c30_1e (by kernel_rfl) ?_
  refine GoO.exec (is := [0]) (hs := [.p]) (rest := []) (ks := [0]) (env' := [(0, .pointer (some ⟨b_2, 0, none⟩))]) (H' := [⟨1, b_2, [.string (bs r_1.S_), .bool r_1.Bad]⟩]) (ps := []) (by kernel_rfl) trivial ?_
  refine GoO.regionEnd ?_
  refine GoO.seq' c30_2e ?_
  refine GoO.region' (is := [0]) c30_3e (by kernel_rfl) ?_
  refine GoO.exec (is := [0]) (hs := [.p]) (rest := []) (ks := [0, 3]) (env' := [(0, .pointer (some ⟨b_2, 0, none⟩)), (3, .int .i64 (-1))]) (H' := [⟨1, b_2, [.string (bs r_1.S_), .bool r_1.Bad]⟩]) (ps := []) (by kernel_rfl) trivial ?_
  refine GoO.regionEnd ?_
  refine GoO.seq' c30_4e ?_
  refine GoO.seq' c30_5e ?_
  refine GoO.region' (is := [0, 1, 2, 3, 4, 5]) c30_6e (by kernel_rfl) ?_
  refine GoO.exec (is := [0, 1, 2, 3, 4, 5]) (hs := [.p, .p, .p, .b 0, .p, .p]) (rest := []) (ks := [0, 3, 11]) (env' := [(0, .pointer (some ⟨b_2, 0, none⟩)), (3, .int .i64 (-1)), (11, .bool (decide ((r_1.S_.length : Int) > 0)))]) (H' := [⟨1, b_2, [.string (bs r_1.S_), .bool r_1.Bad]⟩]) (ps := [b_2 = b_2]) (by kernel_rfl) (And.intro rfl trivial) ?_
  refine GoO.regionEnd ?_
  refine GoO.ite' c30_7e (by kernel_rfl) (fun h3 => ?_) (fun h3 => ?_)
  · refine GoO.region' (is := [0, 1, 2, 3, 4, 5, 6]) c30_8e (by kernel_rfl) ?_
    refine GoO.guard (fun h4 => ?_)
    refine GoO.exec (is := [0, 1, 2, 3, 4, 5, 6]) (hs := [.p, .p, .p, .b 0, .p, .p, .p]) (rest := []) (ks := [0, 3]) (env' := [(0, .pointer (some ⟨b_2, 0, none⟩)), (3, .int .i64 (wi64 ((rdB r_1.S_ 0).toNat : Int)))]) (H' := [⟨1, b_2, [.string (bs r_1.S_), .bool r_1.Bad]⟩]) (ps := [b_2 = b_2, (0 : Int) ≤ 0, 0 < (r_1.S_.length : Int)]) (by kernel_rfl) (And.intro rfl (And.intro h4.1 (And.intro h4.2 trivial))) ?_
    refine GoO.regionEnd ?_
    exact GoO.sub (ks := [0, 3]) (hk := [0]) (bk := []) (by kernel_rfl) (by kernel_rfl) (by kernel_rfl) (tontineref03_Reader_Num_j0_ok n r_1 b_2 w0 S0 (wi64 ((rdB r_1.S_ 0).toNat : Int)))
  · refine GoO.skip' c30_9e ?_
    exact GoO.sub (ks := [0, 3]) (hk := [0]) (bk := []) (by kernel_rfl) (by kernel_rfl) (by kernel_rfl) (tontineref03_Reader_Num_j0_ok n r_1 b_2 w0 S0 (-1))

/-! (*tontine/pack.Reader).Int -/
noncomputable def c31_0 : Code := bodyOf Try.f31
noncomputable def c31_1 : Code := cdL c31_0
noncomputable def c31_2 : Code := cdR c31_0
noncomputable def c31_3 : Code := cdL c31_2
noncomputable def c31_4 : Code := cdR c31_2
noncomputable def c31_5 : Code := cdL c31_4
noncomputable def c31_6 : Code := cdR c31_4
noncomputable def r31_1 : Array Oper := cdO c31_1
noncomputable def r31_3 : Array Oper := cdO c31_3
noncomputable def r31_5 : Array Oper := cdO c31_5
theorem c31_0e : c31_0 = .seq c31_1 c31_2 := by kernel_rfl
theorem c31_1e : c31_1 = .region 0 r31_1 false := by kernel_rfl
theorem c31_2e : c31_2 = .seq c31_3 c31_4 := by kernel_rfl
theorem c31_3e : c31_3 = .region 1 r31_3 false := by kernel_rfl
theorem c31_4e : c31_4 = .seq c31_5 c31_6 := by kernel_rfl
theorem c31_5e : c31_5 = .region 2 r31_5 false := by kernel_rfl
theorem c31_6e : c31_6 = .ret := by kernel_rfl
noncomputable def pack_Reader_Int.R (b_2 : Nat) : Pst (Int × T_pack_Reader) where
  ε := Unit
  v := fun r x => .int .i64 r.1
  H := fun r x => [⟨1, b_2, [.string (bs r.2.s), .bool r.2.bad]⟩]
  B := fun r x => []
noncomputable def pack_Reader_Int.cx (b_2 : Nat) (w0 : World) (S0 : Fam) : Cx (Int × T_pack_Reader) := ⟨Try.prog, 31, Try.f31, 14, w0, S0, [1], 1, pack_Reader_Int.R b_2⟩
theorem pack_Reader_Int_ok (n : Nat) (r_1 : T_pack_Reader) (b_2 : Nat) :
    Meets Try.prog 31 [.pointer (some ⟨b_2, 0, none⟩)] 1 [1] [⟨1, b_2, [.string (bs r_1.s), .bool r_1.bad]⟩] [] (pack_Reader_Int.f n r_1) (pack_Reader_Int.R b_2) := by
  refine Meets.of (c := c31_0) (n := 14) Try.func31 (by kernel_rfl) (by kernel_rfl) (by kernel_rfl) fun w0 S0 => ?_
  unfold pack_Reader_Int.f
  show GoO (pack_Reader_Int.cx b_2 w0 S0) [(0, .pointer (some ⟨b_2, 0, none⟩))] [⟨1, b_2, [.string (bs r_1.s), .bool r_1.bad]⟩] [] [.code c31_0] _
  refine GoO.seq' c31_0e ?_
  refine GoO.region' (is := [0]) c31_1e (by kernel_rfl) ?_
  refine GoO.exec (is := [0]) (hs := [.p]) (rest := []) (ks := [0]) (env' := [(0, .pointer (some ⟨b_2, 0, none⟩))]) (H' := [⟨1, b_2, [.string (bs r_1.s), .bool r_1.bad]⟩]) (ps := []) (by kernel_rfl) trivial ?_
  refine GoO.regionEnd ?_
  refine GoO.seq' c31_2e ?_
  refine GoO.region' (is := [0, 1, 2]) c31_3e (by kernel_rfl) ?_
  refine GoO.exec (is := [0]) (hs := [.p]) (rest := [1, 2]) (ks := [4]) (env' := [(4, .pointer (some ⟨b_2, 0, none⟩))]) (H' := [⟨1, b_2, [.string (bs r_1.s), .bool r_1.bad]⟩]) (ps := []) (by kernel_rfl) trivial ?_
  refine OpTo.go (GoO.call rfl (by kernel_rfl) (by kernel_rfl) (pack_Reader_Num_ok n r_1 b_2) [[0], [1]] [(1, 1)] [(1, 0)] [] (hks := []) (bks := []) (by kernel_rfl) (by kernel_rfl) (by kernel_rfl) (.inl rfl) rfl rfl (by kernel_rfl) (by kernel_rfl) _ (fun _ _ => rfl) _ _ (fun _ _ => rfl) (fun _ _ => rfl) (fun _ _ => by kernel_rfl) (fun _ _ => by kernel_rfl) (fun r_3 x_4 => ?_))
  refine GoO.shape (env' := [(4, .pointer (some ⟨b_2, 0, none⟩)), (5, .int .u64 r_3.1)]) (H' := [⟨1, b_2, [.string (bs r_3.2.s), .bool r_3.2.bad]⟩]) (B' := []) (ks := [4, 5]) (by kernel_rfl) (by kernel_rfl) (by kernel_rfl) ?_
  refine GoO.exec (is := [2]) (hs := [.p]) (rest := []) (ks := [3]) (env' := [(3, .int .u64 r_3.1)]) (H' := [⟨1, b_2, [.string (bs r_3.2.s), .bool r_3.2.bad]⟩]) (ps := []) (by kernel_rfl) trivial ?_
  refine GoO.regionEnd ?_
  refine GoO.seq' c31_4e ?_
  refine GoO.region' (is := [0, 1, 2, 3, 4, 5, 6, 7, 8]) c31_5e (by kernel_rfl) ?_
  refine GoO.exec (is := [0, 1, 2, 3, 4, 5, 6, 7, 8]) (hs := [.p, .p, .p, .p, .p, .p, .p, .p, .p]) (rest := []) (ks := [2]) (env' := [(2, .int .i64 (bXor .i64 (wi64 (shR .u64 r_3.1 1)) (wi64 (0 - (wi64 (bAnd .u64 r_3.1 1))))))]) (H' := [⟨1, b_2, [.string (bs r_3.2.s), .bool r_3.2.bad]⟩]) (ps := [(0 : Int) ≤ 1]) (by kernel_rfl) (And.intro (by decide) trivial) ?_
  refine GoO.regionEnd ?_
  exact GoO.ret' (h := c31_6e) (hs := []) (ps := []) (hk := [0]) (bk := []) Try.func31 () (by kernel_rfl) trivial (by kernel_rfl) (by kernel_rfl)

/-! (*tontine/tontineref03.Reader).Int -/
noncomputable def c32_0 : Code := bodyOf Try.f32
noncomputable def c32_1 : Code := cdL c32_0
noncomputable def c32_2 : Code := cdR c32_0
noncomputable def c32_3 : Code := cdL c32_2
noncomputable def c32_4 : Code := cdR c32_2
noncomputable def c32_5 : Code := cdL c32_4
noncomputable def c32_6 : Code := cdL c32_5
noncomputable def c32_7 : Code := cdR c32_5
noncomputable def c32_8 : Code := cdL c32_7
noncomputable def c32_9 : Code := cdL c32_8
noncomputable def c32_10 : Code := cdR c32_8
noncomputable def c32_11 : Code := cdR c32_7
noncomputable def c32_12 : Code := cdR c32_4
noncomputable def c32_13 : Code := cdL c32_12
noncomputable def c32_14 : Code := cdR c32_12
noncomputable def r32_1 : Array Oper := cdO c32_1
noncomputable def r32_3 : Array Oper := cdO c32_3
noncomputable def r32_6 : Array Oper := cdO c32_6
noncomputable def r32_9 : Array Oper := cdO c32_9
noncomputable def r32_13 : Array Oper := cdO c32_13
theorem c32_0e : c32_0 = .seq c32_1 c32_2 := by kernel_rfl
theorem c32_1e : c32_1 = .region 0 r32_1 false := by kernel_rfl
theorem c32_2e : c32_2 = .seq c32_3 c32_4 := by kernel_rfl
theorem c32_3e : c32_3 = .region 1 r32_3 false := by kernel_rfl
theorem c32_4e : c32_4 = .seq c32_5 c32_12 := by kernel_rfl
theorem c32_5e : c32_5 = .seq c32_6 c32_7 := by kernel_rfl
theorem c32_6e : c32_6 = .region 2 r32_6 false := by kernel_rfl
theorem c32_7e : c32_7 = .cond (cdC c32_7) c32_8 c32_11 := by kernel_rfl
theorem c32_8e : c32_8 = .seq c32_9 c32_10 := by kernel_rfl
theorem c32_9e : c32_9 = .region 3 r32_9 false := by kernel_rfl
theorem c32_10e : c32_10 = .ret := by kernel_rfl
theorem c32_11e : c32_11 = .skip := by kernel_rfl
theorem c32_12e : c32_12 = .seq c32_13 c32_14 := by kernel_rfl
theorem c32_13e : c32_13 = .region 4 r32_13 false := by kernel_rfl
theorem c32_14e : c32_14 = .ret := by kernel_rfl
noncomputable def tontineref03_Reader_Int.R (b_2 : Nat) : Pst (Int × T_tontineref03_Reader) where
  ε := Unit
  v := fun r x => .int .i64 r.1
  H := fun r x => [⟨1, b_2, [.string (bs r.2.S_), .bool r.2.Bad]⟩]
  B := fun r x => []
noncomputable def tontineref03_Reader_Int.cx (b_2 : Nat) (w0 : World) (S0 : Fam) : Cx (Int × T_tontineref03_Reader) := ⟨Try.prog, 32, Try.f32, 17, w0, S0, [1], 1, tontineref03_Reader_Int.R b_2⟩
theorem tontineref03_Reader_Int_ok (n : Nat) (r_1 : T_tontineref03_Reader) (b_2 : Nat) :
    Meets Try.prog 32 [.pointer (some ⟨b_2, 0, none⟩)] 1 [1] [⟨1, b_2, [.string (bs r_1.S_), .bool r_1.Bad]⟩] [] (tontineref03_Reader_Int.f n r_1) (tontineref03_Reader_Int.R b_2) := by
  refine Meets.of (c := c32_0) (n := 17) Try.func32 (by kernel_rfl) (by kernel_rfl) (by kernel_rfl) fun w0 S0 => ?_
  unfold tontineref03_Reader_Int.f
  show GoO (tontineref03_Reader_Int.cx b_2 w0 S0) [(0, .pointer (some ⟨b_2, 0, none⟩))] [⟨1, b_2, [.string (bs r_1.S_), .bool r_1.Bad]⟩] [] [.code c32_0] _
  refine GoO.seq' c32_0e ?_
  refine GoO.region' (is := [0]) c32_1e (by kernel_rfl) ?_
  refine GoO.exec (is := [0]) (hs := [.p]) (rest := []) (ks := [0]) (env' := [(0, .pointer (some ⟨b_2, 0, none⟩))]) (H' := [⟨1, b_2, [.string (bs r_1.S_), .bool r_1.Bad]⟩]) (ps := []) (by kernel_rfl) trivial ?_
  refine GoO.regionEnd ?_
  refine GoO.seq' c32_2e ?_
  refine GoO.region' (is := [0, 1, 2]) c32_3e (by kernel_rfl) ?_
  refine GoO.exec (is := [0]) (hs := [.p]) (rest := [1, 2]) (ks := [4]) (env' := [(4, .pointer (some ⟨b_2, 0, none⟩))]) (H' := [⟨1, b_2, [.string (bs r_1.S_), .bool r_1.Bad]⟩]) (ps := []) (by kernel_rfl) trivial ?_
  refine OpTo.go (GoO.call rfl (by kernel_rfl) (by kernel_rfl) (tontineref03_Reader_Num_ok n r_1 b_2) [[0], [1]] [(1, 1)] [(1, 0)] [] (hks := []) (bks := []) (by kernel_rfl) (by kernel_rfl) (by kernel_rfl) (.inl rfl) rfl rfl (by kernel_rfl) (by kernel_rfl) _ (fun _ _ => rfl) _ _ (fun _ _ => rfl) (fun _ _ => rfl) (fun _ _ => by kernel_rfl) (fun _ _ => by kernel_rfl) (fun r_3 x_5 => ?_))
  refine GoO.shape (env' := [(4, .pointer (some ⟨b_2, 0, none⟩)), (5, .int .u64 r_3.1)]) (H' := [⟨1, b_2, [.string (bs r_3.2.S_), .bool r_3.2.Bad]⟩]) (B' := []) (ks := [4, 5]) (by kernel_rfl) (by kernel_rfl) (by kernel_rfl) ?_
  refine GoO.exec (is := [2]) (hs := [.p]) (rest := []) (ks := [3]) (env' := [(3, .int .u64 r_3.1)]) (H' := [⟨1, b_2, [.string (bs r_3.2.S_), .bool r_3.2.Bad]⟩]) (ps := []) (by kernel_rfl) trivial ?_
  refine GoO.regionEnd ?_
  refine GoO.seq' c32_4e ?_
  refine GoO.seq' c32_5e ?_
  refine GoO.region' (is := [0, 1, 2]) c32_6e (by kernel_rfl) ?_
  refine GoO.exec (is := [0, 1, 2]) (hs := [.p, .p, .p]) (rest := []) (ks := [3, 8]) (env' := [(3, .int .u64 r_3.1), (8, .bool ((r_3.1.tmod 2) == 0))]) (H' := [⟨1, b_2, [.string (bs r_3.2.S_), .bool r_3.2.Bad]⟩]) (ps := [(2 : Int) ≠ 0]) (by kernel_rfl) (And.intro (by decide) trivial) ?_
  refine GoO.regionEnd ?_
  refine GoO.ite' c32_7e (by kernel_rfl) (fun h4 => ?_) (fun h4 => ?_)
  · refine GoO.seq' c32_8e ?_
    refine GoO.region' (is := [0, 1, 2, 3]) c32_9e (by kernel_rfl) ?_
    refine GoO.exec (is := [0, 1, 2, 3]) (hs := [.p, .p, .p, .p]) (rest := []) (ks := [2]) (env' := [(2, .int .i64 (wi64 (wu64 (r_3.1.tdiv 2))))]) (H' := [⟨1, b_2, [.string (bs r_3.2.S_), .bool r_3.2.Bad]⟩]) (ps := [(2 : Int) ≠ 0]) (by kernel_rfl) (And.intro (by decide) trivial) ?_
    refine GoO.regionEnd ?_
    exact GoO.ret' (h := c32_10e) (hs := []) (ps := []) (hk := [0]) (bk := []) Try.func32 () (by kernel_rfl) trivial (by kernel_rfl) (by kernel_rfl)
  · refine GoO.skip' c32_11e ?_
    refine GoO.seq' c32_12e ?_
    refine GoO.region' (is := [0, 1, 2, 3, 4, 5]) c32_13e (by kernel_rfl) ?_
    refine GoO.exec (is := [0, 1, 2, 3, 4, 5]) (hs := [.p, .p, .p, .p, .p, .p]) (rest := []) (ks := [2]) (env' := [(2, .int .i64 (wi64 ((wi64 (0 - (wi64 (wu64 (r_3.1.tdiv 2))))) - 1)))]) (H' := [⟨1, b_2, [.string (bs r_3.2.S_), .bool r_3.2.Bad]⟩]) (ps := [(2 : Int) ≠ 0]) (by kernel_rfl) (And.intro (by decide) trivial) ?_
    refine GoO.regionEnd ?_
    exact GoO.ret' (h := c32_14e) (hs := []) (ps := []) (hk := [0]) (bk := []) Try.func32 () (by kernel_rfl) trivial (by kernel_rfl) (by kernel_rfl)

/-! (*tontine/pack.Reader).Bool -/
noncomputable def c33_0 : Code := bodyOf Try.f33
noncomputable def c33_1 : Code := cdL c33_0
noncomputable def c33_2 : Code := cdR c33_0
noncomputable def c33_3 : Code := cdL c33_2
noncomputable def c33_4 : Code := cdR c33_2
noncomputable def r33_1 : Array Oper := cdO c33_1
noncomputable def r33_3 : Array Oper := cdO c33_3
theorem c33_0e : c33_0 = .seq c33_1 c33_2 := by kernel_rfl
theorem c33_1e : c33_1 = .region 0 r33_1 false := by kernel_rfl
theorem c33_2e : c33_2 = .seq c33_3 c33_4 := by kernel_rfl
theorem c33_3e : c33_3 = .region 1 r33_3 false := by kernel_rfl
theorem c33_4e : c33_4 = .ret := by kernel_rfl
noncomputable def pack_Reader_Bool.R (b_2 : Nat) : Pst (Bool × T_pack_Reader) where
  ε := Unit
  v := fun r x => .bool r.1
  H := fun r x => [⟨1, b_2, [.string (bs r.2.s), .bool r.2.bad]⟩]
  B := fun r x => []
noncomputable def pack_Reader_Bool.cx (b_2 : Nat) (w0 : World) (S0 : Fam) : Cx (Bool × T_pack_Reader) := ⟨Try.prog, 33, Try.f33, 6, w0, S0, [1], 1, pack_Reader_Bool.R b_2⟩
theorem pack_Reader_Bool_ok (n : Nat) (r_1 : T_pack_Reader) (b_2 : Nat) :
    Meets Try.prog 33 [.pointer (some ⟨b_2, 0, none⟩)] 1 [1] [⟨1, b_2, [.string (bs r_1.s), .bool r_1.bad]⟩] [] (pack_Reader_Bool.f n r_1) (pack_Reader_Bool.R b_2) := by
  refine Meets.of (c := c33_0) (n := 6) Try.func33 (by kernel_rfl) (by kernel_rfl) (by kernel_rfl) fun w0 S0 => ?_
  unfold pack_Reader_Bool.f
  show GoO (pack_Reader_Bool.cx b_2 w0 S0) [(0, .pointer (some ⟨b_2, 0, none⟩))] [⟨1, b_2, [.string (bs r_1.s), .bool r_1.bad]⟩] [] [.code c33_0] _
  refine GoO.seq' c33_0e ?_
  refine GoO.region' (is := [0]) c33_1e (by kernel_rfl) ?_
  refine GoO.exec (is := [0]) (hs := [.p]) (rest := []) (ks := [0]) (env' := [(0, .pointer (some ⟨b_2, 0, none⟩))]) (H' := [⟨1, b_2, [.string (bs r_1.s), .bool r_1.bad]⟩]) (ps := []) (by kernel_rfl) trivial ?_
  refine GoO.regionEnd ?_
  refine GoO.seq' c33_2e ?_
  refine GoO.region' (is := [0, 1, 2, 3]) c33_3e (by kernel_rfl) ?_
  refine GoO.exec (is := [0]) (hs := [.p]) (rest := [1, 2, 3]) (ks := [3]) (env' := [(3, .pointer (some ⟨b_2, 0, none⟩))]) (H' := [⟨1, b_2, [.string (bs r_1.s), .bool r_1.bad]⟩]) (ps := []) (by kernel_rfl) trivial ?_
  refine OpTo.go (GoO.call rfl (by kernel_rfl) (by kernel_rfl) (pack_Reader_Up_ok n r_1 1 b_2) [[0], [1]] [(1, 1)] [(1, 0)] [] (hks := []) (bks := []) (by kernel_rfl) (by kernel_rfl) (by kernel_rfl) (.inl rfl) rfl rfl (by kernel_rfl) (by kernel_rfl) _ (fun _ _ => rfl) _ _ (fun _ _ => rfl) (fun _ _ => rfl) (fun _ _ => by kernel_rfl) (fun _ _ => by kernel_rfl) (fun r_3 x_4 => ?_))
  refine GoO.shape (env' := [(3, .pointer (some ⟨b_2, 0, none⟩)), (4, .int .i64 r_3.1)]) (H' := [⟨1, b_2, [.string (bs r_3.2.s), .bool r_3.2.bad]⟩]) (B' := []) (ks := [3, 4]) (by kernel_rfl) (by kernel_rfl) (by kernel_rfl) ?_
  refine GoO.exec (is := [2, 3]) (hs := [.p, .p]) (rest := []) (ks := [2]) (env' := [(2, .bool (r_3.1 == 1))]) (H' := [⟨1, b_2, [.string (bs r_3.2.s), .bool r_3.2.bad]⟩]) (ps := []) (by kernel_rfl) trivial ?_
  refine GoO.regionEnd ?_
  exact GoO.ret' (h := c33_4e) (hs := []) (ps := []) (hk := [0]) (bk := []) Try.func33 () (by kernel_rfl) trivial (by kernel_rfl) (by kernel_rfl)

/-! (*tontine/tontineref03.Reader).Up -/
noncomputable def c34_0 : Code := bodyOf Try.f34
noncomputable def c34_1 : Code := cdL c34_0
noncomputable def c34_2 : Code := cdR c34_0
noncomputable def c34_3 : Code := cdL c34_2
noncomputable def c34_4 : Code := cdR c34_2
noncomputable def c34_5 : Code := cdL c34_4
noncomputable def c34_6 : Code := cdL c34_5
noncomputable def c34_7 : Code := cdR c34_5
noncomputable def c34_8 : Code := cdL c34_7
noncomputable def c34_9 : Code := cdL c34_8
noncomputable def c34_10 : Code := cdR c34_8
noncomputable def c34_11 : Code := cdL c34_10
noncomputable def c34_12 : Code := cdR c34_10
noncomputable def c34_13 : Code := cdR c34_7
noncomputable def c34_14 : Code := cdR c34_4
noncomputable def c34_15 : Code := cdL c34_14
noncomputable def c34_16 : Code := cdR c34_14
noncomputable def r34_1 : Array Oper := cdO c34_1
noncomputable def r34_3 : Array Oper := cdO c34_3
noncomputable def r34_6 : Array Oper := cdO c34_6
noncomputable def r34_9 : Array Oper := cdO c34_9
noncomputable def r34_11 : Array Oper := cdO c34_11
noncomputable def r34_15 : Array Oper := cdO c34_15
theorem c34_0e : c34_0 = .seq c34_1 c34_2 := by kernel_rfl
theorem c34_1e : c34_1 = .region 0 r34_1 false := by kernel_rfl
theorem c34_2e : c34_2 = .seq c34_3 c34_4 := by kernel_rfl
theorem c34_3e : c34_3 = .region 1 r34_3 false := by kernel_rfl
theorem c34_4e : c34_4 = .seq c34_5 c34_14 := by kernel_rfl
theorem c34_5e : c34_5 = .seq c34_6 c34_7 := by kernel_rfl
theorem c34_6e : c34_6 = .region 2 r34_6 false := by kernel_rfl
theorem c34_7e : c34_7 = .cond (cdC c34_7) c34_8 c34_13 := by kernel_rfl
theorem c34_8e : c34_8 = .seq c34_9 c34_10 := by kernel_rfl
theorem c34_9e : c34_9 = .region 3 r34_9 false := by kernel_rfl
theorem c34_10e : c34_10 = .seq c34_11 c34_12 := by kernel_rfl
theorem c34_11e : c34_11 = .region 4 r34_11 false := by kernel_rfl
theorem c34_12e : c34_12 = .ret := by kernel_rfl
theorem c34_13e : c34_13 = .skip := by kernel_rfl
theorem c34_14e : c34_14 = .seq c34_15 c34_16 := by kernel_rfl
theorem c34_15e : c34_15 = .region 5 r34_15 false := by kernel_rfl
theorem c34_16e : c34_16 = .ret := by kernel_rfl
noncomputable def tontineref03_Reader_Up.R (b_2 : Nat) : Pst (Int × T_tontineref03_Reader) where
  ε := Unit
  v := fun r x => .int .i64 r.1
  H := fun r x => [⟨1, b_2, [.string (bs r.2.S_), .bool r.2.Bad]⟩]
  B := fun r x => []
noncomputable def tontineref03_Reader_Up.cx (b_2 : Nat) (w0 : World) (S0 : Fam) : Cx (Int × T_tontineref03_Reader) := ⟨Try.prog, 34, Try.f34, 20, w0, S0, [1], 1, tontineref03_Reader_Up.R b_2⟩
theorem tontineref03_Reader_Up_j0_ok (n : Nat) (r_4 : Int × T_tontineref03_Reader) (b_2 : Nat) (w0 : World) (S0 : Fam) (b_6 : Bool) :
    GoO (tontineref03_Reader_Up.cx b_2 w0 S0) [(0, .pointer (some ⟨b_2, 0, none⟩)), (5, .int .u64 r_4.1), (15, .bool b_6)] [⟨1, b_2, [.string (bs r_4.2.S_), .bool r_4.2.Bad]⟩] [] [.code c34_7, .code c34_14] (tontineref03_Reader_Up.j0 n r_4 b_6) := by
  unfold tontineref03_Reader_Up.j0
  refine GoO.ite' c34_7e (by kernel_rfl) (fun h7 => ?_) (fun h7 => ?_)
  · refine GoO.seq' c34_8e ?_
    refine GoO.region' (is := [0, 1]) c34_9e (by kernel_rfl) ?_
    refine GoO.exec (is := [0]) (hs := [.p]) (rest := [1]) (ks := [16]) (env' := [(16, .pointer (some ⟨b_2, 0, none⟩))]) (H' := [⟨1, b_2, [.string (bs r_4.2.S_), .bool r_4.2.Bad]⟩]) (ps := []) (by kernel_rfl) trivial ?_
    refine OpTo.go (GoO.call rfl (by kernel_rfl) (by kernel_rfl) (tontineref03_Reader_Fail_ok n r_4.2 b_2) [[0], [1]] [(1, 1)] [(1, 0)] [] (hks := []) (bks := []) (by kernel_rfl) (by kernel_rfl) (by kernel_rfl) (.inl rfl) rfl rfl (by kernel_rfl) (by kernel_rfl) _ (fun _ _ => rfl) _ _ (fun _ _ => rfl) (fun _ _ => rfl) (fun _ _ => by kernel_rfl) (fun _ _ => by kernel_rfl) (fun r_8 x_9 => ?_))
    refine GoO.shape (env' := [(16, .pointer (some ⟨b_2, 0, none⟩)), (17, .tuple ⟨[]⟩)]) (H' := [⟨1, b_2, [.string (bs r_8.S_), .bool r_8.Bad]⟩]) (B' := []) (ks := [16, 17]) (by kernel_rfl) (by kernel_rfl) (by kernel_rfl) ?_
    refine GoO.regionEnd ?_
    refine GoO.seq' c34_10e ?_
    refine GoO.region' (is := [0]) c34_11e (by kernel_rfl) ?_
    refine GoO.exec (is := [0]) (hs := [.p]) (rest := []) (ks := [4]) (env' := [(4, .int .i64 0)]) (H' := [⟨1, b_2, [.string (bs r_8.S_), .bool r_8.Bad]⟩]) (ps := []) (by kernel_rfl) trivial ?_
    refine GoO.regionEnd ?_
    exact GoO.ret' (h := c34_12e) (hs := []) (ps := []) (hk := [0]) (bk := []) Try.func34 () (by kernel_rfl) trivial (by kernel_rfl) (by kernel_rfl)
  · refine GoO.skip' c34_13e ?_
    refine GoO.seq' c34_14e ?_
    refine GoO.region' (is := [0, 1, 2]) c34_15e (by kernel_rfl) ?_
    refine GoO.exec (is := [0, 1, 2]) (hs := [.p, .p, .p]) (rest := []) (ks := [4]) (env' := [(4, .int .i64 (wi64 r_4.1))]) (H' := [⟨1, b_2, [.string (bs r_4.2.S_), .bool r_4.2.Bad]⟩]) (ps := []) (by kernel_rfl) trivial ?_
    refine GoO.regionEnd ?_
    exact GoO.ret' (h := c34_16e) (hs := []) (ps := []) (hk := [0]) (bk := []) Try.func34 () (by kernel_rfl) trivial (by kernel_rfl) (by kernel_rfl)
theorem tontineref03_Reader_Up_ok (n : Nat) (r_1 : T_tontineref03_Reader) (limit_3 : Int) (b_2 : Nat) :
    Meets Try.prog 34 [.pointer (some ⟨b_2, 0, none⟩), .int .i64 limit_3] 1 [1] [⟨1, b_2, [.string (bs r_1.S_), .bool r_1.Bad]⟩] [] (tontineref03_Reader_Up.f n r_1 limit_3) (tontineref03_Reader_Up.R b_2) := by
  refine Meets.of (c := c34_0) (n := 20) Try.func34 (by kernel_rfl) (by kernel_rfl) (by kernel_rfl) fun w0 S0 => ?_
  unfold tontineref03_Reader_Up.f
  show GoO (tontineref03_Reader_Up.cx b_2 w0 S0) [(0, .pointer (some ⟨b_2, 0, none⟩)), (1, .int .i64 limit_3)] [⟨1, b_2, [.string (bs r_1.S_), .bool r_1.Bad]⟩] [] [.code c34_0] _
  refine GoO.seq' c34_0e ?_
  refine GoO.region' (is := [0]) c34_1e (by kernel_rfl) ?_
  refine GoO.exec (is := [0]) (hs := [.p]) (rest := []) (ks := [0, 1]) (env' := [(0, .pointer (some ⟨b_2, 0, none⟩)), (1, .int .i64 limit_3)]) (H' := [⟨1, b_2, [.string (bs r_1.S_), .bool r_1.Bad]⟩]) (ps := []) (by kernel_rfl) trivial ?_
  refine GoO.regionEnd ?_
  refine GoO.seq' c34_2e ?_
  refine GoO.region' (is := [0, 1, 2]) c34_3e (by kernel_rfl) ?_
  refine GoO.exec (is := [0]) (hs := [.p]) (rest := [1, 2]) (ks := [0, 1, 6]) (env' := [(0, .pointer (some ⟨b_2, 0, none⟩)), (1, .int .i64 limit_3), (6, .pointer (some ⟨b_2, 0, none⟩))]) (H' := [⟨1, b_2, [.string (bs r_1.S_), .bool r_1.Bad]⟩]) (ps := []) (by kernel_rfl) trivial ?_
  refine OpTo.go (GoO.call rfl (by kernel_rfl) (by kernel_rfl) (tontineref03_Reader_Num_ok n r_1 b_2) [[0], [1]] [(1, 1)] [(1, 0)] [] (hks := []) (bks := []) (by kernel_rfl) (by kernel_rfl) (by kernel_rfl) (.inl rfl) rfl rfl (by kernel_rfl) (by kernel_rfl) _ (fun _ _ => rfl) _ _ (fun _ _ => rfl) (fun _ _ => rfl) (fun _ _ => by kernel_rfl) (fun _ _ => by kernel_rfl) (fun r_4 x_10 => ?_))
  refine GoO.shape (env' := [(0, .pointer (some ⟨b_2, 0, none⟩)), (1, .int .i64 limit_3), (6, .pointer (some ⟨b_2, 0, none⟩)), (7, .int .u64 r_4.1)]) (H' := [⟨1, b_2, [.string (bs r_4.2.S_), .bool r_4.2.Bad]⟩]) (B' := []) (ks := [0, 1, 6, 7]) (by kernel_rfl) (by kernel_rfl) (by kernel_rfl) ?_
  refine GoO.exec (is := [2]) (hs := [.p]) (rest := []) (ks := [0, 1, 5]) (env' := [(0, .pointer (some ⟨b_2, 0, none⟩)), (1, .int .i64 limit_3), (5, .int .u64 r_4.1)]) (H' := [⟨1, b_2, [.string (bs r_4.2.S_), .bool r_4.2.Bad]⟩]) (ps := []) (by kernel_rfl) trivial ?_
  refine GoO.regionEnd ?_
  refine GoO.seq' c34_4e ?_
  refine GoO.seq' c34_5e ?_
  refine GoO.region' (is := [0, 1, 2, 3, 4, 5, 6, 7]) c34_6e (by kernel_rfl) ?_
  refine GoO.exec (is := [0, 1, 2]) (hs := [.p, .p, .p]) (rest := [3, 4, 5, 6, 7]) (ks := [0, 1, 5, 10]) (env' := [(0, .pointer (some ⟨b_2, 0, none⟩)), (1, .int .i64 limit_3), (5, .int .u64 r_4.1), (10, .bool (decide (limit_3 < 0)))]) (H' := [⟨1, b_2, [.string (bs r_4.2.S_), .bool r_4.2.Bad]⟩]) (ps := []) (by kernel_rfl) trivial ?_
  refine GoO.bsplit (t := 10) (by kernel_rfl) (fun h5 => ?_) (fun h5 => ?_)
  · refine GoO.exec (is := [3, 4, 5, 6, 7]) (hs := [.p, .p, .p, .p, .p]) (rest := []) (ks := [0, 5, 15]) (env' := [(0, .pointer (some ⟨b_2, 0, none⟩)), (5, .int .u64 r_4.1), (15, .bool true)]) (H' := [⟨1, b_2, [.string (bs r_4.2.S_), .bool r_4.2.Bad]⟩]) (ps := []) (by kernel_rfl) trivial ?_
    refine GoO.regionEnd ?_
    exact GoO.sub (ks := [0, 5, 15]) (hk := [0]) (bk := []) (by kernel_rfl) (by kernel_rfl) (by kernel_rfl) (tontineref03_Reader_Up_j0_ok n r_4 b_2 w0 S0 true)
  · refine GoO.exec (is := [3, 4, 5, 6, 7]) (hs := [.p, .p, .p, .p, .p]) (rest := []) (ks := [0, 5, 15]) (env' := [(0, .pointer (some ⟨b_2, 0, none⟩)), (5, .int .u64 r_4.1), (15, .bool (decide (r_4.1 > (wu64 limit_3))))]) (H' := [⟨1, b_2, [.string (bs r_4.2.S_), .bool r_4.2.Bad]⟩]) (ps := []) (by kernel_rfl) trivial ?_
    refine GoO.regionEnd ?_
    exact GoO.sub (ks := [0, 5, 15]) (hk := [0]) (bk := []) (by kernel_rfl) (by kernel_rfl) (by kernel_rfl) (tontineref03_Reader_Up_j0_ok n r_4 b_2 w0 S0 (decide (r_4.1 > (wu64 limit_3))))

/-! (*tontine/tontineref03.Reader).Text -/
noncomputable def c35_0 : Code := bodyOf Try.f35
noncomputable def c35_1 : Code := cdL c35_0
noncomputable def c35_2 : Code := cdR c35_0
noncomputable def c35_3 : Code := cdL c35_2
noncomputable def c35_4 : Code := cdR c35_2
noncomputable def c35_5 : Code := cdL c35_4
noncomputable def c35_6 : Code := cdL c35_5
noncomputable def c35_7 : Code := cdR c35_5
noncomputable def c35_8 : Code := cdL c35_7
noncomputable def c35_9 : Code := cdL c35_8
noncomputable def c35_10 : Code := cdR c35_8
noncomputable def c35_11 : Code := cdL c35_10
noncomputable def c35_12 : Code := cdR c35_10
noncomputable def c35_13 : Code := cdR c35_7
noncomputable def c35_14 : Code := cdR c35_4
noncomputable def c35_15 : Code := cdL c35_14
noncomputable def c35_16 : Code := cdR c35_14
noncomputable def c35_17 : Code := cdL c35_16
noncomputable def c35_18 : Code := cdR c35_16
noncomputable def c35_19 : Code := cdL c35_18
noncomputable def c35_20 : Code := cdR c35_18
noncomputable def r35_1 : Array Oper := cdO c35_1
noncomputable def r35_3 : Array Oper := cdO c35_3
noncomputable def r35_6 : Array Oper := cdO c35_6
noncomputable def r35_9 : Array Oper := cdO c35_9
noncomputable def r35_11 : Array Oper := cdO c35_11
noncomputable def r35_15 : Array Oper := cdO c35_15
noncomputable def r35_17 : Array Oper := cdO c35_17
noncomputable def r35_19 : Array Oper := cdO c35_19
theorem c35_0e : c35_0 = .seq c35_1 c35_2 := by kernel_rfl
theorem c35_1e : c35_1 = .region 0 r35_1 false := by kernel_rfl
theorem c35_2e : c35_2 = .seq c35_3 c35_4 := by kernel_rfl
theorem c35_3e : c35_3 = .region 1 r35_3 false := by kernel_rfl
theorem c35_4e : c35_4 = .seq c35_5 c35_14 := by kernel_rfl
theorem c35_5e : c35_5 = .seq c35_6 c35_7 := by kernel_rfl
theorem c35_6e : c35_6 = .region 2 r35_6 false := by kernel_rfl
theorem c35_7e : c35_7 = .cond (cdC c35_7) c35_8 c35_13 := by kernel_rfl
theorem c35_8e : c35_8 = .seq c35_9 c35_10 := by kernel_rfl
theorem c35_9e : c35_9 = .region 3 r35_9 false := by kernel_rfl
theorem c35_10e : c35_10 = .seq c35_11 c35_12 := by kernel_rfl
theorem c35_11e : c35_11 = .region 4 r35_11 false := by kernel_rfl
theorem c35_12e : c35_12 = .ret := by kernel_rfl
theorem c35_13e : c35_13 = .skip := by kernel_rfl
theorem c35_14e : c35_14 = .seq c35_15 c35_16 := by kernel_rfl
theorem c35_15e : c35_15 = .region 5 r35_15 false := by kernel_rfl
theorem c35_16e : c35_16 = .seq c35_17 c35_18 := by kernel_rfl
theorem c35_17e : c35_17 = .region 6 r35_17 false := by kernel_rfl
theorem c35_18e : c35_18 = .seq c35_19 c35_20 := by kernel_rfl
theorem c35_19e : c35_19 = .region 7 r35_19 false := by kernel_rfl
theorem c35_20e : c35_20 = .ret := by kernel_rfl
noncomputable def tontineref03_Reader_Text.R (b_2 : Nat) : Pst ((List UInt8) × T_tontineref03_Reader) where
  ε := Unit
  v := fun r x => .string (bs r.1)
  H := fun r x => [⟨1, b_2, [.string (bs r.2.S_), .bool r.2.Bad]⟩]
  B := fun r x => []
noncomputable def tontineref03_Reader_Text.cx (b_2 : Nat) (w0 : World) (S0 : Fam) : Cx ((List UInt8) × T_tontineref03_Reader) := ⟨Try.prog, 35, Try.f35, 35, w0, S0, [1], 1, tontineref03_Reader_Text.R b_2⟩
theorem tontineref03_Reader_Text_ok (n : Nat) (r_1 : T_tontineref03_Reader) (limit_3 : Int) (b_2 : Nat) :
    Meets Try.prog 35 [.pointer (some ⟨b_2, 0, none⟩), .int .i64 limit_3] 1 [1] [⟨1, b_2, [.string (bs r_1.S_), .bool r_1.Bad]⟩] [] (tontineref03_Reader_Text.f n r_1 limit_3) (tontineref03_Reader_Text.R b_2) := by
  refine Meets.of (c := c35_0) (n := 35) Try.func35 (by kernel_rfl) (by kernel_rfl) (by kernel_rfl) fun w0 S0 => ?_
  unfold tontineref03_Reader_Text.f
  show GoO (tontineref03_Reader_Text.cx b_2 w0 S0) [(0, .pointer (some ⟨b_2, 0, none⟩)), (1, .int .i64 limit_3)] [⟨1, b_2, [.string (bs r_1.S_), .bool r_1.Bad]⟩] [] [.code c35_0] _
  refine GoO.seq' c35_0e ?_
  refine GoO.region' (is := [0]) c35_1e (by kernel_rfl) ?_
  refine GoO.exec (is := [0]) (hs := [.p]) (rest := []) (ks := [0, 1]) (env' := [(0, .pointer (some ⟨b_2, 0, none⟩)), (1, .int .i64 limit_3)]) (H' := [⟨1, b_2, [.string (bs r_1.S_), .bool r_1.Bad]⟩]) (ps := []) (by kernel_rfl) trivial ?_
  refine GoO.regionEnd ?_
  refine GoO.seq' c35_2e ?_
  refine GoO.region' (is := [0, 1, 2, 3]) c35_3e (by kernel_rfl) ?_
  refine GoO.exec (is := [0, 1]) (hs := [.p, .p]) (rest := [2, 3]) (ks := [0, 7, 8]) (env' := [(0, .pointer (some ⟨b_2, 0, none⟩)), (7, .pointer (some ⟨b_2, 0, none⟩)), (8, .int .i64 limit_3)]) (H' := [⟨1, b_2, [.string (bs r_1.S_), .bool r_1.Bad]⟩]) (ps := []) (by kernel_rfl) trivial ?_
  refine OpTo.go (GoO.call rfl (by kernel_rfl) (by kernel_rfl) (tontineref03_Reader_Up_ok n r_1 limit_3 b_2) [[0], [1]] [(1, 1)] [(1, 0)] [] (hks := []) (bks := []) (by kernel_rfl) (by kernel_rfl) (by kernel_rfl) (.inl rfl) rfl rfl (by kernel_rfl) (by kernel_rfl) _ (fun _ _ => rfl) _ _ (fun _ _ => rfl) (fun _ _ => rfl) (fun _ _ => by kernel_rfl) (fun _ _ => by kernel_rfl) (fun r_4 x_10 => ?_))
  refine GoO.shape (env' := [(0, .pointer (some ⟨b_2, 0, none⟩)), (7, .pointer (some ⟨b_2, 0, none⟩)), (8, .int .i64 limit_3), (9, .int .i64 r_4.1)]) (H' := [⟨1, b_2, [.string (bs r_4.2.S_), .bool r_4.2.Bad]⟩]) (B' := []) (ks := [0, 7, 8, 9]) (by kernel_rfl) (by kernel_rfl) (by kernel_rfl) ?_
  refine GoO.exec (is := [3]) (hs := [.p]) (rest := []) (ks := [0, 5]) (env' := [(0, .pointer (some ⟨b_2, 0, none⟩)), (5, .int .i64 r_4.1)]) (H' := [⟨1, b_2, [.string (bs r_4.2.S_), .bool r_4.2.Bad]⟩]) (ps := []) (by kernel_rfl) trivial ?_
  refine GoO.regionEnd ?_
  refine GoO.seq' c35_4e ?_
  refine GoO.seq' c35_5e ?_
  refine GoO.region' (is := [0, 1, 2, 3, 4, 5, 6]) c35_6e (by kernel_rfl) ?_
  refine GoO.exec (is := [0, 1, 2, 3, 4, 5, 6]) (hs := [.p, .p, .p, .p, .b 0, .p, .p]) (rest := []) (ks := [0, 5, 16]) (env' := [(0, .pointer (some ⟨b_2, 0, none⟩)), (5, .int .i64 r_4.1), (16, .bool (decide (r_4.1 > (r_4.2.S_.length : Int))))]) (H' := [⟨1, b_2, [.string (bs r_4.2.S_), .bool r_4.2.Bad]⟩]) (ps := [b_2 = b_2]) (by kernel_rfl) (And.intro rfl trivial) ?_
  refine GoO.regionEnd ?_
  refine GoO.ite' c35_7e (by kernel_rfl) (fun h5 => ?_) (fun h5 => ?_)
  · refine GoO.seq' c35_8e ?_
    refine GoO.region' (is := [0, 1]) c35_9e (by kernel_rfl) ?_
    refine GoO.exec (is := [0]) (hs := [.p]) (rest := [1]) (ks := [17]) (env' := [(17, .pointer (some ⟨b_2, 0, none⟩))]) (H' := [⟨1, b_2, [.string (bs r_4.2.S_), .bool r_4.2.Bad]⟩]) (ps := []) (by kernel_rfl) trivial ?_
    refine OpTo.go (GoO.call rfl (by kernel_rfl) (by kernel_rfl) (tontineref03_Reader_Fail_ok n r_4.2 b_2) [[0], [1]] [(1, 1)] [(1, 0)] [] (hks := []) (bks := []) (by kernel_rfl) (by kernel_rfl) (by kernel_rfl) (.inl rfl) rfl rfl (by kernel_rfl) (by kernel_rfl) _ (fun _ _ => rfl) _ _ (fun _ _ => rfl) (fun _ _ => rfl) (fun _ _ => by kernel_rfl) (fun _ _ => by kernel_rfl) (fun r_6 x_7 => ?_))
    refine GoO.shape (env' := [(17, .pointer (some ⟨b_2, 0, none⟩)), (18, .tuple ⟨[]⟩)]) (H' := [⟨1, b_2, [.string (bs r_6.S_), .bool r_6.Bad]⟩]) (B' := []) (ks := [17, 18]) (by kernel_rfl) (by kernel_rfl) (by kernel_rfl) ?_
    refine GoO.regionEnd ?_
    refine GoO.seq' c35_10e ?_
    refine GoO.region' (is := [0]) c35_11e (by kernel_rfl) ?_
    refine GoO.exec (is := [0]) (hs := [.p]) (rest := []) (ks := [4]) (env' := [(4, .string (bs []))]) (H' := [⟨1, b_2, [.string (bs r_6.S_), .bool r_6.Bad]⟩]) (ps := []) (by kernel_rfl) trivial ?_
    refine GoO.regionEnd ?_
    exact GoO.ret' (h := c35_12e) (hs := []) (ps := []) (hk := [0]) (bk := []) Try.func35 () (by kernel_rfl) trivial (by kernel_rfl) (by kernel_rfl)
  · refine GoO.skip' c35_13e ?_
    refine GoO.seq' c35_14e ?_
    refine GoO.region' (is := [0, 1, 2, 3, 4, 5, 6]) c35_15e (by kernel_rfl) ?_
    refine GoO.guard (fun h8 => ?_)
    refine GoO.exec (is := [0, 1, 2, 3, 4, 5, 6]) (hs := [.p, .p, .p, .b 0, .p, .p, .p]) (rest := []) (ks := [0, 5, 6]) (env' := [(0, .pointer (some ⟨b_2, 0, none⟩)), (5, .int .i64 r_4.1), (6, .string (bs (r_4.2.S_.take r_4.1.toNat)))]) (H' := [⟨1, b_2, [.string (bs r_4.2.S_), .bool r_4.2.Bad]⟩]) (ps := [b_2 = b_2, (0 : Int) ≤ r_4.1, r_4.1 ≤ (r_4.2.S_.length : Int)]) (by kernel_rfl) (And.intro rfl (And.intro h8.1 (And.intro h8.2 trivial))) ?_
    refine GoO.regionEnd ?_
    refine GoO.seq' c35_16e ?_
    refine GoO.region' (is := [0, 1, 2, 3, 4, 5, 6, 7, 8, 9]) c35_17e (by kernel_rfl) ?_
    refine GoO.guard (fun h9 => ?_)
    refine GoO.exec (is := [0, 1, 2, 3, 4, 5, 6, 7, 8, 9]) (hs := [.p, .p, .p, .p, .b 0, .p, .p, .p, .p, .b 0]) (rest := []) (ks := [6]) (env' := [(6, .string (bs (r_4.2.S_.take r_4.1.toNat)))]) (H' := [⟨1, b_2, [.string (bs (r_4.2.S_.drop r_4.1.toNat)), .bool r_4.2.Bad]⟩]) (ps := [b_2 = b_2, (0 : Int) ≤ r_4.1, r_4.1 ≤ (r_4.2.S_.length : Int), b_2 = b_2]) (by kernel_rfl) (And.intro rfl (And.intro h9.1 (And.intro h9.2 (And.intro rfl trivial)))) ?_
    refine GoO.regionEnd ?_
    refine GoO.seq' c35_18e ?_
    refine GoO.region' (is := [0, 1]) c35_19e (by kernel_rfl) ?_
    refine GoO.exec (is := [0, 1]) (hs := [.p, .p]) (rest := []) (ks := [4]) (env' := [(4, .string (bs (r_4.2.S_.take r_4.1.toNat)))]) (H' := [⟨1, b_2, [.string (bs (r_4.2.S_.drop r_4.1.toNat)), .bool r_4.2.Bad]⟩]) (ps := []) (by kernel_rfl) trivial ?_
    refine GoO.regionEnd ?_
    exact GoO.ret' (h := c35_20e) (hs := []) (ps := []) (hk := [0]) (bk := []) Try.func35 () (by kernel_rfl) trivial (by kernel_rfl) (by kernel_rfl)

/-! tontine/tontinelaw03.PackReads -/
noncomputable def c8_0 : Code := bodyOf Try.f8
noncomputable def c8_1 : Code := cdL c8_0
noncomputable def c8_2 : Code := cdR c8_0
noncomputable def c8_3 : Code := cdL c8_2
noncomputable def c8_4 : Code := cdL c8_3
noncomputable def c8_5 : Code := cdR c8_3
noncomputable def c8_6 : Code := cdL c8_5
noncomputable def c8_7 : Code := cdL c8_6
noncomputable def c8_8 : Code := cdR c8_6
noncomputable def c8_9 : Code := cdR c8_5
noncomputable def c8_10 : Code := cdR c8_2
noncomputable def c8_11 : Code := cdL c8_10
noncomputable def c8_12 : Code := cdR c8_10
noncomputable def c8_13 : Code := cdL c8_12
noncomputable def c8_14 : Code := cdL c8_13
noncomputable def c8_15 : Code := cdR c8_13
noncomputable def c8_16 : Code := cdL c8_15
noncomputable def c8_17 : Code := cdL c8_16
noncomputable def c8_18 : Code := cdL c8_17
noncomputable def c8_19 : Code := cdR c8_17
noncomputable def c8_20 : Code := cdL c8_19
noncomputable def c8_21 : Code := cdL c8_20
noncomputable def c8_22 : Code := cdR c8_20
noncomputable def c8_23 : Code := cdR c8_19
noncomputable def c8_24 : Code := cdL c8_23
noncomputable def c8_25 : Code := cdL c8_24
noncomputable def c8_26 : Code := cdL c8_25
noncomputable def c8_27 : Code := cdR c8_25
noncomputable def c8_28 : Code := cdL c8_27
noncomputable def c8_29 : Code := cdL c8_28
noncomputable def c8_30 : Code := cdR c8_28
noncomputable def c8_31 : Code := cdL c8_30
noncomputable def c8_32 : Code := cdR c8_30
noncomputable def c8_33 : Code := cdR c8_27
noncomputable def c8_34 : Code := cdL c8_33
noncomputable def c8_35 : Code := cdR c8_33
noncomputable def c8_36 : Code := cdL c8_35
noncomputable def c8_37 : Code := cdL c8_36
noncomputable def c8_38 : Code := cdR c8_36
noncomputable def c8_39 : Code := cdL c8_38
noncomputable def c8_40 : Code := cdL c8_39
noncomputable def c8_41 : Code := cdR c8_39
noncomputable def c8_42 : Code := cdL c8_41
noncomputable def c8_43 : Code := cdL c8_42
noncomputable def c8_44 : Code := cdR c8_42
noncomputable def c8_45 : Code := cdL c8_44
noncomputable def c8_46 : Code := cdL c8_45
noncomputable def c8_47 : Code := cdR c8_45
noncomputable def c8_48 : Code := cdR c8_44
noncomputable def c8_49 : Code := cdR c8_41
noncomputable def c8_50 : Code := cdL c8_49
noncomputable def c8_51 : Code := cdR c8_49
noncomputable def c8_52 : Code := cdL c8_51
noncomputable def c8_53 : Code := cdL c8_52
noncomputable def c8_54 : Code := cdR c8_52
noncomputable def c8_55 : Code := cdL c8_54
noncomputable def c8_56 : Code := cdL c8_55
noncomputable def c8_57 : Code := cdR c8_55
noncomputable def c8_58 : Code := cdR c8_54
noncomputable def c8_59 : Code := cdR c8_51
noncomputable def c8_60 : Code := cdL c8_59
noncomputable def c8_61 : Code := cdR c8_59
noncomputable def c8_62 : Code := cdL c8_61
noncomputable def c8_63 : Code := cdL c8_62
noncomputable def c8_64 : Code := cdR c8_62
noncomputable def c8_65 : Code := cdL c8_64
noncomputable def c8_66 : Code := cdL c8_65
noncomputable def c8_67 : Code := cdR c8_65
noncomputable def c8_68 : Code := cdR c8_64
noncomputable def c8_69 : Code := cdR c8_61
noncomputable def c8_70 : Code := cdL c8_69
noncomputable def c8_71 : Code := cdR c8_69
noncomputable def c8_72 : Code := cdL c8_71
noncomputable def c8_73 : Code := cdL c8_72
noncomputable def c8_74 : Code := cdR c8_72
noncomputable def c8_75 : Code := cdL c8_74
noncomputable def c8_76 : Code := cdL c8_75
noncomputable def c8_77 : Code := cdR c8_75
noncomputable def c8_78 : Code := cdR c8_74
noncomputable def c8_79 : Code := cdR c8_71
noncomputable def c8_80 : Code := cdL c8_79
noncomputable def c8_81 : Code := cdR c8_79
noncomputable def c8_82 : Code := cdL c8_81
noncomputable def c8_83 : Code := cdL c8_82
noncomputable def c8_84 : Code := cdR c8_82
noncomputable def c8_85 : Code := cdR c8_81
noncomputable def c8_86 : Code := cdR c8_35
noncomputable def c8_87 : Code := cdL c8_86
noncomputable def c8_88 : Code := cdR c8_86
noncomputable def c8_89 : Code := cdL c8_88
noncomputable def c8_90 : Code := cdR c8_88
noncomputable def c8_91 : Code := cdL c8_90
noncomputable def c8_92 : Code := cdL c8_91
noncomputable def c8_93 : Code := cdR c8_91
noncomputable def c8_94 : Code := cdR c8_90
noncomputable def c8_95 : Code := cdR c8_23
noncomputable def c8_96 : Code := cdR c8_12
noncomputable def c8_97 : Code := cdL c8_96
noncomputable def c8_98 : Code := cdR c8_96
noncomputable def r8_1 : Array Oper := cdO c8_1
noncomputable def r8_4 : Array Oper := cdO c8_4
noncomputable def r8_7 : Array Oper := cdO c8_7
noncomputable def r8_11 : Array Oper := cdO c8_11
noncomputable def r8_14 : Array Oper := cdO c8_14
noncomputable def r8_18 : Array Oper := cdO c8_18
noncomputable def r8_26 : Array Oper := cdO c8_26
noncomputable def r8_29 : Array Oper := cdO c8_29
noncomputable def r8_34 : Array Oper := cdO c8_34
noncomputable def r8_37 : Array Oper := cdO c8_37
noncomputable def r8_40 : Array Oper := cdO c8_40
noncomputable def r8_43 : Array Oper := cdO c8_43
noncomputable def r8_46 : Array Oper := cdO c8_46
noncomputable def r8_50 : Array Oper := cdO c8_50
noncomputable def r8_53 : Array Oper := cdO c8_53
noncomputable def r8_56 : Array Oper := cdO c8_56
noncomputable def r8_60 : Array Oper := cdO c8_60
noncomputable def r8_63 : Array Oper := cdO c8_63
noncomputable def r8_66 : Array Oper := cdO c8_66
noncomputable def r8_70 : Array Oper := cdO c8_70
noncomputable def r8_73 : Array Oper := cdO c8_73
noncomputable def r8_76 : Array Oper := cdO c8_76
noncomputable def r8_80 : Array Oper := cdO c8_80
noncomputable def r8_83 : Array Oper := cdO c8_83
noncomputable def r8_87 : Array Oper := cdO c8_87
noncomputable def r8_89 : Array Oper := cdO c8_89
noncomputable def r8_92 : Array Oper := cdO c8_92
noncomputable def r8_95 : Array Oper := cdO c8_95
noncomputable def r8_97 : Array Oper := cdO c8_97
theorem c8_0e : c8_0 = .seq c8_1 c8_2 := by kernel_rfl
theorem c8_1e : c8_1 = .region 0 r8_1 false := by kernel_rfl
theorem c8_2e : c8_2 = .seq c8_3 c8_10 := by kernel_rfl
theorem c8_3e : c8_3 = .seq c8_4 c8_5 := by kernel_rfl
theorem c8_4e : c8_4 = .region 1 r8_4 false := by kernel_rfl
theorem c8_5e : c8_5 = .cond (cdC c8_5) c8_6 c8_9 := by kernel_rfl
theorem c8_6e : c8_6 = .seq c8_7 c8_8 := by kernel_rfl
theorem c8_7e : c8_7 = .region 2 r8_7 false := by kernel_rfl
theorem c8_8e : c8_8 = .ret := by kernel_rfl
theorem c8_9e : c8_9 = .skip := by kernel_rfl
theorem c8_10e : c8_10 = .seq c8_11 c8_12 := by kernel_rfl
theorem c8_11e : c8_11 = .region 3 r8_11 false := by kernel_rfl
theorem c8_12e : c8_12 = .seq c8_13 c8_96 := by kernel_rfl
theorem c8_13e : c8_13 = .seq c8_14 c8_15 := by kernel_rfl
theorem c8_14e : c8_14 = .region 4 r8_14 false := by kernel_rfl
theorem c8_15e : c8_15 = .block 0 c8_16 := by kernel_rfl
theorem c8_16e : c8_16 = .loop c8_17 := by kernel_rfl
theorem c8_17e : c8_17 = .seq c8_18 c8_19 := by kernel_rfl
theorem c8_18e : c8_18 = .region 5 r8_18 false := by kernel_rfl
theorem c8_19e : c8_19 = .seq c8_20 c8_23 := by kernel_rfl
theorem c8_20e : c8_20 = .cond (cdC c8_20) c8_21 c8_22 := by kernel_rfl
theorem c8_21e : c8_21 = .skip := by kernel_rfl
theorem c8_22e : c8_22 = .exit 0 := by kernel_rfl
theorem c8_23e : c8_23 = .seq c8_24 c8_95 := by kernel_rfl
theorem c8_24e : c8_24 = .block 1 c8_25 := by kernel_rfl
theorem c8_25e : c8_25 = .seq c8_26 c8_27 := by kernel_rfl
theorem c8_26e : c8_26 = .region 6 r8_26 false := by kernel_rfl
theorem c8_27e : c8_27 = .seq c8_28 c8_33 := by kernel_rfl
theorem c8_28e : c8_28 = .seq c8_29 c8_30 := by kernel_rfl
theorem c8_29e : c8_29 = .region 7 r8_29 false := by kernel_rfl
theorem c8_30e : c8_30 = .cond (cdC c8_30) c8_31 c8_32 := by kernel_rfl
theorem c8_31e : c8_31 = .exit 0 := by kernel_rfl
theorem c8_32e : c8_32 = .skip := by kernel_rfl
theorem c8_33e : c8_33 = .seq c8_34 c8_35 := by kernel_rfl
theorem c8_34e : c8_34 = .region 8 r8_34 false := by kernel_rfl
theorem c8_35e : c8_35 = .seq c8_36 c8_86 := by kernel_rfl
theorem c8_36e : c8_36 = .seq c8_37 c8_38 := by kernel_rfl
theorem c8_37e : c8_37 = .region 9 r8_37 false := by kernel_rfl
theorem c8_38e : c8_38 = .block 2 c8_39 := by kernel_rfl
theorem c8_39e : c8_39 = .seq c8_40 c8_41 := by kernel_rfl
theorem c8_40e : c8_40 = .region 12 r8_40 false := by kernel_rfl
theorem c8_41e : c8_41 = .cond (cdC c8_41) c8_42 c8_49 := by kernel_rfl
theorem c8_42e : c8_42 = .seq c8_43 c8_44 := by kernel_rfl
theorem c8_43e : c8_43 = .region 13 r8_43 false := by kernel_rfl
theorem c8_44e : c8_44 = .cond (cdC c8_44) c8_45 c8_48 := by kernel_rfl
theorem c8_45e : c8_45 = .seq c8_46 c8_47 := by kernel_rfl
theorem c8_46e : c8_46 = .region 14 r8_46 false := by kernel_rfl
theorem c8_47e : c8_47 = .ret := by kernel_rfl
theorem c8_48e : c8_48 = .skip := by kernel_rfl
theorem c8_49e : c8_49 = .seq c8_50 c8_51 := by kernel_rfl
theorem c8_50e : c8_50 = .region 15 r8_50 false := by kernel_rfl
theorem c8_51e : c8_51 = .cond (cdC c8_51) c8_52 c8_59 := by kernel_rfl
theorem c8_52e : c8_52 = .seq c8_53 c8_54 := by kernel_rfl
theorem c8_53e : c8_53 = .region 16 r8_53 false := by kernel_rfl
theorem c8_54e : c8_54 = .cond (cdC c8_54) c8_55 c8_58 := by kernel_rfl
theorem c8_55e : c8_55 = .seq c8_56 c8_57 := by kernel_rfl
theorem c8_56e : c8_56 = .region 17 r8_56 false := by kernel_rfl
theorem c8_57e : c8_57 = .ret := by kernel_rfl
theorem c8_58e : c8_58 = .skip := by kernel_rfl
theorem c8_59e : c8_59 = .seq c8_60 c8_61 := by kernel_rfl
theorem c8_60e : c8_60 = .region 18 r8_60 false := by kernel_rfl
theorem c8_61e : c8_61 = .cond (cdC c8_61) c8_62 c8_69 := by kernel_rfl
theorem c8_62e : c8_62 = .seq c8_63 c8_64 := by kernel_rfl
theorem c8_63e : c8_63 = .region 19 r8_63 false := by kernel_rfl
theorem c8_64e : c8_64 = .cond (cdC c8_64) c8_65 c8_68 := by kernel_rfl
theorem c8_65e : c8_65 = .seq c8_66 c8_67 := by kernel_rfl
theorem c8_66e : c8_66 = .region 20 r8_66 false := by kernel_rfl
theorem c8_67e : c8_67 = .ret := by kernel_rfl
theorem c8_68e : c8_68 = .skip := by kernel_rfl
theorem c8_69e : c8_69 = .seq c8_70 c8_71 := by kernel_rfl
theorem c8_70e : c8_70 = .region 21 r8_70 false := by kernel_rfl
theorem c8_71e : c8_71 = .cond (cdC c8_71) c8_72 c8_79 := by kernel_rfl
theorem c8_72e : c8_72 = .seq c8_73 c8_74 := by kernel_rfl
theorem c8_73e : c8_73 = .region 22 r8_73 false := by kernel_rfl
theorem c8_74e : c8_74 = .cond (cdC c8_74) c8_75 c8_78 := by kernel_rfl
theorem c8_75e : c8_75 = .seq c8_76 c8_77 := by kernel_rfl
theorem c8_76e : c8_76 = .region 23 r8_76 false := by kernel_rfl
theorem c8_77e : c8_77 = .ret := by kernel_rfl
theorem c8_78e : c8_78 = .skip := by kernel_rfl
theorem c8_79e : c8_79 = .seq c8_80 c8_81 := by kernel_rfl
theorem c8_80e : c8_80 = .region 10 r8_80 false := by kernel_rfl
theorem c8_81e : c8_81 = .cond (cdC c8_81) c8_82 c8_85 := by kernel_rfl
theorem c8_82e : c8_82 = .seq c8_83 c8_84 := by kernel_rfl
theorem c8_83e : c8_83 = .region 11 r8_83 false := by kernel_rfl
theorem c8_84e : c8_84 = .ret := by kernel_rfl
theorem c8_85e : c8_85 = .skip := by kernel_rfl
theorem c8_86e : c8_86 = .seq c8_87 c8_88 := by kernel_rfl
theorem c8_87e : c8_87 = .region 24 r8_87 false := by kernel_rfl
theorem c8_88e : c8_88 = .seq c8_89 c8_90 := by kernel_rfl
theorem c8_89e : c8_89 = .region 25 r8_89 false := by kernel_rfl
theorem c8_90e : c8_90 = .cond (cdC c8_90) c8_91 c8_94 := by kernel_rfl
theorem c8_91e : c8_91 = .seq c8_92 c8_93 := by kernel_rfl
theorem c8_92e : c8_92 = .region 26 r8_92 false := by kernel_rfl
theorem c8_93e : c8_93 = .ret := by kernel_rfl
theorem c8_94e : c8_94 = .skip := by kernel_rfl
theorem c8_95e : c8_95 = .region 27 r8_95 false := by kernel_rfl
theorem c8_96e : c8_96 = .seq c8_97 c8_98 := by kernel_rfl
theorem c8_97e : c8_97 = .region 28 r8_97 false := by kernel_rfl
theorem c8_98e : c8_98 = .ret := by kernel_rfl
noncomputable def tontinelaw03_PackReads.R (A_3 : Option Addr) (c_4 : Nat) : Pst Bool where
  ε := Unit
  v := fun r x => .bool r
  H := fun r x => []
  B := fun r x => []
noncomputable def tontinelaw03_PackReads.cx (A_3 : Option Addr) (c_4 : Nat) (w0 : World) (S0 : Fam) : Cx Bool := ⟨Try.prog, 8, Try.f8, 102, w0, S0, [], 0, tontinelaw03_PackReads.R A_3 c_4⟩
theorem tontinelaw03_PackReads_j1_ok (n : Nat) (L0 : (List UInt8) → Bool → (List UInt8) → Bool → Int → Option Bool) (asks_2 : (List T_tontinelaw03_Thing)) (f_10 : (List UInt8)) (f_11 : Bool) (f_12 : (List UInt8)) (f_13 : Bool) (x_14 : Int) (f_38 : (List UInt8)) (f_39 : Bool) (f_40 : (List UInt8)) (f_41 : Bool) (A_3 : Option Addr) (c_4 : Nat) (b_8 : Nat) (b_9 : Nat) (w0 : World) (S0 : Fam) (ih0 : ∀ (f_10 : (List UInt8)) (f_11 : Bool) (f_12 : (List UInt8)) (f_13 : Bool) (x_14 : Int), GoO (tontinelaw03_PackReads.cx A_3 c_4 w0 S0) [(5, .pointer (some ⟨b_8, 0, none⟩)), (6, .pointer (some ⟨b_9, 0, none⟩)), (19, .slice A_3 asks_2.length c_4), (20, .int .i64 (asks_2.length : Int)), (21, .int .i64 x_14)] [⟨40, b_8, [.string (bs f_10), .bool f_11]⟩, ⟨41, b_9, [.string (bs f_12), .bool f_13]⟩] [Rd 0 kT_tontinelaw03_Thing A_3 c_4 asks_2] [.code c8_17, .inLoop c8_17, .inBlock 0, .code c8_96] (L0 f_10 f_11 f_12 f_13 x_14)) (b_47 : Bool) :
    GoO (tontinelaw03_PackReads.cx A_3 c_4 w0 S0) [(5, .pointer (some ⟨b_8, 0, none⟩)), (6, .pointer (some ⟨b_9, 0, none⟩)), (19, .slice A_3 asks_2.length c_4), (20, .int .i64 (asks_2.length : Int)), (21, .int .i64 x_14), (100, .bool b_47)] [⟨40, b_8, [.string (bs f_38), .bool f_39]⟩, ⟨41, b_9, [.string (bs f_40), .bool f_41]⟩] [Rd 0 kT_tontinelaw03_Thing A_3 c_4 asks_2] [.code c8_90, .inBlock 1, .code c8_95, .inLoop c8_17, .inBlock 0, .code c8_96] (tontinelaw03_PackReads.j1 n L0 x_14 f_38 f_39 f_40 f_41 b_47) := by
  unfold tontinelaw03_PackReads.j1
  refine GoO.ite' c8_90e (by kernel_rfl) (fun h48 => ?_) (fun h48 => ?_)
  · refine GoO.seq' c8_91e ?_
    refine GoO.region' (is := [0]) c8_92e (by kernel_rfl) ?_
    refine GoO.exec (is := [0]) (hs := [.p]) (rest := []) (ks := [4]) (env' := [(4, .bool false)]) (H' := [⟨40, b_8, [.string (bs f_38), .bool f_39]⟩, ⟨41, b_9, [.string (bs f_40), .bool f_41]⟩]) (ps := []) (by kernel_rfl) trivial ?_
    refine GoO.regionEnd ?_
    exact GoO.ret' (h := c8_93e) (hs := []) (ps := []) (hk := []) (bk := []) Try.func8 () (by kernel_rfl) trivial (by kernel_rfl) (by kernel_rfl)
  · refine GoO.skip' c8_94e ?_
    refine GoO.inBlock ?_
    refine GoO.region' (is := [0, 1]) c8_95e (by kernel_rfl) ?_
    refine GoO.exec (is := [0, 1]) (hs := [.p, .p]) (rest := []) (ks := [5, 6, 19, 20, 21]) (env' := [(5, .pointer (some ⟨b_8, 0, none⟩)), (6, .pointer (some ⟨b_9, 0, none⟩)), (19, .slice A_3 asks_2.length c_4), (20, .int .i64 (asks_2.length : Int)), (21, .int .i64 (wi64 (x_14 + 1)))]) (H' := [⟨40, b_8, [.string (bs f_38), .bool f_39]⟩, ⟨41, b_9, [.string (bs f_40), .bool f_41]⟩]) (ps := []) (by kernel_rfl) trivial ?_
    refine GoO.regionEnd ?_
    refine GoO.inLoop ?_
    exact GoO.sub (ks := [5, 6, 19, 20, 21]) (hk := [0, 1]) (bk := [0]) (by kernel_rfl) (by kernel_rfl) (by kernel_rfl) (ih0 f_38 f_39 f_40 f_41 (wi64 (x_14 + 1)))
theorem tontinelaw03_PackReads_j0_ok (n : Nat) (L0 : (List UInt8) → Bool → (List UInt8) → Bool → Int → Option Bool) (asks_2 : (List T_tontinelaw03_Thing)) (f_10 : (List UInt8)) (f_11 : Bool) (f_12 : (List UInt8)) (f_13 : Bool) (x_14 : Int) (A_3 : Option Addr) (c_4 : Nat) (b_8 : Nat) (b_9 : Nat) (w0 : World) (S0 : Fam) (ih0 : ∀ (f_10 : (List UInt8)) (f_11 : Bool) (f_12 : (List UInt8)) (f_13 : Bool) (x_14 : Int), GoO (tontinelaw03_PackReads.cx A_3 c_4 w0 S0) [(5, .pointer (some ⟨b_8, 0, none⟩)), (6, .pointer (some ⟨b_9, 0, none⟩)), (19, .slice A_3 asks_2.length c_4), (20, .int .i64 (asks_2.length : Int)), (21, .int .i64 x_14)] [⟨40, b_8, [.string (bs f_10), .bool f_11]⟩, ⟨41, b_9, [.string (bs f_12), .bool f_13]⟩] [Rd 0 kT_tontinelaw03_Thing A_3 c_4 asks_2] [.code c8_17, .inLoop c8_17, .inBlock 0, .code c8_96] (L0 f_10 f_11 f_12 f_13 x_14)) (f_38 : (List UInt8)) (f_39 : Bool) (f_40 : (List UInt8)) (f_41 : Bool) :
    GoO (tontinelaw03_PackReads.cx A_3 c_4 w0 S0) [(5, .pointer (some ⟨b_8, 0, none⟩)), (6, .pointer (some ⟨b_9, 0, none⟩)), (19, .slice A_3 asks_2.length c_4), (20, .int .i64 (asks_2.length : Int)), (21, .int .i64 x_14)] [⟨40, b_8, [.string (bs f_38), .bool f_39]⟩, ⟨41, b_9, [.string (bs f_40), .bool f_41]⟩] [Rd 0 kT_tontinelaw03_Thing A_3 c_4 asks_2] [.inBlock 2, .code c8_86, .inBlock 1, .code c8_95, .inLoop c8_17, .inBlock 0, .code c8_96] (tontinelaw03_PackReads.j0 n L0 x_14 f_38 f_39 f_40 f_41) := by
  unfold tontinelaw03_PackReads.j0
  refine GoO.inBlock ?_
  refine GoO.seq' c8_86e ?_
  refine GoO.region' (is := [0, 1, 2, 3, 4, 5, 6]) c8_87e (by kernel_rfl) ?_
  refine GoO.exec (is := [0]) (hs := [.p]) (rest := [1, 2, 3, 4, 5, 6]) (ks := [5, 6, 19, 20, 21, 72]) (env' := [(5, .pointer (some ⟨b_8, 0, none⟩)), (6, .pointer (some ⟨b_9, 0, none⟩)), (19, .slice A_3 asks_2.length c_4), (20, .int .i64 (asks_2.length : Int)), (21, .int .i64 x_14), (72, .pointer (some ⟨b_8, 0, none⟩))]) (H' := [⟨40, b_8, [.string (bs f_38), .bool f_39]⟩, ⟨41, b_9, [.string (bs f_40), .bool f_41]⟩]) (ps := []) (by kernel_rfl) trivial ?_
  refine OpTo.go (GoO.call rfl (by kernel_rfl) (by kernel_rfl) (pack_Reader_Left_ok n (⟨f_38, f_39⟩ : T_pack_Reader) b_8) [[0], [40]] [] [(1, 0)] [] (hks := [0, 1]) (bks := [0]) (by kernel_rfl) (by kernel_rfl) (by kernel_rfl) (.inl rfl) rfl rfl (by kernel_rfl) (by kernel_rfl) _ (fun _ _ => rfl) _ _ (fun _ _ => rfl) (fun _ _ => rfl) (fun _ _ => by kernel_rfl) (fun _ _ => by kernel_rfl) (fun r_42 x_49 => ?_))
  refine GoO.shape (env' := [(5, .pointer (some ⟨b_8, 0, none⟩)), (6, .pointer (some ⟨b_9, 0, none⟩)), (19, .slice A_3 asks_2.length c_4), (20, .int .i64 (asks_2.length : Int)), (21, .int .i64 x_14), (72, .pointer (some ⟨b_8, 0, none⟩)), (73, .tuple ⟨[.int .i64 r_42.1, .bool r_42.2]⟩)]) (H' := [⟨40, b_8, [.string (bs f_38), .bool f_39]⟩, ⟨41, b_9, [.string (bs f_40), .bool f_41]⟩]) (B' := [Rd 0 kT_tontinelaw03_Thing A_3 c_4 asks_2]) (ks := [5, 6, 19, 20, 21, 72, 73]) (by kernel_rfl) (by kernel_rfl) (by kernel_rfl) ?_
  refine GoO.exec (is := [2, 3, 4, 5, 6]) (hs := [.p, .p, .p, .p, .p]) (rest := []) (ks := [5, 6, 10, 11, 19, 20, 21]) (env' := [(5, .pointer (some ⟨b_8, 0, none⟩)), (6, .pointer (some ⟨b_9, 0, none⟩)), (10, .int .i64 r_42.1), (11, .bool r_42.2), (19, .slice A_3 asks_2.length c_4), (20, .int .i64 (asks_2.length : Int)), (21, .int .i64 x_14)]) (H' := [⟨40, b_8, [.string (bs f_38), .bool f_39]⟩, ⟨41, b_9, [.string (bs f_40), .bool f_41]⟩]) (ps := []) (by kernel_rfl) trivial ?_
  refine GoO.regionEnd ?_
  refine GoO.seq' c8_88e ?_
  refine GoO.region' (is := [0, 1, 2, 3, 4, 5, 6, 7, 8, 9, 10, 11, 12, 13, 14, 15, 16, 17, 18, 19, 20, 21, 22, 23, 24]) c8_89e (by kernel_rfl) ?_
  refine GoO.exec (is := [0, 1, 2, 3, 4, 5, 6, 7]) (hs := [.p, .p, .p, .p, .b 1, .p, .p, .p]) (rest := [8, 9, 10, 11, 12, 13, 14, 15, 16, 17, 18, 19, 20, 21, 22, 23, 24]) (ks := [5, 6, 10, 11, 19, 20, 21, 83]) (env' := [(5, .pointer (some ⟨b_8, 0, none⟩)), (6, .pointer (some ⟨b_9, 0, none⟩)), (10, .int .i64 r_42.1), (11, .bool r_42.2), (19, .slice A_3 asks_2.length c_4), (20, .int .i64 (asks_2.length : Int)), (21, .int .i64 x_14), (83, .bool (r_42.1 != (f_40.length : Int)))]) (H' := [⟨40, b_8, [.string (bs f_38), .bool f_39]⟩, ⟨41, b_9, [.string (bs f_40), .bool f_41]⟩]) (ps := [b_9 = b_9]) (by kernel_rfl) (And.intro rfl trivial) ?_
  refine GoO.bsplit (t := 83) (by kernel_rfl) (fun h43 => ?_) (fun h43 => ?_)
  · refine GoO.exec (is := [8, 9, 10, 11, 12, 13, 14, 15, 16, 17, 18, 19, 20, 21, 22, 23, 24]) (hs := [.p, .p, .p, .p, .p, .p, .p, .p, .p, .p, .p, .p, .p, .p, .p, .p, .p]) (rest := []) (ks := [5, 6, 19, 20, 21, 100]) (env' := [(5, .pointer (some ⟨b_8, 0, none⟩)), (6, .pointer (some ⟨b_9, 0, none⟩)), (19, .slice A_3 asks_2.length c_4), (20, .int .i64 (asks_2.length : Int)), (21, .int .i64 x_14), (100, .bool true)]) (H' := [⟨40, b_8, [.string (bs f_38), .bool f_39]⟩, ⟨41, b_9, [.string (bs f_40), .bool f_41]⟩]) (ps := []) (by kernel_rfl) trivial ?_
    refine GoO.regionEnd ?_
    exact GoO.sub (ks := [5, 6, 19, 20, 21, 100]) (hk := [0, 1]) (bk := [0]) (by kernel_rfl) (by kernel_rfl) (by kernel_rfl) (tontinelaw03_PackReads_j1_ok n L0 asks_2 f_10 f_11 f_12 f_13 x_14 f_38 f_39 f_40 f_41 A_3 c_4 b_8 b_9 w0 S0 ih0 true)
  · refine GoO.exec (is := [8, 9, 10, 11, 12, 13, 14, 15]) (hs := [.p, .p, .p, .p, .b 1, .p, .p, .p]) (rest := [16, 17, 18, 19, 20, 21, 22, 23, 24]) (ks := [5, 6, 10, 11, 19, 20, 21, 91]) (env' := [(5, .pointer (some ⟨b_8, 0, none⟩)), (6, .pointer (some ⟨b_9, 0, none⟩)), (10, .int .i64 r_42.1), (11, .bool r_42.2), (19, .slice A_3 asks_2.length c_4), (20, .int .i64 (asks_2.length : Int)), (21, .int .i64 x_14), (91, .bool (r_42.2 == f_41))]) (H' := [⟨40, b_8, [.string (bs f_38), .bool f_39]⟩, ⟨41, b_9, [.string (bs f_40), .bool f_41]⟩]) (ps := [b_9 = b_9]) (by kernel_rfl) (And.intro rfl trivial) ?_
    refine GoO.bsplit (t := 91) (by kernel_rfl) (fun h44 => ?_) (fun h44 => ?_)
    · refine GoO.exec (is := [16, 17, 18, 19, 20, 21, 22, 23, 24]) (hs := [.p, .p, .p, .p, .p, .p, .p, .p, .p]) (rest := []) (ks := [5, 6, 19, 20, 21, 100]) (env' := [(5, .pointer (some ⟨b_8, 0, none⟩)), (6, .pointer (some ⟨b_9, 0, none⟩)), (19, .slice A_3 asks_2.length c_4), (20, .int .i64 (asks_2.length : Int)), (21, .int .i64 x_14), (100, .bool true)]) (H' := [⟨40, b_8, [.string (bs f_38), .bool f_39]⟩, ⟨41, b_9, [.string (bs f_40), .bool f_41]⟩]) (ps := []) (by kernel_rfl) trivial ?_
      refine GoO.regionEnd ?_
      exact GoO.sub (ks := [5, 6, 19, 20, 21, 100]) (hk := [0, 1]) (bk := [0]) (by kernel_rfl) (by kernel_rfl) (by kernel_rfl) (tontinelaw03_PackReads_j1_ok n L0 asks_2 f_10 f_11 f_12 f_13 x_14 f_38 f_39 f_40 f_41 A_3 c_4 b_8 b_9 w0 S0 ih0 true)
    · refine GoO.exec (is := [16]) (hs := [.p]) (rest := [17, 18, 19, 20, 21, 22, 23, 24]) (ks := [5, 6, 10, 11, 19, 20, 21, 91, 92]) (env' := [(5, .pointer (some ⟨b_8, 0, none⟩)), (6, .pointer (some ⟨b_9, 0, none⟩)), (10, .int .i64 r_42.1), (11, .bool r_42.2), (19, .slice A_3 asks_2.length c_4), (20, .int .i64 (asks_2.length : Int)), (21, .int .i64 x_14), (91, .bool false), (92, .pointer (some ⟨b_8, 0, none⟩))]) (H' := [⟨40, b_8, [.string (bs f_38), .bool f_39]⟩, ⟨41, b_9, [.string (bs f_40), .bool f_41]⟩]) (ps := []) (by kernel_rfl) trivial ?_
      refine OpTo.go (GoO.call rfl (by kernel_rfl) (by kernel_rfl) (pack_Reader_Done_ok n (⟨f_38, f_39⟩ : T_pack_Reader) b_8) [[0], [40]] [] [(1, 0)] [] (hks := [0, 1]) (bks := [0]) (by kernel_rfl) (by kernel_rfl) (by kernel_rfl) (.inl rfl) rfl rfl (by kernel_rfl) (by kernel_rfl) _ (fun _ _ => rfl) _ _ (fun _ _ => rfl) (fun _ _ => rfl) (fun _ _ => by kernel_rfl) (fun _ _ => by kernel_rfl) (fun r_45 x_47 => ?_))
      refine GoO.shape (env' := [(5, .pointer (some ⟨b_8, 0, none⟩)), (6, .pointer (some ⟨b_9, 0, none⟩)), (10, .int .i64 r_42.1), (11, .bool r_42.2), (19, .slice A_3 asks_2.length c_4), (20, .int .i64 (asks_2.length : Int)), (21, .int .i64 x_14), (91, .bool false), (92, .pointer (some ⟨b_8, 0, none⟩)), (93, .bool r_45)]) (H' := [⟨40, b_8, [.string (bs f_38), .bool f_39]⟩, ⟨41, b_9, [.string (bs f_40), .bool f_41]⟩]) (B' := [Rd 0 kT_tontinelaw03_Thing A_3 c_4 asks_2]) (ks := [5, 6, 10, 11, 19, 20, 21, 91, 92, 93]) (by kernel_rfl) (by kernel_rfl) (by kernel_rfl) ?_
      refine GoO.exec (is := [18, 19]) (hs := [.p, .p]) (rest := [20, 21, 22, 23, 24]) (ks := [5, 6, 10, 19, 20, 21, 91, 93, 95]) (env' := [(5, .pointer (some ⟨b_8, 0, none⟩)), (6, .pointer (some ⟨b_9, 0, none⟩)), (10, .int .i64 r_42.1), (19, .slice A_3 asks_2.length c_4), (20, .int .i64 (asks_2.length : Int)), (21, .int .i64 x_14), (91, .bool false), (93, .bool r_45), (95, .bool r_42.2)]) (H' := [⟨40, b_8, [.string (bs f_38), .bool f_39]⟩, ⟨41, b_9, [.string (bs f_40), .bool f_41]⟩]) (ps := []) (by kernel_rfl) trivial ?_
      refine GoO.bsplit (t := 95) (by kernel_rfl) (fun h46 => ?_) (fun h46 => ?_)
      · refine GoO.exec (is := [20, 21, 22, 23, 24]) (hs := [.p, .p, .p, .p, .p]) (rest := []) (ks := [5, 6, 19, 20, 21, 100]) (env' := [(5, .pointer (some ⟨b_8, 0, none⟩)), (6, .pointer (some ⟨b_9, 0, none⟩)), (19, .slice A_3 asks_2.length c_4), (20, .int .i64 (asks_2.length : Int)), (21, .int .i64 x_14), (100, .bool (!(r_45 == (r_42.1 == 0))))]) (H' := [⟨40, b_8, [.string (bs f_38), .bool f_39]⟩, ⟨41, b_9, [.string (bs f_40), .bool f_41]⟩]) (ps := []) (by kernel_rfl) trivial ?_
        refine GoO.regionEnd ?_
        exact GoO.sub (ks := [5, 6, 19, 20, 21, 100]) (hk := [0, 1]) (bk := [0]) (by kernel_rfl) (by kernel_rfl) (by kernel_rfl) (tontinelaw03_PackReads_j1_ok n L0 asks_2 f_10 f_11 f_12 f_13 x_14 f_38 f_39 f_40 f_41 A_3 c_4 b_8 b_9 w0 S0 ih0 (!(r_45 == (r_42.1 == 0))))
      · refine GoO.exec (is := [20, 21, 22, 23, 24]) (hs := [.p, .p, .p, .p, .p]) (rest := []) (ks := [5, 6, 19, 20, 21, 100]) (env' := [(5, .pointer (some ⟨b_8, 0, none⟩)), (6, .pointer (some ⟨b_9, 0, none⟩)), (19, .slice A_3 asks_2.length c_4), (20, .int .i64 (asks_2.length : Int)), (21, .int .i64 x_14), (100, .bool (!(r_45 == false)))]) (H' := [⟨40, b_8, [.string (bs f_38), .bool f_39]⟩, ⟨41, b_9, [.string (bs f_40), .bool f_41]⟩]) (ps := []) (by kernel_rfl) trivial ?_
        refine GoO.regionEnd ?_
        exact GoO.sub (ks := [5, 6, 19, 20, 21, 100]) (hk := [0, 1]) (bk := [0]) (by kernel_rfl) (by kernel_rfl) (by kernel_rfl) (tontinelaw03_PackReads_j1_ok n L0 asks_2 f_10 f_11 f_12 f_13 x_14 f_38 f_39 f_40 f_41 A_3 c_4 b_8 b_9 w0 S0 ih0 (!(r_45 == false)))
theorem tontinelaw03_PackReads_l0_ok (n : Nat) (asks_2 : (List T_tontinelaw03_Thing)) (A_3 : Option Addr) (c_4 : Nat) (b_8 : Nat) (b_9 : Nat) (w0 : World) (S0 : Fam) :
    ∀ (k : Nat) (f_10 : (List UInt8)) (f_11 : Bool) (f_12 : (List UInt8)) (f_13 : Bool) (x_14 : Int), GoO (tontinelaw03_PackReads.cx A_3 c_4 w0 S0) [(5, .pointer (some ⟨b_8, 0, none⟩)), (6, .pointer (some ⟨b_9, 0, none⟩)), (19, .slice A_3 asks_2.length c_4), (20, .int .i64 (asks_2.length : Int)), (21, .int .i64 x_14)] [⟨40, b_8, [.string (bs f_10), .bool f_11]⟩, ⟨41, b_9, [.string (bs f_12), .bool f_13]⟩] [Rd 0 kT_tontinelaw03_Thing A_3 c_4 asks_2] [.code c8_17, .inLoop c8_17, .inBlock 0, .code c8_96] (tontinelaw03_PackReads.l0 n asks_2 k f_10 f_11 f_12 f_13 x_14) := by
  intro k
  induction k with
  | zero => intros; rw [tontinelaw03_PackReads.l0.eq_1]; exact GoO.stop
  | succ k ih0 =>
    intro f_10 f_11 f_12 f_13 x_14
    rw [tontinelaw03_PackReads.l0.eq_2]
    refine GoO.seq' c8_17e ?_
    refine GoO.region' (is := [0]) c8_18e (by kernel_rfl) ?_
    refine GoO.exec (is := [0]) (hs := [.p]) (rest := []) (ks := [5, 6, 19, 20, 21, 22]) (env' := [(5, .pointer (some ⟨b_8, 0, none⟩)), (6, .pointer (some ⟨b_9, 0, none⟩)), (19, .slice A_3 asks_2.length c_4), (20, .int .i64 (asks_2.length : Int)), (21, .int .i64 x_14), (22, .bool (decide (x_14 < (asks_2.length : Int))))]) (H' := [⟨40, b_8, [.string (bs f_10), .bool f_11]⟩, ⟨41, b_9, [.string (bs f_12), .bool f_13]⟩]) (ps := []) (by kernel_rfl) trivial ?_
    refine GoO.regionEnd ?_
    refine GoO.seq' c8_19e ?_
    refine GoO.ite' c8_20e (by kernel_rfl) (fun h15 => ?_) (fun h15 => ?_)
    · refine GoO.skip' c8_21e ?_
      refine GoO.seq' c8_23e ?_
      refine GoO.block' c8_24e ?_
      refine GoO.seq' c8_25e ?_
      refine GoO.region' (is := [0, 1, 2, 3, 4, 5]) c8_26e (by kernel_rfl) ?_
      refine GoO.exec (is := [0]) (hs := [.p]) (rest := [1, 2, 3, 4, 5]) (ks := [5, 6, 19, 20, 21, 23]) (env' := [(5, .pointer (some ⟨b_8, 0, none⟩)), (6, .pointer (some ⟨b_9, 0, none⟩)), (19, .slice A_3 asks_2.length c_4), (20, .int .i64 (asks_2.length : Int)), (21, .int .i64 x_14), (23, .int .i64 x_14)]) (H' := [⟨40, b_8, [.string (bs f_10), .bool f_11]⟩, ⟨41, b_9, [.string (bs f_12), .bool f_13]⟩]) (ps := []) (by kernel_rfl) trivial ?_
      refine GoO.guard (fun h16 => ?_)
      refine OpTo.go (GoO.idx (kk := .i64) (e := 59) (K := kT_tontinelaw03_Thing) (A := A_3) (c := c_4) (xs := asks_2) (iv := x_14) (j := 0) rfl (by kernel_rfl) (by kernel_rfl) (by kernel_rfl) (by kernel_rfl) rfl Reads.rd rfl h16.1 h16.2 (by decide) rfl ?_)
      refine OpTo.go (GoO.ldE' (K := kT_tontinelaw03_Thing) (A := A_3) (c := c_4) (xs := asks_2) (iN := x_14.toNat) (off := 0) (j := 0) rfl (by kernel_rfl) rfl Reads.rd (idx_lt h16.1 h16.2) (by decide) (Opn.flat _ _ _ _ _) (v := fun _ => .agg ⟨[.int .i64 ((rdL asks_2 x_14).Kind), .int .u64 ((rdL asks_2 x_14).Num), .string (bs ((rdL asks_2 x_14).Text))]⟩) (fun _ => by kernel_rfl) _ (fun _ => rfl) (fun _ => ?_))
      refine OpTo.go (GoO.new rfl 42 (cs := [.int .i64 0, .int .u64 0, .string (bs [])]) (by kernel_rfl) _ (fun _ => rfl) (fun b_17 => ?_))
      refine GoO.exec (is := [4, 5]) (hs := [.p, .b 0]) (rest := []) (ks := [5, 6, 7, 8, 19, 20, 21]) (env' := [(5, .pointer (some ⟨b_8, 0, none⟩)), (6, .pointer (some ⟨b_9, 0, none⟩)), (7, .int .i64 x_14), (8, .pointer (some ⟨b_17, 0, none⟩)), (19, .slice A_3 asks_2.length c_4), (20, .int .i64 (asks_2.length : Int)), (21, .int .i64 x_14)]) (H' := [⟨42, b_17, [.int .i64 ((rdL asks_2 x_14).Kind), .int .u64 ((rdL asks_2 x_14).Num), .string (bs ((rdL asks_2 x_14).Text))]⟩, ⟨40, b_8, [.string (bs f_10), .bool f_11]⟩, ⟨41, b_9, [.string (bs f_12), .bool f_13]⟩]) (ps := [b_17 = b_17]) (by kernel_rfl) (And.intro rfl trivial) ?_
      refine GoO.regionEnd ?_
      refine GoO.seq' c8_27e ?_
      refine GoO.seq' c8_28e ?_
      refine GoO.region' (is := [0, 1]) c8_29e (by kernel_rfl) ?_
      refine GoO.exec (is := [0, 1]) (hs := [.p, .p]) (rest := []) (ks := [5, 6, 8, 19, 20, 21, 27]) (env' := [(5, .pointer (some ⟨b_8, 0, none⟩)), (6, .pointer (some ⟨b_9, 0, none⟩)), (8, .pointer (some ⟨b_17, 0, none⟩)), (19, .slice A_3 asks_2.length c_4), (20, .int .i64 (asks_2.length : Int)), (21, .int .i64 x_14), (27, .bool (x_14 == 200))]) (H' := [⟨42, b_17, [.int .i64 ((rdL asks_2 x_14).Kind), .int .u64 ((rdL asks_2 x_14).Num), .string (bs ((rdL asks_2 x_14).Text))]⟩, ⟨40, b_8, [.string (bs f_10), .bool f_11]⟩, ⟨41, b_9, [.string (bs f_12), .bool f_13]⟩]) (ps := []) (by kernel_rfl) trivial ?_
      refine GoO.regionEnd ?_
      refine GoO.ite' c8_30e (by kernel_rfl) (fun h18 => ?_) (fun h18 => ?_)
      · refine GoO.exit' c8_31e rfl ?_
        refine GoO.seq' c8_96e ?_
        refine GoO.region' (is := [0]) c8_97e (by kernel_rfl) ?_
        refine GoO.exec (is := [0]) (hs := [.p]) (rest := []) (ks := [4]) (env' := [(4, .bool true)]) (H' := [⟨42, b_17, [.int .i64 ((rdL asks_2 x_14).Kind), .int .u64 ((rdL asks_2 x_14).Num), .string (bs ((rdL asks_2 x_14).Text))]⟩, ⟨40, b_8, [.string (bs f_10), .bool f_11]⟩, ⟨41, b_9, [.string (bs f_12), .bool f_13]⟩]) (ps := []) (by kernel_rfl) trivial ?_
        refine GoO.regionEnd ?_
        exact GoO.ret' (h := c8_98e) (hs := []) (ps := []) (hk := []) (bk := []) Try.func8 () (by kernel_rfl) trivial (by kernel_rfl) (by kernel_rfl)
      · refine GoO.skip' c8_32e ?_
        refine GoO.seq' c8_33e ?_
        refine GoO.region' (is := [0, 1, 2, 3]) c8_34e (by kernel_rfl) ?_
        refine GoO.exec (is := [0, 1, 2, 3]) (hs := [.p, .b 0, .p, .p]) (rest := []) (ks := [5, 6, 8, 9, 19, 20, 21]) (env' := [(5, .pointer (some ⟨b_8, 0, none⟩)), (6, .pointer (some ⟨b_9, 0, none⟩)), (8, .pointer (some ⟨b_17, 0, none⟩)), (9, .int .i64 (wi64 ((rdL asks_2 x_14).Num))), (19, .slice A_3 asks_2.length c_4), (20, .int .i64 (asks_2.length : Int)), (21, .int .i64 x_14)]) (H' := [⟨42, b_17, [.int .i64 ((rdL asks_2 x_14).Kind), .int .u64 ((rdL asks_2 x_14).Num), .string (bs ((rdL asks_2 x_14).Text))]⟩, ⟨40, b_8, [.string (bs f_10), .bool f_11]⟩, ⟨41, b_9, [.string (bs f_12), .bool f_13]⟩]) (ps := [b_17 = b_17]) (by kernel_rfl) (And.intro rfl trivial) ?_
        refine GoO.regionEnd ?_
        refine GoO.seq' c8_35e ?_
        refine GoO.seq' c8_36e ?_
        refine GoO.region' (is := [0, 1]) c8_37e (by kernel_rfl) ?_
        refine GoO.exec (is := [0, 1]) (hs := [.p, .b 0]) (rest := []) (ks := [5, 6, 9, 19, 20, 21, 32]) (env' := [(5, .pointer (some ⟨b_8, 0, none⟩)), (6, .pointer (some ⟨b_9, 0, none⟩)), (9, .int .i64 (wi64 ((rdL asks_2 x_14).Num))), (19, .slice A_3 asks_2.length c_4), (20, .int .i64 (asks_2.length : Int)), (21, .int .i64 x_14), (32, .int .i64 ((rdL asks_2 x_14).Kind))]) (H' := [⟨42, b_17, [.int .i64 ((rdL asks_2 x_14).Kind), .int .u64 ((rdL asks_2 x_14).Num), .string (bs ((rdL asks_2 x_14).Text))]⟩, ⟨40, b_8, [.string (bs f_10), .bool f_11]⟩, ⟨41, b_9, [.string (bs f_12), .bool f_13]⟩]) (ps := [b_17 = b_17]) (by kernel_rfl) (And.intro rfl trivial) ?_
        refine GoO.regionEnd ?_
        refine GoO.block' c8_38e ?_
        refine GoO.seq' c8_39e ?_
        refine GoO.region' (is := [0, 1]) c8_40e (by kernel_rfl) ?_
        refine GoO.exec (is := [0, 1]) (hs := [.p, .p]) (rest := []) (ks := [5, 6, 9, 19, 20, 21, 32, 40]) (env' := [(5, .pointer (some ⟨b_8, 0, none⟩)), (6, .pointer (some ⟨b_9, 0, none⟩)), (9, .int .i64 (wi64 ((rdL asks_2 x_14).Num))), (19, .slice A_3 asks_2.length c_4), (20, .int .i64 (asks_2.length : Int)), (21, .int .i64 x_14), (32, .int .i64 ((rdL asks_2 x_14).Kind)), (40, .bool (((rdL asks_2 x_14).Kind) == 0))]) (H' := [⟨42, b_17, [.int .i64 ((rdL asks_2 x_14).Kind), .int .u64 ((rdL asks_2 x_14).Num), .string (bs ((rdL asks_2 x_14).Text))]⟩, ⟨40, b_8, [.string (bs f_10), .bool f_11]⟩, ⟨41, b_9, [.string (bs f_12), .bool f_13]⟩]) (ps := []) (by kernel_rfl) trivial ?_
        refine GoO.regionEnd ?_
        refine GoO.ite' c8_41e (by kernel_rfl) (fun h19 => ?_) (fun h19 => ?_)
        · refine GoO.seq' c8_42e ?_
          refine GoO.region' (is := [0, 1, 2, 3, 4]) c8_43e (by kernel_rfl) ?_
          refine GoO.exec (is := [0]) (hs := [.p]) (rest := [1, 2, 3, 4]) (ks := [5, 6, 19, 20, 21, 42]) (env' := [(5, .pointer (some ⟨b_8, 0, none⟩)), (6, .pointer (some ⟨b_9, 0, none⟩)), (19, .slice A_3 asks_2.length c_4), (20, .int .i64 (asks_2.length : Int)), (21, .int .i64 x_14), (42, .pointer (some ⟨b_8, 0, none⟩))]) (H' := [⟨42, b_17, [.int .i64 ((rdL asks_2 x_14).Kind), .int .u64 ((rdL asks_2 x_14).Num), .string (bs ((rdL asks_2 x_14).Text))]⟩, ⟨40, b_8, [.string (bs f_10), .bool f_11]⟩, ⟨41, b_9, [.string (bs f_12), .bool f_13]⟩]) (ps := []) (by kernel_rfl) trivial ?_
          refine OpTo.go (GoO.call rfl (by kernel_rfl) (by kernel_rfl) (pack_Reader_Num_ok n (⟨f_10, f_11⟩ : T_pack_Reader) b_8) [[0], [40]] [(40, 1)] [(1, 1)] [] (hks := [0, 2]) (bks := [0]) (by kernel_rfl) (by kernel_rfl) (by kernel_rfl) (.inl rfl) rfl rfl (by kernel_rfl) (by kernel_rfl) _ (fun _ _ => rfl) _ _ (fun _ _ => rfl) (fun _ _ => rfl) (fun _ _ => by kernel_rfl) (fun _ _ => by kernel_rfl) (fun r_20 x_24 => ?_))
          refine GoO.shape (env' := [(5, .pointer (some ⟨b_8, 0, none⟩)), (6, .pointer (some ⟨b_9, 0, none⟩)), (19, .slice A_3 asks_2.length c_4), (20, .int .i64 (asks_2.length : Int)), (21, .int .i64 x_14), (42, .pointer (some ⟨b_8, 0, none⟩)), (43, .int .u64 r_20.1)]) (H' := [⟨40, b_8, [.string (bs r_20.2.s), .bool r_20.2.bad]⟩, ⟨42, b_17, [.int .i64 ((rdL asks_2 x_14).Kind), .int .u64 ((rdL asks_2 x_14).Num), .string (bs ((rdL asks_2 x_14).Text))]⟩, ⟨41, b_9, [.string (bs f_12), .bool f_13]⟩]) (B' := [Rd 0 kT_tontinelaw03_Thing A_3 c_4 asks_2]) (ks := [5, 6, 19, 20, 21, 42, 43]) (by kernel_rfl) (by kernel_rfl) (by kernel_rfl) ?_
          refine GoO.exec (is := [2]) (hs := [.p]) (rest := [3, 4]) (ks := [5, 6, 19, 20, 21, 43, 44]) (env' := [(5, .pointer (some ⟨b_8, 0, none⟩)), (6, .pointer (some ⟨b_9, 0, none⟩)), (19, .slice A_3 asks_2.length c_4), (20, .int .i64 (asks_2.length : Int)), (21, .int .i64 x_14), (43, .int .u64 r_20.1), (44, .pointer (some ⟨b_9, 0, none⟩))]) (H' := [⟨40, b_8, [.string (bs r_20.2.s), .bool r_20.2.bad]⟩, ⟨42, b_17, [.int .i64 ((rdL asks_2 x_14).Kind), .int .u64 ((rdL asks_2 x_14).Num), .string (bs ((rdL asks_2 x_14).Text))]⟩, ⟨41, b_9, [.string (bs f_12), .bool f_13]⟩]) (ps := []) (by kernel_rfl) trivial ?_
          refine OpTo.go (GoO.call rfl (by kernel_rfl) (by kernel_rfl) (tontineref03_Reader_Num_ok n (⟨f_12, f_13⟩ : T_tontineref03_Reader) b_9) [[0], [41]] [(41, 1)] [(1, 2)] [] (hks := [0, 1]) (bks := [0]) (by kernel_rfl) (by kernel_rfl) (by kernel_rfl) (.inl rfl) rfl rfl (by kernel_rfl) (by kernel_rfl) _ (fun _ _ => rfl) _ _ (fun _ _ => rfl) (fun _ _ => rfl) (fun _ _ => by kernel_rfl) (fun _ _ => by kernel_rfl) (fun r_21 x_23 => ?_))
          refine GoO.shape (env' := [(5, .pointer (some ⟨b_8, 0, none⟩)), (6, .pointer (some ⟨b_9, 0, none⟩)), (19, .slice A_3 asks_2.length c_4), (20, .int .i64 (asks_2.length : Int)), (21, .int .i64 x_14), (43, .int .u64 r_20.1), (44, .pointer (some ⟨b_9, 0, none⟩)), (45, .int .u64 r_21.1)]) (H' := [⟨41, b_9, [.string (bs r_21.2.S_), .bool r_21.2.Bad]⟩, ⟨40, b_8, [.string (bs r_20.2.s), .bool r_20.2.bad]⟩, ⟨42, b_17, [.int .i64 ((rdL asks_2 x_14).Kind), .int .u64 ((rdL asks_2 x_14).Num), .string (bs ((rdL asks_2 x_14).Text))]⟩]) (B' := [Rd 0 kT_tontinelaw03_Thing A_3 c_4 asks_2]) (ks := [5, 6, 19, 20, 21, 43, 44, 45]) (by kernel_rfl) (by kernel_rfl) (by kernel_rfl) ?_
          refine GoO.exec (is := [4]) (hs := [.p]) (rest := []) (ks := [5, 6, 19, 20, 21, 46]) (env' := [(5, .pointer (some ⟨b_8, 0, none⟩)), (6, .pointer (some ⟨b_9, 0, none⟩)), (19, .slice A_3 asks_2.length c_4), (20, .int .i64 (asks_2.length : Int)), (21, .int .i64 x_14), (46, .bool (r_20.1 != r_21.1))]) (H' := [⟨41, b_9, [.string (bs r_21.2.S_), .bool r_21.2.Bad]⟩, ⟨40, b_8, [.string (bs r_20.2.s), .bool r_20.2.bad]⟩, ⟨42, b_17, [.int .i64 ((rdL asks_2 x_14).Kind), .int .u64 ((rdL asks_2 x_14).Num), .string (bs ((rdL asks_2 x_14).Text))]⟩]) (ps := []) (by kernel_rfl) trivial ?_
          refine GoO.regionEnd ?_
          refine GoO.ite' c8_44e (by kernel_rfl) (fun h22 => ?_) (fun h22 => ?_)
          · refine GoO.seq' c8_45e ?_
            refine GoO.region' (is := [0]) c8_46e (by kernel_rfl) ?_
            refine GoO.exec (is := [0]) (hs := [.p]) (rest := []) (ks := [4]) (env' := [(4, .bool false)]) (H' := [⟨41, b_9, [.string (bs r_21.2.S_), .bool r_21.2.Bad]⟩, ⟨40, b_8, [.string (bs r_20.2.s), .bool r_20.2.bad]⟩, ⟨42, b_17, [.int .i64 ((rdL asks_2 x_14).Kind), .int .u64 ((rdL asks_2 x_14).Num), .string (bs ((rdL asks_2 x_14).Text))]⟩]) (ps := []) (by kernel_rfl) trivial ?_
            refine GoO.regionEnd ?_
            exact GoO.ret' (h := c8_47e) (hs := []) (ps := []) (hk := []) (bk := []) Try.func8 () (by kernel_rfl) trivial (by kernel_rfl) (by kernel_rfl)
          · refine GoO.skip' c8_48e ?_
            exact GoO.sub (ks := [5, 6, 19, 20, 21]) (hk := [1, 0]) (bk := [0]) (by kernel_rfl) (by kernel_rfl) (by kernel_rfl) (tontinelaw03_PackReads_j0_ok n (tontinelaw03_PackReads.l0 n asks_2 k) asks_2 f_10 f_11 f_12 f_13 x_14 A_3 c_4 b_8 b_9 w0 S0 ih0 r_20.2.s r_20.2.bad r_21.2.S_ r_21.2.Bad)
        · refine GoO.seq' c8_49e ?_
          refine GoO.region' (is := [0, 1]) c8_50e (by kernel_rfl) ?_
          refine GoO.exec (is := [0, 1]) (hs := [.p, .p]) (rest := []) (ks := [5, 6, 9, 19, 20, 21, 32, 47]) (env' := [(5, .pointer (some ⟨b_8, 0, none⟩)), (6, .pointer (some ⟨b_9, 0, none⟩)), (9, .int .i64 (wi64 ((rdL asks_2 x_14).Num))), (19, .slice A_3 asks_2.length c_4), (20, .int .i64 (asks_2.length : Int)), (21, .int .i64 x_14), (32, .int .i64 ((rdL asks_2 x_14).Kind)), (47, .bool (((rdL asks_2 x_14).Kind) == 1))]) (H' := [⟨42, b_17, [.int .i64 ((rdL asks_2 x_14).Kind), .int .u64 ((rdL asks_2 x_14).Num), .string (bs ((rdL asks_2 x_14).Text))]⟩, ⟨40, b_8, [.string (bs f_10), .bool f_11]⟩, ⟨41, b_9, [.string (bs f_12), .bool f_13]⟩]) (ps := []) (by kernel_rfl) trivial ?_
          refine GoO.regionEnd ?_
          refine GoO.ite' c8_51e (by kernel_rfl) (fun h25 => ?_) (fun h25 => ?_)
          · refine GoO.seq' c8_52e ?_
            refine GoO.region' (is := [0, 1, 2, 3, 4]) c8_53e (by kernel_rfl) ?_
            refine GoO.exec (is := [0]) (hs := [.p]) (rest := [1, 2, 3, 4]) (ks := [5, 6, 19, 20, 21, 49]) (env' := [(5, .pointer (some ⟨b_8, 0, none⟩)), (6, .pointer (some ⟨b_9, 0, none⟩)), (19, .slice A_3 asks_2.length c_4), (20, .int .i64 (asks_2.length : Int)), (21, .int .i64 x_14), (49, .pointer (some ⟨b_8, 0, none⟩))]) (H' := [⟨42, b_17, [.int .i64 ((rdL asks_2 x_14).Kind), .int .u64 ((rdL asks_2 x_14).Num), .string (bs ((rdL asks_2 x_14).Text))]⟩, ⟨40, b_8, [.string (bs f_10), .bool f_11]⟩, ⟨41, b_9, [.string (bs f_12), .bool f_13]⟩]) (ps := []) (by kernel_rfl) trivial ?_
            refine OpTo.go (GoO.call rfl (by kernel_rfl) (by kernel_rfl) (pack_Reader_Int_ok n (⟨f_10, f_11⟩ : T_pack_Reader) b_8) [[0], [40]] [(40, 1)] [(1, 1)] [] (hks := [0, 2]) (bks := [0]) (by kernel_rfl) (by kernel_rfl) (by kernel_rfl) (.inl rfl) rfl rfl (by kernel_rfl) (by kernel_rfl) _ (fun _ _ => rfl) _ _ (fun _ _ => rfl) (fun _ _ => rfl) (fun _ _ => by kernel_rfl) (fun _ _ => by kernel_rfl) (fun r_26 x_30 => ?_))
            refine GoO.shape (env' := [(5, .pointer (some ⟨b_8, 0, none⟩)), (6, .pointer (some ⟨b_9, 0, none⟩)), (19, .slice A_3 asks_2.length c_4), (20, .int .i64 (asks_2.length : Int)), (21, .int .i64 x_14), (49, .pointer (some ⟨b_8, 0, none⟩)), (50, .int .i64 r_26.1)]) (H' := [⟨40, b_8, [.string (bs r_26.2.s), .bool r_26.2.bad]⟩, ⟨42, b_17, [.int .i64 ((rdL asks_2 x_14).Kind), .int .u64 ((rdL asks_2 x_14).Num), .string (bs ((rdL asks_2 x_14).Text))]⟩, ⟨41, b_9, [.string (bs f_12), .bool f_13]⟩]) (B' := [Rd 0 kT_tontinelaw03_Thing A_3 c_4 asks_2]) (ks := [5, 6, 19, 20, 21, 49, 50]) (by kernel_rfl) (by kernel_rfl) (by kernel_rfl) ?_
            refine GoO.exec (is := [2]) (hs := [.p]) (rest := [3, 4]) (ks := [5, 6, 19, 20, 21, 50, 51]) (env' := [(5, .pointer (some ⟨b_8, 0, none⟩)), (6, .pointer (some ⟨b_9, 0, none⟩)), (19, .slice A_3 asks_2.length c_4), (20, .int .i64 (asks_2.length : Int)), (21, .int .i64 x_14), (50, .int .i64 r_26.1), (51, .pointer (some ⟨b_9, 0, none⟩))]) (H' := [⟨40, b_8, [.string (bs r_26.2.s), .bool r_26.2.bad]⟩, ⟨42, b_17, [.int .i64 ((rdL asks_2 x_14).Kind), .int .u64 ((rdL asks_2 x_14).Num), .string (bs ((rdL asks_2 x_14).Text))]⟩, ⟨41, b_9, [.string (bs f_12), .bool f_13]⟩]) (ps := []) (by kernel_rfl) trivial ?_
            refine OpTo.go (GoO.call rfl (by kernel_rfl) (by kernel_rfl) (tontineref03_Reader_Int_ok n (⟨f_12, f_13⟩ : T_tontineref03_Reader) b_9) [[0], [41]] [(41, 1)] [(1, 2)] [] (hks := [0, 1]) (bks := [0]) (by kernel_rfl) (by kernel_rfl) (by kernel_rfl) (.inl rfl) rfl rfl (by kernel_rfl) (by kernel_rfl) _ (fun _ _ => rfl) _ _ (fun _ _ => rfl) (fun _ _ => rfl) (fun _ _ => by kernel_rfl) (fun _ _ => by kernel_rfl) (fun r_27 x_29 => ?_))
            refine GoO.shape (env' := [(5, .pointer (some ⟨b_8, 0, none⟩)), (6, .pointer (some ⟨b_9, 0, none⟩)), (19, .slice A_3 asks_2.length c_4), (20, .int .i64 (asks_2.length : Int)), (21, .int .i64 x_14), (50, .int .i64 r_26.1), (51, .pointer (some ⟨b_9, 0, none⟩)), (52, .int .i64 r_27.1)]) (H' := [⟨41, b_9, [.string (bs r_27.2.S_), .bool r_27.2.Bad]⟩, ⟨40, b_8, [.string (bs r_26.2.s), .bool r_26.2.bad]⟩, ⟨42, b_17, [.int .i64 ((rdL asks_2 x_14).Kind), .int .u64 ((rdL asks_2 x_14).Num), .string (bs ((rdL asks_2 x_14).Text))]⟩]) (B' := [Rd 0 kT_tontinelaw03_Thing A_3 c_4 asks_2]) (ks := [5, 6, 19, 20, 21, 50, 51, 52]) (by kernel_rfl) (by kernel_rfl) (by kernel_rfl) ?_
            refine GoO.exec (is := [4]) (hs := [.p]) (rest := []) (ks := [5, 6, 19, 20, 21, 53]) (env' := [(5, .pointer (some ⟨b_8, 0, none⟩)), (6, .pointer (some ⟨b_9, 0, none⟩)), (19, .slice A_3 asks_2.length c_4), (20, .int .i64 (asks_2.length : Int)), (21, .int .i64 x_14), (53, .bool (r_26.1 != r_27.1))]) (H' := [⟨41, b_9, [.string (bs r_27.2.S_), .bool r_27.2.Bad]⟩, ⟨40, b_8, [.string (bs r_26.2.s), .bool r_26.2.bad]⟩, ⟨42, b_17, [.int .i64 ((rdL asks_2 x_14).Kind), .int .u64 ((rdL asks_2 x_14).Num), .string (bs ((rdL asks_2 x_14).Text))]⟩]) (ps := []) (by kernel_rfl) trivial ?_
            refine GoO.regionEnd ?_
            refine GoO.ite' c8_54e (by kernel_rfl) (fun h28 => ?_) (fun h28 => ?_)
            · refine GoO.seq' c8_55e ?_
              refine GoO.region' (is := [0]) c8_56e (by kernel_rfl) ?_
              refine GoO.exec (is := [0]) (hs := [.p]) (rest := []) (ks := [4]) (env' := [(4, .bool false)]) (H' := [⟨41, b_9, [.string (bs r_27.2.S_), .bool r_27.2.Bad]⟩, ⟨40, b_8, [.string (bs r_26.2.s), .bool r_26.2.bad]⟩, ⟨42, b_17, [.int .i64 ((rdL asks_2 x_14).Kind), .int .u64 ((rdL asks_2 x_14).Num), .string (bs ((rdL asks_2 x_14).Text))]⟩]) (ps := []) (by kernel_rfl) trivial ?_
              refine GoO.regionEnd ?_
              exact GoO.ret' (h := c8_57e) (hs := []) (ps := []) (hk := []) (bk := []) Try.func8 () (by kernel_rfl) trivial (by kernel_rfl) (by kernel_rfl)
            · refine GoO.skip' c8_58e ?_
              exact GoO.sub (ks := [5, 6, 19, 20, 21]) (hk := [1, 0]) (bk := [0]) (by kernel_rfl) (by kernel_rfl) (by kernel_rfl) (tontinelaw03_PackReads_j0_ok n (tontinelaw03_PackReads.l0 n asks_2 k) asks_2 f_10 f_11 f_12 f_13 x_14 A_3 c_4 b_8 b_9 w0 S0 ih0 r_26.2.s r_26.2.bad r_27.2.S_ r_27.2.Bad)
          · refine GoO.seq' c8_59e ?_
            refine GoO.region' (is := [0, 1]) c8_60e (by kernel_rfl) ?_
            refine GoO.exec (is := [0, 1]) (hs := [.p, .p]) (rest := []) (ks := [5, 6, 9, 19, 20, 21, 32, 54]) (env' := [(5, .pointer (some ⟨b_8, 0, none⟩)), (6, .pointer (some ⟨b_9, 0, none⟩)), (9, .int .i64 (wi64 ((rdL asks_2 x_14).Num))), (19, .slice A_3 asks_2.length c_4), (20, .int .i64 (asks_2.length : Int)), (21, .int .i64 x_14), (32, .int .i64 ((rdL asks_2 x_14).Kind)), (54, .bool (((rdL asks_2 x_14).Kind) == 2))]) (H' := [⟨42, b_17, [.int .i64 ((rdL asks_2 x_14).Kind), .int .u64 ((rdL asks_2 x_14).Num), .string (bs ((rdL asks_2 x_14).Text))]⟩, ⟨40, b_8, [.string (bs f_10), .bool f_11]⟩, ⟨41, b_9, [.string (bs f_12), .bool f_13]⟩]) (ps := []) (by kernel_rfl) trivial ?_
            refine GoO.regionEnd ?_
            refine GoO.ite' c8_61e (by kernel_rfl) (fun h31 => ?_) (fun h31 => ?_)
            · refine GoO.seq' c8_62e ?_
              refine GoO.region' (is := [0, 1, 2, 3, 4, 5]) c8_63e (by kernel_rfl) ?_
              refine GoO.exec (is := [0]) (hs := [.p]) (rest := [1, 2, 3, 4, 5]) (ks := [5, 6, 19, 20, 21, 56]) (env' := [(5, .pointer (some ⟨b_8, 0, none⟩)), (6, .pointer (some ⟨b_9, 0, none⟩)), (19, .slice A_3 asks_2.length c_4), (20, .int .i64 (asks_2.length : Int)), (21, .int .i64 x_14), (56, .pointer (some ⟨b_8, 0, none⟩))]) (H' := [⟨42, b_17, [.int .i64 ((rdL asks_2 x_14).Kind), .int .u64 ((rdL asks_2 x_14).Num), .string (bs ((rdL asks_2 x_14).Text))]⟩, ⟨40, b_8, [.string (bs f_10), .bool f_11]⟩, ⟨41, b_9, [.string (bs f_12), .bool f_13]⟩]) (ps := []) (by kernel_rfl) trivial ?_
              refine OpTo.go (GoO.call rfl (by kernel_rfl) (by kernel_rfl) (pack_Reader_Bool_ok n (⟨f_10, f_11⟩ : T_pack_Reader) b_8) [[0], [40]] [(40, 1)] [(1, 1)] [] (hks := [0, 2]) (bks := [0]) (by kernel_rfl) (by kernel_rfl) (by kernel_rfl) (.inl rfl) rfl rfl (by kernel_rfl) (by kernel_rfl) _ (fun _ _ => rfl) _ _ (fun _ _ => rfl) (fun _ _ => rfl) (fun _ _ => by kernel_rfl) (fun _ _ => by kernel_rfl) (fun r_32 x_36 => ?_))
              refine GoO.shape (env' := [(5, .pointer (some ⟨b_8, 0, none⟩)), (6, .pointer (some ⟨b_9, 0, none⟩)), (19, .slice A_3 asks_2.length c_4), (20, .int .i64 (asks_2.length : Int)), (21, .int .i64 x_14), (56, .pointer (some ⟨b_8, 0, none⟩)), (57, .bool r_32.1)]) (H' := [⟨40, b_8, [.string (bs r_32.2.s), .bool r_32.2.bad]⟩, ⟨42, b_17, [.int .i64 ((rdL asks_2 x_14).Kind), .int .u64 ((rdL asks_2 x_14).Num), .string (bs ((rdL asks_2 x_14).Text))]⟩, ⟨41, b_9, [.string (bs f_12), .bool f_13]⟩]) (B' := [Rd 0 kT_tontinelaw03_Thing A_3 c_4 asks_2]) (ks := [5, 6, 19, 20, 21, 56, 57]) (by kernel_rfl) (by kernel_rfl) (by kernel_rfl) ?_
              refine GoO.exec (is := [2]) (hs := [.p]) (rest := [3, 4, 5]) (ks := [5, 6, 19, 20, 21, 57, 58]) (env' := [(5, .pointer (some ⟨b_8, 0, none⟩)), (6, .pointer (some ⟨b_9, 0, none⟩)), (19, .slice A_3 asks_2.length c_4), (20, .int .i64 (asks_2.length : Int)), (21, .int .i64 x_14), (57, .bool r_32.1), (58, .pointer (some ⟨b_9, 0, none⟩))]) (H' := [⟨40, b_8, [.string (bs r_32.2.s), .bool r_32.2.bad]⟩, ⟨42, b_17, [.int .i64 ((rdL asks_2 x_14).Kind), .int .u64 ((rdL asks_2 x_14).Num), .string (bs ((rdL asks_2 x_14).Text))]⟩, ⟨41, b_9, [.string (bs f_12), .bool f_13]⟩]) (ps := []) (by kernel_rfl) trivial ?_
              refine OpTo.go (GoO.call rfl (by kernel_rfl) (by kernel_rfl) (tontineref03_Reader_Up_ok n (⟨f_12, f_13⟩ : T_tontineref03_Reader) 1 b_9) [[0], [41]] [(41, 1)] [(1, 2)] [] (hks := [0, 1]) (bks := [0]) (by kernel_rfl) (by kernel_rfl) (by kernel_rfl) (.inl rfl) rfl rfl (by kernel_rfl) (by kernel_rfl) _ (fun _ _ => rfl) _ _ (fun _ _ => rfl) (fun _ _ => rfl) (fun _ _ => by kernel_rfl) (fun _ _ => by kernel_rfl) (fun r_33 x_35 => ?_))
              refine GoO.shape (env' := [(5, .pointer (some ⟨b_8, 0, none⟩)), (6, .pointer (some ⟨b_9, 0, none⟩)), (19, .slice A_3 asks_2.length c_4), (20, .int .i64 (asks_2.length : Int)), (21, .int .i64 x_14), (57, .bool r_32.1), (58, .pointer (some ⟨b_9, 0, none⟩)), (59, .int .i64 r_33.1)]) (H' := [⟨41, b_9, [.string (bs r_33.2.S_), .bool r_33.2.Bad]⟩, ⟨40, b_8, [.string (bs r_32.2.s), .bool r_32.2.bad]⟩, ⟨42, b_17, [.int .i64 ((rdL asks_2 x_14).Kind), .int .u64 ((rdL asks_2 x_14).Num), .string (bs ((rdL asks_2 x_14).Text))]⟩]) (B' := [Rd 0 kT_tontinelaw03_Thing A_3 c_4 asks_2]) (ks := [5, 6, 19, 20, 21, 57, 58, 59]) (by kernel_rfl) (by kernel_rfl) (by kernel_rfl) ?_
              refine GoO.exec (is := [4, 5]) (hs := [.p, .p]) (rest := []) (ks := [5, 6, 19, 20, 21, 61]) (env' := [(5, .pointer (some ⟨b_8, 0, none⟩)), (6, .pointer (some ⟨b_9, 0, none⟩)), (19, .slice A_3 asks_2.length c_4), (20, .int .i64 (asks_2.length : Int)), (21, .int .i64 x_14), (61, .bool (!(r_32.1 == (r_33.1 == 1))))]) (H' := [⟨41, b_9, [.string (bs r_33.2.S_), .bool r_33.2.Bad]⟩, ⟨40, b_8, [.string (bs r_32.2.s), .bool r_32.2.bad]⟩, ⟨42, b_17, [.int .i64 ((rdL asks_2 x_14).Kind), .int .u64 ((rdL asks_2 x_14).Num), .string (bs ((rdL asks_2 x_14).Text))]⟩]) (ps := []) (by kernel_rfl) trivial ?_
              refine GoO.regionEnd ?_
              refine GoO.ite' c8_64e (by kernel_rfl) (fun h34 => ?_) (fun h34 => ?_)
              · refine GoO.seq' c8_65e ?_
                refine GoO.region' (is := [0]) c8_66e (by kernel_rfl) ?_
                refine GoO.exec (is := [0]) (hs := [.p]) (rest := []) (ks := [4]) (env' := [(4, .bool false)]) (H' := [⟨41, b_9, [.string (bs r_33.2.S_), .bool r_33.2.Bad]⟩, ⟨40, b_8, [.string (bs r_32.2.s), .bool r_32.2.bad]⟩, ⟨42, b_17, [.int .i64 ((rdL asks_2 x_14).Kind), .int .u64 ((rdL asks_2 x_14).Num), .string (bs ((rdL asks_2 x_14).Text))]⟩]) (ps := []) (by kernel_rfl) trivial ?_
                refine GoO.regionEnd ?_
                exact GoO.ret' (h := c8_67e) (hs := []) (ps := []) (hk := []) (bk := []) Try.func8 () (by kernel_rfl) trivial (by kernel_rfl) (by kernel_rfl)
              · refine GoO.skip' c8_68e ?_
                exact GoO.sub (ks := [5, 6, 19, 20, 21]) (hk := [1, 0]) (bk := [0]) (by kernel_rfl) (by kernel_rfl) (by kernel_rfl) (tontinelaw03_PackReads_j0_ok n (tontinelaw03_PackReads.l0 n asks_2 k) asks_2 f_10 f_11 f_12 f_13 x_14 A_3 c_4 b_8 b_9 w0 S0 ih0 r_32.2.s r_32.2.bad r_33.2.S_ r_33.2.Bad)
            · refine GoO.seq' c8_69e ?_
              refine GoO.region' (is := [0, 1]) c8_70e (by kernel_rfl) ?_
              refine GoO.exec (is := [0, 1]) (hs := [.p, .p]) (rest := []) (ks := [5, 6, 9, 19, 20, 21, 62]) (env' := [(5, .pointer (some ⟨b_8, 0, none⟩)), (6, .pointer (some ⟨b_9, 0, none⟩)), (9, .int .i64 (wi64 ((rdL asks_2 x_14).Num))), (19, .slice A_3 asks_2.length c_4), (20, .int .i64 (asks_2.length : Int)), (21, .int .i64 x_14), (62, .bool (((rdL asks_2 x_14).Kind) == 3))]) (H' := [⟨42, b_17, [.int .i64 ((rdL asks_2 x_14).Kind), .int .u64 ((rdL asks_2 x_14).Num), .string (bs ((rdL asks_2 x_14).Text))]⟩, ⟨40, b_8, [.string (bs f_10), .bool f_11]⟩, ⟨41, b_9, [.string (bs f_12), .bool f_13]⟩]) (ps := []) (by kernel_rfl) trivial ?_
              refine GoO.regionEnd ?_
              refine GoO.ite' c8_71e (by kernel_rfl) (fun h37 => ?_) (fun h37 => ?_)
              · refine GoO.seq' c8_72e ?_
                refine GoO.region' (is := [0, 1, 2, 3, 4, 5, 6]) c8_73e (by kernel_rfl) ?_
                refine GoO.exec (is := [0, 1]) (hs := [.p, .p]) (rest := [2, 3, 4, 5, 6]) (ks := [5, 6, 9, 19, 20, 21, 64, 65]) (env' := [(5, .pointer (some ⟨b_8, 0, none⟩)), (6, .pointer (some ⟨b_9, 0, none⟩)), (9, .int .i64 (wi64 ((rdL asks_2 x_14).Num))), (19, .slice A_3 asks_2.length c_4), (20, .int .i64 (asks_2.length : Int)), (21, .int .i64 x_14), (64, .pointer (some ⟨b_8, 0, none⟩)), (65, .int .i64 (wi64 ((rdL asks_2 x_14).Num)))]) (H' := [⟨42, b_17, [.int .i64 ((rdL asks_2 x_14).Kind), .int .u64 ((rdL asks_2 x_14).Num), .string (bs ((rdL asks_2 x_14).Text))]⟩, ⟨40, b_8, [.string (bs f_10), .bool f_11]⟩, ⟨41, b_9, [.string (bs f_12), .bool f_13]⟩]) (ps := []) (by kernel_rfl) trivial ?_
                refine OpTo.go (GoO.call rfl (by kernel_rfl) (by kernel_rfl) (pack_Reader_Text_ok n (⟨f_10, f_11⟩ : T_pack_Reader) (wi64 ((rdL asks_2 x_14).Num)) b_8) [[0], [40]] [(40, 1)] [(1, 1)] [] (hks := [0, 2]) (bks := [0]) (by kernel_rfl) (by kernel_rfl) (by kernel_rfl) (.inl rfl) rfl rfl (by kernel_rfl) (by kernel_rfl) _ (fun _ _ => rfl) _ _ (fun _ _ => rfl) (fun _ _ => rfl) (fun _ _ => by kernel_rfl) (fun _ _ => by kernel_rfl) (fun r_38 x_42 => ?_))
                refine GoO.shape (env' := [(5, .pointer (some ⟨b_8, 0, none⟩)), (6, .pointer (some ⟨b_9, 0, none⟩)), (9, .int .i64 (wi64 ((rdL asks_2 x_14).Num))), (19, .slice A_3 asks_2.length c_4), (20, .int .i64 (asks_2.length : Int)), (21, .int .i64 x_14), (64, .pointer (some ⟨b_8, 0, none⟩)), (65, .int .i64 (wi64 ((rdL asks_2 x_14).Num))), (66, .string (bs r_38.1))]) (H' := [⟨40, b_8, [.string (bs r_38.2.s), .bool r_38.2.bad]⟩, ⟨42, b_17, [.int .i64 ((rdL asks_2 x_14).Kind), .int .u64 ((rdL asks_2 x_14).Num), .string (bs ((rdL asks_2 x_14).Text))]⟩, ⟨41, b_9, [.string (bs f_12), .bool f_13]⟩]) (B' := [Rd 0 kT_tontinelaw03_Thing A_3 c_4 asks_2]) (ks := [5, 6, 9, 19, 20, 21, 64, 65, 66]) (by kernel_rfl) (by kernel_rfl) (by kernel_rfl) ?_
                refine GoO.exec (is := [3, 4]) (hs := [.p, .p]) (rest := [5, 6]) (ks := [5, 6, 19, 20, 21, 66, 67, 68]) (env' := [(5, .pointer (some ⟨b_8, 0, none⟩)), (6, .pointer (some ⟨b_9, 0, none⟩)), (19, .slice A_3 asks_2.length c_4), (20, .int .i64 (asks_2.length : Int)), (21, .int .i64 x_14), (66, .string (bs r_38.1)), (67, .pointer (some ⟨b_9, 0, none⟩)), (68, .int .i64 (wi64 ((rdL asks_2 x_14).Num)))]) (H' := [⟨40, b_8, [.string (bs r_38.2.s), .bool r_38.2.bad]⟩, ⟨42, b_17, [.int .i64 ((rdL asks_2 x_14).Kind), .int .u64 ((rdL asks_2 x_14).Num), .string (bs ((rdL asks_2 x_14).Text))]⟩, ⟨41, b_9, [.string (bs f_12), .bool f_13]⟩]) (ps := []) (by kernel_rfl) trivial ?_
                refine OpTo.go (GoO.call rfl (by kernel_rfl) (by kernel_rfl) (tontineref03_Reader_Text_ok n (⟨f_12, f_13⟩ : T_tontineref03_Reader) (wi64 ((rdL asks_2 x_14).Num)) b_9) [[0], [41]] [(41, 1)] [(1, 2)] [] (hks := [0, 1]) (bks := [0]) (by kernel_rfl) (by kernel_rfl) (by kernel_rfl) (.inl rfl) rfl rfl (by kernel_rfl) (by kernel_rfl) _ (fun _ _ => rfl) _ _ (fun _ _ => rfl) (fun _ _ => rfl) (fun _ _ => by kernel_rfl) (fun _ _ => by kernel_rfl) (fun r_39 x_41 => ?_))
                refine GoO.shape (env' := [(5, .pointer (some ⟨b_8, 0, none⟩)), (6, .pointer (some ⟨b_9, 0, none⟩)), (19, .slice A_3 asks_2.length c_4), (20, .int .i64 (asks_2.length : Int)), (21, .int .i64 x_14), (66, .string (bs r_38.1)), (67, .pointer (some ⟨b_9, 0, none⟩)), (68, .int .i64 (wi64 ((rdL asks_2 x_14).Num))), (69, .string (bs r_39.1))]) (H' := [⟨41, b_9, [.string (bs r_39.2.S_), .bool r_39.2.Bad]⟩, ⟨40, b_8, [.string (bs r_38.2.s), .bool r_38.2.bad]⟩, ⟨42, b_17, [.int .i64 ((rdL asks_2 x_14).Kind), .int .u64 ((rdL asks_2 x_14).Num), .string (bs ((rdL asks_2 x_14).Text))]⟩]) (B' := [Rd 0 kT_tontinelaw03_Thing A_3 c_4 asks_2]) (ks := [5, 6, 19, 20, 21, 66, 67, 68, 69]) (by kernel_rfl) (by kernel_rfl) (by kernel_rfl) ?_
                refine GoO.exec (is := [6]) (hs := [.p]) (rest := []) (ks := [5, 6, 19, 20, 21, 70]) (env' := [(5, .pointer (some ⟨b_8, 0, none⟩)), (6, .pointer (some ⟨b_9, 0, none⟩)), (19, .slice A_3 asks_2.length c_4), (20, .int .i64 (asks_2.length : Int)), (21, .int .i64 x_14), (70, .bool (!(r_38.1 == r_39.1)))]) (H' := [⟨41, b_9, [.string (bs r_39.2.S_), .bool r_39.2.Bad]⟩, ⟨40, b_8, [.string (bs r_38.2.s), .bool r_38.2.bad]⟩, ⟨42, b_17, [.int .i64 ((rdL asks_2 x_14).Kind), .int .u64 ((rdL asks_2 x_14).Num), .string (bs ((rdL asks_2 x_14).Text))]⟩]) (ps := []) (by kernel_rfl) trivial ?_
                refine GoO.regionEnd ?_
                refine GoO.ite' c8_74e (by kernel_rfl) (fun h40 => ?_) (fun h40 => ?_)
                · refine GoO.seq' c8_75e ?_
                  refine GoO.region' (is := [0]) c8_76e (by kernel_rfl) ?_
                  refine GoO.exec (is := [0]) (hs := [.p]) (rest := []) (ks := [4]) (env' := [(4, .bool false)]) (H' := [⟨41, b_9, [.string (bs r_39.2.S_), .bool r_39.2.Bad]⟩, ⟨40, b_8, [.string (bs r_38.2.s), .bool r_38.2.bad]⟩, ⟨42, b_17, [.int .i64 ((rdL asks_2 x_14).Kind), .int .u64 ((rdL asks_2 x_14).Num), .string (bs ((rdL asks_2 x_14).Text))]⟩]) (ps := []) (by kernel_rfl) trivial ?_
                  refine GoO.regionEnd ?_
                  exact GoO.ret' (h := c8_77e) (hs := []) (ps := []) (hk := []) (bk := []) Try.func8 () (by kernel_rfl) trivial (by kernel_rfl) (by kernel_rfl)
                · refine GoO.skip' c8_78e ?_
                  exact GoO.sub (ks := [5, 6, 19, 20, 21]) (hk := [1, 0]) (bk := [0]) (by kernel_rfl) (by kernel_rfl) (by kernel_rfl) (tontinelaw03_PackReads_j0_ok n (tontinelaw03_PackReads.l0 n asks_2 k) asks_2 f_10 f_11 f_12 f_13 x_14 A_3 c_4 b_8 b_9 w0 S0 ih0 r_38.2.s r_38.2.bad r_39.2.S_ r_39.2.Bad)
              · refine GoO.seq' c8_79e ?_
                refine GoO.region' (is := [0, 1, 2, 3, 4, 5, 6]) c8_80e (by kernel_rfl) ?_
                refine GoO.exec (is := [0, 1]) (hs := [.p, .p]) (rest := [2, 3, 4, 5, 6]) (ks := [5, 6, 9, 19, 20, 21, 33, 34]) (env' := [(5, .pointer (some ⟨b_8, 0, none⟩)), (6, .pointer (some ⟨b_9, 0, none⟩)), (9, .int .i64 (wi64 ((rdL asks_2 x_14).Num))), (19, .slice A_3 asks_2.length c_4), (20, .int .i64 (asks_2.length : Int)), (21, .int .i64 x_14), (33, .pointer (some ⟨b_8, 0, none⟩)), (34, .int .i64 (wi64 ((rdL asks_2 x_14).Num)))]) (H' := [⟨42, b_17, [.int .i64 ((rdL asks_2 x_14).Kind), .int .u64 ((rdL asks_2 x_14).Num), .string (bs ((rdL asks_2 x_14).Text))]⟩, ⟨40, b_8, [.string (bs f_10), .bool f_11]⟩, ⟨41, b_9, [.string (bs f_12), .bool f_13]⟩]) (ps := []) (by kernel_rfl) trivial ?_
                refine OpTo.go (GoO.call rfl (by kernel_rfl) (by kernel_rfl) (pack_Reader_Up_ok n (⟨f_10, f_11⟩ : T_pack_Reader) (wi64 ((rdL asks_2 x_14).Num)) b_8) [[0], [40]] [(40, 1)] [(1, 1)] [] (hks := [0, 2]) (bks := [0]) (by kernel_rfl) (by kernel_rfl) (by kernel_rfl) (.inl rfl) rfl rfl (by kernel_rfl) (by kernel_rfl) _ (fun _ _ => rfl) _ _ (fun _ _ => rfl) (fun _ _ => rfl) (fun _ _ => by kernel_rfl) (fun _ _ => by kernel_rfl) (fun r_43 x_47 => ?_))
                refine GoO.shape (env' := [(5, .pointer (some ⟨b_8, 0, none⟩)), (6, .pointer (some ⟨b_9, 0, none⟩)), (9, .int .i64 (wi64 ((rdL asks_2 x_14).Num))), (19, .slice A_3 asks_2.length c_4), (20, .int .i64 (asks_2.length : Int)), (21, .int .i64 x_14), (33, .pointer (some ⟨b_8, 0, none⟩)), (34, .int .i64 (wi64 ((rdL asks_2 x_14).Num))), (35, .int .i64 r_43.1)]) (H' := [⟨40, b_8, [.string (bs r_43.2.s), .bool r_43.2.bad]⟩, ⟨42, b_17, [.int .i64 ((rdL asks_2 x_14).Kind), .int .u64 ((rdL asks_2 x_14).Num), .string (bs ((rdL asks_2 x_14).Text))]⟩, ⟨41, b_9, [.string (bs f_12), .bool f_13]⟩]) (B' := [Rd 0 kT_tontinelaw03_Thing A_3 c_4 asks_2]) (ks := [5, 6, 9, 19, 20, 21, 33, 34, 35]) (by kernel_rfl) (by kernel_rfl) (by kernel_rfl) ?_
                refine GoO.exec (is := [3, 4]) (hs := [.p, .p]) (rest := [5, 6]) (ks := [5, 6, 19, 20, 21, 35, 36, 37]) (env' := [(5, .pointer (some ⟨b_8, 0, none⟩)), (6, .pointer (some ⟨b_9, 0, none⟩)), (19, .slice A_3 asks_2.length c_4), (20, .int .i64 (asks_2.length : Int)), (21, .int .i64 x_14), (35, .int .i64 r_43.1), (36, .pointer (some ⟨b_9, 0, none⟩)), (37, .int .i64 (wi64 ((rdL asks_2 x_14).Num)))]) (H' := [⟨40, b_8, [.string (bs r_43.2.s), .bool r_43.2.bad]⟩, ⟨42, b_17, [.int .i64 ((rdL asks_2 x_14).Kind), .int .u64 ((rdL asks_2 x_14).Num), .string (bs ((rdL asks_2 x_14).Text))]⟩, ⟨41, b_9, [.string (bs f_12), .bool f_13]⟩]) (ps := []) (by kernel_rfl) trivial ?_
                refine OpTo.go (GoO.call rfl (by kernel_rfl) (by kernel_rfl) (tontineref03_Reader_Up_ok n (⟨f_12, f_13⟩ : T_tontineref03_Reader) (wi64 ((rdL asks_2 x_14).Num)) b_9) [[0], [41]] [(41, 1)] [(1, 2)] [] (hks := [0, 1]) (bks := [0]) (by kernel_rfl) (by kernel_rfl) (by kernel_rfl) (.inl rfl) rfl rfl (by kernel_rfl) (by kernel_rfl) _ (fun _ _ => rfl) _ _ (fun _ _ => rfl) (fun _ _ => rfl) (fun _ _ => by kernel_rfl) (fun _ _ => by kernel_rfl) (fun r_44 x_46 => ?_))
                refine GoO.shape (env' := [(5, .pointer (some ⟨b_8, 0, none⟩)), (6, .pointer (some ⟨b_9, 0, none⟩)), (19, .slice A_3 asks_2.length c_4), (20, .int .i64 (asks_2.length : Int)), (21, .int .i64 x_14), (35, .int .i64 r_43.1), (36, .pointer (some ⟨b_9, 0, none⟩)), (37, .int .i64 (wi64 ((rdL asks_2 x_14).Num))), (38, .int .i64 r_44.1)]) (H' := [⟨41, b_9, [.string (bs r_44.2.S_), .bool r_44.2.Bad]⟩, ⟨40, b_8, [.string (bs r_43.2.s), .bool r_43.2.bad]⟩, ⟨42, b_17, [.int .i64 ((rdL asks_2 x_14).Kind), .int .u64 ((rdL asks_2 x_14).Num), .string (bs ((rdL asks_2 x_14).Text))]⟩]) (B' := [Rd 0 kT_tontinelaw03_Thing A_3 c_4 asks_2]) (ks := [5, 6, 19, 20, 21, 35, 36, 37, 38]) (by kernel_rfl) (by kernel_rfl) (by kernel_rfl) ?_
                refine GoO.exec (is := [6]) (hs := [.p]) (rest := []) (ks := [5, 6, 19, 20, 21, 39]) (env' := [(5, .pointer (some ⟨b_8, 0, none⟩)), (6, .pointer (some ⟨b_9, 0, none⟩)), (19, .slice A_3 asks_2.length c_4), (20, .int .i64 (asks_2.length : Int)), (21, .int .i64 x_14), (39, .bool (r_43.1 != r_44.1))]) (H' := [⟨41, b_9, [.string (bs r_44.2.S_), .bool r_44.2.Bad]⟩, ⟨40, b_8, [.string (bs r_43.2.s), .bool r_43.2.bad]⟩, ⟨42, b_17, [.int .i64 ((rdL asks_2 x_14).Kind), .int .u64 ((rdL asks_2 x_14).Num), .string (bs ((rdL asks_2 x_14).Text))]⟩]) (ps := []) (by kernel_rfl) trivial ?_
                refine GoO.regionEnd ?_
                refine GoO.ite' c8_81e (by kernel_rfl) (fun h45 => ?_) (fun h45 => ?_)
                · refine GoO.seq' c8_82e ?_
                  refine GoO.region' (is := [0]) c8_83e (by kernel_rfl) ?_
                  refine GoO.exec (is := [0]) (hs := [.p]) (rest := []) (ks := [4]) (env' := [(4, .bool false)]) (H' := [⟨41, b_9, [.string (bs r_44.2.S_), .bool r_44.2.Bad]⟩, ⟨40, b_8, [.string (bs r_43.2.s), .bool r_43.2.bad]⟩, ⟨42, b_17, [.int .i64 ((rdL asks_2 x_14).Kind), .int .u64 ((rdL asks_2 x_14).Num), .string (bs ((rdL asks_2 x_14).Text))]⟩]) (ps := []) (by kernel_rfl) trivial ?_
                  refine GoO.regionEnd ?_
                  exact GoO.ret' (h := c8_84e) (hs := []) (ps := []) (hk := []) (bk := []) Try.func8 () (by kernel_rfl) trivial (by kernel_rfl) (by kernel_rfl)
                · refine GoO.skip' c8_85e ?_
                  exact GoO.sub (ks := [5, 6, 19, 20, 21]) (hk := [1, 0]) (bk := [0]) (by kernel_rfl) (by kernel_rfl) (by kernel_rfl) (tontinelaw03_PackReads_j0_ok n (tontinelaw03_PackReads.l0 n asks_2 k) asks_2 f_10 f_11 f_12 f_13 x_14 A_3 c_4 b_8 b_9 w0 S0 ih0 r_43.2.s r_43.2.bad r_44.2.S_ r_44.2.Bad)
    · refine GoO.exit' c8_22e rfl ?_
      refine GoO.seq' c8_96e ?_
      refine GoO.region' (is := [0]) c8_97e (by kernel_rfl) ?_
      refine GoO.exec (is := [0]) (hs := [.p]) (rest := []) (ks := [4]) (env' := [(4, .bool true)]) (H' := [⟨40, b_8, [.string (bs f_10), .bool f_11]⟩, ⟨41, b_9, [.string (bs f_12), .bool f_13]⟩]) (ps := []) (by kernel_rfl) trivial ?_
      refine GoO.regionEnd ?_
      exact GoO.ret' (h := c8_98e) (hs := []) (ps := []) (hk := []) (bk := []) Try.func8 () (by kernel_rfl) trivial (by kernel_rfl) (by kernel_rfl)
theorem tontinelaw03_PackReads_ok (n : Nat) (s_1 : (List UInt8)) (asks_2 : (List T_tontinelaw03_Thing)) (A_3 : Option Addr) (c_4 : Nat) :
    Meets Try.prog 8 [.string (bs s_1), .slice A_3 asks_2.length c_4] 0 [] [] [Rd 0 kT_tontinelaw03_Thing A_3 c_4 asks_2] (tontinelaw03_PackReads.f n s_1 asks_2) (tontinelaw03_PackReads.R A_3 c_4) := by
  refine Meets.of (c := c8_0) (n := 102) Try.func8 (by kernel_rfl) (by kernel_rfl) (by kernel_rfl) fun w0 S0 => ?_
  unfold tontinelaw03_PackReads.f
  show GoO (tontinelaw03_PackReads.cx A_3 c_4 w0 S0) [(0, .string (bs s_1)), (1, .slice A_3 asks_2.length c_4)] [] [Rd 0 kT_tontinelaw03_Thing A_3 c_4 asks_2] [.code c8_0] _
  refine GoO.seq' c8_0e ?_
  refine GoO.region' (is := [0]) c8_1e (by kernel_rfl) ?_
  refine GoO.exec (is := [0]) (hs := [.p]) (rest := []) (ks := [0, 1]) (env' := [(0, .string (bs s_1)), (1, .slice A_3 asks_2.length c_4)]) (H' := []) (ps := []) (by kernel_rfl) trivial ?_
  refine GoO.regionEnd ?_
  refine GoO.seq' c8_2e ?_
  refine GoO.seq' c8_3e ?_
  refine GoO.region' (is := [0, 1]) c8_4e (by kernel_rfl) ?_
  refine OpTo.go (GoO.call rfl (by kernel_rfl) (by kernel_rfl) (tontinelaw03_begun_ok n) [[0]] [] [] [] (hks := []) (bks := [0]) (by kernel_rfl) (by kernel_rfl) (by kernel_rfl) (.inl rfl) rfl rfl (by kernel_rfl) (by kernel_rfl) _ (fun _ _ => rfl) _ _ (fun _ _ => rfl) (fun _ _ => rfl) (fun _ _ => by kernel_rfl) (fun _ _ => by kernel_rfl) (fun r_5 x_51 => ?_))
  refine GoO.shape (env' := [(0, .string (bs s_1)), (1, .slice A_3 asks_2.length c_4), (12, .bool r_5)]) (H' := []) (B' := [Rd 0 kT_tontinelaw03_Thing A_3 c_4 asks_2]) (ks := [0, 1, 12]) (by kernel_rfl) (by kernel_rfl) (by kernel_rfl) ?_
  refine GoO.exec (is := [1]) (hs := [.p]) (rest := []) (ks := [0, 1, 13]) (env' := [(0, .string (bs s_1)), (1, .slice A_3 asks_2.length c_4), (13, .bool (!r_5))]) (H' := []) (ps := []) (by kernel_rfl) trivial ?_
  refine GoO.regionEnd ?_
  refine GoO.ite' c8_5e (by kernel_rfl) (fun h6 => ?_) (fun h6 => ?_)
  · refine GoO.seq' c8_6e ?_
    refine GoO.region' (is := [0]) c8_7e (by kernel_rfl) ?_
    refine GoO.exec (is := [0]) (hs := [.p]) (rest := []) (ks := [4]) (env' := [(4, .bool false)]) (H' := []) (ps := []) (by kernel_rfl) trivial ?_
    refine GoO.regionEnd ?_
    exact GoO.ret' (h := c8_8e) (hs := []) (ps := []) (hk := []) (bk := []) Try.func8 () (by kernel_rfl) trivial (by kernel_rfl) (by kernel_rfl)
  · refine GoO.skip' c8_9e ?_
    refine GoO.seq' c8_10e ?_
    refine GoO.region' (is := [0, 1, 2, 3, 4, 5, 6]) c8_11e (by kernel_rfl) ?_
    refine GoO.exec (is := [0]) (hs := [.p]) (rest := [1, 2, 3, 4, 5, 6]) (ks := [0, 1, 14]) (env' := [(0, .string (bs s_1)), (1, .slice A_3 asks_2.length c_4), (14, .string (bs s_1))]) (H' := []) (ps := []) (by kernel_rfl) trivial ?_
    refine OpTo.go (GoO.call rfl (by kernel_rfl) (by kernel_rfl) (pack_From_ok n s_1) [[0]] [(40, 1)] [] [] (hks := []) (bks := [0]) (by kernel_rfl) (by kernel_rfl) (by kernel_rfl) (.inl rfl) rfl rfl (by kernel_rfl) (by kernel_rfl) _ (fun _ _ => rfl) _ _ (fun _ _ => rfl) (fun _ _ => rfl) (fun _ _ => by kernel_rfl) (fun _ _ => by kernel_rfl) (fun r_7 b_8 => ?_))
    refine GoO.shape (env' := [(0, .string (bs s_1)), (1, .slice A_3 asks_2.length c_4), (14, .string (bs s_1)), (15, .pointer (some ⟨b_8, 0, none⟩))]) (H' := [⟨40, b_8, [.string (bs r_7.s), .bool r_7.bad]⟩]) (B' := [Rd 0 kT_tontinelaw03_Thing A_3 c_4 asks_2]) (ks := [0, 1, 14, 15]) (by kernel_rfl) (by kernel_rfl) (by kernel_rfl) ?_
    refine GoO.exec (is := [2, 3]) (hs := [.p, .p]) (rest := [4, 5, 6]) (ks := [1, 15, 17]) (env' := [(1, .slice A_3 asks_2.length c_4), (15, .pointer (some ⟨b_8, 0, none⟩)), (17, .agg ⟨[.string (bs s_1), .bool false]⟩)]) (H' := [⟨40, b_8, [.string (bs r_7.s), .bool r_7.bad]⟩]) (ps := []) (by kernel_rfl) trivial ?_
    refine OpTo.go (GoO.new rfl 41 (cs := [.string (bs s_1), .bool false]) (by kernel_rfl) _ (fun _ => rfl) (fun b_9 => ?_))
    refine GoO.exec (is := [5, 6]) (hs := [.p, .p]) (rest := []) (ks := [1, 5, 6]) (env' := [(1, .slice A_3 asks_2.length c_4), (5, .pointer (some ⟨b_8, 0, none⟩)), (6, .pointer (some ⟨b_9, 0, none⟩))]) (H' := [⟨41, b_9, [.string (bs s_1), .bool false]⟩, ⟨40, b_8, [.string (bs r_7.s), .bool r_7.bad]⟩]) (ps := []) (by kernel_rfl) trivial ?_
    refine GoO.regionEnd ?_
    refine GoO.seq' c8_12e ?_
    refine GoO.seq' c8_13e ?_
    refine GoO.region' (is := [0, 1, 2]) c8_14e (by kernel_rfl) ?_
    refine GoO.exec (is := [0, 1, 2]) (hs := [.p, .p, .p]) (rest := []) (ks := [5, 6, 19, 20, 21]) (env' := [(5, .pointer (some ⟨b_8, 0, none⟩)), (6, .pointer (some ⟨b_9, 0, none⟩)), (19, .slice A_3 asks_2.length c_4), (20, .int .i64 (asks_2.length : Int)), (21, .int .i64 0)]) (H' := [⟨41, b_9, [.string (bs s_1), .bool false]⟩, ⟨40, b_8, [.string (bs r_7.s), .bool r_7.bad]⟩]) (ps := []) (by kernel_rfl) trivial ?_
    refine GoO.regionEnd ?_
    refine GoO.block' c8_15e ?_
    refine GoO.loop' c8_16e ?_
    exact GoO.sub (ks := [5, 6, 19, 20, 21]) (hk := [1, 0]) (bk := [0]) (by kernel_rfl) (by kernel_rfl) (by kernel_rfl) (tontinelaw03_PackReads_l0_ok n asks_2 A_3 c_4 b_8 b_9 w0 S0 n r_7.s r_7.bad s_1 false 0)
end Go.GL
