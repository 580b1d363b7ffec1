import Derived.Test.YtcpcdnjpdblhoaaKindsT1
import Derived.Test.YtcpcdnjpdblhoaaProg
set_option linter.unusedVariables false
set_option linter.unusedSimpArgs false
set_option maxRecDepth 100000
namespace Go.GL
open Go Go.Proofs

/-! (*tontine/pack.Writer).Num -/
noncomputable def c17_0 : Code := bodyOf Try.f17
noncomputable def c17_1 : Code := cdL c17_0
noncomputable def c17_2 : Code := cdR c17_0
noncomputable def c17_3 : Code := cdL c17_2
noncomputable def c17_4 : Code := cdL c17_3
noncomputable def c17_5 : Code := cdR c17_3
noncomputable def c17_9 : Code := cdR c17_5
noncomputable def c17_10 : Code := cdR c17_2
noncomputable def c17_11 : Code := cdL c17_10
noncomputable def c17_12 : Code := cdR c17_10
noncomputable def c17_13 : Code := cdL c17_12
noncomputable def c17_14 : Code := cdL c17_13
noncomputable def c17_15 : Code := cdR c17_13
noncomputable def c17_16 : Code := cdL c17_15
noncomputable def c17_17 : Code := cdL c17_16
noncomputable def c17_18 : Code := cdL c17_17
noncomputable def c17_19 : Code := cdL c17_18
noncomputable def c17_20 : Code := cdR c17_18
noncomputable def c17_21 : Code := cdL c17_20
noncomputable def c17_22 : Code := cdR c17_20
noncomputable def c17_23 : Code := cdR c17_17
noncomputable def c17_24 : Code := cdL c17_23
noncomputable def c17_25 : Code := cdL c17_24
noncomputable def c17_26 : Code := cdR c17_23
noncomputable def c17_27 : Code := cdR c17_12
noncomputable def c17_28 : Code := cdL c17_27
noncomputable def c17_29 : Code := cdR c17_27
noncomputable def c17_30 : Code := cdL c17_29
noncomputable def c17_31 : Code := cdL c17_30
noncomputable def c17_32 : Code := cdR c17_30
noncomputable def c17_33 : Code := cdL c17_32
noncomputable def c17_34 : Code := cdL c17_33
noncomputable def c17_35 : Code := cdL c17_34
noncomputable def c17_36 : Code := cdL c17_35
noncomputable def c17_37 : Code := cdR c17_35
noncomputable def c17_38 : Code := cdL c17_37
noncomputable def c17_39 : Code := cdR c17_37
noncomputable def c17_40 : Code := cdR c17_34
noncomputable def c17_41 : Code := cdL c17_40
noncomputable def c17_42 : Code := cdL c17_41
noncomputable def c17_43 : Code := cdR c17_40
noncomputable def c17_44 : Code := cdR c17_29
noncomputable def c17_45 : Code := cdL c17_44
noncomputable def c17_46 : Code := cdR c17_44
noncomputable def c17_6 : Code := cdL c17_5
noncomputable def r17_1 : Array Oper := cdO c17_1
noncomputable def r17_4 : Array Oper := cdO c17_4
noncomputable def r17_11 : Array Oper := cdO c17_11
noncomputable def r17_14 : Array Oper := cdO c17_14
noncomputable def r17_19 : Array Oper := cdO c17_19
noncomputable def r17_25 : Array Oper := cdO c17_25
noncomputable def r17_26 : Array Oper := cdO c17_26
noncomputable def r17_28 : Array Oper := cdO c17_28
noncomputable def r17_31 : Array Oper := cdO c17_31
noncomputable def r17_36 : Array Oper := cdO c17_36
noncomputable def r17_42 : Array Oper := cdO c17_42
noncomputable def r17_43 : Array Oper := cdO c17_43
noncomputable def r17_45 : Array Oper := cdO c17_45
theorem c17_0e : c17_0 = .seq c17_1 c17_2 := by kernel_rfl
theorem c17_1e : c17_1 = .region 0 r17_1 false := by kernel_rfl
theorem c17_2e : c17_2 = .seq c17_3 c17_10 := by kernel_rfl
theorem c17_3e : c17_3 = .seq c17_4 c17_5 := by kernel_rfl
theorem c17_4e : c17_4 = .region 1 r17_4 false := by kernel_rfl
theorem c17_5e : c17_5 = .cond (cdC c17_5) c17_6 c17_9 := by kernel_rfl
theorem c17_9e : c17_9 = .skip := by kernel_rfl
theorem c17_10e : c17_10 = .seq c17_11 c17_12 := by kernel_rfl
theorem c17_11e : c17_11 = .region 3 r17_11 false := by kernel_rfl
theorem c17_12e : c17_12 = .seq c17_13 c17_27 := by kernel_rfl
theorem c17_13e : c17_13 = .seq c17_14 c17_15 := by kernel_rfl
theorem c17_14e : c17_14 = .region 4 r17_14 false := by kernel_rfl
theorem c17_15e : c17_15 = .block 0 c17_16 := by kernel_rfl
theorem c17_16e : c17_16 = .loop c17_17 := by kernel_rfl
theorem c17_17e : c17_17 = .seq c17_18 c17_23 := by kernel_rfl
theorem c17_18e : c17_18 = .seq c17_19 c17_20 := by kernel_rfl
theorem c17_19e : c17_19 = .region 5 r17_19 false := by kernel_rfl
theorem c17_20e : c17_20 = .cond (cdC c17_20) c17_21 c17_22 := by kernel_rfl
theorem c17_21e : c17_21 = .skip := by kernel_rfl
theorem c17_22e : c17_22 = .exit 0 := by kernel_rfl
theorem c17_23e : c17_23 = .seq c17_24 c17_26 := by kernel_rfl
theorem c17_24e : c17_24 = .block 1 c17_25 := by kernel_rfl
theorem c17_25e : c17_25 = .region 7 r17_25 false := by kernel_rfl
theorem c17_26e : c17_26 = .region 6 r17_26 false := by kernel_rfl
theorem c17_27e : c17_27 = .seq c17_28 c17_29 := by kernel_rfl
theorem c17_28e : c17_28 = .region 8 r17_28 false := by kernel_rfl
theorem c17_29e : c17_29 = .seq c17_30 c17_44 := by kernel_rfl
theorem c17_30e : c17_30 = .seq c17_31 c17_32 := by kernel_rfl
theorem c17_31e : c17_31 = .region 9 r17_31 false := by kernel_rfl
theorem c17_32e : c17_32 = .block 2 c17_33 := by kernel_rfl
theorem c17_33e : c17_33 = .loop c17_34 := by kernel_rfl
theorem c17_34e : c17_34 = .seq c17_35 c17_40 := by kernel_rfl
theorem c17_35e : c17_35 = .seq c17_36 c17_37 := by kernel_rfl
theorem c17_36e : c17_36 = .region 10 r17_36 false := by kernel_rfl
theorem c17_37e : c17_37 = .cond (cdC c17_37) c17_38 c17_39 := by kernel_rfl
theorem c17_38e : c17_38 = .skip := by kernel_rfl
theorem c17_39e : c17_39 = .exit 2 := by kernel_rfl
theorem c17_40e : c17_40 = .seq c17_41 c17_43 := by kernel_rfl
theorem c17_41e : c17_41 = .block 3 c17_42 := by kernel_rfl
theorem c17_42e : c17_42 = .region 12 r17_42 true := by kernel_rfl
theorem c17_43e : c17_43 = .region 11 r17_43 false := by kernel_rfl
theorem c17_44e : c17_44 = .seq c17_45 c17_46 := by kernel_rfl
theorem c17_45e : c17_45 = .region 13 r17_45 false := by kernel_rfl
theorem c17_46e : c17_46 = .ret := by kernel_rfl
noncomputable def pack_Writer_Num.R (b_2 : Nat) (A_3 : Option Addr) (c_4 : Nat) : Pst T_pack_Writer where
  ε := Option Addr × Nat
  v := fun r x => .pointer (some ⟨b_2, 0, none⟩)
  H := fun r x => [⟨1, b_2, [.slice x.1 r.b.length x.2]⟩]
  B := fun r x => [Ow 2 Kd.u8 x.1 x.2 r.b]
noncomputable def pack_Writer_Num.cx (b_2 : Nat) (A_3 : Option Addr) (c_4 : Nat) (w0 : World) (S0 : Fam) : Cx T_pack_Writer := ⟨Try.prog, 17, Try.f17, 49, w0, S0, [1, 2], 2, pack_Writer_Num.R b_2 A_3 c_4⟩
theorem pack_Writer_Num_l1_ok (n : Nat) (x_5 : Int) (b_2 : Nat) (A_3 : Option Addr) (c_4 : Nat) (w0 : World) (S0 : Fam) :
    ∀ (k : Nat) (f_14 : (List UInt8)) (i_17 : Int) (A_15 : Option Addr) (c_16 : Nat), GoO (pack_Writer_Num.cx b_2 A_3 c_4 w0 S0) [(0, .pointer (some ⟨b_2, 0, none⟩)), (1, .int .u64 x_5), (7, .int .i64 i_17)] [⟨1, b_2, [.slice A_15 f_14.length c_16]⟩] [Ow 2 Kd.u8 A_15 c_16 f_14] [.code c17_34, .inLoop c17_34, .inBlock 2, .code c17_44] (pack_Writer_Num.l1 n x_5 k f_14 i_17) := by
  intro k
  induction k with
  | zero => intros; rw [pack_Writer_Num.l1.eq_1]; exact GoO.stop
  | succ k ih1 =>
    intro f_14 i_17 A_15 c_16
    rw [pack_Writer_Num.l1.eq_2]
    refine GoO.seq' c17_34e ?_
    refine GoO.seq' c17_35e ?_
    refine GoO.region' (is := [0, 1]) c17_36e (by kernel_rfl) ?_
    refine GoO.exec (is := [0, 1]) (hs := [.p, .p]) (rest := []) (ks := [0, 1, 7, 31]) (env' := [(0, .pointer (some ⟨b_2, 0, none⟩)), (1, .int .u64 x_5), (7, .int .i64 i_17), (31, .bool (decide (i_17 ≥ 0)))]) (H' := [⟨1, b_2, [.slice A_15 f_14.length c_16]⟩]) (ps := []) (by kernel_rfl) trivial ?_
    refine GoO.regionEnd ?_
    refine GoO.ite' c17_37e (by kernel_rfl) (fun h18 => ?_) (fun h18 => ?_)
    · refine GoO.skip' c17_38e ?_
      refine GoO.seq' c17_40e ?_
      refine GoO.block' c17_41e ?_
      refine GoO.draw c17_42e (by kernel_rfl) [12, 13, 14] [⟨1, b_2, [.slice A_15 f_14.length c_16]⟩] [] (n := 15) (by kernel_rfl) ?_
      simp only [List.replicate]
      refine GoF.guard (fun h19 => ?_)
      refine GoF.take [0, 1, 2, 3, 4, 5, 6, 7, 8, 9] [.p, .p, .p, .p, .b 0, .p, .p, .p, .p, .p] (ks := [0, 1, 7, 34, 38, 43]) (fu := 5) (li := [true, true, true, true, true, true, true, true, true, true, false, false, false, false, false]) (env' := [(0, .pointer (some ⟨b_2, 0, none⟩)), (1, .int .u64 x_5), (7, .int .i64 i_17), (34, .pointer (some ⟨b_2, 0, none⟩)), (38, .slice A_15 f_14.length c_16), (43, .int .u8 (wu8 (shR .u64 x_5 (wi64 (8 * i_17)))))]) (ps := [b_2 = b_2, (0 : Int) ≤ (wi64 (8 * i_17))]) (hk := [0]) (bk := []) (by kernel_rfl) (And.intro rfl (And.intro h19 trivial)) rfl rfl ?_
      refine OpTo.goF (i := 10) (by kernel_rfl) (hk := [0]) (bk := []) (GoO.lit (e := 5) (K := Kd.u8) rfl (by kernel_rfl) (by kernel_rfl) (cs := [.int .u8 (wu8 (shR .u64 x_5 (wi64 (8 * i_17))))]) (by kernel_rfl) [u8of (shR .u64 x_5 (wi64 (8 * i_17)))] (by kernel_rfl) (by kernel_rfl) (fun w S hB => ⟨[.int .u8 (wu8 (shR .u64 x_5 (wi64 (8 * i_17))))], _, rfl, congrArg (fun v => [v]) (u8cell _), rfl⟩) 41 _ (fun _ _ => rfl) (fun A_20 c_21 => ⟨rfl, rfl, ?_⟩))
      refine GoF.guard (fun h22 => ?_)
      refine OpTo.goF (i := 11) (by kernel_rfl) (hk := [0]) (bk := []) (GoO.appW (e := 5) (K := Kd.u8) (A := A_15) (c := c_16) (tg := 2) (bytes := 1) (zs := [.int .u8 0]) (xs := f_14) (ys := [u8of (shR .u64 x_5 (wi64 (8 * i_17)))]) (xv := .slice A_20 [u8of (shR .u64 x_5 (wi64 (8 * i_17)))].length c_21) (j := 1) (bk := [0]) rfl (by kernel_rfl) (by kernel_rfl) (by kernel_rfl) (by kernel_rfl) rfl (by kernel_rfl) rfl (fun w S hB => SrcIs.row (Reads.own w S (hB _ (List.mem_of_getElem? (i := 0) rfl)))) h22 rfl rfl rfl rfl _ (fun _ _ => rfl) (fun A_23 c_24 => ⟨rfl, rfl, ?_⟩))
      refine GoF.fin1 (i := 12) (hint := .p) (ps := []) (hk := []) (bk := []) (by kernel_rfl) rfl trivial (.inl rfl) ?_
      refine GoF.fin1 (i := 13) (hint := .p) (ps := []) (hk := []) (bk := []) (by kernel_rfl) rfl trivial (.inl rfl) ?_
      refine GoF.fin1 (i := 14) (hint := .b 0) (ps := [b_2 = b_2]) (hk := []) (bk := []) (by kernel_rfl) rfl (And.intro rfl trivial) (.inl rfl) ?_
      refine GoF.done (by kernel_rfl) ?_
      refine GoO.inBlock ?_
      refine GoO.region' (is := [0, 1, 2]) c17_43e (by kernel_rfl) ?_
      refine GoO.exec (is := [0, 1, 2]) (hs := [.p, .p, .p]) (rest := []) (ks := [0, 1, 7]) (env' := [(0, .pointer (some ⟨b_2, 0, none⟩)), (1, .int .u64 x_5), (7, .int .i64 (wi64 (i_17 - 1)))]) (H' := [⟨1, b_2, [.slice A_23 (f_14 ++ [u8of (shR .u64 x_5 (wi64 (8 * i_17)))]).length c_24]⟩]) (ps := []) (by kernel_rfl) trivial ?_
      refine GoO.regionEnd ?_
      refine GoO.inLoop ?_
      exact GoO.sub (ks := [0, 1, 7]) (hk := [0]) (bk := [0]) (by kernel_rfl) (by kernel_rfl) (by kernel_rfl) (ih1 (f_14 ++ [u8of (shR .u64 x_5 (wi64 (8 * i_17)))]) (wi64 (i_17 - 1)) A_23 c_24)
    · refine GoO.exit' c17_39e rfl ?_
      refine GoO.seq' c17_44e ?_
      refine GoO.region' (is := [0, 1]) c17_45e (by kernel_rfl) ?_
      refine GoO.exec (is := [0, 1]) (hs := [.p, .p]) (rest := []) (ks := [4]) (env' := [(4, .pointer (some ⟨b_2, 0, none⟩))]) (H' := [⟨1, b_2, [.slice A_15 f_14.length c_16]⟩]) (ps := []) (by kernel_rfl) trivial ?_
      refine GoO.regionEnd ?_
      exact GoO.ret' (h := c17_46e) (hs := []) (ps := []) (hk := [0]) (bk := [0]) Try.func17 (⟨A_15, c_16⟩ : Option Addr × Nat) (by kernel_rfl) trivial (by kernel_rfl) (by kernel_rfl)
theorem pack_Writer_Num_l0_ok (n : Nat) (w_1 : T_pack_Writer) (x_5 : Int) (b_2 : Nat) (A_3 : Option Addr) (c_4 : Nat) (w0 : World) (S0 : Fam) :
    ∀ (k : Nat) (n_6 : Int) (y_7 : Int), GoO (pack_Writer_Num.cx b_2 A_3 c_4 w0 S0) [(0, .pointer (some ⟨b_2, 0, none⟩)), (1, .int .u64 x_5), (5, .int .i64 n_6), (6, .int .u64 y_7)] [⟨1, b_2, [.slice A_3 w_1.b.length c_4]⟩] [Ow 2 Kd.u8 A_3 c_4 w_1.b] [.code c17_17, .inLoop c17_17, .inBlock 0, .code c17_27] (pack_Writer_Num.l0 n w_1 x_5 k n_6 y_7) := by
  intro k
  induction k with
  | zero => intros; rw [pack_Writer_Num.l0.eq_1]; exact GoO.stop
  | succ k ih0 =>
    intro n_6 y_7
    rw [pack_Writer_Num.l0.eq_2]
    refine GoO.seq' c17_17e ?_
    refine GoO.seq' c17_18e ?_
    refine GoO.region' (is := [0, 1]) c17_19e (by kernel_rfl) ?_
    refine GoO.exec (is := [0, 1]) (hs := [.p, .p]) (rest := []) (ks := [0, 1, 5, 6, 12]) (env' := [(0, .pointer (some ⟨b_2, 0, none⟩)), (1, .int .u64 x_5), (5, .int .i64 n_6), (6, .int .u64 y_7), (12, .bool (decide (y_7 > 0)))]) (H' := [⟨1, b_2, [.slice A_3 w_1.b.length c_4]⟩]) (ps := []) (by kernel_rfl) trivial ?_
    refine GoO.regionEnd ?_
    refine GoO.ite' c17_20e (by kernel_rfl) (fun h8 => ?_) (fun h8 => ?_)
    · refine GoO.skip' c17_21e ?_
      refine GoO.seq' c17_23e ?_
      refine GoO.block' c17_24e ?_
      refine GoO.region' (is := [0, 1, 2]) c17_25e (by kernel_rfl) ?_
      refine GoO.exec (is := [0, 1, 2]) (hs := [.p, .p, .p]) (rest := []) (ks := [0, 1, 5, 6]) (env' := [(0, .pointer (some ⟨b_2, 0, none⟩)), (1, .int .u64 x_5), (5, .int .i64 (wi64 (n_6 + 1))), (6, .int .u64 y_7)]) (H' := [⟨1, b_2, [.slice A_3 w_1.b.length c_4]⟩]) (ps := []) (by kernel_rfl) trivial ?_
      refine GoO.regionEnd ?_
      refine GoO.inBlock ?_
      refine GoO.region' (is := [0, 1, 2]) c17_26e (by kernel_rfl) ?_
      refine GoO.exec (is := [0, 1, 2]) (hs := [.p, .p, .p]) (rest := []) (ks := [0, 1, 5, 6]) (env' := [(0, .pointer (some ⟨b_2, 0, none⟩)), (1, .int .u64 x_5), (5, .int .i64 (wi64 (n_6 + 1))), (6, .int .u64 (shR .u64 y_7 8))]) (H' := [⟨1, b_2, [.slice A_3 w_1.b.length c_4]⟩]) (ps := [(0 : Int) ≤ 8]) (by kernel_rfl) (And.intro (by decide) trivial) ?_
      refine GoO.regionEnd ?_
      refine GoO.inLoop ?_
      exact GoO.sub (ks := [0, 1, 5, 6]) (hk := [0]) (bk := [0]) (by kernel_rfl) (by kernel_rfl) (by kernel_rfl) (ih0 (wi64 (n_6 + 1)) (shR .u64 y_7 8))
    · refine GoO.exit' c17_22e rfl ?_
      refine GoO.seq' c17_27e ?_
      refine GoO.region' (is := [0, 1, 2, 3, 4, 5, 6, 7, 8, 9, 10, 11]) c17_28e (by kernel_rfl) ?_
      refine GoO.exec (is := [0, 1, 2, 3, 4, 5, 6]) (hs := [.p, .p, .p, .p, .b 0, .p, .p]) (rest := [7, 8, 9, 10, 11]) (ks := [0, 1, 5, 17, 21, 23]) (env' := [(0, .pointer (some ⟨b_2, 0, none⟩)), (1, .int .u64 x_5), (5, .int .i64 n_6), (17, .pointer (some ⟨b_2, 0, none⟩)), (21, .slice A_3 w_1.b.length c_4), (23, .int .u8 (wu8 n_6))]) (H' := [⟨1, b_2, [.slice A_3 w_1.b.length c_4]⟩]) (ps := [b_2 = b_2]) (by kernel_rfl) (And.intro rfl trivial) ?_
      refine OpTo.go (GoO.lit (e := 5) (K := Kd.u8) rfl (by kernel_rfl) (by kernel_rfl) (cs := [.int .u8 (wu8 n_6)]) (by kernel_rfl) [u8of n_6] (by kernel_rfl) (by kernel_rfl) (fun w S hB => ⟨[.int .u8 (wu8 n_6)], _, rfl, congrArg (fun v => [v]) (u8cell _), rfl⟩) 40 _ (fun _ _ => rfl) (fun A_9 c_10 => ?_))
      refine GoO.guard (fun h11 => ?_)
      refine OpTo.go (GoO.appW (e := 5) (K := Kd.u8) (A := A_3) (c := c_4) (tg := 2) (bytes := 1) (zs := [.int .u8 0]) (xs := w_1.b) (ys := [u8of n_6]) (xv := .slice A_9 [u8of n_6].length c_10) (j := 1) (bk := [0]) rfl (by kernel_rfl) (by kernel_rfl) (by kernel_rfl) (by kernel_rfl) rfl (by kernel_rfl) rfl (fun w S hB => SrcIs.row (Reads.own w S (hB _ (List.mem_of_getElem? (i := 0) rfl)))) h11 rfl rfl rfl rfl _ (fun _ _ => rfl) (fun A_12 c_13 => ?_))
      refine GoO.exec (is := [9, 10, 11]) (hs := [.p, .p, .b 0]) (rest := []) (ks := [0, 1, 5]) (env' := [(0, .pointer (some ⟨b_2, 0, none⟩)), (1, .int .u64 x_5), (5, .int .i64 n_6)]) (H' := [⟨1, b_2, [.slice A_12 (w_1.b ++ [u8of n_6]).length c_13]⟩]) (ps := [b_2 = b_2]) (by kernel_rfl) (And.intro rfl trivial) ?_
      refine GoO.regionEnd ?_
      refine GoO.seq' c17_29e ?_
      refine GoO.seq' c17_30e ?_
      refine GoO.region' (is := [0, 1, 2]) c17_31e (by kernel_rfl) ?_
      refine GoO.exec (is := [0, 1, 2]) (hs := [.p, .p, .p]) (rest := []) (ks := [0, 1, 7]) (env' := [(0, .pointer (some ⟨b_2, 0, none⟩)), (1, .int .u64 x_5), (7, .int .i64 (wi64 (n_6 - 1)))]) (H' := [⟨1, b_2, [.slice A_12 (w_1.b ++ [u8of n_6]).length c_13]⟩]) (ps := []) (by kernel_rfl) trivial ?_
      refine GoO.regionEnd ?_
      refine GoO.block' c17_32e ?_
      refine GoO.loop' c17_33e ?_
      exact GoO.sub (ks := [0, 1, 7]) (hk := [0]) (bk := [0]) (by kernel_rfl) (by kernel_rfl) (by kernel_rfl) (pack_Writer_Num_l1_ok n x_5 b_2 A_3 c_4 w0 S0 n (w_1.b ++ [u8of n_6]) (wi64 (n_6 - 1)) A_12 c_13)
theorem pack_Writer_Num_ok (n : Nat) (w_1 : T_pack_Writer) (x_5 : Int) (b_2 : Nat) (A_3 : Option Addr) (c_4 : Nat) :
    Meets Try.prog 17 [.pointer (some ⟨b_2, 0, none⟩), .int .u64 x_5] 2 [1, 2] [⟨1, b_2, [.slice A_3 w_1.b.length c_4]⟩] [Ow 2 Kd.u8 A_3 c_4 w_1.b] (pack_Writer_Num.f n w_1 x_5) (pack_Writer_Num.R b_2 A_3 c_4) := by
  refine Meets.of (c := c17_0) (n := 49) Try.func17 (by kernel_rfl) (by kernel_rfl) (by kernel_rfl) fun w0 S0 => ?_
  unfold pack_Writer_Num.f
  show GoO (pack_Writer_Num.cx b_2 A_3 c_4 w0 S0) [(0, .pointer (some ⟨b_2, 0, none⟩)), (1, .int .u64 x_5)] [⟨1, b_2, [.slice A_3 w_1.b.length c_4]⟩] [Ow 2 Kd.u8 A_3 c_4 w_1.b] [.code c17_0] _
  refine GoO.seq' c17_0e ?_
  refine GoO.region' (is := [0]) c17_1e (by kernel_rfl) ?_
  refine GoO.exec (is := [0]) (hs := [.p]) (rest := []) (ks := [0, 1]) (env' := [(0, .pointer (some ⟨b_2, 0, none⟩)), (1, .int .u64 x_5)]) (H' := [⟨1, b_2, [.slice A_3 w_1.b.length c_4]⟩]) (ps := []) (by kernel_rfl) trivial ?_
  refine GoO.regionEnd ?_
  refine GoO.seq' c17_2e ?_
  refine GoO.seq' c17_3e ?_
  refine GoO.region' (is := [0, 1]) c17_4e (by kernel_rfl) ?_
  refine GoO.exec (is := [0, 1]) (hs := [.p, .p]) (rest := []) (ks := [0, 1, 9]) (env' := [(0, .pointer (some ⟨b_2, 0, none⟩)), (1, .int .u64 x_5), (9, .bool false)]) (H' := [⟨1, b_2, [.slice A_3 w_1.b.length c_4]⟩]) (ps := []) (by kernel_rfl) trivial ?_
  refine GoO.regionEnd ?_
  refine GoO.condF c17_5e (by kernel_rfl) ?_
  refine GoO.skip' c17_9e ?_
  refine GoO.seq' c17_10e ?_
  refine GoO.region' (is := [0]) c17_11e (by kernel_rfl) ?_
  refine GoO.exec (is := [0]) (hs := [.p]) (rest := []) (ks := [0, 1, 5]) (env' := [(0, .pointer (some ⟨b_2, 0, none⟩)), (1, .int .u64 x_5), (5, .int .i64 0)]) (H' := [⟨1, b_2, [.slice A_3 w_1.b.length c_4]⟩]) (ps := []) (by kernel_rfl) trivial ?_
  refine GoO.regionEnd ?_
  refine GoO.seq' c17_12e ?_
  refine GoO.seq' c17_13e ?_
  refine GoO.region' (is := [0, 1]) c17_14e (by kernel_rfl) ?_
  refine GoO.exec (is := [0, 1]) (hs := [.p, .p]) (rest := []) (ks := [0, 1, 5, 6]) (env' := [(0, .pointer (some ⟨b_2, 0, none⟩)), (1, .int .u64 x_5), (5, .int .i64 0), (6, .int .u64 x_5)]) (H' := [⟨1, b_2, [.slice A_3 w_1.b.length c_4]⟩]) (ps := []) (by kernel_rfl) trivial ?_
  refine GoO.regionEnd ?_
  refine GoO.block' c17_15e ?_
  refine GoO.loop' c17_16e ?_
  exact GoO.sub (ks := [0, 1, 5, 6]) (hk := [0]) (bk := [0]) (by kernel_rfl) (by kernel_rfl) (by kernel_rfl) (pack_Writer_Num_l0_ok n w_1 x_5 b_2 A_3 c_4 w0 S0 n 0 x_5)

/-! (*tontine/pack.Writer).Text -/
noncomputable def c26_0 : Code := bodyOf Try.f26
noncomputable def c26_1 : Code := cdL c26_0
noncomputable def c26_2 : Code := cdR c26_0
noncomputable def c26_3 : Code := cdL c26_2
noncomputable def c26_4 : Code := cdL c26_3
noncomputable def c26_5 : Code := cdR c26_3
noncomputable def c26_9 : Code := cdR c26_5
noncomputable def c26_10 : Code := cdR c26_2
noncomputable def c26_11 : Code := cdL c26_10
noncomputable def c26_12 : Code := cdR c26_10
noncomputable def c26_13 : Code := cdL c26_12
noncomputable def c26_14 : Code := cdR c26_12
noncomputable def c26_15 : Code := cdL c26_14
noncomputable def c26_16 : Code := cdR c26_14
noncomputable def c26_6 : Code := cdL c26_5
noncomputable def r26_1 : Array Oper := cdO c26_1
noncomputable def r26_4 : Array Oper := cdO c26_4
noncomputable def r26_11 : Array Oper := cdO c26_11
noncomputable def r26_13 : Array Oper := cdO c26_13
noncomputable def r26_15 : Array Oper := cdO c26_15
theorem c26_0e : c26_0 = .seq c26_1 c26_2 := by kernel_rfl
theorem c26_1e : c26_1 = .region 0 r26_1 false := by kernel_rfl
theorem c26_2e : c26_2 = .seq c26_3 c26_10 := by kernel_rfl
theorem c26_3e : c26_3 = .seq c26_4 c26_5 := by kernel_rfl
theorem c26_4e : c26_4 = .region 1 r26_4 false := by kernel_rfl
theorem c26_5e : c26_5 = .cond (cdC c26_5) c26_6 c26_9 := by kernel_rfl
theorem c26_9e : c26_9 = .skip := by kernel_rfl
theorem c26_10e : c26_10 = .seq c26_11 c26_12 := by kernel_rfl
theorem c26_11e : c26_11 = .region 3 r26_11 false := by kernel_rfl
theorem c26_12e : c26_12 = .seq c26_13 c26_14 := by kernel_rfl
theorem c26_13e : c26_13 = .region 4 r26_13 false := by kernel_rfl
theorem c26_14e : c26_14 = .seq c26_15 c26_16 := by kernel_rfl
theorem c26_15e : c26_15 = .region 5 r26_15 false := by kernel_rfl
theorem c26_16e : c26_16 = .ret := by kernel_rfl
noncomputable def pack_Writer_Text.R (b_2 : Nat) (A_3 : Option Addr) (c_4 : Nat) : Pst T_pack_Writer where
  ε := Option Addr × Nat
  v := fun r x => .pointer (some ⟨b_2, 0, none⟩)
  H := fun r x => [⟨1, b_2, [.slice x.1 r.b.length x.2]⟩]
  B := fun r x => [Ow 2 Kd.u8 x.1 x.2 r.b]
noncomputable def pack_Writer_Text.cx (b_2 : Nat) (A_3 : Option Addr) (c_4 : Nat) (w0 : World) (S0 : Fam) : Cx T_pack_Writer := ⟨Try.prog, 26, Try.f26, 22, w0, S0, [1, 2], 2, pack_Writer_Text.R b_2 A_3 c_4⟩
theorem pack_Writer_Text_ok (n : Nat) (w_1 : T_pack_Writer) (s_5 : (List UInt8)) (b_2 : Nat) (A_3 : Option Addr) (c_4 : Nat) :
    Meets Try.prog 26 [.pointer (some ⟨b_2, 0, none⟩), .string (bs s_5)] 2 [1, 2] [⟨1, b_2, [.slice A_3 w_1.b.length c_4]⟩] [Ow 2 Kd.u8 A_3 c_4 w_1.b] (pack_Writer_Text.f n w_1 s_5) (pack_Writer_Text.R b_2 A_3 c_4) := by
  refine Meets.of (c := c26_0) (n := 22) Try.func26 (by kernel_rfl) (by kernel_rfl) (by kernel_rfl) fun w0 S0 => ?_
  unfold pack_Writer_Text.f
  show GoO (pack_Writer_Text.cx b_2 A_3 c_4 w0 S0) [(0, .pointer (some ⟨b_2, 0, none⟩)), (1, .string (bs s_5))] [⟨1, b_2, [.slice A_3 w_1.b.length c_4]⟩] [Ow 2 Kd.u8 A_3 c_4 w_1.b] [.code c26_0] _
  refine GoO.seq' c26_0e ?_
  refine GoO.region' (is := [0]) c26_1e (by kernel_rfl) ?_
  refine GoO.exec (is := [0]) (hs := [.p]) (rest := []) (ks := [0, 1]) (env' := [(0, .pointer (some ⟨b_2, 0, none⟩)), (1, .string (bs s_5))]) (H' := [⟨1, b_2, [.slice A_3 w_1.b.length c_4]⟩]) (ps := []) (by kernel_rfl) trivial ?_
  refine GoO.regionEnd ?_
  refine GoO.seq' c26_2e ?_
  refine GoO.seq' c26_3e ?_
  refine GoO.region' (is := [0, 1]) c26_4e (by kernel_rfl) ?_
  refine GoO.exec (is := [0, 1]) (hs := [.p, .p]) (rest := []) (ks := [0, 1, 6]) (env' := [(0, .pointer (some ⟨b_2, 0, none⟩)), (1, .string (bs s_5)), (6, .bool false)]) (H' := [⟨1, b_2, [.slice A_3 w_1.b.length c_4]⟩]) (ps := []) (by kernel_rfl) trivial ?_
  refine GoO.regionEnd ?_
  refine GoO.condF c26_5e (by kernel_rfl) ?_
  refine GoO.skip' c26_9e ?_
  refine GoO.seq' c26_10e ?_
  refine GoO.region' (is := [0, 1, 2, 3, 4]) c26_11e (by kernel_rfl) ?_
  refine GoO.exec (is := [0, 1, 2, 3]) (hs := [.p, .p, .p, .p]) (rest := [4]) (ks := [0, 1, 7, 10]) (env' := [(0, .pointer (some ⟨b_2, 0, none⟩)), (1, .string (bs s_5)), (7, .pointer (some ⟨b_2, 0, none⟩)), (10, .int .u64 (wu64 (s_5.length : Int)))]) (H' := [⟨1, b_2, [.slice A_3 w_1.b.length c_4]⟩]) (ps := []) (by kernel_rfl) trivial ?_
  refine OpTo.go (GoO.call rfl (by kernel_rfl) (by kernel_rfl) (pack_Writer_Num_ok n w_1 (wu64 (s_5.length : Int)) b_2 A_3 c_4) [[0], [1], [2]] [(1, 1), (2, 2)] [(1, 0)] [(2, 0)] (hks := []) (bks := []) (by kernel_rfl) (by kernel_rfl) (by kernel_rfl) (.inl rfl) rfl rfl (by kernel_rfl) (by kernel_rfl) _ (fun _ _ => rfl) _ _ (fun _ _ => rfl) (fun _ _ => rfl) (fun _ _ => by kernel_rfl) (fun _ _ => by kernel_rfl) (fun r_6 x_12 => ?_))
  obtain ⟨A_7, c_8⟩ := x_12
  refine GoO.shape (env' := [(0, .pointer (some ⟨b_2, 0, none⟩)), (1, .string (bs s_5)), (7, .pointer (some ⟨b_2, 0, none⟩)), (10, .int .u64 (wu64 (s_5.length : Int))), (11, .pointer (some ⟨b_2, 0, none⟩))]) (H' := [⟨1, b_2, [.slice A_7 r_6.b.length c_8]⟩]) (B' := [Ow 2 Kd.u8 A_7 c_8 r_6.b]) (ks := [0, 1, 7, 10, 11]) (by kernel_rfl) (by kernel_rfl) (by kernel_rfl) ?_
  refine GoO.regionEnd ?_
  refine GoO.seq' c26_12e ?_
  refine GoO.region' (is := [0, 1, 2, 3, 4, 5, 6, 7, 8, 9]) c26_13e (by kernel_rfl) ?_
  refine GoO.exec (is := [0, 1, 2, 3, 4, 5]) (hs := [.p, .p, .p, .p, .b 0, .p]) (rest := [6, 7, 8, 9]) (ks := [0, 12, 16, 17]) (env' := [(0, .pointer (some ⟨b_2, 0, none⟩)), (12, .pointer (some ⟨b_2, 0, none⟩)), (16, .slice A_7 r_6.b.length c_8), (17, .string (bs s_5))]) (H' := [⟨1, b_2, [.slice A_7 r_6.b.length c_8]⟩]) (ps := [b_2 = b_2]) (by kernel_rfl) (And.intro rfl trivial) ?_
  refine GoO.guard (fun h9 => ?_)
  refine OpTo.go (GoO.appW (e := 5) (K := Kd.u8) (A := A_7) (c := c_8) (tg := 2) (bytes := 1) (zs := [.int .u8 0]) (xs := r_6.b) (ys := s_5) (xv := .string (bs s_5)) (j := 0) (bk := []) rfl (by kernel_rfl) (by kernel_rfl) (by kernel_rfl) (by kernel_rfl) rfl (by kernel_rfl) rfl (fun _ _ _ => SrcIs.str _) h9 rfl rfl rfl rfl _ (fun _ _ => rfl) (fun A_10 c_11 => ?_))
  refine GoO.exec (is := [7, 8, 9]) (hs := [.p, .p, .b 0]) (rest := []) (ks := [0]) (env' := [(0, .pointer (some ⟨b_2, 0, none⟩))]) (H' := [⟨1, b_2, [.slice A_10 (r_6.b ++ s_5).length c_11]⟩]) (ps := [b_2 = b_2]) (by kernel_rfl) (And.intro rfl trivial) ?_
  refine GoO.regionEnd ?_
  refine GoO.seq' c26_14e ?_
  refine GoO.region' (is := [0, 1]) c26_15e (by kernel_rfl) ?_
  refine GoO.exec (is := [0, 1]) (hs := [.p, .p]) (rest := []) (ks := [4]) (env' := [(4, .pointer (some ⟨b_2, 0, none⟩))]) (H' := [⟨1, b_2, [.slice A_10 (r_6.b ++ s_5).length c_11]⟩]) (ps := []) (by kernel_rfl) trivial ?_
  refine GoO.regionEnd ?_
  exact GoO.ret' (h := c26_16e) (hs := []) (ps := []) (hk := [0]) (bk := [0]) Try.func26 (⟨A_10, c_11⟩ : Option Addr × Nat) (by kernel_rfl) trivial (by kernel_rfl) (by kernel_rfl)

/-! tontine/plan.Write -/
noncomputable def c18_0 : Code := bodyOf Try.f18
noncomputable def c18_1 : Code := cdL c18_0
noncomputable def c18_2 : Code := cdR c18_0
noncomputable def c18_3 : Code := cdL c18_2
noncomputable def c18_4 : Code := cdR c18_2
noncomputable def c18_5 : Code := cdL c18_4
noncomputable def c18_6 : Code := cdL c18_5
noncomputable def c18_7 : Code := cdL c18_6
noncomputable def c18_8 : Code := cdR c18_6
noncomputable def c18_9 : Code := cdL c18_8
noncomputable def c18_10 : Code := cdL c18_9
noncomputable def c18_11 : Code := cdR c18_9
noncomputable def c18_12 : Code := cdR c18_8
noncomputable def c18_13 : Code := cdL c18_12
noncomputable def c18_14 : Code := cdL c18_13
noncomputable def c18_15 : Code := cdL c18_14
noncomputable def c18_16 : Code := cdR c18_14
noncomputable def c18_17 : Code := cdR c18_12
noncomputable def r18_1 : Array Oper := cdO c18_1
noncomputable def r18_3 : Array Oper := cdO c18_3
noncomputable def r18_7 : Array Oper := cdO c18_7
noncomputable def r18_15 : Array Oper := cdO c18_15
noncomputable def r18_16 : Array Oper := cdO c18_16
noncomputable def r18_17 : Array Oper := cdO c18_17
theorem c18_0e : c18_0 = .seq c18_1 c18_2 := by kernel_rfl
theorem c18_1e : c18_1 = .region 0 r18_1 false := by kernel_rfl
theorem c18_2e : c18_2 = .seq c18_3 c18_4 := by kernel_rfl
theorem c18_3e : c18_3 = .region 1 r18_3 false := by kernel_rfl
theorem c18_4e : c18_4 = .block 0 c18_5 := by kernel_rfl
theorem c18_5e : c18_5 = .loop c18_6 := by kernel_rfl
theorem c18_6e : c18_6 = .seq c18_7 c18_8 := by kernel_rfl
theorem c18_7e : c18_7 = .region 2 r18_7 false := by kernel_rfl
theorem c18_8e : c18_8 = .seq c18_9 c18_12 := by kernel_rfl
theorem c18_9e : c18_9 = .cond (cdC c18_9) c18_10 c18_11 := by kernel_rfl
theorem c18_10e : c18_10 = .skip := by kernel_rfl
theorem c18_11e : c18_11 = .exit 0 := by kernel_rfl
theorem c18_12e : c18_12 = .seq c18_13 c18_17 := by kernel_rfl
theorem c18_13e : c18_13 = .block 1 c18_14 := by kernel_rfl
theorem c18_14e : c18_14 = .seq c18_15 c18_16 := by kernel_rfl
theorem c18_15e : c18_15 = .region 3 r18_15 false := by kernel_rfl
theorem c18_16e : c18_16 = .region 4 r18_16 true := by kernel_rfl
theorem c18_17e : c18_17 = .region 5 r18_17 false := by kernel_rfl
noncomputable def plan_Write.R (b_2 : Nat) (A_3 : Option Addr) (c_4 : Nat) (A_6 : Option Addr) (c_7 : Nat) : Pst T_pack_Writer where
  ε := Option Addr × Nat
  v := fun r x => .tuple ⟨[]⟩
  H := fun r x => [⟨1, b_2, [.slice x.1 r.b.length x.2]⟩]
  B := fun r x => [Ow 2 Kd.u8 x.1 x.2 r.b]
noncomputable def plan_Write.cx (b_2 : Nat) (A_3 : Option Addr) (c_4 : Nat) (A_6 : Option Addr) (c_7 : Nat) (w0 : World) (S0 : Fam) : Cx T_pack_Writer := ⟨Try.prog, 18, Try.f18, 30, w0, S0, [1, 2], 2, plan_Write.R b_2 A_3 c_4 A_6 c_7⟩
theorem plan_Write_l0_ok (n : Nat) (l_5 : (List T_api_Step)) (b_2 : Nat) (A_6 : Option Addr) (c_7 : Nat) (A_3 : Option Addr) (c_4 : Nat) (w0 : World) (S0 : Fam) :
    ∀ (k : Nat) (f_11 : (List UInt8)) (x_14 : Int) (A_12 : Option Addr) (c_13 : Nat), GoO (plan_Write.cx b_2 A_3 c_4 A_6 c_7 w0 S0) [(0, .pointer (some ⟨b_2, 0, none⟩)), (11, .slice A_6 l_5.length c_7), (12, .int .i64 (l_5.length : Int)), (13, .int .i64 x_14)] [⟨1, b_2, [.slice A_12 f_11.length c_13]⟩] [Ow 2 Kd.u8 A_12 c_13 f_11, Rd 0 kT_api_Step A_6 c_7 l_5] [.code c18_6, .inLoop c18_6, .inBlock 0] (plan_Write.l0 n l_5 k f_11 x_14) := by
  intro k
  induction k with
  | zero => intros; rw [plan_Write.l0.eq_1]; exact GoO.stop
  | succ k ih0 =>
    intro f_11 x_14 A_12 c_13
    rw [plan_Write.l0.eq_2]
    refine GoO.seq' c18_6e ?_
    refine GoO.region' (is := [0]) c18_7e (by kernel_rfl) ?_
    refine GoO.exec (is := [0]) (hs := [.p]) (rest := []) (ks := [0, 11, 12, 13, 14]) (env' := [(0, .pointer (some ⟨b_2, 0, none⟩)), (11, .slice A_6 l_5.length c_7), (12, .int .i64 (l_5.length : Int)), (13, .int .i64 x_14), (14, .bool (decide (x_14 < (l_5.length : Int))))]) (H' := [⟨1, b_2, [.slice A_12 f_11.length c_13]⟩]) (ps := []) (by kernel_rfl) trivial ?_
    refine GoO.regionEnd ?_
    refine GoO.seq' c18_8e ?_
    refine GoO.ite' c18_9e (by kernel_rfl) (fun h15 => ?_) (fun h15 => ?_)
    · refine GoO.skip' c18_10e ?_
      refine GoO.seq' c18_12e ?_
      refine GoO.block' c18_13e ?_
      refine GoO.seq' c18_14e ?_
      refine GoO.region' (is := [0, 1, 2, 3]) c18_15e (by kernel_rfl) ?_
      refine GoO.guard (fun h16 => ?_)
      refine OpTo.go (GoO.idx (kk := .i64) (e := 41) (K := kT_api_Step) (A := A_6) (c := c_7) (xs := l_5) (iv := x_14) (j := 1) rfl (by kernel_rfl) (by kernel_rfl) (by kernel_rfl) (by kernel_rfl) rfl Reads.rd rfl h16.1 h16.2 (by decide) rfl ?_)
      refine OpTo.go (GoO.ldE' (K := kT_api_Step) (A := A_6) (c := c_7) (xs := l_5) (iN := x_14.toNat) (off := 0) (j := 1) rfl (by kernel_rfl) rfl Reads.rd (idx_lt h16.1 h16.2) (by decide) (Opn.flat _ _ _ _ _) (v := fun _ => .agg ⟨[.int .i64 ((rdL l_5 x_14).Part), .string (bs ((rdL l_5 x_14).Name)), .int .i64 ((rdL l_5 x_14).Budget)]⟩) (fun _ => by kernel_rfl) _ (fun _ => rfl) (fun _ => ?_))
      refine OpTo.go (GoO.new rfl 40 (cs := [.int .i64 0, .string (bs []), .int .i64 0]) (by kernel_rfl) _ (fun _ => rfl) (fun b_17 => ?_))
      refine GoO.exec (is := [3]) (hs := [.b 0]) (rest := []) (ks := [0, 5, 11, 12, 13]) (env' := [(0, .pointer (some ⟨b_2, 0, none⟩)), (5, .pointer (some ⟨b_17, 0, none⟩)), (11, .slice A_6 l_5.length c_7), (12, .int .i64 (l_5.length : Int)), (13, .int .i64 x_14)]) (H' := [⟨40, b_17, [.int .i64 ((rdL l_5 x_14).Part), .string (bs ((rdL l_5 x_14).Name)), .int .i64 ((rdL l_5 x_14).Budget)]⟩, ⟨1, b_2, [.slice A_12 f_11.length c_13]⟩]) (ps := [b_17 = b_17]) (by kernel_rfl) (And.intro rfl trivial) ?_
      refine GoO.regionEnd ?_
      refine GoO.draw c18_16e (by kernel_rfl) [] [⟨40, b_17, [.int .i64 ((rdL l_5 x_14).Part), .string (bs ((rdL l_5 x_14).Name)), .int .i64 ((rdL l_5 x_14).Budget)]⟩] [] (n := 12) (by kernel_rfl) ?_
      simp only [List.replicate]
      refine GoF.take [0, 1, 2, 3, 5, 6, 8, 9, 10] [.p, .p, .b 0, .p, .p, .b 0, .p, .b 0, .p] (ks := [0, 11, 12, 13, 17, 20, 23, 27]) (fu := 3) (li := [true, true, true, true, false, true, true, false, true, true, true, false]) (env' := [(0, .pointer (some ⟨b_2, 0, none⟩)), (11, .slice A_6 l_5.length c_7), (12, .int .i64 (l_5.length : Int)), (13, .int .i64 x_14), (17, .pointer (some ⟨b_2, 0, none⟩)), (20, .int .u64 (wu64 ((rdL l_5 x_14).Part))), (23, .string (bs ((rdL l_5 x_14).Name))), (27, .int .u64 (wu64 ((rdL l_5 x_14).Budget)))]) (ps := [b_17 = b_17, b_17 = b_17, b_17 = b_17]) (hk := [0]) (bk := []) (by kernel_rfl) (And.intro rfl (And.intro rfl (And.intro rfl trivial))) rfl rfl ?_
      refine OpTo.goF (i := 4) (by kernel_rfl) (hk := [1]) (bk := []) (GoO.call rfl (by kernel_rfl) (by kernel_rfl) (pack_Writer_Num_ok n (⟨f_11⟩ : T_pack_Writer) (wu64 ((rdL l_5 x_14).Part)) b_2 A_12 c_13) [[0], [1], [2]] [(1, 1), (2, 2)] [(1, 1)] [(2, 0)] (hks := [0]) (bks := [1]) (by kernel_rfl) (by kernel_rfl) (by kernel_rfl) (.inl rfl) rfl rfl (by kernel_rfl) (by kernel_rfl) _ (fun _ _ => rfl) _ _ (fun _ _ => rfl) (fun _ _ => rfl) (fun _ _ => by kernel_rfl) (fun _ _ => by kernel_rfl) (fun r_18 x_29 => ⟨rfl, rfl, ?_⟩))
      obtain ⟨A_19, c_20⟩ := x_29
      refine GoF.shape (env' := [(0, .pointer (some ⟨b_2, 0, none⟩)), (11, .slice A_6 l_5.length c_7), (12, .int .i64 (l_5.length : Int)), (13, .int .i64 x_14), (17, .pointer (some ⟨b_2, 0, none⟩)), (20, .int .u64 (wu64 ((rdL l_5 x_14).Part))), (21, .pointer (some ⟨b_2, 0, none⟩)), (23, .string (bs ((rdL l_5 x_14).Name))), (27, .int .u64 (wu64 ((rdL l_5 x_14).Budget)))]) (H' := [⟨1, b_2, [.slice A_19 r_18.b.length c_20]⟩, ⟨40, b_17, [.int .i64 ((rdL l_5 x_14).Part), .string (bs ((rdL l_5 x_14).Name)), .int .i64 ((rdL l_5 x_14).Budget)]⟩]) (B' := [Ow 2 Kd.u8 A_19 c_20 r_18.b, Rd 0 kT_api_Step A_6 c_7 l_5]) (ks := [0, 11, 12, 13, 17, 20, 21, 23, 27]) (by kernel_rfl) (by kernel_rfl) (by kernel_rfl) ?_
      refine OpTo.goF (i := 7) (by kernel_rfl) (hk := [1]) (bk := []) (GoO.call rfl (by kernel_rfl) (by kernel_rfl) (pack_Writer_Text_ok n r_18 ((rdL l_5 x_14).Name) b_2 A_19 c_20) [[0], [1], [2]] [(1, 1), (2, 2)] [(1, 0)] [(2, 0)] (hks := [1]) (bks := [1]) (by kernel_rfl) (by kernel_rfl) (by kernel_rfl) (.inl rfl) rfl rfl (by kernel_rfl) (by kernel_rfl) _ (fun _ _ => rfl) _ _ (fun _ _ => rfl) (fun _ _ => rfl) (fun _ _ => by kernel_rfl) (fun _ _ => by kernel_rfl) (fun r_21 x_28 => ⟨rfl, rfl, ?_⟩))
      obtain ⟨A_22, c_23⟩ := x_28
      refine GoF.shape (env' := [(0, .pointer (some ⟨b_2, 0, none⟩)), (11, .slice A_6 l_5.length c_7), (12, .int .i64 (l_5.length : Int)), (13, .int .i64 x_14), (17, .pointer (some ⟨b_2, 0, none⟩)), (20, .int .u64 (wu64 ((rdL l_5 x_14).Part))), (21, .pointer (some ⟨b_2, 0, none⟩)), (23, .string (bs ((rdL l_5 x_14).Name))), (24, .pointer (some ⟨b_2, 0, none⟩)), (27, .int .u64 (wu64 ((rdL l_5 x_14).Budget)))]) (H' := [⟨1, b_2, [.slice A_22 r_21.b.length c_23]⟩, ⟨40, b_17, [.int .i64 ((rdL l_5 x_14).Part), .string (bs ((rdL l_5 x_14).Name)), .int .i64 ((rdL l_5 x_14).Budget)]⟩]) (B' := [Ow 2 Kd.u8 A_22 c_23 r_21.b, Rd 0 kT_api_Step A_6 c_7 l_5]) (ks := [0, 11, 12, 13, 17, 20, 21, 23, 24, 27]) (by kernel_rfl) (by kernel_rfl) (by kernel_rfl) ?_
      refine OpTo.goF (i := 11) (by kernel_rfl) (hk := [1]) (bk := []) (GoO.call rfl (by kernel_rfl) (by kernel_rfl) (pack_Writer_Num_ok n r_21 (wu64 ((rdL l_5 x_14).Budget)) b_2 A_22 c_23) [[0], [1], [2]] [(1, 1), (2, 2)] [(1, 0)] [(2, 0)] (hks := [1]) (bks := [1]) (by kernel_rfl) (by kernel_rfl) (by kernel_rfl) (.inl rfl) rfl rfl (by kernel_rfl) (by kernel_rfl) _ (fun _ _ => rfl) _ _ (fun _ _ => rfl) (fun _ _ => rfl) (fun _ _ => by kernel_rfl) (fun _ _ => by kernel_rfl) (fun r_24 x_27 => ⟨rfl, rfl, ?_⟩))
      obtain ⟨A_25, c_26⟩ := x_27
      refine GoF.shape (env' := [(0, .pointer (some ⟨b_2, 0, none⟩)), (11, .slice A_6 l_5.length c_7), (12, .int .i64 (l_5.length : Int)), (13, .int .i64 x_14), (17, .pointer (some ⟨b_2, 0, none⟩)), (20, .int .u64 (wu64 ((rdL l_5 x_14).Part))), (21, .pointer (some ⟨b_2, 0, none⟩)), (23, .string (bs ((rdL l_5 x_14).Name))), (24, .pointer (some ⟨b_2, 0, none⟩)), (27, .int .u64 (wu64 ((rdL l_5 x_14).Budget))), (28, .pointer (some ⟨b_2, 0, none⟩))]) (H' := [⟨1, b_2, [.slice A_25 r_24.b.length c_26]⟩, ⟨40, b_17, [.int .i64 ((rdL l_5 x_14).Part), .string (bs ((rdL l_5 x_14).Name)), .int .i64 ((rdL l_5 x_14).Budget)]⟩]) (B' := [Ow 2 Kd.u8 A_25 c_26 r_24.b, Rd 0 kT_api_Step A_6 c_7 l_5]) (ks := [0, 11, 12, 13, 17, 20, 21, 23, 24, 27, 28]) (by kernel_rfl) (by kernel_rfl) (by kernel_rfl) ?_
      refine GoF.done (by kernel_rfl) ?_
      refine GoO.inBlock ?_
      refine GoO.region' (is := [0, 1]) c18_17e (by kernel_rfl) ?_
      refine GoO.exec (is := [0, 1]) (hs := [.p, .p]) (rest := []) (ks := [0, 11, 12, 13]) (env' := [(0, .pointer (some ⟨b_2, 0, none⟩)), (11, .slice A_6 l_5.length c_7), (12, .int .i64 (l_5.length : Int)), (13, .int .i64 (wi64 (x_14 + 1)))]) (H' := [⟨1, b_2, [.slice A_25 r_24.b.length c_26]⟩, ⟨40, b_17, [.int .i64 ((rdL l_5 x_14).Part), .string (bs ((rdL l_5 x_14).Name)), .int .i64 ((rdL l_5 x_14).Budget)]⟩]) (ps := []) (by kernel_rfl) trivial ?_
      refine GoO.regionEnd ?_
      refine GoO.inLoop ?_
      exact GoO.sub (ks := [0, 11, 12, 13]) (hk := [0]) (bk := [0, 1]) (by kernel_rfl) (by kernel_rfl) (by kernel_rfl) (ih0 r_24.b (wi64 (x_14 + 1)) A_25 c_26)
    · refine GoO.exit' c18_11e rfl ?_
      exact GoO.fin (hs := []) (ps := []) (hk := [0]) (bk := [0]) Try.func18 (⟨A_12, c_13⟩ : Option Addr × Nat) (by kernel_rfl) trivial (by kernel_rfl) (by kernel_rfl)
theorem plan_Write_ok (n : Nat) (w_1 : T_pack_Writer) (l_5 : (List T_api_Step)) (b_2 : Nat) (A_3 : Option Addr) (c_4 : Nat) (A_6 : Option Addr) (c_7 : Nat) :
    Meets Try.prog 18 [.pointer (some ⟨b_2, 0, none⟩), .slice A_6 l_5.length c_7] 2 [1, 2] [⟨1, b_2, [.slice A_3 w_1.b.length c_4]⟩] [Ow 2 Kd.u8 A_3 c_4 w_1.b, Rd 0 kT_api_Step A_6 c_7 l_5] (plan_Write.f n w_1 l_5) (plan_Write.R b_2 A_3 c_4 A_6 c_7) := by
  refine Meets.of (c := c18_0) (n := 30) Try.func18 (by kernel_rfl) (by kernel_rfl) (by kernel_rfl) fun w0 S0 => ?_
  unfold plan_Write.f
  show GoO (plan_Write.cx b_2 A_3 c_4 A_6 c_7 w0 S0) [(0, .pointer (some ⟨b_2, 0, none⟩)), (1, .slice A_6 l_5.length c_7)] [⟨1, b_2, [.slice A_3 w_1.b.length c_4]⟩] [Ow 2 Kd.u8 A_3 c_4 w_1.b, Rd 0 kT_api_Step A_6 c_7 l_5] [.code c18_0] _
  refine GoO.seq' c18_0e ?_
  refine GoO.region' (is := [0, 1, 2, 3, 4]) c18_1e (by kernel_rfl) ?_
  refine GoO.exec (is := [0, 1, 2, 3]) (hs := [.p, .p, .p, .p]) (rest := [4]) (ks := [0, 1, 6, 9]) (env' := [(0, .pointer (some ⟨b_2, 0, none⟩)), (1, .slice A_6 l_5.length c_7), (6, .pointer (some ⟨b_2, 0, none⟩)), (9, .int .u64 (wu64 (l_5.length : Int)))]) (H' := [⟨1, b_2, [.slice A_3 w_1.b.length c_4]⟩]) (ps := []) (by kernel_rfl) trivial ?_
  refine OpTo.go (GoO.call rfl (by kernel_rfl) (by kernel_rfl) (pack_Writer_Num_ok n w_1 (wu64 (l_5.length : Int)) b_2 A_3 c_4) [[0], [1], [2]] [(1, 1), (2, 2)] [(1, 0)] [(2, 0)] (hks := []) (bks := [1]) (by kernel_rfl) (by kernel_rfl) (by kernel_rfl) (.inl rfl) rfl rfl (by kernel_rfl) (by kernel_rfl) _ (fun _ _ => rfl) _ _ (fun _ _ => rfl) (fun _ _ => rfl) (fun _ _ => by kernel_rfl) (fun _ _ => by kernel_rfl) (fun r_8 x_30 => ?_))
  obtain ⟨A_9, c_10⟩ := x_30
  refine GoO.shape (env' := [(0, .pointer (some ⟨b_2, 0, none⟩)), (1, .slice A_6 l_5.length c_7), (6, .pointer (some ⟨b_2, 0, none⟩)), (9, .int .u64 (wu64 (l_5.length : Int))), (10, .pointer (some ⟨b_2, 0, none⟩))]) (H' := [⟨1, b_2, [.slice A_9 r_8.b.length c_10]⟩]) (B' := [Ow 2 Kd.u8 A_9 c_10 r_8.b, Rd 0 kT_api_Step A_6 c_7 l_5]) (ks := [0, 1, 6, 9, 10]) (by kernel_rfl) (by kernel_rfl) (by kernel_rfl) ?_
  refine GoO.regionEnd ?_
  refine GoO.seq' c18_2e ?_
  refine GoO.region' (is := [0, 1, 2]) c18_3e (by kernel_rfl) ?_
  refine GoO.exec (is := [0, 1, 2]) (hs := [.p, .p, .p]) (rest := []) (ks := [0, 11, 12, 13]) (env' := [(0, .pointer (some ⟨b_2, 0, none⟩)), (11, .slice A_6 l_5.length c_7), (12, .int .i64 (l_5.length : Int)), (13, .int .i64 0)]) (H' := [⟨1, b_2, [.slice A_9 r_8.b.length c_10]⟩]) (ps := []) (by kernel_rfl) trivial ?_
  refine GoO.regionEnd ?_
  refine GoO.block' c18_4e ?_
  refine GoO.loop' c18_5e ?_
  exact GoO.sub (ks := [0, 11, 12, 13]) (hk := [0]) (bk := [0, 1]) (by kernel_rfl) (by kernel_rfl) (by kernel_rfl) (plan_Write_l0_ok n l_5 b_2 A_6 c_7 A_3 c_4 w0 S0 n r_8.b 0 A_9 c_10)

/-! tontine/plan.Check -/
noncomputable def c15_0 : Code := bodyOf Try.f15
noncomputable def c15_1 : Code := cdL c15_0
noncomputable def c15_2 : Code := cdR c15_0
noncomputable def c15_3 : Code := cdL c15_2
noncomputable def c15_4 : Code := cdL c15_3
noncomputable def c15_5 : Code := cdR c15_3
noncomputable def c15_6 : Code := cdL c15_5
noncomputable def c15_7 : Code := cdL c15_6
noncomputable def c15_8 : Code := cdR c15_6
noncomputable def c15_9 : Code := cdR c15_5
noncomputable def c15_10 : Code := cdR c15_2
noncomputable def c15_11 : Code := cdL c15_10
noncomputable def c15_12 : Code := cdL c15_11
noncomputable def c15_13 : Code := cdR c15_11
noncomputable def c15_14 : Code := cdL c15_13
noncomputable def c15_15 : Code := cdL c15_14
noncomputable def c15_16 : Code := cdL c15_15
noncomputable def c15_17 : Code := cdR c15_15
noncomputable def c15_18 : Code := cdL c15_17
noncomputable def c15_19 : Code := cdL c15_18
noncomputable def c15_20 : Code := cdR c15_18
noncomputable def c15_21 : Code := cdR c15_17
noncomputable def c15_22 : Code := cdL c15_21
noncomputable def c15_23 : Code := cdL c15_22
noncomputable def c15_24 : Code := cdL c15_23
noncomputable def c15_25 : Code := cdR c15_23
noncomputable def c15_26 : Code := cdL c15_25
noncomputable def c15_27 : Code := cdR c15_25
noncomputable def c15_28 : Code := cdL c15_27
noncomputable def c15_29 : Code := cdL c15_28
noncomputable def c15_30 : Code := cdR c15_28
noncomputable def c15_31 : Code := cdR c15_27
noncomputable def c15_32 : Code := cdR c15_21
noncomputable def c15_33 : Code := cdR c15_10
noncomputable def c15_34 : Code := cdL c15_33
noncomputable def c15_35 : Code := cdR c15_33
noncomputable def r15_1 : Array Oper := cdO c15_1
noncomputable def r15_4 : Array Oper := cdO c15_4
noncomputable def r15_7 : Array Oper := cdO c15_7
noncomputable def r15_12 : Array Oper := cdO c15_12
noncomputable def r15_16 : Array Oper := cdO c15_16
noncomputable def r15_24 : Array Oper := cdO c15_24
noncomputable def r15_26 : Array Oper := cdO c15_26
noncomputable def r15_29 : Array Oper := cdO c15_29
noncomputable def r15_32 : Array Oper := cdO c15_32
noncomputable def r15_34 : Array Oper := cdO c15_34
theorem c15_0e : c15_0 = .seq c15_1 c15_2 := by kernel_rfl
theorem c15_1e : c15_1 = .region 0 r15_1 false := by kernel_rfl
theorem c15_2e : c15_2 = .seq c15_3 c15_10 := by kernel_rfl
theorem c15_3e : c15_3 = .seq c15_4 c15_5 := by kernel_rfl
theorem c15_4e : c15_4 = .region 1 r15_4 false := by kernel_rfl
theorem c15_5e : c15_5 = .cond (cdC c15_5) c15_6 c15_9 := by kernel_rfl
theorem c15_6e : c15_6 = .seq c15_7 c15_8 := by kernel_rfl
theorem c15_7e : c15_7 = .region 2 r15_7 false := by kernel_rfl
theorem c15_8e : c15_8 = .ret := by kernel_rfl
theorem c15_9e : c15_9 = .skip := by kernel_rfl
theorem c15_10e : c15_10 = .seq c15_11 c15_33 := by kernel_rfl
theorem c15_11e : c15_11 = .seq c15_12 c15_13 := by kernel_rfl
theorem c15_12e : c15_12 = .region 3 r15_12 false := by kernel_rfl
theorem c15_13e : c15_13 = .block 0 c15_14 := by kernel_rfl
theorem c15_14e : c15_14 = .loop c15_15 := by kernel_rfl
theorem c15_15e : c15_15 = .seq c15_16 c15_17 := by kernel_rfl
theorem c15_16e : c15_16 = .region 4 r15_16 false := by kernel_rfl
theorem c15_17e : c15_17 = .seq c15_18 c15_21 := by kernel_rfl
theorem c15_18e : c15_18 = .cond (cdC c15_18) c15_19 c15_20 := by kernel_rfl
theorem c15_19e : c15_19 = .skip := by kernel_rfl
theorem c15_20e : c15_20 = .exit 0 := by kernel_rfl
theorem c15_21e : c15_21 = .seq c15_22 c15_32 := by kernel_rfl
theorem c15_22e : c15_22 = .block 1 c15_23 := by kernel_rfl
theorem c15_23e : c15_23 = .seq c15_24 c15_25 := by kernel_rfl
theorem c15_24e : c15_24 = .region 5 r15_24 false := by kernel_rfl
theorem c15_25e : c15_25 = .seq c15_26 c15_27 := by kernel_rfl
theorem c15_26e : c15_26 = .region 6 r15_26 false := by kernel_rfl
theorem c15_27e : c15_27 = .cond (cdC c15_27) c15_28 c15_31 := by kernel_rfl
theorem c15_28e : c15_28 = .seq c15_29 c15_30 := by kernel_rfl
theorem c15_29e : c15_29 = .region 7 r15_29 false := by kernel_rfl
theorem c15_30e : c15_30 = .ret := by kernel_rfl
theorem c15_31e : c15_31 = .skip := by kernel_rfl
theorem c15_32e : c15_32 = .region 8 r15_32 false := by kernel_rfl
theorem c15_33e : c15_33 = .seq c15_34 c15_35 := by kernel_rfl
theorem c15_34e : c15_34 = .region 9 r15_34 false := by kernel_rfl
theorem c15_35e : c15_35 = .ret := by kernel_rfl
noncomputable def plan_Check.R (A_2 : Option Addr) (c_3 : Nat) : Pst Int where
  ε := Unit
  v := fun r x => .int .i64 r
  H := fun r x => []
  B := fun r x => []
noncomputable def plan_Check.cx (A_2 : Option Addr) (c_3 : Nat) (w0 : World) (S0 : Fam) : Cx Int := ⟨Try.prog, 15, Try.f15, 49, w0, S0, [], 0, plan_Check.R A_2 c_3⟩
theorem plan_Check_j1_ok (n : Nat) (L0 : Int → Option Int) (l_1 : (List T_api_Step)) (x_7 : Int) (A_2 : Option Addr) (c_3 : Nat) (w0 : World) (S0 : Fam) (ih0 : ∀ (x_7 : Int), GoO (plan_Check.cx A_2 c_3 w0 S0) [(13, .slice A_2 l_1.length c_3), (14, .int .i64 (l_1.length : Int)), (15, .int .i64 x_7)] [] [Rd 0 kT_api_Step A_2 c_3 l_1] [.code c15_15, .inLoop c15_15, .inBlock 0, .code c15_33] (L0 x_7)) (b_16 : Bool) :
    GoO (plan_Check.cx A_2 c_3 w0 S0) [(13, .slice A_2 l_1.length c_3), (14, .int .i64 (l_1.length : Int)), (15, .int .i64 x_7), (47, .bool b_16)] [] [Rd 0 kT_api_Step A_2 c_3 l_1] [.code c15_27, .inBlock 1, .code c15_32, .inLoop c15_15, .inBlock 0, .code c15_33] (plan_Check.j1 n L0 x_7 b_16) := by
  unfold plan_Check.j1
  refine GoO.ite' c15_27e (by kernel_rfl) (fun h17 => ?_) (fun h17 => ?_)
  · refine GoO.seq' c15_28e ?_
    refine GoO.region' (is := [0]) c15_29e (by kernel_rfl) ?_
    refine GoO.exec (is := [0]) (hs := [.p]) (rest := []) (ks := [2]) (env' := [(2, .int .i64 44)]) (H' := []) (ps := []) (by kernel_rfl) trivial ?_
    refine GoO.regionEnd ?_
    exact GoO.ret' (h := c15_30e) (hs := []) (ps := []) (hk := []) (bk := []) Try.func15 () (by kernel_rfl) trivial (by kernel_rfl) (by kernel_rfl)
  · refine GoO.skip' c15_31e ?_
    refine GoO.inBlock ?_
    refine GoO.region' (is := [0, 1]) c15_32e (by kernel_rfl) ?_
    refine GoO.exec (is := [0, 1]) (hs := [.p, .p]) (rest := []) (ks := [13, 14, 15]) (env' := [(13, .slice A_2 l_1.length c_3), (14, .int .i64 (l_1.length : Int)), (15, .int .i64 (wi64 (x_7 + 1)))]) (H' := []) (ps := []) (by kernel_rfl) trivial ?_
    refine GoO.regionEnd ?_
    refine GoO.inLoop ?_
    exact GoO.sub (ks := [13, 14, 15]) (hk := []) (bk := [0]) (by kernel_rfl) (by kernel_rfl) (by kernel_rfl) (ih0 (wi64 (x_7 + 1)))
theorem plan_Check_l0_ok (n : Nat) (l_1 : (List T_api_Step)) (A_2 : Option Addr) (c_3 : Nat) (w0 : World) (S0 : Fam) :
    ∀ (k : Nat) (x_7 : Int), GoO (plan_Check.cx A_2 c_3 w0 S0) [(13, .slice A_2 l_1.length c_3), (14, .int .i64 (l_1.length : Int)), (15, .int .i64 x_7)] [] [Rd 0 kT_api_Step A_2 c_3 l_1] [.code c15_15, .inLoop c15_15, .inBlock 0, .code c15_33] (plan_Check.l0 n l_1 k x_7) := by
  intro k
  induction k with
  | zero => intros; rw [plan_Check.l0.eq_1]; exact GoO.stop
  | succ k ih0 =>
    intro x_7
    rw [plan_Check.l0.eq_2]
    refine GoO.seq' c15_15e ?_
    refine GoO.region' (is := [0]) c15_16e (by kernel_rfl) ?_
    refine GoO.exec (is := [0]) (hs := [.p]) (rest := []) (ks := [13, 14, 15, 16]) (env' := [(13, .slice A_2 l_1.length c_3), (14, .int .i64 (l_1.length : Int)), (15, .int .i64 x_7), (16, .bool (decide (x_7 < (l_1.length : Int))))]) (H' := []) (ps := []) (by kernel_rfl) trivial ?_
    refine GoO.regionEnd ?_
    refine GoO.seq' c15_17e ?_
    refine GoO.ite' c15_18e (by kernel_rfl) (fun h8 => ?_) (fun h8 => ?_)
    · refine GoO.skip' c15_19e ?_
      refine GoO.seq' c15_21e ?_
      refine GoO.block' c15_22e ?_
      refine GoO.seq' c15_23e ?_
      refine GoO.region' (is := [0, 1, 2, 3]) c15_24e (by kernel_rfl) ?_
      refine GoO.guard (fun h9 => ?_)
      refine OpTo.go (GoO.idx (kk := .i64) (e := 41) (K := kT_api_Step) (A := A_2) (c := c_3) (xs := l_1) (iv := x_7) (j := 0) rfl (by kernel_rfl) (by kernel_rfl) (by kernel_rfl) (by kernel_rfl) rfl Reads.rd rfl h9.1 h9.2 (by decide) rfl ?_)
      refine OpTo.go (GoO.ldE' (K := kT_api_Step) (A := A_2) (c := c_3) (xs := l_1) (iN := x_7.toNat) (off := 0) (j := 0) rfl (by kernel_rfl) rfl Reads.rd (idx_lt h9.1 h9.2) (by decide) (Opn.flat _ _ _ _ _) (v := fun _ => .agg ⟨[.int .i64 ((rdL l_1 x_7).Part), .string (bs ((rdL l_1 x_7).Name)), .int .i64 ((rdL l_1 x_7).Budget)]⟩) (fun _ => by kernel_rfl) _ (fun _ => rfl) (fun _ => ?_))
      refine OpTo.go (GoO.new rfl 40 (cs := [.int .i64 0, .string (bs []), .int .i64 0]) (by kernel_rfl) _ (fun _ => rfl) (fun b_10 => ?_))
      refine GoO.exec (is := [3]) (hs := [.b 0]) (rest := []) (ks := [4, 13, 14, 15]) (env' := [(4, .pointer (some ⟨b_10, 0, none⟩)), (13, .slice A_2 l_1.length c_3), (14, .int .i64 (l_1.length : Int)), (15, .int .i64 x_7)]) (H' := [⟨40, b_10, [.int .i64 ((rdL l_1 x_7).Part), .string (bs ((rdL l_1 x_7).Name)), .int .i64 ((rdL l_1 x_7).Budget)]⟩]) (ps := [b_10 = b_10]) (by kernel_rfl) (And.intro rfl trivial) ?_
      refine GoO.regionEnd ?_
      refine GoO.seq' c15_25e ?_
      refine GoO.region' (is := [0, 1, 2, 3, 4, 5, 6, 7, 8, 9, 10, 11, 12, 13, 14, 15, 16, 17, 18, 19, 20, 21, 22, 23, 24, 25, 26, 27, 28]) c15_26e (by kernel_rfl) ?_
      refine GoO.exec (is := [0, 1, 2, 3]) (hs := [.p, .b 0, .p, .p]) (rest := [4, 5, 6, 7, 8, 9, 10, 11, 12, 13, 14, 15, 16, 17, 18, 19, 20, 21, 22, 23, 24, 25, 26, 27, 28]) (ks := [4, 13, 14, 15, 22]) (env' := [(4, .pointer (some ⟨b_10, 0, none⟩)), (13, .slice A_2 l_1.length c_3), (14, .int .i64 (l_1.length : Int)), (15, .int .i64 x_7), (22, .bool (decide (((rdL l_1 x_7).Part) < 0)))]) (H' := [⟨40, b_10, [.int .i64 ((rdL l_1 x_7).Part), .string (bs ((rdL l_1 x_7).Name)), .int .i64 ((rdL l_1 x_7).Budget)]⟩]) (ps := [b_10 = b_10]) (by kernel_rfl) (And.intro rfl trivial) ?_
      refine GoO.bsplit (t := 22) (by kernel_rfl) (fun h11 => ?_) (fun h11 => ?_)
      · refine GoO.exec (is := [4, 5, 6, 7, 8, 9, 10, 11, 12, 13, 14, 15, 16, 17, 18, 19, 20, 21, 22, 23, 24, 25, 26, 27, 28]) (hs := [.p, .p, .p, .p, .p, .p, .p, .p, .p, .p, .p, .p, .p, .p, .p, .p, .p, .p, .p, .p, .p, .p, .p, .p, .p]) (rest := []) (ks := [13, 14, 15, 47]) (env' := [(13, .slice A_2 l_1.length c_3), (14, .int .i64 (l_1.length : Int)), (15, .int .i64 x_7), (47, .bool true)]) (H' := [⟨40, b_10, [.int .i64 ((rdL l_1 x_7).Part), .string (bs ((rdL l_1 x_7).Name)), .int .i64 ((rdL l_1 x_7).Budget)]⟩]) (ps := []) (by kernel_rfl) trivial ?_
        refine GoO.regionEnd ?_
        exact GoO.sub (ks := [13, 14, 15, 47]) (hk := []) (bk := [0]) (by kernel_rfl) (by kernel_rfl) (by kernel_rfl) (plan_Check_j1_ok n (plan_Check.l0 n l_1 k) l_1 x_7 A_2 c_3 w0 S0 ih0 true)
      · refine GoO.exec (is := [4, 5, 6, 7, 8]) (hs := [.p, .b 0, .p, .p, .p]) (rest := [9, 10, 11, 12, 13, 14, 15, 16, 17, 18, 19, 20, 21, 22, 23, 24, 25, 26, 27, 28]) (ks := [4, 13, 14, 15, 27]) (env' := [(4, .pointer (some ⟨b_10, 0, none⟩)), (13, .slice A_2 l_1.length c_3), (14, .int .i64 (l_1.length : Int)), (15, .int .i64 x_7), (27, .bool (decide (((rdL l_1 x_7).Part) ≥ 4)))]) (H' := [⟨40, b_10, [.int .i64 ((rdL l_1 x_7).Part), .string (bs ((rdL l_1 x_7).Name)), .int .i64 ((rdL l_1 x_7).Budget)]⟩]) (ps := [b_10 = b_10]) (by kernel_rfl) (And.intro rfl trivial) ?_
        refine GoO.bsplit (t := 27) (by kernel_rfl) (fun h12 => ?_) (fun h12 => ?_)
        · refine GoO.exec (is := [9, 10, 11, 12, 13, 14, 15, 16, 17, 18, 19, 20, 21, 22, 23, 24, 25, 26, 27, 28]) (hs := [.p, .p, .p, .p, .p, .p, .p, .p, .p, .p, .p, .p, .p, .p, .p, .p, .p, .p, .p, .p]) (rest := []) (ks := [13, 14, 15, 47]) (env' := [(13, .slice A_2 l_1.length c_3), (14, .int .i64 (l_1.length : Int)), (15, .int .i64 x_7), (47, .bool true)]) (H' := [⟨40, b_10, [.int .i64 ((rdL l_1 x_7).Part), .string (bs ((rdL l_1 x_7).Name)), .int .i64 ((rdL l_1 x_7).Budget)]⟩]) (ps := []) (by kernel_rfl) trivial ?_
          refine GoO.regionEnd ?_
          exact GoO.sub (ks := [13, 14, 15, 47]) (hk := []) (bk := [0]) (by kernel_rfl) (by kernel_rfl) (by kernel_rfl) (plan_Check_j1_ok n (plan_Check.l0 n l_1 k) l_1 x_7 A_2 c_3 w0 S0 ih0 true)
        · refine GoO.exec (is := [9, 10, 11, 12, 13]) (hs := [.p, .b 0, .p, .p, .p]) (rest := [14, 15, 16, 17, 18, 19, 20, 21, 22, 23, 24, 25, 26, 27, 28]) (ks := [4, 13, 14, 15, 32]) (env' := [(4, .pointer (some ⟨b_10, 0, none⟩)), (13, .slice A_2 l_1.length c_3), (14, .int .i64 (l_1.length : Int)), (15, .int .i64 x_7), (32, .bool (((rdL l_1 x_7).Name) == ([] : List UInt8)))]) (H' := [⟨40, b_10, [.int .i64 ((rdL l_1 x_7).Part), .string (bs ((rdL l_1 x_7).Name)), .int .i64 ((rdL l_1 x_7).Budget)]⟩]) (ps := [b_10 = b_10]) (by kernel_rfl) (And.intro rfl trivial) ?_
          refine GoO.bsplit (t := 32) (by kernel_rfl) (fun h13 => ?_) (fun h13 => ?_)
          · refine GoO.exec (is := [14, 15, 16, 17, 18, 19, 20, 21, 22, 23, 24, 25, 26, 27, 28]) (hs := [.p, .p, .p, .p, .p, .p, .p, .p, .p, .p, .p, .p, .p, .p, .p]) (rest := []) (ks := [13, 14, 15, 47]) (env' := [(13, .slice A_2 l_1.length c_3), (14, .int .i64 (l_1.length : Int)), (15, .int .i64 x_7), (47, .bool true)]) (H' := [⟨40, b_10, [.int .i64 ((rdL l_1 x_7).Part), .string (bs ((rdL l_1 x_7).Name)), .int .i64 ((rdL l_1 x_7).Budget)]⟩]) (ps := []) (by kernel_rfl) trivial ?_
            refine GoO.regionEnd ?_
            exact GoO.sub (ks := [13, 14, 15, 47]) (hk := []) (bk := [0]) (by kernel_rfl) (by kernel_rfl) (by kernel_rfl) (plan_Check_j1_ok n (plan_Check.l0 n l_1 k) l_1 x_7 A_2 c_3 w0 S0 ih0 true)
          · refine GoO.exec (is := [14, 15, 16, 17, 18, 19]) (hs := [.p, .b 0, .p, .p, .p, .p]) (rest := [20, 21, 22, 23, 24, 25, 26, 27, 28]) (ks := [4, 13, 14, 15, 38]) (env' := [(4, .pointer (some ⟨b_10, 0, none⟩)), (13, .slice A_2 l_1.length c_3), (14, .int .i64 (l_1.length : Int)), (15, .int .i64 x_7), (38, .bool (decide ((((rdL l_1 x_7).Name).length : Int) > 16)))]) (H' := [⟨40, b_10, [.int .i64 ((rdL l_1 x_7).Part), .string (bs ((rdL l_1 x_7).Name)), .int .i64 ((rdL l_1 x_7).Budget)]⟩]) (ps := [b_10 = b_10]) (by kernel_rfl) (And.intro rfl trivial) ?_
            refine GoO.bsplit (t := 38) (by kernel_rfl) (fun h14 => ?_) (fun h14 => ?_)
            · refine GoO.exec (is := [20, 21, 22, 23, 24, 25, 26, 27, 28]) (hs := [.p, .p, .p, .p, .p, .p, .p, .p, .p]) (rest := []) (ks := [13, 14, 15, 47]) (env' := [(13, .slice A_2 l_1.length c_3), (14, .int .i64 (l_1.length : Int)), (15, .int .i64 x_7), (47, .bool true)]) (H' := [⟨40, b_10, [.int .i64 ((rdL l_1 x_7).Part), .string (bs ((rdL l_1 x_7).Name)), .int .i64 ((rdL l_1 x_7).Budget)]⟩]) (ps := []) (by kernel_rfl) trivial ?_
              refine GoO.regionEnd ?_
              exact GoO.sub (ks := [13, 14, 15, 47]) (hk := []) (bk := [0]) (by kernel_rfl) (by kernel_rfl) (by kernel_rfl) (plan_Check_j1_ok n (plan_Check.l0 n l_1 k) l_1 x_7 A_2 c_3 w0 S0 ih0 true)
            · refine GoO.exec (is := [20, 21, 22, 23, 24]) (hs := [.p, .b 0, .p, .p, .p]) (rest := [25, 26, 27, 28]) (ks := [4, 13, 14, 15, 43]) (env' := [(4, .pointer (some ⟨b_10, 0, none⟩)), (13, .slice A_2 l_1.length c_3), (14, .int .i64 (l_1.length : Int)), (15, .int .i64 x_7), (43, .bool (decide (((rdL l_1 x_7).Budget) < 1)))]) (H' := [⟨40, b_10, [.int .i64 ((rdL l_1 x_7).Part), .string (bs ((rdL l_1 x_7).Name)), .int .i64 ((rdL l_1 x_7).Budget)]⟩]) (ps := [b_10 = b_10]) (by kernel_rfl) (And.intro rfl trivial) ?_
              refine GoO.bsplit (t := 43) (by kernel_rfl) (fun h15 => ?_) (fun h15 => ?_)
              · refine GoO.exec (is := [25, 26, 27, 28]) (hs := [.p, .p, .p, .p]) (rest := []) (ks := [13, 14, 15, 47]) (env' := [(13, .slice A_2 l_1.length c_3), (14, .int .i64 (l_1.length : Int)), (15, .int .i64 x_7), (47, .bool true)]) (H' := [⟨40, b_10, [.int .i64 ((rdL l_1 x_7).Part), .string (bs ((rdL l_1 x_7).Name)), .int .i64 ((rdL l_1 x_7).Budget)]⟩]) (ps := []) (by kernel_rfl) trivial ?_
                refine GoO.regionEnd ?_
                exact GoO.sub (ks := [13, 14, 15, 47]) (hk := []) (bk := [0]) (by kernel_rfl) (by kernel_rfl) (by kernel_rfl) (plan_Check_j1_ok n (plan_Check.l0 n l_1 k) l_1 x_7 A_2 c_3 w0 S0 ih0 true)
              · refine GoO.exec (is := [25, 26, 27, 28]) (hs := [.p, .b 0, .p, .p]) (rest := []) (ks := [13, 14, 15, 47]) (env' := [(13, .slice A_2 l_1.length c_3), (14, .int .i64 (l_1.length : Int)), (15, .int .i64 x_7), (47, .bool (decide (((rdL l_1 x_7).Budget) > 9)))]) (H' := [⟨40, b_10, [.int .i64 ((rdL l_1 x_7).Part), .string (bs ((rdL l_1 x_7).Name)), .int .i64 ((rdL l_1 x_7).Budget)]⟩]) (ps := [b_10 = b_10]) (by kernel_rfl) (And.intro rfl trivial) ?_
                refine GoO.regionEnd ?_
                exact GoO.sub (ks := [13, 14, 15, 47]) (hk := []) (bk := [0]) (by kernel_rfl) (by kernel_rfl) (by kernel_rfl) (plan_Check_j1_ok n (plan_Check.l0 n l_1 k) l_1 x_7 A_2 c_3 w0 S0 ih0 (decide (((rdL l_1 x_7).Budget) > 9)))
    · refine GoO.exit' c15_20e rfl ?_
      refine GoO.seq' c15_33e ?_
      refine GoO.region' (is := [0]) c15_34e (by kernel_rfl) ?_
      refine GoO.exec (is := [0]) (hs := [.p]) (rest := []) (ks := [2]) (env' := [(2, .int .i64 0)]) (H' := []) (ps := []) (by kernel_rfl) trivial ?_
      refine GoO.regionEnd ?_
      exact GoO.ret' (h := c15_35e) (hs := []) (ps := []) (hk := []) (bk := []) Try.func15 () (by kernel_rfl) trivial (by kernel_rfl) (by kernel_rfl)
theorem plan_Check_j0_ok (n : Nat) (l_1 : (List T_api_Step)) (A_2 : Option Addr) (c_3 : Nat) (w0 : World) (S0 : Fam) (b_5 : Bool) :
    GoO (plan_Check.cx A_2 c_3 w0 S0) [(0, .slice A_2 l_1.length c_3), (12, .bool b_5)] [] [Rd 0 kT_api_Step A_2 c_3 l_1] [.code c15_5, .code c15_10] (plan_Check.j0 n l_1 b_5) := by
  unfold plan_Check.j0
  refine GoO.ite' c15_5e (by kernel_rfl) (fun h6 => ?_) (fun h6 => ?_)
  · refine GoO.seq' c15_6e ?_
    refine GoO.region' (is := [0]) c15_7e (by kernel_rfl) ?_
    refine GoO.exec (is := [0]) (hs := [.p]) (rest := []) (ks := [2]) (env' := [(2, .int .i64 44)]) (H' := []) (ps := []) (by kernel_rfl) trivial ?_
    refine GoO.regionEnd ?_
    exact GoO.ret' (h := c15_8e) (hs := []) (ps := []) (hk := []) (bk := []) Try.func15 () (by kernel_rfl) trivial (by kernel_rfl) (by kernel_rfl)
  · refine GoO.skip' c15_9e ?_
    refine GoO.seq' c15_10e ?_
    refine GoO.seq' c15_11e ?_
    refine GoO.region' (is := [0, 1, 2]) c15_12e (by kernel_rfl) ?_
    refine GoO.exec (is := [0, 1, 2]) (hs := [.p, .p, .p]) (rest := []) (ks := [13, 14, 15]) (env' := [(13, .slice A_2 l_1.length c_3), (14, .int .i64 (l_1.length : Int)), (15, .int .i64 0)]) (H' := []) (ps := []) (by kernel_rfl) trivial ?_
    refine GoO.regionEnd ?_
    refine GoO.block' c15_13e ?_
    refine GoO.loop' c15_14e ?_
    exact GoO.sub (ks := [13, 14, 15]) (hk := []) (bk := [0]) (by kernel_rfl) (by kernel_rfl) (by kernel_rfl) (plan_Check_l0_ok n l_1 A_2 c_3 w0 S0 n 0)
theorem plan_Check_ok (n : Nat) (l_1 : (List T_api_Step)) (A_2 : Option Addr) (c_3 : Nat) :
    Meets Try.prog 15 [.slice A_2 l_1.length c_3] 0 [] [] [Rd 0 kT_api_Step A_2 c_3 l_1] (plan_Check.f n l_1) (plan_Check.R A_2 c_3) := by
  refine Meets.of (c := c15_0) (n := 49) Try.func15 (by kernel_rfl) (by kernel_rfl) (by kernel_rfl) fun w0 S0 => ?_
  unfold plan_Check.f
  show GoO (plan_Check.cx A_2 c_3 w0 S0) [(0, .slice A_2 l_1.length c_3)] [] [Rd 0 kT_api_Step A_2 c_3 l_1] [.code c15_0] _
  refine GoO.seq' c15_0e ?_
  refine GoO.region' (is := [0]) c15_1e (by kernel_rfl) ?_
  refine GoO.exec (is := [0]) (hs := [.p]) (rest := []) (ks := [0]) (env' := [(0, .slice A_2 l_1.length c_3)]) (H' := []) (ps := []) (by kernel_rfl) trivial ?_
  refine GoO.regionEnd ?_
  refine GoO.seq' c15_2e ?_
  refine GoO.seq' c15_3e ?_
  refine GoO.region' (is := [0, 1, 2, 3, 4, 5, 6, 7]) c15_4e (by kernel_rfl) ?_
  refine GoO.exec (is := [0, 1, 2, 3]) (hs := [.p, .p, .p, .p]) (rest := [4, 5, 6, 7]) (ks := [0, 8]) (env' := [(0, .slice A_2 l_1.length c_3), (8, .bool (decide ((l_1.length : Int) < 1)))]) (H' := []) (ps := []) (by kernel_rfl) trivial ?_
  refine GoO.bsplit (t := 8) (by kernel_rfl) (fun h4 => ?_) (fun h4 => ?_)
  · refine GoO.exec (is := [4, 5, 6, 7]) (hs := [.p, .p, .p, .p]) (rest := []) (ks := [0, 12]) (env' := [(0, .slice A_2 l_1.length c_3), (12, .bool true)]) (H' := []) (ps := []) (by kernel_rfl) trivial ?_
    refine GoO.regionEnd ?_
    exact GoO.sub (ks := [0, 12]) (hk := []) (bk := [0]) (by kernel_rfl) (by kernel_rfl) (by kernel_rfl) (plan_Check_j0_ok n l_1 A_2 c_3 w0 S0 true)
  · refine GoO.exec (is := [4, 5, 6, 7]) (hs := [.p, .p, .p, .p]) (rest := []) (ks := [0, 12]) (env' := [(0, .slice A_2 l_1.length c_3), (12, .bool (decide ((l_1.length : Int) > 64)))]) (H' := []) (ps := []) (by kernel_rfl) trivial ?_
    refine GoO.regionEnd ?_
    exact GoO.sub (ks := [0, 12]) (hk := []) (bk := [0]) (by kernel_rfl) (by kernel_rfl) (by kernel_rfl) (plan_Check_j0_ok n l_1 A_2 c_3 w0 S0 (decide ((l_1.length : Int) > 64)))

/-! (*tontine/pack.Writer).Bytes -/
noncomputable def c19_0 : Code := bodyOf Try.f19
noncomputable def c19_1 : Code := cdL c19_0
noncomputable def c19_2 : Code := cdR c19_0
noncomputable def c19_3 : Code := cdL c19_2
noncomputable def c19_4 : Code := cdL c19_3
noncomputable def c19_5 : Code := cdR c19_3
noncomputable def c19_9 : Code := cdR c19_5
noncomputable def c19_10 : Code := cdR c19_2
noncomputable def c19_11 : Code := cdL c19_10
noncomputable def c19_12 : Code := cdR c19_10
noncomputable def c19_6 : Code := cdL c19_5
noncomputable def r19_1 : Array Oper := cdO c19_1
noncomputable def r19_4 : Array Oper := cdO c19_4
noncomputable def r19_11 : Array Oper := cdO c19_11
theorem c19_0e : c19_0 = .seq c19_1 c19_2 := by kernel_rfl
theorem c19_1e : c19_1 = .region 0 r19_1 false := by kernel_rfl
theorem c19_2e : c19_2 = .seq c19_3 c19_10 := by kernel_rfl
theorem c19_3e : c19_3 = .seq c19_4 c19_5 := by kernel_rfl
theorem c19_4e : c19_4 = .region 1 r19_4 false := by kernel_rfl
theorem c19_5e : c19_5 = .cond (cdC c19_5) c19_6 c19_9 := by kernel_rfl
theorem c19_9e : c19_9 = .skip := by kernel_rfl
theorem c19_10e : c19_10 = .seq c19_11 c19_12 := by kernel_rfl
theorem c19_11e : c19_11 = .region 3 r19_11 false := by kernel_rfl
theorem c19_12e : c19_12 = .ret := by kernel_rfl
noncomputable def pack_Writer_Bytes.R (b_2 : Nat) (A_3 : Option Addr) (c_4 : Nat) : Pst (List UInt8) where
  ε := Unit
  v := fun r x => .string (bs r)
  H := fun r x => []
  B := fun r x => []
noncomputable def pack_Writer_Bytes.cx (b_2 : Nat) (A_3 : Option Addr) (c_4 : Nat) (w0 : World) (S0 : Fam) : Cx (List UInt8) := ⟨Try.prog, 19, Try.f19, 10, w0, S0, [], 2, pack_Writer_Bytes.R b_2 A_3 c_4⟩
theorem pack_Writer_Bytes_ok (n : Nat) (w_1 : T_pack_Writer) (b_2 : Nat) (A_3 : Option Addr) (c_4 : Nat) :
    Meets Try.prog 19 [.pointer (some ⟨b_2, 0, none⟩)] 2 [] [⟨1, b_2, [.slice A_3 w_1.b.length c_4]⟩] [Ow 2 Kd.u8 A_3 c_4 w_1.b] (pack_Writer_Bytes.f n w_1) (pack_Writer_Bytes.R b_2 A_3 c_4) := by
  refine Meets.of (c := c19_0) (n := 10) Try.func19 (by kernel_rfl) (by kernel_rfl) (by kernel_rfl) fun w0 S0 => ?_
  unfold pack_Writer_Bytes.f
  show GoO (pack_Writer_Bytes.cx b_2 A_3 c_4 w0 S0) [(0, .pointer (some ⟨b_2, 0, none⟩))] [⟨1, b_2, [.slice A_3 w_1.b.length c_4]⟩] [Ow 2 Kd.u8 A_3 c_4 w_1.b] [.code c19_0] _
  refine GoO.seq' c19_0e ?_
  refine GoO.region' (is := [0]) c19_1e (by kernel_rfl) ?_
  refine GoO.exec (is := [0]) (hs := [.p]) (rest := []) (ks := [0]) (env' := [(0, .pointer (some ⟨b_2, 0, none⟩))]) (H' := [⟨1, b_2, [.slice A_3 w_1.b.length c_4]⟩]) (ps := []) (by kernel_rfl) trivial ?_
  refine GoO.regionEnd ?_
  refine GoO.seq' c19_2e ?_
  refine GoO.seq' c19_3e ?_
  refine GoO.region' (is := [0, 1]) c19_4e (by kernel_rfl) ?_
  refine GoO.exec (is := [0, 1]) (hs := [.p, .p]) (rest := []) (ks := [0, 4]) (env' := [(0, .pointer (some ⟨b_2, 0, none⟩)), (4, .bool false)]) (H' := [⟨1, b_2, [.slice A_3 w_1.b.length c_4]⟩]) (ps := []) (by kernel_rfl) trivial ?_
  refine GoO.regionEnd ?_
  refine GoO.condF c19_5e (by kernel_rfl) ?_
  refine GoO.skip' c19_9e ?_
  refine GoO.seq' c19_10e ?_
  refine GoO.region' (is := [0, 1, 2, 3, 4, 5]) c19_11e (by kernel_rfl) ?_
  refine GoO.exec (is := [0, 1, 2, 3]) (hs := [.p, .p, .p, .b 0]) (rest := [4, 5]) (ks := [8]) (env' := [(8, .slice A_3 w_1.b.length c_4)]) (H' := [⟨1, b_2, [.slice A_3 w_1.b.length c_4]⟩]) (ps := [b_2 = b_2]) (by kernel_rfl) (And.intro rfl trivial) ?_
  refine OpTo.go (GoO.toStr (e := 5) (A := A_3) (c := c_4) (xs := w_1.b) (j := 0) rfl (by kernel_rfl) (by kernel_rfl) (by kernel_rfl) (by kernel_rfl) rfl Reads.own rfl rfl ?_)
  refine GoO.exec (is := [5]) (hs := [.p]) (rest := []) (ks := [2]) (env' := [(2, .string (bs w_1.b))]) (H' := [⟨1, b_2, [.slice A_3 w_1.b.length c_4]⟩]) (ps := []) (by kernel_rfl) trivial ?_
  refine GoO.regionEnd ?_
  exact GoO.ret' (h := c19_12e) (hs := []) (ps := []) (hk := []) (bk := []) Try.func19 () (by kernel_rfl) trivial (by kernel_rfl) (by kernel_rfl)

/-! tontine/tontinelaw13.begun -/
noncomputable def c14_0 : Code := bodyOf Try.f14
noncomputable def c14_1 : Code := cdL c14_0
noncomputable def c14_2 : Code := cdR c14_0
noncomputable def c14_3 : Code := cdL c14_2
noncomputable def c14_4 : Code := cdR c14_2
noncomputable def c14_5 : Code := cdL c14_4
noncomputable def c14_6 : Code := cdR c14_4
noncomputable def c14_7 : Code := cdL c14_6
noncomputable def c14_8 : Code := cdR c14_6
noncomputable def c14_9 : Code := cdL c14_8
noncomputable def c14_10 : Code := cdR c14_8
noncomputable def r14_1 : Array Oper := cdO c14_1
noncomputable def r14_3 : Array Oper := cdO c14_3
noncomputable def r14_5 : Array Oper := cdO c14_5
noncomputable def r14_7 : Array Oper := cdO c14_7
noncomputable def r14_9 : Array Oper := cdO c14_9
theorem c14_0e : c14_0 = .seq c14_1 c14_2 := by kernel_rfl
theorem c14_1e : c14_1 = .region 0 r14_1 false := by kernel_rfl
theorem c14_2e : c14_2 = .seq c14_3 c14_4 := by kernel_rfl
theorem c14_3e : c14_3 = .region 1 r14_3 false := by kernel_rfl
theorem c14_4e : c14_4 = .seq c14_5 c14_6 := by kernel_rfl
theorem c14_5e : c14_5 = .region 2 r14_5 false := by kernel_rfl
theorem c14_6e : c14_6 = .seq c14_7 c14_8 := by kernel_rfl
theorem c14_7e : c14_7 = .region 3 r14_7 false := by kernel_rfl
theorem c14_8e : c14_8 = .seq c14_9 c14_10 := by kernel_rfl
theorem c14_9e : c14_9 = .region 4 r14_9 false := by kernel_rfl
theorem c14_10e : c14_10 = .ret := by kernel_rfl
noncomputable def tontinelaw13_begun.R : Pst Bool where
  ε := Unit
  v := fun r x => .bool r
  H := fun r x => []
  B := fun r x => []
noncomputable def tontinelaw13_begun.cx (w0 : World) (S0 : Fam) : Cx Bool := ⟨Try.prog, 14, Try.f14, 21, w0, S0, [], 0, tontinelaw13_begun.R⟩
theorem tontinelaw13_begun_ok (n : Nat) :
    Meets Try.prog 14 [] 0 [] [] [] (tontinelaw13_begun.f n) (tontinelaw13_begun.R) := by
  refine Meets.of (c := c14_0) (n := 21) Try.func14 (by kernel_rfl) (by kernel_rfl) (by kernel_rfl) fun w0 S0 => ?_
  unfold tontinelaw13_begun.f
  show GoO (tontinelaw13_begun.cx w0 S0) [] [] [] [.code c14_0] _
  refine GoO.seq' c14_0e ?_
  refine GoO.region' (is := [0]) c14_1e (by kernel_rfl) ?_
  refine GoO.exec (is := [0]) (hs := [.p]) (rest := []) (ks := []) (env' := []) (H' := []) (ps := []) (by kernel_rfl) trivial ?_
  refine GoO.regionEnd ?_
  refine GoO.seq' c14_2e ?_
  refine GoO.region' (is := [0, 1, 2]) c14_3e (by kernel_rfl) ?_
  refine GoO.exec (is := [0]) (hs := [.p]) (rest := [1, 2]) (ks := [3]) (env' := [(3, .agg ⟨[.int .i64 2, .string (bs [112, 97, 121]), .int .i64 3]⟩)]) (H' := []) (ps := []) (by kernel_rfl) trivial ?_
  refine OpTo.go (GoO.lit (e := 41) (K := kT_api_Step) rfl (by kernel_rfl) (by kernel_rfl) (cs := [.int .i64 2, .string (bs [112, 97, 121]), .int .i64 3]) (by kernel_rfl) [(⟨2, [112, 97, 121], 3⟩ : T_api_Step)] (by kernel_rfl) (by kernel_rfl) (fun w S hB => ⟨[.int .i64 2, .string (bs [112, 97, 121]), .int .i64 3], _, rfl, rfl, rfl⟩) 40 _ (fun _ _ => rfl) (fun A_1 c_2 => ?_))
  refine GoO.exec (is := [2]) (hs := [.p]) (rest := []) (ks := [1]) (env' := [(1, .slice A_1 [(⟨2, [112, 97, 121], 3⟩ : T_api_Step)].length c_2)]) (H' := []) (ps := []) (by kernel_rfl) trivial ?_
  refine GoO.regionEnd ?_
  refine GoO.seq' c14_4e ?_
  refine GoO.region' (is := [0, 1]) c14_5e (by kernel_rfl) ?_
  refine OpTo.go (GoO.new rfl 41 (cs := [.slice none ([] : List UInt8).length 0]) (by kernel_rfl) _ (fun _ => rfl) (fun b_3 => ?_))
  refine GoO.exec (is := [1]) (hs := [.p]) (rest := []) (ks := [1, 2]) (env' := [(1, .slice A_1 [(⟨2, [112, 97, 121], 3⟩ : T_api_Step)].length c_2), (2, .pointer (some ⟨b_3, 0, none⟩))]) (H' := [⟨41, b_3, [.slice none ([] : List UInt8).length 0]⟩]) (ps := []) (by kernel_rfl) trivial ?_
  refine GoO.regionEnd ?_
  refine GoO.seq' c14_6e ?_
  refine GoO.region' (is := [0, 1, 2]) c14_7e (by kernel_rfl) ?_
  refine GoO.exec (is := [0, 1]) (hs := [.p, .p]) (rest := [2]) (ks := [1, 2, 6, 7]) (env' := [(1, .slice A_1 [(⟨2, [112, 97, 121], 3⟩ : T_api_Step)].length c_2), (2, .pointer (some ⟨b_3, 0, none⟩)), (6, .pointer (some ⟨b_3, 0, none⟩)), (7, .slice A_1 [(⟨2, [112, 97, 121], 3⟩ : T_api_Step)].length c_2)]) (H' := [⟨41, b_3, [.slice none ([] : List UInt8).length 0]⟩]) (ps := []) (by kernel_rfl) trivial ?_
  refine GoO.nilOwn Kd.u8 42 ?_
  refine GoO.retag (t := 40) (u := 0) (j := 1) (hk := [0]) (bk := [0]) rfl rfl rfl rfl rfl rfl (by kernel_rfl) (by kernel_rfl) ?_
  refine GoO.own2rd (j := 0) rfl ?_
  refine OpTo.go (GoO.call rfl (by kernel_rfl) (by kernel_rfl) (plan_Write_ok n (⟨[]⟩ : T_pack_Writer) [(⟨2, [112, 97, 121], 3⟩ : T_api_Step)] b_3 none 0 A_1 c_2) [[0], [41], [42]] [(41, 1), (42, 2)] [(1, 0)] [(2, 1), (0, 0)] (hks := []) (bks := [0]) (by kernel_rfl) (by kernel_rfl) (by kernel_rfl) (.inl rfl) rfl rfl (by kernel_rfl) (by kernel_rfl) _ (fun _ _ => rfl) _ _ (fun _ _ => rfl) (fun _ _ => rfl) (fun _ _ => by kernel_rfl) (fun _ _ => by kernel_rfl) (fun r_4 x_15 => ?_))
  obtain ⟨A_5, c_6⟩ := x_15
  refine GoO.shape (env' := [(1, .slice A_1 [(⟨2, [112, 97, 121], 3⟩ : T_api_Step)].length c_2), (2, .pointer (some ⟨b_3, 0, none⟩)), (6, .pointer (some ⟨b_3, 0, none⟩)), (7, .slice A_1 [(⟨2, [112, 97, 121], 3⟩ : T_api_Step)].length c_2), (8, .tuple ⟨[]⟩)]) (H' := [⟨41, b_3, [.slice A_5 r_4.b.length c_6]⟩]) (B' := [Ow 42 Kd.u8 A_5 c_6 r_4.b, Rd 0 kT_api_Step A_1 c_2 [(⟨2, [112, 97, 121], 3⟩ : T_api_Step)]]) (ks := [1, 2, 6, 7, 8]) (by kernel_rfl) (by kernel_rfl) (by kernel_rfl) ?_
  refine GoO.regionEnd ?_
  refine GoO.seq' c14_8e ?_
  refine GoO.region' (is := [0, 1, 2, 3, 4, 5, 6, 7, 8, 9, 10, 11, 12]) c14_9e (by kernel_rfl) ?_
  refine GoO.exec (is := [0]) (hs := [.p]) (rest := [1, 2, 3, 4, 5, 6, 7, 8, 9, 10, 11, 12]) (ks := [2, 9]) (env' := [(2, .pointer (some ⟨b_3, 0, none⟩)), (9, .slice A_1 [(⟨2, [112, 97, 121], 3⟩ : T_api_Step)].length c_2)]) (H' := [⟨41, b_3, [.slice A_5 r_4.b.length c_6]⟩]) (ps := []) (by kernel_rfl) trivial ?_
  refine OpTo.go (GoO.call rfl (by kernel_rfl) (by kernel_rfl) (plan_Check_ok n [(⟨2, [112, 97, 121], 3⟩ : T_api_Step)] A_1 c_2) [[0]] [] [] [(0, 1)] (hks := [0]) (bks := [0, 1]) (by kernel_rfl) (by kernel_rfl) (by kernel_rfl) (.inl rfl) rfl rfl (by kernel_rfl) (by kernel_rfl) _ (fun _ _ => rfl) _ _ (fun _ _ => rfl) (fun _ _ => rfl) (fun _ _ => by kernel_rfl) (fun _ _ => by kernel_rfl) (fun r_7 x_14 => ?_))
  refine GoO.shape (env' := [(2, .pointer (some ⟨b_3, 0, none⟩)), (9, .slice A_1 [(⟨2, [112, 97, 121], 3⟩ : T_api_Step)].length c_2), (10, .int .i64 r_7)]) (H' := [⟨41, b_3, [.slice A_5 r_4.b.length c_6]⟩]) (B' := [Ow 42 Kd.u8 A_5 c_6 r_4.b, Rd 0 kT_api_Step A_1 c_2 [(⟨2, [112, 97, 121], 3⟩ : T_api_Step)]]) (ks := [2, 9, 10]) (by kernel_rfl) (by kernel_rfl) (by kernel_rfl) ?_
  refine GoO.exec (is := [2, 3]) (hs := [.p, .p]) (rest := [4, 5, 6, 7, 8, 9, 10, 11, 12]) (ks := [2, 12]) (env' := [(2, .pointer (some ⟨b_3, 0, none⟩)), (12, .bool (r_7 == 0))]) (H' := [⟨41, b_3, [.slice A_5 r_4.b.length c_6]⟩]) (ps := []) (by kernel_rfl) trivial ?_
  refine GoO.bsplit (t := 12) (by kernel_rfl) (fun h8 => ?_) (fun h8 => ?_)
  · refine GoO.exec (is := [4]) (hs := [.p]) (rest := [5, 6, 7, 8, 9, 10, 11, 12]) (ks := [12, 13]) (env' := [(12, .bool true), (13, .pointer (some ⟨b_3, 0, none⟩))]) (H' := [⟨41, b_3, [.slice A_5 r_4.b.length c_6]⟩]) (ps := []) (by kernel_rfl) trivial ?_
    refine OpTo.go (GoO.call rfl (by kernel_rfl) (by kernel_rfl) (pack_Writer_Bytes_ok n r_4 b_3 A_5 c_6) [[0], [41], [42]] [] [(1, 0)] [(2, 0)] (hks := [0]) (bks := [0, 1]) (by kernel_rfl) (by kernel_rfl) (by kernel_rfl) (.inl rfl) rfl rfl (by kernel_rfl) (by kernel_rfl) _ (fun _ _ => rfl) _ _ (fun _ _ => rfl) (fun _ _ => rfl) (fun _ _ => by kernel_rfl) (fun _ _ => by kernel_rfl) (fun r_9 x_13 => ?_))
    refine GoO.shape (env' := [(12, .bool true), (13, .pointer (some ⟨b_3, 0, none⟩)), (14, .string (bs r_9))]) (H' := [⟨41, b_3, [.slice A_5 r_4.b.length c_6]⟩]) (B' := [Ow 42 Kd.u8 A_5 c_6 r_4.b, Rd 0 kT_api_Step A_1 c_2 [(⟨2, [112, 97, 121], 3⟩ : T_api_Step)]]) (ks := [12, 13, 14]) (by kernel_rfl) (by kernel_rfl) (by kernel_rfl) ?_
    refine GoO.exec (is := [6, 7, 8]) (hs := [.p, .p, .p]) (rest := [9, 10, 11, 12]) (ks := [17]) (env' := [(17, .bool (r_9 == ([1, 1, 1, 2, 1, 3, 112, 97, 121, 1, 3] : List UInt8)))]) (H' := [⟨41, b_3, [.slice A_5 r_4.b.length c_6]⟩]) (ps := []) (by kernel_rfl) trivial ?_
    refine GoO.bsplit (t := 17) (by kernel_rfl) (fun h10 => ?_) (fun h10 => ?_)
    · refine GoO.nilRd kT_api_Step ?_
      refine OpTo.go (GoO.call rfl (by kernel_rfl) (by kernel_rfl) (plan_Check_ok n ([] : List T_api_Step) none 0) [[0]] [] [] [(0, 0)] (hks := [0]) (bks := [0, 1, 2]) (by kernel_rfl) (by kernel_rfl) (by kernel_rfl) (.inl rfl) rfl rfl (by kernel_rfl) (by kernel_rfl) _ (fun _ _ => rfl) _ _ (fun _ _ => rfl) (fun _ _ => rfl) (fun _ _ => by kernel_rfl) (fun _ _ => by kernel_rfl) (fun r_11 x_12 => ?_))
      refine GoO.shape (env' := [(17, .bool true), (18, .int .i64 r_11)]) (H' := [⟨41, b_3, [.slice A_5 r_4.b.length c_6]⟩]) (B' := [Rd 0 kT_api_Step none 0 ([] : List T_api_Step), Ow 42 Kd.u8 A_5 c_6 r_4.b, Rd 0 kT_api_Step A_1 c_2 [(⟨2, [112, 97, 121], 3⟩ : T_api_Step)]]) (ks := [17, 18]) (by kernel_rfl) (by kernel_rfl) (by kernel_rfl) ?_
      refine GoO.exec (is := [10, 11, 12]) (hs := [.p, .p, .p]) (rest := []) (ks := [0]) (env' := [(0, .bool (r_11 == 44))]) (H' := [⟨41, b_3, [.slice A_5 r_4.b.length c_6]⟩]) (ps := []) (by kernel_rfl) trivial ?_
      refine GoO.regionEnd ?_
      exact GoO.ret' (h := c14_10e) (hs := []) (ps := []) (hk := []) (bk := []) Try.func14 () (by kernel_rfl) trivial (by kernel_rfl) (by kernel_rfl)
    · refine GoO.exec (is := [9, 10, 11, 12]) (hs := [.p, .p, .p, .p]) (rest := []) (ks := [0]) (env' := [(0, .bool false)]) (H' := [⟨41, b_3, [.slice A_5 r_4.b.length c_6]⟩]) (ps := []) (by kernel_rfl) trivial ?_
      refine GoO.regionEnd ?_
      exact GoO.ret' (h := c14_10e) (hs := []) (ps := []) (hk := []) (bk := []) Try.func14 () (by kernel_rfl) trivial (by kernel_rfl) (by kernel_rfl)
  · refine GoO.exec (is := [4, 5, 6, 7, 8, 9, 10, 11, 12]) (hs := [.p, .p, .p, .p, .p, .p, .p, .p, .p]) (rest := []) (ks := [0]) (env' := [(0, .bool false)]) (H' := [⟨41, b_3, [.slice A_5 r_4.b.length c_6]⟩]) (ps := []) (by kernel_rfl) trivial ?_
    refine GoO.regionEnd ?_
    exact GoO.ret' (h := c14_10e) (hs := []) (ps := []) (hk := []) (bk := []) Try.func14 () (by kernel_rfl) trivial (by kernel_rfl) (by kernel_rfl)

/-! tontine/pack.From -/
noncomputable def c23_0 : Code := bodyOf Try.f23
noncomputable def c23_1 : Code := cdL c23_0
noncomputable def c23_2 : Code := cdR c23_0
noncomputable def c23_3 : Code := cdL c23_2
noncomputable def c23_4 : Code := cdR c23_2
noncomputable def r23_1 : Array Oper := cdO c23_1
noncomputable def r23_3 : Array Oper := cdO c23_3
theorem c23_0e : c23_0 = .seq c23_1 c23_2 := by kernel_rfl
theorem c23_1e : c23_1 = .region 0 r23_1 false := by kernel_rfl
theorem c23_2e : c23_2 = .seq c23_3 c23_4 := by kernel_rfl
theorem c23_3e : c23_3 = .region 1 r23_3 false := by kernel_rfl
theorem c23_4e : c23_4 = .ret := by kernel_rfl
noncomputable def pack_From.R : Pst T_pack_Reader where
  ε := Nat
  v := fun r x => .pointer (some ⟨x, 0, none⟩)
  H := fun r x => [⟨1, x, [.string (bs r.s), .bool r.bad]⟩]
  B := fun r x => []
noncomputable def pack_From.cx (w0 : World) (S0 : Fam) : Cx T_pack_Reader := ⟨Try.prog, 23, Try.f23, 6, w0, S0, [], 0, pack_From.R⟩
theorem pack_From_ok (n : Nat) (s_1 : (List UInt8)) :
    Meets Try.prog 23 [.string (bs s_1)] 0 [] [] [] (pack_From.f n s_1) (pack_From.R) := by
  refine Meets.of (c := c23_0) (n := 6) Try.func23 (by kernel_rfl) (by kernel_rfl) (by kernel_rfl) fun w0 S0 => ?_
  unfold pack_From.f
  show GoO (pack_From.cx w0 S0) [(0, .string (bs s_1))] [] [] [.code c23_0] _
  refine GoO.seq' c23_0e ?_
  refine GoO.region' (is := [0]) c23_1e (by kernel_rfl) ?_
  refine GoO.exec (is := [0]) (hs := [.p]) (rest := []) (ks := [0]) (env' := [(0, .string (bs s_1))]) (H' := []) (ps := []) (by kernel_rfl) trivial ?_
  refine GoO.regionEnd ?_
  refine GoO.seq' c23_2e ?_
  refine GoO.region' (is := [0, 1, 2, 3]) c23_3e (by kernel_rfl) ?_
  refine GoO.exec (is := [0, 1]) (hs := [.p, .p]) (rest := [2, 3]) (ks := [4]) (env' := [(4, .agg ⟨[.string (bs s_1), .bool false]⟩)]) (H' := []) (ps := []) (by kernel_rfl) trivial ?_
  refine OpTo.go (GoO.new rfl 40 (cs := [.string (bs s_1), .bool false]) (by kernel_rfl) _ (fun _ => rfl) (fun b_2 => ?_))
  refine GoO.exec (is := [3]) (hs := [.p]) (rest := []) (ks := [2]) (env' := [(2, .pointer (some ⟨b_2, 0, none⟩))]) (H' := [⟨40, b_2, [.string (bs s_1), .bool false]⟩]) (ps := []) (by kernel_rfl) trivial ?_
  refine GoO.regionEnd ?_
  refine GoO.retagB (t := 40) (u := 1) (j := 0) (hk := []) (bk := []) rfl rfl rfl rfl rfl rfl (by kernel_rfl) (by kernel_rfl) ?_
  exact GoO.ret' (h := c23_4e) (hs := []) (ps := []) (hk := [0]) (bk := []) Try.func23 b_2 (by kernel_rfl) trivial (by kernel_rfl) (by kernel_rfl)

/-! (*tontine/pack.Reader).fail -/
noncomputable def c43_0 : Code := bodyOf Try.f43
noncomputable def c43_1 : Code := cdL c43_0
noncomputable def c43_2 : Code := cdR c43_0
noncomputable def c43_3 : Code := cdL c43_2
noncomputable def c43_4 : Code := cdL c43_3
noncomputable def c43_5 : Code := cdR c43_3
noncomputable def c43_6 : Code := cdL c43_5
noncomputable def c43_8 : Code := cdR c43_2
noncomputable def c43_9 : Code := cdL c43_8
noncomputable def c43_10 : Code := cdR c43_8
noncomputable def c43_7 : Code := cdR c43_5
noncomputable def r43_1 : Array Oper := cdO c43_1
noncomputable def r43_4 : Array Oper := cdO c43_4
noncomputable def r43_6 : Array Oper := cdO c43_6
noncomputable def r43_9 : Array Oper := cdO c43_9
theorem c43_0e : c43_0 = .seq c43_1 c43_2 := by kernel_rfl
theorem c43_1e : c43_1 = .region 0 r43_1 false := by kernel_rfl
theorem c43_2e : c43_2 = .seq c43_3 c43_8 := by kernel_rfl
theorem c43_3e : c43_3 = .seq c43_4 c43_5 := by kernel_rfl
theorem c43_4e : c43_4 = .region 1 r43_4 false := by kernel_rfl
theorem c43_5e : c43_5 = .cond (cdC c43_5) c43_6 c43_7 := by kernel_rfl
theorem c43_6e : c43_6 = .region 2 r43_6 false := by kernel_rfl
theorem c43_8e : c43_8 = .seq c43_9 c43_10 := by kernel_rfl
theorem c43_9e : c43_9 = .region 3 r43_9 false := by kernel_rfl
theorem c43_10e : c43_10 = .ret := by kernel_rfl
theorem c43_7e : c43_7 = .skip := by kernel_rfl
noncomputable def pack_Reader_fail.R (b_2 : Nat) : Pst (Int × T_pack_Reader) where
  ε := Unit
  v := fun r x => .int .u64 r.1
  H := fun r x => [⟨1, b_2, [.string (bs r.2.s), .bool r.2.bad]⟩]
  B := fun r x => []
noncomputable def pack_Reader_fail.cx (b_2 : Nat) (w0 : World) (S0 : Fam) : Cx (Int × T_pack_Reader) := ⟨Try.prog, 43, Try.f43, 11, w0, S0, [1], 1, pack_Reader_fail.R b_2⟩
theorem pack_Reader_fail_ok (n : Nat) (r_1 : T_pack_Reader) (b_2 : Nat) :
    Meets Try.prog 43 [.pointer (some ⟨b_2, 0, none⟩)] 1 [1] [⟨1, b_2, [.string (bs r_1.s), .bool r_1.bad]⟩] [] (pack_Reader_fail.f n r_1) (pack_Reader_fail.R b_2) := by
  refine Meets.of (c := c43_0) (n := 11) Try.func43 (by kernel_rfl) (by kernel_rfl) (by kernel_rfl) fun w0 S0 => ?_
  unfold pack_Reader_fail.f
  show GoO (pack_Reader_fail.cx b_2 w0 S0) [(0, .pointer (some ⟨b_2, 0, none⟩))] [⟨1, b_2, [.string (bs r_1.s), .bool r_1.bad]⟩] [] [.code c43_0] _
  refine GoO.seq' c43_0e ?_
  refine GoO.region' (is := [0]) c43_1e (by kernel_rfl) ?_
  refine GoO.exec (is := [0]) (hs := [.p]) (rest := []) (ks := [0]) (env' := [(0, .pointer (some ⟨b_2, 0, none⟩))]) (H' := [⟨1, b_2, [.string (bs r_1.s), .bool r_1.bad]⟩]) (ps := []) (by kernel_rfl) trivial ?_
  refine GoO.regionEnd ?_
  refine GoO.seq' c43_2e ?_
  refine GoO.seq' c43_3e ?_
  refine GoO.region' (is := [0, 1]) c43_4e (by kernel_rfl) ?_
  refine GoO.exec (is := [0, 1]) (hs := [.p, .p]) (rest := []) (ks := [0, 4]) (env' := [(0, .pointer (some ⟨b_2, 0, none⟩)), (4, .bool true)]) (H' := [⟨1, b_2, [.string (bs r_1.s), .bool r_1.bad]⟩]) (ps := []) (by kernel_rfl) trivial ?_
  refine GoO.regionEnd ?_
  refine GoO.condT c43_5e (by kernel_rfl) ?_
  refine GoO.region' (is := [0, 1, 2, 3, 4, 5, 6, 7]) c43_6e (by kernel_rfl) ?_
  refine GoO.exec (is := [0, 1, 2, 3, 4, 5, 6, 7]) (hs := [.p, .p, .p, .p, .b 0, .p, .p, .b 0]) (rest := []) (ks := []) (env' := []) (H' := [⟨1, b_2, [.string (bs []), .bool true]⟩]) (ps := [b_2 = b_2, b_2 = b_2]) (by kernel_rfl) (And.intro rfl (And.intro rfl trivial)) ?_
  refine GoO.regionEnd ?_
  refine GoO.seq' c43_8e ?_
  refine GoO.region' (is := [0]) c43_9e (by kernel_rfl) ?_
  refine GoO.exec (is := [0]) (hs := [.p]) (rest := []) (ks := [2]) (env' := [(2, .int .u64 0)]) (H' := [⟨1, b_2, [.string (bs []), .bool true]⟩]) (ps := []) (by kernel_rfl) trivial ?_
  refine GoO.regionEnd ?_
  exact GoO.ret' (h := c43_10e) (hs := []) (ps := []) (hk := [0]) (bk := []) Try.func43 () (by kernel_rfl) trivial (by kernel_rfl) (by kernel_rfl)

/-! (*tontine/pack.Reader).Num -/
noncomputable def c24_0 : Code := bodyOf Try.f24
noncomputable def c24_1 : Code := cdL c24_0
noncomputable def c24_2 : Code := cdR c24_0
noncomputable def c24_3 : Code := cdL c24_2
noncomputable def c24_4 : Code := cdL c24_3
noncomputable def c24_5 : Code := cdR c24_3
noncomputable def c24_6 : Code := cdL c24_5
noncomputable def c24_7 : Code := cdL c24_6
noncomputable def c24_8 : Code := cdR c24_6
noncomputable def c24_9 : Code := cdR c24_5
noncomputable def c24_10 : Code := cdR c24_2
noncomputable def c24_11 : Code := cdL c24_10
noncomputable def c24_12 : Code := cdR c24_10
noncomputable def c24_13 : Code := cdL c24_12
noncomputable def c24_14 : Code := cdL c24_13
noncomputable def c24_15 : Code := cdR c24_13
noncomputable def c24_16 : Code := cdL c24_15
noncomputable def c24_17 : Code := cdL c24_16
noncomputable def c24_18 : Code := cdR c24_16
noncomputable def c24_19 : Code := cdR c24_15
noncomputable def c24_20 : Code := cdR c24_12
noncomputable def c24_21 : Code := cdL c24_20
noncomputable def c24_22 : Code := cdR c24_20
noncomputable def c24_23 : Code := cdL c24_22
noncomputable def c24_24 : Code := cdL c24_23
noncomputable def c24_25 : Code := cdR c24_23
noncomputable def c24_26 : Code := cdL c24_25
noncomputable def c24_27 : Code := cdL c24_26
noncomputable def c24_28 : Code := cdL c24_27
noncomputable def c24_29 : Code := cdL c24_28
noncomputable def c24_30 : Code := cdR c24_28
noncomputable def c24_31 : Code := cdL c24_30
noncomputable def c24_32 : Code := cdR c24_30
noncomputable def c24_33 : Code := cdR c24_27
noncomputable def c24_34 : Code := cdL c24_33
noncomputable def c24_35 : Code := cdL c24_34
noncomputable def c24_36 : Code := cdR c24_33
noncomputable def c24_37 : Code := cdR c24_22
noncomputable def c24_38 : Code := cdL c24_37
noncomputable def c24_39 : Code := cdR c24_37
noncomputable def c24_40 : Code := cdL c24_39
noncomputable def c24_41 : Code := cdR c24_39
noncomputable def r24_1 : Array Oper := cdO c24_1
noncomputable def r24_4 : Array Oper := cdO c24_4
noncomputable def r24_7 : Array Oper := cdO c24_7
noncomputable def r24_11 : Array Oper := cdO c24_11
noncomputable def r24_14 : Array Oper := cdO c24_14
noncomputable def r24_17 : Array Oper := cdO c24_17
noncomputable def r24_21 : Array Oper := cdO c24_21
noncomputable def r24_24 : Array Oper := cdO c24_24
noncomputable def r24_29 : Array Oper := cdO c24_29
noncomputable def r24_35 : Array Oper := cdO c24_35
noncomputable def r24_36 : Array Oper := cdO c24_36
noncomputable def r24_38 : Array Oper := cdO c24_38
noncomputable def r24_40 : Array Oper := cdO c24_40
theorem c24_0e : c24_0 = .seq c24_1 c24_2 := by kernel_rfl
theorem c24_1e : c24_1 = .region 0 r24_1 false := by kernel_rfl
theorem c24_2e : c24_2 = .seq c24_3 c24_10 := by kernel_rfl
theorem c24_3e : c24_3 = .seq c24_4 c24_5 := by kernel_rfl
theorem c24_4e : c24_4 = .region 1 r24_4 false := by kernel_rfl
theorem c24_5e : c24_5 = .cond (cdC c24_5) c24_6 c24_9 := by kernel_rfl
theorem c24_6e : c24_6 = .seq c24_7 c24_8 := by kernel_rfl
theorem c24_7e : c24_7 = .region 2 r24_7 false := by kernel_rfl
theorem c24_8e : c24_8 = .ret := by kernel_rfl
theorem c24_9e : c24_9 = .skip := by kernel_rfl
theorem c24_10e : c24_10 = .seq c24_11 c24_12 := by kernel_rfl
theorem c24_11e : c24_11 = .region 3 r24_11 false := by kernel_rfl
theorem c24_12e : c24_12 = .seq c24_13 c24_20 := by kernel_rfl
theorem c24_13e : c24_13 = .seq c24_14 c24_15 := by kernel_rfl
theorem c24_14e : c24_14 = .region 4 r24_14 false := by kernel_rfl
theorem c24_15e : c24_15 = .cond (cdC c24_15) c24_16 c24_19 := by kernel_rfl
theorem c24_16e : c24_16 = .seq c24_17 c24_18 := by kernel_rfl
theorem c24_17e : c24_17 = .region 5 r24_17 false := by kernel_rfl
theorem c24_18e : c24_18 = .ret := by kernel_rfl
theorem c24_19e : c24_19 = .skip := by kernel_rfl
theorem c24_20e : c24_20 = .seq c24_21 c24_22 := by kernel_rfl
theorem c24_21e : c24_21 = .region 6 r24_21 false := by kernel_rfl
theorem c24_22e : c24_22 = .seq c24_23 c24_37 := by kernel_rfl
theorem c24_23e : c24_23 = .seq c24_24 c24_25 := by kernel_rfl
theorem c24_24e : c24_24 = .region 7 r24_24 false := by kernel_rfl
theorem c24_25e : c24_25 = .block 0 c24_26 := by kernel_rfl
theorem c24_26e : c24_26 = .loop c24_27 := by kernel_rfl
theorem c24_27e : c24_27 = .seq c24_28 c24_33 := by kernel_rfl
theorem c24_28e : c24_28 = .seq c24_29 c24_30 := by kernel_rfl
theorem c24_29e : c24_29 = .region 8 r24_29 false := by kernel_rfl
theorem c24_30e : c24_30 = .cond (cdC c24_30) c24_31 c24_32 := by kernel_rfl
theorem c24_31e : c24_31 = .skip := by kernel_rfl
theorem c24_32e : c24_32 = .exit 0 := by kernel_rfl
theorem c24_33e : c24_33 = .seq c24_34 c24_36 := by kernel_rfl
theorem c24_34e : c24_34 = .block 1 c24_35 := by kernel_rfl
theorem c24_35e : c24_35 = .region 10 r24_35 false := by kernel_rfl
theorem c24_36e : c24_36 = .region 9 r24_36 false := by kernel_rfl
theorem c24_37e : c24_37 = .seq c24_38 c24_39 := by kernel_rfl
theorem c24_38e : c24_38 = .region 11 r24_38 false := by kernel_rfl
theorem c24_39e : c24_39 = .seq c24_40 c24_41 := by kernel_rfl
theorem c24_40e : c24_40 = .region 12 r24_40 false := by kernel_rfl
theorem c24_41e : c24_41 = .ret := by kernel_rfl
noncomputable def pack_Reader_Num.R (b_2 : Nat) : Pst (Int × T_pack_Reader) where
  ε := Unit
  v := fun r x => .int .u64 r.1
  H := fun r x => [⟨1, b_2, [.string (bs r.2.s), .bool r.2.bad]⟩]
  B := fun r x => []
noncomputable def pack_Reader_Num.cx (b_2 : Nat) (w0 : World) (S0 : Fam) : Cx (Int × T_pack_Reader) := ⟨Try.prog, 24, Try.f24, 75, w0, S0, [1], 1, pack_Reader_Num.R b_2⟩
theorem pack_Reader_Num_l0_ok (n : Nat) (r_1 : T_pack_Reader) (b_2 : Nat) (w0 : World) (S0 : Fam) :
    ∀ (k : Nat) (x_15 : Int) (i_16 : Int), GoO (pack_Reader_Num.cx b_2 w0 S0) [(0, .pointer (some ⟨b_2, 0, none⟩)), (3, .int .i64 (wi64 ((rdB r_1.s 0).toNat : Int))), (4, .int .u64 x_15), (5, .int .i64 i_16)] [⟨1, b_2, [.string (bs r_1.s), .bool r_1.bad]⟩] [] [.code c24_27, .inLoop c24_27, .inBlock 0, .code c24_37] (pack_Reader_Num.l0 n r_1 k x_15 i_16) := by
  intro k
  induction k with
  | zero => intros; rw [pack_Reader_Num.l0.eq_1]; exact GoO.stop
  | succ k ih0 =>
    intro x_15 i_16
    rw [pack_Reader_Num.l0.eq_2]
    refine GoO.seq' c24_27e ?_
    refine GoO.seq' c24_28e ?_
    refine GoO.region' (is := [0, 1, 2]) c24_29e (by kernel_rfl) ?_
    refine GoO.exec (is := [0, 1, 2]) (hs := [.p, .p, .p]) (rest := []) (ks := [0, 3, 4, 5, 51]) (env' := [(0, .pointer (some ⟨b_2, 0, none⟩)), (3, .int .i64 (wi64 ((rdB r_1.s 0).toNat : Int))), (4, .int .u64 x_15), (5, .int .i64 i_16), (51, .bool (decide (i_16 ≤ (wi64 ((rdB r_1.s 0).toNat : Int)))))]) (H' := [⟨1, b_2, [.string (bs r_1.s), .bool r_1.bad]⟩]) (ps := []) (by kernel_rfl) trivial ?_
    refine GoO.regionEnd ?_
    refine GoO.ite' c24_30e (by kernel_rfl) (fun h17 => ?_) (fun h17 => ?_)
    · refine GoO.skip' c24_31e ?_
      refine GoO.seq' c24_33e ?_
      refine GoO.block' c24_34e ?_
      refine GoO.region' (is := [0, 1, 2, 3, 4, 5, 6, 7, 8, 9, 10]) c24_35e (by kernel_rfl) ?_
      refine GoO.guard (fun h18 => ?_)
      refine GoO.exec (is := [0, 1, 2, 3, 4, 5, 6, 7, 8, 9, 10]) (hs := [.p, .p, .p, .p, .p, .b 0, .p, .p, .p, .p, .p]) (rest := []) (ks := [0, 3, 4, 5]) (env' := [(0, .pointer (some ⟨b_2, 0, none⟩)), (3, .int .i64 (wi64 ((rdB r_1.s 0).toNat : Int))), (4, .int .u64 (bOr .u64 (shL .u64 x_15 8) (wu64 ((rdB r_1.s i_16).toNat : Int)))), (5, .int .i64 i_16)]) (H' := [⟨1, b_2, [.string (bs r_1.s), .bool r_1.bad]⟩]) (ps := [(0 : Int) ≤ 8, b_2 = b_2, (0 : Int) ≤ i_16, i_16 < (r_1.s.length : Int)]) (by kernel_rfl) (And.intro (by decide) (And.intro rfl (And.intro h18.1 (And.intro h18.2 trivial)))) ?_
      refine GoO.regionEnd ?_
      refine GoO.inBlock ?_
      refine GoO.region' (is := [0, 1, 2]) c24_36e (by kernel_rfl) ?_
      refine GoO.exec (is := [0, 1, 2]) (hs := [.p, .p, .p]) (rest := []) (ks := [0, 3, 4, 5]) (env' := [(0, .pointer (some ⟨b_2, 0, none⟩)), (3, .int .i64 (wi64 ((rdB r_1.s 0).toNat : Int))), (4, .int .u64 (bOr .u64 (shL .u64 x_15 8) (wu64 ((rdB r_1.s i_16).toNat : Int)))), (5, .int .i64 (wi64 (i_16 + 1)))]) (H' := [⟨1, b_2, [.string (bs r_1.s), .bool r_1.bad]⟩]) (ps := []) (by kernel_rfl) trivial ?_
      refine GoO.regionEnd ?_
      refine GoO.inLoop ?_
      exact GoO.sub (ks := [0, 3, 4, 5]) (hk := [0]) (bk := []) (by kernel_rfl) (by kernel_rfl) (by kernel_rfl) (ih0 (bOr .u64 (shL .u64 x_15 8) (wu64 ((rdB r_1.s i_16).toNat : Int))) (wi64 (i_16 + 1)))
    · refine GoO.exit' c24_32e rfl ?_
      refine GoO.seq' c24_37e ?_
      refine GoO.region' (is := [0, 1, 2, 3, 4, 5, 6, 7, 8, 9, 10]) c24_38e (by kernel_rfl) ?_
      refine GoO.guard (fun h19 => ?_)
      refine GoO.exec (is := [0, 1, 2, 3, 4, 5, 6, 7, 8, 9, 10]) (hs := [.p, .p, .p, .p, .b 0, .p, .p, .p, .p, .p, .b 0]) (rest := []) (ks := [4]) (env' := [(4, .int .u64 x_15)]) (H' := [⟨1, b_2, [.string (bs (r_1.s.drop (wi64 ((wi64 ((rdB r_1.s 0).toNat : Int)) + 1)).toNat)), .bool r_1.bad]⟩]) (ps := [b_2 = b_2, (0 : Int) ≤ (wi64 ((wi64 ((rdB r_1.s 0).toNat : Int)) + 1)), (wi64 ((wi64 ((rdB r_1.s 0).toNat : Int)) + 1)) ≤ (r_1.s.length : Int), b_2 = b_2]) (by kernel_rfl) (And.intro rfl (And.intro h19.1 (And.intro h19.2 (And.intro rfl trivial)))) ?_
      refine GoO.regionEnd ?_
      refine GoO.seq' c24_39e ?_
      refine GoO.region' (is := [0, 1]) c24_40e (by kernel_rfl) ?_
      refine GoO.exec (is := [0, 1]) (hs := [.p, .p]) (rest := []) (ks := [2]) (env' := [(2, .int .u64 x_15)]) (H' := [⟨1, b_2, [.string (bs (r_1.s.drop (wi64 ((wi64 ((rdB r_1.s 0).toNat : Int)) + 1)).toNat)), .bool r_1.bad]⟩]) (ps := []) (by kernel_rfl) trivial ?_
      refine GoO.regionEnd ?_
      exact GoO.ret' (h := c24_41e) (hs := []) (ps := []) (hk := [0]) (bk := []) Try.func24 () (by kernel_rfl) trivial (by kernel_rfl) (by kernel_rfl)
theorem pack_Reader_Num_j0_ok (n : Nat) (r_1 : T_pack_Reader) (b_2 : Nat) (w0 : World) (S0 : Fam) (b_11 : Bool) :
    GoO (pack_Reader_Num.cx b_2 w0 S0) [(0, .pointer (some ⟨b_2, 0, none⟩)), (3, .int .i64 (wi64 ((rdB r_1.s 0).toNat : Int))), (46, .bool b_11)] [⟨1, b_2, [.string (bs r_1.s), .bool r_1.bad]⟩] [] [.code c24_15, .code c24_20] (pack_Reader_Num.j0 n r_1 b_11) := by
  unfold pack_Reader_Num.j0
  refine GoO.ite' c24_15e (by kernel_rfl) (fun h12 => ?_) (fun h12 => ?_)
  · refine GoO.seq' c24_16e ?_
    refine GoO.region' (is := [0, 1, 2]) c24_17e (by kernel_rfl) ?_
    refine GoO.exec (is := [0]) (hs := [.p]) (rest := [1, 2]) (ks := [47]) (env' := [(47, .pointer (some ⟨b_2, 0, none⟩))]) (H' := [⟨1, b_2, [.string (bs r_1.s), .bool r_1.bad]⟩]) (ps := []) (by kernel_rfl) trivial ?_
    refine OpTo.go (GoO.call rfl (by kernel_rfl) (by kernel_rfl) (pack_Reader_fail_ok n r_1 b_2) [[0], [1]] [(1, 1)] [(1, 0)] [] (hks := []) (bks := []) (by kernel_rfl) (by kernel_rfl) (by kernel_rfl) (.inl rfl) rfl rfl (by kernel_rfl) (by kernel_rfl) _ (fun _ _ => rfl) _ _ (fun _ _ => rfl) (fun _ _ => rfl) (fun _ _ => by kernel_rfl) (fun _ _ => by kernel_rfl) (fun r_13 x_14 => ?_))
    refine GoO.shape (env' := [(47, .pointer (some ⟨b_2, 0, none⟩)), (48, .int .u64 r_13.1)]) (H' := [⟨1, b_2, [.string (bs r_13.2.s), .bool r_13.2.bad]⟩]) (B' := []) (ks := [47, 48]) (by kernel_rfl) (by kernel_rfl) (by kernel_rfl) ?_
    refine GoO.exec (is := [2]) (hs := [.p]) (rest := []) (ks := [2]) (env' := [(2, .int .u64 r_13.1)]) (H' := [⟨1, b_2, [.string (bs r_13.2.s), .bool r_13.2.bad]⟩]) (ps := []) (by kernel_rfl) trivial ?_
    refine GoO.regionEnd ?_
    exact GoO.ret' (h := c24_18e) (hs := []) (ps := []) (hk := [0]) (bk := []) Try.func24 () (by kernel_rfl) trivial (by kernel_rfl) (by kernel_rfl)
  · refine GoO.skip' c24_19e ?_
    refine GoO.seq' c24_20e ?_
    refine GoO.region' (is := [0]) c24_21e (by kernel_rfl) ?_
    refine GoO.exec (is := [0]) (hs := [.p]) (rest := []) (ks := [0, 3, 4]) (env' := [(0, .pointer (some ⟨b_2, 0, none⟩)), (3, .int .i64 (wi64 ((rdB r_1.s 0).toNat : Int))), (4, .int .u64 0)]) (H' := [⟨1, b_2, [.string (bs r_1.s), .bool r_1.bad]⟩]) (ps := []) (by kernel_rfl) trivial ?_
    refine GoO.regionEnd ?_
    refine GoO.seq' c24_22e ?_
    refine GoO.seq' c24_23e ?_
    refine GoO.region' (is := [0]) c24_24e (by kernel_rfl) ?_
    refine GoO.exec (is := [0]) (hs := [.p]) (rest := []) (ks := [0, 3, 4, 5]) (env' := [(0, .pointer (some ⟨b_2, 0, none⟩)), (3, .int .i64 (wi64 ((rdB r_1.s 0).toNat : Int))), (4, .int .u64 0), (5, .int .i64 1)]) (H' := [⟨1, b_2, [.string (bs r_1.s), .bool r_1.bad]⟩]) (ps := []) (by kernel_rfl) trivial ?_
    refine GoO.regionEnd ?_
    refine GoO.block' c24_25e ?_
    refine GoO.loop' c24_26e ?_
    exact GoO.sub (ks := [0, 3, 4, 5]) (hk := [0]) (bk := []) (by kernel_rfl) (by kernel_rfl) (by kernel_rfl) (pack_Reader_Num_l0_ok n r_1 b_2 w0 S0 n 0 1)
theorem pack_Reader_Num_ok (n : Nat) (r_1 : T_pack_Reader) (b_2 : Nat) :
    Meets Try.prog 24 [.pointer (some ⟨b_2, 0, none⟩)] 1 [1] [⟨1, b_2, [.string (bs r_1.s), .bool r_1.bad]⟩] [] (pack_Reader_Num.f n r_1) (pack_Reader_Num.R b_2) := by
  refine Meets.of (c := c24_0) (n := 75) Try.func24 (by kernel_rfl) (by kernel_rfl) (by kernel_rfl) fun w0 S0 => ?_
  unfold pack_Reader_Num.f
  show GoO (pack_Reader_Num.cx b_2 w0 S0) [(0, .pointer (some ⟨b_2, 0, none⟩))] [⟨1, b_2, [.string (bs r_1.s), .bool r_1.bad]⟩] [] [.code c24_0] _
  refine GoO.seq' c24_0e ?_
  refine GoO.region' (is := [0]) c24_1e (by kernel_rfl) ?_
  refine GoO.exec (is := [0]) (hs := [.p]) (rest := []) (ks := [0]) (env' := [(0, .pointer (some ⟨b_2, 0, none⟩))]) (H' := [⟨1, b_2, [.string (bs r_1.s), .bool r_1.bad]⟩]) (ps := []) (by kernel_rfl) trivial ?_
  refine GoO.regionEnd ?_
  refine GoO.seq' c24_2e ?_
  refine GoO.seq' c24_3e ?_
  refine GoO.region' (is := [0, 1, 2, 3, 4, 5, 6, 7, 8]) c24_4e (by kernel_rfl) ?_
  refine GoO.exec (is := [0, 1, 2, 3, 4, 5, 6, 7, 8]) (hs := [.p, .p, .p, .p, .p, .p, .b 0, .p, .p]) (rest := []) (ks := [0, 14]) (env' := [(0, .pointer (some ⟨b_2, 0, none⟩)), (14, .bool (r_1.s == ([] : List UInt8)))]) (H' := [⟨1, b_2, [.string (bs r_1.s), .bool r_1.bad]⟩]) (ps := [b_2 = b_2]) (by kernel_rfl) (And.intro rfl trivial) ?_
  refine GoO.regionEnd ?_
  refine GoO.ite' c24_5e (by kernel_rfl) (fun h3 => ?_) (fun h3 => ?_)
  · refine GoO.seq' c24_6e ?_
    refine GoO.region' (is := [0, 1, 2]) c24_7e (by kernel_rfl) ?_
    refine GoO.exec (is := [0]) (hs := [.p]) (rest := [1, 2]) (ks := [15]) (env' := [(15, .pointer (some ⟨b_2, 0, none⟩))]) (H' := [⟨1, b_2, [.string (bs r_1.s), .bool r_1.bad]⟩]) (ps := []) (by kernel_rfl) trivial ?_
    refine OpTo.go (GoO.call rfl (by kernel_rfl) (by kernel_rfl) (pack_Reader_fail_ok n r_1 b_2) [[0], [1]] [(1, 1)] [(1, 0)] [] (hks := []) (bks := []) (by kernel_rfl) (by kernel_rfl) (by kernel_rfl) (.inl rfl) rfl rfl (by kernel_rfl) (by kernel_rfl) _ (fun _ _ => rfl) _ _ (fun _ _ => rfl) (fun _ _ => rfl) (fun _ _ => by kernel_rfl) (fun _ _ => by kernel_rfl) (fun r_4 x_5 => ?_))
    refine GoO.shape (env' := [(15, .pointer (some ⟨b_2, 0, none⟩)), (16, .int .u64 r_4.1)]) (H' := [⟨1, b_2, [.string (bs r_4.2.s), .bool r_4.2.bad]⟩]) (B' := []) (ks := [15, 16]) (by kernel_rfl) (by kernel_rfl) (by kernel_rfl) ?_
    refine GoO.exec (is := [2]) (hs := [.p]) (rest := []) (ks := [2]) (env' := [(2, .int .u64 r_4.1)]) (H' := [⟨1, b_2, [.string (bs r_4.2.s), .bool r_4.2.bad]⟩]) (ps := []) (by kernel_rfl) trivial ?_
    refine GoO.regionEnd ?_
    exact GoO.ret' (h := c24_8e) (hs := []) (ps := []) (hk := [0]) (bk := []) Try.func24 () (by kernel_rfl) trivial (by kernel_rfl) (by kernel_rfl)
  · refine GoO.skip' c24_9e ?_
    refine GoO.seq' c24_10e ?_
    refine GoO.region' (is := [0, 1, 2, 3, 4, 5, 6]) c24_11e (by kernel_rfl) ?_
    refine GoO.guard (fun h6 => ?_)
    refine GoO.exec (is := [0, 1, 2, 3, 4, 5, 6]) (hs := [.p, .p, .p, .b 0, .p, .p, .p]) (rest := []) (ks := [0, 3]) (env' := [(0, .pointer (some ⟨b_2, 0, none⟩)), (3, .int .i64 (wi64 ((rdB r_1.s 0).toNat : Int)))]) (H' := [⟨1, b_2, [.string (bs r_1.s), .bool r_1.bad]⟩]) (ps := [b_2 = b_2, (0 : Int) ≤ 0, 0 < (r_1.s.length : Int)]) (by kernel_rfl) (And.intro rfl (And.intro h6.1 (And.intro h6.2 trivial))) ?_
    refine GoO.regionEnd ?_
    refine GoO.seq' c24_12e ?_
    refine GoO.seq' c24_13e ?_
    refine GoO.region' (is := [0, 1, 2, 3, 4, 5, 6, 7, 8, 9, 10, 11, 12, 13, 14, 15, 16, 17, 18, 19, 20, 21, 22, 23]) c24_14e (by kernel_rfl) ?_
    refine GoO.exec (is := [0, 1, 2]) (hs := [.p, .p, .p]) (rest := [3, 4, 5, 6, 7, 8, 9, 10, 11, 12, 13, 14, 15, 16, 17, 18, 19, 20, 21, 22, 23]) (ks := [0, 3, 25]) (env' := [(0, .pointer (some ⟨b_2, 0, none⟩)), (3, .int .i64 (wi64 ((rdB r_1.s 0).toNat : Int))), (25, .bool (decide ((wi64 ((rdB r_1.s 0).toNat : Int)) > 8)))]) (H' := [⟨1, b_2, [.string (bs r_1.s), .bool r_1.bad]⟩]) (ps := []) (by kernel_rfl) trivial ?_
    refine GoO.bsplit (t := 25) (by kernel_rfl) (fun h7 => ?_) (fun h7 => ?_)
    · refine GoO.exec (is := [3, 4, 5, 6, 7, 8, 9, 10, 11, 12, 13, 14, 15, 16, 17, 18, 19, 20, 21, 22, 23]) (hs := [.p, .p, .p, .p, .p, .p, .p, .p, .p, .p, .p, .p, .p, .p, .p, .p, .p, .p, .p, .p, .p]) (rest := []) (ks := [0, 3, 46]) (env' := [(0, .pointer (some ⟨b_2, 0, none⟩)), (3, .int .i64 (wi64 ((rdB r_1.s 0).toNat : Int))), (46, .bool true)]) (H' := [⟨1, b_2, [.string (bs r_1.s), .bool r_1.bad]⟩]) (ps := []) (by kernel_rfl) trivial ?_
      refine GoO.regionEnd ?_
      exact GoO.sub (ks := [0, 3, 46]) (hk := [0]) (bk := []) (by kernel_rfl) (by kernel_rfl) (by kernel_rfl) (pack_Reader_Num_j0_ok n r_1 b_2 w0 S0 true)
    · refine GoO.exec (is := [3, 4, 5, 6, 7, 8, 9, 10, 11, 12]) (hs := [.p, .p, .p, .p, .b 0, .p, .p, .p, .p, .p]) (rest := [13, 14, 15, 16, 17, 18, 19, 20, 21, 22, 23]) (ks := [0, 3, 35]) (env' := [(0, .pointer (some ⟨b_2, 0, none⟩)), (3, .int .i64 (wi64 ((rdB r_1.s 0).toNat : Int))), (35, .bool (decide ((wi64 ((rdB r_1.s 0).toNat : Int)) > (wi64 ((r_1.s.length : Int) - 1)))))]) (H' := [⟨1, b_2, [.string (bs r_1.s), .bool r_1.bad]⟩]) (ps := [b_2 = b_2]) (by kernel_rfl) (And.intro rfl trivial) ?_
      refine GoO.bsplit (t := 35) (by kernel_rfl) (fun h8 => ?_) (fun h8 => ?_)
      · refine GoO.exec (is := [13, 14, 15, 16, 17, 18, 19, 20, 21, 22, 23]) (hs := [.p, .p, .p, .p, .p, .p, .p, .p, .p, .p, .p]) (rest := []) (ks := [0, 3, 46]) (env' := [(0, .pointer (some ⟨b_2, 0, none⟩)), (3, .int .i64 (wi64 ((rdB r_1.s 0).toNat : Int))), (46, .bool true)]) (H' := [⟨1, b_2, [.string (bs r_1.s), .bool r_1.bad]⟩]) (ps := []) (by kernel_rfl) trivial ?_
        refine GoO.regionEnd ?_
        exact GoO.sub (ks := [0, 3, 46]) (hk := [0]) (bk := []) (by kernel_rfl) (by kernel_rfl) (by kernel_rfl) (pack_Reader_Num_j0_ok n r_1 b_2 w0 S0 true)
      · refine GoO.exec (is := [13, 14, 15]) (hs := [.p, .p, .p]) (rest := [16, 17, 18, 19, 20, 21, 22, 23]) (ks := [0, 3, 35, 38]) (env' := [(0, .pointer (some ⟨b_2, 0, none⟩)), (3, .int .i64 (wi64 ((rdB r_1.s 0).toNat : Int))), (35, .bool false), (38, .bool (decide ((wi64 ((rdB r_1.s 0).toNat : Int)) > 0)))]) (H' := [⟨1, b_2, [.string (bs r_1.s), .bool r_1.bad]⟩]) (ps := []) (by kernel_rfl) trivial ?_
        refine GoO.bsplit (t := 38) (by kernel_rfl) (fun h9 => ?_) (fun h9 => ?_)
        · refine GoO.guard (fun h10 => ?_)
          refine GoO.exec (is := [16, 17, 18, 19, 20, 21, 22, 23]) (hs := [.p, .p, .p, .b 0, .p, .p, .p, .p]) (rest := []) (ks := [0, 3, 46]) (env' := [(0, .pointer (some ⟨b_2, 0, none⟩)), (3, .int .i64 (wi64 ((rdB r_1.s 0).toNat : Int))), (46, .bool (((rdB r_1.s 1).toNat : Int) == 0))]) (H' := [⟨1, b_2, [.string (bs r_1.s), .bool r_1.bad]⟩]) (ps := [b_2 = b_2, (0 : Int) ≤ 1, 1 < (r_1.s.length : Int)]) (by kernel_rfl) (And.intro rfl (And.intro h10.1 (And.intro h10.2 trivial))) ?_
          refine GoO.regionEnd ?_
          exact GoO.sub (ks := [0, 3, 46]) (hk := [0]) (bk := []) (by kernel_rfl) (by kernel_rfl) (by kernel_rfl) (pack_Reader_Num_j0_ok n r_1 b_2 w0 S0 (((rdB r_1.s 1).toNat : Int) == 0))
        · refine GoO.exec (is := [16, 17, 18, 19, 20, 21, 22, 23]) (hs := [.p, .p, .p, .p, .p, .p, .p, .p]) (rest := []) (ks := [0, 3, 46]) (env' := [(0, .pointer (some ⟨b_2, 0, none⟩)), (3, .int .i64 (wi64 ((rdB r_1.s 0).toNat : Int))), (46, .bool false)]) (H' := [⟨1, b_2, [.string (bs r_1.s), .bool r_1.bad]⟩]) (ps := []) (by kernel_rfl) trivial ?_
          refine GoO.regionEnd ?_
          exact GoO.sub (ks := [0, 3, 46]) (hk := [0]) (bk := []) (by kernel_rfl) (by kernel_rfl) (by kernel_rfl) (pack_Reader_Num_j0_ok n r_1 b_2 w0 S0 false)

/-! (*tontine/pack.Reader).Up -/
noncomputable def c27_0 : Code := bodyOf Try.f27
noncomputable def c27_1 : Code := cdL c27_0
noncomputable def c27_2 : Code := cdR c27_0
noncomputable def c27_3 : Code := cdL c27_2
noncomputable def c27_4 : Code := cdR c27_2
noncomputable def c27_5 : Code := cdL c27_4
noncomputable def c27_6 : Code := cdL c27_5
noncomputable def c27_7 : Code := cdR c27_5
noncomputable def c27_8 : Code := cdL c27_7
noncomputable def c27_9 : Code := cdL c27_8
noncomputable def c27_10 : Code := cdR c27_8
noncomputable def c27_11 : Code := cdR c27_7
noncomputable def c27_12 : Code := cdR c27_4
noncomputable def c27_13 : Code := cdL c27_12
noncomputable def c27_14 : Code := cdR c27_12
noncomputable def r27_1 : Array Oper := cdO c27_1
noncomputable def r27_3 : Array Oper := cdO c27_3
noncomputable def r27_6 : Array Oper := cdO c27_6
noncomputable def r27_9 : Array Oper := cdO c27_9
noncomputable def r27_13 : Array Oper := cdO c27_13
theorem c27_0e : c27_0 = .seq c27_1 c27_2 := by kernel_rfl
theorem c27_1e : c27_1 = .region 0 r27_1 false := by kernel_rfl
theorem c27_2e : c27_2 = .seq c27_3 c27_4 := by kernel_rfl
theorem c27_3e : c27_3 = .region 1 r27_3 false := by kernel_rfl
theorem c27_4e : c27_4 = .seq c27_5 c27_12 := by kernel_rfl
theorem c27_5e : c27_5 = .seq c27_6 c27_7 := by kernel_rfl
theorem c27_6e : c27_6 = .region 2 r27_6 false := by kernel_rfl
theorem c27_7e : c27_7 = .cond (cdC c27_7) c27_8 c27_11 := by kernel_rfl
theorem c27_8e : c27_8 = .seq c27_9 c27_10 := by kernel_rfl
theorem c27_9e : c27_9 = .region 3 r27_9 false := by kernel_rfl
theorem c27_10e : c27_10 = .ret := by kernel_rfl
theorem c27_11e : c27_11 = .skip := by kernel_rfl
theorem c27_12e : c27_12 = .seq c27_13 c27_14 := by kernel_rfl
theorem c27_13e : c27_13 = .region 4 r27_13 false := by kernel_rfl
theorem c27_14e : c27_14 = .ret := by kernel_rfl
noncomputable def pack_Reader_Up.R (b_2 : Nat) : Pst (Int × T_pack_Reader) where
  ε := Unit
  v := fun r x => .int .i64 r.1
  H := fun r x => [⟨1, b_2, [.string (bs r.2.s), .bool r.2.bad]⟩]
  B := fun r x => []
noncomputable def pack_Reader_Up.cx (b_2 : Nat) (w0 : World) (S0 : Fam) : Cx (Int × T_pack_Reader) := ⟨Try.prog, 27, Try.f27, 21, w0, S0, [1], 1, pack_Reader_Up.R b_2⟩
theorem pack_Reader_Up_j0_ok (n : Nat) (r_4 : Int × T_pack_Reader) (b_2 : Nat) (w0 : World) (S0 : Fam) (b_6 : Bool) :
    GoO (pack_Reader_Up.cx b_2 w0 S0) [(0, .pointer (some ⟨b_2, 0, none⟩)), (5, .int .u64 r_4.1), (15, .bool b_6)] [⟨1, b_2, [.string (bs r_4.2.s), .bool r_4.2.bad]⟩] [] [.code c27_7, .code c27_12] (pack_Reader_Up.j0 n r_4 b_6) := by
  unfold pack_Reader_Up.j0
  refine GoO.ite' c27_7e (by kernel_rfl) (fun h7 => ?_) (fun h7 => ?_)
  · refine GoO.seq' c27_8e ?_
    refine GoO.region' (is := [0, 1, 2, 3]) c27_9e (by kernel_rfl) ?_
    refine GoO.exec (is := [0]) (hs := [.p]) (rest := [1, 2, 3]) (ks := [16]) (env' := [(16, .pointer (some ⟨b_2, 0, none⟩))]) (H' := [⟨1, b_2, [.string (bs r_4.2.s), .bool r_4.2.bad]⟩]) (ps := []) (by kernel_rfl) trivial ?_
    refine OpTo.go (GoO.call rfl (by kernel_rfl) (by kernel_rfl) (pack_Reader_fail_ok n r_4.2 b_2) [[0], [1]] [(1, 1)] [(1, 0)] [] (hks := []) (bks := []) (by kernel_rfl) (by kernel_rfl) (by kernel_rfl) (.inl rfl) rfl rfl (by kernel_rfl) (by kernel_rfl) _ (fun _ _ => rfl) _ _ (fun _ _ => rfl) (fun _ _ => rfl) (fun _ _ => by kernel_rfl) (fun _ _ => by kernel_rfl) (fun r_8 x_9 => ?_))
    refine GoO.shape (env' := [(16, .pointer (some ⟨b_2, 0, none⟩)), (17, .int .u64 r_8.1)]) (H' := [⟨1, b_2, [.string (bs r_8.2.s), .bool r_8.2.bad]⟩]) (B' := []) (ks := [16, 17]) (by kernel_rfl) (by kernel_rfl) (by kernel_rfl) ?_
    refine GoO.exec (is := [2, 3]) (hs := [.p, .p]) (rest := []) (ks := [4]) (env' := [(4, .int .i64 (wi64 r_8.1))]) (H' := [⟨1, b_2, [.string (bs r_8.2.s), .bool r_8.2.bad]⟩]) (ps := []) (by kernel_rfl) trivial ?_
    refine GoO.regionEnd ?_
    exact GoO.ret' (h := c27_10e) (hs := []) (ps := []) (hk := [0]) (bk := []) Try.func27 () (by kernel_rfl) trivial (by kernel_rfl) (by kernel_rfl)
  · refine GoO.skip' c27_11e ?_
    refine GoO.seq' c27_12e ?_
    refine GoO.region' (is := [0, 1, 2]) c27_13e (by kernel_rfl) ?_
    refine GoO.exec (is := [0, 1, 2]) (hs := [.p, .p, .p]) (rest := []) (ks := [4]) (env' := [(4, .int .i64 (wi64 r_4.1))]) (H' := [⟨1, b_2, [.string (bs r_4.2.s), .bool r_4.2.bad]⟩]) (ps := []) (by kernel_rfl) trivial ?_
    refine GoO.regionEnd ?_
    exact GoO.ret' (h := c27_14e) (hs := []) (ps := []) (hk := [0]) (bk := []) Try.func27 () (by kernel_rfl) trivial (by kernel_rfl) (by kernel_rfl)
theorem pack_Reader_Up_ok (n : Nat) (r_1 : T_pack_Reader) (limit_3 : Int) (b_2 : Nat) :
    Meets Try.prog 27 [.pointer (some ⟨b_2, 0, none⟩), .int .i64 limit_3] 1 [1] [⟨1, b_2, [.string (bs r_1.s), .bool r_1.bad]⟩] [] (pack_Reader_Up.f n r_1 limit_3) (pack_Reader_Up.R b_2) := by
  refine Meets.of (c := c27_0) (n := 21) Try.func27 (by kernel_rfl) (by kernel_rfl) (by kernel_rfl) fun w0 S0 => ?_
  unfold pack_Reader_Up.f
  show GoO (pack_Reader_Up.cx b_2 w0 S0) [(0, .pointer (some ⟨b_2, 0, none⟩)), (1, .int .i64 limit_3)] [⟨1, b_2, [.string (bs r_1.s), .bool r_1.bad]⟩] [] [.code c27_0] _
  refine GoO.seq' c27_0e ?_
  refine GoO.region' (is := [0]) c27_1e (by kernel_rfl) ?_
  refine GoO.exec (is := [0]) (hs := [.p]) (rest := []) (ks := [0, 1]) (env' := [(0, .pointer (some ⟨b_2, 0, none⟩)), (1, .int .i64 limit_3)]) (H' := [⟨1, b_2, [.string (bs r_1.s), .bool r_1.bad]⟩]) (ps := []) (by kernel_rfl) trivial ?_
  refine GoO.regionEnd ?_
  refine GoO.seq' c27_2e ?_
  refine GoO.region' (is := [0, 1, 2]) c27_3e (by kernel_rfl) ?_
  refine GoO.exec (is := [0]) (hs := [.p]) (rest := [1, 2]) (ks := [0, 1, 6]) (env' := [(0, .pointer (some ⟨b_2, 0, none⟩)), (1, .int .i64 limit_3), (6, .pointer (some ⟨b_2, 0, none⟩))]) (H' := [⟨1, b_2, [.string (bs r_1.s), .bool r_1.bad]⟩]) (ps := []) (by kernel_rfl) trivial ?_
  refine OpTo.go (GoO.call rfl (by kernel_rfl) (by kernel_rfl) (pack_Reader_Num_ok n r_1 b_2) [[0], [1]] [(1, 1)] [(1, 0)] [] (hks := []) (bks := []) (by kernel_rfl) (by kernel_rfl) (by kernel_rfl) (.inl rfl) rfl rfl (by kernel_rfl) (by kernel_rfl) _ (fun _ _ => rfl) _ _ (fun _ _ => rfl) (fun _ _ => rfl) (fun _ _ => by kernel_rfl) (fun _ _ => by kernel_rfl) (fun r_4 x_10 => ?_))
  refine GoO.shape (env' := [(0, .pointer (some ⟨b_2, 0, none⟩)), (1, .int .i64 limit_3), (6, .pointer (some ⟨b_2, 0, none⟩)), (7, .int .u64 r_4.1)]) (H' := [⟨1, b_2, [.string (bs r_4.2.s), .bool r_4.2.bad]⟩]) (B' := []) (ks := [0, 1, 6, 7]) (by kernel_rfl) (by kernel_rfl) (by kernel_rfl) ?_
  refine GoO.exec (is := [2]) (hs := [.p]) (rest := []) (ks := [0, 1, 5]) (env' := [(0, .pointer (some ⟨b_2, 0, none⟩)), (1, .int .i64 limit_3), (5, .int .u64 r_4.1)]) (H' := [⟨1, b_2, [.string (bs r_4.2.s), .bool r_4.2.bad]⟩]) (ps := []) (by kernel_rfl) trivial ?_
  refine GoO.regionEnd ?_
  refine GoO.seq' c27_4e ?_
  refine GoO.seq' c27_5e ?_
  refine GoO.region' (is := [0, 1, 2, 3, 4, 5, 6, 7]) c27_6e (by kernel_rfl) ?_
  refine GoO.exec (is := [0, 1, 2]) (hs := [.p, .p, .p]) (rest := [3, 4, 5, 6, 7]) (ks := [0, 1, 5, 10]) (env' := [(0, .pointer (some ⟨b_2, 0, none⟩)), (1, .int .i64 limit_3), (5, .int .u64 r_4.1), (10, .bool (decide (limit_3 < 0)))]) (H' := [⟨1, b_2, [.string (bs r_4.2.s), .bool r_4.2.bad]⟩]) (ps := []) (by kernel_rfl) trivial ?_
  refine GoO.bsplit (t := 10) (by kernel_rfl) (fun h5 => ?_) (fun h5 => ?_)
  · refine GoO.exec (is := [3, 4, 5, 6, 7]) (hs := [.p, .p, .p, .p, .p]) (rest := []) (ks := [0, 5, 15]) (env' := [(0, .pointer (some ⟨b_2, 0, none⟩)), (5, .int .u64 r_4.1), (15, .bool true)]) (H' := [⟨1, b_2, [.string (bs r_4.2.s), .bool r_4.2.bad]⟩]) (ps := []) (by kernel_rfl) trivial ?_
    refine GoO.regionEnd ?_
    exact GoO.sub (ks := [0, 5, 15]) (hk := [0]) (bk := []) (by kernel_rfl) (by kernel_rfl) (by kernel_rfl) (pack_Reader_Up_j0_ok n r_4 b_2 w0 S0 true)
  · refine GoO.exec (is := [3, 4, 5, 6, 7]) (hs := [.p, .p, .p, .p, .p]) (rest := []) (ks := [0, 5, 15]) (env' := [(0, .pointer (some ⟨b_2, 0, none⟩)), (5, .int .u64 r_4.1), (15, .bool (decide (r_4.1 > (wu64 limit_3))))]) (H' := [⟨1, b_2, [.string (bs r_4.2.s), .bool r_4.2.bad]⟩]) (ps := []) (by kernel_rfl) trivial ?_
    refine GoO.regionEnd ?_
    exact GoO.sub (ks := [0, 5, 15]) (hk := [0]) (bk := []) (by kernel_rfl) (by kernel_rfl) (by kernel_rfl) (pack_Reader_Up_j0_ok n r_4 b_2 w0 S0 (decide (r_4.1 > (wu64 limit_3))))

/-! (*tontine/pack.Reader).Text -/
noncomputable def c28_0 : Code := bodyOf Try.f28
noncomputable def c28_1 : Code := cdL c28_0
noncomputable def c28_2 : Code := cdR c28_0
noncomputable def c28_3 : Code := cdL c28_2
noncomputable def c28_4 : Code := cdR c28_2
noncomputable def c28_5 : Code := cdL c28_4
noncomputable def c28_6 : Code := cdL c28_5
noncomputable def c28_7 : Code := cdR c28_5
noncomputable def c28_8 : Code := cdL c28_7
noncomputable def c28_9 : Code := cdL c28_8
noncomputable def c28_10 : Code := cdR c28_8
noncomputable def c28_11 : Code := cdL c28_10
noncomputable def c28_12 : Code := cdR c28_10
noncomputable def c28_13 : Code := cdR c28_7
noncomputable def c28_14 : Code := cdR c28_4
noncomputable def c28_15 : Code := cdL c28_14
noncomputable def c28_16 : Code := cdR c28_14
noncomputable def c28_17 : Code := cdL c28_16
noncomputable def c28_18 : Code := cdR c28_16
noncomputable def c28_19 : Code := cdL c28_18
noncomputable def c28_20 : Code := cdR c28_18
noncomputable def r28_1 : Array Oper := cdO c28_1
noncomputable def r28_3 : Array Oper := cdO c28_3
noncomputable def r28_6 : Array Oper := cdO c28_6
noncomputable def r28_9 : Array Oper := cdO c28_9
noncomputable def r28_11 : Array Oper := cdO c28_11
noncomputable def r28_15 : Array Oper := cdO c28_15
noncomputable def r28_17 : Array Oper := cdO c28_17
noncomputable def r28_19 : Array Oper := cdO c28_19
theorem c28_0e : c28_0 = .seq c28_1 c28_2 := by kernel_rfl
theorem c28_1e : c28_1 = .region 0 r28_1 false := by kernel_rfl
theorem c28_2e : c28_2 = .seq c28_3 c28_4 := by kernel_rfl
theorem c28_3e : c28_3 = .region 1 r28_3 false := by kernel_rfl
theorem c28_4e : c28_4 = .seq c28_5 c28_14 := by kernel_rfl
theorem c28_5e : c28_5 = .seq c28_6 c28_7 := by kernel_rfl
theorem c28_6e : c28_6 = .region 2 r28_6 false := by kernel_rfl
theorem c28_7e : c28_7 = .cond (cdC c28_7) c28_8 c28_13 := by kernel_rfl
theorem c28_8e : c28_8 = .seq c28_9 c28_10 := by kernel_rfl
theorem c28_9e : c28_9 = .region 3 r28_9 false := by kernel_rfl
theorem c28_10e : c28_10 = .seq c28_11 c28_12 := by kernel_rfl
theorem c28_11e : c28_11 = .region 4 r28_11 false := by kernel_rfl
theorem c28_12e : c28_12 = .ret := by kernel_rfl
theorem c28_13e : c28_13 = .skip := by kernel_rfl
theorem c28_14e : c28_14 = .seq c28_15 c28_16 := by kernel_rfl
theorem c28_15e : c28_15 = .region 5 r28_15 false := by kernel_rfl
theorem c28_16e : c28_16 = .seq c28_17 c28_18 := by kernel_rfl
theorem c28_17e : c28_17 = .region 6 r28_17 false := by kernel_rfl
theorem c28_18e : c28_18 = .seq c28_19 c28_20 := by kernel_rfl
theorem c28_19e : c28_19 = .region 7 r28_19 false := by kernel_rfl
theorem c28_20e : c28_20 = .ret := by kernel_rfl
noncomputable def pack_Reader_Text.R (b_2 : Nat) : Pst ((List UInt8) × T_pack_Reader) where
  ε := Unit
  v := fun r x => .string (bs r.1)
  H := fun r x => [⟨1, b_2, [.string (bs r.2.s), .bool r.2.bad]⟩]
  B := fun r x => []
noncomputable def pack_Reader_Text.cx (b_2 : Nat) (w0 : World) (S0 : Fam) : Cx ((List UInt8) × T_pack_Reader) := ⟨Try.prog, 28, Try.f28, 39, w0, S0, [1], 1, pack_Reader_Text.R b_2⟩
theorem pack_Reader_Text_ok (n : Nat) (r_1 : T_pack_Reader) (limit_3 : Int) (b_2 : Nat) :
    Meets Try.prog 28 [.pointer (some ⟨b_2, 0, none⟩), .int .i64 limit_3] 1 [1] [⟨1, b_2, [.string (bs r_1.s), .bool r_1.bad]⟩] [] (pack_Reader_Text.f n r_1 limit_3) (pack_Reader_Text.R b_2) := by
  refine Meets.of (c := c28_0) (n := 39) Try.func28 (by kernel_rfl) (by kernel_rfl) (by kernel_rfl) fun w0 S0 => ?_
  unfold pack_Reader_Text.f
  show GoO (pack_Reader_Text.cx b_2 w0 S0) [(0, .pointer (some ⟨b_2, 0, none⟩)), (1, .int .i64 limit_3)] [⟨1, b_2, [.string (bs r_1.s), .bool r_1.bad]⟩] [] [.code c28_0] _
  refine GoO.seq' c28_0e ?_
  refine GoO.region' (is := [0]) c28_1e (by kernel_rfl) ?_
  refine GoO.exec (is := [0]) (hs := [.p]) (rest := []) (ks := [0, 1]) (env' := [(0, .pointer (some ⟨b_2, 0, none⟩)), (1, .int .i64 limit_3)]) (H' := [⟨1, b_2, [.string (bs r_1.s), .bool r_1.bad]⟩]) (ps := []) (by kernel_rfl) trivial ?_
  refine GoO.regionEnd ?_
  refine GoO.seq' c28_2e ?_
  refine GoO.region' (is := [0, 1, 2, 3]) c28_3e (by kernel_rfl) ?_
  refine GoO.exec (is := [0, 1]) (hs := [.p, .p]) (rest := [2, 3]) (ks := [0, 7, 8]) (env' := [(0, .pointer (some ⟨b_2, 0, none⟩)), (7, .pointer (some ⟨b_2, 0, none⟩)), (8, .int .i64 limit_3)]) (H' := [⟨1, b_2, [.string (bs r_1.s), .bool r_1.bad]⟩]) (ps := []) (by kernel_rfl) trivial ?_
  refine OpTo.go (GoO.call rfl (by kernel_rfl) (by kernel_rfl) (pack_Reader_Up_ok n r_1 limit_3 b_2) [[0], [1]] [(1, 1)] [(1, 0)] [] (hks := []) (bks := []) (by kernel_rfl) (by kernel_rfl) (by kernel_rfl) (.inl rfl) rfl rfl (by kernel_rfl) (by kernel_rfl) _ (fun _ _ => rfl) _ _ (fun _ _ => rfl) (fun _ _ => rfl) (fun _ _ => by kernel_rfl) (fun _ _ => by kernel_rfl) (fun r_4 x_10 => ?_))
  refine GoO.shape (env' := [(0, .pointer (some ⟨b_2, 0, none⟩)), (7, .pointer (some ⟨b_2, 0, none⟩)), (8, .int .i64 limit_3), (9, .int .i64 r_4.1)]) (H' := [⟨1, b_2, [.string (bs r_4.2.s), .bool r_4.2.bad]⟩]) (B' := []) (ks := [0, 7, 8, 9]) (by kernel_rfl) (by kernel_rfl) (by kernel_rfl) ?_
  refine GoO.exec (is := [3]) (hs := [.p]) (rest := []) (ks := [0, 5]) (env' := [(0, .pointer (some ⟨b_2, 0, none⟩)), (5, .int .i64 r_4.1)]) (H' := [⟨1, b_2, [.string (bs r_4.2.s), .bool r_4.2.bad]⟩]) (ps := []) (by kernel_rfl) trivial ?_
  refine GoO.regionEnd ?_
  refine GoO.seq' c28_4e ?_
  refine GoO.seq' c28_5e ?_
  refine GoO.region' (is := [0, 1, 2, 3, 4, 5, 6, 7, 8, 9, 10]) c28_6e (by kernel_rfl) ?_
  refine GoO.exec (is := [0, 1, 2, 3, 4, 5, 6, 7, 8, 9, 10]) (hs := [.p, .p, .p, .p, .p, .p, .p, .b 0, .p, .p, .p]) (rest := []) (ks := [0, 5, 20]) (env' := [(0, .pointer (some ⟨b_2, 0, none⟩)), (5, .int .i64 r_4.1), (20, .bool (decide (r_4.1 > (r_4.2.s.length : Int))))]) (H' := [⟨1, b_2, [.string (bs r_4.2.s), .bool r_4.2.bad]⟩]) (ps := [b_2 = b_2]) (by kernel_rfl) (And.intro rfl trivial) ?_
  refine GoO.regionEnd ?_
  refine GoO.ite' c28_7e (by kernel_rfl) (fun h5 => ?_) (fun h5 => ?_)
  · refine GoO.seq' c28_8e ?_
    refine GoO.region' (is := [0, 1]) c28_9e (by kernel_rfl) ?_
    refine GoO.exec (is := [0]) (hs := [.p]) (rest := [1]) (ks := [21]) (env' := [(21, .pointer (some ⟨b_2, 0, none⟩))]) (H' := [⟨1, b_2, [.string (bs r_4.2.s), .bool r_4.2.bad]⟩]) (ps := []) (by kernel_rfl) trivial ?_
    refine OpTo.go (GoO.call rfl (by kernel_rfl) (by kernel_rfl) (pack_Reader_fail_ok n r_4.2 b_2) [[0], [1]] [(1, 1)] [(1, 0)] [] (hks := []) (bks := []) (by kernel_rfl) (by kernel_rfl) (by kernel_rfl) (.inl rfl) rfl rfl (by kernel_rfl) (by kernel_rfl) _ (fun _ _ => rfl) _ _ (fun _ _ => rfl) (fun _ _ => rfl) (fun _ _ => by kernel_rfl) (fun _ _ => by kernel_rfl) (fun r_6 x_7 => ?_))
    refine GoO.shape (env' := [(21, .pointer (some ⟨b_2, 0, none⟩)), (22, .int .u64 r_6.1)]) (H' := [⟨1, b_2, [.string (bs r_6.2.s), .bool r_6.2.bad]⟩]) (B' := []) (ks := [21, 22]) (by kernel_rfl) (by kernel_rfl) (by kernel_rfl) ?_
    refine GoO.regionEnd ?_
    refine GoO.seq' c28_10e ?_
    refine GoO.region' (is := [0]) c28_11e (by kernel_rfl) ?_
    refine GoO.exec (is := [0]) (hs := [.p]) (rest := []) (ks := [4]) (env' := [(4, .string (bs []))]) (H' := [⟨1, b_2, [.string (bs r_6.2.s), .bool r_6.2.bad]⟩]) (ps := []) (by kernel_rfl) trivial ?_
    refine GoO.regionEnd ?_
    exact GoO.ret' (h := c28_12e) (hs := []) (ps := []) (hk := [0]) (bk := []) Try.func28 () (by kernel_rfl) trivial (by kernel_rfl) (by kernel_rfl)
  · refine GoO.skip' c28_13e ?_
    refine GoO.seq' c28_14e ?_
    refine GoO.region' (is := [0, 1, 2, 3, 4, 5, 6]) c28_15e (by kernel_rfl) ?_
    refine GoO.guard (fun h8 => ?_)
    refine GoO.exec (is := [0, 1, 2, 3, 4, 5, 6]) (hs := [.p, .p, .p, .b 0, .p, .p, .p]) (rest := []) (ks := [0, 5, 6]) (env' := [(0, .pointer (some ⟨b_2, 0, none⟩)), (5, .int .i64 r_4.1), (6, .string (bs (r_4.2.s.take r_4.1.toNat)))]) (H' := [⟨1, b_2, [.string (bs r_4.2.s), .bool r_4.2.bad]⟩]) (ps := [b_2 = b_2, (0 : Int) ≤ r_4.1, r_4.1 ≤ (r_4.2.s.length : Int)]) (by kernel_rfl) (And.intro rfl (And.intro h8.1 (And.intro h8.2 trivial))) ?_
    refine GoO.regionEnd ?_
    refine GoO.seq' c28_16e ?_
    refine GoO.region' (is := [0, 1, 2, 3, 4, 5, 6, 7, 8, 9]) c28_17e (by kernel_rfl) ?_
    refine GoO.guard (fun h9 => ?_)
    refine GoO.exec (is := [0, 1, 2, 3, 4, 5, 6, 7, 8, 9]) (hs := [.p, .p, .p, .p, .b 0, .p, .p, .p, .p, .b 0]) (rest := []) (ks := [6]) (env' := [(6, .string (bs (r_4.2.s.take r_4.1.toNat)))]) (H' := [⟨1, b_2, [.string (bs (r_4.2.s.drop r_4.1.toNat)), .bool r_4.2.bad]⟩]) (ps := [b_2 = b_2, (0 : Int) ≤ r_4.1, r_4.1 ≤ (r_4.2.s.length : Int), b_2 = b_2]) (by kernel_rfl) (And.intro rfl (And.intro h9.1 (And.intro h9.2 (And.intro rfl trivial)))) ?_
    refine GoO.regionEnd ?_
    refine GoO.seq' c28_18e ?_
    refine GoO.region' (is := [0, 1]) c28_19e (by kernel_rfl) ?_
    refine GoO.exec (is := [0, 1]) (hs := [.p, .p]) (rest := []) (ks := [4]) (env' := [(4, .string (bs (r_4.2.s.take r_4.1.toNat)))]) (H' := [⟨1, b_2, [.string (bs (r_4.2.s.drop r_4.1.toNat)), .bool r_4.2.bad]⟩]) (ps := []) (by kernel_rfl) trivial ?_
    refine GoO.regionEnd ?_
    exact GoO.ret' (h := c28_20e) (hs := []) (ps := []) (hk := [0]) (bk := []) Try.func28 () (by kernel_rfl) trivial (by kernel_rfl) (by kernel_rfl)

/-! (*tontine/pack.Reader).Left -/
noncomputable def c25_0 : Code := bodyOf Try.f25
noncomputable def c25_1 : Code := cdL c25_0
noncomputable def c25_2 : Code := cdR c25_0
noncomputable def c25_3 : Code := cdL c25_2
noncomputable def c25_4 : Code := cdL c25_3
noncomputable def c25_5 : Code := cdR c25_3
noncomputable def c25_9 : Code := cdR c25_5
noncomputable def c25_10 : Code := cdR c25_2
noncomputable def c25_11 : Code := cdL c25_10
noncomputable def c25_12 : Code := cdR c25_10
noncomputable def c25_6 : Code := cdL c25_5
noncomputable def r25_1 : Array Oper := cdO c25_1
noncomputable def r25_4 : Array Oper := cdO c25_4
noncomputable def r25_11 : Array Oper := cdO c25_11
theorem c25_0e : c25_0 = .seq c25_1 c25_2 := by kernel_rfl
theorem c25_1e : c25_1 = .region 0 r25_1 false := by kernel_rfl
theorem c25_2e : c25_2 = .seq c25_3 c25_10 := by kernel_rfl
theorem c25_3e : c25_3 = .seq c25_4 c25_5 := by kernel_rfl
theorem c25_4e : c25_4 = .region 1 r25_4 false := by kernel_rfl
theorem c25_5e : c25_5 = .cond (cdC c25_5) c25_6 c25_9 := by kernel_rfl
theorem c25_9e : c25_9 = .skip := by kernel_rfl
theorem c25_10e : c25_10 = .seq c25_11 c25_12 := by kernel_rfl
theorem c25_11e : c25_11 = .region 3 r25_11 true := by kernel_rfl
theorem c25_12e : c25_12 = .ret := by kernel_rfl
noncomputable def pack_Reader_Left.R (b_2 : Nat) : Pst (Int × Bool) where
  ε := Unit
  v := fun r x => .tuple ⟨[.int .i64 r.1, .bool r.2]⟩
  H := fun r x => []
  B := fun r x => []
noncomputable def pack_Reader_Left.cx (b_2 : Nat) (w0 : World) (S0 : Fam) : Cx (Int × Bool) := ⟨Try.prog, 25, Try.f25, 16, w0, S0, [], 1, pack_Reader_Left.R b_2⟩
theorem pack_Reader_Left_ok (n : Nat) (r_1 : T_pack_Reader) (b_2 : Nat) :
    Meets Try.prog 25 [.pointer (some ⟨b_2, 0, none⟩)] 1 [] [⟨1, b_2, [.string (bs r_1.s), .bool r_1.bad]⟩] [] (pack_Reader_Left.f n r_1) (pack_Reader_Left.R b_2) := by
  refine Meets.of (c := c25_0) (n := 16) Try.func25 (by kernel_rfl) (by kernel_rfl) (by kernel_rfl) fun w0 S0 => ?_
  unfold pack_Reader_Left.f
  show GoO (pack_Reader_Left.cx b_2 w0 S0) [(0, .pointer (some ⟨b_2, 0, none⟩))] [⟨1, b_2, [.string (bs r_1.s), .bool r_1.bad]⟩] [] [.code c25_0] _
  refine GoO.seq' c25_0e ?_
  refine GoO.region' (is := [0, 1]) c25_1e (by kernel_rfl) ?_
  refine GoO.exec (is := [0, 1]) (hs := [.p, .p]) (rest := []) (ks := [0]) (env' := [(0, .pointer (some ⟨b_2, 0, none⟩))]) (H' := [⟨1, b_2, [.string (bs r_1.s), .bool r_1.bad]⟩]) (ps := []) (by kernel_rfl) trivial ?_
  refine GoO.regionEnd ?_
  refine GoO.seq' c25_2e ?_
  refine GoO.seq' c25_3e ?_
  refine GoO.region' (is := [0, 1]) c25_4e (by kernel_rfl) ?_
  refine GoO.exec (is := [0, 1]) (hs := [.p, .p]) (rest := []) (ks := [0, 5]) (env' := [(0, .pointer (some ⟨b_2, 0, none⟩)), (5, .bool false)]) (H' := [⟨1, b_2, [.string (bs r_1.s), .bool r_1.bad]⟩]) (ps := []) (by kernel_rfl) trivial ?_
  refine GoO.regionEnd ?_
  refine GoO.condF c25_5e (by kernel_rfl) ?_
  refine GoO.skip' c25_9e ?_
  refine GoO.seq' c25_10e ?_
  refine GoO.draw c25_11e (by kernel_rfl) [11] [⟨1, b_2, [.string (bs r_1.s), .bool r_1.bad]⟩] [] (n := 12) (by kernel_rfl) ?_
  simp only [List.replicate]
  refine GoF.take [0, 1, 2, 3, 4, 5, 6, 7, 8, 9, 10] [.p, .p, .p, .b 0, .p, .p, .p, .p, .b 0, .p, .p] (ks := [2, 15]) (fu := 1) (li := [true, true, true, true, true, true, true, true, true, true, true, false]) (env' := [(2, .int .i64 (r_1.s.length : Int)), (15, .bool (!r_1.bad))]) (ps := [b_2 = b_2, b_2 = b_2]) (hk := [0]) (bk := []) (by kernel_rfl) (And.intro rfl (And.intro rfl trivial)) rfl rfl ?_
  refine GoF.fin1 (i := 11) (hint := .p) (ps := []) (hk := []) (bk := []) (by kernel_rfl) rfl trivial (.inl rfl) ?_
  refine GoF.done (by kernel_rfl) ?_
  exact GoO.ret' (h := c25_12e) (hs := []) (ps := []) (hk := []) (bk := []) Try.func25 () (by kernel_rfl) trivial (by kernel_rfl) (by kernel_rfl)

/-! tontine/plan.Read -/
noncomputable def c40_0 : Code := bodyOf Try.f40
noncomputable def c40_1 : Code := cdL c40_0
noncomputable def c40_2 : Code := cdR c40_0
noncomputable def c40_3 : Code := cdL c40_2
noncomputable def c40_4 : Code := cdR c40_2
noncomputable def c40_5 : Code := cdL c40_4
noncomputable def c40_6 : Code := cdL c40_5
noncomputable def c40_7 : Code := cdR c40_5
noncomputable def c40_8 : Code := cdL c40_7
noncomputable def c40_9 : Code := cdL c40_8
noncomputable def c40_10 : Code := cdL c40_9
noncomputable def c40_11 : Code := cdL c40_10
noncomputable def c40_12 : Code := cdR c40_10
noncomputable def c40_13 : Code := cdL c40_12
noncomputable def c40_14 : Code := cdR c40_12
noncomputable def c40_15 : Code := cdR c40_9
noncomputable def c40_16 : Code := cdL c40_15
noncomputable def c40_17 : Code := cdL c40_16
noncomputable def c40_18 : Code := cdL c40_17
noncomputable def c40_19 : Code := cdR c40_17
noncomputable def c40_20 : Code := cdL c40_19
noncomputable def c40_21 : Code := cdR c40_19
noncomputable def c40_22 : Code := cdL c40_21
noncomputable def c40_23 : Code := cdR c40_21
noncomputable def c40_24 : Code := cdR c40_15
noncomputable def c40_25 : Code := cdR c40_4
noncomputable def c40_26 : Code := cdL c40_25
noncomputable def c40_27 : Code := cdL c40_26
noncomputable def c40_28 : Code := cdR c40_26
noncomputable def c40_29 : Code := cdL c40_28
noncomputable def c40_30 : Code := cdR c40_28
noncomputable def c40_31 : Code := cdL c40_30
noncomputable def c40_32 : Code := cdL c40_31
noncomputable def c40_33 : Code := cdR c40_31
noncomputable def c40_34 : Code := cdR c40_30
noncomputable def c40_35 : Code := cdR c40_25
noncomputable def c40_36 : Code := cdL c40_35
noncomputable def c40_37 : Code := cdR c40_35
noncomputable def r40_1 : Array Oper := cdO c40_1
noncomputable def r40_3 : Array Oper := cdO c40_3
noncomputable def r40_6 : Array Oper := cdO c40_6
noncomputable def r40_11 : Array Oper := cdO c40_11
noncomputable def r40_18 : Array Oper := cdO c40_18
noncomputable def r40_20 : Array Oper := cdO c40_20
noncomputable def r40_22 : Array Oper := cdO c40_22
noncomputable def r40_23 : Array Oper := cdO c40_23
noncomputable def r40_24 : Array Oper := cdO c40_24
noncomputable def r40_27 : Array Oper := cdO c40_27
noncomputable def r40_29 : Array Oper := cdO c40_29
noncomputable def r40_32 : Array Oper := cdO c40_32
noncomputable def r40_36 : Array Oper := cdO c40_36
theorem c40_0e : c40_0 = .seq c40_1 c40_2 := by kernel_rfl
theorem c40_1e : c40_1 = .region 0 r40_1 false := by kernel_rfl
theorem c40_2e : c40_2 = .seq c40_3 c40_4 := by kernel_rfl
theorem c40_3e : c40_3 = .region 1 r40_3 false := by kernel_rfl
theorem c40_4e : c40_4 = .seq c40_5 c40_25 := by kernel_rfl
theorem c40_5e : c40_5 = .seq c40_6 c40_7 := by kernel_rfl
theorem c40_6e : c40_6 = .region 2 r40_6 false := by kernel_rfl
theorem c40_7e : c40_7 = .block 0 c40_8 := by kernel_rfl
theorem c40_8e : c40_8 = .loop c40_9 := by kernel_rfl
theorem c40_9e : c40_9 = .seq c40_10 c40_15 := by kernel_rfl
theorem c40_10e : c40_10 = .seq c40_11 c40_12 := by kernel_rfl
theorem c40_11e : c40_11 = .region 3 r40_11 false := by kernel_rfl
theorem c40_12e : c40_12 = .cond (cdC c40_12) c40_13 c40_14 := by kernel_rfl
theorem c40_13e : c40_13 = .skip := by kernel_rfl
theorem c40_14e : c40_14 = .exit 0 := by kernel_rfl
theorem c40_15e : c40_15 = .seq c40_16 c40_24 := by kernel_rfl
theorem c40_16e : c40_16 = .block 1 c40_17 := by kernel_rfl
theorem c40_17e : c40_17 = .seq c40_18 c40_19 := by kernel_rfl
theorem c40_18e : c40_18 = .region 5 r40_18 false := by kernel_rfl
theorem c40_19e : c40_19 = .seq c40_20 c40_21 := by kernel_rfl
theorem c40_20e : c40_20 = .region 6 r40_20 false := by kernel_rfl
theorem c40_21e : c40_21 = .seq c40_22 c40_23 := by kernel_rfl
theorem c40_22e : c40_22 = .region 7 r40_22 false := by kernel_rfl
theorem c40_23e : c40_23 = .region 8 r40_23 false := by kernel_rfl
theorem c40_24e : c40_24 = .region 4 r40_24 false := by kernel_rfl
theorem c40_25e : c40_25 = .seq c40_26 c40_35 := by kernel_rfl
theorem c40_26e : c40_26 = .seq c40_27 c40_28 := by kernel_rfl
theorem c40_27e : c40_27 = .region 9 r40_27 false := by kernel_rfl
theorem c40_28e : c40_28 = .seq c40_29 c40_30 := by kernel_rfl
theorem c40_29e : c40_29 = .region 10 r40_29 false := by kernel_rfl
theorem c40_30e : c40_30 = .cond (cdC c40_30) c40_31 c40_34 := by kernel_rfl
theorem c40_31e : c40_31 = .seq c40_32 c40_33 := by kernel_rfl
theorem c40_32e : c40_32 = .region 11 r40_32 false := by kernel_rfl
theorem c40_33e : c40_33 = .ret := by kernel_rfl
theorem c40_34e : c40_34 = .skip := by kernel_rfl
theorem c40_35e : c40_35 = .seq c40_36 c40_37 := by kernel_rfl
theorem c40_36e : c40_36 = .region 12 r40_36 false := by kernel_rfl
theorem c40_37e : c40_37 = .ret := by kernel_rfl
noncomputable def plan_Read.R (b_2 : Nat) : Pst ((List T_api_Step) × T_pack_Reader) where
  ε := Option Addr × Nat
  v := fun r x => .slice x.1 r.1.length x.2
  H := fun r x => [⟨1, b_2, [.string (bs r.2.s), .bool r.2.bad]⟩]
  B := fun r x => [Ow 2 kT_api_Step x.1 x.2 r.1]
noncomputable def plan_Read.cx (b_2 : Nat) (w0 : World) (S0 : Fam) : Cx ((List T_api_Step) × T_pack_Reader) := ⟨Try.prog, 40, Try.f40, 35, w0, S0, [1], 1, plan_Read.R b_2⟩
theorem plan_Read_l0_ok (n : Nat) (b_2 : Nat) (w0 : World) (S0 : Fam) :
    ∀ (k : Nat) (f_4 : (List UInt8)) (f_5 : Bool) (l_6 : (List T_api_Step)) (n_9 : Int) (A_7 : Option Addr) (c_8 : Nat), GoO (plan_Read.cx b_2 w0 S0) [(0, .pointer (some ⟨b_2, 0, none⟩)), (3, .slice A_7 l_6.length c_8), (4, .int .i64 n_9)] [⟨1, b_2, [.string (bs f_4), .bool f_5]⟩] [Ow 42 kT_api_Step A_7 c_8 l_6] [.code c40_9, .inLoop c40_9, .inBlock 0, .code c40_25] (plan_Read.l0 n k f_4 f_5 l_6 n_9) := by
  intro k
  induction k with
  | zero => intros; rw [plan_Read.l0.eq_1]; exact GoO.stop
  | succ k ih0 =>
    intro f_4 f_5 l_6 n_9 A_7 c_8
    rw [plan_Read.l0.eq_2]
    refine GoO.seq' c40_9e ?_
    refine GoO.seq' c40_10e ?_
    refine GoO.region' (is := [0, 1]) c40_11e (by kernel_rfl) ?_
    refine GoO.exec (is := [0, 1]) (hs := [.p, .p]) (rest := []) (ks := [0, 3, 4, 11]) (env' := [(0, .pointer (some ⟨b_2, 0, none⟩)), (3, .slice A_7 l_6.length c_8), (4, .int .i64 n_9), (11, .bool (decide (n_9 > 0)))]) (H' := [⟨1, b_2, [.string (bs f_4), .bool f_5]⟩]) (ps := []) (by kernel_rfl) trivial ?_
    refine GoO.regionEnd ?_
    refine GoO.ite' c40_12e (by kernel_rfl) (fun h10 => ?_) (fun h10 => ?_)
    · refine GoO.skip' c40_13e ?_
      refine GoO.seq' c40_15e ?_
      refine GoO.block' c40_16e ?_
      refine GoO.seq' c40_17e ?_
      refine GoO.region' (is := [0, 1, 2, 3, 4]) c40_18e (by kernel_rfl) ?_
      refine GoO.exec (is := [0]) (hs := [.p]) (rest := [1, 2, 3, 4]) (ks := [0, 3, 4, 14]) (env' := [(0, .pointer (some ⟨b_2, 0, none⟩)), (3, .slice A_7 l_6.length c_8), (4, .int .i64 n_9), (14, .pointer (some ⟨b_2, 0, none⟩))]) (H' := [⟨1, b_2, [.string (bs f_4), .bool f_5]⟩]) (ps := []) (by kernel_rfl) trivial ?_
      refine OpTo.go (GoO.call rfl (by kernel_rfl) (by kernel_rfl) (pack_Reader_Up_ok n (⟨f_4, f_5⟩ : T_pack_Reader) 3 b_2) [[0], [1]] [(1, 1)] [(1, 0)] [] (hks := []) (bks := [0]) (by kernel_rfl) (by kernel_rfl) (by kernel_rfl) (.inl rfl) rfl rfl (by kernel_rfl) (by kernel_rfl) _ (fun _ _ => rfl) _ _ (fun _ _ => rfl) (fun _ _ => rfl) (fun _ _ => by kernel_rfl) (fun _ _ => by kernel_rfl) (fun r_11 x_22 => ?_))
      refine GoO.shape (env' := [(0, .pointer (some ⟨b_2, 0, none⟩)), (3, .slice A_7 l_6.length c_8), (4, .int .i64 n_9), (14, .pointer (some ⟨b_2, 0, none⟩)), (15, .int .i64 r_11.1)]) (H' := [⟨1, b_2, [.string (bs r_11.2.s), .bool r_11.2.bad]⟩]) (B' := [Ow 42 kT_api_Step A_7 c_8 l_6]) (ks := [0, 3, 4, 14, 15]) (by kernel_rfl) (by kernel_rfl) (by kernel_rfl) ?_
      refine GoO.exec (is := [2]) (hs := [.p]) (rest := [3, 4]) (ks := [0, 3, 4, 16]) (env' := [(0, .pointer (some ⟨b_2, 0, none⟩)), (3, .slice A_7 l_6.length c_8), (4, .int .i64 n_9), (16, .agg ⟨[.int .i64 r_11.1, .string (bs []), .int .i64 0]⟩)]) (H' := [⟨1, b_2, [.string (bs r_11.2.s), .bool r_11.2.bad]⟩]) (ps := []) (by kernel_rfl) trivial ?_
      refine OpTo.go (GoO.new rfl 40 (cs := [.int .i64 0, .string (bs []), .int .i64 0]) (by kernel_rfl) _ (fun _ => rfl) (fun b_12 => ?_))
      refine GoO.exec (is := [4]) (hs := [.b 0]) (rest := []) (ks := [0, 3, 4, 5]) (env' := [(0, .pointer (some ⟨b_2, 0, none⟩)), (3, .slice A_7 l_6.length c_8), (4, .int .i64 n_9), (5, .pointer (some ⟨b_12, 0, none⟩))]) (H' := [⟨40, b_12, [.int .i64 r_11.1, .string (bs []), .int .i64 0]⟩, ⟨1, b_2, [.string (bs r_11.2.s), .bool r_11.2.bad]⟩]) (ps := [b_12 = b_12]) (by kernel_rfl) (And.intro rfl trivial) ?_
      refine GoO.regionEnd ?_
      refine GoO.seq' c40_19e ?_
      refine GoO.region' (is := [0, 1, 2, 3]) c40_20e (by kernel_rfl) ?_
      refine GoO.exec (is := [0]) (hs := [.p]) (rest := [1, 2, 3]) (ks := [0, 3, 4, 5, 17]) (env' := [(0, .pointer (some ⟨b_2, 0, none⟩)), (3, .slice A_7 l_6.length c_8), (4, .int .i64 n_9), (5, .pointer (some ⟨b_12, 0, none⟩)), (17, .pointer (some ⟨b_2, 0, none⟩))]) (H' := [⟨40, b_12, [.int .i64 r_11.1, .string (bs []), .int .i64 0]⟩, ⟨1, b_2, [.string (bs r_11.2.s), .bool r_11.2.bad]⟩]) (ps := []) (by kernel_rfl) trivial ?_
      refine OpTo.go (GoO.call rfl (by kernel_rfl) (by kernel_rfl) (pack_Reader_Text_ok n r_11.2 16 b_2) [[0], [1]] [(1, 1)] [(1, 1)] [] (hks := [0]) (bks := [0]) (by kernel_rfl) (by kernel_rfl) (by kernel_rfl) (.inl rfl) rfl rfl (by kernel_rfl) (by kernel_rfl) _ (fun _ _ => rfl) _ _ (fun _ _ => rfl) (fun _ _ => rfl) (fun _ _ => by kernel_rfl) (fun _ _ => by kernel_rfl) (fun r_13 x_21 => ?_))
      refine GoO.shape (env' := [(0, .pointer (some ⟨b_2, 0, none⟩)), (3, .slice A_7 l_6.length c_8), (4, .int .i64 n_9), (5, .pointer (some ⟨b_12, 0, none⟩)), (17, .pointer (some ⟨b_2, 0, none⟩)), (18, .string (bs r_13.1))]) (H' := [⟨1, b_2, [.string (bs r_13.2.s), .bool r_13.2.bad]⟩, ⟨40, b_12, [.int .i64 r_11.1, .string (bs []), .int .i64 0]⟩]) (B' := [Ow 42 kT_api_Step A_7 c_8 l_6]) (ks := [0, 3, 4, 5, 17, 18]) (by kernel_rfl) (by kernel_rfl) (by kernel_rfl) ?_
      refine GoO.exec (is := [2, 3]) (hs := [.p, .b 1]) (rest := []) (ks := [0, 3, 4, 5]) (env' := [(0, .pointer (some ⟨b_2, 0, none⟩)), (3, .slice A_7 l_6.length c_8), (4, .int .i64 n_9), (5, .pointer (some ⟨b_12, 0, none⟩))]) (H' := [⟨1, b_2, [.string (bs r_13.2.s), .bool r_13.2.bad]⟩, ⟨40, b_12, [.int .i64 r_11.1, .string (bs r_13.1), .int .i64 0]⟩]) (ps := [b_12 = b_12]) (by kernel_rfl) (And.intro rfl trivial) ?_
      refine GoO.regionEnd ?_
      refine GoO.seq' c40_21e ?_
      refine GoO.region' (is := [0, 1, 2, 3]) c40_22e (by kernel_rfl) ?_
      refine GoO.exec (is := [0]) (hs := [.p]) (rest := [1, 2, 3]) (ks := [0, 3, 4, 5, 20]) (env' := [(0, .pointer (some ⟨b_2, 0, none⟩)), (3, .slice A_7 l_6.length c_8), (4, .int .i64 n_9), (5, .pointer (some ⟨b_12, 0, none⟩)), (20, .pointer (some ⟨b_2, 0, none⟩))]) (H' := [⟨1, b_2, [.string (bs r_13.2.s), .bool r_13.2.bad]⟩, ⟨40, b_12, [.int .i64 r_11.1, .string (bs r_13.1), .int .i64 0]⟩]) (ps := []) (by kernel_rfl) trivial ?_
      refine OpTo.go (GoO.call rfl (by kernel_rfl) (by kernel_rfl) (pack_Reader_Up_ok n r_13.2 9 b_2) [[0], [1]] [(1, 1)] [(1, 0)] [] (hks := [1]) (bks := [0]) (by kernel_rfl) (by kernel_rfl) (by kernel_rfl) (.inl rfl) rfl rfl (by kernel_rfl) (by kernel_rfl) _ (fun _ _ => rfl) _ _ (fun _ _ => rfl) (fun _ _ => rfl) (fun _ _ => by kernel_rfl) (fun _ _ => by kernel_rfl) (fun r_14 x_20 => ?_))
      refine GoO.shape (env' := [(0, .pointer (some ⟨b_2, 0, none⟩)), (3, .slice A_7 l_6.length c_8), (4, .int .i64 n_9), (5, .pointer (some ⟨b_12, 0, none⟩)), (20, .pointer (some ⟨b_2, 0, none⟩)), (21, .int .i64 r_14.1)]) (H' := [⟨1, b_2, [.string (bs r_14.2.s), .bool r_14.2.bad]⟩, ⟨40, b_12, [.int .i64 r_11.1, .string (bs r_13.1), .int .i64 0]⟩]) (B' := [Ow 42 kT_api_Step A_7 c_8 l_6]) (ks := [0, 3, 4, 5, 20, 21]) (by kernel_rfl) (by kernel_rfl) (by kernel_rfl) ?_
      refine GoO.exec (is := [2, 3]) (hs := [.p, .b 1]) (rest := []) (ks := [0, 3, 4, 5]) (env' := [(0, .pointer (some ⟨b_2, 0, none⟩)), (3, .slice A_7 l_6.length c_8), (4, .int .i64 n_9), (5, .pointer (some ⟨b_12, 0, none⟩))]) (H' := [⟨1, b_2, [.string (bs r_14.2.s), .bool r_14.2.bad]⟩, ⟨40, b_12, [.int .i64 r_11.1, .string (bs r_13.1), .int .i64 r_14.1]⟩]) (ps := [b_12 = b_12]) (by kernel_rfl) (And.intro rfl trivial) ?_
      refine GoO.regionEnd ?_
      refine GoO.region' (is := [0, 1, 2, 3, 4]) c40_23e (by kernel_rfl) ?_
      refine GoO.exec (is := [0, 1]) (hs := [.p, .b 1]) (rest := [2, 3, 4]) (ks := [0, 4, 23, 24]) (env' := [(0, .pointer (some ⟨b_2, 0, none⟩)), (4, .int .i64 n_9), (23, .slice A_7 l_6.length c_8), (24, .agg ⟨[.int .i64 r_11.1, .string (bs r_13.1), .int .i64 r_14.1]⟩)]) (H' := [⟨1, b_2, [.string (bs r_14.2.s), .bool r_14.2.bad]⟩, ⟨40, b_12, [.int .i64 r_11.1, .string (bs r_13.1), .int .i64 r_14.1]⟩]) (ps := [b_12 = b_12]) (by kernel_rfl) (And.intro rfl trivial) ?_
      refine OpTo.go (GoO.lit (e := 41) (K := kT_api_Step) rfl (by kernel_rfl) (by kernel_rfl) (cs := [.int .i64 r_11.1, .string (bs r_13.1), .int .i64 r_14.1]) (by kernel_rfl) [(⟨r_11.1, r_13.1, r_14.1⟩ : T_api_Step)] (by kernel_rfl) (by kernel_rfl) (fun w S hB => ⟨[.int .i64 r_11.1, .string (bs r_13.1), .int .i64 r_14.1], _, rfl, rfl, rfl⟩) 41 _ (fun _ _ => rfl) (fun A_15 c_16 => ?_))
      refine GoO.guard (fun h17 => ?_)
      refine OpTo.go (GoO.appW (e := 41) (K := kT_api_Step) (A := A_7) (c := c_8) (tg := 42) (bytes := 32) (zs := [.int .i64 0, .string (bs []), .int .i64 0]) (xs := l_6) (ys := [(⟨r_11.1, r_13.1, r_14.1⟩ : T_api_Step)]) (xv := .slice A_15 [(⟨r_11.1, r_13.1, r_14.1⟩ : T_api_Step)].length c_16) (j := 1) (bk := [0]) rfl (by kernel_rfl) (by kernel_rfl) (by kernel_rfl) (by kernel_rfl) rfl (by kernel_rfl) rfl (fun w S hB => SrcIs.row (Reads.own w S (hB _ (List.mem_of_getElem? (i := 0) rfl)))) h17 rfl rfl rfl rfl _ (fun _ _ => rfl) (fun A_18 c_19 => ?_))
      refine GoO.exec (is := [4]) (hs := [.p]) (rest := []) (ks := [0, 3, 4]) (env' := [(0, .pointer (some ⟨b_2, 0, none⟩)), (3, .slice A_18 (l_6 ++ [(⟨r_11.1, r_13.1, r_14.1⟩ : T_api_Step)]).length c_19), (4, .int .i64 n_9)]) (H' := [⟨1, b_2, [.string (bs r_14.2.s), .bool r_14.2.bad]⟩, ⟨40, b_12, [.int .i64 r_11.1, .string (bs r_13.1), .int .i64 r_14.1]⟩]) (ps := []) (by kernel_rfl) trivial ?_
      refine GoO.regionEnd ?_
      refine GoO.inBlock ?_
      refine GoO.region' (is := [0, 1, 2]) c40_24e (by kernel_rfl) ?_
      refine GoO.exec (is := [0, 1, 2]) (hs := [.p, .p, .p]) (rest := []) (ks := [0, 3, 4]) (env' := [(0, .pointer (some ⟨b_2, 0, none⟩)), (3, .slice A_18 (l_6 ++ [(⟨r_11.1, r_13.1, r_14.1⟩ : T_api_Step)]).length c_19), (4, .int .i64 (wi64 (n_9 - 1)))]) (H' := [⟨1, b_2, [.string (bs r_14.2.s), .bool r_14.2.bad]⟩, ⟨40, b_12, [.int .i64 r_11.1, .string (bs r_13.1), .int .i64 r_14.1]⟩]) (ps := []) (by kernel_rfl) trivial ?_
      refine GoO.regionEnd ?_
      refine GoO.inLoop ?_
      exact GoO.sub (ks := [0, 3, 4]) (hk := [0]) (bk := [0]) (by kernel_rfl) (by kernel_rfl) (by kernel_rfl) (ih0 r_14.2.s r_14.2.bad (l_6 ++ [(⟨r_11.1, r_13.1, r_14.1⟩ : T_api_Step)]) (wi64 (n_9 - 1)) A_18 c_19)
    · refine GoO.exit' c40_14e rfl ?_
      refine GoO.seq' c40_25e ?_
      refine GoO.seq' c40_26e ?_
      refine GoO.region' (is := [0, 1, 2, 3, 4, 5, 6]) c40_27e (by kernel_rfl) ?_
      refine GoO.exec (is := [0]) (hs := [.p]) (rest := [1, 2, 3, 4, 5, 6]) (ks := [3, 28]) (env' := [(3, .slice A_7 l_6.length c_8), (28, .pointer (some ⟨b_2, 0, none⟩))]) (H' := [⟨1, b_2, [.string (bs f_4), .bool f_5]⟩]) (ps := []) (by kernel_rfl) trivial ?_
      refine OpTo.go (GoO.call rfl (by kernel_rfl) (by kernel_rfl) (pack_Reader_Left_ok n (⟨f_4, f_5⟩ : T_pack_Reader) b_2) [[0], [1]] [] [(1, 0)] [] (hks := [0]) (bks := [0]) (by kernel_rfl) (by kernel_rfl) (by kernel_rfl) (.inl rfl) rfl rfl (by kernel_rfl) (by kernel_rfl) _ (fun _ _ => rfl) _ _ (fun _ _ => rfl) (fun _ _ => rfl) (fun _ _ => by kernel_rfl) (fun _ _ => by kernel_rfl) (fun r_23 x_25 => ?_))
      refine GoO.shape (env' := [(3, .slice A_7 l_6.length c_8), (28, .pointer (some ⟨b_2, 0, none⟩)), (29, .tuple ⟨[.int .i64 r_23.1, .bool r_23.2]⟩)]) (H' := [⟨1, b_2, [.string (bs f_4), .bool f_5]⟩]) (B' := [Ow 42 kT_api_Step A_7 c_8 l_6]) (ks := [3, 28, 29]) (by kernel_rfl) (by kernel_rfl) (by kernel_rfl) ?_
      refine GoO.exec (is := [2, 3, 4, 5, 6]) (hs := [.p, .p, .p, .p, .p]) (rest := []) (ks := [3, 7]) (env' := [(3, .slice A_7 l_6.length c_8), (7, .bool r_23.2)]) (H' := [⟨1, b_2, [.string (bs f_4), .bool f_5]⟩]) (ps := []) (by kernel_rfl) trivial ?_
      refine GoO.regionEnd ?_
      refine GoO.seq' c40_28e ?_
      refine GoO.region' (is := [0, 1]) c40_29e (by kernel_rfl) ?_
      refine GoO.exec (is := [0, 1]) (hs := [.p, .p]) (rest := []) (ks := [3, 33]) (env' := [(3, .slice A_7 l_6.length c_8), (33, .bool (!r_23.2))]) (H' := [⟨1, b_2, [.string (bs f_4), .bool f_5]⟩]) (ps := []) (by kernel_rfl) trivial ?_
      refine GoO.regionEnd ?_
      refine GoO.ite' c40_30e (by kernel_rfl) (fun h24 => ?_) (fun h24 => ?_)
      · refine GoO.seq' c40_31e ?_
        refine GoO.region' (is := [0]) c40_32e (by kernel_rfl) ?_
        refine GoO.exec (is := [0]) (hs := [.p]) (rest := []) (ks := [2]) (env' := [(2, .slice none ([] : List T_api_Step).length 0)]) (H' := [⟨1, b_2, [.string (bs f_4), .bool f_5]⟩]) (ps := []) (by kernel_rfl) trivial ?_
        refine GoO.regionEnd ?_
        refine GoO.nilOwn kT_api_Step 2 ?_
        exact GoO.ret' (h := c40_33e) (hs := []) (ps := []) (hk := [0]) (bk := [0]) Try.func40 (⟨none, 0⟩ : Option Addr × Nat) (by kernel_rfl) trivial (by kernel_rfl) (by kernel_rfl)
      · refine GoO.skip' c40_34e ?_
        refine GoO.seq' c40_35e ?_
        refine GoO.region' (is := [0, 1]) c40_36e (by kernel_rfl) ?_
        refine GoO.exec (is := [0, 1]) (hs := [.p, .p]) (rest := []) (ks := [2]) (env' := [(2, .slice A_7 l_6.length c_8)]) (H' := [⟨1, b_2, [.string (bs f_4), .bool f_5]⟩]) (ps := []) (by kernel_rfl) trivial ?_
        refine GoO.regionEnd ?_
        refine GoO.retag (t := 42) (u := 2) (j := 0) (hk := [0]) (bk := []) rfl rfl rfl rfl rfl rfl (by kernel_rfl) (by kernel_rfl) ?_
        exact GoO.ret' (h := c40_37e) (hs := []) (ps := []) (hk := [0]) (bk := [0]) Try.func40 (⟨A_7, c_8⟩ : Option Addr × Nat) (by kernel_rfl) trivial (by kernel_rfl) (by kernel_rfl)
theorem plan_Read_ok (n : Nat) (r_1 : T_pack_Reader) (b_2 : Nat) :
    Meets Try.prog 40 [.pointer (some ⟨b_2, 0, none⟩)] 1 [1] [⟨1, b_2, [.string (bs r_1.s), .bool r_1.bad]⟩] [] (plan_Read.f n r_1) (plan_Read.R b_2) := by
  refine Meets.of (c := c40_0) (n := 35) Try.func40 (by kernel_rfl) (by kernel_rfl) (by kernel_rfl) fun w0 S0 => ?_
  unfold plan_Read.f
  show GoO (plan_Read.cx b_2 w0 S0) [(0, .pointer (some ⟨b_2, 0, none⟩))] [⟨1, b_2, [.string (bs r_1.s), .bool r_1.bad]⟩] [] [.code c40_0] _
  refine GoO.seq' c40_0e ?_
  refine GoO.region' (is := [0]) c40_1e (by kernel_rfl) ?_
  refine GoO.exec (is := [0]) (hs := [.p]) (rest := []) (ks := [0]) (env' := [(0, .pointer (some ⟨b_2, 0, none⟩))]) (H' := [⟨1, b_2, [.string (bs r_1.s), .bool r_1.bad]⟩]) (ps := []) (by kernel_rfl) trivial ?_
  refine GoO.regionEnd ?_
  refine GoO.seq' c40_2e ?_
  refine GoO.region' (is := [0]) c40_3e (by kernel_rfl) ?_
  refine GoO.exec (is := [0]) (hs := [.p]) (rest := []) (ks := [0, 3]) (env' := [(0, .pointer (some ⟨b_2, 0, none⟩)), (3, .slice none ([] : List T_api_Step).length 0)]) (H' := [⟨1, b_2, [.string (bs r_1.s), .bool r_1.bad]⟩]) (ps := []) (by kernel_rfl) trivial ?_
  refine GoO.regionEnd ?_
  refine GoO.seq' c40_4e ?_
  refine GoO.seq' c40_5e ?_
  refine GoO.region' (is := [0, 1, 2]) c40_6e (by kernel_rfl) ?_
  refine GoO.exec (is := [0]) (hs := [.p]) (rest := [1, 2]) (ks := [0, 3, 8]) (env' := [(0, .pointer (some ⟨b_2, 0, none⟩)), (3, .slice none ([] : List T_api_Step).length 0), (8, .pointer (some ⟨b_2, 0, none⟩))]) (H' := [⟨1, b_2, [.string (bs r_1.s), .bool r_1.bad]⟩]) (ps := []) (by kernel_rfl) trivial ?_
  refine OpTo.go (GoO.call rfl (by kernel_rfl) (by kernel_rfl) (pack_Reader_Up_ok n r_1 64 b_2) [[0], [1]] [(1, 1)] [(1, 0)] [] (hks := []) (bks := []) (by kernel_rfl) (by kernel_rfl) (by kernel_rfl) (.inl rfl) rfl rfl (by kernel_rfl) (by kernel_rfl) _ (fun _ _ => rfl) _ _ (fun _ _ => rfl) (fun _ _ => rfl) (fun _ _ => by kernel_rfl) (fun _ _ => by kernel_rfl) (fun r_3 x_26 => ?_))
  refine GoO.shape (env' := [(0, .pointer (some ⟨b_2, 0, none⟩)), (3, .slice none ([] : List T_api_Step).length 0), (8, .pointer (some ⟨b_2, 0, none⟩)), (9, .int .i64 r_3.1)]) (H' := [⟨1, b_2, [.string (bs r_3.2.s), .bool r_3.2.bad]⟩]) (B' := []) (ks := [0, 3, 8, 9]) (by kernel_rfl) (by kernel_rfl) (by kernel_rfl) ?_
  refine GoO.exec (is := [2]) (hs := [.p]) (rest := []) (ks := [0, 3, 4]) (env' := [(0, .pointer (some ⟨b_2, 0, none⟩)), (3, .slice none ([] : List T_api_Step).length 0), (4, .int .i64 r_3.1)]) (H' := [⟨1, b_2, [.string (bs r_3.2.s), .bool r_3.2.bad]⟩]) (ps := []) (by kernel_rfl) trivial ?_
  refine GoO.regionEnd ?_
  refine GoO.block' c40_7e ?_
  refine GoO.loop' c40_8e ?_
  refine GoO.nilOwn kT_api_Step 42 ?_
  exact GoO.sub (ks := [0, 3, 4]) (hk := [0]) (bk := [0]) (by kernel_rfl) (by kernel_rfl) (by kernel_rfl) (plan_Read_l0_ok n b_2 w0 S0 n r_3.2.s r_3.2.bad ([] : List T_api_Step) r_3.1 none 0)

/-! tontine/tontineref13.Same -/
noncomputable def c42_0 : Code := bodyOf Try.f42
noncomputable def c42_1 : Code := cdL c42_0
noncomputable def c42_2 : Code := cdR c42_0
noncomputable def c42_3 : Code := cdL c42_2
noncomputable def c42_4 : Code := cdL c42_3
noncomputable def c42_5 : Code := cdR c42_3
noncomputable def c42_6 : Code := cdL c42_5
noncomputable def c42_7 : Code := cdL c42_6
noncomputable def c42_8 : Code := cdR c42_6
noncomputable def c42_9 : Code := cdR c42_5
noncomputable def c42_10 : Code := cdR c42_2
noncomputable def c42_11 : Code := cdL c42_10
noncomputable def c42_12 : Code := cdL c42_11
noncomputable def c42_13 : Code := cdR c42_11
noncomputable def c42_14 : Code := cdL c42_13
noncomputable def c42_15 : Code := cdL c42_14
noncomputable def c42_16 : Code := cdL c42_15
noncomputable def c42_17 : Code := cdL c42_16
noncomputable def c42_18 : Code := cdR c42_16
noncomputable def c42_19 : Code := cdL c42_18
noncomputable def c42_20 : Code := cdR c42_18
noncomputable def c42_21 : Code := cdR c42_15
noncomputable def c42_22 : Code := cdL c42_21
noncomputable def c42_23 : Code := cdL c42_22
noncomputable def c42_24 : Code := cdL c42_23
noncomputable def c42_25 : Code := cdR c42_23
noncomputable def c42_26 : Code := cdL c42_25
noncomputable def c42_27 : Code := cdL c42_26
noncomputable def c42_28 : Code := cdR c42_26
noncomputable def c42_29 : Code := cdR c42_25
noncomputable def c42_30 : Code := cdR c42_21
noncomputable def c42_31 : Code := cdR c42_10
noncomputable def c42_32 : Code := cdL c42_31
noncomputable def c42_33 : Code := cdR c42_31
noncomputable def r42_1 : Array Oper := cdO c42_1
noncomputable def r42_4 : Array Oper := cdO c42_4
noncomputable def r42_7 : Array Oper := cdO c42_7
noncomputable def r42_12 : Array Oper := cdO c42_12
noncomputable def r42_17 : Array Oper := cdO c42_17
noncomputable def r42_24 : Array Oper := cdO c42_24
noncomputable def r42_27 : Array Oper := cdO c42_27
noncomputable def r42_30 : Array Oper := cdO c42_30
noncomputable def r42_32 : Array Oper := cdO c42_32
theorem c42_0e : c42_0 = .seq c42_1 c42_2 := by kernel_rfl
theorem c42_1e : c42_1 = .region 0 r42_1 false := by kernel_rfl
theorem c42_2e : c42_2 = .seq c42_3 c42_10 := by kernel_rfl
theorem c42_3e : c42_3 = .seq c42_4 c42_5 := by kernel_rfl
theorem c42_4e : c42_4 = .region 1 r42_4 false := by kernel_rfl
theorem c42_5e : c42_5 = .cond (cdC c42_5) c42_6 c42_9 := by kernel_rfl
theorem c42_6e : c42_6 = .seq c42_7 c42_8 := by kernel_rfl
theorem c42_7e : c42_7 = .region 2 r42_7 false := by kernel_rfl
theorem c42_8e : c42_8 = .ret := by kernel_rfl
theorem c42_9e : c42_9 = .skip := by kernel_rfl
theorem c42_10e : c42_10 = .seq c42_11 c42_31 := by kernel_rfl
theorem c42_11e : c42_11 = .seq c42_12 c42_13 := by kernel_rfl
theorem c42_12e : c42_12 = .region 3 r42_12 false := by kernel_rfl
theorem c42_13e : c42_13 = .block 0 c42_14 := by kernel_rfl
theorem c42_14e : c42_14 = .loop c42_15 := by kernel_rfl
theorem c42_15e : c42_15 = .seq c42_16 c42_21 := by kernel_rfl
theorem c42_16e : c42_16 = .seq c42_17 c42_18 := by kernel_rfl
theorem c42_17e : c42_17 = .region 4 r42_17 false := by kernel_rfl
theorem c42_18e : c42_18 = .cond (cdC c42_18) c42_19 c42_20 := by kernel_rfl
theorem c42_19e : c42_19 = .skip := by kernel_rfl
theorem c42_20e : c42_20 = .exit 0 := by kernel_rfl
theorem c42_21e : c42_21 = .seq c42_22 c42_30 := by kernel_rfl
theorem c42_22e : c42_22 = .block 1 c42_23 := by kernel_rfl
theorem c42_23e : c42_23 = .seq c42_24 c42_25 := by kernel_rfl
theorem c42_24e : c42_24 = .region 6 r42_24 true := by kernel_rfl
theorem c42_25e : c42_25 = .cond (cdC c42_25) c42_26 c42_29 := by kernel_rfl
theorem c42_26e : c42_26 = .seq c42_27 c42_28 := by kernel_rfl
theorem c42_27e : c42_27 = .region 7 r42_27 false := by kernel_rfl
theorem c42_28e : c42_28 = .ret := by kernel_rfl
theorem c42_29e : c42_29 = .skip := by kernel_rfl
theorem c42_30e : c42_30 = .region 5 r42_30 false := by kernel_rfl
theorem c42_31e : c42_31 = .seq c42_32 c42_33 := by kernel_rfl
theorem c42_32e : c42_32 = .region 8 r42_32 false := by kernel_rfl
theorem c42_33e : c42_33 = .ret := by kernel_rfl
noncomputable def tontineref13_Same.R (A_2 : Option Addr) (c_3 : Nat) (A_5 : Option Addr) (c_6 : Nat) : Pst Bool where
  ε := Unit
  v := fun r x => .bool r
  H := fun r x => []
  B := fun r x => []
noncomputable def tontineref13_Same.cx (A_2 : Option Addr) (c_3 : Nat) (A_5 : Option Addr) (c_6 : Nat) (w0 : World) (S0 : Fam) : Cx Bool := ⟨Try.prog, 42, Try.f42, 26, w0, S0, [], 0, tontineref13_Same.R A_2 c_3 A_5 c_6⟩
theorem tontineref13_Same_l0_ok (n : Nat) (a_1 : (List T_api_Step)) (b_4 : (List T_api_Step)) (A_2 : Option Addr) (c_3 : Nat) (A_5 : Option Addr) (c_6 : Nat) (w0 : World) (S0 : Fam) :
    ∀ (k : Nat) (i_8 : Int), GoO (tontineref13_Same.cx A_2 c_3 A_5 c_6 w0 S0) [(0, .slice A_2 a_1.length c_3), (1, .slice A_5 b_4.length c_6), (5, .int .i64 i_8)] [] [Rd 0 kT_api_Step A_2 c_3 a_1, Rd 0 kT_api_Step A_5 c_6 b_4] [.code c42_15, .inLoop c42_15, .inBlock 0, .code c42_31] (tontineref13_Same.l0 n a_1 b_4 k i_8) := by
  intro k
  induction k with
  | zero => intros; rw [tontineref13_Same.l0.eq_1]; exact GoO.stop
  | succ k ih0 =>
    intro i_8
    rw [tontineref13_Same.l0.eq_2]
    refine GoO.seq' c42_15e ?_
    refine GoO.seq' c42_16e ?_
    refine GoO.region' (is := [0, 1, 2, 3]) c42_17e (by kernel_rfl) ?_
    refine GoO.exec (is := [0, 1, 2, 3]) (hs := [.p, .p, .p, .p]) (rest := []) (ks := [0, 1, 5, 14]) (env' := [(0, .slice A_2 a_1.length c_3), (1, .slice A_5 b_4.length c_6), (5, .int .i64 i_8), (14, .bool (decide (i_8 < (a_1.length : Int))))]) (H' := []) (ps := []) (by kernel_rfl) trivial ?_
    refine GoO.regionEnd ?_
    refine GoO.ite' c42_18e (by kernel_rfl) (fun h9 => ?_) (fun h9 => ?_)
    · refine GoO.skip' c42_19e ?_
      refine GoO.seq' c42_21e ?_
      refine GoO.block' c42_22e ?_
      refine GoO.seq' c42_23e ?_
      refine GoO.draw c42_24e (by kernel_rfl) [] [] [Rd 0 kT_api_Step A_2 c_3 a_1, Rd 0 kT_api_Step A_5 c_6 b_4] (n := 9) (by kernel_rfl) ?_
      simp only [List.replicate]
      refine GoF.take [0, 1, 4, 5] [.p, .p, .p, .p] (ks := [0, 1, 5, 17, 18, 21, 22]) (fu := 5) (li := [true, true, false, false, true, true, false, false, false]) (env' := [(0, .slice A_2 a_1.length c_3), (1, .slice A_5 b_4.length c_6), (5, .int .i64 i_8), (17, .slice A_2 a_1.length c_3), (18, .int .i64 i_8), (21, .slice A_5 b_4.length c_6), (22, .int .i64 i_8)]) (ps := []) (hk := []) (bk := [0, 1]) (by kernel_rfl) trivial rfl rfl ?_
      refine GoF.guard (fun h10 => ?_)
      refine GoF.idx (i := 2) (hk := []) (bk := [0, 1]) (kk := .i64) (e := 41) (K := kT_api_Step) (A := A_2) (c := c_3) (xs := a_1) (iv := i_8) (j := 0) (by kernel_rfl) rfl rfl rfl (by kernel_rfl) (by kernel_rfl) (by kernel_rfl) (by kernel_rfl) rfl Reads.rd rfl h10.1 h10.2 (by decide) rfl ?_
      refine GoF.ldE (i := 3) (hk := []) (bk := [0, 1]) (K := kT_api_Step) (A := A_2) (c := c_3) (xs := a_1) (iN := i_8.toNat) (off := 0) (j := 0) (v := .agg ⟨[.int .i64 ((rdL a_1 i_8).Part), .string (bs ((rdL a_1 i_8).Name)), .int .i64 ((rdL a_1 i_8).Budget)]⟩) (by kernel_rfl) rfl rfl rfl (hK := rfl) (by kernel_rfl) rfl Reads.rd (idx_lt h10.1 h10.2) (by decide) (by kernel_rfl) rfl ?_
      refine GoF.guard (fun h11 => ?_)
      refine GoF.idx (i := 6) (hk := []) (bk := [0, 1]) (kk := .i64) (e := 41) (K := kT_api_Step) (A := A_5) (c := c_6) (xs := b_4) (iv := i_8) (j := 1) (by kernel_rfl) rfl rfl rfl (by kernel_rfl) (by kernel_rfl) (by kernel_rfl) (by kernel_rfl) rfl Reads.rd rfl h11.1 h11.2 (by decide) rfl ?_
      refine GoF.ldE (i := 7) (hk := []) (bk := [0, 1]) (K := kT_api_Step) (A := A_5) (c := c_6) (xs := b_4) (iN := i_8.toNat) (off := 0) (j := 1) (v := .agg ⟨[.int .i64 ((rdL b_4 i_8).Part), .string (bs ((rdL b_4 i_8).Name)), .int .i64 ((rdL b_4 i_8).Budget)]⟩) (by kernel_rfl) rfl rfl rfl (hK := rfl) (by kernel_rfl) rfl Reads.rd (idx_lt h11.1 h11.2) (by decide) (by kernel_rfl) rfl ?_
      refine GoF.take [8] [.p] (ks := [0, 1, 5, 25]) (fu := 0) (li := [true, true, true, true, true, true, true, true, true]) (env' := [(0, .slice A_2 a_1.length c_3), (1, .slice A_5 b_4.length c_6), (5, .int .i64 i_8), (25, .bool (!((((rdL a_1 i_8).Part) == ((rdL b_4 i_8).Part)) && ((((rdL a_1 i_8).Name) == ((rdL b_4 i_8).Name)) && ((((rdL a_1 i_8).Budget) == ((rdL b_4 i_8).Budget)) && true)))))]) (ps := []) (hk := []) (bk := [0, 1]) (by kernel_rfl) trivial rfl rfl ?_
      refine GoF.done (by kernel_rfl) ?_
      refine GoO.ite' c42_25e (by kernel_rfl) (fun h12 => ?_) (fun h12 => ?_)
      · refine GoO.seq' c42_26e ?_
        refine GoO.region' (is := [0]) c42_27e (by kernel_rfl) ?_
        refine GoO.exec (is := [0]) (hs := [.p]) (rest := []) (ks := [4]) (env' := [(4, .bool false)]) (H' := []) (ps := []) (by kernel_rfl) trivial ?_
        refine GoO.regionEnd ?_
        exact GoO.ret' (h := c42_28e) (hs := []) (ps := []) (hk := []) (bk := []) Try.func42 () (by kernel_rfl) trivial (by kernel_rfl) (by kernel_rfl)
      · refine GoO.skip' c42_29e ?_
        refine GoO.inBlock ?_
        refine GoO.region' (is := [0, 1, 2]) c42_30e (by kernel_rfl) ?_
        refine GoO.exec (is := [0, 1, 2]) (hs := [.p, .p, .p]) (rest := []) (ks := [0, 1, 5]) (env' := [(0, .slice A_2 a_1.length c_3), (1, .slice A_5 b_4.length c_6), (5, .int .i64 (wi64 (i_8 + 1)))]) (H' := []) (ps := []) (by kernel_rfl) trivial ?_
        refine GoO.regionEnd ?_
        refine GoO.inLoop ?_
        exact GoO.sub (ks := [0, 1, 5]) (hk := []) (bk := [0, 1]) (by kernel_rfl) (by kernel_rfl) (by kernel_rfl) (ih0 (wi64 (i_8 + 1)))
    · refine GoO.exit' c42_20e rfl ?_
      refine GoO.seq' c42_31e ?_
      refine GoO.region' (is := [0]) c42_32e (by kernel_rfl) ?_
      refine GoO.exec (is := [0]) (hs := [.p]) (rest := []) (ks := [4]) (env' := [(4, .bool true)]) (H' := []) (ps := []) (by kernel_rfl) trivial ?_
      refine GoO.regionEnd ?_
      exact GoO.ret' (h := c42_33e) (hs := []) (ps := []) (hk := []) (bk := []) Try.func42 () (by kernel_rfl) trivial (by kernel_rfl) (by kernel_rfl)
theorem tontineref13_Same_ok (n : Nat) (a_1 : (List T_api_Step)) (b_4 : (List T_api_Step)) (A_2 : Option Addr) (c_3 : Nat) (A_5 : Option Addr) (c_6 : Nat) :
    Meets Try.prog 42 [.slice A_2 a_1.length c_3, .slice A_5 b_4.length c_6] 0 [] [] [Rd 0 kT_api_Step A_2 c_3 a_1, Rd 0 kT_api_Step A_5 c_6 b_4] (tontineref13_Same.f n a_1 b_4) (tontineref13_Same.R A_2 c_3 A_5 c_6) := by
  refine Meets.of (c := c42_0) (n := 26) Try.func42 (by kernel_rfl) (by kernel_rfl) (by kernel_rfl) fun w0 S0 => ?_
  unfold tontineref13_Same.f
  show GoO (tontineref13_Same.cx A_2 c_3 A_5 c_6 w0 S0) [(0, .slice A_2 a_1.length c_3), (1, .slice A_5 b_4.length c_6)] [] [Rd 0 kT_api_Step A_2 c_3 a_1, Rd 0 kT_api_Step A_5 c_6 b_4] [.code c42_0] _
  refine GoO.seq' c42_0e ?_
  refine GoO.region' (is := [0]) c42_1e (by kernel_rfl) ?_
  refine GoO.exec (is := [0]) (hs := [.p]) (rest := []) (ks := [0, 1]) (env' := [(0, .slice A_2 a_1.length c_3), (1, .slice A_5 b_4.length c_6)]) (H' := []) (ps := []) (by kernel_rfl) trivial ?_
  refine GoO.regionEnd ?_
  refine GoO.seq' c42_2e ?_
  refine GoO.seq' c42_3e ?_
  refine GoO.region' (is := [0, 1, 2, 3, 4]) c42_4e (by kernel_rfl) ?_
  refine GoO.exec (is := [0, 1, 2, 3, 4]) (hs := [.p, .p, .p, .p, .p]) (rest := []) (ks := [0, 1, 10]) (env' := [(0, .slice A_2 a_1.length c_3), (1, .slice A_5 b_4.length c_6), (10, .bool ((a_1.length : Int) != (b_4.length : Int)))]) (H' := []) (ps := []) (by kernel_rfl) trivial ?_
  refine GoO.regionEnd ?_
  refine GoO.ite' c42_5e (by kernel_rfl) (fun h7 => ?_) (fun h7 => ?_)
  · refine GoO.seq' c42_6e ?_
    refine GoO.region' (is := [0]) c42_7e (by kernel_rfl) ?_
    refine GoO.exec (is := [0]) (hs := [.p]) (rest := []) (ks := [4]) (env' := [(4, .bool false)]) (H' := []) (ps := []) (by kernel_rfl) trivial ?_
    refine GoO.regionEnd ?_
    exact GoO.ret' (h := c42_8e) (hs := []) (ps := []) (hk := []) (bk := []) Try.func42 () (by kernel_rfl) trivial (by kernel_rfl) (by kernel_rfl)
  · refine GoO.skip' c42_9e ?_
    refine GoO.seq' c42_10e ?_
    refine GoO.seq' c42_11e ?_
    refine GoO.region' (is := [0]) c42_12e (by kernel_rfl) ?_
    refine GoO.exec (is := [0]) (hs := [.p]) (rest := []) (ks := [0, 1, 5]) (env' := [(0, .slice A_2 a_1.length c_3), (1, .slice A_5 b_4.length c_6), (5, .int .i64 0)]) (H' := []) (ps := []) (by kernel_rfl) trivial ?_
    refine GoO.regionEnd ?_
    refine GoO.block' c42_13e ?_
    refine GoO.loop' c42_14e ?_
    exact GoO.sub (ks := [0, 1, 5]) (hk := []) (bk := [0, 1]) (by kernel_rfl) (by kernel_rfl) (by kernel_rfl) (tontineref13_Same_l0_ok n a_1 b_4 A_2 c_3 A_5 c_6 w0 S0 n 0)

/-! (*tontine/pack.Reader).Done -/
noncomputable def c29_0 : Code := bodyOf Try.f29
noncomputable def c29_1 : Code := cdL c29_0
noncomputable def c29_2 : Code := cdR c29_0
noncomputable def c29_3 : Code := cdL c29_2
noncomputable def c29_4 : Code := cdR c29_2
noncomputable def c29_5 : Code := cdL c29_4
noncomputable def c29_6 : Code := cdR c29_4
noncomputable def r29_1 : Array Oper := cdO c29_1
noncomputable def r29_3 : Array Oper := cdO c29_3
noncomputable def r29_5 : Array Oper := cdO c29_5
theorem c29_0e : c29_0 = .seq c29_1 c29_2 := by kernel_rfl
theorem c29_1e : c29_1 = .region 0 r29_1 false := by kernel_rfl
theorem c29_2e : c29_2 = .seq c29_3 c29_4 := by kernel_rfl
theorem c29_3e : c29_3 = .region 1 r29_3 false := by kernel_rfl
theorem c29_4e : c29_4 = .seq c29_5 c29_6 := by kernel_rfl
theorem c29_5e : c29_5 = .region 2 r29_5 false := by kernel_rfl
theorem c29_6e : c29_6 = .ret := by kernel_rfl
noncomputable def pack_Reader_Done.R (b_2 : Nat) : Pst Bool where
  ε := Unit
  v := fun r x => .bool r
  H := fun r x => []
  B := fun r x => []
noncomputable def pack_Reader_Done.cx (b_2 : Nat) (w0 : World) (S0 : Fam) : Cx Bool := ⟨Try.prog, 29, Try.f29, 15, w0, S0, [], 1, pack_Reader_Done.R b_2⟩
theorem pack_Reader_Done_ok (n : Nat) (r_1 : T_pack_Reader) (b_2 : Nat) :
    Meets Try.prog 29 [.pointer (some ⟨b_2, 0, none⟩)] 1 [] [⟨1, b_2, [.string (bs r_1.s), .bool r_1.bad]⟩] [] (pack_Reader_Done.f n r_1) (pack_Reader_Done.R b_2) := by
  refine Meets.of (c := c29_0) (n := 15) Try.func29 (by kernel_rfl) (by kernel_rfl) (by kernel_rfl) fun w0 S0 => ?_
  unfold pack_Reader_Done.f
  show GoO (pack_Reader_Done.cx b_2 w0 S0) [(0, .pointer (some ⟨b_2, 0, none⟩))] [⟨1, b_2, [.string (bs r_1.s), .bool r_1.bad]⟩] [] [.code c29_0] _
  refine GoO.seq' c29_0e ?_
  refine GoO.region' (is := [0]) c29_1e (by kernel_rfl) ?_
  refine GoO.exec (is := [0]) (hs := [.p]) (rest := []) (ks := [0]) (env' := [(0, .pointer (some ⟨b_2, 0, none⟩))]) (H' := [⟨1, b_2, [.string (bs r_1.s), .bool r_1.bad]⟩]) (ps := []) (by kernel_rfl) trivial ?_
  refine GoO.regionEnd ?_
  refine GoO.seq' c29_2e ?_
  refine GoO.region' (is := [0, 1, 2, 3, 4, 5, 6]) c29_3e (by kernel_rfl) ?_
  refine GoO.exec (is := [0]) (hs := [.p]) (rest := [1, 2, 3, 4, 5, 6]) (ks := [6]) (env' := [(6, .pointer (some ⟨b_2, 0, none⟩))]) (H' := [⟨1, b_2, [.string (bs r_1.s), .bool r_1.bad]⟩]) (ps := []) (by kernel_rfl) trivial ?_
  refine OpTo.go (GoO.call rfl (by kernel_rfl) (by kernel_rfl) (pack_Reader_Left_ok n r_1 b_2) [[0], [1]] [] [(1, 0)] [] (hks := [0]) (bks := []) (by kernel_rfl) (by kernel_rfl) (by kernel_rfl) (.inl rfl) rfl rfl (by kernel_rfl) (by kernel_rfl) _ (fun _ _ => rfl) _ _ (fun _ _ => rfl) (fun _ _ => rfl) (fun _ _ => by kernel_rfl) (fun _ _ => by kernel_rfl) (fun r_3 x_5 => ?_))
  refine GoO.shape (env' := [(6, .pointer (some ⟨b_2, 0, none⟩)), (7, .tuple ⟨[.int .i64 r_3.1, .bool r_3.2]⟩)]) (H' := [⟨1, b_2, [.string (bs r_1.s), .bool r_1.bad]⟩]) (B' := []) (ks := [6, 7]) (by kernel_rfl) (by kernel_rfl) (by kernel_rfl) ?_
  refine GoO.exec (is := [2, 3, 4, 5, 6]) (hs := [.p, .p, .p, .p, .p]) (rest := []) (ks := [3, 4]) (env' := [(3, .int .i64 r_3.1), (4, .bool r_3.2)]) (H' := [⟨1, b_2, [.string (bs r_1.s), .bool r_1.bad]⟩]) (ps := []) (by kernel_rfl) trivial ?_
  refine GoO.regionEnd ?_
  refine GoO.seq' c29_4e ?_
  refine GoO.region' (is := [0, 1, 2, 3, 4, 5]) c29_5e (by kernel_rfl) ?_
  refine GoO.exec (is := [0, 1, 2]) (hs := [.p, .p, .p]) (rest := [3, 4, 5]) (ks := [4, 12]) (env' := [(4, .bool r_3.2), (12, .bool (r_3.1 == 0))]) (H' := [⟨1, b_2, [.string (bs r_1.s), .bool r_1.bad]⟩]) (ps := []) (by kernel_rfl) trivial ?_
  refine GoO.bsplit (t := 12) (by kernel_rfl) (fun h4 => ?_) (fun h4 => ?_)
  · refine GoO.exec (is := [3, 4, 5]) (hs := [.p, .p, .p]) (rest := []) (ks := [2]) (env' := [(2, .bool r_3.2)]) (H' := [⟨1, b_2, [.string (bs r_1.s), .bool r_1.bad]⟩]) (ps := []) (by kernel_rfl) trivial ?_
    refine GoO.regionEnd ?_
    exact GoO.ret' (h := c29_6e) (hs := []) (ps := []) (hk := []) (bk := []) Try.func29 () (by kernel_rfl) trivial (by kernel_rfl) (by kernel_rfl)
  · refine GoO.exec (is := [3, 4, 5]) (hs := [.p, .p, .p]) (rest := []) (ks := [2]) (env' := [(2, .bool false)]) (H' := [⟨1, b_2, [.string (bs r_1.s), .bool r_1.bad]⟩]) (ps := []) (by kernel_rfl) trivial ?_
    refine GoO.regionEnd ?_
    exact GoO.ret' (h := c29_6e) (hs := []) (ps := []) (hk := []) (bk := []) Try.func29 () (by kernel_rfl) trivial (by kernel_rfl) (by kernel_rfl)

/-! tontine/tontinelaw13.PlanBack -/
noncomputable def c13_0 : Code := bodyOf Try.f13
noncomputable def c13_1 : Code := cdL c13_0
noncomputable def c13_2 : Code := cdR c13_0
noncomputable def c13_3 : Code := cdL c13_2
noncomputable def c13_4 : Code := cdL c13_3
noncomputable def c13_5 : Code := cdR c13_3
noncomputable def c13_6 : Code := cdL c13_5
noncomputable def c13_7 : Code := cdL c13_6
noncomputable def c13_8 : Code := cdR c13_6
noncomputable def c13_9 : Code := cdR c13_5
noncomputable def c13_10 : Code := cdR c13_2
noncomputable def c13_11 : Code := cdL c13_10
noncomputable def c13_12 : Code := cdL c13_11
noncomputable def c13_13 : Code := cdR c13_11
noncomputable def c13_14 : Code := cdL c13_13
noncomputable def c13_15 : Code := cdL c13_14
noncomputable def c13_16 : Code := cdR c13_14
noncomputable def c13_17 : Code := cdR c13_13
noncomputable def c13_18 : Code := cdR c13_10
noncomputable def c13_19 : Code := cdL c13_18
noncomputable def c13_20 : Code := cdR c13_18
noncomputable def c13_21 : Code := cdL c13_20
noncomputable def c13_22 : Code := cdR c13_20
noncomputable def c13_23 : Code := cdL c13_22
noncomputable def c13_24 : Code := cdR c13_22
noncomputable def c13_25 : Code := cdL c13_24
noncomputable def c13_26 : Code := cdR c13_24
noncomputable def r13_1 : Array Oper := cdO c13_1
noncomputable def r13_4 : Array Oper := cdO c13_4
noncomputable def r13_7 : Array Oper := cdO c13_7
noncomputable def r13_12 : Array Oper := cdO c13_12
noncomputable def r13_15 : Array Oper := cdO c13_15
noncomputable def r13_19 : Array Oper := cdO c13_19
noncomputable def r13_21 : Array Oper := cdO c13_21
noncomputable def r13_23 : Array Oper := cdO c13_23
noncomputable def r13_25 : Array Oper := cdO c13_25
theorem c13_0e : c13_0 = .seq c13_1 c13_2 := by kernel_rfl
theorem c13_1e : c13_1 = .region 0 r13_1 false := by kernel_rfl
theorem c13_2e : c13_2 = .seq c13_3 c13_10 := by kernel_rfl
theorem c13_3e : c13_3 = .seq c13_4 c13_5 := by kernel_rfl
theorem c13_4e : c13_4 = .region 1 r13_4 false := by kernel_rfl
theorem c13_5e : c13_5 = .cond (cdC c13_5) c13_6 c13_9 := by kernel_rfl
theorem c13_6e : c13_6 = .seq c13_7 c13_8 := by kernel_rfl
theorem c13_7e : c13_7 = .region 2 r13_7 false := by kernel_rfl
theorem c13_8e : c13_8 = .ret := by kernel_rfl
theorem c13_9e : c13_9 = .skip := by kernel_rfl
theorem c13_10e : c13_10 = .seq c13_11 c13_18 := by kernel_rfl
theorem c13_11e : c13_11 = .seq c13_12 c13_13 := by kernel_rfl
theorem c13_12e : c13_12 = .region 3 r13_12 false := by kernel_rfl
theorem c13_13e : c13_13 = .cond (cdC c13_13) c13_14 c13_17 := by kernel_rfl
theorem c13_14e : c13_14 = .seq c13_15 c13_16 := by kernel_rfl
theorem c13_15e : c13_15 = .region 4 r13_15 false := by kernel_rfl
theorem c13_16e : c13_16 = .ret := by kernel_rfl
theorem c13_17e : c13_17 = .skip := by kernel_rfl
theorem c13_18e : c13_18 = .seq c13_19 c13_20 := by kernel_rfl
theorem c13_19e : c13_19 = .region 5 r13_19 false := by kernel_rfl
theorem c13_20e : c13_20 = .seq c13_21 c13_22 := by kernel_rfl
theorem c13_21e : c13_21 = .region 6 r13_21 false := by kernel_rfl
theorem c13_22e : c13_22 = .seq c13_23 c13_24 := by kernel_rfl
theorem c13_23e : c13_23 = .region 7 r13_23 false := by kernel_rfl
theorem c13_24e : c13_24 = .seq c13_25 c13_26 := by kernel_rfl
theorem c13_25e : c13_25 = .region 8 r13_25 false := by kernel_rfl
theorem c13_26e : c13_26 = .ret := by kernel_rfl
noncomputable def tontinelaw13_PlanBack.R (A_2 : Option Addr) (c_3 : Nat) : Pst Bool where
  ε := Unit
  v := fun r x => .bool r
  H := fun r x => []
  B := fun r x => []
noncomputable def tontinelaw13_PlanBack.cx (A_2 : Option Addr) (c_3 : Nat) (w0 : World) (S0 : Fam) : Cx Bool := ⟨Try.prog, 13, Try.f13, 25, w0, S0, [], 0, tontinelaw13_PlanBack.R A_2 c_3⟩
theorem tontinelaw13_PlanBack_ok (n : Nat) (l_1 : (List T_api_Step)) (A_2 : Option Addr) (c_3 : Nat) :
    Meets Try.prog 13 [.slice A_2 l_1.length c_3] 0 [] [] [Rd 0 kT_api_Step A_2 c_3 l_1] (tontinelaw13_PlanBack.f n l_1) (tontinelaw13_PlanBack.R A_2 c_3) := by
  refine Meets.of (c := c13_0) (n := 25) Try.func13 (by kernel_rfl) (by kernel_rfl) (by kernel_rfl) fun w0 S0 => ?_
  unfold tontinelaw13_PlanBack.f
  show GoO (tontinelaw13_PlanBack.cx A_2 c_3 w0 S0) [(0, .slice A_2 l_1.length c_3)] [] [Rd 0 kT_api_Step A_2 c_3 l_1] [.code c13_0] _
  refine GoO.seq' c13_0e ?_
  refine GoO.region' (is := [0]) c13_1e (by kernel_rfl) ?_
  refine GoO.exec (is := [0]) (hs := [.p]) (rest := []) (ks := [0]) (env' := [(0, .slice A_2 l_1.length c_3)]) (H' := []) (ps := []) (by kernel_rfl) trivial ?_
  refine GoO.regionEnd ?_
  refine GoO.seq' c13_2e ?_
  refine GoO.seq' c13_3e ?_
  refine GoO.region' (is := [0, 1]) c13_4e (by kernel_rfl) ?_
  refine OpTo.go (GoO.call rfl (by kernel_rfl) (by kernel_rfl) (tontinelaw13_begun_ok n) [[0]] [] [] [] (hks := []) (bks := [0]) (by kernel_rfl) (by kernel_rfl) (by kernel_rfl) (.inl rfl) rfl rfl (by kernel_rfl) (by kernel_rfl) _ (fun _ _ => rfl) _ _ (fun _ _ => rfl) (fun _ _ => rfl) (fun _ _ => by kernel_rfl) (fun _ _ => by kernel_rfl) (fun r_4 x_28 => ?_))
  refine GoO.shape (env' := [(0, .slice A_2 l_1.length c_3), (5, .bool r_4)]) (H' := []) (B' := [Rd 0 kT_api_Step A_2 c_3 l_1]) (ks := [0, 5]) (by kernel_rfl) (by kernel_rfl) (by kernel_rfl) ?_
  refine GoO.exec (is := [1]) (hs := [.p]) (rest := []) (ks := [0, 6]) (env' := [(0, .slice A_2 l_1.length c_3), (6, .bool (!r_4))]) (H' := []) (ps := []) (by kernel_rfl) trivial ?_
  refine GoO.regionEnd ?_
  refine GoO.ite' c13_5e (by kernel_rfl) (fun h5 => ?_) (fun h5 => ?_)
  · refine GoO.seq' c13_6e ?_
    refine GoO.region' (is := [0]) c13_7e (by kernel_rfl) ?_
    refine GoO.exec (is := [0]) (hs := [.p]) (rest := []) (ks := [2]) (env' := [(2, .bool false)]) (H' := []) (ps := []) (by kernel_rfl) trivial ?_
    refine GoO.regionEnd ?_
    exact GoO.ret' (h := c13_8e) (hs := []) (ps := []) (hk := []) (bk := []) Try.func13 () (by kernel_rfl) trivial (by kernel_rfl) (by kernel_rfl)
  · refine GoO.skip' c13_9e ?_
    refine GoO.seq' c13_10e ?_
    refine GoO.seq' c13_11e ?_
    refine GoO.region' (is := [0, 1, 2]) c13_12e (by kernel_rfl) ?_
    refine GoO.exec (is := [0]) (hs := [.p]) (rest := [1, 2]) (ks := [0, 7]) (env' := [(0, .slice A_2 l_1.length c_3), (7, .slice A_2 l_1.length c_3)]) (H' := []) (ps := []) (by kernel_rfl) trivial ?_
    refine OpTo.go (GoO.call rfl (by kernel_rfl) (by kernel_rfl) (plan_Check_ok n l_1 A_2 c_3) [[0]] [] [] [(0, 0)] (hks := []) (bks := [0]) (by kernel_rfl) (by kernel_rfl) (by kernel_rfl) (.inl rfl) rfl rfl (by kernel_rfl) (by kernel_rfl) _ (fun _ _ => rfl) _ _ (fun _ _ => rfl) (fun _ _ => rfl) (fun _ _ => by kernel_rfl) (fun _ _ => by kernel_rfl) (fun r_6 x_27 => ?_))
    refine GoO.shape (env' := [(0, .slice A_2 l_1.length c_3), (7, .slice A_2 l_1.length c_3), (8, .int .i64 r_6)]) (H' := []) (B' := [Rd 0 kT_api_Step A_2 c_3 l_1]) (ks := [0, 7, 8]) (by kernel_rfl) (by kernel_rfl) (by kernel_rfl) ?_
    refine GoO.exec (is := [2]) (hs := [.p]) (rest := []) (ks := [0, 9]) (env' := [(0, .slice A_2 l_1.length c_3), (9, .bool (r_6 != 0))]) (H' := []) (ps := []) (by kernel_rfl) trivial ?_
    refine GoO.regionEnd ?_
    refine GoO.ite' c13_13e (by kernel_rfl) (fun h7 => ?_) (fun h7 => ?_)
    · refine GoO.seq' c13_14e ?_
      refine GoO.region' (is := [0]) c13_15e (by kernel_rfl) ?_
      refine GoO.exec (is := [0]) (hs := [.p]) (rest := []) (ks := [2]) (env' := [(2, .bool true)]) (H' := []) (ps := []) (by kernel_rfl) trivial ?_
      refine GoO.regionEnd ?_
      exact GoO.ret' (h := c13_16e) (hs := []) (ps := []) (hk := []) (bk := []) Try.func13 () (by kernel_rfl) trivial (by kernel_rfl) (by kernel_rfl)
    · refine GoO.skip' c13_17e ?_
      refine GoO.seq' c13_18e ?_
      refine GoO.region' (is := [0, 1]) c13_19e (by kernel_rfl) ?_
      refine OpTo.go (GoO.new rfl 40 (cs := [.slice none ([] : List UInt8).length 0]) (by kernel_rfl) _ (fun _ => rfl) (fun b_8 => ?_))
      refine GoO.exec (is := [1]) (hs := [.p]) (rest := []) (ks := [0, 3]) (env' := [(0, .slice A_2 l_1.length c_3), (3, .pointer (some ⟨b_8, 0, none⟩))]) (H' := [⟨40, b_8, [.slice none ([] : List UInt8).length 0]⟩]) (ps := []) (by kernel_rfl) trivial ?_
      refine GoO.regionEnd ?_
      refine GoO.seq' c13_20e ?_
      refine GoO.region' (is := [0, 1, 2]) c13_21e (by kernel_rfl) ?_
      refine GoO.exec (is := [0, 1]) (hs := [.p, .p]) (rest := [2]) (ks := [0, 3, 11, 12]) (env' := [(0, .slice A_2 l_1.length c_3), (3, .pointer (some ⟨b_8, 0, none⟩)), (11, .pointer (some ⟨b_8, 0, none⟩)), (12, .slice A_2 l_1.length c_3)]) (H' := [⟨40, b_8, [.slice none ([] : List UInt8).length 0]⟩]) (ps := []) (by kernel_rfl) trivial ?_
      refine GoO.nilOwn Kd.u8 41 ?_
      refine OpTo.go (GoO.call rfl (by kernel_rfl) (by kernel_rfl) (plan_Write_ok n (⟨[]⟩ : T_pack_Writer) l_1 b_8 none 0 A_2 c_3) [[0], [40], [41]] [(40, 1), (41, 2)] [(1, 0)] [(2, 0), (0, 1)] (hks := []) (bks := [1]) (by kernel_rfl) (by kernel_rfl) (by kernel_rfl) (.inl rfl) rfl rfl (by kernel_rfl) (by kernel_rfl) _ (fun _ _ => rfl) _ _ (fun _ _ => rfl) (fun _ _ => rfl) (fun _ _ => by kernel_rfl) (fun _ _ => by kernel_rfl) (fun r_9 x_26 => ?_))
      obtain ⟨A_10, c_11⟩ := x_26
      refine GoO.shape (env' := [(0, .slice A_2 l_1.length c_3), (3, .pointer (some ⟨b_8, 0, none⟩)), (11, .pointer (some ⟨b_8, 0, none⟩)), (12, .slice A_2 l_1.length c_3), (13, .tuple ⟨[]⟩)]) (H' := [⟨40, b_8, [.slice A_10 r_9.b.length c_11]⟩]) (B' := [Ow 41 Kd.u8 A_10 c_11 r_9.b, Rd 0 kT_api_Step A_2 c_3 l_1]) (ks := [0, 3, 11, 12, 13]) (by kernel_rfl) (by kernel_rfl) (by kernel_rfl) ?_
      refine GoO.regionEnd ?_
      refine GoO.seq' c13_22e ?_
      refine GoO.region' (is := [0, 1, 2, 3]) c13_23e (by kernel_rfl) ?_
      refine GoO.exec (is := [0]) (hs := [.p]) (rest := [1, 2, 3]) (ks := [0, 14]) (env' := [(0, .slice A_2 l_1.length c_3), (14, .pointer (some ⟨b_8, 0, none⟩))]) (H' := [⟨40, b_8, [.slice A_10 r_9.b.length c_11]⟩]) (ps := []) (by kernel_rfl) trivial ?_
      refine OpTo.go (GoO.call rfl (by kernel_rfl) (by kernel_rfl) (pack_Writer_Bytes_ok n r_9 b_8 A_10 c_11) [[0], [40], [41]] [] [(1, 0)] [(2, 0)] (hks := [0]) (bks := [0, 1]) (by kernel_rfl) (by kernel_rfl) (by kernel_rfl) (.inl rfl) rfl rfl (by kernel_rfl) (by kernel_rfl) _ (fun _ _ => rfl) _ _ (fun _ _ => rfl) (fun _ _ => rfl) (fun _ _ => by kernel_rfl) (fun _ _ => by kernel_rfl) (fun r_12 x_25 => ?_))
      refine GoO.shape (env' := [(0, .slice A_2 l_1.length c_3), (14, .pointer (some ⟨b_8, 0, none⟩)), (15, .string (bs r_12))]) (H' := [⟨40, b_8, [.slice A_10 r_9.b.length c_11]⟩]) (B' := [Ow 41 Kd.u8 A_10 c_11 r_9.b, Rd 0 kT_api_Step A_2 c_3 l_1]) (ks := [0, 14, 15]) (by kernel_rfl) (by kernel_rfl) (by kernel_rfl) ?_
      refine OpTo.go (GoO.call rfl (by kernel_rfl) (by kernel_rfl) (pack_From_ok n r_12) [[0]] [(42, 1)] [] [] (hks := [0]) (bks := [0, 1]) (by kernel_rfl) (by kernel_rfl) (by kernel_rfl) (.inl rfl) rfl rfl (by kernel_rfl) (by kernel_rfl) _ (fun _ _ => rfl) _ _ (fun _ _ => rfl) (fun _ _ => rfl) (fun _ _ => by kernel_rfl) (fun _ _ => by kernel_rfl) (fun r_13 b_14 => ?_))
      refine GoO.shape (env' := [(0, .slice A_2 l_1.length c_3), (14, .pointer (some ⟨b_8, 0, none⟩)), (15, .string (bs r_12)), (16, .pointer (some ⟨b_14, 0, none⟩))]) (H' := [⟨42, b_14, [.string (bs r_13.s), .bool r_13.bad]⟩, ⟨40, b_8, [.slice A_10 r_9.b.length c_11]⟩]) (B' := [Ow 41 Kd.u8 A_10 c_11 r_9.b, Rd 0 kT_api_Step A_2 c_3 l_1]) (ks := [0, 14, 15, 16]) (by kernel_rfl) (by kernel_rfl) (by kernel_rfl) ?_
      refine GoO.exec (is := [3]) (hs := [.p]) (rest := []) (ks := [0, 4]) (env' := [(0, .slice A_2 l_1.length c_3), (4, .pointer (some ⟨b_14, 0, none⟩))]) (H' := [⟨42, b_14, [.string (bs r_13.s), .bool r_13.bad]⟩, ⟨40, b_8, [.slice A_10 r_9.b.length c_11]⟩]) (ps := []) (by kernel_rfl) trivial ?_
      refine GoO.regionEnd ?_
      refine GoO.seq' c13_24e ?_
      refine GoO.region' (is := [0, 1, 2, 3, 4, 5, 6, 7, 8]) c13_25e (by kernel_rfl) ?_
      refine GoO.exec (is := [0]) (hs := [.p]) (rest := [1, 2, 3, 4, 5, 6, 7, 8]) (ks := [0, 4, 17]) (env' := [(0, .slice A_2 l_1.length c_3), (4, .pointer (some ⟨b_14, 0, none⟩)), (17, .pointer (some ⟨b_14, 0, none⟩))]) (H' := [⟨42, b_14, [.string (bs r_13.s), .bool r_13.bad]⟩, ⟨40, b_8, [.slice A_10 r_9.b.length c_11]⟩]) (ps := []) (by kernel_rfl) trivial ?_
      refine OpTo.go (GoO.call rfl (by kernel_rfl) (by kernel_rfl) (plan_Read_ok n r_13 b_14) [[0], [42]] [(42, 1), (43, 2)] [(1, 0)] [] (hks := [1]) (bks := [0, 1]) (by kernel_rfl) (by kernel_rfl) (by kernel_rfl) (.inl rfl) rfl rfl (by kernel_rfl) (by kernel_rfl) _ (fun _ _ => rfl) _ _ (fun _ _ => rfl) (fun _ _ => rfl) (fun _ _ => by kernel_rfl) (fun _ _ => by kernel_rfl) (fun r_15 x_23 => ?_))
      obtain ⟨A_16, c_17⟩ := x_23
      refine GoO.shape (env' := [(0, .slice A_2 l_1.length c_3), (4, .pointer (some ⟨b_14, 0, none⟩)), (17, .pointer (some ⟨b_14, 0, none⟩)), (18, .slice A_16 r_15.1.length c_17)]) (H' := [⟨42, b_14, [.string (bs r_15.2.s), .bool r_15.2.bad]⟩, ⟨40, b_8, [.slice A_10 r_9.b.length c_11]⟩]) (B' := [Ow 43 kT_api_Step A_16 c_17 r_15.1, Ow 41 Kd.u8 A_10 c_11 r_9.b, Rd 0 kT_api_Step A_2 c_3 l_1]) (ks := [0, 4, 17, 18]) (by kernel_rfl) (by kernel_rfl) (by kernel_rfl) ?_
      refine GoO.exec (is := [2]) (hs := [.p]) (rest := [3, 4, 5, 6, 7, 8]) (ks := [4, 18, 19]) (env' := [(4, .pointer (some ⟨b_14, 0, none⟩)), (18, .slice A_16 r_15.1.length c_17), (19, .slice A_2 l_1.length c_3)]) (H' := [⟨42, b_14, [.string (bs r_15.2.s), .bool r_15.2.bad]⟩, ⟨40, b_8, [.slice A_10 r_9.b.length c_11]⟩]) (ps := []) (by kernel_rfl) trivial ?_
      refine GoO.view (j := 0) rfl ?_
      refine OpTo.go (GoO.call rfl (by kernel_rfl) (by kernel_rfl) (tontineref13_Same_ok n r_15.1 l_1 A_16 c_17 A_2 c_3) [[0, 43]] [] [] [(0, 3), (0, 2)] (hks := [0, 1]) (bks := [0, 1, 2]) (by kernel_rfl) (by kernel_rfl) (by kernel_rfl) (.inr (fun _ _ => by simp [tontineref13_Same.R])) rfl rfl (by kernel_rfl) (by kernel_rfl) _ (fun _ _ => rfl) _ _ (fun _ _ => rfl) (fun _ _ => rfl) (fun _ _ => by kernel_rfl) (fun _ _ => by kernel_rfl) (fun r_18 x_22 => ?_))
      refine GoO.shape (env' := [(4, .pointer (some ⟨b_14, 0, none⟩)), (18, .slice A_16 r_15.1.length c_17), (19, .slice A_2 l_1.length c_3), (20, .bool r_18)]) (H' := [⟨42, b_14, [.string (bs r_15.2.s), .bool r_15.2.bad]⟩, ⟨40, b_8, [.slice A_10 r_9.b.length c_11]⟩]) (B' := [Ow 43 kT_api_Step A_16 c_17 r_15.1, Ow 41 Kd.u8 A_10 c_11 r_9.b, Rd 0 kT_api_Step A_2 c_3 l_1]) (ks := [4, 18, 19, 20]) (by kernel_rfl) (by kernel_rfl) (by kernel_rfl) ?_
      refine GoO.exec (is := [4]) (hs := [.p]) (rest := [5, 6, 7, 8]) (ks := [4, 21]) (env' := [(4, .pointer (some ⟨b_14, 0, none⟩)), (21, .bool r_18)]) (H' := [⟨42, b_14, [.string (bs r_15.2.s), .bool r_15.2.bad]⟩, ⟨40, b_8, [.slice A_10 r_9.b.length c_11]⟩]) (ps := []) (by kernel_rfl) trivial ?_
      refine GoO.bsplit (t := 21) (by kernel_rfl) (fun h19 => ?_) (fun h19 => ?_)
      · refine GoO.exec (is := [5]) (hs := [.p]) (rest := [6, 7, 8]) (ks := [21, 22]) (env' := [(21, .bool true), (22, .pointer (some ⟨b_14, 0, none⟩))]) (H' := [⟨42, b_14, [.string (bs r_15.2.s), .bool r_15.2.bad]⟩, ⟨40, b_8, [.slice A_10 r_9.b.length c_11]⟩]) (ps := []) (by kernel_rfl) trivial ?_
        refine OpTo.go (GoO.call rfl (by kernel_rfl) (by kernel_rfl) (pack_Reader_Done_ok n r_15.2 b_14) [[0], [42]] [] [(1, 0)] [] (hks := [0, 1]) (bks := [0, 1, 2]) (by kernel_rfl) (by kernel_rfl) (by kernel_rfl) (.inl rfl) rfl rfl (by kernel_rfl) (by kernel_rfl) _ (fun _ _ => rfl) _ _ (fun _ _ => rfl) (fun _ _ => rfl) (fun _ _ => by kernel_rfl) (fun _ _ => by kernel_rfl) (fun r_20 x_21 => ?_))
        refine GoO.shape (env' := [(21, .bool true), (22, .pointer (some ⟨b_14, 0, none⟩)), (23, .bool r_20)]) (H' := [⟨42, b_14, [.string (bs r_15.2.s), .bool r_15.2.bad]⟩, ⟨40, b_8, [.slice A_10 r_9.b.length c_11]⟩]) (B' := [Ow 43 kT_api_Step A_16 c_17 r_15.1, Ow 41 Kd.u8 A_10 c_11 r_9.b, Rd 0 kT_api_Step A_2 c_3 l_1]) (ks := [21, 22, 23]) (by kernel_rfl) (by kernel_rfl) (by kernel_rfl) ?_
        refine GoO.exec (is := [7, 8]) (hs := [.p, .p]) (rest := []) (ks := [2]) (env' := [(2, .bool r_20)]) (H' := [⟨42, b_14, [.string (bs r_15.2.s), .bool r_15.2.bad]⟩, ⟨40, b_8, [.slice A_10 r_9.b.length c_11]⟩]) (ps := []) (by kernel_rfl) trivial ?_
        refine GoO.regionEnd ?_
        exact GoO.ret' (h := c13_26e) (hs := []) (ps := []) (hk := []) (bk := []) Try.func13 () (by kernel_rfl) trivial (by kernel_rfl) (by kernel_rfl)
      · refine GoO.exec (is := [5, 6, 7, 8]) (hs := [.p, .p, .p, .p]) (rest := []) (ks := [2]) (env' := [(2, .bool false)]) (H' := [⟨42, b_14, [.string (bs r_15.2.s), .bool r_15.2.bad]⟩, ⟨40, b_8, [.slice A_10 r_9.b.length c_11]⟩]) (ps := []) (by kernel_rfl) trivial ?_
        refine GoO.regionEnd ?_
        exact GoO.ret' (h := c13_26e) (hs := []) (ps := []) (hk := []) (bk := []) Try.func13 () (by kernel_rfl) trivial (by kernel_rfl) (by kernel_rfl)
end Go.GL
