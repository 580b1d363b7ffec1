import Derived.Test.YtapiconoooncgaaKindsT1
import Derived.Test.YtapiconoooncgaaProg
set_option linter.unusedVariables false
set_option linter.unusedSimpArgs false
set_option maxRecDepth 100000
namespace Go.GL
open Go Go.Proofs

/-! tontine/crc.Add -/
noncomputable def c16_0 : Code := bodyOf Try.f16
noncomputable def c16_1 : Code := cdL c16_0
noncomputable def c16_2 : Code := cdR c16_0
noncomputable def c16_3 : Code := cdL c16_2
noncomputable def c16_4 : Code := cdR c16_2
noncomputable def c16_5 : Code := cdL c16_4
noncomputable def c16_6 : Code := cdL c16_5
noncomputable def c16_7 : Code := cdR c16_5
noncomputable def c16_8 : Code := cdL c16_7
noncomputable def c16_9 : Code := cdL c16_8
noncomputable def c16_10 : Code := cdL c16_9
noncomputable def c16_11 : Code := cdR c16_9
noncomputable def c16_12 : Code := cdL c16_11
noncomputable def c16_13 : Code := cdL c16_12
noncomputable def c16_14 : Code := cdR c16_12
noncomputable def c16_15 : Code := cdR c16_11
noncomputable def c16_16 : Code := cdL c16_15
noncomputable def c16_17 : Code := cdL c16_16
noncomputable def c16_18 : Code := cdL c16_17
noncomputable def c16_19 : Code := cdR c16_17
noncomputable def c16_20 : Code := cdL c16_19
noncomputable def c16_21 : Code := cdR c16_19
noncomputable def c16_22 : Code := cdL c16_21
noncomputable def c16_23 : Code := cdR c16_21
noncomputable def c16_24 : Code := cdL c16_23
noncomputable def c16_25 : Code := cdL c16_24
noncomputable def c16_26 : Code := cdL c16_25
noncomputable def c16_27 : Code := cdR c16_25
noncomputable def c16_28 : Code := cdL c16_27
noncomputable def c16_29 : Code := cdL c16_28
noncomputable def c16_30 : Code := cdR c16_28
noncomputable def c16_31 : Code := cdR c16_27
noncomputable def c16_32 : Code := cdL c16_31
noncomputable def c16_33 : Code := cdL c16_32
noncomputable def c16_34 : Code := cdR c16_31
noncomputable def c16_35 : Code := cdR c16_15
noncomputable def c16_36 : Code := cdR c16_4
noncomputable def c16_37 : Code := cdL c16_36
noncomputable def c16_38 : Code := cdR c16_36
noncomputable def r16_1 : Array Oper := cdO c16_1
noncomputable def r16_3 : Array Oper := cdO c16_3
noncomputable def r16_6 : Array Oper := cdO c16_6
noncomputable def r16_10 : Array Oper := cdO c16_10
noncomputable def r16_18 : Array Oper := cdO c16_18
noncomputable def r16_20 : Array Oper := cdO c16_20
noncomputable def r16_22 : Array Oper := cdO c16_22
noncomputable def r16_26 : Array Oper := cdO c16_26
noncomputable def r16_33 : Array Oper := cdO c16_33
noncomputable def r16_34 : Array Oper := cdO c16_34
noncomputable def r16_35 : Array Oper := cdO c16_35
noncomputable def r16_37 : Array Oper := cdO c16_37
theorem c16_0e : c16_0 = .seq c16_1 c16_2 := by kernel_rfl
theorem c16_1e : c16_1 = .region 0 r16_1 false := by kernel_rfl
theorem c16_2e : c16_2 = .seq c16_3 c16_4 := by kernel_rfl
theorem c16_3e : c16_3 = .region 1 r16_3 false := by kernel_rfl
theorem c16_4e : c16_4 = .seq c16_5 c16_36 := by kernel_rfl
theorem c16_5e : c16_5 = .seq c16_6 c16_7 := by kernel_rfl
theorem c16_6e : c16_6 = .region 2 r16_6 false := by kernel_rfl
theorem c16_7e : c16_7 = .block 0 c16_8 := by kernel_rfl
theorem c16_8e : c16_8 = .loop c16_9 := by kernel_rfl
theorem c16_9e : c16_9 = .seq c16_10 c16_11 := by kernel_rfl
theorem c16_10e : c16_10 = .region 3 r16_10 false := by kernel_rfl
theorem c16_11e : c16_11 = .seq c16_12 c16_15 := by kernel_rfl
theorem c16_12e : c16_12 = .cond (cdC c16_12) c16_13 c16_14 := by kernel_rfl
theorem c16_13e : c16_13 = .skip := by kernel_rfl
theorem c16_14e : c16_14 = .exit 0 := by kernel_rfl
theorem c16_15e : c16_15 = .seq c16_16 c16_35 := by kernel_rfl
theorem c16_16e : c16_16 = .block 1 c16_17 := by kernel_rfl
theorem c16_17e : c16_17 = .seq c16_18 c16_19 := by kernel_rfl
theorem c16_18e : c16_18 = .region 4 r16_18 false := by kernel_rfl
theorem c16_19e : c16_19 = .seq c16_20 c16_21 := by kernel_rfl
theorem c16_20e : c16_20 = .region 5 r16_20 false := by kernel_rfl
theorem c16_21e : c16_21 = .seq c16_22 c16_23 := by kernel_rfl
theorem c16_22e : c16_22 = .region 6 r16_22 false := by kernel_rfl
theorem c16_23e : c16_23 = .block 2 c16_24 := by kernel_rfl
theorem c16_24e : c16_24 = .loop c16_25 := by kernel_rfl
theorem c16_25e : c16_25 = .seq c16_26 c16_27 := by kernel_rfl
theorem c16_26e : c16_26 = .region 7 r16_26 false := by kernel_rfl
theorem c16_27e : c16_27 = .seq c16_28 c16_31 := by kernel_rfl
theorem c16_28e : c16_28 = .cond (cdC c16_28) c16_29 c16_30 := by kernel_rfl
theorem c16_29e : c16_29 = .skip := by kernel_rfl
theorem c16_30e : c16_30 = .exit 2 := by kernel_rfl
theorem c16_31e : c16_31 = .seq c16_32 c16_34 := by kernel_rfl
theorem c16_32e : c16_32 = .block 3 c16_33 := by kernel_rfl
theorem c16_33e : c16_33 = .region 8 r16_33 false := by kernel_rfl
theorem c16_34e : c16_34 = .region 9 r16_34 false := by kernel_rfl
theorem c16_35e : c16_35 = .region 10 r16_35 false := by kernel_rfl
theorem c16_36e : c16_36 = .seq c16_37 c16_38 := by kernel_rfl
theorem c16_37e : c16_37 = .region 11 r16_37 false := by kernel_rfl
theorem c16_38e : c16_38 = .ret := by kernel_rfl
noncomputable def crc_Add.R (A_3 : Option Addr) (c_4 : Nat) : Pst Int where
  ε := Unit
  v := fun r x => .int .u32 r
  H := fun r x => []
  B := fun r x => []
noncomputable def crc_Add.cx (A_3 : Option Addr) (c_4 : Nat) (w0 : World) (S0 : Fam) : Cx Int := ⟨Try.prog, 16, Try.f16, 33, w0, S0, [], 0, crc_Add.R A_3 c_4⟩
theorem crc_Add_l1_ok (n : Nat) (L0 : Int → Int → Option Int) (b_2 : (List UInt8)) (x_5 : Int) (x_6 : Int) (A_3 : Option Addr) (c_4 : Nat) (w0 : World) (S0 : Fam) (ih0 : ∀ (x_5 : Int) (x_6 : Int), GoO (crc_Add.cx A_3 c_4 w0 S0) [(5, .int .u32 x_5), (10, .slice A_3 b_2.length c_4), (11, .int .i64 (b_2.length : Int)), (12, .int .i64 x_6)] [] [Rd 0 Kd.u8 A_3 c_4 b_2] [.code c16_9, .inLoop c16_9, .inBlock 0, .code c16_36] (L0 x_5 x_6)) :
    ∀ (k : Nat) (x_9 : Int) (x_10 : Int), GoO (crc_Add.cx A_3 c_4 w0 S0) [(5, .int .u32 x_9), (10, .slice A_3 b_2.length c_4), (11, .int .i64 (b_2.length : Int)), (12, .int .i64 x_6), (20, .int .i64 x_10)] [] [Rd 0 Kd.u8 A_3 c_4 b_2] [.code c16_25, .inLoop c16_25, .inBlock 2, .inBlock 1, .code c16_35, .inLoop c16_9, .inBlock 0, .code c16_36] (crc_Add.l1 n L0 x_6 k x_9 x_10) := by
  intro k
  induction k with
  | zero => intros; rw [crc_Add.l1.eq_1]; exact GoO.stop
  | succ k ih1 =>
    intro x_9 x_10
    rw [crc_Add.l1.eq_2]
    refine GoO.seq' c16_25e ?_
    refine GoO.region' (is := [0]) c16_26e (by kernel_rfl) ?_
    refine GoO.exec (is := [0]) (hs := [.p]) (rest := []) (ks := [5, 10, 11, 12, 20, 21]) (env' := [(5, .int .u32 x_9), (10, .slice A_3 b_2.length c_4), (11, .int .i64 (b_2.length : Int)), (12, .int .i64 x_6), (20, .int .i64 x_10), (21, .bool (decide (x_10 < 8)))]) (H' := []) (ps := []) (by kernel_rfl) trivial ?_
    refine GoO.regionEnd ?_
    refine GoO.seq' c16_27e ?_
    refine GoO.ite' c16_28e (by kernel_rfl) (fun h11 => ?_) (fun h11 => ?_)
    · refine GoO.skip' c16_29e ?_
      refine GoO.seq' c16_31e ?_
      refine GoO.block' c16_32e ?_
      refine GoO.region' (is := [0, 1, 2, 3, 4, 5, 6, 7]) c16_33e (by kernel_rfl) ?_
      refine GoO.exec (is := [0, 1, 2, 3, 4, 5, 6, 7]) (hs := [.p, .p, .p, .p, .p, .p, .p, .p]) (rest := []) (ks := [5, 10, 11, 12, 20]) (env' := [(5, .int .u32 (bXor .u32 (shR .u32 x_9 1) (bAnd .u32 2197175160 (wu32 (0 - (bAnd .u32 x_9 1)))))), (10, .slice A_3 b_2.length c_4), (11, .int .i64 (b_2.length : Int)), (12, .int .i64 x_6), (20, .int .i64 x_10)]) (H' := []) (ps := [(0 : Int) ≤ 1]) (by kernel_rfl) (And.intro (by decide) trivial) ?_
      refine GoO.regionEnd ?_
      refine GoO.inBlock ?_
      refine GoO.region' (is := [0, 1]) c16_34e (by kernel_rfl) ?_
      refine GoO.exec (is := [0, 1]) (hs := [.p, .p]) (rest := []) (ks := [5, 10, 11, 12, 20]) (env' := [(5, .int .u32 (bXor .u32 (shR .u32 x_9 1) (bAnd .u32 2197175160 (wu32 (0 - (bAnd .u32 x_9 1)))))), (10, .slice A_3 b_2.length c_4), (11, .int .i64 (b_2.length : Int)), (12, .int .i64 x_6), (20, .int .i64 (wi64 (x_10 + 1)))]) (H' := []) (ps := []) (by kernel_rfl) trivial ?_
      refine GoO.regionEnd ?_
      refine GoO.inLoop ?_
      exact GoO.sub (ks := [5, 10, 11, 12, 20]) (hk := []) (bk := [0]) (by kernel_rfl) (by kernel_rfl) (by kernel_rfl) (ih1 (bXor .u32 (shR .u32 x_9 1) (bAnd .u32 2197175160 (wu32 (0 - (bAnd .u32 x_9 1))))) (wi64 (x_10 + 1)))
    · refine GoO.exit' c16_30e rfl ?_
      refine GoO.inBlock ?_
      refine GoO.region' (is := [0, 1]) c16_35e (by kernel_rfl) ?_
      refine GoO.exec (is := [0, 1]) (hs := [.p, .p]) (rest := []) (ks := [5, 10, 11, 12]) (env' := [(5, .int .u32 x_9), (10, .slice A_3 b_2.length c_4), (11, .int .i64 (b_2.length : Int)), (12, .int .i64 (wi64 (x_6 + 1)))]) (H' := []) (ps := []) (by kernel_rfl) trivial ?_
      refine GoO.regionEnd ?_
      refine GoO.inLoop ?_
      exact GoO.sub (ks := [5, 10, 11, 12]) (hk := []) (bk := [0]) (by kernel_rfl) (by kernel_rfl) (by kernel_rfl) (ih0 x_9 (wi64 (x_6 + 1)))
theorem crc_Add_l0_ok (n : Nat) (b_2 : (List UInt8)) (A_3 : Option Addr) (c_4 : Nat) (w0 : World) (S0 : Fam) :
    ∀ (k : Nat) (x_5 : Int) (x_6 : Int), GoO (crc_Add.cx A_3 c_4 w0 S0) [(5, .int .u32 x_5), (10, .slice A_3 b_2.length c_4), (11, .int .i64 (b_2.length : Int)), (12, .int .i64 x_6)] [] [Rd 0 Kd.u8 A_3 c_4 b_2] [.code c16_9, .inLoop c16_9, .inBlock 0, .code c16_36] (crc_Add.l0 n b_2 k x_5 x_6) := by
  intro k
  induction k with
  | zero => intros; rw [crc_Add.l0.eq_1]; exact GoO.stop
  | succ k ih0 =>
    intro x_5 x_6
    rw [crc_Add.l0.eq_2]
    refine GoO.seq' c16_9e ?_
    refine GoO.region' (is := [0]) c16_10e (by kernel_rfl) ?_
    refine GoO.exec (is := [0]) (hs := [.p]) (rest := []) (ks := [5, 10, 11, 12, 13]) (env' := [(5, .int .u32 x_5), (10, .slice A_3 b_2.length c_4), (11, .int .i64 (b_2.length : Int)), (12, .int .i64 x_6), (13, .bool (decide (x_6 < (b_2.length : Int))))]) (H' := []) (ps := []) (by kernel_rfl) trivial ?_
    refine GoO.regionEnd ?_
    refine GoO.seq' c16_11e ?_
    refine GoO.ite' c16_12e (by kernel_rfl) (fun h7 => ?_) (fun h7 => ?_)
    · refine GoO.skip' c16_13e ?_
      refine GoO.seq' c16_15e ?_
      refine GoO.block' c16_16e ?_
      refine GoO.seq' c16_17e ?_
      refine GoO.region' (is := [0, 1, 2]) c16_18e (by kernel_rfl) ?_
      refine GoO.guard (fun h8 => ?_)
      refine OpTo.go (GoO.idx (kk := .i64) (e := 5) (K := Kd.u8) (A := A_3) (c := c_4) (xs := b_2) (iv := x_6) (j := 0) rfl (by kernel_rfl) (by kernel_rfl) (by kernel_rfl) (by kernel_rfl) rfl Reads.rd rfl h8.1 h8.2 (by decide) rfl ?_)
      refine OpTo.go (GoO.ldE' (K := Kd.u8) (A := A_3) (c := c_4) (xs := b_2) (iN := x_6.toNat) (off := 0) (j := 0) rfl (by kernel_rfl) rfl Reads.rd (idx_lt h8.1 h8.2) (by decide) (Opn.flat _ _ _ _ _) (v := fun _ => .int .u8 (((rdL b_2 x_6)).toNat : Int)) (fun _ => by kernel_rfl) _ (fun _ => rfl) (fun _ => ?_))
      refine GoO.exec (is := [2]) (hs := [.p]) (rest := []) (ks := [5, 7, 10, 11, 12]) (env' := [(5, .int .u32 x_5), (7, .int .u8 (((rdL b_2 x_6)).toNat : Int)), (10, .slice A_3 b_2.length c_4), (11, .int .i64 (b_2.length : Int)), (12, .int .i64 x_6)]) (H' := []) (ps := []) (by kernel_rfl) trivial ?_
      refine GoO.regionEnd ?_
      refine GoO.seq' c16_19e ?_
      refine GoO.region' (is := [0, 1, 2, 3, 4]) c16_20e (by kernel_rfl) ?_
      refine GoO.exec (is := [0, 1, 2, 3, 4]) (hs := [.p, .p, .p, .p, .p]) (rest := []) (ks := [5, 10, 11, 12]) (env' := [(5, .int .u32 (bXor .u32 x_5 (wu32 (((rdL b_2 x_6)).toNat : Int)))), (10, .slice A_3 b_2.length c_4), (11, .int .i64 (b_2.length : Int)), (12, .int .i64 x_6)]) (H' := []) (ps := []) (by kernel_rfl) trivial ?_
      refine GoO.regionEnd ?_
      refine GoO.seq' c16_21e ?_
      refine GoO.region' (is := [0]) c16_22e (by kernel_rfl) ?_
      refine GoO.exec (is := [0]) (hs := [.p]) (rest := []) (ks := [5, 10, 11, 12, 20]) (env' := [(5, .int .u32 (bXor .u32 x_5 (wu32 (((rdL b_2 x_6)).toNat : Int)))), (10, .slice A_3 b_2.length c_4), (11, .int .i64 (b_2.length : Int)), (12, .int .i64 x_6), (20, .int .i64 0)]) (H' := []) (ps := []) (by kernel_rfl) trivial ?_
      refine GoO.regionEnd ?_
      refine GoO.block' c16_23e ?_
      refine GoO.loop' c16_24e ?_
      exact GoO.sub (ks := [5, 10, 11, 12, 20]) (hk := []) (bk := [0]) (by kernel_rfl) (by kernel_rfl) (by kernel_rfl) (crc_Add_l1_ok n (crc_Add.l0 n b_2 k) b_2 x_5 x_6 A_3 c_4 w0 S0 ih0 n (bXor .u32 x_5 (wu32 (((rdL b_2 x_6)).toNat : Int))) 0)
    · refine GoO.exit' c16_14e rfl ?_
      refine GoO.seq' c16_36e ?_
      refine GoO.region' (is := [0, 1, 2]) c16_37e (by kernel_rfl) ?_
      refine GoO.exec (is := [0, 1, 2]) (hs := [.p, .p, .p]) (rest := []) (ks := [4]) (env' := [(4, .int .u32 (bNot .u32 x_5))]) (H' := []) (ps := []) (by kernel_rfl) trivial ?_
      refine GoO.regionEnd ?_
      exact GoO.ret' (h := c16_38e) (hs := []) (ps := []) (hk := []) (bk := []) Try.func16 () (by kernel_rfl) trivial (by kernel_rfl) (by kernel_rfl)
theorem crc_Add_ok (n : Nat) (sum_1 : Int) (b_2 : (List UInt8)) (A_3 : Option Addr) (c_4 : Nat) :
    Meets Try.prog 16 [.int .u32 sum_1, .slice A_3 b_2.length c_4] 0 [] [] [Rd 0 Kd.u8 A_3 c_4 b_2] (crc_Add.f n sum_1 b_2) (crc_Add.R A_3 c_4) := by
  refine Meets.of (c := c16_0) (n := 33) Try.func16 (by kernel_rfl) (by kernel_rfl) (by kernel_rfl) fun w0 S0 => ?_
  unfold crc_Add.f
  show GoO (crc_Add.cx A_3 c_4 w0 S0) [(0, .int .u32 sum_1), (1, .slice A_3 b_2.length c_4)] [] [Rd 0 Kd.u8 A_3 c_4 b_2] [.code c16_0] _
  refine GoO.seq' c16_0e ?_
  refine GoO.region' (is := [0]) c16_1e (by kernel_rfl) ?_
  refine GoO.exec (is := [0]) (hs := [.p]) (rest := []) (ks := [0, 1]) (env' := [(0, .int .u32 sum_1), (1, .slice A_3 b_2.length c_4)]) (H' := []) (ps := []) (by kernel_rfl) trivial ?_
  refine GoO.regionEnd ?_
  refine GoO.seq' c16_2e ?_
  refine GoO.region' (is := [0, 1, 2]) c16_3e (by kernel_rfl) ?_
  refine GoO.exec (is := [0, 1, 2]) (hs := [.p, .p, .p]) (rest := []) (ks := [1, 5]) (env' := [(1, .slice A_3 b_2.length c_4), (5, .int .u32 (bNot .u32 sum_1))]) (H' := []) (ps := []) (by kernel_rfl) trivial ?_
  refine GoO.regionEnd ?_
  refine GoO.seq' c16_4e ?_
  refine GoO.seq' c16_5e ?_
  refine GoO.region' (is := [0, 1, 2]) c16_6e (by kernel_rfl) ?_
  refine GoO.exec (is := [0, 1, 2]) (hs := [.p, .p, .p]) (rest := []) (ks := [5, 10, 11, 12]) (env' := [(5, .int .u32 (bNot .u32 sum_1)), (10, .slice A_3 b_2.length c_4), (11, .int .i64 (b_2.length : Int)), (12, .int .i64 0)]) (H' := []) (ps := []) (by kernel_rfl) trivial ?_
  refine GoO.regionEnd ?_
  refine GoO.block' c16_7e ?_
  refine GoO.loop' c16_8e ?_
  exact GoO.sub (ks := [5, 10, 11, 12]) (hk := []) (bk := [0]) (by kernel_rfl) (by kernel_rfl) (by kernel_rfl) (crc_Add_l0_ok n b_2 A_3 c_4 w0 S0 n (bNot .u32 sum_1) 0)

/-! tontine/crc.Sum -/
noncomputable def c18_0 : Code := bodyOf Try.f18
noncomputable def c18_1 : Code := cdL c18_0
noncomputable def c18_2 : Code := cdR c18_0
noncomputable def c18_3 : Code := cdL c18_2
noncomputable def c18_4 : Code := cdR c18_2
noncomputable def r18_1 : Array Oper := cdO c18_1
noncomputable def r18_3 : Array Oper := cdO c18_3
theorem c18_0e : c18_0 = .seq c18_1 c18_2 := by kernel_rfl
theorem c18_1e : c18_1 = .region 0 r18_1 false := by kernel_rfl
theorem c18_2e : c18_2 = .seq c18_3 c18_4 := by kernel_rfl
theorem c18_3e : c18_3 = .region 1 r18_3 false := by kernel_rfl
theorem c18_4e : c18_4 = .ret := by kernel_rfl
noncomputable def crc_Sum.R (A_2 : Option Addr) (c_3 : Nat) : Pst Int where
  ε := Unit
  v := fun r x => .int .u32 r
  H := fun r x => []
  B := fun r x => []
noncomputable def crc_Sum.cx (A_2 : Option Addr) (c_3 : Nat) (w0 : World) (S0 : Fam) : Cx Int := ⟨Try.prog, 18, Try.f18, 5, w0, S0, [], 0, crc_Sum.R A_2 c_3⟩
theorem crc_Sum_ok (n : Nat) (b_1 : (List UInt8)) (A_2 : Option Addr) (c_3 : Nat) :
    Meets Try.prog 18 [.slice A_2 b_1.length c_3] 0 [] [] [Rd 0 Kd.u8 A_2 c_3 b_1] (crc_Sum.f n b_1) (crc_Sum.R A_2 c_3) := by
  refine Meets.of (c := c18_0) (n := 5) Try.func18 (by kernel_rfl) (by kernel_rfl) (by kernel_rfl) fun w0 S0 => ?_
  unfold crc_Sum.f
  show GoO (crc_Sum.cx A_2 c_3 w0 S0) [(0, .slice A_2 b_1.length c_3)] [] [Rd 0 Kd.u8 A_2 c_3 b_1] [.code c18_0] _
  refine GoO.seq' c18_0e ?_
  refine GoO.region' (is := [0]) c18_1e (by kernel_rfl) ?_
  refine GoO.exec (is := [0]) (hs := [.p]) (rest := []) (ks := [0]) (env' := [(0, .slice A_2 b_1.length c_3)]) (H' := []) (ps := []) (by kernel_rfl) trivial ?_
  refine GoO.regionEnd ?_
  refine GoO.seq' c18_2e ?_
  refine GoO.region' (is := [0, 1, 2]) c18_3e (by kernel_rfl) ?_
  refine GoO.exec (is := [0]) (hs := [.p]) (rest := [1, 2]) (ks := [3]) (env' := [(3, .slice A_2 b_1.length c_3)]) (H' := []) (ps := []) (by kernel_rfl) trivial ?_
  refine OpTo.go (GoO.call rfl (by kernel_rfl) (by kernel_rfl) (crc_Add_ok n 0 b_1 A_2 c_3) [[0]] [] [] [(0, 0)] (hks := []) (bks := [0]) (by kernel_rfl) (by kernel_rfl) (by kernel_rfl) (.inl rfl) rfl rfl (by kernel_rfl) (by kernel_rfl) _ (fun _ _ => rfl) _ _ (fun _ _ => rfl) (fun _ _ => rfl) (fun _ _ => by kernel_rfl) (fun _ _ => by kernel_rfl) (fun r_4 x_5 => ?_))
  refine GoO.shape (env' := [(3, .slice A_2 b_1.length c_3), (4, .int .u32 r_4)]) (H' := []) (B' := [Rd 0 Kd.u8 A_2 c_3 b_1]) (ks := [3, 4]) (by kernel_rfl) (by kernel_rfl) (by kernel_rfl) ?_
  refine GoO.exec (is := [2]) (hs := [.p]) (rest := []) (ks := [2]) (env' := [(2, .int .u32 r_4)]) (H' := []) (ps := []) (by kernel_rfl) trivial ?_
  refine GoO.regionEnd ?_
  exact GoO.ret' (h := c18_4e) (hs := []) (ps := []) (hk := []) (bk := []) Try.func18 () (by kernel_rfl) trivial (by kernel_rfl) (by kernel_rfl)

/-! tontine/tontinelaw02.begun -/
noncomputable def c15_0 : Code := bodyOf Try.f15
noncomputable def c15_1 : Code := cdL c15_0
noncomputable def c15_2 : Code := cdR c15_0
noncomputable def c15_3 : Code := cdL c15_2
noncomputable def c15_4 : Code := cdR c15_2
noncomputable def r15_1 : Array Oper := cdO c15_1
noncomputable def r15_3 : Array Oper := cdO c15_3
theorem c15_0e : c15_0 = .seq c15_1 c15_2 := by kernel_rfl
theorem c15_1e : c15_1 = .region 0 r15_1 false := by kernel_rfl
theorem c15_2e : c15_2 = .seq c15_3 c15_4 := by kernel_rfl
theorem c15_3e : c15_3 = .region 1 r15_3 false := by kernel_rfl
theorem c15_4e : c15_4 = .ret := by kernel_rfl
noncomputable def tontinelaw02_begun.R : Pst Bool where
  ε := Unit
  v := fun r x => .bool r
  H := fun r x => []
  B := fun r x => []
noncomputable def tontinelaw02_begun.cx (w0 : World) (S0 : Fam) : Cx Bool := ⟨Try.prog, 15, Try.f15, 9, w0, S0, [], 0, tontinelaw02_begun.R⟩
theorem tontinelaw02_begun_ok (n : Nat) :
    Meets Try.prog 15 [] 0 [] [] [] (tontinelaw02_begun.f n) (tontinelaw02_begun.R) := by
  refine Meets.of (c := c15_0) (n := 9) Try.func15 (by kernel_rfl) (by kernel_rfl) (by kernel_rfl) fun w0 S0 => ?_
  unfold tontinelaw02_begun.f
  show GoO (tontinelaw02_begun.cx w0 S0) [] [] [] [.code c15_0] _
  refine GoO.seq' c15_0e ?_
  refine GoO.region' (is := [0]) c15_1e (by kernel_rfl) ?_
  refine GoO.exec (is := [0]) (hs := [.p]) (rest := []) (ks := []) (env' := []) (H' := []) (ps := []) (by kernel_rfl) trivial ?_
  refine GoO.regionEnd ?_
  refine GoO.seq' c15_2e ?_
  refine GoO.region' (is := [0, 1, 2, 3, 4, 5, 6, 7, 8]) c15_3e (by kernel_rfl) ?_
  refine OpTo.go (GoO.lit (e := 5) (K := Kd.u8) rfl (by kernel_rfl) (by kernel_rfl) (cs := [.int .u8 49, .int .u8 50, .int .u8 51, .int .u8 52, .int .u8 53, .int .u8 54, .int .u8 55, .int .u8 56, .int .u8 57]) (by kernel_rfl) [(49 : UInt8), (50 : UInt8), (51 : UInt8), (52 : UInt8), (53 : UInt8), (54 : UInt8), (55 : UInt8), (56 : UInt8), (57 : UInt8)] (by kernel_rfl) (by kernel_rfl) (fun w S hB => ⟨[.int .u8 49], _, rfl, rfl, ⟨[.int .u8 50], _, rfl, rfl, ⟨[.int .u8 51], _, rfl, rfl, ⟨[.int .u8 52], _, rfl, rfl, ⟨[.int .u8 53], _, rfl, rfl, ⟨[.int .u8 54], _, rfl, rfl, ⟨[.int .u8 55], _, rfl, rfl, ⟨[.int .u8 56], _, rfl, rfl, ⟨[.int .u8 57], _, rfl, rfl, rfl⟩⟩⟩⟩⟩⟩⟩⟩⟩) 40 _ (fun _ _ => rfl) (fun A_1 c_2 => ?_))
  refine OpTo.go (GoO.markS (e := 5) (A := A_1) (c := c_2) (n := [(49 : UInt8), (50 : UInt8), (51 : UInt8), (52 : UInt8), (53 : UInt8), (54 : UInt8), (55 : UInt8), (56 : UInt8), (57 : UInt8)].length) (xs := [(49 : UInt8), (50 : UInt8), (51 : UInt8), (52 : UInt8), (53 : UInt8), (54 : UInt8), (55 : UInt8), (56 : UInt8), (57 : UInt8)]) (j := 0) (tg := 40) (bk := []) rfl (by kernel_rfl) (by kernel_rfl) (by kernel_rfl) (by kernel_rfl) rfl (by kernel_rfl) (by kernel_rfl) rfl (by kernel_rfl) rfl ?_)
  refine GoO.retag (t := 40) (u := 0) (j := 0) (hk := []) (bk := []) rfl rfl rfl rfl rfl rfl (by kernel_rfl) (by kernel_rfl) ?_
  refine OpTo.go (GoO.call rfl (by kernel_rfl) (by kernel_rfl) (crc_Sum_ok n [(49 : UInt8), (50 : UInt8), (51 : UInt8), (52 : UInt8), (53 : UInt8), (54 : UInt8), (55 : UInt8), (56 : UInt8), (57 : UInt8)] A_1 c_2) [[0]] [] [] [(0, 0)] (hks := []) (bks := [0]) (by kernel_rfl) (by kernel_rfl) (by kernel_rfl) (.inl rfl) rfl rfl (by kernel_rfl) (by kernel_rfl) _ (fun _ _ => rfl) _ _ (fun _ _ => rfl) (fun _ _ => rfl) (fun _ _ => by kernel_rfl) (fun _ _ => by kernel_rfl) (fun r_3 x_7 => ?_))
  refine GoO.shape (env' := [(1, .slice A_1 [(49 : UInt8), (50 : UInt8), (51 : UInt8), (52 : UInt8), (53 : UInt8), (54 : UInt8), (55 : UInt8), (56 : UInt8), (57 : UInt8)].length c_2), (2, .slice A_1 [(49 : UInt8), (50 : UInt8), (51 : UInt8), (52 : UInt8), (53 : UInt8), (54 : UInt8), (55 : UInt8), (56 : UInt8), (57 : UInt8)].length c_2), (3, .int .u32 r_3)]) (H' := []) (B' := [Rd 0 Kd.u8 A_1 c_2 [(49 : UInt8), (50 : UInt8), (51 : UInt8), (52 : UInt8), (53 : UInt8), (54 : UInt8), (55 : UInt8), (56 : UInt8), (57 : UInt8)]]) (ks := [1, 2, 3]) (by kernel_rfl) (by kernel_rfl) (by kernel_rfl) ?_
  refine GoO.exec (is := [3, 4]) (hs := [.p, .p]) (rest := [5, 6, 7, 8]) (ks := [5]) (env' := [(5, .bool (r_3 == 3808858755))]) (H' := []) (ps := []) (by kernel_rfl) trivial ?_
  refine GoO.bsplit (t := 5) (by kernel_rfl) (fun h4 => ?_) (fun h4 => ?_)
  · refine GoO.nilRd Kd.u8 ?_
    refine OpTo.go (GoO.call rfl (by kernel_rfl) (by kernel_rfl) (crc_Sum_ok n ([] : List UInt8) none 0) [[0]] [] [] [(0, 0)] (hks := []) (bks := [0, 1]) (by kernel_rfl) (by kernel_rfl) (by kernel_rfl) (.inl rfl) rfl rfl (by kernel_rfl) (by kernel_rfl) _ (fun _ _ => rfl) _ _ (fun _ _ => rfl) (fun _ _ => rfl) (fun _ _ => by kernel_rfl) (fun _ _ => by kernel_rfl) (fun r_5 x_6 => ?_))
    refine GoO.shape (env' := [(5, .bool true), (6, .int .u32 r_5)]) (H' := []) (B' := [Rd 0 Kd.u8 none 0 ([] : List UInt8), Rd 0 Kd.u8 A_1 c_2 [(49 : UInt8), (50 : UInt8), (51 : UInt8), (52 : UInt8), (53 : UInt8), (54 : UInt8), (55 : UInt8), (56 : UInt8), (57 : UInt8)]]) (ks := [5, 6]) (by kernel_rfl) (by kernel_rfl) (by kernel_rfl) ?_
    refine GoO.exec (is := [6, 7, 8]) (hs := [.p, .p, .p]) (rest := []) (ks := [0]) (env' := [(0, .bool (r_5 == 0))]) (H' := []) (ps := []) (by kernel_rfl) trivial ?_
    refine GoO.regionEnd ?_
    exact GoO.ret' (h := c15_4e) (hs := []) (ps := []) (hk := []) (bk := []) Try.func15 () (by kernel_rfl) trivial (by kernel_rfl) (by kernel_rfl)
  · refine GoO.exec (is := [5, 6, 7, 8]) (hs := [.p, .p, .p, .p]) (rest := []) (ks := [0]) (env' := [(0, .bool false)]) (H' := []) (ps := []) (by kernel_rfl) trivial ?_
    refine GoO.regionEnd ?_
    exact GoO.ret' (h := c15_4e) (hs := []) (ps := []) (hk := []) (bk := []) Try.func15 () (by kernel_rfl) trivial (by kernel_rfl) (by kernel_rfl)

/-! tontine/tontinelaw02.CrcBursts -/
noncomputable def c4_0 : Code := bodyOf Try.f4
noncomputable def c4_1 : Code := cdL c4_0
noncomputable def c4_2 : Code := cdR c4_0
noncomputable def c4_3 : Code := cdL c4_2
noncomputable def c4_4 : Code := cdL c4_3
noncomputable def c4_5 : Code := cdR c4_3
noncomputable def c4_6 : Code := cdL c4_5
noncomputable def c4_7 : Code := cdL c4_6
noncomputable def c4_8 : Code := cdR c4_6
noncomputable def c4_9 : Code := cdR c4_5
noncomputable def c4_10 : Code := cdR c4_2
noncomputable def c4_11 : Code := cdL c4_10
noncomputable def c4_12 : Code := cdL c4_11
noncomputable def c4_13 : Code := cdR c4_11
noncomputable def c4_14 : Code := cdL c4_13
noncomputable def c4_15 : Code := cdL c4_14
noncomputable def c4_16 : Code := cdR c4_14
noncomputable def c4_17 : Code := cdR c4_13
noncomputable def c4_18 : Code := cdR c4_10
noncomputable def c4_19 : Code := cdL c4_18
noncomputable def c4_20 : Code := cdR c4_18
noncomputable def c4_21 : Code := cdL c4_20
noncomputable def c4_22 : Code := cdR c4_20
noncomputable def c4_23 : Code := cdL c4_22
noncomputable def c4_24 : Code := cdR c4_22
noncomputable def c4_25 : Code := cdL c4_24
noncomputable def c4_26 : Code := cdR c4_24
noncomputable def c4_27 : Code := cdL c4_26
noncomputable def c4_28 : Code := cdL c4_27
noncomputable def c4_29 : Code := cdR c4_27
noncomputable def c4_30 : Code := cdL c4_29
noncomputable def c4_31 : Code := cdL c4_30
noncomputable def c4_32 : Code := cdL c4_31
noncomputable def c4_33 : Code := cdR c4_31
noncomputable def c4_34 : Code := cdL c4_33
noncomputable def c4_35 : Code := cdL c4_34
noncomputable def c4_36 : Code := cdR c4_34
noncomputable def c4_37 : Code := cdR c4_33
noncomputable def c4_38 : Code := cdL c4_37
noncomputable def c4_39 : Code := cdL c4_38
noncomputable def c4_40 : Code := cdL c4_39
noncomputable def c4_41 : Code := cdR c4_39
noncomputable def c4_42 : Code := cdL c4_41
noncomputable def c4_43 : Code := cdR c4_41
noncomputable def c4_44 : Code := cdL c4_43
noncomputable def c4_45 : Code := cdL c4_44
noncomputable def c4_46 : Code := cdR c4_44
noncomputable def c4_47 : Code := cdR c4_43
noncomputable def c4_48 : Code := cdR c4_37
noncomputable def c4_49 : Code := cdR c4_26
noncomputable def c4_50 : Code := cdL c4_49
noncomputable def c4_51 : Code := cdR c4_49
noncomputable def r4_1 : Array Oper := cdO c4_1
noncomputable def r4_4 : Array Oper := cdO c4_4
noncomputable def r4_7 : Array Oper := cdO c4_7
noncomputable def r4_12 : Array Oper := cdO c4_12
noncomputable def r4_15 : Array Oper := cdO c4_15
noncomputable def r4_19 : Array Oper := cdO c4_19
noncomputable def r4_21 : Array Oper := cdO c4_21
noncomputable def r4_23 : Array Oper := cdO c4_23
noncomputable def r4_25 : Array Oper := cdO c4_25
noncomputable def r4_28 : Array Oper := cdO c4_28
noncomputable def r4_32 : Array Oper := cdO c4_32
noncomputable def r4_40 : Array Oper := cdO c4_40
noncomputable def r4_42 : Array Oper := cdO c4_42
noncomputable def r4_45 : Array Oper := cdO c4_45
noncomputable def r4_46 : Array Oper := cdO c4_46
noncomputable def r4_48 : Array Oper := cdO c4_48
noncomputable def r4_50 : Array Oper := cdO c4_50
theorem c4_0e : c4_0 = .seq c4_1 c4_2 := by kernel_rfl
theorem c4_1e : c4_1 = .region 0 r4_1 false := by kernel_rfl
theorem c4_2e : c4_2 = .seq c4_3 c4_10 := by kernel_rfl
theorem c4_3e : c4_3 = .seq c4_4 c4_5 := by kernel_rfl
theorem c4_4e : c4_4 = .region 1 r4_4 false := by kernel_rfl
theorem c4_5e : c4_5 = .cond (cdC c4_5) c4_6 c4_9 := by kernel_rfl
theorem c4_6e : c4_6 = .seq c4_7 c4_8 := by kernel_rfl
theorem c4_7e : c4_7 = .region 2 r4_7 false := by kernel_rfl
theorem c4_8e : c4_8 = .ret := by kernel_rfl
theorem c4_9e : c4_9 = .skip := by kernel_rfl
theorem c4_10e : c4_10 = .seq c4_11 c4_18 := by kernel_rfl
theorem c4_11e : c4_11 = .seq c4_12 c4_13 := by kernel_rfl
theorem c4_12e : c4_12 = .region 3 r4_12 false := by kernel_rfl
theorem c4_13e : c4_13 = .cond (cdC c4_13) c4_14 c4_17 := by kernel_rfl
theorem c4_14e : c4_14 = .seq c4_15 c4_16 := by kernel_rfl
theorem c4_15e : c4_15 = .region 4 r4_15 false := by kernel_rfl
theorem c4_16e : c4_16 = .ret := by kernel_rfl
theorem c4_17e : c4_17 = .skip := by kernel_rfl
theorem c4_18e : c4_18 = .seq c4_19 c4_20 := by kernel_rfl
theorem c4_19e : c4_19 = .region 5 r4_19 false := by kernel_rfl
theorem c4_20e : c4_20 = .seq c4_21 c4_22 := by kernel_rfl
theorem c4_21e : c4_21 = .region 6 r4_21 false := by kernel_rfl
theorem c4_22e : c4_22 = .seq c4_23 c4_24 := by kernel_rfl
theorem c4_23e : c4_23 = .region 7 r4_23 false := by kernel_rfl
theorem c4_24e : c4_24 = .seq c4_25 c4_26 := by kernel_rfl
theorem c4_25e : c4_25 = .region 8 r4_25 false := by kernel_rfl
theorem c4_26e : c4_26 = .seq c4_27 c4_49 := by kernel_rfl
theorem c4_27e : c4_27 = .seq c4_28 c4_29 := by kernel_rfl
theorem c4_28e : c4_28 = .region 9 r4_28 false := by kernel_rfl
theorem c4_29e : c4_29 = .block 0 c4_30 := by kernel_rfl
theorem c4_30e : c4_30 = .loop c4_31 := by kernel_rfl
theorem c4_31e : c4_31 = .seq c4_32 c4_33 := by kernel_rfl
theorem c4_32e : c4_32 = .region 10 r4_32 false := by kernel_rfl
theorem c4_33e : c4_33 = .seq c4_34 c4_37 := by kernel_rfl
theorem c4_34e : c4_34 = .cond (cdC c4_34) c4_35 c4_36 := by kernel_rfl
theorem c4_35e : c4_35 = .skip := by kernel_rfl
theorem c4_36e : c4_36 = .exit 0 := by kernel_rfl
theorem c4_37e : c4_37 = .seq c4_38 c4_48 := by kernel_rfl
theorem c4_38e : c4_38 = .block 1 c4_39 := by kernel_rfl
theorem c4_39e : c4_39 = .seq c4_40 c4_41 := by kernel_rfl
theorem c4_40e : c4_40 = .region 11 r4_40 false := by kernel_rfl
theorem c4_41e : c4_41 = .seq c4_42 c4_43 := by kernel_rfl
theorem c4_42e : c4_42 = .region 12 r4_42 false := by kernel_rfl
theorem c4_43e : c4_43 = .cond (cdC c4_43) c4_44 c4_47 := by kernel_rfl
theorem c4_44e : c4_44 = .seq c4_45 c4_46 := by kernel_rfl
theorem c4_45e : c4_45 = .region 13 r4_45 true := by kernel_rfl
theorem c4_46e : c4_46 = .region 14 r4_46 false := by kernel_rfl
theorem c4_47e : c4_47 = .skip := by kernel_rfl
theorem c4_48e : c4_48 = .region 15 r4_48 false := by kernel_rfl
theorem c4_49e : c4_49 = .seq c4_50 c4_51 := by kernel_rfl
theorem c4_50e : c4_50 = .region 16 r4_50 false := by kernel_rfl
theorem c4_51e : c4_51 = .ret := by kernel_rfl
noncomputable def tontinelaw02_CrcBursts.R (A_2 : Option Addr) (c_3 : Nat) : Pst Bool where
  ε := Unit
  v := fun r x => .bool r
  H := fun r x => []
  B := fun r x => []
noncomputable def tontinelaw02_CrcBursts.cx (A_2 : Option Addr) (c_3 : Nat) (w0 : World) (S0 : Fam) : Cx Bool := ⟨Try.prog, 4, Try.f4, 69, w0, S0, [], 0, tontinelaw02_CrcBursts.R A_2 c_3⟩
theorem tontinelaw02_CrcBursts_j1_ok (n : Nat) (L0 : (List UInt8) → Bool → Int → Option Bool) (b_1 : (List UInt8)) (at_4 : Int) (burst_5 : Int) (c_15 : (List UInt8)) (turned_18 : Bool) (x_19 : Int) (A_2 : Option Addr) (c_3 : Nat) (A_16 : Option Addr) (c_17 : Nat) (w0 : World) (S0 : Fam) (ih0 : ∀ (c_15 : (List UInt8)) (turned_18 : Bool) (x_19 : Int) (A_16 : Option Addr) (c_17 : Nat), GoO (tontinelaw02_CrcBursts.cx A_2 c_3 w0 S0) [(0, .slice A_2 b_1.length c_3), (1, .int .i64 ((wi64 ((at_4.tmod (wi64 (8 * (b_1.length : Int)))) + (wi64 (8 * (b_1.length : Int))))).tmod (wi64 (8 * (b_1.length : Int))))), (2, .int .u32 burst_5), (7, .int .i64 (wi64 (8 * (b_1.length : Int)))), (8, .slice A_16 c_15.length c_17), (9, .bool turned_18), (32, .int .i64 x_19)] [] [Rd 0 Kd.u8 A_2 c_3 b_1, Ow 40 Kd.u8 A_16 c_17 c_15] [.code c4_31, .inLoop c4_31, .inBlock 0, .code c4_49] (L0 c_15 turned_18 x_19)) (b_23 : Bool) :
    GoO (tontinelaw02_CrcBursts.cx A_2 c_3 w0 S0) [(0, .slice A_2 b_1.length c_3), (1, .int .i64 ((wi64 ((at_4.tmod (wi64 (8 * (b_1.length : Int)))) + (wi64 (8 * (b_1.length : Int))))).tmod (wi64 (8 * (b_1.length : Int))))), (2, .int .u32 burst_5), (7, .int .i64 (wi64 (8 * (b_1.length : Int)))), (8, .slice A_16 c_15.length c_17), (9, .bool turned_18), (10, .int .i64 x_19), (32, .int .i64 x_19), (46, .bool b_23)] [] [Rd 0 Kd.u8 A_2 c_3 b_1, Ow 40 Kd.u8 A_16 c_17 c_15] [.code c4_43, .inBlock 1, .code c4_48, .inLoop c4_31, .inBlock 0, .code c4_49] (tontinelaw02_CrcBursts.j1 n L0 b_1 at_4 c_15 turned_18 x_19 b_23) := by
  unfold tontinelaw02_CrcBursts.j1
  refine GoO.ite' c4_43e (by kernel_rfl) (fun h24 => ?_) (fun h24 => ?_)
  · refine GoO.seq' c4_44e ?_
    refine GoO.draw c4_45e (by kernel_rfl) [13, 14] [] [Ow 40 Kd.u8 A_16 c_17 c_15] (n := 15) (by kernel_rfl) ?_
    simp only [List.replicate]
    refine GoF.guard (fun h25 => ?_)
    refine GoF.take [0, 1, 2, 3, 4, 7, 8, 9, 10, 11] [.p, .p, .p, .p, .p, .p, .p, .p, .p, .p] (ks := [0, 1, 2, 7, 8, 32, 47, 51, 58]) (fu := 5) (li := [true, true, true, true, true, false, false, true, true, true, true, true, false, false, false]) (env' := [(0, .slice A_2 b_1.length c_3), (1, .int .i64 ((wi64 ((at_4.tmod (wi64 (8 * (b_1.length : Int)))) + (wi64 (8 * (b_1.length : Int))))).tmod (wi64 (8 * (b_1.length : Int))))), (2, .int .u32 burst_5), (7, .int .i64 (wi64 (8 * (b_1.length : Int)))), (8, .slice A_16 c_15.length c_17), (32, .int .i64 x_19), (47, .slice A_16 c_15.length c_17), (51, .int .i64 (wi64 ((wi64 (((wi64 ((at_4.tmod (wi64 (8 * (b_1.length : Int)))) + (wi64 (8 * (b_1.length : Int))))).tmod (wi64 (8 * (b_1.length : Int)))) + x_19)).tdiv 8))), (58, .int .u8 (shL .u8 1 ((wi64 (((wi64 ((at_4.tmod (wi64 (8 * (b_1.length : Int)))) + (wi64 (8 * (b_1.length : Int))))).tmod (wi64 (8 * (b_1.length : Int)))) + x_19)).tmod 8)))]) (ps := [(8 : Int) ≠ 0, (8 : Int) ≠ 0, (0 : Int) ≤ ((wi64 (((wi64 ((at_4.tmod (wi64 (8 * (b_1.length : Int)))) + (wi64 (8 * (b_1.length : Int))))).tmod (wi64 (8 * (b_1.length : Int)))) + x_19)).tmod 8)]) (hk := []) (bk := [1]) (by kernel_rfl) (And.intro (by decide) (And.intro (by decide) (And.intro h25 trivial))) rfl rfl ?_
    refine GoF.guard (fun h26 => ?_)
    refine GoF.idx (i := 5) (hk := []) (bk := [1]) (kk := .i64) (e := 5) (K := Kd.u8) (A := A_16) (c := c_17) (xs := c_15) (iv := wi64 ((wi64 (((wi64 ((at_4.tmod (wi64 (8 * (b_1.length : Int)))) + (wi64 (8 * (b_1.length : Int))))).tmod (wi64 (8 * (b_1.length : Int)))) + x_19)).tdiv 8)) (j := 0) (by kernel_rfl) rfl rfl rfl (by kernel_rfl) (by kernel_rfl) (by kernel_rfl) (by kernel_rfl) rfl Reads.own rfl h26.1 h26.2 (by decide) rfl ?_
    refine GoF.ldE (i := 6) (hk := []) (bk := [1]) (K := Kd.u8) (A := A_16) (c := c_17) (xs := c_15) (iN := (wi64 ((wi64 (((wi64 ((at_4.tmod (wi64 (8 * (b_1.length : Int)))) + (wi64 (8 * (b_1.length : Int))))).tmod (wi64 (8 * (b_1.length : Int)))) + x_19)).tdiv 8)).toNat) (off := 0) (j := 0) (v := .int .u8 (((rdL c_15 (wi64 ((wi64 (((wi64 ((at_4.tmod (wi64 (8 * (b_1.length : Int)))) + (wi64 (8 * (b_1.length : Int))))).tmod (wi64 (8 * (b_1.length : Int)))) + x_19)).tdiv 8)))).toNat : Int)) (by kernel_rfl) rfl rfl rfl (hK := rfl) (by kernel_rfl) rfl Reads.own (idx_lt h26.1 h26.2) (by decide) (by kernel_rfl) rfl ?_
    refine GoF.take [12] [.p] (ks := [0, 1, 2, 7, 8, 32, 47, 51, 59]) (fu := 2) (li := [true, true, true, true, true, true, true, true, true, true, true, true, true, false, false]) (env' := [(0, .slice A_2 b_1.length c_3), (1, .int .i64 ((wi64 ((at_4.tmod (wi64 (8 * (b_1.length : Int)))) + (wi64 (8 * (b_1.length : Int))))).tmod (wi64 (8 * (b_1.length : Int))))), (2, .int .u32 burst_5), (7, .int .i64 (wi64 (8 * (b_1.length : Int)))), (8, .slice A_16 c_15.length c_17), (32, .int .i64 x_19), (47, .slice A_16 c_15.length c_17), (51, .int .i64 (wi64 ((wi64 (((wi64 ((at_4.tmod (wi64 (8 * (b_1.length : Int)))) + (wi64 (8 * (b_1.length : Int))))).tmod (wi64 (8 * (b_1.length : Int)))) + x_19)).tdiv 8))), (59, .int .u8 (bXor .u8 (((rdL c_15 (wi64 ((wi64 (((wi64 ((at_4.tmod (wi64 (8 * (b_1.length : Int)))) + (wi64 (8 * (b_1.length : Int))))).tmod (wi64 (8 * (b_1.length : Int)))) + x_19)).tdiv 8)))).toNat : Int) (shL .u8 1 ((wi64 (((wi64 ((at_4.tmod (wi64 (8 * (b_1.length : Int)))) + (wi64 (8 * (b_1.length : Int))))).tmod (wi64 (8 * (b_1.length : Int)))) + x_19)).tmod 8))))]) (ps := []) (hk := []) (bk := [1]) (by kernel_rfl) trivial rfl rfl ?_
    refine GoF.guard (fun h27 => ?_)
    refine OpTo.goE (i := 13) (by kernel_rfl) rfl (GoO.idx (kk := .i64) (e := 5) (K := Kd.u8) (A := A_16) (c := c_17) (xs := c_15) (iv := wi64 ((wi64 (((wi64 ((at_4.tmod (wi64 (8 * (b_1.length : Int)))) + (wi64 (8 * (b_1.length : Int))))).tmod (wi64 (8 * (b_1.length : Int)))) + x_19)).tdiv 8)) (j := 1) rfl (by kernel_rfl) (by kernel_rfl) (by kernel_rfl) (by kernel_rfl) rfl Reads.own rfl h27.1 h27.2 (by decide) rfl ?_)
    refine OpTo.goE (i := 14) (by kernel_rfl) rfl (GoO.stE (K := Kd.u8) (A := A_16) (c := c_17) (xs := c_15) (iN := (wi64 ((wi64 (((wi64 ((at_4.tmod (wi64 (8 * (b_1.length : Int)))) + (wi64 (8 * (b_1.length : Int))))).tmod (wi64 (8 * (b_1.length : Int)))) + x_19)).tdiv 8)).toNat) (off := 0) (tg := 40) (j := 1) (v := .int .u8 (bXor .u8 (((rdL c_15 (wi64 ((wi64 (((wi64 ((at_4.tmod (wi64 (8 * (b_1.length : Int)))) + (wi64 (8 * (b_1.length : Int))))).tmod (wi64 (8 * (b_1.length : Int)))) + x_19)).tdiv 8)))).toNat : Int) (shL .u8 1 ((wi64 (((wi64 ((at_4.tmod (wi64 (8 * (b_1.length : Int)))) + (wi64 (8 * (b_1.length : Int))))).tmod (wi64 (8 * (b_1.length : Int)))) + x_19)).tmod 8)))) rfl (by kernel_rfl) (by kernel_rfl) rfl (idx_lt h27.1 h27.2) (by decide) (by kernel_rfl) (by kernel_rfl) (by kernel_rfl) (u8of (bXor .u8 (((rdL c_15 (wi64 ((wi64 (((wi64 ((at_4.tmod (wi64 (8 * (b_1.length : Int)))) + (wi64 (8 * (b_1.length : Int))))).tmod (wi64 (8 * (b_1.length : Int)))) + x_19)).tdiv 8)))).toNat : Int) (shL .u8 1 ((wi64 (((wi64 ((at_4.tmod (wi64 (8 * (b_1.length : Int)))) + (wi64 (8 * (b_1.length : Int))))).tmod (wi64 (8 * (b_1.length : Int)))) + x_19)).tmod 8)))) (fun w S cs _ hr => ⟨_, by subst hr; exact stored_flat rfl, (congrArg (fun v => [v]) (u8cell2 _))⟩) rfl ?_)
    refine GoF.reval (t := 8) (v := .slice A_16 c_15.length c_17) (v' := .slice A_16 (c_15.set ((wi64 ((wi64 (((wi64 ((at_4.tmod (wi64 (8 * (b_1.length : Int)))) + (wi64 (8 * (b_1.length : Int))))).tmod (wi64 (8 * (b_1.length : Int)))) + x_19)).tdiv 8)).toNat) (u8of (bXor .u8 (((rdL c_15 (wi64 ((wi64 (((wi64 ((at_4.tmod (wi64 (8 * (b_1.length : Int)))) + (wi64 (8 * (b_1.length : Int))))).tmod (wi64 (8 * (b_1.length : Int)))) + x_19)).tdiv 8)))).toNat : Int) (shL .u8 1 ((wi64 (((wi64 ((at_4.tmod (wi64 (8 * (b_1.length : Int)))) + (wi64 (8 * (b_1.length : Int))))).tmod (wi64 (8 * (b_1.length : Int)))) + x_19)).tmod 8))))).length c_17) (by kernel_rfl) (by simp) ?_
    refine GoF.reval (t := 47) (v := .slice A_16 c_15.length c_17) (v' := .slice A_16 (c_15.set ((wi64 ((wi64 (((wi64 ((at_4.tmod (wi64 (8 * (b_1.length : Int)))) + (wi64 (8 * (b_1.length : Int))))).tmod (wi64 (8 * (b_1.length : Int)))) + x_19)).tdiv 8)).toNat) (u8of (bXor .u8 (((rdL c_15 (wi64 ((wi64 (((wi64 ((at_4.tmod (wi64 (8 * (b_1.length : Int)))) + (wi64 (8 * (b_1.length : Int))))).tmod (wi64 (8 * (b_1.length : Int)))) + x_19)).tdiv 8)))).toNat : Int) (shL .u8 1 ((wi64 (((wi64 ((at_4.tmod (wi64 (8 * (b_1.length : Int)))) + (wi64 (8 * (b_1.length : Int))))).tmod (wi64 (8 * (b_1.length : Int)))) + x_19)).tmod 8))))).length c_17) (by kernel_rfl) (by simp) ?_
    refine GoF.done (by kernel_rfl) ?_
    refine GoO.region' (is := [0]) c4_46e (by kernel_rfl) ?_
    refine GoO.exec (is := [0]) (hs := [.p]) (rest := []) (ks := [0, 1, 2, 7, 8, 9, 32]) (env' := [(0, .slice A_2 b_1.length c_3), (1, .int .i64 ((wi64 ((at_4.tmod (wi64 (8 * (b_1.length : Int)))) + (wi64 (8 * (b_1.length : Int))))).tmod (wi64 (8 * (b_1.length : Int))))), (2, .int .u32 burst_5), (7, .int .i64 (wi64 (8 * (b_1.length : Int)))), (8, .slice A_16 (c_15.set ((wi64 ((wi64 (((wi64 ((at_4.tmod (wi64 (8 * (b_1.length : Int)))) + (wi64 (8 * (b_1.length : Int))))).tmod (wi64 (8 * (b_1.length : Int)))) + x_19)).tdiv 8)).toNat) (u8of (bXor .u8 (((rdL c_15 (wi64 ((wi64 (((wi64 ((at_4.tmod (wi64 (8 * (b_1.length : Int)))) + (wi64 (8 * (b_1.length : Int))))).tmod (wi64 (8 * (b_1.length : Int)))) + x_19)).tdiv 8)))).toNat : Int) (shL .u8 1 ((wi64 (((wi64 ((at_4.tmod (wi64 (8 * (b_1.length : Int)))) + (wi64 (8 * (b_1.length : Int))))).tmod (wi64 (8 * (b_1.length : Int)))) + x_19)).tmod 8))))).length c_17), (9, .bool true), (32, .int .i64 x_19)]) (H' := []) (ps := []) (by kernel_rfl) trivial ?_
    refine GoO.regionEnd ?_
    refine GoO.inBlock ?_
    refine GoO.region' (is := [0, 1]) c4_48e (by kernel_rfl) ?_
    refine GoO.exec (is := [0, 1]) (hs := [.p, .p]) (rest := []) (ks := [0, 1, 2, 7, 8, 9, 32]) (env' := [(0, .slice A_2 b_1.length c_3), (1, .int .i64 ((wi64 ((at_4.tmod (wi64 (8 * (b_1.length : Int)))) + (wi64 (8 * (b_1.length : Int))))).tmod (wi64 (8 * (b_1.length : Int))))), (2, .int .u32 burst_5), (7, .int .i64 (wi64 (8 * (b_1.length : Int)))), (8, .slice A_16 (c_15.set ((wi64 ((wi64 (((wi64 ((at_4.tmod (wi64 (8 * (b_1.length : Int)))) + (wi64 (8 * (b_1.length : Int))))).tmod (wi64 (8 * (b_1.length : Int)))) + x_19)).tdiv 8)).toNat) (u8of (bXor .u8 (((rdL c_15 (wi64 ((wi64 (((wi64 ((at_4.tmod (wi64 (8 * (b_1.length : Int)))) + (wi64 (8 * (b_1.length : Int))))).tmod (wi64 (8 * (b_1.length : Int)))) + x_19)).tdiv 8)))).toNat : Int) (shL .u8 1 ((wi64 (((wi64 ((at_4.tmod (wi64 (8 * (b_1.length : Int)))) + (wi64 (8 * (b_1.length : Int))))).tmod (wi64 (8 * (b_1.length : Int)))) + x_19)).tmod 8))))).length c_17), (9, .bool true), (32, .int .i64 (wi64 (x_19 + 1)))]) (H' := []) (ps := []) (by kernel_rfl) trivial ?_
    refine GoO.regionEnd ?_
    refine GoO.inLoop ?_
    exact GoO.sub (ks := [0, 1, 2, 7, 8, 9, 32]) (hk := []) (bk := [0, 1]) (by kernel_rfl) (by kernel_rfl) (by kernel_rfl) (ih0 (c_15.set ((wi64 ((wi64 (((wi64 ((at_4.tmod (wi64 (8 * (b_1.length : Int)))) + (wi64 (8 * (b_1.length : Int))))).tmod (wi64 (8 * (b_1.length : Int)))) + x_19)).tdiv 8)).toNat) (u8of (bXor .u8 (((rdL c_15 (wi64 ((wi64 (((wi64 ((at_4.tmod (wi64 (8 * (b_1.length : Int)))) + (wi64 (8 * (b_1.length : Int))))).tmod (wi64 (8 * (b_1.length : Int)))) + x_19)).tdiv 8)))).toNat : Int) (shL .u8 1 ((wi64 (((wi64 ((at_4.tmod (wi64 (8 * (b_1.length : Int)))) + (wi64 (8 * (b_1.length : Int))))).tmod (wi64 (8 * (b_1.length : Int)))) + x_19)).tmod 8))))) true (wi64 (x_19 + 1)) A_16 c_17)
  · refine GoO.skip' c4_47e ?_
    refine GoO.inBlock ?_
    refine GoO.region' (is := [0, 1]) c4_48e (by kernel_rfl) ?_
    refine GoO.exec (is := [0, 1]) (hs := [.p, .p]) (rest := []) (ks := [0, 1, 2, 7, 8, 9, 32]) (env' := [(0, .slice A_2 b_1.length c_3), (1, .int .i64 ((wi64 ((at_4.tmod (wi64 (8 * (b_1.length : Int)))) + (wi64 (8 * (b_1.length : Int))))).tmod (wi64 (8 * (b_1.length : Int))))), (2, .int .u32 burst_5), (7, .int .i64 (wi64 (8 * (b_1.length : Int)))), (8, .slice A_16 c_15.length c_17), (9, .bool turned_18), (32, .int .i64 (wi64 (x_19 + 1)))]) (H' := []) (ps := []) (by kernel_rfl) trivial ?_
    refine GoO.regionEnd ?_
    refine GoO.inLoop ?_
    exact GoO.sub (ks := [0, 1, 2, 7, 8, 9, 32]) (hk := []) (bk := [0, 1]) (by kernel_rfl) (by kernel_rfl) (by kernel_rfl) (ih0 c_15 turned_18 (wi64 (x_19 + 1)) A_16 c_17)
theorem tontinelaw02_CrcBursts_l0_ok (n : Nat) (b_1 : (List UInt8)) (at_4 : Int) (burst_5 : Int) (A_2 : Option Addr) (c_3 : Nat) (w0 : World) (S0 : Fam) :
    ∀ (k : Nat) (c_15 : (List UInt8)) (turned_18 : Bool) (x_19 : Int) (A_16 : Option Addr) (c_17 : Nat), GoO (tontinelaw02_CrcBursts.cx A_2 c_3 w0 S0) [(0, .slice A_2 b_1.length c_3), (1, .int .i64 ((wi64 ((at_4.tmod (wi64 (8 * (b_1.length : Int)))) + (wi64 (8 * (b_1.length : Int))))).tmod (wi64 (8 * (b_1.length : Int))))), (2, .int .u32 burst_5), (7, .int .i64 (wi64 (8 * (b_1.length : Int)))), (8, .slice A_16 c_15.length c_17), (9, .bool turned_18), (32, .int .i64 x_19)] [] [Rd 0 Kd.u8 A_2 c_3 b_1, Ow 40 Kd.u8 A_16 c_17 c_15] [.code c4_31, .inLoop c4_31, .inBlock 0, .code c4_49] (tontinelaw02_CrcBursts.l0 n b_1 at_4 burst_5 k c_15 turned_18 x_19) := by
  intro k
  induction k with
  | zero => intros; rw [tontinelaw02_CrcBursts.l0.eq_1]; exact GoO.stop
  | succ k ih0 =>
    intro c_15 turned_18 x_19 A_16 c_17
    rw [tontinelaw02_CrcBursts.l0.eq_2]
    refine GoO.seq' c4_31e ?_
    refine GoO.region' (is := [0]) c4_32e (by kernel_rfl) ?_
    refine GoO.exec (is := [0]) (hs := [.p]) (rest := []) (ks := [0, 1, 2, 7, 8, 9, 32, 33]) (env' := [(0, .slice A_2 b_1.length c_3), (1, .int .i64 ((wi64 ((at_4.tmod (wi64 (8 * (b_1.length : Int)))) + (wi64 (8 * (b_1.length : Int))))).tmod (wi64 (8 * (b_1.length : Int))))), (2, .int .u32 burst_5), (7, .int .i64 (wi64 (8 * (b_1.length : Int)))), (8, .slice A_16 c_15.length c_17), (9, .bool turned_18), (32, .int .i64 x_19), (33, .bool (decide (x_19 < 32)))]) (H' := []) (ps := []) (by kernel_rfl) trivial ?_
    refine GoO.regionEnd ?_
    refine GoO.seq' c4_33e ?_
    refine GoO.ite' c4_34e (by kernel_rfl) (fun h20 => ?_) (fun h20 => ?_)
    · refine GoO.skip' c4_35e ?_
      refine GoO.seq' c4_37e ?_
      refine GoO.block' c4_38e ?_
      refine GoO.seq' c4_39e ?_
      refine GoO.region' (is := [0, 1]) c4_40e (by kernel_rfl) ?_
      refine GoO.exec (is := [0, 1]) (hs := [.p, .p]) (rest := []) (ks := [0, 1, 2, 7, 8, 9, 10, 32]) (env' := [(0, .slice A_2 b_1.length c_3), (1, .int .i64 ((wi64 ((at_4.tmod (wi64 (8 * (b_1.length : Int)))) + (wi64 (8 * (b_1.length : Int))))).tmod (wi64 (8 * (b_1.length : Int))))), (2, .int .u32 burst_5), (7, .int .i64 (wi64 (8 * (b_1.length : Int)))), (8, .slice A_16 c_15.length c_17), (9, .bool turned_18), (10, .int .i64 x_19), (32, .int .i64 x_19)]) (H' := []) (ps := []) (by kernel_rfl) trivial ?_
      refine GoO.regionEnd ?_
      refine GoO.seq' c4_41e ?_
      refine GoO.region' (is := [0, 1, 2, 3, 4, 5, 6, 7, 8, 9, 10, 11]) c4_42e (by kernel_rfl) ?_
      refine GoO.guard (fun h21 => ?_)
      refine GoO.exec (is := [0, 1, 2, 3, 4, 5]) (hs := [.p, .p, .p, .p, .p, .p]) (rest := [6, 7, 8, 9, 10, 11]) (ks := [0, 1, 2, 7, 8, 9, 10, 32, 40]) (env' := [(0, .slice A_2 b_1.length c_3), (1, .int .i64 ((wi64 ((at_4.tmod (wi64 (8 * (b_1.length : Int)))) + (wi64 (8 * (b_1.length : Int))))).tmod (wi64 (8 * (b_1.length : Int))))), (2, .int .u32 burst_5), (7, .int .i64 (wi64 (8 * (b_1.length : Int)))), (8, .slice A_16 c_15.length c_17), (9, .bool turned_18), (10, .int .i64 x_19), (32, .int .i64 x_19), (40, .bool ((bAnd .u32 (shR .u32 burst_5 x_19) 1) == 1))]) (H' := []) (ps := [(0 : Int) ≤ x_19]) (by kernel_rfl) (And.intro h21 trivial) ?_
      refine GoO.bsplit (t := 40) (by kernel_rfl) (fun h22 => ?_) (fun h22 => ?_)
      · refine GoO.exec (is := [6, 7, 8, 9, 10, 11]) (hs := [.p, .p, .p, .p, .p, .p]) (rest := []) (ks := [0, 1, 2, 7, 8, 9, 10, 32, 46]) (env' := [(0, .slice A_2 b_1.length c_3), (1, .int .i64 ((wi64 ((at_4.tmod (wi64 (8 * (b_1.length : Int)))) + (wi64 (8 * (b_1.length : Int))))).tmod (wi64 (8 * (b_1.length : Int))))), (2, .int .u32 burst_5), (7, .int .i64 (wi64 (8 * (b_1.length : Int)))), (8, .slice A_16 c_15.length c_17), (9, .bool turned_18), (10, .int .i64 x_19), (32, .int .i64 x_19), (46, .bool (decide ((wi64 (((wi64 ((at_4.tmod (wi64 (8 * (b_1.length : Int)))) + (wi64 (8 * (b_1.length : Int))))).tmod (wi64 (8 * (b_1.length : Int)))) + x_19)) < (wi64 (8 * (b_1.length : Int))))))]) (H' := []) (ps := []) (by kernel_rfl) trivial ?_
        refine GoO.regionEnd ?_
        exact GoO.sub (ks := [0, 1, 2, 7, 8, 9, 10, 32, 46]) (hk := []) (bk := [0, 1]) (by kernel_rfl) (by kernel_rfl) (by kernel_rfl) (tontinelaw02_CrcBursts_j1_ok n (tontinelaw02_CrcBursts.l0 n b_1 at_4 burst_5 k) b_1 at_4 burst_5 c_15 turned_18 x_19 A_2 c_3 A_16 c_17 w0 S0 ih0 (decide ((wi64 (((wi64 ((at_4.tmod (wi64 (8 * (b_1.length : Int)))) + (wi64 (8 * (b_1.length : Int))))).tmod (wi64 (8 * (b_1.length : Int)))) + x_19)) < (wi64 (8 * (b_1.length : Int))))))
      · refine GoO.exec (is := [6, 7, 8, 9, 10, 11]) (hs := [.p, .p, .p, .p, .p, .p]) (rest := []) (ks := [0, 1, 2, 7, 8, 9, 10, 32, 46]) (env' := [(0, .slice A_2 b_1.length c_3), (1, .int .i64 ((wi64 ((at_4.tmod (wi64 (8 * (b_1.length : Int)))) + (wi64 (8 * (b_1.length : Int))))).tmod (wi64 (8 * (b_1.length : Int))))), (2, .int .u32 burst_5), (7, .int .i64 (wi64 (8 * (b_1.length : Int)))), (8, .slice A_16 c_15.length c_17), (9, .bool turned_18), (10, .int .i64 x_19), (32, .int .i64 x_19), (46, .bool false)]) (H' := []) (ps := []) (by kernel_rfl) trivial ?_
        refine GoO.regionEnd ?_
        exact GoO.sub (ks := [0, 1, 2, 7, 8, 9, 10, 32, 46]) (hk := []) (bk := [0, 1]) (by kernel_rfl) (by kernel_rfl) (by kernel_rfl) (tontinelaw02_CrcBursts_j1_ok n (tontinelaw02_CrcBursts.l0 n b_1 at_4 burst_5 k) b_1 at_4 burst_5 c_15 turned_18 x_19 A_2 c_3 A_16 c_17 w0 S0 ih0 false)
    · refine GoO.exit' c4_36e rfl ?_
      refine GoO.seq' c4_49e ?_
      refine GoO.region' (is := [0, 1, 2, 3, 4, 5, 6, 7]) c4_50e (by kernel_rfl) ?_
      refine GoO.exec (is := [0]) (hs := [.p]) (rest := [1, 2, 3, 4, 5, 6, 7]) (ks := [0, 9, 62]) (env' := [(0, .slice A_2 b_1.length c_3), (9, .bool turned_18), (62, .slice A_16 c_15.length c_17)]) (H' := []) (ps := []) (by kernel_rfl) trivial ?_
      refine GoO.view (j := 1) rfl ?_
      refine OpTo.go (GoO.call rfl (by kernel_rfl) (by kernel_rfl) (crc_Sum_ok n c_15 A_16 c_17) [[0, 40]] [] [] [(0, 2)] (hks := []) (bks := [0, 1]) (by kernel_rfl) (by kernel_rfl) (by kernel_rfl) (.inr (fun _ _ => by simp [crc_Sum.R])) rfl rfl (by kernel_rfl) (by kernel_rfl) _ (fun _ _ => rfl) _ _ (fun _ _ => rfl) (fun _ _ => rfl) (fun _ _ => by kernel_rfl) (fun _ _ => by kernel_rfl) (fun r_28 x_31 => ?_))
      refine GoO.shape (env' := [(0, .slice A_2 b_1.length c_3), (9, .bool turned_18), (62, .slice A_16 c_15.length c_17), (63, .int .u32 r_28)]) (H' := []) (B' := [Rd 0 Kd.u8 A_2 c_3 b_1, Ow 40 Kd.u8 A_16 c_17 c_15]) (ks := [0, 9, 62, 63]) (by kernel_rfl) (by kernel_rfl) (by kernel_rfl) ?_
      refine GoO.exec (is := [2]) (hs := [.p]) (rest := [3, 4, 5, 6, 7]) (ks := [9, 63, 64]) (env' := [(9, .bool turned_18), (63, .int .u32 r_28), (64, .slice A_2 b_1.length c_3)]) (H' := []) (ps := []) (by kernel_rfl) trivial ?_
      refine OpTo.go (GoO.call rfl (by kernel_rfl) (by kernel_rfl) (crc_Sum_ok n b_1 A_2 c_3) [[0]] [] [] [(0, 0)] (hks := []) (bks := [0, 1]) (by kernel_rfl) (by kernel_rfl) (by kernel_rfl) (.inl rfl) rfl rfl (by kernel_rfl) (by kernel_rfl) _ (fun _ _ => rfl) _ _ (fun _ _ => rfl) (fun _ _ => rfl) (fun _ _ => by kernel_rfl) (fun _ _ => by kernel_rfl) (fun r_29 x_30 => ?_))
      refine GoO.shape (env' := [(9, .bool turned_18), (63, .int .u32 r_28), (64, .slice A_2 b_1.length c_3), (65, .int .u32 r_29)]) (H' := []) (B' := [Rd 0 Kd.u8 A_2 c_3 b_1, Ow 40 Kd.u8 A_16 c_17 c_15]) (ks := [9, 63, 64, 65]) (by kernel_rfl) (by kernel_rfl) (by kernel_rfl) ?_
      refine GoO.exec (is := [4, 5, 6, 7]) (hs := [.p, .p, .p, .p]) (rest := []) (ks := [6]) (env' := [(6, .bool ((r_28 != r_29) == turned_18))]) (H' := []) (ps := []) (by kernel_rfl) trivial ?_
      refine GoO.regionEnd ?_
      exact GoO.ret' (h := c4_51e) (hs := []) (ps := []) (hk := []) (bk := []) Try.func4 () (by kernel_rfl) trivial (by kernel_rfl) (by kernel_rfl)
theorem tontinelaw02_CrcBursts_j0_ok (n : Nat) (b_1 : (List UInt8)) (at_4 : Int) (burst_5 : Int) (A_2 : Option Addr) (c_3 : Nat) (w0 : World) (S0 : Fam) (b_9 : Bool) :
    GoO (tontinelaw02_CrcBursts.cx A_2 c_3 w0 S0) [(0, .slice A_2 b_1.length c_3), (1, .int .i64 at_4), (2, .int .u32 burst_5), (19, .bool b_9)] [] [Rd 0 Kd.u8 A_2 c_3 b_1] [.code c4_13, .code c4_18] (tontinelaw02_CrcBursts.j0 n b_1 at_4 burst_5 b_9) := by
  unfold tontinelaw02_CrcBursts.j0
  refine GoO.ite' c4_13e (by kernel_rfl) (fun h10 => ?_) (fun h10 => ?_)
  · refine GoO.seq' c4_14e ?_
    refine GoO.region' (is := [0]) c4_15e (by kernel_rfl) ?_
    refine GoO.exec (is := [0]) (hs := [.p]) (rest := []) (ks := [6]) (env' := [(6, .bool true)]) (H' := []) (ps := []) (by kernel_rfl) trivial ?_
    refine GoO.regionEnd ?_
    exact GoO.ret' (h := c4_16e) (hs := []) (ps := []) (hk := []) (bk := []) Try.func4 () (by kernel_rfl) trivial (by kernel_rfl) (by kernel_rfl)
  · refine GoO.skip' c4_17e ?_
    refine GoO.seq' c4_18e ?_
    refine GoO.region' (is := [0, 1, 2, 3]) c4_19e (by kernel_rfl) ?_
    refine GoO.exec (is := [0, 1, 2, 3]) (hs := [.p, .p, .p, .p]) (rest := []) (ks := [0, 1, 2, 7]) (env' := [(0, .slice A_2 b_1.length c_3), (1, .int .i64 at_4), (2, .int .u32 burst_5), (7, .int .i64 (wi64 (8 * (b_1.length : Int))))]) (H' := []) (ps := []) (by kernel_rfl) trivial ?_
    refine GoO.regionEnd ?_
    refine GoO.seq' c4_20e ?_
    refine GoO.region' (is := [0, 1, 2, 3, 4, 5, 6, 7]) c4_21e (by kernel_rfl) ?_
    refine GoO.guard (fun h11 => ?_)
    refine GoO.exec (is := [0, 1, 2, 3, 4, 5, 6, 7]) (hs := [.p, .p, .p, .p, .p, .p, .p, .p]) (rest := []) (ks := [0, 1, 2, 7]) (env' := [(0, .slice A_2 b_1.length c_3), (1, .int .i64 ((wi64 ((at_4.tmod (wi64 (8 * (b_1.length : Int)))) + (wi64 (8 * (b_1.length : Int))))).tmod (wi64 (8 * (b_1.length : Int))))), (2, .int .u32 burst_5), (7, .int .i64 (wi64 (8 * (b_1.length : Int))))]) (H' := []) (ps := [(wi64 (8 * (b_1.length : Int))) ≠ 0, (wi64 (8 * (b_1.length : Int))) ≠ 0]) (by kernel_rfl) (And.intro h11 (And.intro h11 trivial)) ?_
    refine GoO.regionEnd ?_
    refine GoO.seq' c4_22e ?_
    refine GoO.region' (is := [0, 1, 2]) c4_23e (by kernel_rfl) ?_
    refine GoO.exec (is := [0]) (hs := [.p]) (rest := [1, 2]) (ks := [0, 1, 2, 7, 30]) (env' := [(0, .slice A_2 b_1.length c_3), (1, .int .i64 ((wi64 ((at_4.tmod (wi64 (8 * (b_1.length : Int)))) + (wi64 (8 * (b_1.length : Int))))).tmod (wi64 (8 * (b_1.length : Int))))), (2, .int .u32 burst_5), (7, .int .i64 (wi64 (8 * (b_1.length : Int)))), (30, .slice A_2 b_1.length c_3)]) (H' := []) (ps := []) (by kernel_rfl) trivial ?_
    refine GoO.nilOwn Kd.u8 40 ?_
    refine GoO.guard (fun h12 => ?_)
    refine OpTo.go (GoO.appW (e := 5) (K := Kd.u8) (A := none) (c := 0) (tg := 40) (bytes := 1) (zs := [.int .u8 0]) (xs := ([] : List UInt8)) (ys := b_1) (xv := .slice A_2 b_1.length c_3) (j := 0) (bk := [1]) rfl (by kernel_rfl) (by kernel_rfl) (by kernel_rfl) (by kernel_rfl) rfl (by kernel_rfl) rfl (fun w S hB => SrcIs.row (Reads.rd w S (hB _ (List.mem_of_getElem? (i := 1) rfl)))) h12 rfl rfl rfl rfl _ (fun _ _ => rfl) (fun A_13 c_14 => ?_))
    refine GoO.exec (is := [2]) (hs := [.p]) (rest := []) (ks := [0, 1, 2, 7, 8]) (env' := [(0, .slice A_2 b_1.length c_3), (1, .int .i64 ((wi64 ((at_4.tmod (wi64 (8 * (b_1.length : Int)))) + (wi64 (8 * (b_1.length : Int))))).tmod (wi64 (8 * (b_1.length : Int))))), (2, .int .u32 burst_5), (7, .int .i64 (wi64 (8 * (b_1.length : Int)))), (8, .slice A_13 (([] : List UInt8) ++ b_1).length c_14)]) (H' := []) (ps := []) (by kernel_rfl) trivial ?_
    refine GoO.regionEnd ?_
    refine GoO.seq' c4_24e ?_
    refine GoO.region' (is := [0]) c4_25e (by kernel_rfl) ?_
    refine GoO.exec (is := [0]) (hs := [.p]) (rest := []) (ks := [0, 1, 2, 7, 8, 9]) (env' := [(0, .slice A_2 b_1.length c_3), (1, .int .i64 ((wi64 ((at_4.tmod (wi64 (8 * (b_1.length : Int)))) + (wi64 (8 * (b_1.length : Int))))).tmod (wi64 (8 * (b_1.length : Int))))), (2, .int .u32 burst_5), (7, .int .i64 (wi64 (8 * (b_1.length : Int)))), (8, .slice A_13 (([] : List UInt8) ++ b_1).length c_14), (9, .bool false)]) (H' := []) (ps := []) (by kernel_rfl) trivial ?_
    refine GoO.regionEnd ?_
    refine GoO.seq' c4_26e ?_
    refine GoO.seq' c4_27e ?_
    refine GoO.region' (is := [0]) c4_28e (by kernel_rfl) ?_
    refine GoO.exec (is := [0]) (hs := [.p]) (rest := []) (ks := [0, 1, 2, 7, 8, 9, 32]) (env' := [(0, .slice A_2 b_1.length c_3), (1, .int .i64 ((wi64 ((at_4.tmod (wi64 (8 * (b_1.length : Int)))) + (wi64 (8 * (b_1.length : Int))))).tmod (wi64 (8 * (b_1.length : Int))))), (2, .int .u32 burst_5), (7, .int .i64 (wi64 (8 * (b_1.length : Int)))), (8, .slice A_13 (([] : List UInt8) ++ b_1).length c_14), (9, .bool false), (32, .int .i64 0)]) (H' := []) (ps := []) (by kernel_rfl) trivial ?_
    refine GoO.regionEnd ?_
    refine GoO.block' c4_29e ?_
    refine GoO.loop' c4_30e ?_
    exact GoO.sub (ks := [0, 1, 2, 7, 8, 9, 32]) (hk := []) (bk := [1, 0]) (by kernel_rfl) (by kernel_rfl) (by kernel_rfl) (tontinelaw02_CrcBursts_l0_ok n b_1 at_4 burst_5 A_2 c_3 w0 S0 n (([] : List UInt8) ++ b_1) false 0 A_13 c_14)
theorem tontinelaw02_CrcBursts_ok (n : Nat) (b_1 : (List UInt8)) (at_4 : Int) (burst_5 : Int) (A_2 : Option Addr) (c_3 : Nat) :
    Meets Try.prog 4 [.slice A_2 b_1.length c_3, .int .i64 at_4, .int .u32 burst_5] 0 [] [] [Rd 0 Kd.u8 A_2 c_3 b_1] (tontinelaw02_CrcBursts.f n b_1 at_4 burst_5) (tontinelaw02_CrcBursts.R A_2 c_3) := by
  refine Meets.of (c := c4_0) (n := 69) Try.func4 (by kernel_rfl) (by kernel_rfl) (by kernel_rfl) fun w0 S0 => ?_
  unfold tontinelaw02_CrcBursts.f
  show GoO (tontinelaw02_CrcBursts.cx A_2 c_3 w0 S0) [(0, .slice A_2 b_1.length c_3), (1, .int .i64 at_4), (2, .int .u32 burst_5)] [] [Rd 0 Kd.u8 A_2 c_3 b_1] [.code c4_0] _
  refine GoO.seq' c4_0e ?_
  refine GoO.region' (is := [0]) c4_1e (by kernel_rfl) ?_
  refine GoO.exec (is := [0]) (hs := [.p]) (rest := []) (ks := [0, 1, 2]) (env' := [(0, .slice A_2 b_1.length c_3), (1, .int .i64 at_4), (2, .int .u32 burst_5)]) (H' := []) (ps := []) (by kernel_rfl) trivial ?_
  refine GoO.regionEnd ?_
  refine GoO.seq' c4_2e ?_
  refine GoO.seq' c4_3e ?_
  refine GoO.region' (is := [0, 1]) c4_4e (by kernel_rfl) ?_
  refine OpTo.go (GoO.call rfl (by kernel_rfl) (by kernel_rfl) (tontinelaw02_begun_ok n) [[0]] [] [] [] (hks := []) (bks := [0]) (by kernel_rfl) (by kernel_rfl) (by kernel_rfl) (.inl rfl) rfl rfl (by kernel_rfl) (by kernel_rfl) _ (fun _ _ => rfl) _ _ (fun _ _ => rfl) (fun _ _ => rfl) (fun _ _ => by kernel_rfl) (fun _ _ => by kernel_rfl) (fun r_6 x_32 => ?_))
  refine GoO.shape (env' := [(0, .slice A_2 b_1.length c_3), (1, .int .i64 at_4), (2, .int .u32 burst_5), (11, .bool r_6)]) (H' := []) (B' := [Rd 0 Kd.u8 A_2 c_3 b_1]) (ks := [0, 1, 2, 11]) (by kernel_rfl) (by kernel_rfl) (by kernel_rfl) ?_
  refine GoO.exec (is := [1]) (hs := [.p]) (rest := []) (ks := [0, 1, 2, 12]) (env' := [(0, .slice A_2 b_1.length c_3), (1, .int .i64 at_4), (2, .int .u32 burst_5), (12, .bool (!r_6))]) (H' := []) (ps := []) (by kernel_rfl) trivial ?_
  refine GoO.regionEnd ?_
  refine GoO.ite' c4_5e (by kernel_rfl) (fun h7 => ?_) (fun h7 => ?_)
  · refine GoO.seq' c4_6e ?_
    refine GoO.region' (is := [0]) c4_7e (by kernel_rfl) ?_
    refine GoO.exec (is := [0]) (hs := [.p]) (rest := []) (ks := [6]) (env' := [(6, .bool false)]) (H' := []) (ps := []) (by kernel_rfl) trivial ?_
    refine GoO.regionEnd ?_
    exact GoO.ret' (h := c4_8e) (hs := []) (ps := []) (hk := []) (bk := []) Try.func4 () (by kernel_rfl) trivial (by kernel_rfl) (by kernel_rfl)
  · refine GoO.skip' c4_9e ?_
    refine GoO.seq' c4_10e ?_
    refine GoO.seq' c4_11e ?_
    refine GoO.region' (is := [0, 1, 2, 3, 4, 5, 6]) c4_12e (by kernel_rfl) ?_
    refine GoO.exec (is := [0, 1, 2, 3]) (hs := [.p, .p, .p, .p]) (rest := [4, 5, 6]) (ks := [0, 1, 2, 16]) (env' := [(0, .slice A_2 b_1.length c_3), (1, .int .i64 at_4), (2, .int .u32 burst_5), (16, .bool ((b_1.length : Int) == 0))]) (H' := []) (ps := []) (by kernel_rfl) trivial ?_
    refine GoO.bsplit (t := 16) (by kernel_rfl) (fun h8 => ?_) (fun h8 => ?_)
    · refine GoO.exec (is := [4, 5, 6]) (hs := [.p, .p, .p]) (rest := []) (ks := [0, 1, 2, 19]) (env' := [(0, .slice A_2 b_1.length c_3), (1, .int .i64 at_4), (2, .int .u32 burst_5), (19, .bool true)]) (H' := []) (ps := []) (by kernel_rfl) trivial ?_
      refine GoO.regionEnd ?_
      exact GoO.sub (ks := [0, 1, 2, 19]) (hk := []) (bk := [0]) (by kernel_rfl) (by kernel_rfl) (by kernel_rfl) (tontinelaw02_CrcBursts_j0_ok n b_1 at_4 burst_5 A_2 c_3 w0 S0 true)
    · refine GoO.exec (is := [4, 5, 6]) (hs := [.p, .p, .p]) (rest := []) (ks := [0, 1, 2, 19]) (env' := [(0, .slice A_2 b_1.length c_3), (1, .int .i64 at_4), (2, .int .u32 burst_5), (19, .bool (burst_5 == 0))]) (H' := []) (ps := []) (by kernel_rfl) trivial ?_
      refine GoO.regionEnd ?_
      exact GoO.sub (ks := [0, 1, 2, 19]) (hk := []) (bk := [0]) (by kernel_rfl) (by kernel_rfl) (by kernel_rfl) (tontinelaw02_CrcBursts_j0_ok n b_1 at_4 burst_5 A_2 c_3 w0 S0 (burst_5 == 0))
end Go.GL
