import Derived.Test.YtapiconoooncgaaKindsT1
import Derived.Test.YtapiconoooncgaaProg
set_option linter.unusedVariables false
set_option linter.unusedSimpArgs false
set_option maxRecDepth 100000
namespace Go.GL
open Go Go.Proofs

/-! tontine/crc.Add -/
noncomputable def c16_0 : Code := bodyOf Try.f16
noncomputable def c16_1 : Code := cdL c16_0
noncomputable def c16_2 : Code := cdR c16_0
noncomputable def c16_3 : Code := cdL c16_2
noncomputable def c16_4 : Code := cdR c16_2
noncomputable def c16_5 : Code := cdL c16_4
noncomputable def c16_6 : Code := cdL c16_5
noncomputable def c16_7 : Code := cdR c16_5
noncomputable def c16_8 : Code := cdL c16_7
noncomputable def c16_9 : Code := cdL c16_8
noncomputable def c16_10 : Code := cdL c16_9
noncomputable def c16_11 : Code := cdR c16_9
noncomputable def c16_12 : Code := cdL c16_11
noncomputable def c16_13 : Code := cdL c16_12
noncomputable def c16_14 : Code := cdR c16_12
noncomputable def c16_15 : Code := cdR c16_11
noncomputable def c16_16 : Code := cdL c16_15
noncomputable def c16_17 : Code := cdL c16_16
noncomputable def c16_18 : Code := cdL c16_17
noncomputable def c16_19 : Code := cdR c16_17
noncomputable def c16_20 : Code := cdL c16_19
noncomputable def c16_21 : Code := cdR c16_19
noncomputable def c16_22 : Code := cdL c16_21
noncomputable def c16_23 : Code := cdR c16_21
noncomputable def c16_24 : Code := cdL c16_23
noncomputable def c16_25 : Code := cdL c16_24
noncomputable def c16_26 : Code := cdL c16_25
noncomputable def c16_27 : Code := cdR c16_25
noncomputable def c16_28 : Code := cdL c16_27
noncomputable def c16_29 : Code := cdL c16_28
noncomputable def c16_30 : Code := cdR c16_28
noncomputable def c16_31 : Code := cdR c16_27
noncomputable def c16_32 : Code := cdL c16_31
noncomputable def c16_33 : Code := cdL c16_32
noncomputable def c16_34 : Code := cdR c16_31
noncomputable def c16_35 : Code := cdR c16_15
noncomputable def c16_36 : Code := cdR c16_4
noncomputable def c16_37 : Code := cdL c16_36
noncomputable def c16_38 : Code := cdR c16_36
noncomputable def r16_1 : Array Oper := cdO c16_1
noncomputable def r16_3 : Array Oper := cdO c16_3
noncomputable def r16_6 : Array Oper := cdO c16_6
noncomputable def r16_10 : Array Oper := cdO c16_10
noncomputable def r16_18 : Array Oper := cdO c16_18
noncomputable def r16_20 : Array Oper := cdO c16_20
noncomputable def r16_22 : Array Oper := cdO c16_22
noncomputable def r16_26 : Array Oper := cdO c16_26
noncomputable def r16_33 : Array Oper := cdO c16_33
noncomputable def r16_34 : Array Oper := cdO c16_34
noncomputable def r16_35 : Array Oper := cdO c16_35
noncomputable def r16_37 : Array Oper := cdO c16_37
theorem c16_0e : c16_0 = .seq c16_1 c16_2 := by kernel_rfl
theorem c16_1e : c16_1 = .region 0 r16_1 false := by kernel_rfl
theorem c16_2e : c16_2 = .seq c16_3 c16_4 := by kernel_rfl
theorem c16_3e : c16_3 = .region 1 r16_3 false := by kernel_rfl
theorem c16_4e : c16_4 = .seq c16_5 c16_36 := by kernel_rfl
theorem c16_5e : c16_5 = .seq c16_6 c16_7 := by kernel_rfl
theorem c16_6e : c16_6 = .region 2 r16_6 false := by kernel_rfl
theorem c16_7e : c16_7 = .block 0 c16_8 := by kernel_rfl
theorem c16_8e : c16_8 = .loop c16_9 := by kernel_rfl
theorem c16_9e : c16_9 = .seq c16_10 c16_11 := by kernel_rfl
theorem c16_10e : c16_10 = .region 3 r16_10 false := by kernel_rfl
theorem c16_11e : c16_11 = .seq c16_12 c16_15 := by kernel_rfl
theorem c16_12e : c16_12 = .cond (cdC c16_12) c16_13 c16_14 := by kernel_rfl
theorem c16_13e : c16_13 = .skip := by kernel_rfl
theorem c16_14e : c16_14 = .exit 0 := by kernel_rfl
theorem c16_15e : c16_15 = .seq c16_16 c16_35 := by kernel_rfl
theorem c16_16e : c16_16 = .block 1 c16_17 := by kernel_rfl
theorem c16_17e : c16_17 = .seq c16_18 c16_19 := by kernel_rfl
theorem c16_18e : c16_18 = .region 4 r16_18 false := by kernel_rfl
theorem c16_19e : c16_19 = .seq c16_20 c16_21 := by kernel_rfl
theorem c16_20e : c16_20 = .region 5 r16_20 false := by kernel_rfl
theorem c16_21e : c16_21 = .seq c16_22 c16_23 := by kernel_rfl
theorem c16_22e : c16_22 = .region 6 r16_22 false := by kernel_rfl
theorem c16_23e : c16_23 = .block 2 c16_24 := by kernel_rfl
theorem c16_24e : c16_24 = .loop c16_25 := by kernel_rfl
theorem c16_25e : c16_25 = .seq c16_26 c16_27 := by kernel_rfl
theorem c16_26e : c16_26 = .region 7 r16_26 false := by kernel_rfl
theorem c16_27e : c16_27 = .seq c16_28 c16_31 := by kernel_rfl
theorem c16_28e : c16_28 = .cond (cdC c16_28) c16_29 c16_30 := by kernel_rfl
theorem c16_29e : c16_29 = .skip := by kernel_rfl
theorem c16_30e : c16_30 = .exit 2 := by kernel_rfl
theorem c16_31e : c16_31 = .seq c16_32 c16_34 := by kernel_rfl
theorem c16_32e : c16_32 = .block 3 c16_33 := by kernel_rfl
theorem c16_33e : c16_33 = .region 8 r16_33 false := by kernel_rfl
theorem c16_34e : c16_34 = .region 9 r16_34 false := by kernel_rfl
theorem c16_35e : c16_35 = .region 10 r16_35 false := by kernel_rfl
theorem c16_36e : c16_36 = .seq c16_37 c16_38 := by kernel_rfl
theorem c16_37e : c16_37 = .region 11 r16_37 false := by kernel_rfl
theorem c16_38e : c16_38 = .ret := by kernel_rfl
noncomputable def crc_Add.R (A_3 : Option Addr) (c_4 : Nat) : Pst Int where
  ε := Unit
  v := fun r x => .int .u32 r
  H := fun r x => []
  B := fun r x => []
noncomputable def crc_Add.cx (A_3 : Option Addr) (c_4 : Nat) (w0 : World) (S0 : Fam) : Cx Int := ⟨Try.prog, 16, Try.f16, 33, w0, S0, [], 0, crc_Add.R A_3 c_4⟩
theorem crc_Add_l1_ok (n : Nat) (L0 : Int → Int → Option Int) (b_2 : (List UInt8)) (x_5 : Int) (x_6 : Int) (A_3 : Option Addr) (c_4 : Nat) (w0 : World) (S0 : Fam) (ih0 : ∀ (x_5 : Int) (x_6 : Int), GoO (crc_Add.cx A_3 c_4 w0 S0) [(5, .int .u32 x_5), (10, .slice A_3 b_2.length c_4), (11, .int .i64 (b_2.length : Int)), (12, .int .i64 x_6)] [] [Rd 0 Kd.u8 A_3 c_4 b_2] [.code c16_9, .inLoop c16_9, .inBlock 0, .code c16_36] (L0 x_5 x_6)) :
    ∀ (k : Nat) (x_9 : Int) (x_10 : Int), GoO (crc_Add.cx A_3 c_4 w0 S0) [(5, .int .u32 x_9), (10, .slice A_3 b_2.length c_4), (11, .int .i64 (b_2.length : Int)), (12, .int .i64 x_6), (20, .int .i64 x_10)] [] [Rd 0 Kd.u8 A_3 c_4 b_2] [.code c16_25, .inLoop c16_25, .inBlock 2, .inBlock 1, .code c16_35, .inLoop c16_9, .inBlock 0, .code c16_36] (crc_Add.l1 n L0 x_6 k x_9 x_10) := by
  intro k
  induction k with
  | zero => intros; rw [crc_Add.l1.eq_1]; exact GoO.stop
  | succ k ih1 =>
    intro x_9 x_10
    rw [crc_Add.l1.eq_2]
    refine GoO.seq' c16_25e ?_
    refine GoO.region' (is := [0]) c16_26e (by kernel_rfl) ?_
    refine GoO.exec (is := [0]) (hs := [.p]) (rest := []) (ks := [5, 10, 11, 12, 20, 21]) (env' := [(5, .int .u32 x_9), (10, .slice A_3 b_2.length c_4), (11, .int .i64 (b_2.length : Int)), (12, .int .i64 x_6), (20, .int .i64 x_10), (21, .bool (decide (x_10 < 8)))]) (H' := []) (ps := []) (by kernel_rfl) trivial ?_
    refine GoO.regionEnd ?_
    refine GoO.seq' c16_27e ?_
    refine GoO.ite' c16_28e (by kernel_rfl) (fun h11 => ?_) (fun h11 => ?_)
    · refine GoO.skip' c16_29e ?_
      refine GoO.seq' c16_31e ?_
      refine GoO.block' c16_32e ?_
      refine GoO.region' (is := [0, 1, 2, 3, 4, 5, 6, 7]) c16_33e (by kernel_rfl) ?_
      refine GoO.exec (is := [0, 1, 2, 3, 4, 5, 6, 7]) (hs := [.p, .p, .p, .p, .p, .p, .p, .p]) (rest := []) (ks := [5, 10, 11, 12, 20]) (env' := [(5, .int .u32 (bXor .u32 (shR .u32 x_9 1) (bAnd .u32 2197175160 (wu32 (0 - (bAnd .u32 x_9 1)))))), (10, .slice A_3 b_2.length c_4), (11, .int .i64 (b_2.length : Int)), (12, .int .i64 x_6), (20, .int .i64 x_10)]) (H' := []) (ps := [(0 : Int) ≤ 1]) (by kernel_rfl) (And.intro (by decide) trivial) ?_
      refine GoO.regionEnd ?_
      refine GoO.inBlock ?_
      refine GoO.region' (is := [0, 1]) c16_34e (by kernel_rfl) ?_
      refine GoO.exec (is := [0, 1]) (hs := [.p, .p]) (rest := []) (ks := [5, 10, 11, 12, 20]) (env' := [(5, .int .u32 (bXor .u32 (shR .u32 x_9 1) (bAnd .u32 2197175160 (wu32 (0 - (bAnd .u32 x_9 1)))))), (10, .slice A_3 b_2.length c_4), (11, .int .i64 (b_2.length : Int)), (12, .int .i64 x_6), (20, .int .i64 (wi64 (x_10 + 1)))]) (H' := []) (ps := []) (by kernel_rfl) trivial ?_
      refine GoO.regionEnd ?_
      refine GoO.inLoop ?_
      exact GoO.sub (ks := [5, 10, 11, 12, 20]) (hk := []) (bk := [0]) (by kernel_rfl) (by kernel_rfl) (by kernel_rfl) (ih1 (bXor .u32 (shR .u32 x_9 1) (bAnd .u32 2197175160 (wu32 (0 - (bAnd .u32 x_9 1))))) (wi64 (x_10 + 1)))
    · refine GoO.exit' c16_30e rfl ?_
      refine GoO.inBlock ?_
      refine GoO.region' (is := [0, 1]) c16_35e (by kernel_rfl) ?_
      refine GoO.exec (is := [0, 1]) (hs := [.p, .p]) (rest := []) (ks := [5, 10, 11, 12]) (env' := [(5, .int .u32 x_9), (10, .slice A_3 b_2.length c_4), (11, .int .i64 (b_2.length : Int)), (12, .int .i64 (wi64 (x_6 + 1)))]) (H' := []) (ps := []) (by kernel_rfl) trivial ?_
      refine GoO.regionEnd ?_
      refine GoO.inLoop ?_
      exact GoO.sub (ks := [5, 10, 11, 12]) (hk := []) (bk := [0]) (by kernel_rfl) (by kernel_rfl) (by kernel_rfl) (ih0 x_9 (wi64 (x_6 + 1)))
theorem crc_Add_l0_ok (n : Nat) (b_2 : (List UInt8)) (A_3 : Option Addr) (c_4 : Nat) (w0 : World) (S0 : Fam) :
    ∀ (k : Nat) (x_5 : Int) (x_6 : Int), GoO (crc_Add.cx A_3 c_4 w0 S0) [(5, .int .u32 x_5), (10, .slice A_3 b_2.length c_4), (11, .int .i64 (b_2.length : Int)), (12, .int .i64 x_6)] [] [Rd 0 Kd.u8 A_3 c_4 b_2] [.code c16_9, .inLoop c16_9, .inBlock 0, .code c16_36] (crc_Add.l0 n b_2 k x_5 x_6) := by
  intro k
  induction k with
  | zero => intros; rw [crc_Add.l0.eq_1]; exact GoO.stop
  | succ k ih0 =>
    intro x_5 x_6
    rw [crc_Add.l0.eq_2]
    refine GoO.seq' c16_9e ?_
    refine GoO.region' (is := [0]) c16_10e (by kernel_rfl) ?_
    refine GoO.exec (is := [0]) (hs := [.p]) (rest := []) (ks := [5, 10, 11, 12, 13]) (env' := [(5, .int .u32 x_5), (10, .slice A_3 b_2.length c_4), (11, .int .i64 (b_2.length : Int)), (12, .int .i64 x_6), (13, .bool (decide (x_6 < (b_2.length : Int))))]) (H' := []) (ps := []) (by kernel_rfl) trivial ?_
    refine GoO.regionEnd ?_
    refine GoO.seq' c16_11e ?_
    refine GoO.ite' c16_12e (by kernel_rfl) (fun h7 => ?_) (fun h7 => ?_)
    · refine GoO.skip' c16_13e ?_
      refine GoO.seq' c16_15e ?_
      refine GoO.block' c16_16e ?_
      refine GoO.seq' c16_17e ?_
      refine GoO.region' (is := [0, 1, 2]) c16_18e (by kernel_rfl) ?_
      refine GoO.guard (fun h8 => ?_)
      refine OpTo.go (GoO.idx (kk := .i64) (e := 5) (K := Kd.u8) (A := A_3) (c := c_4) (xs := b_2) (iv := x_6) (j := 0) rfl (by kernel_rfl) (by kernel_rfl) (by kernel_rfl) (by kernel_rfl) rfl Reads.rd rfl h8.1 h8.2 (by decide) rfl ?_)
      refine OpTo.go (GoO.ldE' (K := Kd.u8) (A := A_3) (c := c_4) (xs := b_2) (iN := x_6.toNat) (off := 0) (j := 0) rfl (by kernel_rfl) rfl Reads.rd (idx_lt h8.1 h8.2) (by decide) (Opn.flat _ _ _ _ _) (v := fun _ => .int .u8 (((rdL b_2 x_6)).toNat : Int)) (fun _ => by kernel_rfl) _ (fun _ => rfl) (fun _ => ?_))
      refine GoO.exec (is := [2]) (hs := [.p]) (rest := []) (ks := [5, 7, 10, 11, 12]) (env' := [(5, .int .u32 x_5), (7, .int .u8 (((rdL b_2 x_6)).toNat : Int)), (10, .slice A_3 b_2.length c_4), (11, .int .i64 (b_2.length : Int)), (12, .int .i64 x_6)]) (H' := []) (ps := []) (by kernel_rfl) trivial ?_
      refine GoO.regionEnd ?_
      refine GoO.seq' c16_19e ?_
      refine GoO.region' (is := [0, 1, 2, 3, 4]) c16_20e (by kernel_rfl) ?_
      refine GoO.exec (is := [0, 1, 2, 3, 4]) (hs := [.p, .p, .p, .p, .p]) (rest := []) (ks := [5, 10, 11, 12]) (env' := [(5, .int .u32 (bXor .u32 x_5 (wu32 (((rdL b_2 x_6)).toNat : Int)))), (10, .slice A_3 b_2.length c_4), (11, .int .i64 (b_2.length : Int)), (12, .int .i64 x_6)]) (H' := []) (ps := []) (by kernel_rfl) trivial ?_
      refine GoO.regionEnd ?_
      refine GoO.seq' c16_21e ?_
      refine GoO.region' (is := [0]) c16_22e (by kernel_rfl) ?_
      refine GoO.exec (is := [0]) (hs := [.p]) (rest := []) (ks := [5, 10, 11, 12, 20]) (env' := [(5, .int .u32 (bXor .u32 x_5 (wu32 (((rdL b_2 x_6)).toNat : Int)))), (10, .slice A_3 b_2.length c_4), (11, .int .i64 (b_2.length : Int)), (12, .int .i64 x_6), (20, .int .i64 0)]) (H' := []) (ps := []) (by kernel_rfl) trivial ?_
      refine GoO.regionEnd ?_
      refine GoO.block' c16_23e ?_
      refine GoO.loop' c16_24e ?_
      exact GoO.sub (ks := [5, 10, 11, 12, 20]) (hk := []) (bk := [0]) (by kernel_rfl) (by kernel_rfl) (by kernel_rfl) (crc_Add_l1_ok n (crc_Add.l0 n b_2 k) b_2 x_5 x_6 A_3 c_4 w0 S0 ih0 n (bXor .u32 x_5 (wu32 (((rdL b_2 x_6)).toNat : Int))) 0)
    · refine GoO.exit' c16_14e rfl ?_
      refine GoO.seq' c16_36e ?_
      refine GoO.region' (is := [0, 1, 2]) c16_37e (by kernel_rfl) ?_
      refine GoO.exec (is := [0, 1, 2]) (hs := [.p, .p, .p]) (rest := []) (ks := [4]) (env' := [(4, .int .u32 (bNot .u32 x_5))]) (H' := []) (ps := []) (by kernel_rfl) trivial ?_
      refine GoO.regionEnd ?_
      exact GoO.ret' (h := c16_38e) (hs := []) (ps := []) (hk := []) (bk := []) Try.func16 () (by kernel_rfl) trivial (by kernel_rfl) (by kernel_rfl)
theorem crc_Add_ok (n : Nat) (sum_1 : Int) (b_2 : (List UInt8)) (A_3 : Option Addr) (c_4 : Nat) :
    Meets Try.prog 16 [.int .u32 sum_1, .slice A_3 b_2.length c_4] 0 [] [] [Rd 0 Kd.u8 A_3 c_4 b_2] (crc_Add.f n sum_1 b_2) (crc_Add.R A_3 c_4) := by
  refine Meets.of (c := c16_0) (n := 33) Try.func16 (by kernel_rfl) (by kernel_rfl) (by kernel_rfl) fun w0 S0 => ?_
  unfold crc_Add.f
  show GoO (crc_Add.cx A_3 c_4 w0 S0) [(0, .int .u32 sum_1), (1, .slice A_3 b_2.length c_4)] [] [Rd 0 Kd.u8 A_3 c_4 b_2] [.code c16_0] _
  refine GoO.seq' c16_0e ?_
  refine GoO.region' (is := [0]) c16_1e (by kernel_rfl) ?_
  refine GoO.exec (is := [0]) (hs := [.p]) (rest := []) (ks := [0, 1]) (env' := [(0, .int .u32 sum_1), (1, .slice A_3 b_2.length c_4)]) (H' := []) (ps := []) (by kernel_rfl) trivial ?_
  refine GoO.regionEnd ?_
  refine GoO.seq' c16_2e ?_
  refine GoO.region' (is := [0, 1, 2]) c16_3e (by kernel_rfl) ?_
  refine GoO.exec (is := [0, 1, 2]) (hs := [.p, .p, .p]) (rest := []) (ks := [1, 5]) (env' := [(1, .slice A_3 b_2.length c_4), (5, .int .u32 (bNot .u32 sum_1))]) (H' := []) (ps := []) (by kernel_rfl) trivial ?_
  refine GoO.regionEnd ?_
  refine GoO.seq' c16_4e ?_
  refine GoO.seq' c16_5e ?_
  refine GoO.region' (is := [0, 1, 2]) c16_6e (by kernel_rfl) ?_
  refine GoO.exec (is := [0, 1, 2]) (hs := [.p, .p, .p]) (rest := []) (ks := [5, 10, 11, 12]) (env' := [(5, .int .u32 (bNot .u32 sum_1)), (10, .slice A_3 b_2.length c_4), (11, .int .i64 (b_2.length : Int)), (12, .int .i64 0)]) (H' := []) (ps := []) (by kernel_rfl) trivial ?_
  refine GoO.regionEnd ?_
  refine GoO.block' c16_7e ?_
  refine GoO.loop' c16_8e ?_
  exact GoO.sub (ks := [5, 10, 11, 12]) (hk := []) (bk := [0]) (by kernel_rfl) (by kernel_rfl) (by kernel_rfl) (crc_Add_l0_ok n b_2 A_3 c_4 w0 S0 n (bNot .u32 sum_1) 0)

/-! tontine/crc.Sum -/
noncomputable def c18_0 : Code := bodyOf Try.f18
noncomputable def c18_1 : Code := cdL c18_0
noncomputable def c18_2 : Code := cdR c18_0
noncomputable def c18_3 : Code := cdL c18_2
noncomputable def c18_4 : Code := cdR c18_2
noncomputable def r18_1 : Array Oper := cdO c18_1
noncomputable def r18_3 : Array Oper := cdO c18_3
theorem c18_0e : c18_0 = .seq c18_1 c18_2 := by kernel_rfl
theorem c18_1e : c18_1 = .region 0 r18_1 false := by kernel_rfl
theorem c18_2e : c18_2 = .seq c18_3 c18_4 := by kernel_rfl
theorem c18_3e : c18_3 = .region 1 r18_3 false := by kernel_rfl
theorem c18_4e : c18_4 = .ret := by kernel_rfl
noncomputable def crc_Sum.R (A_2 : Option Addr) (c_3 : Nat) : Pst Int where
  ε := Unit
  v := fun r x => .int .u32 r
  H := fun r x => []
  B := fun r x => []
noncomputable def crc_Sum.cx (A_2 : Option Addr) (c_3 : Nat) (w0 : World) (S0 : Fam) : Cx Int := ⟨Try.prog, 18, Try.f18, 5, w0, S0, [], 0, crc_Sum.R A_2 c_3⟩
theorem crc_Sum_ok (n : Nat) (b_1 : (List UInt8)) (A_2 : Option Addr) (c_3 : Nat) :
    Meets Try.prog 18 [.slice A_2 b_1.length c_3] 0 [] [] [Rd 0 Kd.u8 A_2 c_3 b_1] (crc_Sum.f n b_1) (crc_Sum.R A_2 c_3) := by
  refine Meets.of (c := c18_0) (n := 5) Try.func18 (by kernel_rfl) (by kernel_rfl) (by kernel_rfl) fun w0 S0 => ?_
  unfold crc_Sum.f
  show GoO (crc_Sum.cx A_2 c_3 w0 S0) [(0, .slice A_2 b_1.length c_3)] [] [Rd 0 Kd.u8 A_2 c_3 b_1] [.code c18_0] _
  refine GoO.seq' c18_0e ?_
  refine GoO.region' (is := [0]) c18_1e (by kernel_rfl) ?_
  refine GoO.exec (is := [0]) (hs := [.p]) (rest := []) (ks := [0]) (env' := [(0, .slice A_2 b_1.length c_3)]) (H' := []) (ps := []) (by kernel_rfl) trivial ?_
  refine GoO.regionEnd ?_
  refine GoO.seq' c18_2e ?_
  refine GoO.region' (is := [0, 1, 2]) c18_3e (by kernel_rfl) ?_
  refine GoO.exec (is := [0]) (hs := [.p]) (rest := [1, 2]) (ks := [3]) (env' := [(3, .slice A_2 b_1.length c_3)]) (H' := []) (ps := []) (by kernel_rfl) trivial ?_
  refine OpTo.go (GoO.call rfl (by kernel_rfl) (by kernel_rfl) (crc_Add_ok n 0 b_1 A_2 c_3) [[0]] [] [] [(0, 0)] (hks := []) (bks := [0]) (by kernel_rfl) (by kernel_rfl) (by kernel_rfl) (.inl rfl) rfl rfl (by kernel_rfl) (by kernel_rfl) _ (fun _ _ => rfl) _ _ (fun _ _ => rfl) (fun _ _ => rfl) (fun _ _ => by kernel_rfl) (fun _ _ => by kernel_rfl) (fun r_4 x_5 => ?_))
  refine GoO.shape (env' := [(3, .slice A_2 b_1.length c_3), (4, .int .u32 r_4)]) (H' := []) (B' := [Rd 0 Kd.u8 A_2 c_3 b_1]) (ks := [3, 4]) (by kernel_rfl) (by kernel_rfl) (by kernel_rfl) ?_
  refine GoO.exec (is := [2]) (hs := [.p]) (rest := []) (ks := [2]) (env' := [(2, .int .u32 r_4)]) (H' := []) (ps := []) (by kernel_rfl) trivial ?_
  refine GoO.regionEnd ?_
  exact GoO.ret' (h := c18_4e) (hs := []) (ps := []) (hk := []) (bk := []) Try.func18 () (by kernel_rfl) trivial (by kernel_rfl) (by kernel_rfl)

/-! tontine/tontinelaw02.begun -/
noncomputable def c15_0 : Code := bodyOf Try.f15
noncomputable def c15_1 : Code := cdL c15_0
noncomputable def c15_2 : Code := cdR c15_0
noncomputable def c15_3 : Code := cdL c15_2
noncomputable def c15_4 : Code := cdR c15_2
noncomputable def r15_1 : Array Oper := cdO c15_1
noncomputable def r15_3 : Array Oper := cdO c15_3
theorem c15_0e : c15_0 = .seq c15_1 c15_2 := by kernel_rfl
theorem c15_1e : c15_1 = .region 0 r15_1 false := by kernel_rfl
theorem c15_2e : c15_2 = .seq c15_3 c15_4 := by kernel_rfl
theorem c15_3e : c15_3 = .region 1 r15_3 false := by kernel_rfl
theorem c15_4e : c15_4 = .ret := by kernel_rfl
noncomputable def tontinelaw02_begun.R : Pst Bool where
  ε := Unit
  v := fun r x => .bool r
  H := fun r x => []
  B := fun r x => []
noncomputable def tontinelaw02_begun.cx (w0 : World) (S0 : Fam) : Cx Bool := ⟨Try.prog, 15, Try.f15, 9, w0, S0, [], 0, tontinelaw02_begun.R⟩
theorem tontinelaw02_begun_ok (n : Nat) :
    Meets Try.prog 15 [] 0 [] [] [] (tontinelaw02_begun.f n) (tontinelaw02_begun.R) := by
  refine Meets.of (c := c15_0) (n := 9) Try.func15 (by kernel_rfl) (by kernel_rfl) (by kernel_rfl) fun w0 S0 => ?_
  unfold tontinelaw02_begun.f
  show GoO (tontinelaw02_begun.cx w0 S0) [] [] [] [.code c15_0] _
  refine GoO.seq' c15_0e ?_
  refine GoO.region' (is := [0]) c15_1e (by kernel_rfl) ?_
  refine GoO.exec (is := [0]) (hs := [.p]) (rest := []) (ks := []) (env' := []) (H' := []) (ps := []) (by kernel_rfl) trivial ?_
  refine GoO.regionEnd ?_
  refine GoO.seq' c15_2e ?_
  refine GoO.region' (is := [0, 1, 2, 3, 4, 5, 6, 7, 8]) c15_3e (by kernel_rfl) ?_
  refine OpTo.go (GoO.lit (e := 5) (K := Kd.u8) rfl (by kernel_rfl) (by kernel_rfl) (cs := [.int .u8 49, .int .u8 50, .int .u8 51, .int .u8 52, .int .u8 53, .int .u8 54, .int .u8 55, .int .u8 56, .int .u8 57]) (by kernel_rfl) [(49 : UInt8), (50 : UInt8), (51 : UInt8), (52 : UInt8), (53 : UInt8), (54 : UInt8), (55 : UInt8), (56 : UInt8), (57 : UInt8)] (by kernel_rfl) (by kernel_rfl) (fun w S hB => ⟨[.int .u8 49], _, rfl, rfl, ⟨[.int .u8 50], _, rfl, rfl, ⟨[.int .u8 51], _, rfl, rfl, ⟨[.int .u8 52], _, rfl, rfl, ⟨[.int .u8 53], _, rfl, rfl, ⟨[.int .u8 54], _, rfl, rfl, ⟨[.int .u8 55], _, rfl, rfl, ⟨[.int .u8 56], _, rfl, rfl, ⟨[.int .u8 57], _, rfl, rfl, rfl⟩⟩⟩⟩⟩⟩⟩⟩⟩) 40 _ (fun _ _ => rfl) (fun A_1 c_2 => ?_))
  refine OpTo.go (GoO.markS (e := 5) (A := A_1) (c := c_2) (n := [(49 : UInt8), (50 : UInt8), (51 : UInt8), (52 : UInt8), (53 : UInt8), (54 : UInt8), (55 : UInt8), (56 : UInt8), (57 : UInt8)].length) (xs := [(49 : UInt8), (50 : UInt8), (51 : UInt8), (52 : UInt8), (53 : UInt8), (54 : UInt8), (55 : UInt8), (56 : UInt8), (57 : UInt8)]) (j := 0) (tg := 40) (bk := []) rfl (by kernel_rfl) (by kernel_rfl) (by kernel_rfl) (by kernel_rfl) rfl (by kernel_rfl) (by kernel_rfl) rfl (by kernel_rfl) rfl ?_)
  refine GoO.retag (t := 40) (u := 0) (j := 0) (hk := []) (bk := []) rfl rfl rfl rfl rfl rfl (by kernel_rfl) (by kernel_rfl) ?_
  refine OpTo.go (GoO.call rfl (by kernel_rfl) (by kernel_rfl) (crc_Sum_ok n [(49 : UInt8), (50 : UInt8), (51 : UInt8), (52 : UInt8), (53 : UInt8), (54 : UInt8), (55 : UInt8), (56 : UInt8), (57 : UInt8)] A_1 c_2) [[0]] [] [] [(0, 0)] (hks := []) (bks := [0]) (by kernel_rfl) (by kernel_rfl) (by kernel_rfl) (.inl rfl) rfl rfl (by kernel_rfl) (by kernel_rfl) _ (fun _ _ => rfl) _ _ (fun _ _ => rfl) (fun _ _ => rfl) (fun _ _ => by kernel_rfl) (fun _ _ => by kernel_rfl) (fun r_3 x_7 => ?_))
  refine GoO.shape (env' := [(1, .slice A_1 [(49 : UInt8), (50 : UInt8), (51 : UInt8), (52 : UInt8), (53 : UInt8), (54 : UInt8), (55 : UInt8), (56 : UInt8), (57 : UInt8)].length c_2), (2, .slice A_1 [(49 : UInt8), (50 : UInt8), (51 : UInt8), (52 : UInt8), (53 : UInt8), (54 : UInt8), (55 : UInt8), (56 : UInt8), (57 : UInt8)].length c_2), (3, .int .u32 r_3)]) (H' := []) (B' := [Rd 0 Kd.u8 A_1 c_2 [(49 : UInt8), (50 : UInt8), (51 : UInt8), (52 : UInt8), (53 : UInt8), (54 : UInt8), (55 : UInt8), (56 : UInt8), (57 : UInt8)]]) (ks := [1, 2, 3]) (by kernel_rfl) (by kernel_rfl) (by kernel_rfl) ?_
  refine GoO.exec (is := [3, 4]) (hs := [.p, .p]) (rest := [5, 6, 7, 8]) (ks := [5]) (env' := [(5, .bool (r_3 == 3808858755))]) (H' := []) (ps := []) (by kernel_rfl) trivial ?_
  refine GoO.bsplit (t := 5) (by kernel_rfl) (fun h4 => ?_) (fun h4 => ?_)
  · refine GoO.nilRd Kd.u8 ?_
    refine OpTo.go (GoO.call rfl (by kernel_rfl) (by kernel_rfl) (crc_Sum_ok n ([] : List UInt8) none 0) [[0]] [] [] [(0, 0)] (hks := []) (bks := [0, 1]) (by kernel_rfl) (by kernel_rfl) (by kernel_rfl) (.inl rfl) rfl rfl (by kernel_rfl) (by kernel_rfl) _ (fun _ _ => rfl) _ _ (fun _ _ => rfl) (fun _ _ => rfl) (fun _ _ => by kernel_rfl) (fun _ _ => by kernel_rfl) (fun r_5 x_6 => ?_))
    refine GoO.shape (env' := [(5, .bool true), (6, .int .u32 r_5)]) (H' := []) (B' := [Rd 0 Kd.u8 none 0 ([] : List UInt8), Rd 0 Kd.u8 A_1 c_2 [(49 : UInt8), (50 : UInt8), (51 : UInt8), (52 : UInt8), (53 : UInt8), (54 : UInt8), (55 : UInt8), (56 : UInt8), (57 : UInt8)]]) (ks := [5, 6]) (by kernel_rfl) (by kernel_rfl) (by kernel_rfl) ?_
    refine GoO.exec (is := [6, 7, 8]) (hs := [.p, .p, .p]) (rest := []) (ks := [0]) (env' := [(0, .bool (r_5 == 0))]) (H' := []) (ps := []) (by kernel_rfl) trivial ?_
    refine GoO.regionEnd ?_
    exact GoO.ret' (h := c15_4e) (hs := []) (ps := []) (hk := []) (bk := []) Try.func15 () (by kernel_rfl) trivial (by kernel_rfl) (by kernel_rfl)
  · refine GoO.exec (is := [5, 6, 7, 8]) (hs := [.p, .p, .p, .p]) (rest := []) (ks := [0]) (env' := [(0, .bool false)]) (H' := []) (ps := []) (by kernel_rfl) trivial ?_
    refine GoO.regionEnd ?_
    exact GoO.ret' (h := c15_4e) (hs := []) (ps := []) (hk := []) (bk := []) Try.func15 () (by kernel_rfl) trivial (by kernel_rfl) (by kernel_rfl)

/-! tontine/crc.times -/
noncomputable def c29_0 : Code := bodyOf Try.f29
noncomputable def c29_1 : Code := cdL c29_0
noncomputable def c29_2 : Code := cdR c29_0
noncomputable def c29_3 : Code := cdL c29_2
noncomputable def c29_4 : Code := cdR c29_2
noncomputable def c29_5 : Code := cdL c29_4
noncomputable def c29_6 : Code := cdL c29_5
noncomputable def c29_7 : Code := cdR c29_5
noncomputable def c29_8 : Code := cdL c29_7
noncomputable def c29_9 : Code := cdL c29_8
noncomputable def c29_10 : Code := cdL c29_9
noncomputable def c29_11 : Code := cdL c29_10
noncomputable def c29_12 : Code := cdR c29_10
noncomputable def c29_13 : Code := cdL c29_12
noncomputable def c29_14 : Code := cdR c29_12
noncomputable def c29_15 : Code := cdR c29_9
noncomputable def c29_16 : Code := cdL c29_15
noncomputable def c29_17 : Code := cdL c29_16
noncomputable def c29_18 : Code := cdL c29_17
noncomputable def c29_19 : Code := cdR c29_17
noncomputable def c29_20 : Code := cdR c29_15
noncomputable def c29_21 : Code := cdR c29_4
noncomputable def c29_22 : Code := cdL c29_21
noncomputable def c29_23 : Code := cdR c29_21
noncomputable def r29_1 : Array Oper := cdO c29_1
noncomputable def r29_3 : Array Oper := cdO c29_3
noncomputable def r29_6 : Array Oper := cdO c29_6
noncomputable def r29_11 : Array Oper := cdO c29_11
noncomputable def r29_18 : Array Oper := cdO c29_18
noncomputable def r29_19 : Array Oper := cdO c29_19
noncomputable def r29_20 : Array Oper := cdO c29_20
noncomputable def r29_22 : Array Oper := cdO c29_22
theorem c29_0e : c29_0 = .seq c29_1 c29_2 := by kernel_rfl
theorem c29_1e : c29_1 = .region 0 r29_1 false := by kernel_rfl
theorem c29_2e : c29_2 = .seq c29_3 c29_4 := by kernel_rfl
theorem c29_3e : c29_3 = .region 1 r29_3 false := by kernel_rfl
theorem c29_4e : c29_4 = .seq c29_5 c29_21 := by kernel_rfl
theorem c29_5e : c29_5 = .seq c29_6 c29_7 := by kernel_rfl
theorem c29_6e : c29_6 = .region 2 r29_6 false := by kernel_rfl
theorem c29_7e : c29_7 = .block 0 c29_8 := by kernel_rfl
theorem c29_8e : c29_8 = .loop c29_9 := by kernel_rfl
theorem c29_9e : c29_9 = .seq c29_10 c29_15 := by kernel_rfl
theorem c29_10e : c29_10 = .seq c29_11 c29_12 := by kernel_rfl
theorem c29_11e : c29_11 = .region 3 r29_11 false := by kernel_rfl
theorem c29_12e : c29_12 = .cond (cdC c29_12) c29_13 c29_14 := by kernel_rfl
theorem c29_13e : c29_13 = .skip := by kernel_rfl
theorem c29_14e : c29_14 = .exit 0 := by kernel_rfl
theorem c29_15e : c29_15 = .seq c29_16 c29_20 := by kernel_rfl
theorem c29_16e : c29_16 = .block 1 c29_17 := by kernel_rfl
theorem c29_17e : c29_17 = .seq c29_18 c29_19 := by kernel_rfl
theorem c29_18e : c29_18 = .region 5 r29_18 false := by kernel_rfl
theorem c29_19e : c29_19 = .region 6 r29_19 false := by kernel_rfl
theorem c29_20e : c29_20 = .region 4 r29_20 false := by kernel_rfl
theorem c29_21e : c29_21 = .seq c29_22 c29_23 := by kernel_rfl
theorem c29_22e : c29_22 = .region 7 r29_22 false := by kernel_rfl
theorem c29_23e : c29_23 = .ret := by kernel_rfl
noncomputable def crc_times.R : Pst Int where
  ε := Unit
  v := fun r x => .int .u32 r
  H := fun r x => []
  B := fun r x => []
noncomputable def crc_times.cx (w0 : World) (S0 : Fam) : Cx Int := ⟨Try.prog, 29, Try.f29, 23, w0, S0, [], 0, crc_times.R⟩
theorem crc_times_l0_ok (n : Nat) (m_1 : (List Int)) (b_3 : Nat) (w0 : World) (S0 : Fam) :
    ∀ (k : Nat) (x_4 : Int) (y_5 : Int) (i_6 : Int), GoO (crc_times.cx w0 S0) [(1, .int .u32 x_4), (2, .pointer (some ⟨b_3, 0, none⟩)), (5, .int .u32 y_5), (6, .int .i64 i_6)] [⟨40, b_3, arrV .u32 m_1⟩] [] [.code c29_9, .inLoop c29_9, .inBlock 0, .code c29_21] (crc_times.l0 n m_1 k x_4 y_5 i_6) := by
  intro k
  induction k with
  | zero => intros; rw [crc_times.l0.eq_1]; exact GoO.stop
  | succ k ih0 =>
    intro x_4 y_5 i_6
    rw [crc_times.l0.eq_2]
    refine GoO.seq' c29_9e ?_
    refine GoO.seq' c29_10e ?_
    refine GoO.region' (is := [0, 1]) c29_11e (by kernel_rfl) ?_
    refine GoO.exec (is := [0, 1]) (hs := [.p, .p]) (rest := []) (ks := [1, 2, 5, 6, 8]) (env' := [(1, .int .u32 x_4), (2, .pointer (some ⟨b_3, 0, none⟩)), (5, .int .u32 y_5), (6, .int .i64 i_6), (8, .bool (decide (x_4 > 0)))]) (H' := [⟨40, b_3, arrV .u32 m_1⟩]) (ps := []) (by kernel_rfl) trivial ?_
    refine GoO.regionEnd ?_
    refine GoO.ite' c29_12e (by kernel_rfl) (fun h7 => ?_) (fun h7 => ?_)
    · refine GoO.skip' c29_13e ?_
      refine GoO.seq' c29_15e ?_
      refine GoO.block' c29_16e ?_
      refine GoO.seq' c29_17e ?_
      refine GoO.region' (is := [0, 1, 2, 3, 4, 5, 6, 7, 8, 9]) c29_18e (by kernel_rfl) ?_
      refine GoO.exec (is := [0, 1]) (hs := [.p, .p]) (rest := [2, 3, 4, 5, 6, 7, 8, 9]) (ks := [1, 2, 6, 11, 12]) (env' := [(1, .int .u32 x_4), (2, .pointer (some ⟨b_3, 0, none⟩)), (6, .int .i64 i_6), (11, .int .u32 y_5), (12, .int .i64 i_6)]) (H' := [⟨40, b_3, arrV .u32 m_1⟩]) (ps := []) (by kernel_rfl) trivial ?_
      refine GoO.guard (fun h8 => ?_)
      refine OpTo.go (GoO.idxB (b := b_3) (n := 32) (e := 22) (kk := .i64) (iv := i_6) rfl (by kernel_rfl) (by kernel_rfl) (by kernel_rfl) (by kernel_rfl) h8.1 h8.2 rfl ?_)
      refine GoO.guard (fun h9 => ?_)
      refine OpTo.go (GoO.ldB (j := 0) rfl rfl rfl (loadBx_elt (by kernel_rfl) h9.2.1 h9.2.2) rfl ?_)
      refine GoO.exec (is := [4, 5, 6, 7, 8, 9]) (hs := [.p, .p, .p, .p, .p, .p]) (rest := []) (ks := [1, 2, 5, 6]) (env' := [(1, .int .u32 x_4), (2, .pointer (some ⟨b_3, 0, none⟩)), (5, .int .u32 (bXor .u32 y_5 (bAnd .u32 (rdL m_1 i_6) (wu32 (0 - (bAnd .u32 x_4 1)))))), (6, .int .i64 i_6)]) (H' := [⟨40, b_3, arrV .u32 m_1⟩]) (ps := []) (by kernel_rfl) trivial ?_
      refine GoO.regionEnd ?_
      refine GoO.region' (is := [0, 1, 2]) c29_19e (by kernel_rfl) ?_
      refine GoO.exec (is := [0, 1, 2]) (hs := [.p, .p, .p]) (rest := []) (ks := [1, 2, 5, 6]) (env' := [(1, .int .u32 (shR .u32 x_4 1)), (2, .pointer (some ⟨b_3, 0, none⟩)), (5, .int .u32 (bXor .u32 y_5 (bAnd .u32 (rdL m_1 i_6) (wu32 (0 - (bAnd .u32 x_4 1)))))), (6, .int .i64 i_6)]) (H' := [⟨40, b_3, arrV .u32 m_1⟩]) (ps := [(0 : Int) ≤ 1]) (by kernel_rfl) (And.intro (by decide) trivial) ?_
      refine GoO.regionEnd ?_
      refine GoO.inBlock ?_
      refine GoO.region' (is := [0, 1, 2]) c29_20e (by kernel_rfl) ?_
      refine GoO.exec (is := [0, 1, 2]) (hs := [.p, .p, .p]) (rest := []) (ks := [1, 2, 5, 6]) (env' := [(1, .int .u32 (shR .u32 x_4 1)), (2, .pointer (some ⟨b_3, 0, none⟩)), (5, .int .u32 (bXor .u32 y_5 (bAnd .u32 (rdL m_1 i_6) (wu32 (0 - (bAnd .u32 x_4 1)))))), (6, .int .i64 (wi64 (i_6 + 1)))]) (H' := [⟨40, b_3, arrV .u32 m_1⟩]) (ps := []) (by kernel_rfl) trivial ?_
      refine GoO.regionEnd ?_
      refine GoO.inLoop ?_
      exact GoO.sub (ks := [1, 2, 5, 6]) (hk := [0]) (bk := []) (by kernel_rfl) (by kernel_rfl) (by kernel_rfl) (ih0 (shR .u32 x_4 1) (bXor .u32 y_5 (bAnd .u32 (rdL m_1 i_6) (wu32 (0 - (bAnd .u32 x_4 1))))) (wi64 (i_6 + 1)))
    · refine GoO.exit' c29_14e rfl ?_
      refine GoO.seq' c29_21e ?_
      refine GoO.region' (is := [0, 1]) c29_22e (by kernel_rfl) ?_
      refine GoO.exec (is := [0, 1]) (hs := [.p, .p]) (rest := []) (ks := [4]) (env' := [(4, .int .u32 y_5)]) (H' := [⟨40, b_3, arrV .u32 m_1⟩]) (ps := []) (by kernel_rfl) trivial ?_
      refine GoO.regionEnd ?_
      exact GoO.ret' (h := c29_23e) (hs := []) (ps := []) (hk := []) (bk := []) Try.func29 () (by kernel_rfl) trivial (by kernel_rfl) (by kernel_rfl)
theorem crc_times_ok (n : Nat) (m_1 : (List Int)) (x_2 : Int) :
    Meets Try.prog 29 [.agg ⟨arrV .u32 m_1⟩, .int .u32 x_2] 0 [] [] [] (crc_times.f n m_1 x_2) (crc_times.R) := by
  refine Meets.of (c := c29_0) (n := 23) Try.func29 (by kernel_rfl) (by kernel_rfl) (by kernel_rfl) fun w0 S0 => ?_
  unfold crc_times.f
  show GoO (crc_times.cx w0 S0) [(0, .agg ⟨arrV .u32 m_1⟩), (1, .int .u32 x_2)] [] [] [.code c29_0] _
  refine GoO.seq' c29_0e ?_
  refine GoO.region' (is := [0, 1]) c29_1e (by kernel_rfl) ?_
  refine OpTo.go (GoO.new rfl 40 (cs := arrV .u32 m_1) (by kernel_rfl) _ (fun _ => rfl) (fun b_3 => ?_))
  refine GoO.exec (is := [1]) (hs := [.p]) (rest := []) (ks := [1, 2]) (env' := [(1, .int .u32 x_2), (2, .pointer (some ⟨b_3, 0, none⟩))]) (H' := [⟨40, b_3, arrV .u32 m_1⟩]) (ps := []) (by kernel_rfl) trivial ?_
  refine GoO.regionEnd ?_
  refine GoO.seq' c29_2e ?_
  refine GoO.region' (is := [0]) c29_3e (by kernel_rfl) ?_
  refine GoO.exec (is := [0]) (hs := [.p]) (rest := []) (ks := [1, 2, 5]) (env' := [(1, .int .u32 x_2), (2, .pointer (some ⟨b_3, 0, none⟩)), (5, .int .u32 0)]) (H' := [⟨40, b_3, arrV .u32 m_1⟩]) (ps := []) (by kernel_rfl) trivial ?_
  refine GoO.regionEnd ?_
  refine GoO.seq' c29_4e ?_
  refine GoO.seq' c29_5e ?_
  refine GoO.region' (is := [0]) c29_6e (by kernel_rfl) ?_
  refine GoO.exec (is := [0]) (hs := [.p]) (rest := []) (ks := [1, 2, 5, 6]) (env' := [(1, .int .u32 x_2), (2, .pointer (some ⟨b_3, 0, none⟩)), (5, .int .u32 0), (6, .int .i64 0)]) (H' := [⟨40, b_3, arrV .u32 m_1⟩]) (ps := []) (by kernel_rfl) trivial ?_
  refine GoO.regionEnd ?_
  refine GoO.block' c29_7e ?_
  refine GoO.loop' c29_8e ?_
  exact GoO.sub (ks := [1, 2, 5, 6]) (hk := [0]) (bk := []) (by kernel_rfl) (by kernel_rfl) (by kernel_rfl) (crc_times_l0_ok n m_1 b_3 w0 S0 n x_2 0 0)

/-! tontine/crc.squared -/
noncomputable def c30_0 : Code := bodyOf Try.f30
noncomputable def c30_1 : Code := cdL c30_0
noncomputable def c30_2 : Code := cdR c30_0
noncomputable def c30_3 : Code := cdL c30_2
noncomputable def c30_4 : Code := cdR c30_2
noncomputable def c30_5 : Code := cdL c30_4
noncomputable def c30_6 : Code := cdL c30_5
noncomputable def c30_7 : Code := cdR c30_5
noncomputable def c30_8 : Code := cdL c30_7
noncomputable def c30_9 : Code := cdL c30_8
noncomputable def c30_10 : Code := cdL c30_9
noncomputable def c30_11 : Code := cdR c30_9
noncomputable def c30_12 : Code := cdL c30_11
noncomputable def c30_13 : Code := cdL c30_12
noncomputable def c30_14 : Code := cdR c30_12
noncomputable def c30_15 : Code := cdR c30_11
noncomputable def c30_16 : Code := cdL c30_15
noncomputable def c30_17 : Code := cdL c30_16
noncomputable def c30_18 : Code := cdL c30_17
noncomputable def c30_19 : Code := cdR c30_17
noncomputable def c30_20 : Code := cdR c30_15
noncomputable def c30_21 : Code := cdR c30_4
noncomputable def c30_22 : Code := cdL c30_21
noncomputable def c30_23 : Code := cdR c30_21
noncomputable def r30_1 : Array Oper := cdO c30_1
noncomputable def r30_3 : Array Oper := cdO c30_3
noncomputable def r30_6 : Array Oper := cdO c30_6
noncomputable def r30_10 : Array Oper := cdO c30_10
noncomputable def r30_18 : Array Oper := cdO c30_18
noncomputable def r30_19 : Array Oper := cdO c30_19
noncomputable def r30_20 : Array Oper := cdO c30_20
noncomputable def r30_22 : Array Oper := cdO c30_22
theorem c30_0e : c30_0 = .seq c30_1 c30_2 := by kernel_rfl
theorem c30_1e : c30_1 = .region 0 r30_1 false := by kernel_rfl
theorem c30_2e : c30_2 = .seq c30_3 c30_4 := by kernel_rfl
theorem c30_3e : c30_3 = .region 1 r30_3 false := by kernel_rfl
theorem c30_4e : c30_4 = .seq c30_5 c30_21 := by kernel_rfl
theorem c30_5e : c30_5 = .seq c30_6 c30_7 := by kernel_rfl
theorem c30_6e : c30_6 = .region 2 r30_6 false := by kernel_rfl
theorem c30_7e : c30_7 = .block 0 c30_8 := by kernel_rfl
theorem c30_8e : c30_8 = .loop c30_9 := by kernel_rfl
theorem c30_9e : c30_9 = .seq c30_10 c30_11 := by kernel_rfl
theorem c30_10e : c30_10 = .region 3 r30_10 false := by kernel_rfl
theorem c30_11e : c30_11 = .seq c30_12 c30_15 := by kernel_rfl
theorem c30_12e : c30_12 = .cond (cdC c30_12) c30_13 c30_14 := by kernel_rfl
theorem c30_13e : c30_13 = .skip := by kernel_rfl
theorem c30_14e : c30_14 = .exit 0 := by kernel_rfl
theorem c30_15e : c30_15 = .seq c30_16 c30_20 := by kernel_rfl
theorem c30_16e : c30_16 = .block 1 c30_17 := by kernel_rfl
theorem c30_17e : c30_17 = .seq c30_18 c30_19 := by kernel_rfl
theorem c30_18e : c30_18 = .region 4 r30_18 false := by kernel_rfl
theorem c30_19e : c30_19 = .region 5 r30_19 false := by kernel_rfl
theorem c30_20e : c30_20 = .region 6 r30_20 false := by kernel_rfl
theorem c30_21e : c30_21 = .seq c30_22 c30_23 := by kernel_rfl
theorem c30_22e : c30_22 = .region 7 r30_22 false := by kernel_rfl
theorem c30_23e : c30_23 = .ret := by kernel_rfl
noncomputable def crc_squared.R : Pst (List Int) where
  ε := Unit
  v := fun r x => .agg ⟨arrV .u32 r⟩
  H := fun r x => []
  B := fun r x => []
noncomputable def crc_squared.cx (w0 : World) (S0 : Fam) : Cx (List Int) := ⟨Try.prog, 30, Try.f30, 18, w0, S0, [], 0, crc_squared.R⟩
theorem crc_squared_l0_ok (n : Nat) (m_1 : (List Int)) (b_2 : Nat) (b_3 : Nat) (b_4 : Nat) (w0 : World) (S0 : Fam) :
    ∀ (k : Nat) (f_6 : (List Int)) (x_7 : Int), GoO (crc_squared.cx w0 S0) [(1, .pointer (some ⟨b_2, 0, none⟩)), (2, .pointer (some ⟨b_3, 0, none⟩)), (3, .pointer (some ⟨b_4, 0, none⟩)), (6, .agg ⟨arrV .u32 m_1⟩), (7, .int .i64 x_7)] [⟨40, b_2, arrV .u32 m_1⟩, ⟨41, b_3, arrV .u32 (List.replicate 32 (0 : Int))⟩, ⟨42, b_4, arrV .u32 f_6⟩] [] [.code c30_9, .inLoop c30_9, .inBlock 0, .code c30_21] (crc_squared.l0 n m_1 k f_6 x_7) := by
  intro k
  induction k with
  | zero => intros; rw [crc_squared.l0.eq_1]; exact GoO.stop
  | succ k ih0 =>
    intro f_6 x_7
    rw [crc_squared.l0.eq_2]
    refine GoO.seq' c30_9e ?_
    refine GoO.region' (is := [0]) c30_10e (by kernel_rfl) ?_
    refine GoO.exec (is := [0]) (hs := [.p]) (rest := []) (ks := [1, 2, 3, 6, 7, 8]) (env' := [(1, .pointer (some ⟨b_2, 0, none⟩)), (2, .pointer (some ⟨b_3, 0, none⟩)), (3, .pointer (some ⟨b_4, 0, none⟩)), (6, .agg ⟨arrV .u32 m_1⟩), (7, .int .i64 x_7), (8, .bool (decide (x_7 < 32)))]) (H' := [⟨40, b_2, arrV .u32 m_1⟩, ⟨41, b_3, arrV .u32 (List.replicate 32 (0 : Int))⟩, ⟨42, b_4, arrV .u32 f_6⟩]) (ps := []) (by kernel_rfl) trivial ?_
    refine GoO.regionEnd ?_
    refine GoO.seq' c30_11e ?_
    refine GoO.ite' c30_12e (by kernel_rfl) (fun h8 => ?_) (fun h8 => ?_)
    · refine GoO.skip' c30_13e ?_
      refine GoO.seq' c30_15e ?_
      refine GoO.block' c30_16e ?_
      refine GoO.seq' c30_17e ?_
      refine GoO.region' (is := [0, 1, 2, 3]) c30_18e (by kernel_rfl) ?_
      refine GoO.exec (is := [0]) (hs := [.p]) (rest := [1, 2, 3]) (ks := [1, 2, 3, 6, 7, 9]) (env' := [(1, .pointer (some ⟨b_2, 0, none⟩)), (2, .pointer (some ⟨b_3, 0, none⟩)), (3, .pointer (some ⟨b_4, 0, none⟩)), (6, .agg ⟨arrV .u32 m_1⟩), (7, .int .i64 x_7), (9, .int .i64 x_7)]) (H' := [⟨40, b_2, arrV .u32 m_1⟩, ⟨41, b_3, arrV .u32 (List.replicate 32 (0 : Int))⟩, ⟨42, b_4, arrV .u32 f_6⟩]) (ps := []) (by kernel_rfl) trivial ?_
      refine GoO.guard (fun h9 => ?_)
      refine OpTo.go (GoO.idxV (n := 32) (e := 22) (kk := .u32) (L := m_1) rfl rfl rfl (by kernel_rfl) (by kernel_rfl) h9.1 h9.2.1 h9.2.2 rfl ?_)
      refine GoO.exec (is := [2, 3]) (hs := [.p, .p]) (rest := []) (ks := [1, 2, 3, 4, 5, 6, 7]) (env' := [(1, .pointer (some ⟨b_2, 0, none⟩)), (2, .pointer (some ⟨b_3, 0, none⟩)), (3, .pointer (some ⟨b_4, 0, none⟩)), (4, .int .i64 x_7), (5, .int .u32 (rdL m_1 x_7)), (6, .agg ⟨arrV .u32 m_1⟩), (7, .int .i64 x_7)]) (H' := [⟨40, b_2, arrV .u32 m_1⟩, ⟨41, b_3, arrV .u32 (List.replicate 32 (0 : Int))⟩, ⟨42, b_4, arrV .u32 f_6⟩]) (ps := []) (by kernel_rfl) trivial ?_
      refine GoO.regionEnd ?_
      refine GoO.region' (is := [0, 1, 2, 3, 4, 5]) c30_19e (by kernel_rfl) ?_
      refine GoO.exec (is := [0]) (hs := [.p]) (rest := [1, 2, 3, 4, 5]) (ks := [1, 2, 3, 5, 6, 7, 11]) (env' := [(1, .pointer (some ⟨b_2, 0, none⟩)), (2, .pointer (some ⟨b_3, 0, none⟩)), (3, .pointer (some ⟨b_4, 0, none⟩)), (5, .int .u32 (rdL m_1 x_7)), (6, .agg ⟨arrV .u32 m_1⟩), (7, .int .i64 x_7), (11, .int .i64 x_7)]) (H' := [⟨40, b_2, arrV .u32 m_1⟩, ⟨41, b_3, arrV .u32 (List.replicate 32 (0 : Int))⟩, ⟨42, b_4, arrV .u32 f_6⟩]) (ps := []) (by kernel_rfl) trivial ?_
      refine GoO.guard (fun h10 => ?_)
      refine OpTo.go (GoO.ldB (j := 0) rfl rfl rfl (loadBx_arr (by kernel_rfl) h10) rfl ?_)
      refine GoO.exec (is := [2]) (hs := [.p]) (rest := [3, 4, 5]) (ks := [1, 2, 3, 6, 7, 11, 12, 13]) (env' := [(1, .pointer (some ⟨b_2, 0, none⟩)), (2, .pointer (some ⟨b_3, 0, none⟩)), (3, .pointer (some ⟨b_4, 0, none⟩)), (6, .agg ⟨arrV .u32 m_1⟩), (7, .int .i64 x_7), (11, .int .i64 x_7), (12, .agg ⟨arrV .u32 m_1⟩), (13, .int .u32 (rdL m_1 x_7))]) (H' := [⟨40, b_2, arrV .u32 m_1⟩, ⟨41, b_3, arrV .u32 (List.replicate 32 (0 : Int))⟩, ⟨42, b_4, arrV .u32 f_6⟩]) (ps := []) (by kernel_rfl) trivial ?_
      refine OpTo.go (GoO.call rfl (by kernel_rfl) (by kernel_rfl) (crc_times_ok n m_1 (rdL m_1 x_7)) [[0]] [] [] [] (hks := [0, 1, 2]) (bks := []) (by kernel_rfl) (by kernel_rfl) (by kernel_rfl) (.inl rfl) rfl rfl (by kernel_rfl) (by kernel_rfl) _ (fun _ _ => rfl) _ _ (fun _ _ => rfl) (fun _ _ => rfl) (fun _ _ => by kernel_rfl) (fun _ _ => by kernel_rfl) (fun r_11 x_14 => ?_))
      refine GoO.shape (env' := [(1, .pointer (some ⟨b_2, 0, none⟩)), (2, .pointer (some ⟨b_3, 0, none⟩)), (3, .pointer (some ⟨b_4, 0, none⟩)), (6, .agg ⟨arrV .u32 m_1⟩), (7, .int .i64 x_7), (11, .int .i64 x_7), (12, .agg ⟨arrV .u32 m_1⟩), (13, .int .u32 (rdL m_1 x_7)), (14, .int .u32 r_11)]) (H' := [⟨40, b_2, arrV .u32 m_1⟩, ⟨41, b_3, arrV .u32 (List.replicate 32 (0 : Int))⟩, ⟨42, b_4, arrV .u32 f_6⟩]) (B' := []) (ks := [1, 2, 3, 6, 7, 11, 12, 13, 14]) (by kernel_rfl) (by kernel_rfl) (by kernel_rfl) ?_
      refine GoO.guard (fun h12 => ?_)
      refine OpTo.go (GoO.idxB (b := b_4) (n := 32) (e := 22) (kk := .i64) (iv := x_7) rfl (by kernel_rfl) (by kernel_rfl) (by kernel_rfl) (by kernel_rfl) h12.1 h12.2 rfl ?_)
      refine GoO.guard (fun h13 => ?_)
      refine OpTo.go (GoO.stB (j := 2) rfl rfl rfl rfl (storeBx_elt (by kernel_rfl) h13.2.1 h13.2.2 _) (by kernel_rfl) rfl ?_)
      refine GoO.regionEnd ?_
      refine GoO.inBlock ?_
      refine GoO.region' (is := [0, 1]) c30_20e (by kernel_rfl) ?_
      refine GoO.exec (is := [0, 1]) (hs := [.p, .p]) (rest := []) (ks := [1, 2, 3, 6, 7]) (env' := [(1, .pointer (some ⟨b_2, 0, none⟩)), (2, .pointer (some ⟨b_3, 0, none⟩)), (3, .pointer (some ⟨b_4, 0, none⟩)), (6, .agg ⟨arrV .u32 m_1⟩), (7, .int .i64 (wi64 (x_7 + 1)))]) (H' := [⟨40, b_2, arrV .u32 m_1⟩, ⟨41, b_3, arrV .u32 (List.replicate 32 (0 : Int))⟩, ⟨42, b_4, arrV .u32 (f_6.set x_7.toNat r_11)⟩]) (ps := []) (by kernel_rfl) trivial ?_
      refine GoO.regionEnd ?_
      refine GoO.inLoop ?_
      exact GoO.sub (ks := [1, 2, 3, 6, 7]) (hk := [0, 1, 2]) (bk := []) (by kernel_rfl) (by kernel_rfl) (by kernel_rfl) (ih0 (f_6.set x_7.toNat r_11) (wi64 (x_7 + 1)))
    · refine GoO.exit' c30_14e rfl ?_
      refine GoO.seq' c30_21e ?_
      refine GoO.region' (is := [0, 1]) c30_22e (by kernel_rfl) ?_
      refine GoO.guard (fun h15 => ?_)
      refine OpTo.go (GoO.ldB (j := 2) rfl rfl rfl (loadBx_arr (by kernel_rfl) h15) rfl ?_)
      refine GoO.guard (fun h16 => ?_)
      refine OpTo.go (GoO.stB (j := 1) rfl rfl rfl rfl (storeBx_arr (by kernel_rfl) h16.1 h16.2) (by kernel_rfl) rfl ?_)
      refine GoO.regionEnd ?_
      refine GoO.guard (fun h17 => ?_)
      exact GoO.retA (j := 1) (h := c30_23e) (n := 32) (hk := []) (bk := []) Try.func30 rfl () rfl rfl (by kernel_rfl) h17 rfl rfl rfl
theorem crc_squared_ok (n : Nat) (m_1 : (List Int)) :
    Meets Try.prog 30 [.agg ⟨arrV .u32 m_1⟩] 0 [] [] [] (crc_squared.f n m_1) (crc_squared.R) := by
  refine Meets.of (c := c30_0) (n := 18) Try.func30 (by kernel_rfl) (by kernel_rfl) (by kernel_rfl) fun w0 S0 => ?_
  unfold crc_squared.f
  show GoO (crc_squared.cx w0 S0) [(0, .agg ⟨arrV .u32 m_1⟩)] [] [] [.code c30_0] _
  refine GoO.seq' c30_0e ?_
  refine GoO.region' (is := [0, 1]) c30_1e (by kernel_rfl) ?_
  refine OpTo.go (GoO.new rfl 40 (cs := arrV .u32 m_1) (by kernel_rfl) _ (fun _ => rfl) (fun b_2 => ?_))
  refine OpTo.go (GoO.new rfl 41 (cs := arrV .u32 (List.replicate 32 (0 : Int))) (by kernel_rfl) _ (fun _ => rfl) (fun b_3 => ?_))
  refine GoO.regionEnd ?_
  refine GoO.seq' c30_2e ?_
  refine GoO.region' (is := [0]) c30_3e (by kernel_rfl) ?_
  refine OpTo.go (GoO.new rfl 42 (cs := arrV .u32 (List.replicate 32 (0 : Int))) (by kernel_rfl) _ (fun _ => rfl) (fun b_4 => ?_))
  refine GoO.regionEnd ?_
  refine GoO.seq' c30_4e ?_
  refine GoO.seq' c30_5e ?_
  refine GoO.region' (is := [0, 1]) c30_6e (by kernel_rfl) ?_
  refine GoO.guard (fun h5 => ?_)
  refine OpTo.go (GoO.ldB (j := 2) rfl rfl rfl (loadBx_arr (by kernel_rfl) h5) rfl ?_)
  refine GoO.exec (is := [1]) (hs := [.p]) (rest := []) (ks := [1, 2, 3, 6, 7]) (env' := [(1, .pointer (some ⟨b_2, 0, none⟩)), (2, .pointer (some ⟨b_3, 0, none⟩)), (3, .pointer (some ⟨b_4, 0, none⟩)), (6, .agg ⟨arrV .u32 m_1⟩), (7, .int .i64 0)]) (H' := [⟨42, b_4, arrV .u32 (List.replicate 32 (0 : Int))⟩, ⟨41, b_3, arrV .u32 (List.replicate 32 (0 : Int))⟩, ⟨40, b_2, arrV .u32 m_1⟩]) (ps := []) (by kernel_rfl) trivial ?_
  refine GoO.regionEnd ?_
  refine GoO.block' c30_7e ?_
  refine GoO.loop' c30_8e ?_
  exact GoO.sub (ks := [1, 2, 3, 6, 7]) (hk := [2, 1, 0]) (bk := []) (by kernel_rfl) (by kernel_rfl) (by kernel_rfl) (crc_squared_l0_ok n m_1 b_2 b_3 b_4 w0 S0 n (List.replicate 32 (0 : Int)) 0)

/-! tontine/crc.Join -/
noncomputable def c24_0 : Code := bodyOf Try.f24
noncomputable def c24_1 : Code := cdL c24_0
noncomputable def c24_2 : Code := cdR c24_0
noncomputable def c24_3 : Code := cdL c24_2
noncomputable def c24_4 : Code := cdL c24_3
noncomputable def c24_5 : Code := cdR c24_3
noncomputable def c24_6 : Code := cdL c24_5
noncomputable def c24_7 : Code := cdL c24_6
noncomputable def c24_8 : Code := cdR c24_6
noncomputable def c24_9 : Code := cdR c24_5
noncomputable def c24_10 : Code := cdR c24_2
noncomputable def c24_11 : Code := cdL c24_10
noncomputable def c24_12 : Code := cdR c24_10
noncomputable def c24_13 : Code := cdL c24_12
noncomputable def c24_14 : Code := cdR c24_12
noncomputable def c24_15 : Code := cdL c24_14
noncomputable def c24_16 : Code := cdL c24_15
noncomputable def c24_17 : Code := cdR c24_15
noncomputable def c24_18 : Code := cdL c24_17
noncomputable def c24_19 : Code := cdL c24_18
noncomputable def c24_20 : Code := cdL c24_19
noncomputable def c24_21 : Code := cdL c24_20
noncomputable def c24_22 : Code := cdR c24_20
noncomputable def c24_23 : Code := cdL c24_22
noncomputable def c24_24 : Code := cdR c24_22
noncomputable def c24_25 : Code := cdR c24_19
noncomputable def c24_26 : Code := cdL c24_25
noncomputable def c24_27 : Code := cdL c24_26
noncomputable def c24_28 : Code := cdR c24_25
noncomputable def c24_29 : Code := cdR c24_14
noncomputable def c24_30 : Code := cdL c24_29
noncomputable def c24_31 : Code := cdL c24_30
noncomputable def c24_32 : Code := cdR c24_30
noncomputable def c24_33 : Code := cdL c24_32
noncomputable def c24_34 : Code := cdL c24_33
noncomputable def c24_35 : Code := cdL c24_34
noncomputable def c24_36 : Code := cdL c24_35
noncomputable def c24_37 : Code := cdR c24_35
noncomputable def c24_38 : Code := cdL c24_37
noncomputable def c24_39 : Code := cdR c24_37
noncomputable def c24_40 : Code := cdR c24_34
noncomputable def c24_41 : Code := cdL c24_40
noncomputable def c24_42 : Code := cdL c24_41
noncomputable def c24_43 : Code := cdL c24_42
noncomputable def c24_44 : Code := cdL c24_43
noncomputable def c24_45 : Code := cdR c24_43
noncomputable def c24_46 : Code := cdL c24_45
noncomputable def c24_47 : Code := cdR c24_45
noncomputable def c24_48 : Code := cdR c24_42
noncomputable def c24_49 : Code := cdR c24_40
noncomputable def c24_50 : Code := cdR c24_29
noncomputable def c24_51 : Code := cdL c24_50
noncomputable def c24_52 : Code := cdR c24_50
noncomputable def r24_1 : Array Oper := cdO c24_1
noncomputable def r24_4 : Array Oper := cdO c24_4
noncomputable def r24_7 : Array Oper := cdO c24_7
noncomputable def r24_11 : Array Oper := cdO c24_11
noncomputable def r24_13 : Array Oper := cdO c24_13
noncomputable def r24_16 : Array Oper := cdO c24_16
noncomputable def r24_21 : Array Oper := cdO c24_21
noncomputable def r24_27 : Array Oper := cdO c24_27
noncomputable def r24_28 : Array Oper := cdO c24_28
noncomputable def r24_31 : Array Oper := cdO c24_31
noncomputable def r24_36 : Array Oper := cdO c24_36
noncomputable def r24_44 : Array Oper := cdO c24_44
noncomputable def r24_46 : Array Oper := cdO c24_46
noncomputable def r24_48 : Array Oper := cdO c24_48
noncomputable def r24_49 : Array Oper := cdO c24_49
noncomputable def r24_51 : Array Oper := cdO c24_51
theorem c24_0e : c24_0 = .seq c24_1 c24_2 := by kernel_rfl
theorem c24_1e : c24_1 = .region 0 r24_1 false := by kernel_rfl
theorem c24_2e : c24_2 = .seq c24_3 c24_10 := by kernel_rfl
theorem c24_3e : c24_3 = .seq c24_4 c24_5 := by kernel_rfl
theorem c24_4e : c24_4 = .region 1 r24_4 false := by kernel_rfl
theorem c24_5e : c24_5 = .cond (cdC c24_5) c24_6 c24_9 := by kernel_rfl
theorem c24_6e : c24_6 = .seq c24_7 c24_8 := by kernel_rfl
theorem c24_7e : c24_7 = .region 2 r24_7 false := by kernel_rfl
theorem c24_8e : c24_8 = .ret := by kernel_rfl
theorem c24_9e : c24_9 = .skip := by kernel_rfl
theorem c24_10e : c24_10 = .seq c24_11 c24_12 := by kernel_rfl
theorem c24_11e : c24_11 = .region 3 r24_11 false := by kernel_rfl
theorem c24_12e : c24_12 = .seq c24_13 c24_14 := by kernel_rfl
theorem c24_13e : c24_13 = .region 4 r24_13 false := by kernel_rfl
theorem c24_14e : c24_14 = .seq c24_15 c24_29 := by kernel_rfl
theorem c24_15e : c24_15 = .seq c24_16 c24_17 := by kernel_rfl
theorem c24_16e : c24_16 = .region 5 r24_16 false := by kernel_rfl
theorem c24_17e : c24_17 = .block 0 c24_18 := by kernel_rfl
theorem c24_18e : c24_18 = .loop c24_19 := by kernel_rfl
theorem c24_19e : c24_19 = .seq c24_20 c24_25 := by kernel_rfl
theorem c24_20e : c24_20 = .seq c24_21 c24_22 := by kernel_rfl
theorem c24_21e : c24_21 = .region 6 r24_21 false := by kernel_rfl
theorem c24_22e : c24_22 = .cond (cdC c24_22) c24_23 c24_24 := by kernel_rfl
theorem c24_23e : c24_23 = .skip := by kernel_rfl
theorem c24_24e : c24_24 = .exit 0 := by kernel_rfl
theorem c24_25e : c24_25 = .seq c24_26 c24_28 := by kernel_rfl
theorem c24_26e : c24_26 = .block 1 c24_27 := by kernel_rfl
theorem c24_27e : c24_27 = .region 8 r24_27 false := by kernel_rfl
theorem c24_28e : c24_28 = .region 7 r24_28 false := by kernel_rfl
theorem c24_29e : c24_29 = .seq c24_30 c24_50 := by kernel_rfl
theorem c24_30e : c24_30 = .seq c24_31 c24_32 := by kernel_rfl
theorem c24_31e : c24_31 = .region 9 r24_31 false := by kernel_rfl
theorem c24_32e : c24_32 = .block 2 c24_33 := by kernel_rfl
theorem c24_33e : c24_33 = .loop c24_34 := by kernel_rfl
theorem c24_34e : c24_34 = .seq c24_35 c24_40 := by kernel_rfl
theorem c24_35e : c24_35 = .seq c24_36 c24_37 := by kernel_rfl
theorem c24_36e : c24_36 = .region 10 r24_36 false := by kernel_rfl
theorem c24_37e : c24_37 = .cond (cdC c24_37) c24_38 c24_39 := by kernel_rfl
theorem c24_38e : c24_38 = .skip := by kernel_rfl
theorem c24_39e : c24_39 = .exit 2 := by kernel_rfl
theorem c24_40e : c24_40 = .seq c24_41 c24_49 := by kernel_rfl
theorem c24_41e : c24_41 = .block 3 c24_42 := by kernel_rfl
theorem c24_42e : c24_42 = .seq c24_43 c24_48 := by kernel_rfl
theorem c24_43e : c24_43 = .seq c24_44 c24_45 := by kernel_rfl
theorem c24_44e : c24_44 = .region 12 r24_44 false := by kernel_rfl
theorem c24_45e : c24_45 = .cond (cdC c24_45) c24_46 c24_47 := by kernel_rfl
theorem c24_46e : c24_46 = .region 13 r24_46 false := by kernel_rfl
theorem c24_47e : c24_47 = .skip := by kernel_rfl
theorem c24_48e : c24_48 = .region 14 r24_48 false := by kernel_rfl
theorem c24_49e : c24_49 = .region 11 r24_49 false := by kernel_rfl
theorem c24_50e : c24_50 = .seq c24_51 c24_52 := by kernel_rfl
theorem c24_51e : c24_51 = .region 15 r24_51 false := by kernel_rfl
theorem c24_52e : c24_52 = .ret := by kernel_rfl
noncomputable def crc_Join.R : Pst Int where
  ε := Unit
  v := fun r x => .int .u32 r
  H := fun r x => []
  B := fun r x => []
noncomputable def crc_Join.cx (w0 : World) (S0 : Fam) : Cx Int := ⟨Try.prog, 24, Try.f24, 41, w0, S0, [], 0, crc_Join.R⟩
theorem crc_Join_l1_ok (n : Nat) (b_2 : Int) (b_5 : Nat) (w0 : World) (S0 : Fam) :
    ∀ (k : Nat) (a_15 : Int) (f_16 : (List Int)) (k_17 : Int), GoO (crc_Join.cx w0 S0) [(0, .int .u32 a_15), (1, .int .u32 b_2), (7, .pointer (some ⟨b_5, 0, none⟩)), (9, .int .u64 k_17)] [⟨40, b_5, arrV .u32 f_16⟩] [] [.code c24_34, .inLoop c24_34, .inBlock 2, .code c24_50] (crc_Join.l1 n b_2 k a_15 f_16 k_17) := by
  intro k
  induction k with
  | zero => intros; rw [crc_Join.l1.eq_1]; exact GoO.stop
  | succ k ih1 =>
    intro a_15 f_16 k_17
    rw [crc_Join.l1.eq_2]
    refine GoO.seq' c24_34e ?_
    refine GoO.seq' c24_35e ?_
    refine GoO.region' (is := [0, 1]) c24_36e (by kernel_rfl) ?_
    refine GoO.exec (is := [0, 1]) (hs := [.p, .p]) (rest := []) (ks := [0, 1, 7, 9, 27]) (env' := [(0, .int .u32 a_15), (1, .int .u32 b_2), (7, .pointer (some ⟨b_5, 0, none⟩)), (9, .int .u64 k_17), (27, .bool (decide (k_17 > 0)))]) (H' := [⟨40, b_5, arrV .u32 f_16⟩]) (ps := []) (by kernel_rfl) trivial ?_
    refine GoO.regionEnd ?_
    refine GoO.ite' c24_37e (by kernel_rfl) (fun h18 => ?_) (fun h18 => ?_)
    · refine GoO.skip' c24_38e ?_
      refine GoO.seq' c24_40e ?_
      refine GoO.block' c24_41e ?_
      refine GoO.seq' c24_42e ?_
      refine GoO.seq' c24_43e ?_
      refine GoO.region' (is := [0, 1, 2]) c24_44e (by kernel_rfl) ?_
      refine GoO.exec (is := [0, 1, 2]) (hs := [.p, .p, .p]) (rest := []) (ks := [0, 1, 7, 9, 32]) (env' := [(0, .int .u32 a_15), (1, .int .u32 b_2), (7, .pointer (some ⟨b_5, 0, none⟩)), (9, .int .u64 k_17), (32, .bool ((bAnd .u64 k_17 1) == 1))]) (H' := [⟨40, b_5, arrV .u32 f_16⟩]) (ps := []) (by kernel_rfl) trivial ?_
      refine GoO.regionEnd ?_
      refine GoO.ite' c24_45e (by kernel_rfl) (fun h19 => ?_) (fun h19 => ?_)
      · refine GoO.region' (is := [0, 1, 2, 3]) c24_46e (by kernel_rfl) ?_
        refine GoO.guard (fun h20 => ?_)
        refine OpTo.go (GoO.ldB (j := 0) rfl rfl rfl (loadBx_arr (by kernel_rfl) h20) rfl ?_)
        refine GoO.exec (is := [1]) (hs := [.p]) (rest := [2, 3]) (ks := [1, 7, 9, 33, 34]) (env' := [(1, .int .u32 b_2), (7, .pointer (some ⟨b_5, 0, none⟩)), (9, .int .u64 k_17), (33, .agg ⟨arrV .u32 f_16⟩), (34, .int .u32 a_15)]) (H' := [⟨40, b_5, arrV .u32 f_16⟩]) (ps := []) (by kernel_rfl) trivial ?_
        refine OpTo.go (GoO.call rfl (by kernel_rfl) (by kernel_rfl) (crc_times_ok n f_16 a_15) [[0]] [] [] [] (hks := [0]) (bks := []) (by kernel_rfl) (by kernel_rfl) (by kernel_rfl) (.inl rfl) rfl rfl (by kernel_rfl) (by kernel_rfl) _ (fun _ _ => rfl) _ _ (fun _ _ => rfl) (fun _ _ => rfl) (fun _ _ => by kernel_rfl) (fun _ _ => by kernel_rfl) (fun r_21 x_26 => ?_))
        refine GoO.shape (env' := [(1, .int .u32 b_2), (7, .pointer (some ⟨b_5, 0, none⟩)), (9, .int .u64 k_17), (33, .agg ⟨arrV .u32 f_16⟩), (34, .int .u32 a_15), (35, .int .u32 r_21)]) (H' := [⟨40, b_5, arrV .u32 f_16⟩]) (B' := []) (ks := [1, 7, 9, 33, 34, 35]) (by kernel_rfl) (by kernel_rfl) (by kernel_rfl) ?_
        refine GoO.exec (is := [3]) (hs := [.p]) (rest := []) (ks := [0, 1, 7, 9]) (env' := [(0, .int .u32 r_21), (1, .int .u32 b_2), (7, .pointer (some ⟨b_5, 0, none⟩)), (9, .int .u64 k_17)]) (H' := [⟨40, b_5, arrV .u32 f_16⟩]) (ps := []) (by kernel_rfl) trivial ?_
        refine GoO.regionEnd ?_
        refine GoO.region' (is := [0, 1, 2]) c24_48e (by kernel_rfl) ?_
        refine GoO.guard (fun h22 => ?_)
        refine OpTo.go (GoO.ldB (j := 0) rfl rfl rfl (loadBx_arr (by kernel_rfl) h22) rfl ?_)
        refine OpTo.go (GoO.call rfl (by kernel_rfl) (by kernel_rfl) (crc_squared_ok n f_16) [[0]] [] [] [] (hks := [0]) (bks := []) (by kernel_rfl) (by kernel_rfl) (by kernel_rfl) (.inl rfl) rfl rfl (by kernel_rfl) (by kernel_rfl) _ (fun _ _ => rfl) _ _ (fun _ _ => rfl) (fun _ _ => rfl) (fun _ _ => by kernel_rfl) (fun _ _ => by kernel_rfl) (fun r_23 x_25 => ?_))
        refine GoO.shape (env' := [(0, .int .u32 r_21), (1, .int .u32 b_2), (7, .pointer (some ⟨b_5, 0, none⟩)), (9, .int .u64 k_17), (36, .agg ⟨arrV .u32 f_16⟩), (37, .agg ⟨arrV .u32 r_23⟩)]) (H' := [⟨40, b_5, arrV .u32 f_16⟩]) (B' := []) (ks := [0, 1, 7, 9, 36, 37]) (by kernel_rfl) (by kernel_rfl) (by kernel_rfl) ?_
        refine GoO.guard (fun h24 => ?_)
        refine OpTo.go (GoO.stB (j := 0) rfl rfl rfl rfl (storeBx_arr (by kernel_rfl) h24.1 h24.2) (by kernel_rfl) rfl ?_)
        refine GoO.regionEnd ?_
        refine GoO.inBlock ?_
        refine GoO.region' (is := [0, 1, 2]) c24_49e (by kernel_rfl) ?_
        refine GoO.exec (is := [0, 1, 2]) (hs := [.p, .p, .p]) (rest := []) (ks := [0, 1, 7, 9]) (env' := [(0, .int .u32 r_21), (1, .int .u32 b_2), (7, .pointer (some ⟨b_5, 0, none⟩)), (9, .int .u64 (shR .u64 k_17 1))]) (H' := [⟨40, b_5, arrV .u32 r_23⟩]) (ps := [(0 : Int) ≤ 1]) (by kernel_rfl) (And.intro (by decide) trivial) ?_
        refine GoO.regionEnd ?_
        refine GoO.inLoop ?_
        exact GoO.sub (ks := [0, 1, 7, 9]) (hk := [0]) (bk := []) (by kernel_rfl) (by kernel_rfl) (by kernel_rfl) (ih1 r_21 r_23 (shR .u64 k_17 1))
      · refine GoO.skip' c24_47e ?_
        refine GoO.region' (is := [0, 1, 2]) c24_48e (by kernel_rfl) ?_
        refine GoO.guard (fun h27 => ?_)
        refine OpTo.go (GoO.ldB (j := 0) rfl rfl rfl (loadBx_arr (by kernel_rfl) h27) rfl ?_)
        refine OpTo.go (GoO.call rfl (by kernel_rfl) (by kernel_rfl) (crc_squared_ok n f_16) [[0]] [] [] [] (hks := [0]) (bks := []) (by kernel_rfl) (by kernel_rfl) (by kernel_rfl) (.inl rfl) rfl rfl (by kernel_rfl) (by kernel_rfl) _ (fun _ _ => rfl) _ _ (fun _ _ => rfl) (fun _ _ => rfl) (fun _ _ => by kernel_rfl) (fun _ _ => by kernel_rfl) (fun r_28 x_30 => ?_))
        refine GoO.shape (env' := [(0, .int .u32 a_15), (1, .int .u32 b_2), (7, .pointer (some ⟨b_5, 0, none⟩)), (9, .int .u64 k_17), (32, .bool ((bAnd .u64 k_17 1) == 1)), (36, .agg ⟨arrV .u32 f_16⟩), (37, .agg ⟨arrV .u32 r_28⟩)]) (H' := [⟨40, b_5, arrV .u32 f_16⟩]) (B' := []) (ks := [0, 1, 7, 9, 32, 36, 37]) (by kernel_rfl) (by kernel_rfl) (by kernel_rfl) ?_
        refine GoO.guard (fun h29 => ?_)
        refine OpTo.go (GoO.stB (j := 0) rfl rfl rfl rfl (storeBx_arr (by kernel_rfl) h29.1 h29.2) (by kernel_rfl) rfl ?_)
        refine GoO.regionEnd ?_
        refine GoO.inBlock ?_
        refine GoO.region' (is := [0, 1, 2]) c24_49e (by kernel_rfl) ?_
        refine GoO.exec (is := [0, 1, 2]) (hs := [.p, .p, .p]) (rest := []) (ks := [0, 1, 7, 9]) (env' := [(0, .int .u32 a_15), (1, .int .u32 b_2), (7, .pointer (some ⟨b_5, 0, none⟩)), (9, .int .u64 (shR .u64 k_17 1))]) (H' := [⟨40, b_5, arrV .u32 r_28⟩]) (ps := [(0 : Int) ≤ 1]) (by kernel_rfl) (And.intro (by decide) trivial) ?_
        refine GoO.regionEnd ?_
        refine GoO.inLoop ?_
        exact GoO.sub (ks := [0, 1, 7, 9]) (hk := [0]) (bk := []) (by kernel_rfl) (by kernel_rfl) (by kernel_rfl) (ih1 a_15 r_28 (shR .u64 k_17 1))
    · refine GoO.exit' c24_39e rfl ?_
      refine GoO.seq' c24_50e ?_
      refine GoO.region' (is := [0, 1, 2, 3]) c24_51e (by kernel_rfl) ?_
      refine GoO.exec (is := [0, 1, 2, 3]) (hs := [.p, .p, .p, .p]) (rest := []) (ks := [6]) (env' := [(6, .int .u32 (bXor .u32 a_15 b_2))]) (H' := [⟨40, b_5, arrV .u32 f_16⟩]) (ps := []) (by kernel_rfl) trivial ?_
      refine GoO.regionEnd ?_
      exact GoO.ret' (h := c24_52e) (hs := []) (ps := []) (hk := []) (bk := []) Try.func24 () (by kernel_rfl) trivial (by kernel_rfl) (by kernel_rfl)
theorem crc_Join_l0_ok (n : Nat) (a_1 : Int) (b_2 : Int) (n_3 : Int) (b_5 : Nat) (w0 : World) (S0 : Fam) :
    ∀ (k : Nat) (f_9 : (List Int)) (i_10 : Int), GoO (crc_Join.cx w0 S0) [(0, .int .u32 a_1), (1, .int .u32 b_2), (2, .int .i64 n_3), (7, .pointer (some ⟨b_5, 0, none⟩)), (8, .int .i64 i_10)] [⟨40, b_5, arrV .u32 f_9⟩] [] [.code c24_19, .inLoop c24_19, .inBlock 0, .code c24_29] (crc_Join.l0 n a_1 b_2 n_3 k f_9 i_10) := by
  intro k
  induction k with
  | zero => intros; rw [crc_Join.l0.eq_1]; exact GoO.stop
  | succ k ih0 =>
    intro f_9 i_10
    rw [crc_Join.l0.eq_2]
    refine GoO.seq' c24_19e ?_
    refine GoO.seq' c24_20e ?_
    refine GoO.region' (is := [0, 1]) c24_21e (by kernel_rfl) ?_
    refine GoO.exec (is := [0, 1]) (hs := [.p, .p]) (rest := []) (ks := [0, 1, 2, 7, 8, 15]) (env' := [(0, .int .u32 a_1), (1, .int .u32 b_2), (2, .int .i64 n_3), (7, .pointer (some ⟨b_5, 0, none⟩)), (8, .int .i64 i_10), (15, .bool (decide (i_10 < 32)))]) (H' := [⟨40, b_5, arrV .u32 f_9⟩]) (ps := []) (by kernel_rfl) trivial ?_
    refine GoO.regionEnd ?_
    refine GoO.ite' c24_22e (by kernel_rfl) (fun h11 => ?_) (fun h11 => ?_)
    · refine GoO.skip' c24_23e ?_
      refine GoO.seq' c24_25e ?_
      refine GoO.block' c24_26e ?_
      refine GoO.region' (is := [0, 1, 2, 3, 4, 5]) c24_27e (by kernel_rfl) ?_
      refine GoO.guard (fun h12 => ?_)
      refine GoO.exec (is := [0, 1, 2, 3]) (hs := [.p, .p, .p, .p]) (rest := [4, 5]) (ks := [0, 1, 2, 7, 8, 18, 21]) (env' := [(0, .int .u32 a_1), (1, .int .u32 b_2), (2, .int .i64 n_3), (7, .pointer (some ⟨b_5, 0, none⟩)), (8, .int .i64 i_10), (18, .int .i64 i_10), (21, .int .u32 (shL .u32 1 (wi64 (i_10 - 1))))]) (H' := [⟨40, b_5, arrV .u32 f_9⟩]) (ps := [(0 : Int) ≤ (wi64 (i_10 - 1))]) (by kernel_rfl) (And.intro h12 trivial) ?_
      refine GoO.guard (fun h13 => ?_)
      refine OpTo.go (GoO.idxB (b := b_5) (n := 32) (e := 22) (kk := .i64) (iv := i_10) rfl (by kernel_rfl) (by kernel_rfl) (by kernel_rfl) (by kernel_rfl) h13.1 h13.2 rfl ?_)
      refine GoO.guard (fun h14 => ?_)
      refine OpTo.go (GoO.stB (j := 0) rfl rfl rfl rfl (storeBx_elt (by kernel_rfl) h14.2.1 h14.2.2 _) (by kernel_rfl) rfl ?_)
      refine GoO.regionEnd ?_
      refine GoO.inBlock ?_
      refine GoO.region' (is := [0, 1, 2]) c24_28e (by kernel_rfl) ?_
      refine GoO.exec (is := [0, 1, 2]) (hs := [.p, .p, .p]) (rest := []) (ks := [0, 1, 2, 7, 8]) (env' := [(0, .int .u32 a_1), (1, .int .u32 b_2), (2, .int .i64 n_3), (7, .pointer (some ⟨b_5, 0, none⟩)), (8, .int .i64 (wi64 (i_10 + 1)))]) (H' := [⟨40, b_5, arrV .u32 (f_9.set i_10.toNat (shL .u32 1 (wi64 (i_10 - 1))))⟩]) (ps := []) (by kernel_rfl) trivial ?_
      refine GoO.regionEnd ?_
      refine GoO.inLoop ?_
      exact GoO.sub (ks := [0, 1, 2, 7, 8]) (hk := [0]) (bk := []) (by kernel_rfl) (by kernel_rfl) (by kernel_rfl) (ih0 (f_9.set i_10.toNat (shL .u32 1 (wi64 (i_10 - 1)))) (wi64 (i_10 + 1)))
    · refine GoO.exit' c24_24e rfl ?_
      refine GoO.seq' c24_29e ?_
      refine GoO.seq' c24_30e ?_
      refine GoO.region' (is := [0, 1, 2, 3]) c24_31e (by kernel_rfl) ?_
      refine GoO.exec (is := [0, 1, 2, 3]) (hs := [.p, .p, .p, .p]) (rest := []) (ks := [0, 1, 7, 9]) (env' := [(0, .int .u32 a_1), (1, .int .u32 b_2), (7, .pointer (some ⟨b_5, 0, none⟩)), (9, .int .u64 (wu64 (8 * (wu64 n_3))))]) (H' := [⟨40, b_5, arrV .u32 f_9⟩]) (ps := []) (by kernel_rfl) trivial ?_
      refine GoO.regionEnd ?_
      refine GoO.block' c24_32e ?_
      refine GoO.loop' c24_33e ?_
      exact GoO.sub (ks := [0, 1, 7, 9]) (hk := [0]) (bk := []) (by kernel_rfl) (by kernel_rfl) (by kernel_rfl) (crc_Join_l1_ok n b_2 b_5 w0 S0 n a_1 f_9 (wu64 (8 * (wu64 n_3))))
theorem crc_Join_ok (n : Nat) (a_1 : Int) (b_2 : Int) (n_3 : Int) :
    Meets Try.prog 24 [.int .u32 a_1, .int .u32 b_2, .int .i64 n_3] 0 [] [] [] (crc_Join.f n a_1 b_2 n_3) (crc_Join.R) := by
  refine Meets.of (c := c24_0) (n := 41) Try.func24 (by kernel_rfl) (by kernel_rfl) (by kernel_rfl) fun w0 S0 => ?_
  unfold crc_Join.f
  show GoO (crc_Join.cx w0 S0) [(0, .int .u32 a_1), (1, .int .u32 b_2), (2, .int .i64 n_3)] [] [] [.code c24_0] _
  refine GoO.seq' c24_0e ?_
  refine GoO.region' (is := [0]) c24_1e (by kernel_rfl) ?_
  refine GoO.exec (is := [0]) (hs := [.p]) (rest := []) (ks := [0, 1, 2]) (env' := [(0, .int .u32 a_1), (1, .int .u32 b_2), (2, .int .i64 n_3)]) (H' := []) (ps := []) (by kernel_rfl) trivial ?_
  refine GoO.regionEnd ?_
  refine GoO.seq' c24_2e ?_
  refine GoO.seq' c24_3e ?_
  refine GoO.region' (is := [0, 1]) c24_4e (by kernel_rfl) ?_
  refine GoO.exec (is := [0, 1]) (hs := [.p, .p]) (rest := []) (ks := [0, 1, 2, 11]) (env' := [(0, .int .u32 a_1), (1, .int .u32 b_2), (2, .int .i64 n_3), (11, .bool (decide (n_3 < 0)))]) (H' := []) (ps := []) (by kernel_rfl) trivial ?_
  refine GoO.regionEnd ?_
  refine GoO.ite' c24_5e (by kernel_rfl) (fun h4 => ?_) (fun h4 => ?_)
  · refine GoO.seq' c24_6e ?_
    refine GoO.region' (is := [0]) c24_7e (by kernel_rfl) ?_
    refine GoO.exec (is := [0]) (hs := [.p]) (rest := []) (ks := [6]) (env' := [(6, .int .u32 0)]) (H' := []) (ps := []) (by kernel_rfl) trivial ?_
    refine GoO.regionEnd ?_
    exact GoO.ret' (h := c24_8e) (hs := []) (ps := []) (hk := []) (bk := []) Try.func24 () (by kernel_rfl) trivial (by kernel_rfl) (by kernel_rfl)
  · refine GoO.skip' c24_9e ?_
    refine GoO.seq' c24_10e ?_
    refine GoO.region' (is := [0, 1, 2]) c24_11e (by kernel_rfl) ?_
    refine GoO.exec (is := [0]) (hs := [.p]) (rest := [1, 2]) (ks := [0, 1, 2, 12]) (env' := [(0, .int .u32 a_1), (1, .int .u32 b_2), (2, .int .i64 n_3), (12, .agg ⟨arrV .u32 (List.replicate 32 (0 : Int))⟩)]) (H' := []) (ps := []) (by kernel_rfl) trivial ?_
    refine OpTo.go (GoO.new rfl 40 (cs := arrV .u32 (List.replicate 32 (0 : Int))) (by kernel_rfl) _ (fun _ => rfl) (fun b_5 => ?_))
    refine GoO.guard (fun h6 => ?_)
    refine OpTo.go (GoO.stB (j := 0) rfl rfl rfl rfl (storeBx_arr (by kernel_rfl) h6.1 h6.2) (by kernel_rfl) rfl ?_)
    refine GoO.regionEnd ?_
    refine GoO.seq' c24_12e ?_
    refine GoO.region' (is := [0, 1]) c24_13e (by kernel_rfl) ?_
    refine GoO.guard (fun h7 => ?_)
    refine OpTo.go (GoO.idxB (b := b_5) (n := 32) (e := 22) (kk := .i64) (iv := 0) rfl (by kernel_rfl) (by kernel_rfl) (by kernel_rfl) (by kernel_rfl) h7.1 h7.2 rfl ?_)
    refine GoO.guard (fun h8 => ?_)
    refine OpTo.go (GoO.stB (j := 0) rfl rfl rfl rfl (storeBx_elt (by kernel_rfl) h8.2.1 h8.2.2 _) (by kernel_rfl) rfl ?_)
    refine GoO.regionEnd ?_
    refine GoO.seq' c24_14e ?_
    refine GoO.seq' c24_15e ?_
    refine GoO.region' (is := [0]) c24_16e (by kernel_rfl) ?_
    refine GoO.exec (is := [0]) (hs := [.p]) (rest := []) (ks := [0, 1, 2, 7, 8]) (env' := [(0, .int .u32 a_1), (1, .int .u32 b_2), (2, .int .i64 n_3), (7, .pointer (some ⟨b_5, 0, none⟩)), (8, .int .i64 1)]) (H' := [⟨40, b_5, arrV .u32 ((List.replicate 32 (0 : Int)).set (0 : Int).toNat 2197175160)⟩]) (ps := []) (by kernel_rfl) trivial ?_
    refine GoO.regionEnd ?_
    refine GoO.block' c24_17e ?_
    refine GoO.loop' c24_18e ?_
    exact GoO.sub (ks := [0, 1, 2, 7, 8]) (hk := [0]) (bk := []) (by kernel_rfl) (by kernel_rfl) (by kernel_rfl) (crc_Join_l0_ok n a_1 b_2 n_3 b_5 w0 S0 n ((List.replicate 32 (0 : Int)).set (0 : Int).toNat 2197175160) 1)

/-! tontine/tontineref02.half -/
noncomputable def c26_0 : Code := bodyOf Try.f26
noncomputable def c26_1 : Code := cdL c26_0
noncomputable def c26_2 : Code := cdR c26_0
noncomputable def c26_3 : Code := cdL c26_2
noncomputable def c26_4 : Code := cdL c26_3
noncomputable def c26_5 : Code := cdR c26_3
noncomputable def c26_6 : Code := cdL c26_5
noncomputable def c26_7 : Code := cdL c26_6
noncomputable def c26_8 : Code := cdR c26_6
noncomputable def c26_9 : Code := cdR c26_5
noncomputable def c26_10 : Code := cdR c26_2
noncomputable def c26_11 : Code := cdL c26_10
noncomputable def c26_12 : Code := cdR c26_10
noncomputable def r26_1 : Array Oper := cdO c26_1
noncomputable def r26_4 : Array Oper := cdO c26_4
noncomputable def r26_7 : Array Oper := cdO c26_7
noncomputable def r26_11 : Array Oper := cdO c26_11
theorem c26_0e : c26_0 = .seq c26_1 c26_2 := by kernel_rfl
theorem c26_1e : c26_1 = .region 0 r26_1 false := by kernel_rfl
theorem c26_2e : c26_2 = .seq c26_3 c26_10 := by kernel_rfl
theorem c26_3e : c26_3 = .seq c26_4 c26_5 := by kernel_rfl
theorem c26_4e : c26_4 = .region 1 r26_4 false := by kernel_rfl
theorem c26_5e : c26_5 = .cond (cdC c26_5) c26_6 c26_9 := by kernel_rfl
theorem c26_6e : c26_6 = .seq c26_7 c26_8 := by kernel_rfl
theorem c26_7e : c26_7 = .region 2 r26_7 false := by kernel_rfl
theorem c26_8e : c26_8 = .ret := by kernel_rfl
theorem c26_9e : c26_9 = .skip := by kernel_rfl
theorem c26_10e : c26_10 = .seq c26_11 c26_12 := by kernel_rfl
theorem c26_11e : c26_11 = .region 3 r26_11 false := by kernel_rfl
theorem c26_12e : c26_12 = .ret := by kernel_rfl
noncomputable def tontineref02_half.R : Pst Int where
  ε := Unit
  v := fun r x => .int .u32 r
  H := fun r x => []
  B := fun r x => []
noncomputable def tontineref02_half.cx (w0 : World) (S0 : Fam) : Cx Int := ⟨Try.prog, 26, Try.f26, 11, w0, S0, [], 0, tontineref02_half.R⟩
theorem tontineref02_half_ok (n : Nat) (x_1 : Int) :
    Meets Try.prog 26 [.int .u32 x_1] 0 [] [] [] (tontineref02_half.f n x_1) (tontineref02_half.R) := by
  refine Meets.of (c := c26_0) (n := 11) Try.func26 (by kernel_rfl) (by kernel_rfl) (by kernel_rfl) fun w0 S0 => ?_
  unfold tontineref02_half.f
  show GoO (tontineref02_half.cx w0 S0) [(0, .int .u32 x_1)] [] [] [.code c26_0] _
  refine GoO.seq' c26_0e ?_
  refine GoO.region' (is := [0]) c26_1e (by kernel_rfl) ?_
  refine GoO.exec (is := [0]) (hs := [.p]) (rest := []) (ks := [0]) (env' := [(0, .int .u32 x_1)]) (H' := []) (ps := []) (by kernel_rfl) trivial ?_
  refine GoO.regionEnd ?_
  refine GoO.seq' c26_2e ?_
  refine GoO.seq' c26_3e ?_
  refine GoO.region' (is := [0, 1, 2]) c26_4e (by kernel_rfl) ?_
  refine GoO.exec (is := [0, 1, 2]) (hs := [.p, .p, .p]) (rest := []) (ks := [0, 5]) (env' := [(0, .int .u32 x_1), (5, .bool ((x_1.tmod 2) == 1))]) (H' := []) (ps := [(2 : Int) ≠ 0]) (by kernel_rfl) (And.intro (by decide) trivial) ?_
  refine GoO.regionEnd ?_
  refine GoO.ite' c26_5e (by kernel_rfl) (fun h2 => ?_) (fun h2 => ?_)
  · refine GoO.seq' c26_6e ?_
    refine GoO.region' (is := [0, 1, 2, 3]) c26_7e (by kernel_rfl) ?_
    refine GoO.exec (is := [0, 1, 2, 3]) (hs := [.p, .p, .p, .p]) (rest := []) (ks := [2]) (env' := [(2, .int .u32 (bXor .u32 (wu32 (x_1.tdiv 2)) 2197175160))]) (H' := []) (ps := [(2 : Int) ≠ 0]) (by kernel_rfl) (And.intro (by decide) trivial) ?_
    refine GoO.regionEnd ?_
    exact GoO.ret' (h := c26_8e) (hs := []) (ps := []) (hk := []) (bk := []) Try.func26 () (by kernel_rfl) trivial (by kernel_rfl) (by kernel_rfl)
  · refine GoO.skip' c26_9e ?_
    refine GoO.seq' c26_10e ?_
    refine GoO.region' (is := [0, 1, 2]) c26_11e (by kernel_rfl) ?_
    refine GoO.exec (is := [0, 1, 2]) (hs := [.p, .p, .p]) (rest := []) (ks := [2]) (env' := [(2, .int .u32 (wu32 (x_1.tdiv 2)))]) (H' := []) (ps := [(2 : Int) ≠ 0]) (by kernel_rfl) (And.intro (by decide) trivial) ?_
    refine GoO.regionEnd ?_
    exact GoO.ret' (h := c26_12e) (hs := []) (ps := []) (hk := []) (bk := []) Try.func26 () (by kernel_rfl) trivial (by kernel_rfl) (by kernel_rfl)

/-! tontine/tontineref02.Join -/
noncomputable def c25_0 : Code := bodyOf Try.f25
noncomputable def c25_1 : Code := cdL c25_0
noncomputable def c25_2 : Code := cdR c25_0
noncomputable def c25_3 : Code := cdL c25_2
noncomputable def c25_4 : Code := cdL c25_3
noncomputable def c25_5 : Code := cdR c25_3
noncomputable def c25_6 : Code := cdL c25_5
noncomputable def c25_7 : Code := cdL c25_6
noncomputable def c25_8 : Code := cdR c25_6
noncomputable def c25_9 : Code := cdR c25_5
noncomputable def c25_10 : Code := cdR c25_2
noncomputable def c25_11 : Code := cdL c25_10
noncomputable def c25_12 : Code := cdL c25_11
noncomputable def c25_13 : Code := cdR c25_11
noncomputable def c25_14 : Code := cdL c25_13
noncomputable def c25_15 : Code := cdL c25_14
noncomputable def c25_16 : Code := cdL c25_15
noncomputable def c25_17 : Code := cdL c25_16
noncomputable def c25_18 : Code := cdR c25_16
noncomputable def c25_19 : Code := cdL c25_18
noncomputable def c25_20 : Code := cdR c25_18
noncomputable def c25_21 : Code := cdR c25_15
noncomputable def c25_22 : Code := cdL c25_21
noncomputable def c25_23 : Code := cdL c25_22
noncomputable def c25_24 : Code := cdL c25_23
noncomputable def c25_25 : Code := cdR c25_23
noncomputable def c25_26 : Code := cdL c25_25
noncomputable def c25_27 : Code := cdL c25_26
noncomputable def c25_28 : Code := cdL c25_27
noncomputable def c25_29 : Code := cdL c25_28
noncomputable def c25_30 : Code := cdR c25_28
noncomputable def c25_31 : Code := cdL c25_30
noncomputable def c25_32 : Code := cdR c25_30
noncomputable def c25_33 : Code := cdR c25_27
noncomputable def c25_34 : Code := cdL c25_33
noncomputable def c25_35 : Code := cdL c25_34
noncomputable def c25_36 : Code := cdR c25_33
noncomputable def c25_37 : Code := cdR c25_21
noncomputable def c25_38 : Code := cdR c25_10
noncomputable def c25_39 : Code := cdL c25_38
noncomputable def c25_40 : Code := cdR c25_38
noncomputable def r25_1 : Array Oper := cdO c25_1
noncomputable def r25_4 : Array Oper := cdO c25_4
noncomputable def r25_7 : Array Oper := cdO c25_7
noncomputable def r25_12 : Array Oper := cdO c25_12
noncomputable def r25_17 : Array Oper := cdO c25_17
noncomputable def r25_24 : Array Oper := cdO c25_24
noncomputable def r25_29 : Array Oper := cdO c25_29
noncomputable def r25_35 : Array Oper := cdO c25_35
noncomputable def r25_36 : Array Oper := cdO c25_36
noncomputable def r25_37 : Array Oper := cdO c25_37
noncomputable def r25_39 : Array Oper := cdO c25_39
theorem c25_0e : c25_0 = .seq c25_1 c25_2 := by kernel_rfl
theorem c25_1e : c25_1 = .region 0 r25_1 false := by kernel_rfl
theorem c25_2e : c25_2 = .seq c25_3 c25_10 := by kernel_rfl
theorem c25_3e : c25_3 = .seq c25_4 c25_5 := by kernel_rfl
theorem c25_4e : c25_4 = .region 1 r25_4 false := by kernel_rfl
theorem c25_5e : c25_5 = .cond (cdC c25_5) c25_6 c25_9 := by kernel_rfl
theorem c25_6e : c25_6 = .seq c25_7 c25_8 := by kernel_rfl
theorem c25_7e : c25_7 = .region 2 r25_7 false := by kernel_rfl
theorem c25_8e : c25_8 = .ret := by kernel_rfl
theorem c25_9e : c25_9 = .skip := by kernel_rfl
theorem c25_10e : c25_10 = .seq c25_11 c25_38 := by kernel_rfl
theorem c25_11e : c25_11 = .seq c25_12 c25_13 := by kernel_rfl
theorem c25_12e : c25_12 = .region 3 r25_12 false := by kernel_rfl
theorem c25_13e : c25_13 = .block 0 c25_14 := by kernel_rfl
theorem c25_14e : c25_14 = .loop c25_15 := by kernel_rfl
theorem c25_15e : c25_15 = .seq c25_16 c25_21 := by kernel_rfl
theorem c25_16e : c25_16 = .seq c25_17 c25_18 := by kernel_rfl
theorem c25_17e : c25_17 = .region 4 r25_17 false := by kernel_rfl
theorem c25_18e : c25_18 = .cond (cdC c25_18) c25_19 c25_20 := by kernel_rfl
theorem c25_19e : c25_19 = .skip := by kernel_rfl
theorem c25_20e : c25_20 = .exit 0 := by kernel_rfl
theorem c25_21e : c25_21 = .seq c25_22 c25_37 := by kernel_rfl
theorem c25_22e : c25_22 = .block 1 c25_23 := by kernel_rfl
theorem c25_23e : c25_23 = .seq c25_24 c25_25 := by kernel_rfl
theorem c25_24e : c25_24 = .region 6 r25_24 false := by kernel_rfl
theorem c25_25e : c25_25 = .block 2 c25_26 := by kernel_rfl
theorem c25_26e : c25_26 = .loop c25_27 := by kernel_rfl
theorem c25_27e : c25_27 = .seq c25_28 c25_33 := by kernel_rfl
theorem c25_28e : c25_28 = .seq c25_29 c25_30 := by kernel_rfl
theorem c25_29e : c25_29 = .region 7 r25_29 false := by kernel_rfl
theorem c25_30e : c25_30 = .cond (cdC c25_30) c25_31 c25_32 := by kernel_rfl
theorem c25_31e : c25_31 = .skip := by kernel_rfl
theorem c25_32e : c25_32 = .exit 2 := by kernel_rfl
theorem c25_33e : c25_33 = .seq c25_34 c25_36 := by kernel_rfl
theorem c25_34e : c25_34 = .block 3 c25_35 := by kernel_rfl
theorem c25_35e : c25_35 = .region 9 r25_35 false := by kernel_rfl
theorem c25_36e : c25_36 = .region 8 r25_36 false := by kernel_rfl
theorem c25_37e : c25_37 = .region 5 r25_37 false := by kernel_rfl
theorem c25_38e : c25_38 = .seq c25_39 c25_40 := by kernel_rfl
theorem c25_39e : c25_39 = .region 10 r25_39 false := by kernel_rfl
theorem c25_40e : c25_40 = .ret := by kernel_rfl
noncomputable def tontineref02_Join.R : Pst Int where
  ε := Unit
  v := fun r x => .int .u32 r
  H := fun r x => []
  B := fun r x => []
noncomputable def tontineref02_Join.cx (w0 : World) (S0 : Fam) : Cx Int := ⟨Try.prog, 25, Try.f25, 25, w0, S0, [], 0, tontineref02_Join.R⟩
theorem tontineref02_Join_l1_ok (n : Nat) (L0 : Int → Int → Option Int) (b_2 : Int) (n_3 : Int) (a_5 : Int) (i_6 : Int) (w0 : World) (S0 : Fam) (ih0 : ∀ (a_5 : Int) (i_6 : Int), GoO (tontineref02_Join.cx w0 S0) [(0, .int .u32 a_5), (1, .int .u32 b_2), (2, .int .i64 n_3), (7, .int .i64 i_6)] [] [] [.code c25_15, .inLoop c25_15, .inBlock 0, .code c25_38] (L0 a_5 i_6)) :
    ∀ (k : Nat) (a_8 : Int) (k_9 : Int), GoO (tontineref02_Join.cx w0 S0) [(0, .int .u32 a_8), (1, .int .u32 b_2), (2, .int .i64 n_3), (7, .int .i64 i_6), (8, .int .i64 k_9)] [] [] [.code c25_27, .inLoop c25_27, .inBlock 2, .inBlock 1, .code c25_37, .inLoop c25_15, .inBlock 0, .code c25_38] (tontineref02_Join.l1 n L0 i_6 k a_8 k_9) := by
  intro k
  induction k with
  | zero => intros; rw [tontineref02_Join.l1.eq_1]; exact GoO.stop
  | succ k ih1 =>
    intro a_8 k_9
    rw [tontineref02_Join.l1.eq_2]
    refine GoO.seq' c25_27e ?_
    refine GoO.seq' c25_28e ?_
    refine GoO.region' (is := [0, 1]) c25_29e (by kernel_rfl) ?_
    refine GoO.exec (is := [0, 1]) (hs := [.p, .p]) (rest := []) (ks := [0, 1, 2, 7, 8, 17]) (env' := [(0, .int .u32 a_8), (1, .int .u32 b_2), (2, .int .i64 n_3), (7, .int .i64 i_6), (8, .int .i64 k_9), (17, .bool (decide (k_9 < 8)))]) (H' := []) (ps := []) (by kernel_rfl) trivial ?_
    refine GoO.regionEnd ?_
    refine GoO.ite' c25_30e (by kernel_rfl) (fun h10 => ?_) (fun h10 => ?_)
    · refine GoO.skip' c25_31e ?_
      refine GoO.seq' c25_33e ?_
      refine GoO.block' c25_34e ?_
      refine GoO.region' (is := [0, 1, 2]) c25_35e (by kernel_rfl) ?_
      refine GoO.exec (is := [0]) (hs := [.p]) (rest := [1, 2]) (ks := [1, 2, 7, 8, 20]) (env' := [(1, .int .u32 b_2), (2, .int .i64 n_3), (7, .int .i64 i_6), (8, .int .i64 k_9), (20, .int .u32 a_8)]) (H' := []) (ps := []) (by kernel_rfl) trivial ?_
      refine OpTo.go (GoO.call rfl (by kernel_rfl) (by kernel_rfl) (tontineref02_half_ok n a_8) [[0]] [] [] [] (hks := []) (bks := []) (by kernel_rfl) (by kernel_rfl) (by kernel_rfl) (.inl rfl) rfl rfl (by kernel_rfl) (by kernel_rfl) _ (fun _ _ => rfl) _ _ (fun _ _ => rfl) (fun _ _ => rfl) (fun _ _ => by kernel_rfl) (fun _ _ => by kernel_rfl) (fun r_11 x_12 => ?_))
      refine GoO.shape (env' := [(1, .int .u32 b_2), (2, .int .i64 n_3), (7, .int .i64 i_6), (8, .int .i64 k_9), (20, .int .u32 a_8), (21, .int .u32 r_11)]) (H' := []) (B' := []) (ks := [1, 2, 7, 8, 20, 21]) (by kernel_rfl) (by kernel_rfl) (by kernel_rfl) ?_
      refine GoO.exec (is := [2]) (hs := [.p]) (rest := []) (ks := [0, 1, 2, 7, 8]) (env' := [(0, .int .u32 r_11), (1, .int .u32 b_2), (2, .int .i64 n_3), (7, .int .i64 i_6), (8, .int .i64 k_9)]) (H' := []) (ps := []) (by kernel_rfl) trivial ?_
      refine GoO.regionEnd ?_
      refine GoO.inBlock ?_
      refine GoO.region' (is := [0, 1, 2]) c25_36e (by kernel_rfl) ?_
      refine GoO.exec (is := [0, 1, 2]) (hs := [.p, .p, .p]) (rest := []) (ks := [0, 1, 2, 7, 8]) (env' := [(0, .int .u32 r_11), (1, .int .u32 b_2), (2, .int .i64 n_3), (7, .int .i64 i_6), (8, .int .i64 (wi64 (k_9 + 1)))]) (H' := []) (ps := []) (by kernel_rfl) trivial ?_
      refine GoO.regionEnd ?_
      refine GoO.inLoop ?_
      exact GoO.sub (ks := [0, 1, 2, 7, 8]) (hk := []) (bk := []) (by kernel_rfl) (by kernel_rfl) (by kernel_rfl) (ih1 r_11 (wi64 (k_9 + 1)))
    · refine GoO.exit' c25_32e rfl ?_
      refine GoO.inBlock ?_
      refine GoO.region' (is := [0, 1, 2]) c25_37e (by kernel_rfl) ?_
      refine GoO.exec (is := [0, 1, 2]) (hs := [.p, .p, .p]) (rest := []) (ks := [0, 1, 2, 7]) (env' := [(0, .int .u32 a_8), (1, .int .u32 b_2), (2, .int .i64 n_3), (7, .int .i64 (wi64 (i_6 + 1)))]) (H' := []) (ps := []) (by kernel_rfl) trivial ?_
      refine GoO.regionEnd ?_
      refine GoO.inLoop ?_
      exact GoO.sub (ks := [0, 1, 2, 7]) (hk := []) (bk := []) (by kernel_rfl) (by kernel_rfl) (by kernel_rfl) (ih0 a_8 (wi64 (i_6 + 1)))
theorem tontineref02_Join_l0_ok (n : Nat) (b_2 : Int) (n_3 : Int) (w0 : World) (S0 : Fam) :
    ∀ (k : Nat) (a_5 : Int) (i_6 : Int), GoO (tontineref02_Join.cx w0 S0) [(0, .int .u32 a_5), (1, .int .u32 b_2), (2, .int .i64 n_3), (7, .int .i64 i_6)] [] [] [.code c25_15, .inLoop c25_15, .inBlock 0, .code c25_38] (tontineref02_Join.l0 n b_2 n_3 k a_5 i_6) := by
  intro k
  induction k with
  | zero => intros; rw [tontineref02_Join.l0.eq_1]; exact GoO.stop
  | succ k ih0 =>
    intro a_5 i_6
    rw [tontineref02_Join.l0.eq_2]
    refine GoO.seq' c25_15e ?_
    refine GoO.seq' c25_16e ?_
    refine GoO.region' (is := [0, 1, 2]) c25_17e (by kernel_rfl) ?_
    refine GoO.exec (is := [0, 1, 2]) (hs := [.p, .p, .p]) (rest := []) (ks := [0, 1, 2, 7, 13]) (env' := [(0, .int .u32 a_5), (1, .int .u32 b_2), (2, .int .i64 n_3), (7, .int .i64 i_6), (13, .bool (decide (i_6 < n_3)))]) (H' := []) (ps := []) (by kernel_rfl) trivial ?_
    refine GoO.regionEnd ?_
    refine GoO.ite' c25_18e (by kernel_rfl) (fun h7 => ?_) (fun h7 => ?_)
    · refine GoO.skip' c25_19e ?_
      refine GoO.seq' c25_21e ?_
      refine GoO.block' c25_22e ?_
      refine GoO.seq' c25_23e ?_
      refine GoO.region' (is := [0]) c25_24e (by kernel_rfl) ?_
      refine GoO.exec (is := [0]) (hs := [.p]) (rest := []) (ks := [0, 1, 2, 7, 8]) (env' := [(0, .int .u32 a_5), (1, .int .u32 b_2), (2, .int .i64 n_3), (7, .int .i64 i_6), (8, .int .i64 0)]) (H' := []) (ps := []) (by kernel_rfl) trivial ?_
      refine GoO.regionEnd ?_
      refine GoO.block' c25_25e ?_
      refine GoO.loop' c25_26e ?_
      exact GoO.sub (ks := [0, 1, 2, 7, 8]) (hk := []) (bk := []) (by kernel_rfl) (by kernel_rfl) (by kernel_rfl) (tontineref02_Join_l1_ok n (tontineref02_Join.l0 n b_2 n_3 k) b_2 n_3 a_5 i_6 w0 S0 ih0 n a_5 0)
    · refine GoO.exit' c25_20e rfl ?_
      refine GoO.seq' c25_38e ?_
      refine GoO.region' (is := [0, 1, 2, 3]) c25_39e (by kernel_rfl) ?_
      refine GoO.exec (is := [0, 1, 2, 3]) (hs := [.p, .p, .p, .p]) (rest := []) (ks := [6]) (env' := [(6, .int .u32 (bXor .u32 a_5 b_2))]) (H' := []) (ps := []) (by kernel_rfl) trivial ?_
      refine GoO.regionEnd ?_
      exact GoO.ret' (h := c25_40e) (hs := []) (ps := []) (hk := []) (bk := []) Try.func25 () (by kernel_rfl) trivial (by kernel_rfl) (by kernel_rfl)
theorem tontineref02_Join_ok (n : Nat) (a_1 : Int) (b_2 : Int) (n_3 : Int) :
    Meets Try.prog 25 [.int .u32 a_1, .int .u32 b_2, .int .i64 n_3] 0 [] [] [] (tontineref02_Join.f n a_1 b_2 n_3) (tontineref02_Join.R) := by
  refine Meets.of (c := c25_0) (n := 25) Try.func25 (by kernel_rfl) (by kernel_rfl) (by kernel_rfl) fun w0 S0 => ?_
  unfold tontineref02_Join.f
  show GoO (tontineref02_Join.cx w0 S0) [(0, .int .u32 a_1), (1, .int .u32 b_2), (2, .int .i64 n_3)] [] [] [.code c25_0] _
  refine GoO.seq' c25_0e ?_
  refine GoO.region' (is := [0]) c25_1e (by kernel_rfl) ?_
  refine GoO.exec (is := [0]) (hs := [.p]) (rest := []) (ks := [0, 1, 2]) (env' := [(0, .int .u32 a_1), (1, .int .u32 b_2), (2, .int .i64 n_3)]) (H' := []) (ps := []) (by kernel_rfl) trivial ?_
  refine GoO.regionEnd ?_
  refine GoO.seq' c25_2e ?_
  refine GoO.seq' c25_3e ?_
  refine GoO.region' (is := [0, 1]) c25_4e (by kernel_rfl) ?_
  refine GoO.exec (is := [0, 1]) (hs := [.p, .p]) (rest := []) (ks := [0, 1, 2, 10]) (env' := [(0, .int .u32 a_1), (1, .int .u32 b_2), (2, .int .i64 n_3), (10, .bool (decide (n_3 < 0)))]) (H' := []) (ps := []) (by kernel_rfl) trivial ?_
  refine GoO.regionEnd ?_
  refine GoO.ite' c25_5e (by kernel_rfl) (fun h4 => ?_) (fun h4 => ?_)
  · refine GoO.seq' c25_6e ?_
    refine GoO.region' (is := [0]) c25_7e (by kernel_rfl) ?_
    refine GoO.exec (is := [0]) (hs := [.p]) (rest := []) (ks := [6]) (env' := [(6, .int .u32 0)]) (H' := []) (ps := []) (by kernel_rfl) trivial ?_
    refine GoO.regionEnd ?_
    exact GoO.ret' (h := c25_8e) (hs := []) (ps := []) (hk := []) (bk := []) Try.func25 () (by kernel_rfl) trivial (by kernel_rfl) (by kernel_rfl)
  · refine GoO.skip' c25_9e ?_
    refine GoO.seq' c25_10e ?_
    refine GoO.seq' c25_11e ?_
    refine GoO.region' (is := [0]) c25_12e (by kernel_rfl) ?_
    refine GoO.exec (is := [0]) (hs := [.p]) (rest := []) (ks := [0, 1, 2, 7]) (env' := [(0, .int .u32 a_1), (1, .int .u32 b_2), (2, .int .i64 n_3), (7, .int .i64 0)]) (H' := []) (ps := []) (by kernel_rfl) trivial ?_
    refine GoO.regionEnd ?_
    refine GoO.block' c25_13e ?_
    refine GoO.loop' c25_14e ?_
    exact GoO.sub (ks := [0, 1, 2, 7]) (hk := []) (bk := []) (by kernel_rfl) (by kernel_rfl) (by kernel_rfl) (tontineref02_Join_l0_ok n b_2 n_3 w0 S0 n a_1 0)

/-! tontine/tontinelaw02.CrcJoins -/
noncomputable def c12_0 : Code := bodyOf Try.f12
noncomputable def c12_1 : Code := cdL c12_0
noncomputable def c12_2 : Code := cdR c12_0
noncomputable def c12_3 : Code := cdL c12_2
noncomputable def c12_4 : Code := cdL c12_3
noncomputable def c12_5 : Code := cdR c12_3
noncomputable def c12_6 : Code := cdL c12_5
noncomputable def c12_7 : Code := cdL c12_6
noncomputable def c12_8 : Code := cdR c12_6
noncomputable def c12_9 : Code := cdR c12_5
noncomputable def c12_10 : Code := cdR c12_2
noncomputable def c12_11 : Code := cdL c12_10
noncomputable def c12_12 : Code := cdL c12_11
noncomputable def c12_13 : Code := cdR c12_11
noncomputable def c12_14 : Code := cdL c12_13
noncomputable def c12_15 : Code := cdR c12_13
noncomputable def c12_16 : Code := cdR c12_10
noncomputable def c12_17 : Code := cdL c12_16
noncomputable def c12_18 : Code := cdR c12_16
noncomputable def r12_1 : Array Oper := cdO c12_1
noncomputable def r12_4 : Array Oper := cdO c12_4
noncomputable def r12_7 : Array Oper := cdO c12_7
noncomputable def r12_12 : Array Oper := cdO c12_12
noncomputable def r12_14 : Array Oper := cdO c12_14
noncomputable def r12_17 : Array Oper := cdO c12_17
theorem c12_0e : c12_0 = .seq c12_1 c12_2 := by kernel_rfl
theorem c12_1e : c12_1 = .region 0 r12_1 false := by kernel_rfl
theorem c12_2e : c12_2 = .seq c12_3 c12_10 := by kernel_rfl
theorem c12_3e : c12_3 = .seq c12_4 c12_5 := by kernel_rfl
theorem c12_4e : c12_4 = .region 1 r12_4 false := by kernel_rfl
theorem c12_5e : c12_5 = .cond (cdC c12_5) c12_6 c12_9 := by kernel_rfl
theorem c12_6e : c12_6 = .seq c12_7 c12_8 := by kernel_rfl
theorem c12_7e : c12_7 = .region 2 r12_7 false := by kernel_rfl
theorem c12_8e : c12_8 = .ret := by kernel_rfl
theorem c12_9e : c12_9 = .skip := by kernel_rfl
theorem c12_10e : c12_10 = .seq c12_11 c12_16 := by kernel_rfl
theorem c12_11e : c12_11 = .seq c12_12 c12_13 := by kernel_rfl
theorem c12_12e : c12_12 = .region 3 r12_12 false := by kernel_rfl
theorem c12_13e : c12_13 = .cond (cdC c12_13) c12_14 c12_15 := by kernel_rfl
theorem c12_14e : c12_14 = .region 4 r12_14 false := by kernel_rfl
theorem c12_15e : c12_15 = .skip := by kernel_rfl
theorem c12_16e : c12_16 = .seq c12_17 c12_18 := by kernel_rfl
theorem c12_17e : c12_17 = .region 5 r12_17 false := by kernel_rfl
theorem c12_18e : c12_18 = .ret := by kernel_rfl
noncomputable def tontinelaw02_CrcJoins.R : Pst Bool where
  ε := Unit
  v := fun r x => .bool r
  H := fun r x => []
  B := fun r x => []
noncomputable def tontinelaw02_CrcJoins.cx (w0 : World) (S0 : Fam) : Cx Bool := ⟨Try.prog, 12, Try.f12, 22, w0, S0, [], 0, tontinelaw02_CrcJoins.R⟩
theorem tontinelaw02_CrcJoins_j0_ok (n : Nat) (a_1 : Int) (b_2 : Int) (w0 : World) (S0 : Fam) (n_7 : Int) :
    GoO (tontinelaw02_CrcJoins.cx w0 S0) [(0, .int .u32 a_1), (1, .int .u32 b_2), (2, .int .i64 n_7)] [] [] [.code c12_16] (tontinelaw02_CrcJoins.j0 n a_1 b_2 n_7) := by
  unfold tontinelaw02_CrcJoins.j0
  refine GoO.seq' c12_16e ?_
  refine GoO.region' (is := [0, 1, 2, 3, 4, 5, 6, 7, 8, 9]) c12_17e (by kernel_rfl) ?_
  refine GoO.exec (is := [0, 1, 2]) (hs := [.p, .p, .p]) (rest := [3, 4, 5, 6, 7, 8, 9]) (ks := [0, 1, 2, 13, 14, 15]) (env' := [(0, .int .u32 a_1), (1, .int .u32 b_2), (2, .int .i64 n_7), (13, .int .u32 a_1), (14, .int .u32 b_2), (15, .int .i64 n_7)]) (H' := []) (ps := []) (by kernel_rfl) trivial ?_
  refine OpTo.go (GoO.call rfl (by kernel_rfl) (by kernel_rfl) (crc_Join_ok n a_1 b_2 n_7) [[0]] [] [] [] (hks := []) (bks := []) (by kernel_rfl) (by kernel_rfl) (by kernel_rfl) (.inl rfl) rfl rfl (by kernel_rfl) (by kernel_rfl) _ (fun _ _ => rfl) _ _ (fun _ _ => rfl) (fun _ _ => rfl) (fun _ _ => by kernel_rfl) (fun _ _ => by kernel_rfl) (fun r_8 x_11 => ?_))
  refine GoO.shape (env' := [(0, .int .u32 a_1), (1, .int .u32 b_2), (2, .int .i64 n_7), (13, .int .u32 a_1), (14, .int .u32 b_2), (15, .int .i64 n_7), (16, .int .u32 r_8)]) (H' := []) (B' := []) (ks := [0, 1, 2, 13, 14, 15, 16]) (by kernel_rfl) (by kernel_rfl) (by kernel_rfl) ?_
  refine GoO.exec (is := [4, 5, 6]) (hs := [.p, .p, .p]) (rest := [7, 8, 9]) (ks := [16, 17, 18, 19]) (env' := [(16, .int .u32 r_8), (17, .int .u32 a_1), (18, .int .u32 b_2), (19, .int .i64 n_7)]) (H' := []) (ps := []) (by kernel_rfl) trivial ?_
  refine OpTo.go (GoO.call rfl (by kernel_rfl) (by kernel_rfl) (tontineref02_Join_ok n a_1 b_2 n_7) [[0]] [] [] [] (hks := []) (bks := []) (by kernel_rfl) (by kernel_rfl) (by kernel_rfl) (.inl rfl) rfl rfl (by kernel_rfl) (by kernel_rfl) _ (fun _ _ => rfl) _ _ (fun _ _ => rfl) (fun _ _ => rfl) (fun _ _ => by kernel_rfl) (fun _ _ => by kernel_rfl) (fun r_9 x_10 => ?_))
  refine GoO.shape (env' := [(16, .int .u32 r_8), (17, .int .u32 a_1), (18, .int .u32 b_2), (19, .int .i64 n_7), (20, .int .u32 r_9)]) (H' := []) (B' := []) (ks := [16, 17, 18, 19, 20]) (by kernel_rfl) (by kernel_rfl) (by kernel_rfl) ?_
  refine GoO.exec (is := [8, 9]) (hs := [.p, .p]) (rest := []) (ks := [6]) (env' := [(6, .bool (r_8 == r_9))]) (H' := []) (ps := []) (by kernel_rfl) trivial ?_
  refine GoO.regionEnd ?_
  exact GoO.ret' (h := c12_18e) (hs := []) (ps := []) (hk := []) (bk := []) Try.func12 () (by kernel_rfl) trivial (by kernel_rfl) (by kernel_rfl)
theorem tontinelaw02_CrcJoins_ok (n : Nat) (a_1 : Int) (b_2 : Int) (n_3 : Int) :
    Meets Try.prog 12 [.int .u32 a_1, .int .u32 b_2, .int .i64 n_3] 0 [] [] [] (tontinelaw02_CrcJoins.f n a_1 b_2 n_3) (tontinelaw02_CrcJoins.R) := by
  refine Meets.of (c := c12_0) (n := 22) Try.func12 (by kernel_rfl) (by kernel_rfl) (by kernel_rfl) fun w0 S0 => ?_
  unfold tontinelaw02_CrcJoins.f
  show GoO (tontinelaw02_CrcJoins.cx w0 S0) [(0, .int .u32 a_1), (1, .int .u32 b_2), (2, .int .i64 n_3)] [] [] [.code c12_0] _
  refine GoO.seq' c12_0e ?_
  refine GoO.region' (is := [0]) c12_1e (by kernel_rfl) ?_
  refine GoO.exec (is := [0]) (hs := [.p]) (rest := []) (ks := [0, 1, 2]) (env' := [(0, .int .u32 a_1), (1, .int .u32 b_2), (2, .int .i64 n_3)]) (H' := []) (ps := []) (by kernel_rfl) trivial ?_
  refine GoO.regionEnd ?_
  refine GoO.seq' c12_2e ?_
  refine GoO.seq' c12_3e ?_
  refine GoO.region' (is := [0, 1]) c12_4e (by kernel_rfl) ?_
  refine OpTo.go (GoO.call rfl (by kernel_rfl) (by kernel_rfl) (tontinelaw02_begun_ok n) [[0]] [] [] [] (hks := []) (bks := []) (by kernel_rfl) (by kernel_rfl) (by kernel_rfl) (.inl rfl) rfl rfl (by kernel_rfl) (by kernel_rfl) _ (fun _ _ => rfl) _ _ (fun _ _ => rfl) (fun _ _ => rfl) (fun _ _ => by kernel_rfl) (fun _ _ => by kernel_rfl) (fun r_4 x_12 => ?_))
  refine GoO.shape (env' := [(0, .int .u32 a_1), (1, .int .u32 b_2), (2, .int .i64 n_3), (7, .bool r_4)]) (H' := []) (B' := []) (ks := [0, 1, 2, 7]) (by kernel_rfl) (by kernel_rfl) (by kernel_rfl) ?_
  refine GoO.exec (is := [1]) (hs := [.p]) (rest := []) (ks := [0, 1, 2, 8]) (env' := [(0, .int .u32 a_1), (1, .int .u32 b_2), (2, .int .i64 n_3), (8, .bool (!r_4))]) (H' := []) (ps := []) (by kernel_rfl) trivial ?_
  refine GoO.regionEnd ?_
  refine GoO.ite' c12_5e (by kernel_rfl) (fun h5 => ?_) (fun h5 => ?_)
  · refine GoO.seq' c12_6e ?_
    refine GoO.region' (is := [0]) c12_7e (by kernel_rfl) ?_
    refine GoO.exec (is := [0]) (hs := [.p]) (rest := []) (ks := [6]) (env' := [(6, .bool false)]) (H' := []) (ps := []) (by kernel_rfl) trivial ?_
    refine GoO.regionEnd ?_
    exact GoO.ret' (h := c12_8e) (hs := []) (ps := []) (hk := []) (bk := []) Try.func12 () (by kernel_rfl) trivial (by kernel_rfl) (by kernel_rfl)
  · refine GoO.skip' c12_9e ?_
    refine GoO.seq' c12_10e ?_
    refine GoO.seq' c12_11e ?_
    refine GoO.region' (is := [0, 1]) c12_12e (by kernel_rfl) ?_
    refine GoO.exec (is := [0, 1]) (hs := [.p, .p]) (rest := []) (ks := [0, 1, 2, 10]) (env' := [(0, .int .u32 a_1), (1, .int .u32 b_2), (2, .int .i64 n_3), (10, .bool (decide (n_3 > 5000)))]) (H' := []) (ps := []) (by kernel_rfl) trivial ?_
    refine GoO.regionEnd ?_
    refine GoO.ite' c12_13e (by kernel_rfl) (fun h6 => ?_) (fun h6 => ?_)
    · refine GoO.region' (is := [0, 1, 2]) c12_14e (by kernel_rfl) ?_
      refine GoO.exec (is := [0, 1, 2]) (hs := [.p, .p, .p]) (rest := []) (ks := [0, 1, 2]) (env' := [(0, .int .u32 a_1), (1, .int .u32 b_2), (2, .int .i64 (n_3.tmod 5000))]) (H' := []) (ps := [(5000 : Int) ≠ 0]) (by kernel_rfl) (And.intro (by decide) trivial) ?_
      refine GoO.regionEnd ?_
      exact GoO.sub (ks := [0, 1, 2]) (hk := []) (bk := []) (by kernel_rfl) (by kernel_rfl) (by kernel_rfl) (tontinelaw02_CrcJoins_j0_ok n a_1 b_2 w0 S0 (n_3.tmod 5000))
    · refine GoO.skip' c12_15e ?_
      exact GoO.sub (ks := [0, 1, 2]) (hk := []) (bk := []) (by kernel_rfl) (by kernel_rfl) (by kernel_rfl) (tontinelaw02_CrcJoins_j0_ok n a_1 b_2 w0 S0 n_3)
end Go.GL
