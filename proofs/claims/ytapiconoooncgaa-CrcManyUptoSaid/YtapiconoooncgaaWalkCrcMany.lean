import Derived.Test.YtapiconoooncgaaKindsT1
import Derived.Test.YtapiconoooncgaaProg
set_option linter.unusedVariables false
set_option linter.unusedSimpArgs false
set_option maxRecDepth 100000
namespace Go.GL
open Go Go.Proofs

/-! tontine/crc.Add -/
noncomputable def c16_0 : Code := bodyOf Try.f16
noncomputable def c16_1 : Code := cdL c16_0
noncomputable def c16_2 : Code := cdR c16_0
noncomputable def c16_3 : Code := cdL c16_2
noncomputable def c16_4 : Code := cdR c16_2
noncomputable def c16_5 : Code := cdL c16_4
noncomputable def c16_6 : Code := cdL c16_5
noncomputable def c16_7 : Code := cdR c16_5
noncomputable def c16_8 : Code := cdL c16_7
noncomputable def c16_9 : Code := cdL c16_8
noncomputable def c16_10 : Code := cdL c16_9
noncomputable def c16_11 : Code := cdR c16_9
noncomputable def c16_12 : Code := cdL c16_11
noncomputable def c16_13 : Code := cdL c16_12
noncomputable def c16_14 : Code := cdR c16_12
noncomputable def c16_15 : Code := cdR c16_11
noncomputable def c16_16 : Code := cdL c16_15
noncomputable def c16_17 : Code := cdL c16_16
noncomputable def c16_18 : Code := cdL c16_17
noncomputable def c16_19 : Code := cdR c16_17
noncomputable def c16_20 : Code := cdL c16_19
noncomputable def c16_21 : Code := cdR c16_19
noncomputable def c16_22 : Code := cdL c16_21
noncomputable def c16_23 : Code := cdR c16_21
noncomputable def c16_24 : Code := cdL c16_23
noncomputable def c16_25 : Code := cdL c16_24
noncomputable def c16_26 : Code := cdL c16_25
noncomputable def c16_27 : Code := cdR c16_25
noncomputable def c16_28 : Code := cdL c16_27
noncomputable def c16_29 : Code := cdL c16_28
noncomputable def c16_30 : Code := cdR c16_28
noncomputable def c16_31 : Code := cdR c16_27
noncomputable def c16_32 : Code := cdL c16_31
noncomputable def c16_33 : Code := cdL c16_32
noncomputable def c16_34 : Code := cdR c16_31
noncomputable def c16_35 : Code := cdR c16_15
noncomputable def c16_36 : Code := cdR c16_4
noncomputable def c16_37 : Code := cdL c16_36
noncomputable def c16_38 : Code := cdR c16_36
noncomputable def r16_1 : Array Oper := cdO c16_1
noncomputable def r16_3 : Array Oper := cdO c16_3
noncomputable def r16_6 : Array Oper := cdO c16_6
noncomputable def r16_10 : Array Oper := cdO c16_10
noncomputable def r16_18 : Array Oper := cdO c16_18
noncomputable def r16_20 : Array Oper := cdO c16_20
noncomputable def r16_22 : Array Oper := cdO c16_22
noncomputable def r16_26 : Array Oper := cdO c16_26
noncomputable def r16_33 : Array Oper := cdO c16_33
noncomputable def r16_34 : Array Oper := cdO c16_34
noncomputable def r16_35 : Array Oper := cdO c16_35
noncomputable def r16_37 : Array Oper := cdO c16_37
theorem c16_0e : c16_0 = .seq c16_1 c16_2 := by kernel_rfl
theorem c16_1e : c16_1 = .region 0 r16_1 false := by kernel_rfl
theorem c16_2e : c16_2 = .seq c16_3 c16_4 := by kernel_rfl
theorem c16_3e : c16_3 = .region 1 r16_3 false := by kernel_rfl
theorem c16_4e : c16_4 = .seq c16_5 c16_36 := by kernel_rfl
theorem c16_5e : c16_5 = .seq c16_6 c16_7 := by kernel_rfl
theorem c16_6e : c16_6 = .region 2 r16_6 false := by kernel_rfl
theorem c16_7e : c16_7 = .block 0 c16_8 := by kernel_rfl
theorem c16_8e : c16_8 = .loop c16_9 := by kernel_rfl
theorem c16_9e : c16_9 = .seq c16_10 c16_11 := by kernel_rfl
theorem c16_10e : c16_10 = .region 3 r16_10 false := by kernel_rfl
theorem c16_11e : c16_11 = .seq c16_12 c16_15 := by kernel_rfl
theorem c16_12e : c16_12 = .cond (cdC c16_12) c16_13 c16_14 := by kernel_rfl
theorem c16_13e : c16_13 = .skip := by kernel_rfl
theorem c16_14e : c16_14 = .exit 0 := by kernel_rfl
theorem c16_15e : c16_15 = .seq c16_16 c16_35 := by kernel_rfl
theorem c16_16e : c16_16 = .block 1 c16_17 := by kernel_rfl
theorem c16_17e : c16_17 = .seq c16_18 c16_19 := by kernel_rfl
theorem c16_18e : c16_18 = .region 4 r16_18 false := by kernel_rfl
theorem c16_19e : c16_19 = .seq c16_20 c16_21 := by kernel_rfl
theorem c16_20e : c16_20 = .region 5 r16_20 false := by kernel_rfl
theorem c16_21e : c16_21 = .seq c16_22 c16_23 := by kernel_rfl
theorem c16_22e : c16_22 = .region 6 r16_22 false := by kernel_rfl
theorem c16_23e : c16_23 = .block 2 c16_24 := by kernel_rfl
theorem c16_24e : c16_24 = .loop c16_25 := by kernel_rfl
theorem c16_25e : c16_25 = .seq c16_26 c16_27 := by kernel_rfl
theorem c16_26e : c16_26 = .region 7 r16_26 false := by kernel_rfl
theorem c16_27e : c16_27 = .seq c16_28 c16_31 := by kernel_rfl
theorem c16_28e : c16_28 = .cond (cdC c16_28) c16_29 c16_30 := by kernel_rfl
theorem c16_29e : c16_29 = .skip := by kernel_rfl
theorem c16_30e : c16_30 = .exit 2 := by kernel_rfl
theorem c16_31e : c16_31 = .seq c16_32 c16_34 := by kernel_rfl
theorem c16_32e : c16_32 = .block 3 c16_33 := by kernel_rfl
theorem c16_33e : c16_33 = .region 8 r16_33 false := by kernel_rfl
theorem c16_34e : c16_34 = .region 9 r16_34 false := by kernel_rfl
theorem c16_35e : c16_35 = .region 10 r16_35 false := by kernel_rfl
theorem c16_36e : c16_36 = .seq c16_37 c16_38 := by kernel_rfl
theorem c16_37e : c16_37 = .region 11 r16_37 false := by kernel_rfl
theorem c16_38e : c16_38 = .ret := by kernel_rfl
noncomputable def crc_Add.R (A_3 : Option Addr) (c_4 : Nat) : Pst Int where
  ε := Unit
  v := fun r x => .int .u32 r
  H := fun r x => []
  B := fun r x => []
noncomputable def crc_Add.cx (A_3 : Option Addr) (c_4 : Nat) (w0 : World) (S0 : Fam) : Cx Int := ⟨Try.prog, 16, Try.f16, 33, w0, S0, [], 0, crc_Add.R A_3 c_4⟩
theorem crc_Add_l1_ok (n : Nat) (L0 : Int → Int → Option Int) (b_2 : (List UInt8)) (x_5 : Int) (x_6 : Int) (A_3 : Option Addr) (c_4 : Nat) (w0 : World) (S0 : Fam) (ih0 : ∀ (x_5 : Int) (x_6 : Int), GoO (crc_Add.cx A_3 c_4 w0 S0) [(5, .int .u32 x_5), (10, .slice A_3 b_2.length c_4), (11, .int .i64 (b_2.length : Int)), (12, .int .i64 x_6)] [] [Rd 0 Kd.u8 A_3 c_4 b_2] [.code c16_9, .inLoop c16_9, .inBlock 0, .code c16_36] (L0 x_5 x_6)) :
    ∀ (k : Nat) (x_9 : Int) (x_10 : Int), GoO (crc_Add.cx A_3 c_4 w0 S0) [(5, .int .u32 x_9), (10, .slice A_3 b_2.length c_4), (11, .int .i64 (b_2.length : Int)), (12, .int .i64 x_6), (20, .int .i64 x_10)] [] [Rd 0 Kd.u8 A_3 c_4 b_2] [.code c16_25, .inLoop c16_25, .inBlock 2, .inBlock 1, .code c16_35, .inLoop c16_9, .inBlock 0, .code c16_36] (crc_Add.l1 n L0 x_6 k x_9 x_10) := by
  intro k
  induction k with
  | zero => intros; rw [crc_Add.l1.eq_1]; exact GoO.stop
  | succ k ih1 =>
    intro x_9 x_10
    rw [crc_Add.l1.eq_2]
    refine GoO.seq' c16_25e ?_
    refine GoO.region' (is := [0]) c16_26e (by kernel_rfl) ?_
    refine GoO.exec (is := [0]) (hs := [.p]) (rest := []) (ks := [5, 10, 11, 12, 20, 21]) (env' := [(5, .int .u32 x_9), (10, .slice A_3 b_2.length c_4), (11, .int .i64 (b_2.length : Int)), (12, .int .i64 x_6), (20, .int .i64 x_10), (21, .bool (decide (x_10 < 8)))]) (H' := []) (ps := []) (by kernel_rfl) trivial ?_
    refine GoO.regionEnd ?_
    refine GoO.seq' c16_27e ?_
    refine GoO.ite' c16_28e (by kernel_rfl) (fun h11 => ?_) (fun h11 => ?_)
    · refine GoO.skip' c16_29e ?_
      refine GoO.seq' c16_31e ?_
      refine GoO.block' c16_32e ?_
      refine GoO.region' (is := [0, 1, 2, 3, 4, 5, 6, 7]) c16_33e (by kernel_rfl) ?_
      refine GoO.exec (is := [0, 1, 2, 3, 4, 5, 6, 7]) (hs := [.p, .p, .p, .p, .p, .p, .p, .p]) (rest := []) (ks := [5, 10, 11, 12, 20]) (env' := [(5, .int .u32 (bXor .u32 (shR .u32 x_9 1) (bAnd .u32 2197175160 (wu32 (0 - (bAnd .u32 x_9 1)))))), (10, .slice A_3 b_2.length c_4), (11, .int .i64 (b_2.length : Int)), (12, .int .i64 x_6), (20, .int .i64 x_10)]) (H' := []) (ps := [(0 : Int) ≤ 1]) (by kernel_rfl) (And.intro (by decide) trivial) ?_
      refine GoO.regionEnd ?_
      refine GoO.inBlock ?_
      refine GoO.region' (is := [0, 1]) c16_34e (by kernel_rfl) ?_
      refine GoO.exec (is := [0, 1]) (hs := [.p, .p]) (rest := []) (ks := [5, 10, 11, 12, 20]) (env' := [(5, .int .u32 (bXor .u32 (shR .u32 x_9 1) (bAnd .u32 2197175160 (wu32 (0 - (bAnd .u32 x_9 1)))))), (10, .slice A_3 b_2.length c_4), (11, .int .i64 (b_2.length : Int)), (12, .int .i64 x_6), (20, .int .i64 (wi64 (x_10 + 1)))]) (H' := []) (ps := []) (by kernel_rfl) trivial ?_
      refine GoO.regionEnd ?_
      refine GoO.inLoop ?_
      exact GoO.sub (ks := [5, 10, 11, 12, 20]) (hk := []) (bk := [0]) (by kernel_rfl) (by kernel_rfl) (by kernel_rfl) (ih1 (bXor .u32 (shR .u32 x_9 1) (bAnd .u32 2197175160 (wu32 (0 - (bAnd .u32 x_9 1))))) (wi64 (x_10 + 1)))
    · refine GoO.exit' c16_30e rfl ?_
      refine GoO.inBlock ?_
      refine GoO.region' (is := [0, 1]) c16_35e (by kernel_rfl) ?_
      refine GoO.exec (is := [0, 1]) (hs := [.p, .p]) (rest := []) (ks := [5, 10, 11, 12]) (env' := [(5, .int .u32 x_9), (10, .slice A_3 b_2.length c_4), (11, .int .i64 (b_2.length : Int)), (12, .int .i64 (wi64 (x_6 + 1)))]) (H' := []) (ps := []) (by kernel_rfl) trivial ?_
      refine GoO.regionEnd ?_
      refine GoO.inLoop ?_
      exact GoO.sub (ks := [5, 10, 11, 12]) (hk := []) (bk := [0]) (by kernel_rfl) (by kernel_rfl) (by kernel_rfl) (ih0 x_9 (wi64 (x_6 + 1)))
theorem crc_Add_l0_ok (n : Nat) (b_2 : (List UInt8)) (A_3 : Option Addr) (c_4 : Nat) (w0 : World) (S0 : Fam) :
    ∀ (k : Nat) (x_5 : Int) (x_6 : Int), GoO (crc_Add.cx A_3 c_4 w0 S0) [(5, .int .u32 x_5), (10, .slice A_3 b_2.length c_4), (11, .int .i64 (b_2.length : Int)), (12, .int .i64 x_6)] [] [Rd 0 Kd.u8 A_3 c_4 b_2] [.code c16_9, .inLoop c16_9, .inBlock 0, .code c16_36] (crc_Add.l0 n b_2 k x_5 x_6) := by
  intro k
  induction k with
  | zero => intros; rw [crc_Add.l0.eq_1]; exact GoO.stop
  | succ k ih0 =>
    intro x_5 x_6
    rw [crc_Add.l0.eq_2]
    refine GoO.seq' c16_9e ?_
    refine GoO.region' (is := [0]) c16_10e (by kernel_rfl) ?_
    refine GoO.exec (is := [0]) (hs := [.p]) (rest := []) (ks := [5, 10, 11, 12, 13]) (env' := [(5, .int .u32 x_5), (10, .slice A_3 b_2.length c_4), (11, .int .i64 (b_2.length : Int)), (12, .int .i64 x_6), (13, .bool (decide (x_6 < (b_2.length : Int))))]) (H' := []) (ps := []) (by kernel_rfl) trivial ?_
    refine GoO.regionEnd ?_
    refine GoO.seq' c16_11e ?_
    refine GoO.ite' c16_12e (by kernel_rfl) (fun h7 => ?_) (fun h7 => ?_)
    · refine GoO.skip' c16_13e ?_
      refine GoO.seq' c16_15e ?_
      refine GoO.block' c16_16e ?_
      refine GoO.seq' c16_17e ?_
      refine GoO.region' (is := [0, 1, 2]) c16_18e (by kernel_rfl) ?_
      refine GoO.guard (fun h8 => ?_)
      refine OpTo.go (GoO.idx (kk := .i64) (e := 5) (K := Kd.u8) (A := A_3) (c := c_4) (xs := b_2) (iv := x_6) (j := 0) rfl (by kernel_rfl) (by kernel_rfl) (by kernel_rfl) (by kernel_rfl) rfl Reads.rd rfl h8.1 h8.2 (by decide) rfl ?_)
      refine OpTo.go (GoO.ldE' (K := Kd.u8) (A := A_3) (c := c_4) (xs := b_2) (iN := x_6.toNat) (off := 0) (j := 0) rfl (by kernel_rfl) rfl Reads.rd (idx_lt h8.1 h8.2) (by decide) (Opn.flat _ _ _ _ _) (v := fun _ => .int .u8 (((rdL b_2 x_6)).toNat : Int)) (fun _ => by kernel_rfl) _ (fun _ => rfl) (fun _ => ?_))
      refine GoO.exec (is := [2]) (hs := [.p]) (rest := []) (ks := [5, 7, 10, 11, 12]) (env' := [(5, .int .u32 x_5), (7, .int .u8 (((rdL b_2 x_6)).toNat : Int)), (10, .slice A_3 b_2.length c_4), (11, .int .i64 (b_2.length : Int)), (12, .int .i64 x_6)]) (H' := []) (ps := []) (by kernel_rfl) trivial ?_
      refine GoO.regionEnd ?_
      refine GoO.seq' c16_19e ?_
      refine GoO.region' (is := [0, 1, 2, 3, 4]) c16_20e (by kernel_rfl) ?_
      refine GoO.exec (is := [0, 1, 2, 3, 4]) (hs := [.p, .p, .p, .p, .p]) (rest := []) (ks := [5, 10, 11, 12]) (env' := [(5, .int .u32 (bXor .u32 x_5 (wu32 (((rdL b_2 x_6)).toNat : Int)))), (10, .slice A_3 b_2.length c_4), (11, .int .i64 (b_2.length : Int)), (12, .int .i64 x_6)]) (H' := []) (ps := []) (by kernel_rfl) trivial ?_
      refine GoO.regionEnd ?_
      refine GoO.seq' c16_21e ?_
      refine GoO.region' (is := [0]) c16_22e (by kernel_rfl) ?_
      refine GoO.exec (is := [0]) (hs := [.p]) (rest := []) (ks := [5, 10, 11, 12, 20]) (env' := [(5, .int .u32 (bXor .u32 x_5 (wu32 (((rdL b_2 x_6)).toNat : Int)))), (10, .slice A_3 b_2.length c_4), (11, .int .i64 (b_2.length : Int)), (12, .int .i64 x_6), (20, .int .i64 0)]) (H' := []) (ps := []) (by kernel_rfl) trivial ?_
      refine GoO.regionEnd ?_
      refine GoO.block' c16_23e ?_
      refine GoO.loop' c16_24e ?_
      exact GoO.sub (ks := [5, 10, 11, 12, 20]) (hk := []) (bk := [0]) (by kernel_rfl) (by kernel_rfl) (by kernel_rfl) (crc_Add_l1_ok n (crc_Add.l0 n b_2 k) b_2 x_5 x_6 A_3 c_4 w0 S0 ih0 n (bXor .u32 x_5 (wu32 (((rdL b_2 x_6)).toNat : Int))) 0)
    · refine GoO.exit' c16_14e rfl ?_
      refine GoO.seq' c16_36e ?_
      refine GoO.region' (is := [0, 1, 2]) c16_37e (by kernel_rfl) ?_
      refine GoO.exec (is := [0, 1, 2]) (hs := [.p, .p, .p]) (rest := []) (ks := [4]) (env' := [(4, .int .u32 (bNot .u32 x_5))]) (H' := []) (ps := []) (by kernel_rfl) trivial ?_
      refine GoO.regionEnd ?_
      exact GoO.ret' (h := c16_38e) (hs := []) (ps := []) (hk := []) (bk := []) Try.func16 () (by kernel_rfl) trivial (by kernel_rfl) (by kernel_rfl)
theorem crc_Add_ok (n : Nat) (sum_1 : Int) (b_2 : (List UInt8)) (A_3 : Option Addr) (c_4 : Nat) :
    Meets Try.prog 16 [.int .u32 sum_1, .slice A_3 b_2.length c_4] 0 [] [] [Rd 0 Kd.u8 A_3 c_4 b_2] (crc_Add.f n sum_1 b_2) (crc_Add.R A_3 c_4) := by
  refine Meets.of (c := c16_0) (n := 33) Try.func16 (by kernel_rfl) (by kernel_rfl) (by kernel_rfl) fun w0 S0 => ?_
  unfold crc_Add.f
  show GoO (crc_Add.cx A_3 c_4 w0 S0) [(0, .int .u32 sum_1), (1, .slice A_3 b_2.length c_4)] [] [Rd 0 Kd.u8 A_3 c_4 b_2] [.code c16_0] _
  refine GoO.seq' c16_0e ?_
  refine GoO.region' (is := [0]) c16_1e (by kernel_rfl) ?_
  refine GoO.exec (is := [0]) (hs := [.p]) (rest := []) (ks := [0, 1]) (env' := [(0, .int .u32 sum_1), (1, .slice A_3 b_2.length c_4)]) (H' := []) (ps := []) (by kernel_rfl) trivial ?_
  refine GoO.regionEnd ?_
  refine GoO.seq' c16_2e ?_
  refine GoO.region' (is := [0, 1, 2]) c16_3e (by kernel_rfl) ?_
  refine GoO.exec (is := [0, 1, 2]) (hs := [.p, .p, .p]) (rest := []) (ks := [1, 5]) (env' := [(1, .slice A_3 b_2.length c_4), (5, .int .u32 (bNot .u32 sum_1))]) (H' := []) (ps := []) (by kernel_rfl) trivial ?_
  refine GoO.regionEnd ?_
  refine GoO.seq' c16_4e ?_
  refine GoO.seq' c16_5e ?_
  refine GoO.region' (is := [0, 1, 2]) c16_6e (by kernel_rfl) ?_
  refine GoO.exec (is := [0, 1, 2]) (hs := [.p, .p, .p]) (rest := []) (ks := [5, 10, 11, 12]) (env' := [(5, .int .u32 (bNot .u32 sum_1)), (10, .slice A_3 b_2.length c_4), (11, .int .i64 (b_2.length : Int)), (12, .int .i64 0)]) (H' := []) (ps := []) (by kernel_rfl) trivial ?_
  refine GoO.regionEnd ?_
  refine GoO.block' c16_7e ?_
  refine GoO.loop' c16_8e ?_
  exact GoO.sub (ks := [5, 10, 11, 12]) (hk := []) (bk := [0]) (by kernel_rfl) (by kernel_rfl) (by kernel_rfl) (crc_Add_l0_ok n b_2 A_3 c_4 w0 S0 n (bNot .u32 sum_1) 0)

/-! tontine/crc.Sum -/
noncomputable def c18_0 : Code := bodyOf Try.f18
noncomputable def c18_1 : Code := cdL c18_0
noncomputable def c18_2 : Code := cdR c18_0
noncomputable def c18_3 : Code := cdL c18_2
noncomputable def c18_4 : Code := cdR c18_2
noncomputable def r18_1 : Array Oper := cdO c18_1
noncomputable def r18_3 : Array Oper := cdO c18_3
theorem c18_0e : c18_0 = .seq c18_1 c18_2 := by kernel_rfl
theorem c18_1e : c18_1 = .region 0 r18_1 false := by kernel_rfl
theorem c18_2e : c18_2 = .seq c18_3 c18_4 := by kernel_rfl
theorem c18_3e : c18_3 = .region 1 r18_3 false := by kernel_rfl
theorem c18_4e : c18_4 = .ret := by kernel_rfl
noncomputable def crc_Sum.R (A_2 : Option Addr) (c_3 : Nat) : Pst Int where
  ε := Unit
  v := fun r x => .int .u32 r
  H := fun r x => []
  B := fun r x => []
noncomputable def crc_Sum.cx (A_2 : Option Addr) (c_3 : Nat) (w0 : World) (S0 : Fam) : Cx Int := ⟨Try.prog, 18, Try.f18, 5, w0, S0, [], 0, crc_Sum.R A_2 c_3⟩
theorem crc_Sum_ok (n : Nat) (b_1 : (List UInt8)) (A_2 : Option Addr) (c_3 : Nat) :
    Meets Try.prog 18 [.slice A_2 b_1.length c_3] 0 [] [] [Rd 0 Kd.u8 A_2 c_3 b_1] (crc_Sum.f n b_1) (crc_Sum.R A_2 c_3) := by
  refine Meets.of (c := c18_0) (n := 5) Try.func18 (by kernel_rfl) (by kernel_rfl) (by kernel_rfl) fun w0 S0 => ?_
  unfold crc_Sum.f
  show GoO (crc_Sum.cx A_2 c_3 w0 S0) [(0, .slice A_2 b_1.length c_3)] [] [Rd 0 Kd.u8 A_2 c_3 b_1] [.code c18_0] _
  refine GoO.seq' c18_0e ?_
  refine GoO.region' (is := [0]) c18_1e (by kernel_rfl) ?_
  refine GoO.exec (is := [0]) (hs := [.p]) (rest := []) (ks := [0]) (env' := [(0, .slice A_2 b_1.length c_3)]) (H' := []) (ps := []) (by kernel_rfl) trivial ?_
  refine GoO.regionEnd ?_
  refine GoO.seq' c18_2e ?_
  refine GoO.region' (is := [0, 1, 2]) c18_3e (by kernel_rfl) ?_
  refine GoO.exec (is := [0]) (hs := [.p]) (rest := [1, 2]) (ks := [3]) (env' := [(3, .slice A_2 b_1.length c_3)]) (H' := []) (ps := []) (by kernel_rfl) trivial ?_
  refine OpTo.go (GoO.call rfl (by kernel_rfl) (by kernel_rfl) (crc_Add_ok n 0 b_1 A_2 c_3) [[0]] [] [] [(0, 0)] (hks := []) (bks := [0]) (by kernel_rfl) (by kernel_rfl) (by kernel_rfl) (.inl rfl) rfl rfl (by kernel_rfl) (by kernel_rfl) _ (fun _ _ => rfl) _ _ (fun _ _ => rfl) (fun _ _ => rfl) (fun _ _ => by kernel_rfl) (fun _ _ => by kernel_rfl) (fun r_4 x_5 => ?_))
  refine GoO.shape (env' := [(3, .slice A_2 b_1.length c_3), (4, .int .u32 r_4)]) (H' := []) (B' := [Rd 0 Kd.u8 A_2 c_3 b_1]) (ks := [3, 4]) (by kernel_rfl) (by kernel_rfl) (by kernel_rfl) ?_
  refine GoO.exec (is := [2]) (hs := [.p]) (rest := []) (ks := [2]) (env' := [(2, .int .u32 r_4)]) (H' := []) (ps := []) (by kernel_rfl) trivial ?_
  refine GoO.regionEnd ?_
  exact GoO.ret' (h := c18_4e) (hs := []) (ps := []) (hk := []) (bk := []) Try.func18 () (by kernel_rfl) trivial (by kernel_rfl) (by kernel_rfl)

/-! tontine/tontinelaw02.begun -/
noncomputable def c15_0 : Code := bodyOf Try.f15
noncomputable def c15_1 : Code := cdL c15_0
noncomputable def c15_2 : Code := cdR c15_0
noncomputable def c15_3 : Code := cdL c15_2
noncomputable def c15_4 : Code := cdR c15_2
noncomputable def r15_1 : Array Oper := cdO c15_1
noncomputable def r15_3 : Array Oper := cdO c15_3
theorem c15_0e : c15_0 = .seq c15_1 c15_2 := by kernel_rfl
theorem c15_1e : c15_1 = .region 0 r15_1 false := by kernel_rfl
theorem c15_2e : c15_2 = .seq c15_3 c15_4 := by kernel_rfl
theorem c15_3e : c15_3 = .region 1 r15_3 false := by kernel_rfl
theorem c15_4e : c15_4 = .ret := by kernel_rfl
noncomputable def tontinelaw02_begun.R : Pst Bool where
  ε := Unit
  v := fun r x => .bool r
  H := fun r x => []
  B := fun r x => []
noncomputable def tontinelaw02_begun.cx (w0 : World) (S0 : Fam) : Cx Bool := ⟨Try.prog, 15, Try.f15, 9, w0, S0, [], 0, tontinelaw02_begun.R⟩
theorem tontinelaw02_begun_ok (n : Nat) :
    Meets Try.prog 15 [] 0 [] [] [] (tontinelaw02_begun.f n) (tontinelaw02_begun.R) := by
  refine Meets.of (c := c15_0) (n := 9) Try.func15 (by kernel_rfl) (by kernel_rfl) (by kernel_rfl) fun w0 S0 => ?_
  unfold tontinelaw02_begun.f
  show GoO (tontinelaw02_begun.cx w0 S0) [] [] [] [.code c15_0] _
  refine GoO.seq' c15_0e ?_
  refine GoO.region' (is := [0]) c15_1e (by kernel_rfl) ?_
  refine GoO.exec (is := [0]) (hs := [.p]) (rest := []) (ks := []) (env' := []) (H' := []) (ps := []) (by kernel_rfl) trivial ?_
  refine GoO.regionEnd ?_
  refine GoO.seq' c15_2e ?_
  refine GoO.region' (is := [0, 1, 2, 3, 4, 5, 6, 7, 8]) c15_3e (by kernel_rfl) ?_
  refine OpTo.go (GoO.lit (e := 5) (K := Kd.u8) rfl (by kernel_rfl) (by kernel_rfl) (cs := [.int .u8 49, .int .u8 50, .int .u8 51, .int .u8 52, .int .u8 53, .int .u8 54, .int .u8 55, .int .u8 56, .int .u8 57]) (by kernel_rfl) [(49 : UInt8), (50 : UInt8), (51 : UInt8), (52 : UInt8), (53 : UInt8), (54 : UInt8), (55 : UInt8), (56 : UInt8), (57 : UInt8)] (by kernel_rfl) (by kernel_rfl) (fun w S hB => ⟨[.int .u8 49], _, rfl, rfl, ⟨[.int .u8 50], _, rfl, rfl, ⟨[.int .u8 51], _, rfl, rfl, ⟨[.int .u8 52], _, rfl, rfl, ⟨[.int .u8 53], _, rfl, rfl, ⟨[.int .u8 54], _, rfl, rfl, ⟨[.int .u8 55], _, rfl, rfl, ⟨[.int .u8 56], _, rfl, rfl, ⟨[.int .u8 57], _, rfl, rfl, rfl⟩⟩⟩⟩⟩⟩⟩⟩⟩) 40 _ (fun _ _ => rfl) (fun A_1 c_2 => ?_))
  refine OpTo.go (GoO.markS (e := 5) (A := A_1) (c := c_2) (n := [(49 : UInt8), (50 : UInt8), (51 : UInt8), (52 : UInt8), (53 : UInt8), (54 : UInt8), (55 : UInt8), (56 : UInt8), (57 : UInt8)].length) (xs := [(49 : UInt8), (50 : UInt8), (51 : UInt8), (52 : UInt8), (53 : UInt8), (54 : UInt8), (55 : UInt8), (56 : UInt8), (57 : UInt8)]) (j := 0) (tg := 40) (bk := []) rfl (by kernel_rfl) (by kernel_rfl) (by kernel_rfl) (by kernel_rfl) rfl (by kernel_rfl) (by kernel_rfl) rfl (by kernel_rfl) rfl ?_)
  refine GoO.retag (t := 40) (u := 0) (j := 0) (hk := []) (bk := []) rfl rfl rfl rfl rfl rfl (by kernel_rfl) (by kernel_rfl) ?_
  refine OpTo.go (GoO.call rfl (by kernel_rfl) (by kernel_rfl) (crc_Sum_ok n [(49 : UInt8), (50 : UInt8), (51 : UInt8), (52 : UInt8), (53 : UInt8), (54 : UInt8), (55 : UInt8), (56 : UInt8), (57 : UInt8)] A_1 c_2) [[0]] [] [] [(0, 0)] (hks := []) (bks := [0]) (by kernel_rfl) (by kernel_rfl) (by kernel_rfl) (.inl rfl) rfl rfl (by kernel_rfl) (by kernel_rfl) _ (fun _ _ => rfl) _ _ (fun _ _ => rfl) (fun _ _ => rfl) (fun _ _ => by kernel_rfl) (fun _ _ => by kernel_rfl) (fun r_3 x_7 => ?_))
  refine GoO.shape (env' := [(1, .slice A_1 [(49 : UInt8), (50 : UInt8), (51 : UInt8), (52 : UInt8), (53 : UInt8), (54 : UInt8), (55 : UInt8), (56 : UInt8), (57 : UInt8)].length c_2), (2, .slice A_1 [(49 : UInt8), (50 : UInt8), (51 : UInt8), (52 : UInt8), (53 : UInt8), (54 : UInt8), (55 : UInt8), (56 : UInt8), (57 : UInt8)].length c_2), (3, .int .u32 r_3)]) (H' := []) (B' := [Rd 0 Kd.u8 A_1 c_2 [(49 : UInt8), (50 : UInt8), (51 : UInt8), (52 : UInt8), (53 : UInt8), (54 : UInt8), (55 : UInt8), (56 : UInt8), (57 : UInt8)]]) (ks := [1, 2, 3]) (by kernel_rfl) (by kernel_rfl) (by kernel_rfl) ?_
  refine GoO.exec (is := [3, 4]) (hs := [.p, .p]) (rest := [5, 6, 7, 8]) (ks := [5]) (env' := [(5, .bool (r_3 == 3808858755))]) (H' := []) (ps := []) (by kernel_rfl) trivial ?_
  refine GoO.bsplit (t := 5) (by kernel_rfl) (fun h4 => ?_) (fun h4 => ?_)
  · refine GoO.nilRd Kd.u8 ?_
    refine OpTo.go (GoO.call rfl (by kernel_rfl) (by kernel_rfl) (crc_Sum_ok n ([] : List UInt8) none 0) [[0]] [] [] [(0, 0)] (hks := []) (bks := [0, 1]) (by kernel_rfl) (by kernel_rfl) (by kernel_rfl) (.inl rfl) rfl rfl (by kernel_rfl) (by kernel_rfl) _ (fun _ _ => rfl) _ _ (fun _ _ => rfl) (fun _ _ => rfl) (fun _ _ => by kernel_rfl) (fun _ _ => by kernel_rfl) (fun r_5 x_6 => ?_))
    refine GoO.shape (env' := [(5, .bool true), (6, .int .u32 r_5)]) (H' := []) (B' := [Rd 0 Kd.u8 none 0 ([] : List UInt8), Rd 0 Kd.u8 A_1 c_2 [(49 : UInt8), (50 : UInt8), (51 : UInt8), (52 : UInt8), (53 : UInt8), (54 : UInt8), (55 : UInt8), (56 : UInt8), (57 : UInt8)]]) (ks := [5, 6]) (by kernel_rfl) (by kernel_rfl) (by kernel_rfl) ?_
    refine GoO.exec (is := [6, 7, 8]) (hs := [.p, .p, .p]) (rest := []) (ks := [0]) (env' := [(0, .bool (r_5 == 0))]) (H' := []) (ps := []) (by kernel_rfl) trivial ?_
    refine GoO.regionEnd ?_
    exact GoO.ret' (h := c15_4e) (hs := []) (ps := []) (hk := []) (bk := []) Try.func15 () (by kernel_rfl) trivial (by kernel_rfl) (by kernel_rfl)
  · refine GoO.exec (is := [5, 6, 7, 8]) (hs := [.p, .p, .p, .p]) (rest := []) (ks := [0]) (env' := [(0, .bool false)]) (H' := []) (ps := []) (by kernel_rfl) trivial ?_
    refine GoO.regionEnd ?_
    exact GoO.ret' (h := c15_4e) (hs := []) (ps := []) (hk := []) (bk := []) Try.func15 () (by kernel_rfl) trivial (by kernel_rfl) (by kernel_rfl)

/-! tontine/crc.times -/
noncomputable def c29_0 : Code := bodyOf Try.f29
noncomputable def c29_1 : Code := cdL c29_0
noncomputable def c29_2 : Code := cdR c29_0
noncomputable def c29_3 : Code := cdL c29_2
noncomputable def c29_4 : Code := cdR c29_2
noncomputable def c29_5 : Code := cdL c29_4
noncomputable def c29_6 : Code := cdL c29_5
noncomputable def c29_7 : Code := cdR c29_5
noncomputable def c29_8 : Code := cdL c29_7
noncomputable def c29_9 : Code := cdL c29_8
noncomputable def c29_10 : Code := cdL c29_9
noncomputable def c29_11 : Code := cdL c29_10
noncomputable def c29_12 : Code := cdR c29_10
noncomputable def c29_13 : Code := cdL c29_12
noncomputable def c29_14 : Code := cdR c29_12
noncomputable def c29_15 : Code := cdR c29_9
noncomputable def c29_16 : Code := cdL c29_15
noncomputable def c29_17 : Code := cdL c29_16
noncomputable def c29_18 : Code := cdL c29_17
noncomputable def c29_19 : Code := cdR c29_17
noncomputable def c29_20 : Code := cdR c29_15
noncomputable def c29_21 : Code := cdR c29_4
noncomputable def c29_22 : Code := cdL c29_21
noncomputable def c29_23 : Code := cdR c29_21
noncomputable def r29_1 : Array Oper := cdO c29_1
noncomputable def r29_3 : Array Oper := cdO c29_3
noncomputable def r29_6 : Array Oper := cdO c29_6
noncomputable def r29_11 : Array Oper := cdO c29_11
noncomputable def r29_18 : Array Oper := cdO c29_18
noncomputable def r29_19 : Array Oper := cdO c29_19
noncomputable def r29_20 : Array Oper := cdO c29_20
noncomputable def r29_22 : Array Oper := cdO c29_22
theorem c29_0e : c29_0 = .seq c29_1 c29_2 := by kernel_rfl
theorem c29_1e : c29_1 = .region 0 r29_1 false := by kernel_rfl
theorem c29_2e : c29_2 = .seq c29_3 c29_4 := by kernel_rfl
theorem c29_3e : c29_3 = .region 1 r29_3 false := by kernel_rfl
theorem c29_4e : c29_4 = .seq c29_5 c29_21 := by kernel_rfl
theorem c29_5e : c29_5 = .seq c29_6 c29_7 := by kernel_rfl
theorem c29_6e : c29_6 = .region 2 r29_6 false := by kernel_rfl
theorem c29_7e : c29_7 = .block 0 c29_8 := by kernel_rfl
theorem c29_8e : c29_8 = .loop c29_9 := by kernel_rfl
theorem c29_9e : c29_9 = .seq c29_10 c29_15 := by kernel_rfl
theorem c29_10e : c29_10 = .seq c29_11 c29_12 := by kernel_rfl
theorem c29_11e : c29_11 = .region 3 r29_11 false := by kernel_rfl
theorem c29_12e : c29_12 = .cond (cdC c29_12) c29_13 c29_14 := by kernel_rfl
theorem c29_13e : c29_13 = .skip := by kernel_rfl
theorem c29_14e : c29_14 = .exit 0 := by kernel_rfl
theorem c29_15e : c29_15 = .seq c29_16 c29_20 := by kernel_rfl
theorem c29_16e : c29_16 = .block 1 c29_17 := by kernel_rfl
theorem c29_17e : c29_17 = .seq c29_18 c29_19 := by kernel_rfl
theorem c29_18e : c29_18 = .region 5 r29_18 false := by kernel_rfl
theorem c29_19e : c29_19 = .region 6 r29_19 false := by kernel_rfl
theorem c29_20e : c29_20 = .region 4 r29_20 false := by kernel_rfl
theorem c29_21e : c29_21 = .seq c29_22 c29_23 := by kernel_rfl
theorem c29_22e : c29_22 = .region 7 r29_22 false := by kernel_rfl
theorem c29_23e : c29_23 = .ret := by kernel_rfl
noncomputable def crc_times.R : Pst Int where
  ε := Unit
  v := fun r x => .int .u32 r
  H := fun r x => []
  B := fun r x => []
noncomputable def crc_times.cx (w0 : World) (S0 : Fam) : Cx Int := ⟨Try.prog, 29, Try.f29, 23, w0, S0, [], 0, crc_times.R⟩
theorem crc_times_l0_ok (n : Nat) (m_1 : (List Int)) (b_3 : Nat) (w0 : World) (S0 : Fam) :
    ∀ (k : Nat) (x_4 : Int) (y_5 : Int) (i_6 : Int), GoO (crc_times.cx w0 S0) [(1, .int .u32 x_4), (2, .pointer (some ⟨b_3, 0, none⟩)), (5, .int .u32 y_5), (6, .int .i64 i_6)] [⟨40, b_3, arrV .u32 m_1⟩] [] [.code c29_9, .inLoop c29_9, .inBlock 0, .code c29_21] (crc_times.l0 n m_1 k x_4 y_5 i_6) := by
  intro k
  induction k with
  | zero => intros; rw [crc_times.l0.eq_1]; exact GoO.stop
  | succ k ih0 =>
    intro x_4 y_5 i_6
    rw [crc_times.l0.eq_2]
    refine GoO.seq' c29_9e ?_
    refine GoO.seq' c29_10e ?_
    refine GoO.region' (is := [0, 1]) c29_11e (by kernel_rfl) ?_
    refine GoO.exec (is := [0, 1]) (hs := [.p, .p]) (rest := []) (ks := [1, 2, 5, 6, 8]) (env' := [(1, .int .u32 x_4), (2, .pointer (some ⟨b_3, 0, none⟩)), (5, .int .u32 y_5), (6, .int .i64 i_6), (8, .bool (decide (x_4 > 0)))]) (H' := [⟨40, b_3, arrV .u32 m_1⟩]) (ps := []) (by kernel_rfl) trivial ?_
    refine GoO.regionEnd ?_
    refine GoO.ite' c29_12e (by kernel_rfl) (fun h7 => ?_) (fun h7 => ?_)
    · refine GoO.skip' c29_13e ?_
      refine GoO.seq' c29_15e ?_
      refine GoO.block' c29_16e ?_
      refine GoO.seq' c29_17e ?_
      refine GoO.region' (is := [0, 1, 2, 3, 4, 5, 6, 7, 8, 9]) c29_18e (by kernel_rfl) ?_
      refine GoO.exec (is := [0, 1]) (hs := [.p, .p]) (rest := [2, 3, 4, 5, 6, 7, 8, 9]) (ks := [1, 2, 6, 11, 12]) (env' := [(1, .int .u32 x_4), (2, .pointer (some ⟨b_3, 0, none⟩)), (6, .int .i64 i_6), (11, .int .u32 y_5), (12, .int .i64 i_6)]) (H' := [⟨40, b_3, arrV .u32 m_1⟩]) (ps := []) (by kernel_rfl) trivial ?_
      refine GoO.guard (fun h8 => ?_)
      refine OpTo.go (GoO.idxB (b := b_3) (n := 32) (e := 22) (kk := .i64) (iv := i_6) rfl (by kernel_rfl) (by kernel_rfl) (by kernel_rfl) (by kernel_rfl) h8.1 h8.2 rfl ?_)
      refine GoO.guard (fun h9 => ?_)
      refine OpTo.go (GoO.ldB (j := 0) rfl rfl rfl (loadBx_elt (by kernel_rfl) h9.2.1 h9.2.2) rfl ?_)
      refine GoO.exec (is := [4, 5, 6, 7, 8, 9]) (hs := [.p, .p, .p, .p, .p, .p]) (rest := []) (ks := [1, 2, 5, 6]) (env' := [(1, .int .u32 x_4), (2, .pointer (some ⟨b_3, 0, none⟩)), (5, .int .u32 (bXor .u32 y_5 (bAnd .u32 (rdL m_1 i_6) (wu32 (0 - (bAnd .u32 x_4 1)))))), (6, .int .i64 i_6)]) (H' := [⟨40, b_3, arrV .u32 m_1⟩]) (ps := []) (by kernel_rfl) trivial ?_
      refine GoO.regionEnd ?_
      refine GoO.region' (is := [0, 1, 2]) c29_19e (by kernel_rfl) ?_
      refine GoO.exec (is := [0, 1, 2]) (hs := [.p, .p, .p]) (rest := []) (ks := [1, 2, 5, 6]) (env' := [(1, .int .u32 (shR .u32 x_4 1)), (2, .pointer (some ⟨b_3, 0, none⟩)), (5, .int .u32 (bXor .u32 y_5 (bAnd .u32 (rdL m_1 i_6) (wu32 (0 - (bAnd .u32 x_4 1)))))), (6, .int .i64 i_6)]) (H' := [⟨40, b_3, arrV .u32 m_1⟩]) (ps := [(0 : Int) ≤ 1]) (by kernel_rfl) (And.intro (by decide) trivial) ?_
      refine GoO.regionEnd ?_
      refine GoO.inBlock ?_
      refine GoO.region' (is := [0, 1, 2]) c29_20e (by kernel_rfl) ?_
      refine GoO.exec (is := [0, 1, 2]) (hs := [.p, .p, .p]) (rest := []) (ks := [1, 2, 5, 6]) (env' := [(1, .int .u32 (shR .u32 x_4 1)), (2, .pointer (some ⟨b_3, 0, none⟩)), (5, .int .u32 (bXor .u32 y_5 (bAnd .u32 (rdL m_1 i_6) (wu32 (0 - (bAnd .u32 x_4 1)))))), (6, .int .i64 (wi64 (i_6 + 1)))]) (H' := [⟨40, b_3, arrV .u32 m_1⟩]) (ps := []) (by kernel_rfl) trivial ?_
      refine GoO.regionEnd ?_
      refine GoO.inLoop ?_
      exact GoO.sub (ks := [1, 2, 5, 6]) (hk := [0]) (bk := []) (by kernel_rfl) (by kernel_rfl) (by kernel_rfl) (ih0 (shR .u32 x_4 1) (bXor .u32 y_5 (bAnd .u32 (rdL m_1 i_6) (wu32 (0 - (bAnd .u32 x_4 1))))) (wi64 (i_6 + 1)))
    · refine GoO.exit' c29_14e rfl ?_
      refine GoO.seq' c29_21e ?_
      refine GoO.region' (is := [0, 1]) c29_22e (by kernel_rfl) ?_
      refine GoO.exec (is := [0, 1]) (hs := [.p, .p]) (rest := []) (ks := [4]) (env' := [(4, .int .u32 y_5)]) (H' := [⟨40, b_3, arrV .u32 m_1⟩]) (ps := []) (by kernel_rfl) trivial ?_
      refine GoO.regionEnd ?_
      exact GoO.ret' (h := c29_23e) (hs := []) (ps := []) (hk := []) (bk := []) Try.func29 () (by kernel_rfl) trivial (by kernel_rfl) (by kernel_rfl)
theorem crc_times_ok (n : Nat) (m_1 : (List Int)) (x_2 : Int) :
    Meets Try.prog 29 [.agg ⟨arrV .u32 m_1⟩, .int .u32 x_2] 0 [] [] [] (crc_times.f n m_1 x_2) (crc_times.R) := by
  refine Meets.of (c := c29_0) (n := 23) Try.func29 (by kernel_rfl) (by kernel_rfl) (by kernel_rfl) fun w0 S0 => ?_
  unfold crc_times.f
  show GoO (crc_times.cx w0 S0) [(0, .agg ⟨arrV .u32 m_1⟩), (1, .int .u32 x_2)] [] [] [.code c29_0] _
  refine GoO.seq' c29_0e ?_
  refine GoO.region' (is := [0, 1]) c29_1e (by kernel_rfl) ?_
  refine OpTo.go (GoO.new rfl 40 (cs := arrV .u32 m_1) (by kernel_rfl) _ (fun _ => rfl) (fun b_3 => ?_))
  refine GoO.exec (is := [1]) (hs := [.p]) (rest := []) (ks := [1, 2]) (env' := [(1, .int .u32 x_2), (2, .pointer (some ⟨b_3, 0, none⟩))]) (H' := [⟨40, b_3, arrV .u32 m_1⟩]) (ps := []) (by kernel_rfl) trivial ?_
  refine GoO.regionEnd ?_
  refine GoO.seq' c29_2e ?_
  refine GoO.region' (is := [0]) c29_3e (by kernel_rfl) ?_
  refine GoO.exec (is := [0]) (hs := [.p]) (rest := []) (ks := [1, 2, 5]) (env' := [(1, .int .u32 x_2), (2, .pointer (some ⟨b_3, 0, none⟩)), (5, .int .u32 0)]) (H' := [⟨40, b_3, arrV .u32 m_1⟩]) (ps := []) (by kernel_rfl) trivial ?_
  refine GoO.regionEnd ?_
  refine GoO.seq' c29_4e ?_
  refine GoO.seq' c29_5e ?_
  refine GoO.region' (is := [0]) c29_6e (by kernel_rfl) ?_
  refine GoO.exec (is := [0]) (hs := [.p]) (rest := []) (ks := [1, 2, 5, 6]) (env' := [(1, .int .u32 x_2), (2, .pointer (some ⟨b_3, 0, none⟩)), (5, .int .u32 0), (6, .int .i64 0)]) (H' := [⟨40, b_3, arrV .u32 m_1⟩]) (ps := []) (by kernel_rfl) trivial ?_
  refine GoO.regionEnd ?_
  refine GoO.block' c29_7e ?_
  refine GoO.loop' c29_8e ?_
  exact GoO.sub (ks := [1, 2, 5, 6]) (hk := [0]) (bk := []) (by kernel_rfl) (by kernel_rfl) (by kernel_rfl) (crc_times_l0_ok n m_1 b_3 w0 S0 n x_2 0 0)

/-! tontine/crc.squared -/
noncomputable def c30_0 : Code := bodyOf Try.f30
noncomputable def c30_1 : Code := cdL c30_0
noncomputable def c30_2 : Code := cdR c30_0
noncomputable def c30_3 : Code := cdL c30_2
noncomputable def c30_4 : Code := cdR c30_2
noncomputable def c30_5 : Code := cdL c30_4
noncomputable def c30_6 : Code := cdL c30_5
noncomputable def c30_7 : Code := cdR c30_5
noncomputable def c30_8 : Code := cdL c30_7
noncomputable def c30_9 : Code := cdL c30_8
noncomputable def c30_10 : Code := cdL c30_9
noncomputable def c30_11 : Code := cdR c30_9
noncomputable def c30_12 : Code := cdL c30_11
noncomputable def c30_13 : Code := cdL c30_12
noncomputable def c30_14 : Code := cdR c30_12
noncomputable def c30_15 : Code := cdR c30_11
noncomputable def c30_16 : Code := cdL c30_15
noncomputable def c30_17 : Code := cdL c30_16
noncomputable def c30_18 : Code := cdL c30_17
noncomputable def c30_19 : Code := cdR c30_17
noncomputable def c30_20 : Code := cdR c30_15
noncomputable def c30_21 : Code := cdR c30_4
noncomputable def c30_22 : Code := cdL c30_21
noncomputable def c30_23 : Code := cdR c30_21
noncomputable def r30_1 : Array Oper := cdO c30_1
noncomputable def r30_3 : Array Oper := cdO c30_3
noncomputable def r30_6 : Array Oper := cdO c30_6
noncomputable def r30_10 : Array Oper := cdO c30_10
noncomputable def r30_18 : Array Oper := cdO c30_18
noncomputable def r30_19 : Array Oper := cdO c30_19
noncomputable def r30_20 : Array Oper := cdO c30_20
noncomputable def r30_22 : Array Oper := cdO c30_22
theorem c30_0e : c30_0 = .seq c30_1 c30_2 := by kernel_rfl
theorem c30_1e : c30_1 = .region 0 r30_1 false := by kernel_rfl
theorem c30_2e : c30_2 = .seq c30_3 c30_4 := by kernel_rfl
theorem c30_3e : c30_3 = .region 1 r30_3 false := by kernel_rfl
theorem c30_4e : c30_4 = .seq c30_5 c30_21 := by kernel_rfl
theorem c30_5e : c30_5 = .seq c30_6 c30_7 := by kernel_rfl
theorem c30_6e : c30_6 = .region 2 r30_6 false := by kernel_rfl
theorem c30_7e : c30_7 = .block 0 c30_8 := by kernel_rfl
theorem c30_8e : c30_8 = .loop c30_9 := by kernel_rfl
theorem c30_9e : c30_9 = .seq c30_10 c30_11 := by kernel_rfl
theorem c30_10e : c30_10 = .region 3 r30_10 false := by kernel_rfl
theorem c30_11e : c30_11 = .seq c30_12 c30_15 := by kernel_rfl
theorem c30_12e : c30_12 = .cond (cdC c30_12) c30_13 c30_14 := by kernel_rfl
theorem c30_13e : c30_13 = .skip := by kernel_rfl
theorem c30_14e : c30_14 = .exit 0 := by kernel_rfl
theorem c30_15e : c30_15 = .seq c30_16 c30_20 := by kernel_rfl
theorem c30_16e : c30_16 = .block 1 c30_17 := by kernel_rfl
theorem c30_17e : c30_17 = .seq c30_18 c30_19 := by kernel_rfl
theorem c30_18e : c30_18 = .region 4 r30_18 false := by kernel_rfl
theorem c30_19e : c30_19 = .region 5 r30_19 false := by kernel_rfl
theorem c30_20e : c30_20 = .region 6 r30_20 false := by kernel_rfl
theorem c30_21e : c30_21 = .seq c30_22 c30_23 := by kernel_rfl
theorem c30_22e : c30_22 = .region 7 r30_22 false := by kernel_rfl
theorem c30_23e : c30_23 = .ret := by kernel_rfl
noncomputable def crc_squared.R : Pst (List Int) where
  ε := Unit
  v := fun r x => .agg ⟨arrV .u32 r⟩
  H := fun r x => []
  B := fun r x => []
noncomputable def crc_squared.cx (w0 : World) (S0 : Fam) : Cx (List Int) := ⟨Try.prog, 30, Try.f30, 18, w0, S0, [], 0, crc_squared.R⟩
theorem crc_squared_l0_ok (n : Nat) (m_1 : (List Int)) (b_2 : Nat) (b_3 : Nat) (b_4 : Nat) (w0 : World) (S0 : Fam) :
    ∀ (k : Nat) (f_6 : (List Int)) (x_7 : Int), GoO (crc_squared.cx w0 S0) [(1, .pointer (some ⟨b_2, 0, none⟩)), (2, .pointer (some ⟨b_3, 0, none⟩)), (3, .pointer (some ⟨b_4, 0, none⟩)), (6, .agg ⟨arrV .u32 m_1⟩), (7, .int .i64 x_7)] [⟨40, b_2, arrV .u32 m_1⟩, ⟨41, b_3, arrV .u32 (List.replicate 32 (0 : Int))⟩, ⟨42, b_4, arrV .u32 f_6⟩] [] [.code c30_9, .inLoop c30_9, .inBlock 0, .code c30_21] (crc_squared.l0 n m_1 k f_6 x_7) := by
  intro k
  induction k with
  | zero => intros; rw [crc_squared.l0.eq_1]; exact GoO.stop
  | succ k ih0 =>
    intro f_6 x_7
    rw [crc_squared.l0.eq_2]
    refine GoO.seq' c30_9e ?_
    refine GoO.region' (is := [0]) c30_10e (by kernel_rfl) ?_
    refine GoO.exec (is := [0]) (hs := [.p]) (rest := []) (ks := [1, 2, 3, 6, 7, 8]) (env' := [(1, .pointer (some ⟨b_2, 0, none⟩)), (2, .pointer (some ⟨b_3, 0, none⟩)), (3, .pointer (some ⟨b_4, 0, none⟩)), (6, .agg ⟨arrV .u32 m_1⟩), (7, .int .i64 x_7), (8, .bool (decide (x_7 < 32)))]) (H' := [⟨40, b_2, arrV .u32 m_1⟩, ⟨41, b_3, arrV .u32 (List.replicate 32 (0 : Int))⟩, ⟨42, b_4, arrV .u32 f_6⟩]) (ps := []) (by kernel_rfl) trivial ?_
    refine GoO.regionEnd ?_
    refine GoO.seq' c30_11e ?_
    refine GoO.ite' c30_12e (by kernel_rfl) (fun h8 => ?_) (fun h8 => ?_)
    · refine GoO.skip' c30_13e ?_
      refine GoO.seq' c30_15e ?_
      refine GoO.block' c30_16e ?_
      refine GoO.seq' c30_17e ?_
      refine GoO.region' (is := [0, 1, 2, 3]) c30_18e (by kernel_rfl) ?_
      refine GoO.exec (is := [0]) (hs := [.p]) (rest := [1, 2, 3]) (ks := [1, 2, 3, 6, 7, 9]) (env' := [(1, .pointer (some ⟨b_2, 0, none⟩)), (2, .pointer (some ⟨b_3, 0, none⟩)), (3, .pointer (some ⟨b_4, 0, none⟩)), (6, .agg ⟨arrV .u32 m_1⟩), (7, .int .i64 x_7), (9, .int .i64 x_7)]) (H' := [⟨40, b_2, arrV .u32 m_1⟩, ⟨41, b_3, arrV .u32 (List.replicate 32 (0 : Int))⟩, ⟨42, b_4, arrV .u32 f_6⟩]) (ps := []) (by kernel_rfl) trivial ?_
      refine GoO.guard (fun h9 => ?_)
      refine OpTo.go (GoO.idxV (n := 32) (e := 22) (kk := .u32) (L := m_1) rfl rfl rfl (by kernel_rfl) (by kernel_rfl) h9.1 h9.2.1 h9.2.2 rfl ?_)
      refine GoO.exec (is := [2, 3]) (hs := [.p, .p]) (rest := []) (ks := [1, 2, 3, 4, 5, 6, 7]) (env' := [(1, .pointer (some ⟨b_2, 0, none⟩)), (2, .pointer (some ⟨b_3, 0, none⟩)), (3, .pointer (some ⟨b_4, 0, none⟩)), (4, .int .i64 x_7), (5, .int .u32 (rdL m_1 x_7)), (6, .agg ⟨arrV .u32 m_1⟩), (7, .int .i64 x_7)]) (H' := [⟨40, b_2, arrV .u32 m_1⟩, ⟨41, b_3, arrV .u32 (List.replicate 32 (0 : Int))⟩, ⟨42, b_4, arrV .u32 f_6⟩]) (ps := []) (by kernel_rfl) trivial ?_
      refine GoO.regionEnd ?_
      refine GoO.region' (is := [0, 1, 2, 3, 4, 5]) c30_19e (by kernel_rfl) ?_
      refine GoO.exec (is := [0]) (hs := [.p]) (rest := [1, 2, 3, 4, 5]) (ks := [1, 2, 3, 5, 6, 7, 11]) (env' := [(1, .pointer (some ⟨b_2, 0, none⟩)), (2, .pointer (some ⟨b_3, 0, none⟩)), (3, .pointer (some ⟨b_4, 0, none⟩)), (5, .int .u32 (rdL m_1 x_7)), (6, .agg ⟨arrV .u32 m_1⟩), (7, .int .i64 x_7), (11, .int .i64 x_7)]) (H' := [⟨40, b_2, arrV .u32 m_1⟩, ⟨41, b_3, arrV .u32 (List.replicate 32 (0 : Int))⟩, ⟨42, b_4, arrV .u32 f_6⟩]) (ps := []) (by kernel_rfl) trivial ?_
      refine GoO.guard (fun h10 => ?_)
      refine OpTo.go (GoO.ldB (j := 0) rfl rfl rfl (loadBx_arr (by kernel_rfl) h10) rfl ?_)
      refine GoO.exec (is := [2]) (hs := [.p]) (rest := [3, 4, 5]) (ks := [1, 2, 3, 6, 7, 11, 12, 13]) (env' := [(1, .pointer (some ⟨b_2, 0, none⟩)), (2, .pointer (some ⟨b_3, 0, none⟩)), (3, .pointer (some ⟨b_4, 0, none⟩)), (6, .agg ⟨arrV .u32 m_1⟩), (7, .int .i64 x_7), (11, .int .i64 x_7), (12, .agg ⟨arrV .u32 m_1⟩), (13, .int .u32 (rdL m_1 x_7))]) (H' := [⟨40, b_2, arrV .u32 m_1⟩, ⟨41, b_3, arrV .u32 (List.replicate 32 (0 : Int))⟩, ⟨42, b_4, arrV .u32 f_6⟩]) (ps := []) (by kernel_rfl) trivial ?_
      refine OpTo.go (GoO.call rfl (by kernel_rfl) (by kernel_rfl) (crc_times_ok n m_1 (rdL m_1 x_7)) [[0]] [] [] [] (hks := [0, 1, 2]) (bks := []) (by kernel_rfl) (by kernel_rfl) (by kernel_rfl) (.inl rfl) rfl rfl (by kernel_rfl) (by kernel_rfl) _ (fun _ _ => rfl) _ _ (fun _ _ => rfl) (fun _ _ => rfl) (fun _ _ => by kernel_rfl) (fun _ _ => by kernel_rfl) (fun r_11 x_14 => ?_))
      refine GoO.shape (env' := [(1, .pointer (some ⟨b_2, 0, none⟩)), (2, .pointer (some ⟨b_3, 0, none⟩)), (3, .pointer (some ⟨b_4, 0, none⟩)), (6, .agg ⟨arrV .u32 m_1⟩), (7, .int .i64 x_7), (11, .int .i64 x_7), (12, .agg ⟨arrV .u32 m_1⟩), (13, .int .u32 (rdL m_1 x_7)), (14, .int .u32 r_11)]) (H' := [⟨40, b_2, arrV .u32 m_1⟩, ⟨41, b_3, arrV .u32 (List.replicate 32 (0 : Int))⟩, ⟨42, b_4, arrV .u32 f_6⟩]) (B' := []) (ks := [1, 2, 3, 6, 7, 11, 12, 13, 14]) (by kernel_rfl) (by kernel_rfl) (by kernel_rfl) ?_
      refine GoO.guard (fun h12 => ?_)
      refine OpTo.go (GoO.idxB (b := b_4) (n := 32) (e := 22) (kk := .i64) (iv := x_7) rfl (by kernel_rfl) (by kernel_rfl) (by kernel_rfl) (by kernel_rfl) h12.1 h12.2 rfl ?_)
      refine GoO.guard (fun h13 => ?_)
      refine OpTo.go (GoO.stB (j := 2) rfl rfl rfl rfl (storeBx_elt (by kernel_rfl) h13.2.1 h13.2.2 _) (by kernel_rfl) rfl ?_)
      refine GoO.regionEnd ?_
      refine GoO.inBlock ?_
      refine GoO.region' (is := [0, 1]) c30_20e (by kernel_rfl) ?_
      refine GoO.exec (is := [0, 1]) (hs := [.p, .p]) (rest := []) (ks := [1, 2, 3, 6, 7]) (env' := [(1, .pointer (some ⟨b_2, 0, none⟩)), (2, .pointer (some ⟨b_3, 0, none⟩)), (3, .pointer (some ⟨b_4, 0, none⟩)), (6, .agg ⟨arrV .u32 m_1⟩), (7, .int .i64 (wi64 (x_7 + 1)))]) (H' := [⟨40, b_2, arrV .u32 m_1⟩, ⟨41, b_3, arrV .u32 (List.replicate 32 (0 : Int))⟩, ⟨42, b_4, arrV .u32 (f_6.set x_7.toNat r_11)⟩]) (ps := []) (by kernel_rfl) trivial ?_
      refine GoO.regionEnd ?_
      refine GoO.inLoop ?_
      exact GoO.sub (ks := [1, 2, 3, 6, 7]) (hk := [0, 1, 2]) (bk := []) (by kernel_rfl) (by kernel_rfl) (by kernel_rfl) (ih0 (f_6.set x_7.toNat r_11) (wi64 (x_7 + 1)))
    · refine GoO.exit' c30_14e rfl ?_
      refine GoO.seq' c30_21e ?_
      refine GoO.region' (is := [0, 1]) c30_22e (by kernel_rfl) ?_
      refine GoO.guard (fun h15 => ?_)
      refine OpTo.go (GoO.ldB (j := 2) rfl rfl rfl (loadBx_arr (by kernel_rfl) h15) rfl ?_)
      refine GoO.guard (fun h16 => ?_)
      refine OpTo.go (GoO.stB (j := 1) rfl rfl rfl rfl (storeBx_arr (by kernel_rfl) h16.1 h16.2) (by kernel_rfl) rfl ?_)
      refine GoO.regionEnd ?_
      refine GoO.guard (fun h17 => ?_)
      exact GoO.retA (j := 1) (h := c30_23e) (n := 32) (hk := []) (bk := []) Try.func30 rfl () rfl rfl (by kernel_rfl) h17 rfl rfl rfl
theorem crc_squared_ok (n : Nat) (m_1 : (List Int)) :
    Meets Try.prog 30 [.agg ⟨arrV .u32 m_1⟩] 0 [] [] [] (crc_squared.f n m_1) (crc_squared.R) := by
  refine Meets.of (c := c30_0) (n := 18) Try.func30 (by kernel_rfl) (by kernel_rfl) (by kernel_rfl) fun w0 S0 => ?_
  unfold crc_squared.f
  show GoO (crc_squared.cx w0 S0) [(0, .agg ⟨arrV .u32 m_1⟩)] [] [] [.code c30_0] _
  refine GoO.seq' c30_0e ?_
  refine GoO.region' (is := [0, 1]) c30_1e (by kernel_rfl) ?_
  refine OpTo.go (GoO.new rfl 40 (cs := arrV .u32 m_1) (by kernel_rfl) _ (fun _ => rfl) (fun b_2 => ?_))
  refine OpTo.go (GoO.new rfl 41 (cs := arrV .u32 (List.replicate 32 (0 : Int))) (by kernel_rfl) _ (fun _ => rfl) (fun b_3 => ?_))
  refine GoO.regionEnd ?_
  refine GoO.seq' c30_2e ?_
  refine GoO.region' (is := [0]) c30_3e (by kernel_rfl) ?_
  refine OpTo.go (GoO.new rfl 42 (cs := arrV .u32 (List.replicate 32 (0 : Int))) (by kernel_rfl) _ (fun _ => rfl) (fun b_4 => ?_))
  refine GoO.regionEnd ?_
  refine GoO.seq' c30_4e ?_
  refine GoO.seq' c30_5e ?_
  refine GoO.region' (is := [0, 1]) c30_6e (by kernel_rfl) ?_
  refine GoO.guard (fun h5 => ?_)
  refine OpTo.go (GoO.ldB (j := 2) rfl rfl rfl (loadBx_arr (by kernel_rfl) h5) rfl ?_)
  refine GoO.exec (is := [1]) (hs := [.p]) (rest := []) (ks := [1, 2, 3, 6, 7]) (env' := [(1, .pointer (some ⟨b_2, 0, none⟩)), (2, .pointer (some ⟨b_3, 0, none⟩)), (3, .pointer (some ⟨b_4, 0, none⟩)), (6, .agg ⟨arrV .u32 m_1⟩), (7, .int .i64 0)]) (H' := [⟨42, b_4, arrV .u32 (List.replicate 32 (0 : Int))⟩, ⟨41, b_3, arrV .u32 (List.replicate 32 (0 : Int))⟩, ⟨40, b_2, arrV .u32 m_1⟩]) (ps := []) (by kernel_rfl) trivial ?_
  refine GoO.regionEnd ?_
  refine GoO.block' c30_7e ?_
  refine GoO.loop' c30_8e ?_
  exact GoO.sub (ks := [1, 2, 3, 6, 7]) (hk := [2, 1, 0]) (bk := []) (by kernel_rfl) (by kernel_rfl) (by kernel_rfl) (crc_squared_l0_ok n m_1 b_2 b_3 b_4 w0 S0 n (List.replicate 32 (0 : Int)) 0)

/-! tontine/crc.Join -/
noncomputable def c24_0 : Code := bodyOf Try.f24
noncomputable def c24_1 : Code := cdL c24_0
noncomputable def c24_2 : Code := cdR c24_0
noncomputable def c24_3 : Code := cdL c24_2
noncomputable def c24_4 : Code := cdL c24_3
noncomputable def c24_5 : Code := cdR c24_3
noncomputable def c24_6 : Code := cdL c24_5
noncomputable def c24_7 : Code := cdL c24_6
noncomputable def c24_8 : Code := cdR c24_6
noncomputable def c24_9 : Code := cdR c24_5
noncomputable def c24_10 : Code := cdR c24_2
noncomputable def c24_11 : Code := cdL c24_10
noncomputable def c24_12 : Code := cdR c24_10
noncomputable def c24_13 : Code := cdL c24_12
noncomputable def c24_14 : Code := cdR c24_12
noncomputable def c24_15 : Code := cdL c24_14
noncomputable def c24_16 : Code := cdL c24_15
noncomputable def c24_17 : Code := cdR c24_15
noncomputable def c24_18 : Code := cdL c24_17
noncomputable def c24_19 : Code := cdL c24_18
noncomputable def c24_20 : Code := cdL c24_19
noncomputable def c24_21 : Code := cdL c24_20
noncomputable def c24_22 : Code := cdR c24_20
noncomputable def c24_23 : Code := cdL c24_22
noncomputable def c24_24 : Code := cdR c24_22
noncomputable def c24_25 : Code := cdR c24_19
noncomputable def c24_26 : Code := cdL c24_25
noncomputable def c24_27 : Code := cdL c24_26
noncomputable def c24_28 : Code := cdR c24_25
noncomputable def c24_29 : Code := cdR c24_14
noncomputable def c24_30 : Code := cdL c24_29
noncomputable def c24_31 : Code := cdL c24_30
noncomputable def c24_32 : Code := cdR c24_30
noncomputable def c24_33 : Code := cdL c24_32
noncomputable def c24_34 : Code := cdL c24_33
noncomputable def c24_35 : Code := cdL c24_34
noncomputable def c24_36 : Code := cdL c24_35
noncomputable def c24_37 : Code := cdR c24_35
noncomputable def c24_38 : Code := cdL c24_37
noncomputable def c24_39 : Code := cdR c24_37
noncomputable def c24_40 : Code := cdR c24_34
noncomputable def c24_41 : Code := cdL c24_40
noncomputable def c24_42 : Code := cdL c24_41
noncomputable def c24_43 : Code := cdL c24_42
noncomputable def c24_44 : Code := cdL c24_43
noncomputable def c24_45 : Code := cdR c24_43
noncomputable def c24_46 : Code := cdL c24_45
noncomputable def c24_47 : Code := cdR c24_45
noncomputable def c24_48 : Code := cdR c24_42
noncomputable def c24_49 : Code := cdR c24_40
noncomputable def c24_50 : Code := cdR c24_29
noncomputable def c24_51 : Code := cdL c24_50
noncomputable def c24_52 : Code := cdR c24_50
noncomputable def r24_1 : Array Oper := cdO c24_1
noncomputable def r24_4 : Array Oper := cdO c24_4
noncomputable def r24_7 : Array Oper := cdO c24_7
noncomputable def r24_11 : Array Oper := cdO c24_11
noncomputable def r24_13 : Array Oper := cdO c24_13
noncomputable def r24_16 : Array Oper := cdO c24_16
noncomputable def r24_21 : Array Oper := cdO c24_21
noncomputable def r24_27 : Array Oper := cdO c24_27
noncomputable def r24_28 : Array Oper := cdO c24_28
noncomputable def r24_31 : Array Oper := cdO c24_31
noncomputable def r24_36 : Array Oper := cdO c24_36
noncomputable def r24_44 : Array Oper := cdO c24_44
noncomputable def r24_46 : Array Oper := cdO c24_46
noncomputable def r24_48 : Array Oper := cdO c24_48
noncomputable def r24_49 : Array Oper := cdO c24_49
noncomputable def r24_51 : Array Oper := cdO c24_51
theorem c24_0e : c24_0 = .seq c24_1 c24_2 := by kernel_rfl
theorem c24_1e : c24_1 = .region 0 r24_1 false := by kernel_rfl
theorem c24_2e : c24_2 = .seq c24_3 c24_10 := by kernel_rfl
theorem c24_3e : c24_3 = .seq c24_4 c24_5 := by kernel_rfl
theorem c24_4e : c24_4 = .region 1 r24_4 false := by kernel_rfl
theorem c24_5e : c24_5 = .cond (cdC c24_5) c24_6 c24_9 := by kernel_rfl
theorem c24_6e : c24_6 = .seq c24_7 c24_8 := by kernel_rfl
theorem c24_7e : c24_7 = .region 2 r24_7 false := by kernel_rfl
theorem c24_8e : c24_8 = .ret := by kernel_rfl
theorem c24_9e : c24_9 = .skip := by kernel_rfl
theorem c24_10e : c24_10 = .seq c24_11 c24_12 := by kernel_rfl
theorem c24_11e : c24_11 = .region 3 r24_11 false := by kernel_rfl
theorem c24_12e : c24_12 = .seq c24_13 c24_14 := by kernel_rfl
theorem c24_13e : c24_13 = .region 4 r24_13 false := by kernel_rfl
theorem c24_14e : c24_14 = .seq c24_15 c24_29 := by kernel_rfl
theorem c24_15e : c24_15 = .seq c24_16 c24_17 := by kernel_rfl
theorem c24_16e : c24_16 = .region 5 r24_16 false := by kernel_rfl
theorem c24_17e : c24_17 = .block 0 c24_18 := by kernel_rfl
theorem c24_18e : c24_18 = .loop c24_19 := by kernel_rfl
theorem c24_19e : c24_19 = .seq c24_20 c24_25 := by kernel_rfl
theorem c24_20e : c24_20 = .seq c24_21 c24_22 := by kernel_rfl
theorem c24_21e : c24_21 = .region 6 r24_21 false := by kernel_rfl
theorem c24_22e : c24_22 = .cond (cdC c24_22) c24_23 c24_24 := by kernel_rfl
theorem c24_23e : c24_23 = .skip := by kernel_rfl
theorem c24_24e : c24_24 = .exit 0 := by kernel_rfl
theorem c24_25e : c24_25 = .seq c24_26 c24_28 := by kernel_rfl
theorem c24_26e : c24_26 = .block 1 c24_27 := by kernel_rfl
theorem c24_27e : c24_27 = .region 8 r24_27 false := by kernel_rfl
theorem c24_28e : c24_28 = .region 7 r24_28 false := by kernel_rfl
theorem c24_29e : c24_29 = .seq c24_30 c24_50 := by kernel_rfl
theorem c24_30e : c24_30 = .seq c24_31 c24_32 := by kernel_rfl
theorem c24_31e : c24_31 = .region 9 r24_31 false := by kernel_rfl
theorem c24_32e : c24_32 = .block 2 c24_33 := by kernel_rfl
theorem c24_33e : c24_33 = .loop c24_34 := by kernel_rfl
theorem c24_34e : c24_34 = .seq c24_35 c24_40 := by kernel_rfl
theorem c24_35e : c24_35 = .seq c24_36 c24_37 := by kernel_rfl
theorem c24_36e : c24_36 = .region 10 r24_36 false := by kernel_rfl
theorem c24_37e : c24_37 = .cond (cdC c24_37) c24_38 c24_39 := by kernel_rfl
theorem c24_38e : c24_38 = .skip := by kernel_rfl
theorem c24_39e : c24_39 = .exit 2 := by kernel_rfl
theorem c24_40e : c24_40 = .seq c24_41 c24_49 := by kernel_rfl
theorem c24_41e : c24_41 = .block 3 c24_42 := by kernel_rfl
theorem c24_42e : c24_42 = .seq c24_43 c24_48 := by kernel_rfl
theorem c24_43e : c24_43 = .seq c24_44 c24_45 := by kernel_rfl
theorem c24_44e : c24_44 = .region 12 r24_44 false := by kernel_rfl
theorem c24_45e : c24_45 = .cond (cdC c24_45) c24_46 c24_47 := by kernel_rfl
theorem c24_46e : c24_46 = .region 13 r24_46 false := by kernel_rfl
theorem c24_47e : c24_47 = .skip := by kernel_rfl
theorem c24_48e : c24_48 = .region 14 r24_48 false := by kernel_rfl
theorem c24_49e : c24_49 = .region 11 r24_49 false := by kernel_rfl
theorem c24_50e : c24_50 = .seq c24_51 c24_52 := by kernel_rfl
theorem c24_51e : c24_51 = .region 15 r24_51 false := by kernel_rfl
theorem c24_52e : c24_52 = .ret := by kernel_rfl
noncomputable def crc_Join.R : Pst Int where
  ε := Unit
  v := fun r x => .int .u32 r
  H := fun r x => []
  B := fun r x => []
noncomputable def crc_Join.cx (w0 : World) (S0 : Fam) : Cx Int := ⟨Try.prog, 24, Try.f24, 41, w0, S0, [], 0, crc_Join.R⟩
theorem crc_Join_l1_ok (n : Nat) (b_2 : Int) (b_5 : Nat) (w0 : World) (S0 : Fam) :
    ∀ (k : Nat) (a_15 : Int) (f_16 : (List Int)) (k_17 : Int), GoO (crc_Join.cx w0 S0) [(0, .int .u32 a_15), (1, .int .u32 b_2), (7, .pointer (some ⟨b_5, 0, none⟩)), (9, .int .u64 k_17)] [⟨40, b_5, arrV .u32 f_16⟩] [] [.code c24_34, .inLoop c24_34, .inBlock 2, .code c24_50] (crc_Join.l1 n b_2 k a_15 f_16 k_17) := by
  intro k
  induction k with
  | zero => intros; rw [crc_Join.l1.eq_1]; exact GoO.stop
  | succ k ih1 =>
    intro a_15 f_16 k_17
    rw [crc_Join.l1.eq_2]
    refine GoO.seq' c24_34e ?_
    refine GoO.seq' c24_35e ?_
    refine GoO.region' (is := [0, 1]) c24_36e (by kernel_rfl) ?_
    refine GoO.exec (is := [0, 1]) (hs := [.p, .p]) (rest := []) (ks := [0, 1, 7, 9, 27]) (env' := [(0, .int .u32 a_15), (1, .int .u32 b_2), (7, .pointer (some ⟨b_5, 0, none⟩)), (9, .int .u64 k_17), (27, .bool (decide (k_17 > 0)))]) (H' := [⟨40, b_5, arrV .u32 f_16⟩]) (ps := []) (by kernel_rfl) trivial ?_
    refine GoO.regionEnd ?_
    refine GoO.ite' c24_37e (by kernel_rfl) (fun h18 => ?_) (fun h18 => ?_)
    · refine GoO.skip' c24_38e ?_
      refine GoO.seq' c24_40e ?_
      refine GoO.block' c24_41e ?_
      refine GoO.seq' c24_42e ?_
      refine GoO.seq' c24_43e ?_
      refine GoO.region' (is := [0, 1, 2]) c24_44e (by kernel_rfl) ?_
      refine GoO.exec (is := [0, 1, 2]) (hs := [.p, .p, .p]) (rest := []) (ks := [0, 1, 7, 9, 32]) (env' := [(0, .int .u32 a_15), (1, .int .u32 b_2), (7, .pointer (some ⟨b_5, 0, none⟩)), (9, .int .u64 k_17), (32, .bool ((bAnd .u64 k_17 1) == 1))]) (H' := [⟨40, b_5, arrV .u32 f_16⟩]) (ps := []) (by kernel_rfl) trivial ?_
      refine GoO.regionEnd ?_
      refine GoO.ite' c24_45e (by kernel_rfl) (fun h19 => ?_) (fun h19 => ?_)
      · refine GoO.region' (is := [0, 1, 2, 3]) c24_46e (by kernel_rfl) ?_
        refine GoO.guard (fun h20 => ?_)
        refine OpTo.go (GoO.ldB (j := 0) rfl rfl rfl (loadBx_arr (by kernel_rfl) h20) rfl ?_)
        refine GoO.exec (is := [1]) (hs := [.p]) (rest := [2, 3]) (ks := [1, 7, 9, 33, 34]) (env' := [(1, .int .u32 b_2), (7, .pointer (some ⟨b_5, 0, none⟩)), (9, .int .u64 k_17), (33, .agg ⟨arrV .u32 f_16⟩), (34, .int .u32 a_15)]) (H' := [⟨40, b_5, arrV .u32 f_16⟩]) (ps := []) (by kernel_rfl) trivial ?_
        refine OpTo.go (GoO.call rfl (by kernel_rfl) (by kernel_rfl) (crc_times_ok n f_16 a_15) [[0]] [] [] [] (hks := [0]) (bks := []) (by kernel_rfl) (by kernel_rfl) (by kernel_rfl) (.inl rfl) rfl rfl (by kernel_rfl) (by kernel_rfl) _ (fun _ _ => rfl) _ _ (fun _ _ => rfl) (fun _ _ => rfl) (fun _ _ => by kernel_rfl) (fun _ _ => by kernel_rfl) (fun r_21 x_26 => ?_))
        refine GoO.shape (env' := [(1, .int .u32 b_2), (7, .pointer (some ⟨b_5, 0, none⟩)), (9, .int .u64 k_17), (33, .agg ⟨arrV .u32 f_16⟩), (34, .int .u32 a_15), (35, .int .u32 r_21)]) (H' := [⟨40, b_5, arrV .u32 f_16⟩]) (B' := []) (ks := [1, 7, 9, 33, 34, 35]) (by kernel_rfl) (by kernel_rfl) (by kernel_rfl) ?_
        refine GoO.exec (is := [3]) (hs := [.p]) (rest := []) (ks := [0, 1, 7, 9]) (env' := [(0, .int .u32 r_21), (1, .int .u32 b_2), (7, .pointer (some ⟨b_5, 0, none⟩)), (9, .int .u64 k_17)]) (H' := [⟨40, b_5, arrV .u32 f_16⟩]) (ps := []) (by kernel_rfl) trivial ?_
        refine GoO.regionEnd ?_
        refine GoO.region' (is := [0, 1, 2]) c24_48e (by kernel_rfl) ?_
        refine GoO.guard (fun h22 => ?_)
        refine OpTo.go (GoO.ldB (j := 0) rfl rfl rfl (loadBx_arr (by kernel_rfl) h22) rfl ?_)
        refine OpTo.go (GoO.call rfl (by kernel_rfl) (by kernel_rfl) (crc_squared_ok n f_16) [[0]] [] [] [] (hks := [0]) (bks := []) (by kernel_rfl) (by kernel_rfl) (by kernel_rfl) (.inl rfl) rfl rfl (by kernel_rfl) (by kernel_rfl) _ (fun _ _ => rfl) _ _ (fun _ _ => rfl) (fun _ _ => rfl) (fun _ _ => by kernel_rfl) (fun _ _ => by kernel_rfl) (fun r_23 x_25 => ?_))
        refine GoO.shape (env' := [(0, .int .u32 r_21), (1, .int .u32 b_2), (7, .pointer (some ⟨b_5, 0, none⟩)), (9, .int .u64 k_17), (36, .agg ⟨arrV .u32 f_16⟩), (37, .agg ⟨arrV .u32 r_23⟩)]) (H' := [⟨40, b_5, arrV .u32 f_16⟩]) (B' := []) (ks := [0, 1, 7, 9, 36, 37]) (by kernel_rfl) (by kernel_rfl) (by kernel_rfl) ?_
        refine GoO.guard (fun h24 => ?_)
        refine OpTo.go (GoO.stB (j := 0) rfl rfl rfl rfl (storeBx_arr (by kernel_rfl) h24.1 h24.2) (by kernel_rfl) rfl ?_)
        refine GoO.regionEnd ?_
        refine GoO.inBlock ?_
        refine GoO.region' (is := [0, 1, 2]) c24_49e (by kernel_rfl) ?_
        refine GoO.exec (is := [0, 1, 2]) (hs := [.p, .p, .p]) (rest := []) (ks := [0, 1, 7, 9]) (env' := [(0, .int .u32 r_21), (1, .int .u32 b_2), (7, .pointer (some ⟨b_5, 0, none⟩)), (9, .int .u64 (shR .u64 k_17 1))]) (H' := [⟨40, b_5, arrV .u32 r_23⟩]) (ps := [(0 : Int) ≤ 1]) (by kernel_rfl) (And.intro (by decide) trivial) ?_
        refine GoO.regionEnd ?_
        refine GoO.inLoop ?_
        exact GoO.sub (ks := [0, 1, 7, 9]) (hk := [0]) (bk := []) (by kernel_rfl) (by kernel_rfl) (by kernel_rfl) (ih1 r_21 r_23 (shR .u64 k_17 1))
      · refine GoO.skip' c24_47e ?_
        refine GoO.region' (is := [0, 1, 2]) c24_48e (by kernel_rfl) ?_
        refine GoO.guard (fun h27 => ?_)
        refine OpTo.go (GoO.ldB (j := 0) rfl rfl rfl (loadBx_arr (by kernel_rfl) h27) rfl ?_)
        refine OpTo.go (GoO.call rfl (by kernel_rfl) (by kernel_rfl) (crc_squared_ok n f_16) [[0]] [] [] [] (hks := [0]) (bks := []) (by kernel_rfl) (by kernel_rfl) (by kernel_rfl) (.inl rfl) rfl rfl (by kernel_rfl) (by kernel_rfl) _ (fun _ _ => rfl) _ _ (fun _ _ => rfl) (fun _ _ => rfl) (fun _ _ => by kernel_rfl) (fun _ _ => by kernel_rfl) (fun r_28 x_30 => ?_))
        refine GoO.shape (env' := [(0, .int .u32 a_15), (1, .int .u32 b_2), (7, .pointer (some ⟨b_5, 0, none⟩)), (9, .int .u64 k_17), (32, .bool ((bAnd .u64 k_17 1) == 1)), (36, .agg ⟨arrV .u32 f_16⟩), (37, .agg ⟨arrV .u32 r_28⟩)]) (H' := [⟨40, b_5, arrV .u32 f_16⟩]) (B' := []) (ks := [0, 1, 7, 9, 32, 36, 37]) (by kernel_rfl) (by kernel_rfl) (by kernel_rfl) ?_
        refine GoO.guard (fun h29 => ?_)
        refine OpTo.go (GoO.stB (j := 0) rfl rfl rfl rfl (storeBx_arr (by kernel_rfl) h29.1 h29.2) (by kernel_rfl) rfl ?_)
        refine GoO.regionEnd ?_
        refine GoO.inBlock ?_
        refine GoO.region' (is := [0, 1, 2]) c24_49e (by kernel_rfl) ?_
        refine GoO.exec (is := [0, 1, 2]) (hs := [.p, .p, .p]) (rest := []) (ks := [0, 1, 7, 9]) (env' := [(0, .int .u32 a_15), (1, .int .u32 b_2), (7, .pointer (some ⟨b_5, 0, none⟩)), (9, .int .u64 (shR .u64 k_17 1))]) (H' := [⟨40, b_5, arrV .u32 r_28⟩]) (ps := [(0 : Int) ≤ 1]) (by kernel_rfl) (And.intro (by decide) trivial) ?_
        refine GoO.regionEnd ?_
        refine GoO.inLoop ?_
        exact GoO.sub (ks := [0, 1, 7, 9]) (hk := [0]) (bk := []) (by kernel_rfl) (by kernel_rfl) (by kernel_rfl) (ih1 a_15 r_28 (shR .u64 k_17 1))
    · refine GoO.exit' c24_39e rfl ?_
      refine GoO.seq' c24_50e ?_
      refine GoO.region' (is := [0, 1, 2, 3]) c24_51e (by kernel_rfl) ?_
      refine GoO.exec (is := [0, 1, 2, 3]) (hs := [.p, .p, .p, .p]) (rest := []) (ks := [6]) (env' := [(6, .int .u32 (bXor .u32 a_15 b_2))]) (H' := [⟨40, b_5, arrV .u32 f_16⟩]) (ps := []) (by kernel_rfl) trivial ?_
      refine GoO.regionEnd ?_
      exact GoO.ret' (h := c24_52e) (hs := []) (ps := []) (hk := []) (bk := []) Try.func24 () (by kernel_rfl) trivial (by kernel_rfl) (by kernel_rfl)
theorem crc_Join_l0_ok (n : Nat) (a_1 : Int) (b_2 : Int) (n_3 : Int) (b_5 : Nat) (w0 : World) (S0 : Fam) :
    ∀ (k : Nat) (f_9 : (List Int)) (i_10 : Int), GoO (crc_Join.cx w0 S0) [(0, .int .u32 a_1), (1, .int .u32 b_2), (2, .int .i64 n_3), (7, .pointer (some ⟨b_5, 0, none⟩)), (8, .int .i64 i_10)] [⟨40, b_5, arrV .u32 f_9⟩] [] [.code c24_19, .inLoop c24_19, .inBlock 0, .code c24_29] (crc_Join.l0 n a_1 b_2 n_3 k f_9 i_10) := by
  intro k
  induction k with
  | zero => intros; rw [crc_Join.l0.eq_1]; exact GoO.stop
  | succ k ih0 =>
    intro f_9 i_10
    rw [crc_Join.l0.eq_2]
    refine GoO.seq' c24_19e ?_
    refine GoO.seq' c24_20e ?_
    refine GoO.region' (is := [0, 1]) c24_21e (by kernel_rfl) ?_
    refine GoO.exec (is := [0, 1]) (hs := [.p, .p]) (rest := []) (ks := [0, 1, 2, 7, 8, 15]) (env' := [(0, .int .u32 a_1), (1, .int .u32 b_2), (2, .int .i64 n_3), (7, .pointer (some ⟨b_5, 0, none⟩)), (8, .int .i64 i_10), (15, .bool (decide (i_10 < 32)))]) (H' := [⟨40, b_5, arrV .u32 f_9⟩]) (ps := []) (by kernel_rfl) trivial ?_
    refine GoO.regionEnd ?_
    refine GoO.ite' c24_22e (by kernel_rfl) (fun h11 => ?_) (fun h11 => ?_)
    · refine GoO.skip' c24_23e ?_
      refine GoO.seq' c24_25e ?_
      refine GoO.block' c24_26e ?_
      refine GoO.region' (is := [0, 1, 2, 3, 4, 5]) c24_27e (by kernel_rfl) ?_
      refine GoO.guard (fun h12 => ?_)
      refine GoO.exec (is := [0, 1, 2, 3]) (hs := [.p, .p, .p, .p]) (rest := [4, 5]) (ks := [0, 1, 2, 7, 8, 18, 21]) (env' := [(0, .int .u32 a_1), (1, .int .u32 b_2), (2, .int .i64 n_3), (7, .pointer (some ⟨b_5, 0, none⟩)), (8, .int .i64 i_10), (18, .int .i64 i_10), (21, .int .u32 (shL .u32 1 (wi64 (i_10 - 1))))]) (H' := [⟨40, b_5, arrV .u32 f_9⟩]) (ps := [(0 : Int) ≤ (wi64 (i_10 - 1))]) (by kernel_rfl) (And.intro h12 trivial) ?_
      refine GoO.guard (fun h13 => ?_)
      refine OpTo.go (GoO.idxB (b := b_5) (n := 32) (e := 22) (kk := .i64) (iv := i_10) rfl (by kernel_rfl) (by kernel_rfl) (by kernel_rfl) (by kernel_rfl) h13.1 h13.2 rfl ?_)
      refine GoO.guard (fun h14 => ?_)
      refine OpTo.go (GoO.stB (j := 0) rfl rfl rfl rfl (storeBx_elt (by kernel_rfl) h14.2.1 h14.2.2 _) (by kernel_rfl) rfl ?_)
      refine GoO.regionEnd ?_
      refine GoO.inBlock ?_
      refine GoO.region' (is := [0, 1, 2]) c24_28e (by kernel_rfl) ?_
      refine GoO.exec (is := [0, 1, 2]) (hs := [.p, .p, .p]) (rest := []) (ks := [0, 1, 2, 7, 8]) (env' := [(0, .int .u32 a_1), (1, .int .u32 b_2), (2, .int .i64 n_3), (7, .pointer (some ⟨b_5, 0, none⟩)), (8, .int .i64 (wi64 (i_10 + 1)))]) (H' := [⟨40, b_5, arrV .u32 (f_9.set i_10.toNat (shL .u32 1 (wi64 (i_10 - 1))))⟩]) (ps := []) (by kernel_rfl) trivial ?_
      refine GoO.regionEnd ?_
      refine GoO.inLoop ?_
      exact GoO.sub (ks := [0, 1, 2, 7, 8]) (hk := [0]) (bk := []) (by kernel_rfl) (by kernel_rfl) (by kernel_rfl) (ih0 (f_9.set i_10.toNat (shL .u32 1 (wi64 (i_10 - 1)))) (wi64 (i_10 + 1)))
    · refine GoO.exit' c24_24e rfl ?_
      refine GoO.seq' c24_29e ?_
      refine GoO.seq' c24_30e ?_
      refine GoO.region' (is := [0, 1, 2, 3]) c24_31e (by kernel_rfl) ?_
      refine GoO.exec (is := [0, 1, 2, 3]) (hs := [.p, .p, .p, .p]) (rest := []) (ks := [0, 1, 7, 9]) (env' := [(0, .int .u32 a_1), (1, .int .u32 b_2), (7, .pointer (some ⟨b_5, 0, none⟩)), (9, .int .u64 (wu64 (8 * (wu64 n_3))))]) (H' := [⟨40, b_5, arrV .u32 f_9⟩]) (ps := []) (by kernel_rfl) trivial ?_
      refine GoO.regionEnd ?_
      refine GoO.block' c24_32e ?_
      refine GoO.loop' c24_33e ?_
      exact GoO.sub (ks := [0, 1, 7, 9]) (hk := [0]) (bk := []) (by kernel_rfl) (by kernel_rfl) (by kernel_rfl) (crc_Join_l1_ok n b_2 b_5 w0 S0 n a_1 f_9 (wu64 (8 * (wu64 n_3))))
theorem crc_Join_ok (n : Nat) (a_1 : Int) (b_2 : Int) (n_3 : Int) :
    Meets Try.prog 24 [.int .u32 a_1, .int .u32 b_2, .int .i64 n_3] 0 [] [] [] (crc_Join.f n a_1 b_2 n_3) (crc_Join.R) := by
  refine Meets.of (c := c24_0) (n := 41) Try.func24 (by kernel_rfl) (by kernel_rfl) (by kernel_rfl) fun w0 S0 => ?_
  unfold crc_Join.f
  show GoO (crc_Join.cx w0 S0) [(0, .int .u32 a_1), (1, .int .u32 b_2), (2, .int .i64 n_3)] [] [] [.code c24_0] _
  refine GoO.seq' c24_0e ?_
  refine GoO.region' (is := [0]) c24_1e (by kernel_rfl) ?_
  refine GoO.exec (is := [0]) (hs := [.p]) (rest := []) (ks := [0, 1, 2]) (env' := [(0, .int .u32 a_1), (1, .int .u32 b_2), (2, .int .i64 n_3)]) (H' := []) (ps := []) (by kernel_rfl) trivial ?_
  refine GoO.regionEnd ?_
  refine GoO.seq' c24_2e ?_
  refine GoO.seq' c24_3e ?_
  refine GoO.region' (is := [0, 1]) c24_4e (by kernel_rfl) ?_
  refine GoO.exec (is := [0, 1]) (hs := [.p, .p]) (rest := []) (ks := [0, 1, 2, 11]) (env' := [(0, .int .u32 a_1), (1, .int .u32 b_2), (2, .int .i64 n_3), (11, .bool (decide (n_3 < 0)))]) (H' := []) (ps := []) (by kernel_rfl) trivial ?_
  refine GoO.regionEnd ?_
  refine GoO.ite' c24_5e (by kernel_rfl) (fun h4 => ?_) (fun h4 => ?_)
  · refine GoO.seq' c24_6e ?_
    refine GoO.region' (is := [0]) c24_7e (by kernel_rfl) ?_
    refine GoO.exec (is := [0]) (hs := [.p]) (rest := []) (ks := [6]) (env' := [(6, .int .u32 0)]) (H' := []) (ps := []) (by kernel_rfl) trivial ?_
    refine GoO.regionEnd ?_
    exact GoO.ret' (h := c24_8e) (hs := []) (ps := []) (hk := []) (bk := []) Try.func24 () (by kernel_rfl) trivial (by kernel_rfl) (by kernel_rfl)
  · refine GoO.skip' c24_9e ?_
    refine GoO.seq' c24_10e ?_
    refine GoO.region' (is := [0, 1, 2]) c24_11e (by kernel_rfl) ?_
    refine GoO.exec (is := [0]) (hs := [.p]) (rest := [1, 2]) (ks := [0, 1, 2, 12]) (env' := [(0, .int .u32 a_1), (1, .int .u32 b_2), (2, .int .i64 n_3), (12, .agg ⟨arrV .u32 (List.replicate 32 (0 : Int))⟩)]) (H' := []) (ps := []) (by kernel_rfl) trivial ?_
    refine OpTo.go (GoO.new rfl 40 (cs := arrV .u32 (List.replicate 32 (0 : Int))) (by kernel_rfl) _ (fun _ => rfl) (fun b_5 => ?_))
    refine GoO.guard (fun h6 => ?_)
    refine OpTo.go (GoO.stB (j := 0) rfl rfl rfl rfl (storeBx_arr (by kernel_rfl) h6.1 h6.2) (by kernel_rfl) rfl ?_)
    refine GoO.regionEnd ?_
    refine GoO.seq' c24_12e ?_
    refine GoO.region' (is := [0, 1]) c24_13e (by kernel_rfl) ?_
    refine GoO.guard (fun h7 => ?_)
    refine OpTo.go (GoO.idxB (b := b_5) (n := 32) (e := 22) (kk := .i64) (iv := 0) rfl (by kernel_rfl) (by kernel_rfl) (by kernel_rfl) (by kernel_rfl) h7.1 h7.2 rfl ?_)
    refine GoO.guard (fun h8 => ?_)
    refine OpTo.go (GoO.stB (j := 0) rfl rfl rfl rfl (storeBx_elt (by kernel_rfl) h8.2.1 h8.2.2 _) (by kernel_rfl) rfl ?_)
    refine GoO.regionEnd ?_
    refine GoO.seq' c24_14e ?_
    refine GoO.seq' c24_15e ?_
    refine GoO.region' (is := [0]) c24_16e (by kernel_rfl) ?_
    refine GoO.exec (is := [0]) (hs := [.p]) (rest := []) (ks := [0, 1, 2, 7, 8]) (env' := [(0, .int .u32 a_1), (1, .int .u32 b_2), (2, .int .i64 n_3), (7, .pointer (some ⟨b_5, 0, none⟩)), (8, .int .i64 1)]) (H' := [⟨40, b_5, arrV .u32 ((List.replicate 32 (0 : Int)).set (0 : Int).toNat 2197175160)⟩]) (ps := []) (by kernel_rfl) trivial ?_
    refine GoO.regionEnd ?_
    refine GoO.block' c24_17e ?_
    refine GoO.loop' c24_18e ?_
    exact GoO.sub (ks := [0, 1, 2, 7, 8]) (hk := [0]) (bk := []) (by kernel_rfl) (by kernel_rfl) (by kernel_rfl) (crc_Join_l0_ok n a_1 b_2 n_3 b_5 w0 S0 n ((List.replicate 32 (0 : Int)).set (0 : Int).toNat 2197175160) 1)

/-! tontine/tontinelaw02.CrcMany -/
noncomputable def c14_0 : Code := bodyOf Try.f14
noncomputable def c14_1 : Code := cdL c14_0
noncomputable def c14_2 : Code := cdR c14_0
noncomputable def c14_3 : Code := cdL c14_2
noncomputable def c14_4 : Code := cdL c14_3
noncomputable def c14_5 : Code := cdR c14_3
noncomputable def c14_6 : Code := cdL c14_5
noncomputable def c14_7 : Code := cdL c14_6
noncomputable def c14_8 : Code := cdR c14_6
noncomputable def c14_9 : Code := cdR c14_5
noncomputable def c14_10 : Code := cdR c14_2
noncomputable def c14_11 : Code := cdL c14_10
noncomputable def c14_12 : Code := cdR c14_10
noncomputable def c14_13 : Code := cdL c14_12
noncomputable def c14_14 : Code := cdR c14_12
noncomputable def c14_15 : Code := cdL c14_14
noncomputable def c14_16 : Code := cdL c14_15
noncomputable def c14_17 : Code := cdR c14_15
noncomputable def c14_18 : Code := cdL c14_17
noncomputable def c14_19 : Code := cdL c14_18
noncomputable def c14_20 : Code := cdL c14_19
noncomputable def c14_21 : Code := cdR c14_19
noncomputable def c14_22 : Code := cdL c14_21
noncomputable def c14_23 : Code := cdL c14_22
noncomputable def c14_24 : Code := cdR c14_22
noncomputable def c14_25 : Code := cdR c14_21
noncomputable def c14_26 : Code := cdL c14_25
noncomputable def c14_27 : Code := cdL c14_26
noncomputable def c14_28 : Code := cdL c14_27
noncomputable def c14_29 : Code := cdR c14_27
noncomputable def c14_30 : Code := cdL c14_29
noncomputable def c14_31 : Code := cdR c14_29
noncomputable def c14_32 : Code := cdR c14_25
noncomputable def c14_33 : Code := cdR c14_14
noncomputable def c14_34 : Code := cdL c14_33
noncomputable def c14_35 : Code := cdR c14_33
noncomputable def c14_36 : Code := cdL c14_35
noncomputable def c14_37 : Code := cdL c14_36
noncomputable def c14_38 : Code := cdR c14_36
noncomputable def c14_39 : Code := cdL c14_38
noncomputable def c14_40 : Code := cdL c14_39
noncomputable def c14_41 : Code := cdL c14_40
noncomputable def c14_42 : Code := cdL c14_41
noncomputable def c14_43 : Code := cdR c14_41
noncomputable def c14_44 : Code := cdL c14_43
noncomputable def c14_45 : Code := cdR c14_43
noncomputable def c14_46 : Code := cdR c14_40
noncomputable def c14_47 : Code := cdL c14_46
noncomputable def c14_48 : Code := cdL c14_47
noncomputable def c14_49 : Code := cdL c14_48
noncomputable def c14_50 : Code := cdR c14_48
noncomputable def c14_51 : Code := cdR c14_46
noncomputable def c14_52 : Code := cdR c14_35
noncomputable def c14_53 : Code := cdL c14_52
noncomputable def c14_54 : Code := cdR c14_52
noncomputable def r14_1 : Array Oper := cdO c14_1
noncomputable def r14_4 : Array Oper := cdO c14_4
noncomputable def r14_7 : Array Oper := cdO c14_7
noncomputable def r14_11 : Array Oper := cdO c14_11
noncomputable def r14_13 : Array Oper := cdO c14_13
noncomputable def r14_16 : Array Oper := cdO c14_16
noncomputable def r14_20 : Array Oper := cdO c14_20
noncomputable def r14_28 : Array Oper := cdO c14_28
noncomputable def r14_30 : Array Oper := cdO c14_30
noncomputable def r14_31 : Array Oper := cdO c14_31
noncomputable def r14_32 : Array Oper := cdO c14_32
noncomputable def r14_34 : Array Oper := cdO c14_34
noncomputable def r14_37 : Array Oper := cdO c14_37
noncomputable def r14_42 : Array Oper := cdO c14_42
noncomputable def r14_49 : Array Oper := cdO c14_49
noncomputable def r14_50 : Array Oper := cdO c14_50
noncomputable def r14_51 : Array Oper := cdO c14_51
noncomputable def r14_53 : Array Oper := cdO c14_53
theorem c14_0e : c14_0 = .seq c14_1 c14_2 := by kernel_rfl
theorem c14_1e : c14_1 = .region 0 r14_1 false := by kernel_rfl
theorem c14_2e : c14_2 = .seq c14_3 c14_10 := by kernel_rfl
theorem c14_3e : c14_3 = .seq c14_4 c14_5 := by kernel_rfl
theorem c14_4e : c14_4 = .region 1 r14_4 false := by kernel_rfl
theorem c14_5e : c14_5 = .cond (cdC c14_5) c14_6 c14_9 := by kernel_rfl
theorem c14_6e : c14_6 = .seq c14_7 c14_8 := by kernel_rfl
theorem c14_7e : c14_7 = .region 2 r14_7 false := by kernel_rfl
theorem c14_8e : c14_8 = .ret := by kernel_rfl
theorem c14_9e : c14_9 = .skip := by kernel_rfl
theorem c14_10e : c14_10 = .seq c14_11 c14_12 := by kernel_rfl
theorem c14_11e : c14_11 = .region 3 r14_11 false := by kernel_rfl
theorem c14_12e : c14_12 = .seq c14_13 c14_14 := by kernel_rfl
theorem c14_13e : c14_13 = .region 4 r14_13 false := by kernel_rfl
theorem c14_14e : c14_14 = .seq c14_15 c14_33 := by kernel_rfl
theorem c14_15e : c14_15 = .seq c14_16 c14_17 := by kernel_rfl
theorem c14_16e : c14_16 = .region 5 r14_16 false := by kernel_rfl
theorem c14_17e : c14_17 = .block 0 c14_18 := by kernel_rfl
theorem c14_18e : c14_18 = .loop c14_19 := by kernel_rfl
theorem c14_19e : c14_19 = .seq c14_20 c14_21 := by kernel_rfl
theorem c14_20e : c14_20 = .region 6 r14_20 false := by kernel_rfl
theorem c14_21e : c14_21 = .seq c14_22 c14_25 := by kernel_rfl
theorem c14_22e : c14_22 = .cond (cdC c14_22) c14_23 c14_24 := by kernel_rfl
theorem c14_23e : c14_23 = .skip := by kernel_rfl
theorem c14_24e : c14_24 = .exit 0 := by kernel_rfl
theorem c14_25e : c14_25 = .seq c14_26 c14_32 := by kernel_rfl
theorem c14_26e : c14_26 = .block 1 c14_27 := by kernel_rfl
theorem c14_27e : c14_27 = .seq c14_28 c14_29 := by kernel_rfl
theorem c14_28e : c14_28 = .region 7 r14_28 false := by kernel_rfl
theorem c14_29e : c14_29 = .seq c14_30 c14_31 := by kernel_rfl
theorem c14_30e : c14_30 = .region 8 r14_30 false := by kernel_rfl
theorem c14_31e : c14_31 = .region 9 r14_31 false := by kernel_rfl
theorem c14_32e : c14_32 = .region 10 r14_32 false := by kernel_rfl
theorem c14_33e : c14_33 = .seq c14_34 c14_35 := by kernel_rfl
theorem c14_34e : c14_34 = .region 11 r14_34 false := by kernel_rfl
theorem c14_35e : c14_35 = .seq c14_36 c14_52 := by kernel_rfl
theorem c14_36e : c14_36 = .seq c14_37 c14_38 := by kernel_rfl
theorem c14_37e : c14_37 = .region 12 r14_37 false := by kernel_rfl
theorem c14_38e : c14_38 = .block 2 c14_39 := by kernel_rfl
theorem c14_39e : c14_39 = .loop c14_40 := by kernel_rfl
theorem c14_40e : c14_40 = .seq c14_41 c14_46 := by kernel_rfl
theorem c14_41e : c14_41 = .seq c14_42 c14_43 := by kernel_rfl
theorem c14_42e : c14_42 = .region 13 r14_42 false := by kernel_rfl
theorem c14_43e : c14_43 = .cond (cdC c14_43) c14_44 c14_45 := by kernel_rfl
theorem c14_44e : c14_44 = .skip := by kernel_rfl
theorem c14_45e : c14_45 = .exit 2 := by kernel_rfl
theorem c14_46e : c14_46 = .seq c14_47 c14_51 := by kernel_rfl
theorem c14_47e : c14_47 = .block 3 c14_48 := by kernel_rfl
theorem c14_48e : c14_48 = .seq c14_49 c14_50 := by kernel_rfl
theorem c14_49e : c14_49 = .region 15 r14_49 false := by kernel_rfl
theorem c14_50e : c14_50 = .region 16 r14_50 false := by kernel_rfl
theorem c14_51e : c14_51 = .region 14 r14_51 false := by kernel_rfl
theorem c14_52e : c14_52 = .seq c14_53 c14_54 := by kernel_rfl
theorem c14_53e : c14_53 = .region 17 r14_53 false := by kernel_rfl
theorem c14_54e : c14_54 = .ret := by kernel_rfl
noncomputable def tontinelaw02_CrcMany.R (A_2 : Option Addr) (c_3 : Nat) : Pst Bool where
  ε := Unit
  v := fun r x => .bool r
  H := fun r x => []
  B := fun r x => []
noncomputable def tontinelaw02_CrcMany.cx (A_2 : Option Addr) (c_3 : Nat) (w0 : World) (S0 : Fam) : Cx Bool := ⟨Try.prog, 14, Try.f14, 59, w0, S0, [], 0, tontinelaw02_CrcMany.R A_2 c_3⟩
theorem tontinelaw02_CrcMany_l1_ok (n : Nat) (l_1 : (List (List UInt8))) (whole_6 : (List UInt8)) (left_9 : Int) (A_2 : Option Addr) (c_3 : Nat) (A_7 : Option Addr) (c_8 : Nat) (w0 : World) (S0 : Fam) :
    ∀ (k : Nat) (right_22 : Int) (n_23 : Int) (i_24 : Int), GoO (tontinelaw02_CrcMany.cx A_2 c_3 w0 S0) [(0, .slice A_2 l_1.length c_3), (3, .slice A_7 whole_6.length c_8), (4, .int .u32 left_9), (5, .int .u32 right_22), (8, .int .i64 n_23), (9, .int .i64 i_24)] [] [Rd 0 (Kd.slice Kd.u8) A_2 c_3 l_1, Ow 40 Kd.u8 A_7 c_8 whole_6] [.code c14_40, .inLoop c14_40, .inBlock 2, .code c14_52] (tontinelaw02_CrcMany.l1 n l_1 whole_6 left_9 k right_22 n_23 i_24) := by
  intro k
  induction k with
  | zero => intros; rw [tontinelaw02_CrcMany.l1.eq_1]; exact GoO.stop
  | succ k ih1 =>
    intro right_22 n_23 i_24
    rw [tontinelaw02_CrcMany.l1.eq_2]
    refine GoO.seq' c14_40e ?_
    refine GoO.seq' c14_41e ?_
    refine GoO.region' (is := [0, 1]) c14_42e (by kernel_rfl) ?_
    refine GoO.exec (is := [0, 1]) (hs := [.p, .p]) (rest := []) (ks := [0, 3, 4, 5, 8, 9, 32]) (env' := [(0, .slice A_2 l_1.length c_3), (3, .slice A_7 whole_6.length c_8), (4, .int .u32 left_9), (5, .int .u32 right_22), (8, .int .i64 n_23), (9, .int .i64 i_24), (32, .bool (decide (i_24 ≥ 0)))]) (H' := []) (ps := []) (by kernel_rfl) trivial ?_
    refine GoO.regionEnd ?_
    refine GoO.ite' c14_43e (by kernel_rfl) (fun h25 => ?_) (fun h25 => ?_)
    · refine GoO.skip' c14_44e ?_
      refine GoO.seq' c14_46e ?_
      refine GoO.block' c14_47e ?_
      refine GoO.seq' c14_48e ?_
      refine GoO.region' (is := [0, 1, 2, 3, 4, 5, 6, 7, 8]) c14_49e (by kernel_rfl) ?_
      refine GoO.exec (is := [0, 1]) (hs := [.p, .p]) (rest := [2, 3, 4, 5, 6, 7, 8]) (ks := [0, 3, 4, 5, 8, 9, 35, 36]) (env' := [(0, .slice A_2 l_1.length c_3), (3, .slice A_7 whole_6.length c_8), (4, .int .u32 left_9), (5, .int .u32 right_22), (8, .int .i64 n_23), (9, .int .i64 i_24), (35, .slice A_2 l_1.length c_3), (36, .int .i64 i_24)]) (H' := []) (ps := []) (by kernel_rfl) trivial ?_
      refine GoO.guard (fun h26 => ?_)
      refine OpTo.go (GoO.idx (kk := .i64) (e := 23) (K := (Kd.slice Kd.u8)) (A := A_2) (c := c_3) (xs := l_1) (iv := i_24) (j := 0) rfl (by kernel_rfl) (by kernel_rfl) (by kernel_rfl) (by kernel_rfl) rfl Reads.rd rfl h26.1 h26.2 (by decide) rfl ?_)
      refine OpTo.go (GoO.ldE' (K := (Kd.slice Kd.u8)) (A := A_2) (c := c_3) (xs := l_1) (iN := i_24.toNat) (off := 0) (j := 0) rfl (by kernel_rfl) rfl Reads.rd (idx_lt h26.1 h26.2) (by decide) (Opn.slice _ _) (v := fun e => .slice e.1 (rdL l_1 i_24).length e.2) (fun _ => by kernel_rfl) _ (fun _ => rfl) ?_)
      rintro ⟨A_27, c_28⟩
      refine OpTo.go (GoO.call rfl (by kernel_rfl) (by kernel_rfl) (crc_Sum_ok n (rdL l_1 i_24) A_27 c_28) [[0]] [] [] [(0, 0)] (hks := []) (bks := [0, 1, 2]) (by kernel_rfl) (by kernel_rfl) (by kernel_rfl) (.inl rfl) rfl rfl (by kernel_rfl) (by kernel_rfl) _ (fun _ _ => rfl) _ _ (fun _ _ => rfl) (fun _ _ => rfl) (fun _ _ => by kernel_rfl) (fun _ _ => by kernel_rfl) (fun r_29 x_35 => ?_))
      refine GoO.shape (env' := [(0, .slice A_2 l_1.length c_3), (3, .slice A_7 whole_6.length c_8), (4, .int .u32 left_9), (5, .int .u32 right_22), (8, .int .i64 n_23), (9, .int .i64 i_24), (35, .slice A_2 l_1.length c_3), (36, .int .i64 i_24), (37, elemP A_2 i_24.toNat 1 0), (38, .slice A_27 (rdL l_1 i_24).length c_28), (39, .int .u32 r_29)]) (H' := []) (B' := [Rd 0 Kd.u8 A_27 c_28 (rdL l_1 i_24), Rd 0 (Kd.slice Kd.u8) A_2 c_3 l_1, Ow 40 Kd.u8 A_7 c_8 whole_6]) (ks := [0, 3, 4, 5, 8, 9, 35, 36, 37, 38, 39]) (by kernel_rfl) (by kernel_rfl) (by kernel_rfl) ?_
      refine GoO.exec (is := [5, 6]) (hs := [.p, .p]) (rest := [7, 8]) (ks := [0, 3, 4, 8, 9, 39, 40, 41]) (env' := [(0, .slice A_2 l_1.length c_3), (3, .slice A_7 whole_6.length c_8), (4, .int .u32 left_9), (8, .int .i64 n_23), (9, .int .i64 i_24), (39, .int .u32 r_29), (40, .int .u32 right_22), (41, .int .i64 n_23)]) (H' := []) (ps := []) (by kernel_rfl) trivial ?_
      refine OpTo.go (GoO.call rfl (by kernel_rfl) (by kernel_rfl) (crc_Join_ok n r_29 right_22 n_23) [[0]] [] [] [] (hks := []) (bks := [0, 1, 2]) (by kernel_rfl) (by kernel_rfl) (by kernel_rfl) (.inl rfl) rfl rfl (by kernel_rfl) (by kernel_rfl) _ (fun _ _ => rfl) _ _ (fun _ _ => rfl) (fun _ _ => rfl) (fun _ _ => by kernel_rfl) (fun _ _ => by kernel_rfl) (fun r_30 x_34 => ?_))
      refine GoO.shape (env' := [(0, .slice A_2 l_1.length c_3), (3, .slice A_7 whole_6.length c_8), (4, .int .u32 left_9), (8, .int .i64 n_23), (9, .int .i64 i_24), (39, .int .u32 r_29), (40, .int .u32 right_22), (41, .int .i64 n_23), (42, .int .u32 r_30)]) (H' := []) (B' := [Rd 0 Kd.u8 A_27 c_28 (rdL l_1 i_24), Rd 0 (Kd.slice Kd.u8) A_2 c_3 l_1, Ow 40 Kd.u8 A_7 c_8 whole_6]) (ks := [0, 3, 4, 8, 9, 39, 40, 41, 42]) (by kernel_rfl) (by kernel_rfl) (by kernel_rfl) ?_
      refine GoO.exec (is := [8]) (hs := [.p]) (rest := []) (ks := [0, 3, 4, 5, 8, 9]) (env' := [(0, .slice A_2 l_1.length c_3), (3, .slice A_7 whole_6.length c_8), (4, .int .u32 left_9), (5, .int .u32 r_30), (8, .int .i64 n_23), (9, .int .i64 i_24)]) (H' := []) (ps := []) (by kernel_rfl) trivial ?_
      refine GoO.regionEnd ?_
      refine GoO.region' (is := [0, 1, 2, 3, 4, 5, 6, 7]) c14_50e (by kernel_rfl) ?_
      refine GoO.exec (is := [0, 1, 2]) (hs := [.p, .p, .p]) (rest := [3, 4, 5, 6, 7]) (ks := [0, 3, 4, 5, 9, 43, 44, 45]) (env' := [(0, .slice A_2 l_1.length c_3), (3, .slice A_7 whole_6.length c_8), (4, .int .u32 left_9), (5, .int .u32 r_30), (9, .int .i64 i_24), (43, .int .i64 n_23), (44, .slice A_2 l_1.length c_3), (45, .int .i64 i_24)]) (H' := []) (ps := []) (by kernel_rfl) trivial ?_
      refine GoO.guard (fun h31 => ?_)
      refine OpTo.go (GoO.idx (kk := .i64) (e := 23) (K := (Kd.slice Kd.u8)) (A := A_2) (c := c_3) (xs := l_1) (iv := i_24) (j := 1) rfl (by kernel_rfl) (by kernel_rfl) (by kernel_rfl) (by kernel_rfl) rfl Reads.rd rfl h31.1 h31.2 (by decide) rfl ?_)
      refine OpTo.go (GoO.ldE' (K := (Kd.slice Kd.u8)) (A := A_2) (c := c_3) (xs := l_1) (iN := i_24.toNat) (off := 0) (j := 1) rfl (by kernel_rfl) rfl Reads.rd (idx_lt h31.1 h31.2) (by decide) (Opn.slice _ _) (v := fun e => .slice e.1 (rdL l_1 i_24).length e.2) (fun _ => by kernel_rfl) _ (fun _ => rfl) ?_)
      rintro ⟨A_32, c_33⟩
      refine GoO.exec (is := [5, 6, 7]) (hs := [.p, .p, .p]) (rest := []) (ks := [0, 3, 4, 5, 8, 9]) (env' := [(0, .slice A_2 l_1.length c_3), (3, .slice A_7 whole_6.length c_8), (4, .int .u32 left_9), (5, .int .u32 r_30), (8, .int .i64 (wi64 (n_23 + ((rdL l_1 i_24).length : Int)))), (9, .int .i64 i_24)]) (H' := []) (ps := []) (by kernel_rfl) trivial ?_
      refine GoO.regionEnd ?_
      refine GoO.inBlock ?_
      refine GoO.region' (is := [0, 1, 2]) c14_51e (by kernel_rfl) ?_
      refine GoO.exec (is := [0, 1, 2]) (hs := [.p, .p, .p]) (rest := []) (ks := [0, 3, 4, 5, 8, 9]) (env' := [(0, .slice A_2 l_1.length c_3), (3, .slice A_7 whole_6.length c_8), (4, .int .u32 left_9), (5, .int .u32 r_30), (8, .int .i64 (wi64 (n_23 + ((rdL l_1 i_24).length : Int)))), (9, .int .i64 (wi64 (i_24 - 1)))]) (H' := []) (ps := []) (by kernel_rfl) trivial ?_
      refine GoO.regionEnd ?_
      refine GoO.inLoop ?_
      exact GoO.sub (ks := [0, 3, 4, 5, 8, 9]) (hk := []) (bk := [2, 3]) (by kernel_rfl) (by kernel_rfl) (by kernel_rfl) (ih1 r_30 (wi64 (n_23 + ((rdL l_1 i_24).length : Int))) (wi64 (i_24 - 1)))
    · refine GoO.exit' c14_45e rfl ?_
      refine GoO.seq' c14_52e ?_
      refine GoO.region' (is := [0, 1, 2, 3, 4, 5, 6, 7, 8, 9]) c14_53e (by kernel_rfl) ?_
      refine GoO.exec (is := [0]) (hs := [.p]) (rest := [1, 2, 3, 4, 5, 6, 7, 8, 9]) (ks := [4, 5, 50]) (env' := [(4, .int .u32 left_9), (5, .int .u32 right_22), (50, .slice A_7 whole_6.length c_8)]) (H' := []) (ps := []) (by kernel_rfl) trivial ?_
      refine GoO.view (j := 1) rfl ?_
      refine OpTo.go (GoO.call rfl (by kernel_rfl) (by kernel_rfl) (crc_Sum_ok n whole_6 A_7 c_8) [[0, 40]] [] [] [(0, 2)] (hks := []) (bks := [0, 1]) (by kernel_rfl) (by kernel_rfl) (by kernel_rfl) (.inr (fun _ _ => by simp [crc_Sum.R])) rfl rfl (by kernel_rfl) (by kernel_rfl) _ (fun _ _ => rfl) _ _ (fun _ _ => rfl) (fun _ _ => rfl) (fun _ _ => by kernel_rfl) (fun _ _ => by kernel_rfl) (fun r_36 x_38 => ?_))
      refine GoO.shape (env' := [(4, .int .u32 left_9), (5, .int .u32 right_22), (50, .slice A_7 whole_6.length c_8), (51, .int .u32 r_36)]) (H' := []) (B' := [Rd 0 (Kd.slice Kd.u8) A_2 c_3 l_1, Ow 40 Kd.u8 A_7 c_8 whole_6]) (ks := [4, 5, 50, 51]) (by kernel_rfl) (by kernel_rfl) (by kernel_rfl) ?_
      refine GoO.exec (is := [2, 3, 4]) (hs := [.p, .p, .p]) (rest := [5, 6, 7, 8, 9]) (ks := [4, 5, 54]) (env' := [(4, .int .u32 left_9), (5, .int .u32 right_22), (54, .bool (r_36 == left_9))]) (H' := []) (ps := []) (by kernel_rfl) trivial ?_
      refine GoO.bsplit (t := 54) (by kernel_rfl) (fun h37 => ?_) (fun h37 => ?_)
      · refine GoO.exec (is := [5, 6, 7, 8, 9]) (hs := [.p, .p, .p, .p, .p]) (rest := []) (ks := [2]) (env' := [(2, .bool (left_9 == right_22))]) (H' := []) (ps := []) (by kernel_rfl) trivial ?_
        refine GoO.regionEnd ?_
        exact GoO.ret' (h := c14_54e) (hs := []) (ps := []) (hk := []) (bk := []) Try.func14 () (by kernel_rfl) trivial (by kernel_rfl) (by kernel_rfl)
      · refine GoO.exec (is := [5, 6, 7, 8, 9]) (hs := [.p, .p, .p, .p, .p]) (rest := []) (ks := [2]) (env' := [(2, .bool false)]) (H' := []) (ps := []) (by kernel_rfl) trivial ?_
        refine GoO.regionEnd ?_
        exact GoO.ret' (h := c14_54e) (hs := []) (ps := []) (hk := []) (bk := []) Try.func14 () (by kernel_rfl) trivial (by kernel_rfl) (by kernel_rfl)
theorem tontinelaw02_CrcMany_l0_ok (n : Nat) (l_1 : (List (List UInt8))) (A_2 : Option Addr) (c_3 : Nat) (w0 : World) (S0 : Fam) :
    ∀ (k : Nat) (whole_6 : (List UInt8)) (left_9 : Int) (x_10 : Int) (A_7 : Option Addr) (c_8 : Nat), GoO (tontinelaw02_CrcMany.cx A_2 c_3 w0 S0) [(0, .slice A_2 l_1.length c_3), (3, .slice A_7 whole_6.length c_8), (4, .int .u32 left_9), (5, .int .u32 0), (12, .slice A_2 l_1.length c_3), (13, .int .i64 (l_1.length : Int)), (14, .int .i64 x_10)] [] [Rd 0 (Kd.slice Kd.u8) A_2 c_3 l_1, Ow 40 Kd.u8 A_7 c_8 whole_6] [.code c14_19, .inLoop c14_19, .inBlock 0, .code c14_33] (tontinelaw02_CrcMany.l0 n l_1 k whole_6 left_9 x_10) := by
  intro k
  induction k with
  | zero => intros; rw [tontinelaw02_CrcMany.l0.eq_1]; exact GoO.stop
  | succ k ih0 =>
    intro whole_6 left_9 x_10 A_7 c_8
    rw [tontinelaw02_CrcMany.l0.eq_2]
    refine GoO.seq' c14_19e ?_
    refine GoO.region' (is := [0]) c14_20e (by kernel_rfl) ?_
    refine GoO.exec (is := [0]) (hs := [.p]) (rest := []) (ks := [0, 3, 4, 5, 12, 13, 14, 15]) (env' := [(0, .slice A_2 l_1.length c_3), (3, .slice A_7 whole_6.length c_8), (4, .int .u32 left_9), (5, .int .u32 0), (12, .slice A_2 l_1.length c_3), (13, .int .i64 (l_1.length : Int)), (14, .int .i64 x_10), (15, .bool (decide (x_10 < (l_1.length : Int))))]) (H' := []) (ps := []) (by kernel_rfl) trivial ?_
    refine GoO.regionEnd ?_
    refine GoO.seq' c14_21e ?_
    refine GoO.ite' c14_22e (by kernel_rfl) (fun h11 => ?_) (fun h11 => ?_)
    · refine GoO.skip' c14_23e ?_
      refine GoO.seq' c14_25e ?_
      refine GoO.block' c14_26e ?_
      refine GoO.seq' c14_27e ?_
      refine GoO.region' (is := [0, 1, 2]) c14_28e (by kernel_rfl) ?_
      refine GoO.guard (fun h12 => ?_)
      refine OpTo.go (GoO.idx (kk := .i64) (e := 23) (K := (Kd.slice Kd.u8)) (A := A_2) (c := c_3) (xs := l_1) (iv := x_10) (j := 0) rfl (by kernel_rfl) (by kernel_rfl) (by kernel_rfl) (by kernel_rfl) rfl Reads.rd rfl h12.1 h12.2 (by decide) rfl ?_)
      refine OpTo.go (GoO.ldE' (K := (Kd.slice Kd.u8)) (A := A_2) (c := c_3) (xs := l_1) (iN := x_10.toNat) (off := 0) (j := 0) rfl (by kernel_rfl) rfl Reads.rd (idx_lt h12.1 h12.2) (by decide) (Opn.slice _ _) (v := fun e => .slice e.1 (rdL l_1 x_10).length e.2) (fun _ => by kernel_rfl) _ (fun _ => rfl) ?_)
      rintro ⟨A_13, c_14⟩
      refine GoO.exec (is := [2]) (hs := [.p]) (rest := []) (ks := [0, 3, 4, 5, 7, 12, 13, 14]) (env' := [(0, .slice A_2 l_1.length c_3), (3, .slice A_7 whole_6.length c_8), (4, .int .u32 left_9), (5, .int .u32 0), (7, .slice A_13 (rdL l_1 x_10).length c_14), (12, .slice A_2 l_1.length c_3), (13, .int .i64 (l_1.length : Int)), (14, .int .i64 x_10)]) (H' := []) (ps := []) (by kernel_rfl) trivial ?_
      refine GoO.regionEnd ?_
      refine GoO.seq' c14_29e ?_
      refine GoO.region' (is := [0, 1, 2, 3]) c14_30e (by kernel_rfl) ?_
      refine GoO.exec (is := [0, 1]) (hs := [.p, .p]) (rest := [2, 3]) (ks := [0, 4, 5, 7, 12, 13, 14, 18, 19]) (env' := [(0, .slice A_2 l_1.length c_3), (4, .int .u32 left_9), (5, .int .u32 0), (7, .slice A_13 (rdL l_1 x_10).length c_14), (12, .slice A_2 l_1.length c_3), (13, .int .i64 (l_1.length : Int)), (14, .int .i64 x_10), (18, .slice A_7 whole_6.length c_8), (19, .slice A_13 (rdL l_1 x_10).length c_14)]) (H' := []) (ps := []) (by kernel_rfl) trivial ?_
      refine GoO.guard (fun h15 => ?_)
      refine OpTo.go (GoO.appW (e := 5) (K := Kd.u8) (A := A_7) (c := c_8) (tg := 40) (bytes := 1) (zs := [.int .u8 0]) (xs := whole_6) (ys := (rdL l_1 x_10)) (xv := .slice A_13 (rdL l_1 x_10).length c_14) (j := 2) (bk := [0, 1]) rfl (by kernel_rfl) (by kernel_rfl) (by kernel_rfl) (by kernel_rfl) rfl (by kernel_rfl) rfl (fun w S hB => SrcIs.row (Reads.rd w S (hB _ (List.mem_of_getElem? (i := 0) rfl)))) h15 rfl rfl rfl rfl _ (fun _ _ => rfl) (fun A_16 c_17 => ?_))
      refine GoO.exec (is := [3]) (hs := [.p]) (rest := []) (ks := [0, 3, 4, 5, 7, 12, 13, 14]) (env' := [(0, .slice A_2 l_1.length c_3), (3, .slice A_16 (whole_6 ++ (rdL l_1 x_10)).length c_17), (4, .int .u32 left_9), (5, .int .u32 0), (7, .slice A_13 (rdL l_1 x_10).length c_14), (12, .slice A_2 l_1.length c_3), (13, .int .i64 (l_1.length : Int)), (14, .int .i64 x_10)]) (H' := []) (ps := []) (by kernel_rfl) trivial ?_
      refine GoO.regionEnd ?_
      refine GoO.region' (is := [0, 1, 2, 3, 4, 5, 6]) c14_31e (by kernel_rfl) ?_
      refine GoO.exec (is := [0, 1]) (hs := [.p, .p]) (rest := [2, 3, 4, 5, 6]) (ks := [0, 3, 5, 7, 12, 13, 14, 21, 22]) (env' := [(0, .slice A_2 l_1.length c_3), (3, .slice A_16 (whole_6 ++ (rdL l_1 x_10)).length c_17), (5, .int .u32 0), (7, .slice A_13 (rdL l_1 x_10).length c_14), (12, .slice A_2 l_1.length c_3), (13, .int .i64 (l_1.length : Int)), (14, .int .i64 x_10), (21, .int .u32 left_9), (22, .slice A_13 (rdL l_1 x_10).length c_14)]) (H' := []) (ps := []) (by kernel_rfl) trivial ?_
      refine OpTo.go (GoO.call rfl (by kernel_rfl) (by kernel_rfl) (crc_Sum_ok n (rdL l_1 x_10) A_13 c_14) [[0]] [] [] [(0, 1)] (hks := []) (bks := [0, 1, 2]) (by kernel_rfl) (by kernel_rfl) (by kernel_rfl) (.inl rfl) rfl rfl (by kernel_rfl) (by kernel_rfl) _ (fun _ _ => rfl) _ _ (fun _ _ => rfl) (fun _ _ => rfl) (fun _ _ => by kernel_rfl) (fun _ _ => by kernel_rfl) (fun r_18 x_21 => ?_))
      refine GoO.shape (env' := [(0, .slice A_2 l_1.length c_3), (3, .slice A_16 (whole_6 ++ (rdL l_1 x_10)).length c_17), (5, .int .u32 0), (7, .slice A_13 (rdL l_1 x_10).length c_14), (12, .slice A_2 l_1.length c_3), (13, .int .i64 (l_1.length : Int)), (14, .int .i64 x_10), (21, .int .u32 left_9), (22, .slice A_13 (rdL l_1 x_10).length c_14), (23, .int .u32 r_18)]) (H' := []) (B' := [Ow 40 Kd.u8 A_16 c_17 (whole_6 ++ (rdL l_1 x_10)), Rd 0 Kd.u8 A_13 c_14 (rdL l_1 x_10), Rd 0 (Kd.slice Kd.u8) A_2 c_3 l_1]) (ks := [0, 3, 5, 7, 12, 13, 14, 21, 22, 23]) (by kernel_rfl) (by kernel_rfl) (by kernel_rfl) ?_
      refine GoO.exec (is := [3, 4]) (hs := [.p, .p]) (rest := [5, 6]) (ks := [0, 3, 5, 12, 13, 14, 21, 23, 25]) (env' := [(0, .slice A_2 l_1.length c_3), (3, .slice A_16 (whole_6 ++ (rdL l_1 x_10)).length c_17), (5, .int .u32 0), (12, .slice A_2 l_1.length c_3), (13, .int .i64 (l_1.length : Int)), (14, .int .i64 x_10), (21, .int .u32 left_9), (23, .int .u32 r_18), (25, .int .i64 ((rdL l_1 x_10).length : Int))]) (H' := []) (ps := []) (by kernel_rfl) trivial ?_
      refine OpTo.go (GoO.call rfl (by kernel_rfl) (by kernel_rfl) (crc_Join_ok n left_9 r_18 ((rdL l_1 x_10).length : Int)) [[0]] [] [] [] (hks := []) (bks := [0, 1, 2]) (by kernel_rfl) (by kernel_rfl) (by kernel_rfl) (.inl rfl) rfl rfl (by kernel_rfl) (by kernel_rfl) _ (fun _ _ => rfl) _ _ (fun _ _ => rfl) (fun _ _ => rfl) (fun _ _ => by kernel_rfl) (fun _ _ => by kernel_rfl) (fun r_19 x_20 => ?_))
      refine GoO.shape (env' := [(0, .slice A_2 l_1.length c_3), (3, .slice A_16 (whole_6 ++ (rdL l_1 x_10)).length c_17), (5, .int .u32 0), (12, .slice A_2 l_1.length c_3), (13, .int .i64 (l_1.length : Int)), (14, .int .i64 x_10), (21, .int .u32 left_9), (23, .int .u32 r_18), (25, .int .i64 ((rdL l_1 x_10).length : Int)), (26, .int .u32 r_19)]) (H' := []) (B' := [Ow 40 Kd.u8 A_16 c_17 (whole_6 ++ (rdL l_1 x_10)), Rd 0 Kd.u8 A_13 c_14 (rdL l_1 x_10), Rd 0 (Kd.slice Kd.u8) A_2 c_3 l_1]) (ks := [0, 3, 5, 12, 13, 14, 21, 23, 25, 26]) (by kernel_rfl) (by kernel_rfl) (by kernel_rfl) ?_
      refine GoO.exec (is := [6]) (hs := [.p]) (rest := []) (ks := [0, 3, 4, 5, 12, 13, 14]) (env' := [(0, .slice A_2 l_1.length c_3), (3, .slice A_16 (whole_6 ++ (rdL l_1 x_10)).length c_17), (4, .int .u32 r_19), (5, .int .u32 0), (12, .slice A_2 l_1.length c_3), (13, .int .i64 (l_1.length : Int)), (14, .int .i64 x_10)]) (H' := []) (ps := []) (by kernel_rfl) trivial ?_
      refine GoO.regionEnd ?_
      refine GoO.inBlock ?_
      refine GoO.region' (is := [0, 1]) c14_32e (by kernel_rfl) ?_
      refine GoO.exec (is := [0, 1]) (hs := [.p, .p]) (rest := []) (ks := [0, 3, 4, 5, 12, 13, 14]) (env' := [(0, .slice A_2 l_1.length c_3), (3, .slice A_16 (whole_6 ++ (rdL l_1 x_10)).length c_17), (4, .int .u32 r_19), (5, .int .u32 0), (12, .slice A_2 l_1.length c_3), (13, .int .i64 (l_1.length : Int)), (14, .int .i64 (wi64 (x_10 + 1)))]) (H' := []) (ps := []) (by kernel_rfl) trivial ?_
      refine GoO.regionEnd ?_
      refine GoO.inLoop ?_
      exact GoO.sub (ks := [0, 3, 4, 5, 12, 13, 14]) (hk := []) (bk := [2, 0]) (by kernel_rfl) (by kernel_rfl) (by kernel_rfl) (ih0 (whole_6 ++ (rdL l_1 x_10)) r_19 (wi64 (x_10 + 1)) A_16 c_17)
    · refine GoO.exit' c14_24e rfl ?_
      refine GoO.seq' c14_33e ?_
      refine GoO.region' (is := [0]) c14_34e (by kernel_rfl) ?_
      refine GoO.exec (is := [0]) (hs := [.p]) (rest := []) (ks := [0, 3, 4, 5, 8]) (env' := [(0, .slice A_2 l_1.length c_3), (3, .slice A_7 whole_6.length c_8), (4, .int .u32 left_9), (5, .int .u32 0), (8, .int .i64 0)]) (H' := []) (ps := []) (by kernel_rfl) trivial ?_
      refine GoO.regionEnd ?_
      refine GoO.seq' c14_35e ?_
      refine GoO.seq' c14_36e ?_
      refine GoO.region' (is := [0, 1, 2, 3]) c14_37e (by kernel_rfl) ?_
      refine GoO.exec (is := [0, 1, 2, 3]) (hs := [.p, .p, .p, .p]) (rest := []) (ks := [0, 3, 4, 5, 8, 9]) (env' := [(0, .slice A_2 l_1.length c_3), (3, .slice A_7 whole_6.length c_8), (4, .int .u32 left_9), (5, .int .u32 0), (8, .int .i64 0), (9, .int .i64 (wi64 ((l_1.length : Int) - 1)))]) (H' := []) (ps := []) (by kernel_rfl) trivial ?_
      refine GoO.regionEnd ?_
      refine GoO.block' c14_38e ?_
      refine GoO.loop' c14_39e ?_
      exact GoO.sub (ks := [0, 3, 4, 5, 8, 9]) (hk := []) (bk := [0, 1]) (by kernel_rfl) (by kernel_rfl) (by kernel_rfl) (tontinelaw02_CrcMany_l1_ok n l_1 whole_6 left_9 A_2 c_3 A_7 c_8 w0 S0 n 0 0 (wi64 ((l_1.length : Int) - 1)))
theorem tontinelaw02_CrcMany_ok (n : Nat) (l_1 : (List (List UInt8))) (A_2 : Option Addr) (c_3 : Nat) :
    Meets Try.prog 14 [.slice A_2 l_1.length c_3] 0 [] [] [Rd 0 (Kd.slice Kd.u8) A_2 c_3 l_1] (tontinelaw02_CrcMany.f n l_1) (tontinelaw02_CrcMany.R A_2 c_3) := by
  refine Meets.of (c := c14_0) (n := 59) Try.func14 (by kernel_rfl) (by kernel_rfl) (by kernel_rfl) fun w0 S0 => ?_
  unfold tontinelaw02_CrcMany.f
  show GoO (tontinelaw02_CrcMany.cx A_2 c_3 w0 S0) [(0, .slice A_2 l_1.length c_3)] [] [Rd 0 (Kd.slice Kd.u8) A_2 c_3 l_1] [.code c14_0] _
  refine GoO.seq' c14_0e ?_
  refine GoO.region' (is := [0]) c14_1e (by kernel_rfl) ?_
  refine GoO.exec (is := [0]) (hs := [.p]) (rest := []) (ks := [0]) (env' := [(0, .slice A_2 l_1.length c_3)]) (H' := []) (ps := []) (by kernel_rfl) trivial ?_
  refine GoO.regionEnd ?_
  refine GoO.seq' c14_2e ?_
  refine GoO.seq' c14_3e ?_
  refine GoO.region' (is := [0, 1]) c14_4e (by kernel_rfl) ?_
  refine OpTo.go (GoO.call rfl (by kernel_rfl) (by kernel_rfl) (tontinelaw02_begun_ok n) [[0]] [] [] [] (hks := []) (bks := [0]) (by kernel_rfl) (by kernel_rfl) (by kernel_rfl) (.inl rfl) rfl rfl (by kernel_rfl) (by kernel_rfl) _ (fun _ _ => rfl) _ _ (fun _ _ => rfl) (fun _ _ => rfl) (fun _ _ => by kernel_rfl) (fun _ _ => by kernel_rfl) (fun r_4 x_39 => ?_))
  refine GoO.shape (env' := [(0, .slice A_2 l_1.length c_3), (10, .bool r_4)]) (H' := []) (B' := [Rd 0 (Kd.slice Kd.u8) A_2 c_3 l_1]) (ks := [0, 10]) (by kernel_rfl) (by kernel_rfl) (by kernel_rfl) ?_
  refine GoO.exec (is := [1]) (hs := [.p]) (rest := []) (ks := [0, 11]) (env' := [(0, .slice A_2 l_1.length c_3), (11, .bool (!r_4))]) (H' := []) (ps := []) (by kernel_rfl) trivial ?_
  refine GoO.regionEnd ?_
  refine GoO.ite' c14_5e (by kernel_rfl) (fun h5 => ?_) (fun h5 => ?_)
  · refine GoO.seq' c14_6e ?_
    refine GoO.region' (is := [0]) c14_7e (by kernel_rfl) ?_
    refine GoO.exec (is := [0]) (hs := [.p]) (rest := []) (ks := [2]) (env' := [(2, .bool false)]) (H' := []) (ps := []) (by kernel_rfl) trivial ?_
    refine GoO.regionEnd ?_
    exact GoO.ret' (h := c14_8e) (hs := []) (ps := []) (hk := []) (bk := []) Try.func14 () (by kernel_rfl) trivial (by kernel_rfl) (by kernel_rfl)
  · refine GoO.skip' c14_9e ?_
    refine GoO.seq' c14_10e ?_
    refine GoO.region' (is := [0]) c14_11e (by kernel_rfl) ?_
    refine GoO.exec (is := [0]) (hs := [.p]) (rest := []) (ks := [0, 3]) (env' := [(0, .slice A_2 l_1.length c_3), (3, .slice none ([] : List UInt8).length 0)]) (H' := []) (ps := []) (by kernel_rfl) trivial ?_
    refine GoO.regionEnd ?_
    refine GoO.seq' c14_12e ?_
    refine GoO.region' (is := [0, 1]) c14_13e (by kernel_rfl) ?_
    refine GoO.exec (is := [0, 1]) (hs := [.p, .p]) (rest := []) (ks := [0, 3, 4, 5]) (env' := [(0, .slice A_2 l_1.length c_3), (3, .slice none ([] : List UInt8).length 0), (4, .int .u32 0), (5, .int .u32 0)]) (H' := []) (ps := []) (by kernel_rfl) trivial ?_
    refine GoO.regionEnd ?_
    refine GoO.seq' c14_14e ?_
    refine GoO.seq' c14_15e ?_
    refine GoO.region' (is := [0, 1, 2]) c14_16e (by kernel_rfl) ?_
    refine GoO.exec (is := [0, 1, 2]) (hs := [.p, .p, .p]) (rest := []) (ks := [0, 3, 4, 5, 12, 13, 14]) (env' := [(0, .slice A_2 l_1.length c_3), (3, .slice none ([] : List UInt8).length 0), (4, .int .u32 0), (5, .int .u32 0), (12, .slice A_2 l_1.length c_3), (13, .int .i64 (l_1.length : Int)), (14, .int .i64 0)]) (H' := []) (ps := []) (by kernel_rfl) trivial ?_
    refine GoO.regionEnd ?_
    refine GoO.block' c14_17e ?_
    refine GoO.loop' c14_18e ?_
    refine GoO.nilOwn Kd.u8 40 ?_
    exact GoO.sub (ks := [0, 3, 4, 5, 12, 13, 14]) (hk := []) (bk := [1, 0]) (by kernel_rfl) (by kernel_rfl) (by kernel_rfl) (tontinelaw02_CrcMany_l0_ok n l_1 A_2 c_3 w0 S0 n ([] : List UInt8) 0 0 none 0)
end Go.GL
