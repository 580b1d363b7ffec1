import Derived.Test.YtapiconoooncgaaKindsT1
import Derived.Test.YtapiconoooncgaaProg
set_option linter.unusedVariables false
set_option linter.unusedSimpArgs false
set_option maxRecDepth 100000
namespace Go.GL
open Go Go.Proofs

/-! tontine/crc.Add -/
noncomputable def c16_0 : Code := bodyOf Try.f16
noncomputable def c16_1 : Code := cdL c16_0
noncomputable def c16_2 : Code := cdR c16_0
noncomputable def c16_3 : Code := cdL c16_2
noncomputable def c16_4 : Code := cdR c16_2
noncomputable def c16_5 : Code := cdL c16_4
noncomputable def c16_6 : Code := cdL c16_5
noncomputable def c16_7 : Code := cdR c16_5
noncomputable def c16_8 : Code := cdL c16_7
noncomputable def c16_9 : Code := cdL c16_8
noncomputable def c16_10 : Code := cdL c16_9
noncomputable def c16_11 : Code := cdR c16_9
noncomputable def c16_12 : Code := cdL c16_11
noncomputable def c16_13 : Code := cdL c16_12
noncomputable def c16_14 : Code := cdR c16_12
noncomputable def c16_15 : Code := cdR c16_11
noncomputable def c16_16 : Code := cdL c16_15
noncomputable def c16_17 : Code := cdL c16_16
noncomputable def c16_18 : Code := cdL c16_17
noncomputable def c16_19 : Code := cdR c16_17
noncomputable def c16_20 : Code := cdL c16_19
noncomputable def c16_21 : Code := cdR c16_19
noncomputable def c16_22 : Code := cdL c16_21
noncomputable def c16_23 : Code := cdR c16_21
noncomputable def c16_24 : Code := cdL c16_23
noncomputable def c16_25 : Code := cdL c16_24
noncomputable def c16_26 : Code := cdL c16_25
noncomputable def c16_27 : Code := cdR c16_25
noncomputable def c16_28 : Code := cdL c16_27
noncomputable def c16_29 : Code := cdL c16_28
noncomputable def c16_30 : Code := cdR c16_28
noncomputable def c16_31 : Code := cdR c16_27
noncomputable def c16_32 : Code := cdL c16_31
noncomputable def c16_33 : Code := cdL c16_32
noncomputable def c16_34 : Code := cdR c16_31
noncomputable def c16_35 : Code := cdR c16_15
noncomputable def c16_36 : Code := cdR c16_4
noncomputable def c16_37 : Code := cdL c16_36
noncomputable def c16_38 : Code := cdR c16_36
noncomputable def r16_1 : Array Oper := cdO c16_1
noncomputable def r16_3 : Array Oper := cdO c16_3
noncomputable def r16_6 : Array Oper := cdO c16_6
noncomputable def r16_10 : Array Oper := cdO c16_10
noncomputable def r16_18 : Array Oper := cdO c16_18
noncomputable def r16_20 : Array Oper := cdO c16_20
noncomputable def r16_22 : Array Oper := cdO c16_22
noncomputable def r16_26 : Array Oper := cdO c16_26
noncomputable def r16_33 : Array Oper := cdO c16_33
noncomputable def r16_34 : Array Oper := cdO c16_34
noncomputable def r16_35 : Array Oper := cdO c16_35
noncomputable def r16_37 : Array Oper := cdO c16_37
theorem c16_0e : c16_0 = .seq c16_1 c16_2 := by kernel_rfl
theorem c16_1e : c16_1 = .region 0 r16_1 false := by kernel_rfl
theorem c16_2e : c16_2 = .seq c16_3 c16_4 := by kernel_rfl
theorem c16_3e : c16_3 = .region 1 r16_3 false := by kernel_rfl
theorem c16_4e : c16_4 = .seq c16_5 c16_36 := by kernel_rfl
theorem c16_5e : c16_5 = .seq c16_6 c16_7 := by kernel_rfl
theorem c16_6e : c16_6 = .region 2 r16_6 false := by kernel_rfl
theorem c16_7e : c16_7 = .block 0 c16_8 := by kernel_rfl
theorem c16_8e : c16_8 = .loop c16_9 := by kernel_rfl
theorem c16_9e : c16_9 = .seq c16_10 c16_11 := by kernel_rfl
theorem c16_10e : c16_10 = .region 3 r16_10 false := by kernel_rfl
theorem c16_11e : c16_11 = .seq c16_12 c16_15 := by kernel_rfl
theorem c16_12e : c16_12 = .cond (cdC c16_12) c16_13 c16_14 := by kernel_rfl
theorem c16_13e : c16_13 = .skip := by kernel_rfl
theorem c16_14e : c16_14 = .exit 0 := by kernel_rfl
theorem c16_15e : c16_15 = .seq c16_16 c16_35 := by kernel_rfl
theorem c16_16e : c16_16 = .block 1 c16_17 := by kernel_rfl
theorem c16_17e : c16_17 = .seq c16_18 c16_19 := by kernel_rfl
theorem c16_18e : c16_18 = .region 4 r16_18 false := by kernel_rfl
theorem c16_19e : c16_19 = .seq c16_20 c16_21 := by kernel_rfl
theorem c16_20e : c16_20 = .region 5 r16_20 false := by kernel_rfl
theorem c16_21e : c16_21 = .seq c16_22 c16_23 := by kernel_rfl
theorem c16_22e : c16_22 = .region 6 r16_22 false := by kernel_rfl
theorem c16_23e : c16_23 = .block 2 c16_24 := by kernel_rfl
theorem c16_24e : c16_24 = .loop c16_25 := by kernel_rfl
theorem c16_25e : c16_25 = .seq c16_26 c16_27 := by kernel_rfl
theorem c16_26e : c16_26 = .region 7 r16_26 false := by kernel_rfl
theorem c16_27e : c16_27 = .seq c16_28 c16_31 := by kernel_rfl
theorem c16_28e : c16_28 = .cond (cdC c16_28) c16_29 c16_30 := by kernel_rfl
theorem c16_29e : c16_29 = .skip := by kernel_rfl
theorem c16_30e : c16_30 = .exit 2 := by kernel_rfl
theorem c16_31e : c16_31 = .seq c16_32 c16_34 := by kernel_rfl
theorem c16_32e : c16_32 = .block 3 c16_33 := by kernel_rfl
theorem c16_33e : c16_33 = .region 8 r16_33 false := by kernel_rfl
theorem c16_34e : c16_34 = .region 9 r16_34 false := by kernel_rfl
theorem c16_35e : c16_35 = .region 10 r16_35 false := by kernel_rfl
theorem c16_36e : c16_36 = .seq c16_37 c16_38 := by kernel_rfl
theorem c16_37e : c16_37 = .region 11 r16_37 false := by kernel_rfl
theorem c16_38e : c16_38 = .ret := by kernel_rfl
noncomputable def crc_Add.R (A_3 : Option Addr) (c_4 : Nat) : Pst Int where
  ε := Unit
  v := fun r x => .int .u32 r
  H := fun r x => []
  B := fun r x => []
noncomputable def crc_Add.cx (A_3 : Option Addr) (c_4 : Nat) (w0 : World) (S0 : Fam) : Cx Int := ⟨Try.prog, 16, Try.f16, 33, w0, S0, [], 0, crc_Add.R A_3 c_4⟩
theorem crc_Add_l1_ok (n : Nat) (L0 : Int → Int → Option Int) (b_2 : (List UInt8)) (x_5 : Int) (x_6 : Int) (A_3 : Option Addr) (c_4 : Nat) (w0 : World) (S0 : Fam) (ih0 : ∀ (x_5 : Int) (x_6 : Int), GoO (crc_Add.cx A_3 c_4 w0 S0) [(5, .int .u32 x_5), (10, .slice A_3 b_2.length c_4), (11, .int .i64 (b_2.length : Int)), (12, .int .i64 x_6)] [] [Rd 0 Kd.u8 A_3 c_4 b_2] [.code c16_9, .inLoop c16_9, .inBlock 0, .code c16_36] (L0 x_5 x_6)) :
    ∀ (k : Nat) (x_9 : Int) (x_10 : Int), GoO (crc_Add.cx A_3 c_4 w0 S0) [(5, .int .u32 x_9), (10, .slice A_3 b_2.length c_4), (11, .int .i64 (b_2.length : Int)), (12, .int .i64 x_6), (20, .int .i64 x_10)] [] [Rd 0 Kd.u8 A_3 c_4 b_2] [.code c16_25, .inLoop c16_25, .inBlock 2, .inBlock 1, .code c16_35, .inLoop c16_9, .inBlock 0, .code c16_36] (crc_Add.l1 n L0 x_6 k x_9 x_10) := by
  intro k
  induction k with
  | zero => intros; rw [crc_Add.l1.eq_1]; exact GoO.stop
  | succ k ih1 =>
    intro x_9 x_10
    rw [crc_Add.l1.eq_2]
    refine GoO.seq' c16_25e ?_
    refine GoO.region' (is := [0]) c16_26e (by kernel_rfl) ?_
    refine GoO.exec (is := [0]) (hs := [.p]) (rest := []) (ks := [5, 10, 11, 12, 20, 21]) (env' := [(5, .int .u32 x_9), (10, .slice A_3 b_2.length c_4), (11, .int .i64 (b_2.length : Int)), (12, .int .i64 x_6), (20, .int .i64 x_10), (21, .bool (decide (x_10 < 8)))]) (H' := []) (ps := []) (by kernel_rfl) trivial ?_
    refine GoO.regionEnd ?_
    refine GoO.seq' c16_27e ?_
    refine GoO.ite' c16_28e (by kernel_rfl) (fun h11 => ?_) (fun h11 => ?_)
    · refine GoO.skip' c16_29e ?_
      refine GoO.seq' c16_31e ?_
      refine GoO.block' c16_32e ?_
      refine GoO.region' (is := [0, 1, 2, 3, 4, 5, 6, 7]) c16_33e (by kernel_rfl) ?_
      refine GoO.exec (is := [0, 1, 2, 3, 4, 5, 6, 7]) (hs := [.p, .p, .p, .p, .p, .p, .p, .p]) (rest := []) (ks := [5, 10, 11, 12, 20]) (env' := [(5, .int .u32 (bXor .u32 (shR .u32 x_9 1) (bAnd .u32 2197175160 (wu32 (0 - (bAnd .u32 x_9 1)))))), (10, .slice A_3 b_2.length c_4), (11, .int .i64 (b_2.length : Int)), (12, .int .i64 x_6), (20, .int .i64 x_10)]) (H' := []) (ps := [(0 : Int) ≤ 1]) (by kernel_rfl) (And.intro (by decide) trivial) ?_
      refine GoO.regionEnd ?_
      refine GoO.inBlock ?_
      refine GoO.region' (is := [0, 1]) c16_34e (by kernel_rfl) ?_
      refine GoO.exec (is := [0, 1]) (hs := [.p, .p]) (rest := []) (ks := [5, 10, 11, 12, 20]) (env' := [(5, .int .u32 (bXor .u32 (shR .u32 x_9 1) (bAnd .u32 2197175160 (wu32 (0 - (bAnd .u32 x_9 1)))))), (10, .slice A_3 b_2.length c_4), (11, .int .i64 (b_2.length : Int)), (12, .int .i64 x_6), (20, .int .i64 (wi64 (x_10 + 1)))]) (H' := []) (ps := []) (by kernel_rfl) trivial ?_
      refine GoO.regionEnd ?_
      refine GoO.inLoop ?_
      exact GoO.sub (ks := [5, 10, 11, 12, 20]) (hk := []) (bk := [0]) (by kernel_rfl) (by kernel_rfl) (by kernel_rfl) (ih1 (bXor .u32 (shR .u32 x_9 1) (bAnd .u32 2197175160 (wu32 (0 - (bAnd .u32 x_9 1))))) (wi64 (x_10 + 1)))
    · refine GoO.exit' c16_30e rfl ?_
      refine GoO.inBlock ?_
      refine GoO.region' (is := [0, 1]) c16_35e (by kernel_rfl) ?_
      refine GoO.exec (is := [0, 1]) (hs := [.p, .p]) (rest := []) (ks := [5, 10, 11, 12]) (env' := [(5, .int .u32 x_9), (10, .slice A_3 b_2.length c_4), (11, .int .i64 (b_2.length : Int)), (12, .int .i64 (wi64 (x_6 + 1)))]) (H' := []) (ps := []) (by kernel_rfl) trivial ?_
      refine GoO.regionEnd ?_
      refine GoO.inLoop ?_
      exact GoO.sub (ks := [5, 10, 11, 12]) (hk := []) (bk := [0]) (by kernel_rfl) (by kernel_rfl) (by kernel_rfl) (ih0 x_9 (wi64 (x_6 + 1)))
theorem crc_Add_l0_ok (n : Nat) (b_2 : (List UInt8)) (A_3 : Option Addr) (c_4 : Nat) (w0 : World) (S0 : Fam) :
    ∀ (k : Nat) (x_5 : Int) (x_6 : Int), GoO (crc_Add.cx A_3 c_4 w0 S0) [(5, .int .u32 x_5), (10, .slice A_3 b_2.length c_4), (11, .int .i64 (b_2.length : Int)), (12, .int .i64 x_6)] [] [Rd 0 Kd.u8 A_3 c_4 b_2] [.code c16_9, .inLoop c16_9, .inBlock 0, .code c16_36] (crc_Add.l0 n b_2 k x_5 x_6) := by
  intro k
  induction k with
  | zero => intros; rw [crc_Add.l0.eq_1]; exact GoO.stop
  | succ k ih0 =>
    intro x_5 x_6
    rw [crc_Add.l0.eq_2]
    refine GoO.seq' c16_9e ?_
    refine GoO.region' (is := [0]) c16_10e (by kernel_rfl) ?_
    refine GoO.exec (is := [0]) (hs := [.p]) (rest := []) (ks := [5, 10, 11, 12, 13]) (env' := [(5, .int .u32 x_5), (10, .slice A_3 b_2.length c_4), (11, .int .i64 (b_2.length : Int)), (12, .int .i64 x_6), (13, .bool (decide (x_6 < (b_2.length : Int))))]) (H' := []) (ps := []) (by kernel_rfl) trivial ?_
    refine GoO.regionEnd ?_
    refine GoO.seq' c16_11e ?_
    refine GoO.ite' c16_12e (by kernel_rfl) (fun h7 => ?_) (fun h7 => ?_)
    · refine GoO.skip' c16_13e ?_
      refine GoO.seq' c16_15e ?_
      refine GoO.block' c16_16e ?_
      refine GoO.seq' c16_17e ?_
      refine GoO.region' (is := [0, 1, 2]) c16_18e (by kernel_rfl) ?_
      refine GoO.guard (fun h8 => ?_)
      refine OpTo.go (GoO.idx (kk := .i64) (e := 5) (K := Kd.u8) (A := A_3) (c := c_4) (xs := b_2) (iv := x_6) (j := 0) rfl (by kernel_rfl) (by kernel_rfl) (by kernel_rfl) (by kernel_rfl) rfl Reads.rd rfl h8.1 h8.2 (by decide) rfl ?_)
      refine OpTo.go (GoO.ldE' (K := Kd.u8) (A := A_3) (c := c_4) (xs := b_2) (iN := x_6.toNat) (off := 0) (j := 0) rfl (by kernel_rfl) rfl Reads.rd (idx_lt h8.1 h8.2) (by decide) (Opn.flat _ _ _ _ _) (v := fun _ => .int .u8 (((rdL b_2 x_6)).toNat : Int)) (fun _ => by kernel_rfl) _ (fun _ => rfl) (fun _ => ?_))
      refine GoO.exec (is := [2]) (hs := [.p]) (rest := []) (ks := [5, 7, 10, 11, 12]) (env' := [(5, .int .u32 x_5), (7, .int .u8 (((rdL b_2 x_6)).toNat : Int)), (10, .slice A_3 b_2.length c_4), (11, .int .i64 (b_2.length : Int)), (12, .int .i64 x_6)]) (H' := []) (ps := []) (by kernel_rfl) trivial ?_
      refine GoO.regionEnd ?_
      refine GoO.seq' c16_19e ?_
      refine GoO.region' (is := [0, 1, 2, 3, 4]) c16_20e (by kernel_rfl) ?_
      refine GoO.exec (is := [0, 1, 2, 3, 4]) (hs := [.p, .p, .p, .p, .p]) (rest := []) (ks := [5, 10, 11, 12]) (env' := [(5, .int .u32 (bXor .u32 x_5 (wu32 (((rdL b_2 x_6)).toNat : Int)))), (10, .slice A_3 b_2.length c_4), (11, .int .i64 (b_2.length : Int)), (12, .int .i64 x_6)]) (H' := []) (ps := []) (by kernel_rfl) trivial ?_
      refine GoO.regionEnd ?_
      refine GoO.seq' c16_21e ?_
      refine GoO.region' (is := [0]) c16_22e (by kernel_rfl) ?_
      refine GoO.exec (is := [0]) (hs := [.p]) (rest := []) (ks := [5, 10, 11, 12, 20]) (env' := [(5, .int .u32 (bXor .u32 x_5 (wu32 (((rdL b_2 x_6)).toNat : Int)))), (10, .slice A_3 b_2.length c_4), (11, .int .i64 (b_2.length : Int)), (12, .int .i64 x_6), (20, .int .i64 0)]) (H' := []) (ps := []) (by kernel_rfl) trivial ?_
      refine GoO.regionEnd ?_
      refine GoO.block' c16_23e ?_
      refine GoO.loop' c16_24e ?_
      exact GoO.sub (ks := [5, 10, 11, 12, 20]) (hk := []) (bk := [0]) (by kernel_rfl) (by kernel_rfl) (by kernel_rfl) (crc_Add_l1_ok n (crc_Add.l0 n b_2 k) b_2 x_5 x_6 A_3 c_4 w0 S0 ih0 n (bXor .u32 x_5 (wu32 (((rdL b_2 x_6)).toNat : Int))) 0)
    · refine GoO.exit' c16_14e rfl ?_
      refine GoO.seq' c16_36e ?_
      refine GoO.region' (is := [0, 1, 2]) c16_37e (by kernel_rfl) ?_
      refine GoO.exec (is := [0, 1, 2]) (hs := [.p, .p, .p]) (rest := []) (ks := [4]) (env' := [(4, .int .u32 (bNot .u32 x_5))]) (H' := []) (ps := []) (by kernel_rfl) trivial ?_
      refine GoO.regionEnd ?_
      exact GoO.ret' (h := c16_38e) (hs := []) (ps := []) (hk := []) (bk := []) Try.func16 () (by kernel_rfl) trivial (by kernel_rfl) (by kernel_rfl)
theorem crc_Add_ok (n : Nat) (sum_1 : Int) (b_2 : (List UInt8)) (A_3 : Option Addr) (c_4 : Nat) :
    Meets Try.prog 16 [.int .u32 sum_1, .slice A_3 b_2.length c_4] 0 [] [] [Rd 0 Kd.u8 A_3 c_4 b_2] (crc_Add.f n sum_1 b_2) (crc_Add.R A_3 c_4) := by
  refine Meets.of (c := c16_0) (n := 33) Try.func16 (by kernel_rfl) (by kernel_rfl) (by kernel_rfl) fun w0 S0 => ?_
  unfold crc_Add.f
  show GoO (crc_Add.cx A_3 c_4 w0 S0) [(0, .int .u32 sum_1), (1, .slice A_3 b_2.length c_4)] [] [Rd 0 Kd.u8 A_3 c_4 b_2] [.code c16_0] _
  refine GoO.seq' c16_0e ?_
  refine GoO.region' (is := [0]) c16_1e (by kernel_rfl) ?_
  refine GoO.exec (is := [0]) (hs := [.p]) (rest := []) (ks := [0, 1]) (env' := [(0, .int .u32 sum_1), (1, .slice A_3 b_2.length c_4)]) (H' := []) (ps := []) (by kernel_rfl) trivial ?_
  refine GoO.regionEnd ?_
  refine GoO.seq' c16_2e ?_
  refine GoO.region' (is := [0, 1, 2]) c16_3e (by kernel_rfl) ?_
  refine GoO.exec (is := [0, 1, 2]) (hs := [.p, .p, .p]) (rest := []) (ks := [1, 5]) (env' := [(1, .slice A_3 b_2.length c_4), (5, .int .u32 (bNot .u32 sum_1))]) (H' := []) (ps := []) (by kernel_rfl) trivial ?_
  refine GoO.regionEnd ?_
  refine GoO.seq' c16_4e ?_
  refine GoO.seq' c16_5e ?_
  refine GoO.region' (is := [0, 1, 2]) c16_6e (by kernel_rfl) ?_
  refine GoO.exec (is := [0, 1, 2]) (hs := [.p, .p, .p]) (rest := []) (ks := [5, 10, 11, 12]) (env' := [(5, .int .u32 (bNot .u32 sum_1)), (10, .slice A_3 b_2.length c_4), (11, .int .i64 (b_2.length : Int)), (12, .int .i64 0)]) (H' := []) (ps := []) (by kernel_rfl) trivial ?_
  refine GoO.regionEnd ?_
  refine GoO.block' c16_7e ?_
  refine GoO.loop' c16_8e ?_
  exact GoO.sub (ks := [5, 10, 11, 12]) (hk := []) (bk := [0]) (by kernel_rfl) (by kernel_rfl) (by kernel_rfl) (crc_Add_l0_ok n b_2 A_3 c_4 w0 S0 n (bNot .u32 sum_1) 0)

/-! tontine/crc.Sum -/
noncomputable def c18_0 : Code := bodyOf Try.f18
noncomputable def c18_1 : Code := cdL c18_0
noncomputable def c18_2 : Code := cdR c18_0
noncomputable def c18_3 : Code := cdL c18_2
noncomputable def c18_4 : Code := cdR c18_2
noncomputable def r18_1 : Array Oper := cdO c18_1
noncomputable def r18_3 : Array Oper := cdO c18_3
theorem c18_0e : c18_0 = .seq c18_1 c18_2 := by kernel_rfl
theorem c18_1e : c18_1 = .region 0 r18_1 false := by kernel_rfl
theorem c18_2e : c18_2 = .seq c18_3 c18_4 := by kernel_rfl
theorem c18_3e : c18_3 = .region 1 r18_3 false := by kernel_rfl
theorem c18_4e : c18_4 = .ret := by kernel_rfl
noncomputable def crc_Sum.R (A_2 : Option Addr) (c_3 : Nat) : Pst Int where
  ε := Unit
  v := fun r x => .int .u32 r
  H := fun r x => []
  B := fun r x => []
noncomputable def crc_Sum.cx (A_2 : Option Addr) (c_3 : Nat) (w0 : World) (S0 : Fam) : Cx Int := ⟨Try.prog, 18, Try.f18, 5, w0, S0, [], 0, crc_Sum.R A_2 c_3⟩
theorem crc_Sum_ok (n : Nat) (b_1 : (List UInt8)) (A_2 : Option Addr) (c_3 : Nat) :
    Meets Try.prog 18 [.slice A_2 b_1.length c_3] 0 [] [] [Rd 0 Kd.u8 A_2 c_3 b_1] (crc_Sum.f n b_1) (crc_Sum.R A_2 c_3) := by
  refine Meets.of (c := c18_0) (n := 5) Try.func18 (by kernel_rfl) (by kernel_rfl) (by kernel_rfl) fun w0 S0 => ?_
  unfold crc_Sum.f
  show GoO (crc_Sum.cx A_2 c_3 w0 S0) [(0, .slice A_2 b_1.length c_3)] [] [Rd 0 Kd.u8 A_2 c_3 b_1] [.code c18_0] _
  refine GoO.seq' c18_0e ?_
  refine GoO.region' (is := [0]) c18_1e (by kernel_rfl) ?_
  refine GoO.exec (is := [0]) (hs := [.p]) (rest := []) (ks := [0]) (env' := [(0, .slice A_2 b_1.length c_3)]) (H' := []) (ps := []) (by kernel_rfl) trivial ?_
  refine GoO.regionEnd ?_
  refine GoO.seq' c18_2e ?_
  refine GoO.region' (is := [0, 1, 2]) c18_3e (by kernel_rfl) ?_
  refine GoO.exec (is := [0]) (hs := [.p]) (rest := [1, 2]) (ks := [3]) (env' := [(3, .slice A_2 b_1.length c_3)]) (H' := []) (ps := []) (by kernel_rfl) trivial ?_
  refine OpTo.go (GoO.call rfl (by kernel_rfl) (by kernel_rfl) (crc_Add_ok n 0 b_1 A_2 c_3) [[0]] [] [] [(0, 0)] (hks := []) (bks := [0]) (by kernel_rfl) (by kernel_rfl) (by kernel_rfl) (.inl rfl) rfl rfl (by kernel_rfl) (by kernel_rfl) _ (fun _ _ => rfl) _ _ (fun _ _ => rfl) (fun _ _ => rfl) (fun _ _ => by kernel_rfl) (fun _ _ => by kernel_rfl) (fun r_4 x_5 => ?_))
  refine GoO.shape (env' := [(3, .slice A_2 b_1.length c_3), (4, .int .u32 r_4)]) (H' := []) (B' := [Rd 0 Kd.u8 A_2 c_3 b_1]) (ks := [3, 4]) (by kernel_rfl) (by kernel_rfl) (by kernel_rfl) ?_
  refine GoO.exec (is := [2]) (hs := [.p]) (rest := []) (ks := [2]) (env' := [(2, .int .u32 r_4)]) (H' := []) (ps := []) (by kernel_rfl) trivial ?_
  refine GoO.regionEnd ?_
  exact GoO.ret' (h := c18_4e) (hs := []) (ps := []) (hk := []) (bk := []) Try.func18 () (by kernel_rfl) trivial (by kernel_rfl) (by kernel_rfl)

/-! tontine/tontinelaw02.begun -/
noncomputable def c15_0 : Code := bodyOf Try.f15
noncomputable def c15_1 : Code := cdL c15_0
noncomputable def c15_2 : Code := cdR c15_0
noncomputable def c15_3 : Code := cdL c15_2
noncomputable def c15_4 : Code := cdR c15_2
noncomputable def r15_1 : Array Oper := cdO c15_1
noncomputable def r15_3 : Array Oper := cdO c15_3
theorem c15_0e : c15_0 = .seq c15_1 c15_2 := by kernel_rfl
theorem c15_1e : c15_1 = .region 0 r15_1 false := by kernel_rfl
theorem c15_2e : c15_2 = .seq c15_3 c15_4 := by kernel_rfl
theorem c15_3e : c15_3 = .region 1 r15_3 false := by kernel_rfl
theorem c15_4e : c15_4 = .ret := by kernel_rfl
noncomputable def tontinelaw02_begun.R : Pst Bool where
  ε := Unit
  v := fun r x => .bool r
  H := fun r x => []
  B := fun r x => []
noncomputable def tontinelaw02_begun.cx (w0 : World) (S0 : Fam) : Cx Bool := ⟨Try.prog, 15, Try.f15, 9, w0, S0, [], 0, tontinelaw02_begun.R⟩
theorem tontinelaw02_begun_ok (n : Nat) :
    Meets Try.prog 15 [] 0 [] [] [] (tontinelaw02_begun.f n) (tontinelaw02_begun.R) := by
  refine Meets.of (c := c15_0) (n := 9) Try.func15 (by kernel_rfl) (by kernel_rfl) (by kernel_rfl) fun w0 S0 => ?_
  unfold tontinelaw02_begun.f
  show GoO (tontinelaw02_begun.cx w0 S0) [] [] [] [.code c15_0] _
  refine GoO.seq' c15_0e ?_
  refine GoO.region' (is := [0]) c15_1e (by kernel_rfl) ?_
  refine GoO.exec (is := [0]) (hs := [.p]) (rest := []) (ks := []) (env' := []) (H' := []) (ps := []) (by kernel_rfl) trivial ?_
  refine GoO.regionEnd ?_
  refine GoO.seq' c15_2e ?_
  refine GoO.region' (is := [0, 1, 2, 3, 4, 5, 6, 7, 8]) c15_3e (by kernel_rfl) ?_
  refine OpTo.go (GoO.lit (e := 5) (K := Kd.u8) rfl (by kernel_rfl) (by kernel_rfl) (cs := [.int .u8 49, .int .u8 50, .int .u8 51, .int .u8 52, .int .u8 53, .int .u8 54, .int .u8 55, .int .u8 56, .int .u8 57]) (by kernel_rfl) [(49 : UInt8), (50 : UInt8), (51 : UInt8), (52 : UInt8), (53 : UInt8), (54 : UInt8), (55 : UInt8), (56 : UInt8), (57 : UInt8)] (by kernel_rfl) (by kernel_rfl) (fun w S hB => ⟨[.int .u8 49], _, rfl, rfl, ⟨[.int .u8 50], _, rfl, rfl, ⟨[.int .u8 51], _, rfl, rfl, ⟨[.int .u8 52], _, rfl, rfl, ⟨[.int .u8 53], _, rfl, rfl, ⟨[.int .u8 54], _, rfl, rfl, ⟨[.int .u8 55], _, rfl, rfl, ⟨[.int .u8 56], _, rfl, rfl, ⟨[.int .u8 57], _, rfl, rfl, rfl⟩⟩⟩⟩⟩⟩⟩⟩⟩) 40 _ (fun _ _ => rfl) (fun A_1 c_2 => ?_))
  refine OpTo.go (GoO.markS (e := 5) (A := A_1) (c := c_2) (n := [(49 : UInt8), (50 : UInt8), (51 : UInt8), (52 : UInt8), (53 : UInt8), (54 : UInt8), (55 : UInt8), (56 : UInt8), (57 : UInt8)].length) (xs := [(49 : UInt8), (50 : UInt8), (51 : UInt8), (52 : UInt8), (53 : UInt8), (54 : UInt8), (55 : UInt8), (56 : UInt8), (57 : UInt8)]) (j := 0) (tg := 40) (bk := []) rfl (by kernel_rfl) (by kernel_rfl) (by kernel_rfl) (by kernel_rfl) rfl (by kernel_rfl) (by kernel_rfl) rfl (by kernel_rfl) rfl ?_)
  refine GoO.retag (t := 40) (u := 0) (j := 0) (hk := []) (bk := []) rfl rfl rfl rfl rfl rfl (by kernel_rfl) (by kernel_rfl) ?_
  refine OpTo.go (GoO.call rfl (by kernel_rfl) (by kernel_rfl) (crc_Sum_ok n [(49 : UInt8), (50 : UInt8), (51 : UInt8), (52 : UInt8), (53 : UInt8), (54 : UInt8), (55 : UInt8), (56 : UInt8), (57 : UInt8)] A_1 c_2) [[0]] [] [] [(0, 0)] (hks := []) (bks := [0]) (by kernel_rfl) (by kernel_rfl) (by kernel_rfl) (.inl rfl) rfl rfl (by kernel_rfl) (by kernel_rfl) _ (fun _ _ => rfl) _ _ (fun _ _ => rfl) (fun _ _ => rfl) (fun _ _ => by kernel_rfl) (fun _ _ => by kernel_rfl) (fun r_3 x_7 => ?_))
  refine GoO.shape (env' := [(1, .slice A_1 [(49 : UInt8), (50 : UInt8), (51 : UInt8), (52 : UInt8), (53 : UInt8), (54 : UInt8), (55 : UInt8), (56 : UInt8), (57 : UInt8)].length c_2), (2, .slice A_1 [(49 : UInt8), (50 : UInt8), (51 : UInt8), (52 : UInt8), (53 : UInt8), (54 : UInt8), (55 : UInt8), (56 : UInt8), (57 : UInt8)].length c_2), (3, .int .u32 r_3)]) (H' := []) (B' := [Rd 0 Kd.u8 A_1 c_2 [(49 : UInt8), (50 : UInt8), (51 : UInt8), (52 : UInt8), (53 : UInt8), (54 : UInt8), (55 : UInt8), (56 : UInt8), (57 : UInt8)]]) (ks := [1, 2, 3]) (by kernel_rfl) (by kernel_rfl) (by kernel_rfl) ?_
  refine GoO.exec (is := [3, 4]) (hs := [.p, .p]) (rest := [5, 6, 7, 8]) (ks := [5]) (env' := [(5, .bool (r_3 == 3808858755))]) (H' := []) (ps := []) (by kernel_rfl) trivial ?_
  refine GoO.bsplit (t := 5) (by kernel_rfl) (fun h4 => ?_) (fun h4 => ?_)
  · refine GoO.nilRd Kd.u8 ?_
    refine OpTo.go (GoO.call rfl (by kernel_rfl) (by kernel_rfl) (crc_Sum_ok n ([] : List UInt8) none 0) [[0]] [] [] [(0, 0)] (hks := []) (bks := [0, 1]) (by kernel_rfl) (by kernel_rfl) (by kernel_rfl) (.inl rfl) rfl rfl (by kernel_rfl) (by kernel_rfl) _ (fun _ _ => rfl) _ _ (fun _ _ => rfl) (fun _ _ => rfl) (fun _ _ => by kernel_rfl) (fun _ _ => by kernel_rfl) (fun r_5 x_6 => ?_))
    refine GoO.shape (env' := [(5, .bool true), (6, .int .u32 r_5)]) (H' := []) (B' := [Rd 0 Kd.u8 none 0 ([] : List UInt8), Rd 0 Kd.u8 A_1 c_2 [(49 : UInt8), (50 : UInt8), (51 : UInt8), (52 : UInt8), (53 : UInt8), (54 : UInt8), (55 : UInt8), (56 : UInt8), (57 : UInt8)]]) (ks := [5, 6]) (by kernel_rfl) (by kernel_rfl) (by kernel_rfl) ?_
    refine GoO.exec (is := [6, 7, 8]) (hs := [.p, .p, .p]) (rest := []) (ks := [0]) (env' := [(0, .bool (r_5 == 0))]) (H' := []) (ps := []) (by kernel_rfl) trivial ?_
    refine GoO.regionEnd ?_
    exact GoO.ret' (h := c15_4e) (hs := []) (ps := []) (hk := []) (bk := []) Try.func15 () (by kernel_rfl) trivial (by kernel_rfl) (by kernel_rfl)
  · refine GoO.exec (is := [5, 6, 7, 8]) (hs := [.p, .p, .p, .p]) (rest := []) (ks := [0]) (env' := [(0, .bool false)]) (H' := []) (ps := []) (by kernel_rfl) trivial ?_
    refine GoO.regionEnd ?_
    exact GoO.ret' (h := c15_4e) (hs := []) (ps := []) (hk := []) (bk := []) Try.func15 () (by kernel_rfl) trivial (by kernel_rfl) (by kernel_rfl)

/-! tontine/tontineref02.half -/
noncomputable def c26_0 : Code := bodyOf Try.f26
noncomputable def c26_1 : Code := cdL c26_0
noncomputable def c26_2 : Code := cdR c26_0
noncomputable def c26_3 : Code := cdL c26_2
noncomputable def c26_4 : Code := cdL c26_3
noncomputable def c26_5 : Code := cdR c26_3
noncomputable def c26_6 : Code := cdL c26_5
noncomputable def c26_7 : Code := cdL c26_6
noncomputable def c26_8 : Code := cdR c26_6
noncomputable def c26_9 : Code := cdR c26_5
noncomputable def c26_10 : Code := cdR c26_2
noncomputable def c26_11 : Code := cdL c26_10
noncomputable def c26_12 : Code := cdR c26_10
noncomputable def r26_1 : Array Oper := cdO c26_1
noncomputable def r26_4 : Array Oper := cdO c26_4
noncomputable def r26_7 : Array Oper := cdO c26_7
noncomputable def r26_11 : Array Oper := cdO c26_11
theorem c26_0e : c26_0 = .seq c26_1 c26_2 := by kernel_rfl
theorem c26_1e : c26_1 = .region 0 r26_1 false := by kernel_rfl
theorem c26_2e : c26_2 = .seq c26_3 c26_10 := by kernel_rfl
theorem c26_3e : c26_3 = .seq c26_4 c26_5 := by kernel_rfl
theorem c26_4e : c26_4 = .region 1 r26_4 false := by kernel_rfl
theorem c26_5e : c26_5 = .cond (cdC c26_5) c26_6 c26_9 := by kernel_rfl
theorem c26_6e : c26_6 = .seq c26_7 c26_8 := by kernel_rfl
theorem c26_7e : c26_7 = .region 2 r26_7 false := by kernel_rfl
theorem c26_8e : c26_8 = .ret := by kernel_rfl
theorem c26_9e : c26_9 = .skip := by kernel_rfl
theorem c26_10e : c26_10 = .seq c26_11 c26_12 := by kernel_rfl
theorem c26_11e : c26_11 = .region 3 r26_11 false := by kernel_rfl
theorem c26_12e : c26_12 = .ret := by kernel_rfl
noncomputable def tontineref02_half.R : Pst Int where
  ε := Unit
  v := fun r x => .int .u32 r
  H := fun r x => []
  B := fun r x => []
noncomputable def tontineref02_half.cx (w0 : World) (S0 : Fam) : Cx Int := ⟨Try.prog, 26, Try.f26, 11, w0, S0, [], 0, tontineref02_half.R⟩
theorem tontineref02_half_ok (n : Nat) (x_1 : Int) :
    Meets Try.prog 26 [.int .u32 x_1] 0 [] [] [] (tontineref02_half.f n x_1) (tontineref02_half.R) := by
  refine Meets.of (c := c26_0) (n := 11) Try.func26 (by kernel_rfl) (by kernel_rfl) (by kernel_rfl) fun w0 S0 => ?_
  unfold tontineref02_half.f
  show GoO (tontineref02_half.cx w0 S0) [(0, .int .u32 x_1)] [] [] [.code c26_0] _
  refine GoO.seq' c26_0e ?_
  refine GoO.region' (is := [0]) c26_1e (by kernel_rfl) ?_
  refine GoO.exec (is := [0]) (hs := [.p]) (rest := []) (ks := [0]) (env' := [(0, .int .u32 x_1)]) (H' := []) (ps := []) (by kernel_rfl) trivial ?_
  refine GoO.regionEnd ?_
  refine GoO.seq' c26_2e ?_
  refine GoO.seq' c26_3e ?_
  refine GoO.region' (is := [0, 1, 2]) c26_4e (by kernel_rfl) ?_
  refine GoO.exec (is := [0, 1, 2]) (hs := [.p, .p, .p]) (rest := []) (ks := [0, 5]) (env' := [(0, .int .u32 x_1), (5, .bool ((x_1.tmod 2) == 1))]) (H' := []) (ps := [(2 : Int) ≠ 0]) (by kernel_rfl) (And.intro (by decide) trivial) ?_
  refine GoO.regionEnd ?_
  refine GoO.ite' c26_5e (by kernel_rfl) (fun h2 => ?_) (fun h2 => ?_)
  · refine GoO.seq' c26_6e ?_
    refine GoO.region' (is := [0, 1, 2, 3]) c26_7e (by kernel_rfl) ?_
    refine GoO.exec (is := [0, 1, 2, 3]) (hs := [.p, .p, .p, .p]) (rest := []) (ks := [2]) (env' := [(2, .int .u32 (bXor .u32 (wu32 (x_1.tdiv 2)) 2197175160))]) (H' := []) (ps := [(2 : Int) ≠ 0]) (by kernel_rfl) (And.intro (by decide) trivial) ?_
    refine GoO.regionEnd ?_
    exact GoO.ret' (h := c26_8e) (hs := []) (ps := []) (hk := []) (bk := []) Try.func26 () (by kernel_rfl) trivial (by kernel_rfl) (by kernel_rfl)
  · refine GoO.skip' c26_9e ?_
    refine GoO.seq' c26_10e ?_
    refine GoO.region' (is := [0, 1, 2]) c26_11e (by kernel_rfl) ?_
    refine GoO.exec (is := [0, 1, 2]) (hs := [.p, .p, .p]) (rest := []) (ks := [2]) (env' := [(2, .int .u32 (wu32 (x_1.tdiv 2)))]) (H' := []) (ps := [(2 : Int) ≠ 0]) (by kernel_rfl) (And.intro (by decide) trivial) ?_
    refine GoO.regionEnd ?_
    exact GoO.ret' (h := c26_12e) (hs := []) (ps := []) (hk := []) (bk := []) Try.func26 () (by kernel_rfl) trivial (by kernel_rfl) (by kernel_rfl)

/-! tontine/tontineref02.Add -/
noncomputable def c17_0 : Code := bodyOf Try.f17
noncomputable def c17_1 : Code := cdL c17_0
noncomputable def c17_2 : Code := cdR c17_0
noncomputable def c17_3 : Code := cdL c17_2
noncomputable def c17_4 : Code := cdR c17_2
noncomputable def c17_5 : Code := cdL c17_4
noncomputable def c17_6 : Code := cdL c17_5
noncomputable def c17_7 : Code := cdR c17_5
noncomputable def c17_8 : Code := cdL c17_7
noncomputable def c17_9 : Code := cdL c17_8
noncomputable def c17_10 : Code := cdL c17_9
noncomputable def c17_11 : Code := cdL c17_10
noncomputable def c17_12 : Code := cdR c17_10
noncomputable def c17_13 : Code := cdL c17_12
noncomputable def c17_14 : Code := cdR c17_12
noncomputable def c17_15 : Code := cdR c17_9
noncomputable def c17_16 : Code := cdL c17_15
noncomputable def c17_17 : Code := cdL c17_16
noncomputable def c17_18 : Code := cdL c17_17
noncomputable def c17_19 : Code := cdR c17_17
noncomputable def c17_20 : Code := cdL c17_19
noncomputable def c17_21 : Code := cdR c17_19
noncomputable def c17_22 : Code := cdL c17_21
noncomputable def c17_23 : Code := cdL c17_22
noncomputable def c17_24 : Code := cdL c17_23
noncomputable def c17_25 : Code := cdL c17_24
noncomputable def c17_26 : Code := cdR c17_24
noncomputable def c17_27 : Code := cdL c17_26
noncomputable def c17_28 : Code := cdR c17_26
noncomputable def c17_29 : Code := cdR c17_23
noncomputable def c17_30 : Code := cdL c17_29
noncomputable def c17_31 : Code := cdL c17_30
noncomputable def c17_32 : Code := cdR c17_29
noncomputable def c17_33 : Code := cdR c17_15
noncomputable def c17_34 : Code := cdR c17_4
noncomputable def c17_35 : Code := cdL c17_34
noncomputable def c17_36 : Code := cdR c17_34
noncomputable def r17_1 : Array Oper := cdO c17_1
noncomputable def r17_3 : Array Oper := cdO c17_3
noncomputable def r17_6 : Array Oper := cdO c17_6
noncomputable def r17_11 : Array Oper := cdO c17_11
noncomputable def r17_18 : Array Oper := cdO c17_18
noncomputable def r17_20 : Array Oper := cdO c17_20
noncomputable def r17_25 : Array Oper := cdO c17_25
noncomputable def r17_31 : Array Oper := cdO c17_31
noncomputable def r17_32 : Array Oper := cdO c17_32
noncomputable def r17_33 : Array Oper := cdO c17_33
noncomputable def r17_35 : Array Oper := cdO c17_35
theorem c17_0e : c17_0 = .seq c17_1 c17_2 := by kernel_rfl
theorem c17_1e : c17_1 = .region 0 r17_1 false := by kernel_rfl
theorem c17_2e : c17_2 = .seq c17_3 c17_4 := by kernel_rfl
theorem c17_3e : c17_3 = .region 1 r17_3 false := by kernel_rfl
theorem c17_4e : c17_4 = .seq c17_5 c17_34 := by kernel_rfl
theorem c17_5e : c17_5 = .seq c17_6 c17_7 := by kernel_rfl
theorem c17_6e : c17_6 = .region 2 r17_6 false := by kernel_rfl
theorem c17_7e : c17_7 = .block 0 c17_8 := by kernel_rfl
theorem c17_8e : c17_8 = .loop c17_9 := by kernel_rfl
theorem c17_9e : c17_9 = .seq c17_10 c17_15 := by kernel_rfl
theorem c17_10e : c17_10 = .seq c17_11 c17_12 := by kernel_rfl
theorem c17_11e : c17_11 = .region 3 r17_11 false := by kernel_rfl
theorem c17_12e : c17_12 = .cond (cdC c17_12) c17_13 c17_14 := by kernel_rfl
theorem c17_13e : c17_13 = .skip := by kernel_rfl
theorem c17_14e : c17_14 = .exit 0 := by kernel_rfl
theorem c17_15e : c17_15 = .seq c17_16 c17_33 := by kernel_rfl
theorem c17_16e : c17_16 = .block 1 c17_17 := by kernel_rfl
theorem c17_17e : c17_17 = .seq c17_18 c17_19 := by kernel_rfl
theorem c17_18e : c17_18 = .region 5 r17_18 false := by kernel_rfl
theorem c17_19e : c17_19 = .seq c17_20 c17_21 := by kernel_rfl
theorem c17_20e : c17_20 = .region 6 r17_20 false := by kernel_rfl
theorem c17_21e : c17_21 = .block 2 c17_22 := by kernel_rfl
theorem c17_22e : c17_22 = .loop c17_23 := by kernel_rfl
theorem c17_23e : c17_23 = .seq c17_24 c17_29 := by kernel_rfl
theorem c17_24e : c17_24 = .seq c17_25 c17_26 := by kernel_rfl
theorem c17_25e : c17_25 = .region 7 r17_25 false := by kernel_rfl
theorem c17_26e : c17_26 = .cond (cdC c17_26) c17_27 c17_28 := by kernel_rfl
theorem c17_27e : c17_27 = .skip := by kernel_rfl
theorem c17_28e : c17_28 = .exit 2 := by kernel_rfl
theorem c17_29e : c17_29 = .seq c17_30 c17_32 := by kernel_rfl
theorem c17_30e : c17_30 = .block 3 c17_31 := by kernel_rfl
theorem c17_31e : c17_31 = .region 9 r17_31 false := by kernel_rfl
theorem c17_32e : c17_32 = .region 8 r17_32 false := by kernel_rfl
theorem c17_33e : c17_33 = .region 4 r17_33 false := by kernel_rfl
theorem c17_34e : c17_34 = .seq c17_35 c17_36 := by kernel_rfl
theorem c17_35e : c17_35 = .region 10 r17_35 false := by kernel_rfl
theorem c17_36e : c17_36 = .ret := by kernel_rfl
noncomputable def tontineref02_Add.R (A_3 : Option Addr) (c_4 : Nat) : Pst Int where
  ε := Unit
  v := fun r x => .int .u32 r
  H := fun r x => []
  B := fun r x => []
noncomputable def tontineref02_Add.cx (A_3 : Option Addr) (c_4 : Nat) (w0 : World) (S0 : Fam) : Cx Int := ⟨Try.prog, 17, Try.f17, 31, w0, S0, [], 0, tontineref02_Add.R A_3 c_4⟩
theorem tontineref02_Add_l1_ok (n : Nat) (L0 : Int → Int → Option Int) (b_2 : (List UInt8)) (x_5 : Int) (i_6 : Int) (A_3 : Option Addr) (c_4 : Nat) (w0 : World) (S0 : Fam) (ih0 : ∀ (x_5 : Int) (i_6 : Int), GoO (tontineref02_Add.cx A_3 c_4 w0 S0) [(1, .slice A_3 b_2.length c_4), (5, .int .u32 x_5), (6, .int .i64 i_6)] [] [Rd 0 Kd.u8 A_3 c_4 b_2] [.code c17_9, .inLoop c17_9, .inBlock 0, .code c17_34] (L0 x_5 i_6)) :
    ∀ (k : Nat) (x_9 : Int) (k_10 : Int), GoO (tontineref02_Add.cx A_3 c_4 w0 S0) [(1, .slice A_3 b_2.length c_4), (5, .int .u32 x_9), (6, .int .i64 i_6), (7, .int .i64 k_10)] [] [Rd 0 Kd.u8 A_3 c_4 b_2] [.code c17_23, .inLoop c17_23, .inBlock 2, .inBlock 1, .code c17_33, .inLoop c17_9, .inBlock 0, .code c17_34] (tontineref02_Add.l1 n L0 i_6 k x_9 k_10) := by
  intro k
  induction k with
  | zero => intros; rw [tontineref02_Add.l1.eq_1]; exact GoO.stop
  | succ k ih1 =>
    intro x_9 k_10
    rw [tontineref02_Add.l1.eq_2]
    refine GoO.seq' c17_23e ?_
    refine GoO.seq' c17_24e ?_
    refine GoO.region' (is := [0, 1]) c17_25e (by kernel_rfl) ?_
    refine GoO.exec (is := [0, 1]) (hs := [.p, .p]) (rest := []) (ks := [1, 5, 6, 7, 24]) (env' := [(1, .slice A_3 b_2.length c_4), (5, .int .u32 x_9), (6, .int .i64 i_6), (7, .int .i64 k_10), (24, .bool (decide (k_10 < 8)))]) (H' := []) (ps := []) (by kernel_rfl) trivial ?_
    refine GoO.regionEnd ?_
    refine GoO.ite' c17_26e (by kernel_rfl) (fun h11 => ?_) (fun h11 => ?_)
    · refine GoO.skip' c17_27e ?_
      refine GoO.seq' c17_29e ?_
      refine GoO.block' c17_30e ?_
      refine GoO.region' (is := [0, 1, 2]) c17_31e (by kernel_rfl) ?_
      refine GoO.exec (is := [0]) (hs := [.p]) (rest := [1, 2]) (ks := [1, 6, 7, 27]) (env' := [(1, .slice A_3 b_2.length c_4), (6, .int .i64 i_6), (7, .int .i64 k_10), (27, .int .u32 x_9)]) (H' := []) (ps := []) (by kernel_rfl) trivial ?_
      refine OpTo.go (GoO.call rfl (by kernel_rfl) (by kernel_rfl) (tontineref02_half_ok n x_9) [[0]] [] [] [] (hks := []) (bks := [0]) (by kernel_rfl) (by kernel_rfl) (by kernel_rfl) (.inl rfl) rfl rfl (by kernel_rfl) (by kernel_rfl) _ (fun _ _ => rfl) _ _ (fun _ _ => rfl) (fun _ _ => rfl) (fun _ _ => by kernel_rfl) (fun _ _ => by kernel_rfl) (fun r_12 x_13 => ?_))
      refine GoO.shape (env' := [(1, .slice A_3 b_2.length c_4), (6, .int .i64 i_6), (7, .int .i64 k_10), (27, .int .u32 x_9), (28, .int .u32 r_12)]) (H' := []) (B' := [Rd 0 Kd.u8 A_3 c_4 b_2]) (ks := [1, 6, 7, 27, 28]) (by kernel_rfl) (by kernel_rfl) (by kernel_rfl) ?_
      refine GoO.exec (is := [2]) (hs := [.p]) (rest := []) (ks := [1, 5, 6, 7]) (env' := [(1, .slice A_3 b_2.length c_4), (5, .int .u32 r_12), (6, .int .i64 i_6), (7, .int .i64 k_10)]) (H' := []) (ps := []) (by kernel_rfl) trivial ?_
      refine GoO.regionEnd ?_
      refine GoO.inBlock ?_
      refine GoO.region' (is := [0, 1, 2]) c17_32e (by kernel_rfl) ?_
      refine GoO.exec (is := [0, 1, 2]) (hs := [.p, .p, .p]) (rest := []) (ks := [1, 5, 6, 7]) (env' := [(1, .slice A_3 b_2.length c_4), (5, .int .u32 r_12), (6, .int .i64 i_6), (7, .int .i64 (wi64 (k_10 + 1)))]) (H' := []) (ps := []) (by kernel_rfl) trivial ?_
      refine GoO.regionEnd ?_
      refine GoO.inLoop ?_
      exact GoO.sub (ks := [1, 5, 6, 7]) (hk := []) (bk := [0]) (by kernel_rfl) (by kernel_rfl) (by kernel_rfl) (ih1 r_12 (wi64 (k_10 + 1)))
    · refine GoO.exit' c17_28e rfl ?_
      refine GoO.inBlock ?_
      refine GoO.region' (is := [0, 1, 2]) c17_33e (by kernel_rfl) ?_
      refine GoO.exec (is := [0, 1, 2]) (hs := [.p, .p, .p]) (rest := []) (ks := [1, 5, 6]) (env' := [(1, .slice A_3 b_2.length c_4), (5, .int .u32 x_9), (6, .int .i64 (wi64 (i_6 + 1)))]) (H' := []) (ps := []) (by kernel_rfl) trivial ?_
      refine GoO.regionEnd ?_
      refine GoO.inLoop ?_
      exact GoO.sub (ks := [1, 5, 6]) (hk := []) (bk := [0]) (by kernel_rfl) (by kernel_rfl) (by kernel_rfl) (ih0 x_9 (wi64 (i_6 + 1)))
theorem tontineref02_Add_l0_ok (n : Nat) (b_2 : (List UInt8)) (A_3 : Option Addr) (c_4 : Nat) (w0 : World) (S0 : Fam) :
    ∀ (k : Nat) (x_5 : Int) (i_6 : Int), GoO (tontineref02_Add.cx A_3 c_4 w0 S0) [(1, .slice A_3 b_2.length c_4), (5, .int .u32 x_5), (6, .int .i64 i_6)] [] [Rd 0 Kd.u8 A_3 c_4 b_2] [.code c17_9, .inLoop c17_9, .inBlock 0, .code c17_34] (tontineref02_Add.l0 n b_2 k x_5 i_6) := by
  intro k
  induction k with
  | zero => intros; rw [tontineref02_Add.l0.eq_1]; exact GoO.stop
  | succ k ih0 =>
    intro x_5 i_6
    rw [tontineref02_Add.l0.eq_2]
    refine GoO.seq' c17_9e ?_
    refine GoO.seq' c17_10e ?_
    refine GoO.region' (is := [0, 1, 2, 3]) c17_11e (by kernel_rfl) ?_
    refine GoO.exec (is := [0, 1, 2, 3]) (hs := [.p, .p, .p, .p]) (rest := []) (ks := [1, 5, 6, 13]) (env' := [(1, .slice A_3 b_2.length c_4), (5, .int .u32 x_5), (6, .int .i64 i_6), (13, .bool (decide (i_6 < (b_2.length : Int))))]) (H' := []) (ps := []) (by kernel_rfl) trivial ?_
    refine GoO.regionEnd ?_
    refine GoO.ite' c17_12e (by kernel_rfl) (fun h7 => ?_) (fun h7 => ?_)
    · refine GoO.skip' c17_13e ?_
      refine GoO.seq' c17_15e ?_
      refine GoO.block' c17_16e ?_
      refine GoO.seq' c17_17e ?_
      refine GoO.region' (is := [0, 1, 2, 3, 4, 5, 6, 7]) c17_18e (by kernel_rfl) ?_
      refine GoO.exec (is := [0, 1, 2]) (hs := [.p, .p, .p]) (rest := [3, 4, 5, 6, 7]) (ks := [1, 6, 16, 17, 18]) (env' := [(1, .slice A_3 b_2.length c_4), (6, .int .i64 i_6), (16, .int .u32 x_5), (17, .slice A_3 b_2.length c_4), (18, .int .i64 i_6)]) (H' := []) (ps := []) (by kernel_rfl) trivial ?_
      refine GoO.guard (fun h8 => ?_)
      refine OpTo.go (GoO.idx (kk := .i64) (e := 5) (K := Kd.u8) (A := A_3) (c := c_4) (xs := b_2) (iv := i_6) (j := 0) rfl (by kernel_rfl) (by kernel_rfl) (by kernel_rfl) (by kernel_rfl) rfl Reads.rd rfl h8.1 h8.2 (by decide) rfl ?_)
      refine OpTo.go (GoO.ldE' (K := Kd.u8) (A := A_3) (c := c_4) (xs := b_2) (iN := i_6.toNat) (off := 0) (j := 0) rfl (by kernel_rfl) rfl Reads.rd (idx_lt h8.1 h8.2) (by decide) (Opn.flat _ _ _ _ _) (v := fun _ => .int .u8 (((rdL b_2 i_6)).toNat : Int)) (fun _ => by kernel_rfl) _ (fun _ => rfl) (fun _ => ?_))
      refine GoO.exec (is := [5, 6, 7]) (hs := [.p, .p, .p]) (rest := []) (ks := [1, 5, 6]) (env' := [(1, .slice A_3 b_2.length c_4), (5, .int .u32 (bXor .u32 x_5 (wu32 (((rdL b_2 i_6)).toNat : Int)))), (6, .int .i64 i_6)]) (H' := []) (ps := []) (by kernel_rfl) trivial ?_
      refine GoO.regionEnd ?_
      refine GoO.seq' c17_19e ?_
      refine GoO.region' (is := [0]) c17_20e (by kernel_rfl) ?_
      refine GoO.exec (is := [0]) (hs := [.p]) (rest := []) (ks := [1, 5, 6, 7]) (env' := [(1, .slice A_3 b_2.length c_4), (5, .int .u32 (bXor .u32 x_5 (wu32 (((rdL b_2 i_6)).toNat : Int)))), (6, .int .i64 i_6), (7, .int .i64 0)]) (H' := []) (ps := []) (by kernel_rfl) trivial ?_
      refine GoO.regionEnd ?_
      refine GoO.block' c17_21e ?_
      refine GoO.loop' c17_22e ?_
      exact GoO.sub (ks := [1, 5, 6, 7]) (hk := []) (bk := [0]) (by kernel_rfl) (by kernel_rfl) (by kernel_rfl) (tontineref02_Add_l1_ok n (tontineref02_Add.l0 n b_2 k) b_2 x_5 i_6 A_3 c_4 w0 S0 ih0 n (bXor .u32 x_5 (wu32 (((rdL b_2 i_6)).toNat : Int))) 0)
    · refine GoO.exit' c17_14e rfl ?_
      refine GoO.seq' c17_34e ?_
      refine GoO.region' (is := [0, 1, 2]) c17_35e (by kernel_rfl) ?_
      refine GoO.exec (is := [0, 1, 2]) (hs := [.p, .p, .p]) (rest := []) (ks := [4]) (env' := [(4, .int .u32 (wu32 (4294967295 - x_5)))]) (H' := []) (ps := []) (by kernel_rfl) trivial ?_
      refine GoO.regionEnd ?_
      exact GoO.ret' (h := c17_36e) (hs := []) (ps := []) (hk := []) (bk := []) Try.func17 () (by kernel_rfl) trivial (by kernel_rfl) (by kernel_rfl)
theorem tontineref02_Add_ok (n : Nat) (sum_1 : Int) (b_2 : (List UInt8)) (A_3 : Option Addr) (c_4 : Nat) :
    Meets Try.prog 17 [.int .u32 sum_1, .slice A_3 b_2.length c_4] 0 [] [] [Rd 0 Kd.u8 A_3 c_4 b_2] (tontineref02_Add.f n sum_1 b_2) (tontineref02_Add.R A_3 c_4) := by
  refine Meets.of (c := c17_0) (n := 31) Try.func17 (by kernel_rfl) (by kernel_rfl) (by kernel_rfl) fun w0 S0 => ?_
  unfold tontineref02_Add.f
  show GoO (tontineref02_Add.cx A_3 c_4 w0 S0) [(0, .int .u32 sum_1), (1, .slice A_3 b_2.length c_4)] [] [Rd 0 Kd.u8 A_3 c_4 b_2] [.code c17_0] _
  refine GoO.seq' c17_0e ?_
  refine GoO.region' (is := [0]) c17_1e (by kernel_rfl) ?_
  refine GoO.exec (is := [0]) (hs := [.p]) (rest := []) (ks := [0, 1]) (env' := [(0, .int .u32 sum_1), (1, .slice A_3 b_2.length c_4)]) (H' := []) (ps := []) (by kernel_rfl) trivial ?_
  refine GoO.regionEnd ?_
  refine GoO.seq' c17_2e ?_
  refine GoO.region' (is := [0, 1, 2]) c17_3e (by kernel_rfl) ?_
  refine GoO.exec (is := [0, 1, 2]) (hs := [.p, .p, .p]) (rest := []) (ks := [1, 5]) (env' := [(1, .slice A_3 b_2.length c_4), (5, .int .u32 (wu32 (4294967295 - sum_1)))]) (H' := []) (ps := []) (by kernel_rfl) trivial ?_
  refine GoO.regionEnd ?_
  refine GoO.seq' c17_4e ?_
  refine GoO.seq' c17_5e ?_
  refine GoO.region' (is := [0]) c17_6e (by kernel_rfl) ?_
  refine GoO.exec (is := [0]) (hs := [.p]) (rest := []) (ks := [1, 5, 6]) (env' := [(1, .slice A_3 b_2.length c_4), (5, .int .u32 (wu32 (4294967295 - sum_1))), (6, .int .i64 0)]) (H' := []) (ps := []) (by kernel_rfl) trivial ?_
  refine GoO.regionEnd ?_
  refine GoO.block' c17_7e ?_
  refine GoO.loop' c17_8e ?_
  exact GoO.sub (ks := [1, 5, 6]) (hk := []) (bk := [0]) (by kernel_rfl) (by kernel_rfl) (by kernel_rfl) (tontineref02_Add_l0_ok n b_2 A_3 c_4 w0 S0 n (wu32 (4294967295 - sum_1)) 0)

/-! tontine/tontinelaw02.CrcSums -/
noncomputable def c3_0 : Code := bodyOf Try.f3
noncomputable def c3_1 : Code := cdL c3_0
noncomputable def c3_2 : Code := cdR c3_0
noncomputable def c3_3 : Code := cdL c3_2
noncomputable def c3_4 : Code := cdL c3_3
noncomputable def c3_5 : Code := cdR c3_3
noncomputable def c3_6 : Code := cdL c3_5
noncomputable def c3_7 : Code := cdL c3_6
noncomputable def c3_8 : Code := cdR c3_6
noncomputable def c3_9 : Code := cdR c3_5
noncomputable def c3_10 : Code := cdR c3_2
noncomputable def c3_11 : Code := cdL c3_10
noncomputable def c3_12 : Code := cdR c3_10
noncomputable def r3_1 : Array Oper := cdO c3_1
noncomputable def r3_4 : Array Oper := cdO c3_4
noncomputable def r3_7 : Array Oper := cdO c3_7
noncomputable def r3_11 : Array Oper := cdO c3_11
theorem c3_0e : c3_0 = .seq c3_1 c3_2 := by kernel_rfl
theorem c3_1e : c3_1 = .region 0 r3_1 false := by kernel_rfl
theorem c3_2e : c3_2 = .seq c3_3 c3_10 := by kernel_rfl
theorem c3_3e : c3_3 = .seq c3_4 c3_5 := by kernel_rfl
theorem c3_4e : c3_4 = .region 1 r3_4 false := by kernel_rfl
theorem c3_5e : c3_5 = .cond (cdC c3_5) c3_6 c3_9 := by kernel_rfl
theorem c3_6e : c3_6 = .seq c3_7 c3_8 := by kernel_rfl
theorem c3_7e : c3_7 = .region 2 r3_7 false := by kernel_rfl
theorem c3_8e : c3_8 = .ret := by kernel_rfl
theorem c3_9e : c3_9 = .skip := by kernel_rfl
theorem c3_10e : c3_10 = .seq c3_11 c3_12 := by kernel_rfl
theorem c3_11e : c3_11 = .region 3 r3_11 false := by kernel_rfl
theorem c3_12e : c3_12 = .ret := by kernel_rfl
noncomputable def tontinelaw02_CrcSums.R (A_3 : Option Addr) (c_4 : Nat) : Pst Bool where
  ε := Unit
  v := fun r x => .bool r
  H := fun r x => []
  B := fun r x => []
noncomputable def tontinelaw02_CrcSums.cx (A_3 : Option Addr) (c_4 : Nat) (w0 : World) (S0 : Fam) : Cx Bool := ⟨Try.prog, 3, Try.f3, 21, w0, S0, [], 0, tontinelaw02_CrcSums.R A_3 c_4⟩
theorem tontinelaw02_CrcSums_ok (n : Nat) (sum_1 : Int) (b_2 : (List UInt8)) (A_3 : Option Addr) (c_4 : Nat) :
    Meets Try.prog 3 [.int .u32 sum_1, .slice A_3 b_2.length c_4] 0 [] [] [Rd 0 Kd.u8 A_3 c_4 b_2] (tontinelaw02_CrcSums.f n sum_1 b_2) (tontinelaw02_CrcSums.R A_3 c_4) := by
  refine Meets.of (c := c3_0) (n := 21) Try.func3 (by kernel_rfl) (by kernel_rfl) (by kernel_rfl) fun w0 S0 => ?_
  unfold tontinelaw02_CrcSums.f
  show GoO (tontinelaw02_CrcSums.cx A_3 c_4 w0 S0) [(0, .int .u32 sum_1), (1, .slice A_3 b_2.length c_4)] [] [Rd 0 Kd.u8 A_3 c_4 b_2] [.code c3_0] _
  refine GoO.seq' c3_0e ?_
  refine GoO.region' (is := [0]) c3_1e (by kernel_rfl) ?_
  refine GoO.exec (is := [0]) (hs := [.p]) (rest := []) (ks := [0, 1]) (env' := [(0, .int .u32 sum_1), (1, .slice A_3 b_2.length c_4)]) (H' := []) (ps := []) (by kernel_rfl) trivial ?_
  refine GoO.regionEnd ?_
  refine GoO.seq' c3_2e ?_
  refine GoO.seq' c3_3e ?_
  refine GoO.region' (is := [0, 1]) c3_4e (by kernel_rfl) ?_
  refine OpTo.go (GoO.call rfl (by kernel_rfl) (by kernel_rfl) (tontinelaw02_begun_ok n) [[0]] [] [] [] (hks := []) (bks := [0]) (by kernel_rfl) (by kernel_rfl) (by kernel_rfl) (.inl rfl) rfl rfl (by kernel_rfl) (by kernel_rfl) _ (fun _ _ => rfl) _ _ (fun _ _ => rfl) (fun _ _ => rfl) (fun _ _ => by kernel_rfl) (fun _ _ => by kernel_rfl) (fun r_5 x_16 => ?_))
  refine GoO.shape (env' := [(0, .int .u32 sum_1), (1, .slice A_3 b_2.length c_4), (5, .bool r_5)]) (H' := []) (B' := [Rd 0 Kd.u8 A_3 c_4 b_2]) (ks := [0, 1, 5]) (by kernel_rfl) (by kernel_rfl) (by kernel_rfl) ?_
  refine GoO.exec (is := [1]) (hs := [.p]) (rest := []) (ks := [0, 1, 6]) (env' := [(0, .int .u32 sum_1), (1, .slice A_3 b_2.length c_4), (6, .bool (!r_5))]) (H' := []) (ps := []) (by kernel_rfl) trivial ?_
  refine GoO.regionEnd ?_
  refine GoO.ite' c3_5e (by kernel_rfl) (fun h6 => ?_) (fun h6 => ?_)
  · refine GoO.seq' c3_6e ?_
    refine GoO.region' (is := [0]) c3_7e (by kernel_rfl) ?_
    refine GoO.exec (is := [0]) (hs := [.p]) (rest := []) (ks := [4]) (env' := [(4, .bool false)]) (H' := []) (ps := []) (by kernel_rfl) trivial ?_
    refine GoO.regionEnd ?_
    exact GoO.ret' (h := c3_8e) (hs := []) (ps := []) (hk := []) (bk := []) Try.func3 () (by kernel_rfl) trivial (by kernel_rfl) (by kernel_rfl)
  · refine GoO.skip' c3_9e ?_
    refine GoO.seq' c3_10e ?_
    refine GoO.region' (is := [0, 1, 2, 3, 4, 5, 6, 7, 8, 9, 10, 11, 12, 13, 14]) c3_11e (by kernel_rfl) ?_
    refine GoO.exec (is := [0, 1]) (hs := [.p, .p]) (rest := [2, 3, 4, 5, 6, 7, 8, 9, 10, 11, 12, 13, 14]) (ks := [0, 1, 7, 8]) (env' := [(0, .int .u32 sum_1), (1, .slice A_3 b_2.length c_4), (7, .int .u32 sum_1), (8, .slice A_3 b_2.length c_4)]) (H' := []) (ps := []) (by kernel_rfl) trivial ?_
    refine OpTo.go (GoO.call rfl (by kernel_rfl) (by kernel_rfl) (crc_Add_ok n sum_1 b_2 A_3 c_4) [[0]] [] [] [(0, 0)] (hks := []) (bks := [0]) (by kernel_rfl) (by kernel_rfl) (by kernel_rfl) (.inl rfl) rfl rfl (by kernel_rfl) (by kernel_rfl) _ (fun _ _ => rfl) _ _ (fun _ _ => rfl) (fun _ _ => rfl) (fun _ _ => by kernel_rfl) (fun _ _ => by kernel_rfl) (fun r_7 x_15 => ?_))
    refine GoO.shape (env' := [(0, .int .u32 sum_1), (1, .slice A_3 b_2.length c_4), (7, .int .u32 sum_1), (8, .slice A_3 b_2.length c_4), (9, .int .u32 r_7)]) (H' := []) (B' := [Rd 0 Kd.u8 A_3 c_4 b_2]) (ks := [0, 1, 7, 8, 9]) (by kernel_rfl) (by kernel_rfl) (by kernel_rfl) ?_
    refine GoO.exec (is := [3, 4]) (hs := [.p, .p]) (rest := [5, 6, 7, 8, 9, 10, 11, 12, 13, 14]) (ks := [1, 9, 10, 11]) (env' := [(1, .slice A_3 b_2.length c_4), (9, .int .u32 r_7), (10, .int .u32 sum_1), (11, .slice A_3 b_2.length c_4)]) (H' := []) (ps := []) (by kernel_rfl) trivial ?_
    refine OpTo.go (GoO.call rfl (by kernel_rfl) (by kernel_rfl) (tontineref02_Add_ok n sum_1 b_2 A_3 c_4) [[0]] [] [] [(0, 0)] (hks := []) (bks := [0]) (by kernel_rfl) (by kernel_rfl) (by kernel_rfl) (.inl rfl) rfl rfl (by kernel_rfl) (by kernel_rfl) _ (fun _ _ => rfl) _ _ (fun _ _ => rfl) (fun _ _ => rfl) (fun _ _ => by kernel_rfl) (fun _ _ => by kernel_rfl) (fun r_8 x_14 => ?_))
    refine GoO.shape (env' := [(1, .slice A_3 b_2.length c_4), (9, .int .u32 r_7), (10, .int .u32 sum_1), (11, .slice A_3 b_2.length c_4), (12, .int .u32 r_8)]) (H' := []) (B' := [Rd 0 Kd.u8 A_3 c_4 b_2]) (ks := [1, 9, 10, 11, 12]) (by kernel_rfl) (by kernel_rfl) (by kernel_rfl) ?_
    refine GoO.exec (is := [6, 7]) (hs := [.p, .p]) (rest := [8, 9, 10, 11, 12, 13, 14]) (ks := [1, 14]) (env' := [(1, .slice A_3 b_2.length c_4), (14, .bool (r_7 == r_8))]) (H' := []) (ps := []) (by kernel_rfl) trivial ?_
    refine GoO.bsplit (t := 14) (by kernel_rfl) (fun h9 => ?_) (fun h9 => ?_)
    · refine GoO.exec (is := [8]) (hs := [.p]) (rest := [9, 10, 11, 12, 13, 14]) (ks := [1, 14, 15]) (env' := [(1, .slice A_3 b_2.length c_4), (14, .bool true), (15, .slice A_3 b_2.length c_4)]) (H' := []) (ps := []) (by kernel_rfl) trivial ?_
      refine OpTo.go (GoO.call rfl (by kernel_rfl) (by kernel_rfl) (crc_Sum_ok n b_2 A_3 c_4) [[0]] [] [] [(0, 0)] (hks := []) (bks := [0]) (by kernel_rfl) (by kernel_rfl) (by kernel_rfl) (.inl rfl) rfl rfl (by kernel_rfl) (by kernel_rfl) _ (fun _ _ => rfl) _ _ (fun _ _ => rfl) (fun _ _ => rfl) (fun _ _ => by kernel_rfl) (fun _ _ => by kernel_rfl) (fun r_10 x_13 => ?_))
      refine GoO.shape (env' := [(1, .slice A_3 b_2.length c_4), (14, .bool true), (15, .slice A_3 b_2.length c_4), (16, .int .u32 r_10)]) (H' := []) (B' := [Rd 0 Kd.u8 A_3 c_4 b_2]) (ks := [1, 14, 15, 16]) (by kernel_rfl) (by kernel_rfl) (by kernel_rfl) ?_
      refine GoO.exec (is := [10]) (hs := [.p]) (rest := [11, 12, 13, 14]) (ks := [14, 16, 17]) (env' := [(14, .bool true), (16, .int .u32 r_10), (17, .slice A_3 b_2.length c_4)]) (H' := []) (ps := []) (by kernel_rfl) trivial ?_
      refine OpTo.go (GoO.call rfl (by kernel_rfl) (by kernel_rfl) (tontineref02_Add_ok n 0 b_2 A_3 c_4) [[0]] [] [] [(0, 0)] (hks := []) (bks := [0]) (by kernel_rfl) (by kernel_rfl) (by kernel_rfl) (.inl rfl) rfl rfl (by kernel_rfl) (by kernel_rfl) _ (fun _ _ => rfl) _ _ (fun _ _ => rfl) (fun _ _ => rfl) (fun _ _ => by kernel_rfl) (fun _ _ => by kernel_rfl) (fun r_11 x_12 => ?_))
      refine GoO.shape (env' := [(14, .bool true), (16, .int .u32 r_10), (17, .slice A_3 b_2.length c_4), (18, .int .u32 r_11)]) (H' := []) (B' := [Rd 0 Kd.u8 A_3 c_4 b_2]) (ks := [14, 16, 17, 18]) (by kernel_rfl) (by kernel_rfl) (by kernel_rfl) ?_
      refine GoO.exec (is := [12, 13, 14]) (hs := [.p, .p, .p]) (rest := []) (ks := [4]) (env' := [(4, .bool (r_10 == r_11))]) (H' := []) (ps := []) (by kernel_rfl) trivial ?_
      refine GoO.regionEnd ?_
      exact GoO.ret' (h := c3_12e) (hs := []) (ps := []) (hk := []) (bk := []) Try.func3 () (by kernel_rfl) trivial (by kernel_rfl) (by kernel_rfl)
    · refine GoO.exec (is := [8, 9, 10, 11, 12, 13, 14]) (hs := [.p, .p, .p, .p, .p, .p, .p]) (rest := []) (ks := [4]) (env' := [(4, .bool false)]) (H' := []) (ps := []) (by kernel_rfl) trivial ?_
      refine GoO.regionEnd ?_
      exact GoO.ret' (h := c3_12e) (hs := []) (ps := []) (hk := []) (bk := []) Try.func3 () (by kernel_rfl) trivial (by kernel_rfl) (by kernel_rfl)
end Go.GL
