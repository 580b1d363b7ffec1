import Derived.Test.YtapiconoooncgaaKindsT1
import Derived.Test.YtapiconoooncgaaProg
set_option linter.unusedVariables false
set_option linter.unusedSimpArgs false
set_option maxRecDepth 100000
namespace Go.GL
open Go Go.Proofs

/-! tontine/crc.Add -/
noncomputable def c16_0 : Code := bodyOf Try.f16
noncomputable def c16_1 : Code := cdL c16_0
noncomputable def c16_2 : Code := cdR c16_0
noncomputable def c16_3 : Code := cdL c16_2
noncomputable def c16_4 : Code := cdR c16_2
noncomputable def c16_5 : Code := cdL c16_4
noncomputable def c16_6 : Code := cdL c16_5
noncomputable def c16_7 : Code := cdR c16_5
noncomputable def c16_8 : Code := cdL c16_7
noncomputable def c16_9 : Code := cdL c16_8
noncomputable def c16_10 : Code := cdL c16_9
noncomputable def c16_11 : Code := cdR c16_9
noncomputable def c16_12 : Code := cdL c16_11
noncomputable def c16_13 : Code := cdL c16_12
noncomputable def c16_14 : Code := cdR c16_12
noncomputable def c16_15 : Code := cdR c16_11
noncomputable def c16_16 : Code := cdL c16_15
noncomputable def c16_17 : Code := cdL c16_16
noncomputable def c16_18 : Code := cdL c16_17
noncomputable def c16_19 : Code := cdR c16_17
noncomputable def c16_20 : Code := cdL c16_19
noncomputable def c16_21 : Code := cdR c16_19
noncomputable def c16_22 : Code := cdL c16_21
noncomputable def c16_23 : Code := cdR c16_21
noncomputable def c16_24 : Code := cdL c16_23
noncomputable def c16_25 : Code := cdL c16_24
noncomputable def c16_26 : Code := cdL c16_25
noncomputable def c16_27 : Code := cdR c16_25
noncomputable def c16_28 : Code := cdL c16_27
noncomputable def c16_29 : Code := cdL c16_28
noncomputable def c16_30 : Code := cdR c16_28
noncomputable def c16_31 : Code := cdR c16_27
noncomputable def c16_32 : Code := cdL c16_31
noncomputable def c16_33 : Code := cdL c16_32
noncomputable def c16_34 : Code := cdR c16_31
noncomputable def c16_35 : Code := cdR c16_15
noncomputable def c16_36 : Code := cdR c16_4
noncomputable def c16_37 : Code := cdL c16_36
noncomputable def c16_38 : Code := cdR c16_36
noncomputable def r16_1 : Array Oper := cdO c16_1
noncomputable def r16_3 : Array Oper := cdO c16_3
noncomputable def r16_6 : Array Oper := cdO c16_6
noncomputable def r16_10 : Array Oper := cdO c16_10
noncomputable def r16_18 : Array Oper := cdO c16_18
noncomputable def r16_20 : Array Oper := cdO c16_20
noncomputable def r16_22 : Array Oper := cdO c16_22
noncomputable def r16_26 : Array Oper := cdO c16_26
noncomputable def r16_33 : Array Oper := cdO c16_33
noncomputable def r16_34 : Array Oper := cdO c16_34
noncomputable def r16_35 : Array Oper := cdO c16_35
noncomputable def r16_37 : Array Oper := cdO c16_37
theorem c16_0e : c16_0 = .seq c16_1 c16_2 := by kernel_rfl
theorem c16_1e : c16_1 = .region 0 r16_1 false := by kernel_rfl
theorem c16_2e : c16_2 = .seq c16_3 c16_4 := by kernel_rfl
theorem c16_3e : c16_3 = .region 1 r16_3 false := by kernel_rfl
theorem c16_4e : c16_4 = .seq c16_5 c16_36 := by kernel_rfl
theorem c16_5e : c16_5 = .seq c16_6 c16_7 := by kernel_rfl
theorem c16_6e : c16_6 = .region 2 r16_6 false := by kernel_rfl
theorem c16_7e : c16_7 = .block 0 c16_8 := by kernel_rfl
theorem c16_8e : c16_8 = .loop c16_9 := by kernel_rfl
theorem c16_9e : c16_9 = .seq c16_10 c16_11 := by kernel_rfl
theorem c16_10e : c16_10 = .region 3 r16_10 false := by kernel_rfl
theorem c16_11e : c16_11 = .seq c16_12 c16_15 := by kernel_rfl
theorem c16_12e : c16_12 = .cond (cdC c16_12) c16_13 c16_14 := by kernel_rfl
theorem c16_13e : c16_13 = .skip := by kernel_rfl
theorem c16_14e : c16_14 = .exit 0 := by kernel_rfl
theorem c16_15e : c16_15 = .seq c16_16 c16_35 := by kernel_rfl
theorem c16_16e : c16_16 = .block 1 c16_17 := by kernel_rfl
theorem c16_17e : c16_17 = .seq c16_18 c16_19 := by kernel_rfl
theorem c16_18e : c16_18 = .region 4 r16_18 false := by kernel_rfl
theorem c16_19e : c16_19 = .seq c16_20 c16_21 := by kernel_rfl
theorem c16_20e : c16_20 = .region 5 r16_20 false := by kernel_rfl
theorem c16_21e : c16_21 = .seq c16_22 c16_23 := by kernel_rfl
theorem c16_22e : c16_22 = .region 6 r16_22 false := by kernel_rfl
theorem c16_23e : c16_23 = .block 2 c16_24 := by kernel_rfl
theorem c16_24e : c16_24 = .loop c16_25 := by kernel_rfl
theorem c16_25e : c16_25 = .seq c16_26 c16_27 := by kernel_rfl
theorem c16_26e : c16_26 = .region 7 r16_26 false := by kernel_rfl
theorem c16_27e : c16_27 = .seq c16_28 c16_31 := by kernel_rfl
theorem c16_28e : c16_28 = .cond (cdC c16_28) c16_29 c16_30 := by kernel_rfl
theorem c16_29e : c16_29 = .skip := by kernel_rfl
theorem c16_30e : c16_30 = .exit 2 := by kernel_rfl
theorem c16_31e : c16_31 = .seq c16_32 c16_34 := by kernel_rfl
theorem c16_32e : c16_32 = .block 3 c16_33 := by kernel_rfl
theorem c16_33e : c16_33 = .region 8 r16_33 false := by kernel_rfl
theorem c16_34e : c16_34 = .region 9 r16_34 false := by kernel_rfl
theorem c16_35e : c16_35 = .region 10 r16_35 false := by kernel_rfl
theorem c16_36e : c16_36 = .seq c16_37 c16_38 := by kernel_rfl
theorem c16_37e : c16_37 = .region 11 r16_37 false := by kernel_rfl
theorem c16_38e : c16_38 = .ret := by kernel_rfl
noncomputable def crc_Add.R (A_3 : Option Addr) (c_4 : Nat) : Pst Int where
  ε := Unit
  v := fun r x => .int .u32 r
  H := fun r x => []
  B := fun r x => []
noncomputable def crc_Add.cx (A_3 : Option Addr) (c_4 : Nat) (w0 : World) (S0 : Fam) : Cx Int := ⟨Try.prog, 16, Try.f16, 33, w0, S0, [], 0, crc_Add.R A_3 c_4⟩
theorem crc_Add_l1_ok (n : Nat) (L0 : Int → Int → Option Int) (b_2 : (List UInt8)) (x_5 : Int) (x_6 : Int) (A_3 : Option Addr) (c_4 : Nat) (w0 : World) (S0 : Fam) (ih0 : ∀ (x_5 : Int) (x_6 : Int), GoO (crc_Add.cx A_3 c_4 w0 S0) [(5, .int .u32 x_5), (10, .slice A_3 b_2.length c_4), (11, .int .i64 (b_2.length : Int)), (12, .int .i64 x_6)] [] [Rd 0 Kd.u8 A_3 c_4 b_2] [.code c16_9, .inLoop c16_9, .inBlock 0, .code c16_36] (L0 x_5 x_6)) :
    ∀ (k : Nat) (x_9 : Int) (x_10 : Int), GoO (crc_Add.cx A_3 c_4 w0 S0) [(5, .int .u32 x_9), (10, .slice A_3 b_2.length c_4), (11, .int .i64 (b_2.length : Int)), (12, .int .i64 x_6), (20, .int .i64 x_10)] [] [Rd 0 Kd.u8 A_3 c_4 b_2] [.code c16_25, .inLoop c16_25, .inBlock 2, .inBlock 1, .code c16_35, .inLoop c16_9, .inBlock 0, .code c16_36] (crc_Add.l1 n L0 x_6 k x_9 x_10) := by
  intro k
  induction k with
  | zero => intros; rw [crc_Add.l1.eq_1]; exact GoO.stop
  | succ k ih1 =>
    intro x_9 x_10
    rw [crc_Add.l1.eq_2]
    refine GoO.seq' c16_25e ?_
    refine GoO.region' (is := [0]) c16_26e (by kernel_rfl) ?_
    refine GoO.exec (is := [0]) (hs := [.p]) (rest := []) (ks := [5, 10, 11, 12, 20, 21]) (env' := [(5, .int .u32 x_9), (10, .slice A_3 b_2.length c_4), (11, .int .i64 (b_2.length : Int)), (12, .int .i64 x_6), (20, .int .i64 x_10), (21, .bool (decide (x_10 < 8)))]) (H' := []) (ps := []) (by kernel_rfl) trivial ?_
    refine GoO.regionEnd ?_
    refine GoO.seq' c16_27e ?_
    refine GoO.ite' c16_28e (by kernel_rfl) (fun h11 => ?_) (fun h11 => ?_)
    · refine GoO.skip' c16_29e ?_
      refine GoO.seq' c16_31e ?_
      refine GoO.block' c16_32e ?_
      refine GoO.region' (is := [0, 1, 2, 3, 4, 5, 6, 7]) c16_33e (by kernel_rfl) ?_
      refine GoO.exec (is := [0, 1, 2, 3, 4, 5, 6, 7]) (hs := [.p, .p, .p, .p, .p, .p, .p, .p]) (rest := []) (ks := [5, 10, 11, 12, 20]) (env' := [(5, .int .u32 (bXor .u32 (shR .u32 x_9 1) (bAnd .u32 2197175160 (wu32 (0 - (bAnd .u32 x_9 1)))))), (10, .slice A_3 b_2.length c_4), (11, .int .i64 (b_2.length : Int)), (12, .int .i64 x_6), (20, .int .i64 x_10)]) (H' := []) (ps := [(0 : Int) ≤ 1]) (by kernel_rfl) (And.intro (by decide) trivial) ?_
      refine GoO.regionEnd ?_
      refine GoO.inBlock ?_
      refine GoO.region' (is := [0, 1]) c16_34e (by kernel_rfl) ?_
      refine GoO.exec (is := [0, 1]) (hs := [.p, .p]) (rest := []) (ks := [5, 10, 11, 12, 20]) (env' := [(5, .int .u32 (bXor .u32 (shR .u32 x_9 1) (bAnd .u32 2197175160 (wu32 (0 - (bAnd .u32 x_9 1)))))), (10, .slice A_3 b_2.length c_4), (11, .int .i64 (b_2.length : Int)), (12, .int .i64 x_6), (20, .int .i64 (wi64 (x_10 + 1)))]) (H' := []) (ps := []) (by kernel_rfl) trivial ?_
      refine GoO.regionEnd ?_
      refine GoO.inLoop ?_
      exact GoO.sub (ks := [5, 10, 11, 12, 20]) (hk := []) (bk := [0]) (by kernel_rfl) (by kernel_rfl) (by kernel_rfl) (ih1 (bXor .u32 (shR .u32 x_9 1) (bAnd .u32 2197175160 (wu32 (0 - (bAnd .u32 x_9 1))))) (wi64 (x_10 + 1)))
    · refine GoO.exit' c16_30e rfl ?_
      refine GoO.inBlock ?_
      refine GoO.region' (is := [0, 1]) c16_35e (by kernel_rfl) ?_
      refine GoO.exec (is := [0, 1]) (hs := [.p, .p]) (rest := []) (ks := [5, 10, 11, 12]) (env' := [(5, .int .u32 x_9), (10, .slice A_3 b_2.length c_4), (11, .int .i64 (b_2.length : Int)), (12, .int .i64 (wi64 (x_6 + 1)))]) (H' := []) (ps := []) (by kernel_rfl) trivial ?_
      refine GoO.regionEnd ?_
      refine GoO.inLoop ?_
      exact GoO.sub (ks := [5, 10, 11, 12]) (hk := []) (bk := [0]) (by kernel_rfl) (by kernel_rfl) (by kernel_rfl) (ih0 x_9 (wi64 (x_6 + 1)))
theorem crc_Add_l0_ok (n : Nat) (b_2 : (List UInt8)) (A_3 : Option Addr) (c_4 : Nat) (w0 : World) (S0 : Fam) :
    ∀ (k : Nat) (x_5 : Int) (x_6 : Int), GoO (crc_Add.cx A_3 c_4 w0 S0) [(5, .int .u32 x_5), (10, .slice A_3 b_2.length c_4), (11, .int .i64 (b_2.length : Int)), (12, .int .i64 x_6)] [] [Rd 0 Kd.u8 A_3 c_4 b_2] [.code c16_9, .inLoop c16_9, .inBlock 0, .code c16_36] (crc_Add.l0 n b_2 k x_5 x_6) := by
  intro k
  induction k with
  | zero => intros; rw [crc_Add.l0.eq_1]; exact GoO.stop
  | succ k ih0 =>
    intro x_5 x_6
    rw [crc_Add.l0.eq_2]
    refine GoO.seq' c16_9e ?_
    refine GoO.region' (is := [0]) c16_10e (by kernel_rfl) ?_
    refine GoO.exec (is := [0]) (hs := [.p]) (rest := []) (ks := [5, 10, 11, 12, 13]) (env' := [(5, .int .u32 x_5), (10, .slice A_3 b_2.length c_4), (11, .int .i64 (b_2.length : Int)), (12, .int .i64 x_6), (13, .bool (decide (x_6 < (b_2.length : Int))))]) (H' := []) (ps := []) (by kernel_rfl) trivial ?_
    refine GoO.regionEnd ?_
    refine GoO.seq' c16_11e ?_
    refine GoO.ite' c16_12e (by kernel_rfl) (fun h7 => ?_) (fun h7 => ?_)
    · refine GoO.skip' c16_13e ?_
      refine GoO.seq' c16_15e ?_
      refine GoO.block' c16_16e ?_
      refine GoO.seq' c16_17e ?_
      refine GoO.region' (is := [0, 1, 2]) c16_18e (by kernel_rfl) ?_
      refine GoO.guard (fun h8 => ?_)
      refine OpTo.go (GoO.idx (kk := .i64) (e := 5) (K := Kd.u8) (A := A_3) (c := c_4) (xs := b_2) (iv := x_6) (j := 0) rfl (by kernel_rfl) (by kernel_rfl) (by kernel_rfl) (by kernel_rfl) rfl Reads.rd rfl h8.1 h8.2 (by decide) rfl ?_)
      refine OpTo.go (GoO.ldE' (K := Kd.u8) (A := A_3) (c := c_4) (xs := b_2) (iN := x_6.toNat) (off := 0) (j := 0) rfl (by kernel_rfl) rfl Reads.rd (idx_lt h8.1 h8.2) (by decide) (Opn.flat _ _ _ _ _) (v := fun _ => .int .u8 (((rdL b_2 x_6)).toNat : Int)) (fun _ => by kernel_rfl) _ (fun _ => rfl) (fun _ => ?_))
      refine GoO.exec (is := [2]) (hs := [.p]) (rest := []) (ks := [5, 7, 10, 11, 12]) (env' := [(5, .int .u32 x_5), (7, .int .u8 (((rdL b_2 x_6)).toNat : Int)), (10, .slice A_3 b_2.length c_4), (11, .int .i64 (b_2.length : Int)), (12, .int .i64 x_6)]) (H' := []) (ps := []) (by kernel_rfl) trivial ?_
      refine GoO.regionEnd ?_
      refine GoO.seq' c16_19e ?_
      refine GoO.region' (is := [0, 1, 2, 3, 4]) c16_20e (by kernel_rfl) ?_
      refine GoO.exec (is := [0, 1, 2, 3, 4]) (hs := [.p, .p, .p, .p, .p]) (rest := []) (ks := [5, 10, 11, 12]) (env' := [(5, .int .u32 (bXor .u32 x_5 (wu32 (((rdL b_2 x_6)).toNat : Int)))), (10, .slice A_3 b_2.length c_4), (11, .int .i64 (b_2.length : Int)), (12, .int .i64 x_6)]) (H' := []) (ps := []) (by kernel_rfl) trivial ?_
      refine GoO.regionEnd ?_
      refine GoO.seq' c16_21e ?_
      refine GoO.region' (is := [0]) c16_22e (by kernel_rfl) ?_
      refine GoO.exec (is := [0]) (hs := [.p]) (rest := []) (ks := [5, 10, 11, 12, 20]) (env' := [(5, .int .u32 (bXor .u32 x_5 (wu32 (((rdL b_2 x_6)).toNat : Int)))), (10, .slice A_3 b_2.length c_4), (11, .int .i64 (b_2.length : Int)), (12, .int .i64 x_6), (20, .int .i64 0)]) (H' := []) (ps := []) (by kernel_rfl) trivial ?_
      refine GoO.regionEnd ?_
      refine GoO.block' c16_23e ?_
      refine GoO.loop' c16_24e ?_
      exact GoO.sub (ks := [5, 10, 11, 12, 20]) (hk := []) (bk := [0]) (by kernel_rfl) (by kernel_rfl) (by kernel_rfl) (crc_Add_l1_ok n (crc_Add.l0 n b_2 k) b_2 x_5 x_6 A_3 c_4 w0 S0 ih0 n (bXor .u32 x_5 (wu32 (((rdL b_2 x_6)).toNat : Int))) 0)
    · refine GoO.exit' c16_14e rfl ?_
      refine GoO.seq' c16_36e ?_
      refine GoO.region' (is := [0, 1, 2]) c16_37e (by kernel_rfl) ?_
      refine GoO.exec (is := [0, 1, 2]) (hs := [.p, .p, .p]) (rest := []) (ks := [4]) (env' := [(4, .int .u32 (bNot .u32 x_5))]) (H' := []) (ps := []) (by kernel_rfl) trivial ?_
      refine GoO.regionEnd ?_
      exact GoO.ret' (h := c16_38e) (hs := []) (ps := []) (hk := []) (bk := []) Try.func16 () (by kernel_rfl) trivial (by kernel_rfl) (by kernel_rfl)
theorem crc_Add_ok (n : Nat) (sum_1 : Int) (b_2 : (List UInt8)) (A_3 : Option Addr) (c_4 : Nat) :
    Meets Try.prog 16 [.int .u32 sum_1, .slice A_3 b_2.length c_4] 0 [] [] [Rd 0 Kd.u8 A_3 c_4 b_2] (crc_Add.f n sum_1 b_2) (crc_Add.R A_3 c_4) := by
  refine Meets.of (c := c16_0) (n := 33) Try.func16 (by kernel_rfl) (by kernel_rfl) (by kernel_rfl) fun w0 S0 => ?_
  unfold crc_Add.f
  show GoO (crc_Add.cx A_3 c_4 w0 S0) [(0, .int .u32 sum_1), (1, .slice A_3 b_2.length c_4)] [] [Rd 0 Kd.u8 A_3 c_4 b_2] [.code c16_0] _
  refine GoO.seq' c16_0e ?_
  refine GoO.region' (is := [0]) c16_1e (by kernel_rfl) ?_
  refine GoO.exec (is := [0]) (hs := [.p]) (rest := []) (ks := [0, 1]) (env' := [(0, .int .u32 sum_1), (1, .slice A_3 b_2.length c_4)]) (H' := []) (ps := []) (by kernel_rfl) trivial ?_
  refine GoO.regionEnd ?_
  refine GoO.seq' c16_2e ?_
  refine GoO.region' (is := [0, 1, 2]) c16_3e (by kernel_rfl) ?_
  refine GoO.exec (is := [0, 1, 2]) (hs := [.p, .p, .p]) (rest := []) (ks := [1, 5]) (env' := [(1, .slice A_3 b_2.length c_4), (5, .int .u32 (bNot .u32 sum_1))]) (H' := []) (ps := []) (by kernel_rfl) trivial ?_
  refine GoO.regionEnd ?_
  refine GoO.seq' c16_4e ?_
  refine GoO.seq' c16_5e ?_
  refine GoO.region' (is := [0, 1, 2]) c16_6e (by kernel_rfl) ?_
  refine GoO.exec (is := [0, 1, 2]) (hs := [.p, .p, .p]) (rest := []) (ks := [5, 10, 11, 12]) (env' := [(5, .int .u32 (bNot .u32 sum_1)), (10, .slice A_3 b_2.length c_4), (11, .int .i64 (b_2.length : Int)), (12, .int .i64 0)]) (H' := []) (ps := []) (by kernel_rfl) trivial ?_
  refine GoO.regionEnd ?_
  refine GoO.block' c16_7e ?_
  refine GoO.loop' c16_8e ?_
  exact GoO.sub (ks := [5, 10, 11, 12]) (hk := []) (bk := [0]) (by kernel_rfl) (by kernel_rfl) (by kernel_rfl) (crc_Add_l0_ok n b_2 A_3 c_4 w0 S0 n (bNot .u32 sum_1) 0)

/-! tontine/crc.Sum -/
noncomputable def c18_0 : Code := bodyOf Try.f18
noncomputable def c18_1 : Code := cdL c18_0
noncomputable def c18_2 : Code := cdR c18_0
noncomputable def c18_3 : Code := cdL c18_2
noncomputable def c18_4 : Code := cdR c18_2
noncomputable def r18_1 : Array Oper := cdO c18_1
noncomputable def r18_3 : Array Oper := cdO c18_3
theorem c18_0e : c18_0 = .seq c18_1 c18_2 := by kernel_rfl
theorem c18_1e : c18_1 = .region 0 r18_1 false := by kernel_rfl
theorem c18_2e : c18_2 = .seq c18_3 c18_4 := by kernel_rfl
theorem c18_3e : c18_3 = .region 1 r18_3 false := by kernel_rfl
theorem c18_4e : c18_4 = .ret := by kernel_rfl
noncomputable def crc_Sum.R (A_2 : Option Addr) (c_3 : Nat) : Pst Int where
  ε := Unit
  v := fun r x => .int .u32 r
  H := fun r x => []
  B := fun r x => []
noncomputable def crc_Sum.cx (A_2 : Option Addr) (c_3 : Nat) (w0 : World) (S0 : Fam) : Cx Int := ⟨Try.prog, 18, Try.f18, 5, w0, S0, [], 0, crc_Sum.R A_2 c_3⟩
theorem crc_Sum_ok (n : Nat) (b_1 : (List UInt8)) (A_2 : Option Addr) (c_3 : Nat) :
    Meets Try.prog 18 [.slice A_2 b_1.length c_3] 0 [] [] [Rd 0 Kd.u8 A_2 c_3 b_1] (crc_Sum.f n b_1) (crc_Sum.R A_2 c_3) := by
  refine Meets.of (c := c18_0) (n := 5) Try.func18 (by kernel_rfl) (by kernel_rfl) (by kernel_rfl) fun w0 S0 => ?_
  unfold crc_Sum.f
  show GoO (crc_Sum.cx A_2 c_3 w0 S0) [(0, .slice A_2 b_1.length c_3)] [] [Rd 0 Kd.u8 A_2 c_3 b_1] [.code c18_0] _
  refine GoO.seq' c18_0e ?_
  refine GoO.region' (is := [0]) c18_1e (by kernel_rfl) ?_
  refine GoO.exec (is := [0]) (hs := [.p]) (rest := []) (ks := [0]) (env' := [(0, .slice A_2 b_1.length c_3)]) (H' := []) (ps := []) (by kernel_rfl) trivial ?_
  refine GoO.regionEnd ?_
  refine GoO.seq' c18_2e ?_
  refine GoO.region' (is := [0, 1, 2]) c18_3e (by kernel_rfl) ?_
  refine GoO.exec (is := [0]) (hs := [.p]) (rest := [1, 2]) (ks := [3]) (env' := [(3, .slice A_2 b_1.length c_3)]) (H' := []) (ps := []) (by kernel_rfl) trivial ?_
  refine OpTo.go (GoO.call rfl (by kernel_rfl) (by kernel_rfl) (crc_Add_ok n 0 b_1 A_2 c_3) [[0]] [] [] [(0, 0)] (hks := []) (bks := [0]) (by kernel_rfl) (by kernel_rfl) (by kernel_rfl) (.inl rfl) rfl rfl (by kernel_rfl) (by kernel_rfl) _ (fun _ _ => rfl) _ _ (fun _ _ => rfl) (fun _ _ => rfl) (fun _ _ => by kernel_rfl) (fun _ _ => by kernel_rfl) (fun r_4 x_5 => ?_))
  refine GoO.shape (env' := [(3, .slice A_2 b_1.length c_3), (4, .int .u32 r_4)]) (H' := []) (B' := [Rd 0 Kd.u8 A_2 c_3 b_1]) (ks := [3, 4]) (by kernel_rfl) (by kernel_rfl) (by kernel_rfl) ?_
  refine GoO.exec (is := [2]) (hs := [.p]) (rest := []) (ks := [2]) (env' := [(2, .int .u32 r_4)]) (H' := []) (ps := []) (by kernel_rfl) trivial ?_
  refine GoO.regionEnd ?_
  exact GoO.ret' (h := c18_4e) (hs := []) (ps := []) (hk := []) (bk := []) Try.func18 () (by kernel_rfl) trivial (by kernel_rfl) (by kernel_rfl)

/-! tontine/tontinelaw02.begun -/
noncomputable def c15_0 : Code := bodyOf Try.f15
noncomputable def c15_1 : Code := cdL c15_0
noncomputable def c15_2 : Code := cdR c15_0
noncomputable def c15_3 : Code := cdL c15_2
noncomputable def c15_4 : Code := cdR c15_2
noncomputable def r15_1 : Array Oper := cdO c15_1
noncomputable def r15_3 : Array Oper := cdO c15_3
theorem c15_0e : c15_0 = .seq c15_1 c15_2 := by kernel_rfl
theorem c15_1e : c15_1 = .region 0 r15_1 false := by kernel_rfl
theorem c15_2e : c15_2 = .seq c15_3 c15_4 := by kernel_rfl
theorem c15_3e : c15_3 = .region 1 r15_3 false := by kernel_rfl
theorem c15_4e : c15_4 = .ret := by kernel_rfl
noncomputable def tontinelaw02_begun.R : Pst Bool where
  ε := Unit
  v := fun r x => .bool r
  H := fun r x => []
  B := fun r x => []
noncomputable def tontinelaw02_begun.cx (w0 : World) (S0 : Fam) : Cx Bool := ⟨Try.prog, 15, Try.f15, 9, w0, S0, [], 0, tontinelaw02_begun.R⟩
theorem tontinelaw02_begun_ok (n : Nat) :
    Meets Try.prog 15 [] 0 [] [] [] (tontinelaw02_begun.f n) (tontinelaw02_begun.R) := by
  refine Meets.of (c := c15_0) (n := 9) Try.func15 (by kernel_rfl) (by kernel_rfl) (by kernel_rfl) fun w0 S0 => ?_
  unfold tontinelaw02_begun.f
  show GoO (tontinelaw02_begun.cx w0 S0) [] [] [] [.code c15_0] _
  refine GoO.seq' c15_0e ?_
  refine GoO.region' (is := [0]) c15_1e (by kernel_rfl) ?_
  refine GoO.exec (is := [0]) (hs := [.p]) (rest := []) (ks := []) (env' := []) (H' := []) (ps := []) (by kernel_rfl) trivial ?_
  refine GoO.regionEnd ?_
  refine GoO.seq' c15_2e ?_
  refine GoO.region' (is := [0, 1, 2, 3, 4, 5, 6, 7, 8]) c15_3e (by kernel_rfl) ?_
  refine OpTo.go (GoO.lit (e := 5) (K := Kd.u8) rfl (by kernel_rfl) (by kernel_rfl) (cs := [.int .u8 49, .int .u8 50, .int .u8 51, .int .u8 52, .int .u8 53, .int .u8 54, .int .u8 55, .int .u8 56, .int .u8 57]) (by kernel_rfl) [(49 : UInt8), (50 : UInt8), (51 : UInt8), (52 : UInt8), (53 : UInt8), (54 : UInt8), (55 : UInt8), (56 : UInt8), (57 : UInt8)] (by kernel_rfl) (by kernel_rfl) (fun w S hB => ⟨[.int .u8 49], _, rfl, rfl, ⟨[.int .u8 50], _, rfl, rfl, ⟨[.int .u8 51], _, rfl, rfl, ⟨[.int .u8 52], _, rfl, rfl, ⟨[.int .u8 53], _, rfl, rfl, ⟨[.int .u8 54], _, rfl, rfl, ⟨[.int .u8 55], _, rfl, rfl, ⟨[.int .u8 56], _, rfl, rfl, ⟨[.int .u8 57], _, rfl, rfl, rfl⟩⟩⟩⟩⟩⟩⟩⟩⟩) 40 _ (fun _ _ => rfl) (fun A_1 c_2 => ?_))
  refine OpTo.go (GoO.markS (e := 5) (A := A_1) (c := c_2) (n := [(49 : UInt8), (50 : UInt8), (51 : UInt8), (52 : UInt8), (53 : UInt8), (54 : UInt8), (55 : UInt8), (56 : UInt8), (57 : UInt8)].length) (xs := [(49 : UInt8), (50 : UInt8), (51 : UInt8), (52 : UInt8), (53 : UInt8), (54 : UInt8), (55 : UInt8), (56 : UInt8), (57 : UInt8)]) (j := 0) (tg := 40) (bk := []) rfl (by kernel_rfl) (by kernel_rfl) (by kernel_rfl) (by kernel_rfl) rfl (by kernel_rfl) (by kernel_rfl) rfl (by kernel_rfl) rfl ?_)
  refine GoO.retag (t := 40) (u := 0) (j := 0) (hk := []) (bk := []) rfl rfl rfl rfl rfl rfl (by kernel_rfl) (by kernel_rfl) ?_
  refine OpTo.go (GoO.call rfl (by kernel_rfl) (by kernel_rfl) (crc_Sum_ok n [(49 : UInt8), (50 : UInt8), (51 : UInt8), (52 : UInt8), (53 : UInt8), (54 : UInt8), (55 : UInt8), (56 : UInt8), (57 : UInt8)] A_1 c_2) [[0]] [] [] [(0, 0)] (hks := []) (bks := [0]) (by kernel_rfl) (by kernel_rfl) (by kernel_rfl) (.inl rfl) rfl rfl (by kernel_rfl) (by kernel_rfl) _ (fun _ _ => rfl) _ _ (fun _ _ => rfl) (fun _ _ => rfl) (fun _ _ => by kernel_rfl) (fun _ _ => by kernel_rfl) (fun r_3 x_7 => ?_))
  refine GoO.shape (env' := [(1, .slice A_1 [(49 : UInt8), (50 : UInt8), (51 : UInt8), (52 : UInt8), (53 : UInt8), (54 : UInt8), (55 : UInt8), (56 : UInt8), (57 : UInt8)].length c_2), (2, .slice A_1 [(49 : UInt8), (50 : UInt8), (51 : UInt8), (52 : UInt8), (53 : UInt8), (54 : UInt8), (55 : UInt8), (56 : UInt8), (57 : UInt8)].length c_2), (3, .int .u32 r_3)]) (H' := []) (B' := [Rd 0 Kd.u8 A_1 c_2 [(49 : UInt8), (50 : UInt8), (51 : UInt8), (52 : UInt8), (53 : UInt8), (54 : UInt8), (55 : UInt8), (56 : UInt8), (57 : UInt8)]]) (ks := [1, 2, 3]) (by kernel_rfl) (by kernel_rfl) (by kernel_rfl) ?_
  refine GoO.exec (is := [3, 4]) (hs := [.p, .p]) (rest := [5, 6, 7, 8]) (ks := [5]) (env' := [(5, .bool (r_3 == 3808858755))]) (H' := []) (ps := []) (by kernel_rfl) trivial ?_
  refine GoO.bsplit (t := 5) (by kernel_rfl) (fun h4 => ?_) (fun h4 => ?_)
  · refine GoO.nilRd Kd.u8 ?_
    refine OpTo.go (GoO.call rfl (by kernel_rfl) (by kernel_rfl) (crc_Sum_ok n ([] : List UInt8) none 0) [[0]] [] [] [(0, 0)] (hks := []) (bks := [0, 1]) (by kernel_rfl) (by kernel_rfl) (by kernel_rfl) (.inl rfl) rfl rfl (by kernel_rfl) (by kernel_rfl) _ (fun _ _ => rfl) _ _ (fun _ _ => rfl) (fun _ _ => rfl) (fun _ _ => by kernel_rfl) (fun _ _ => by kernel_rfl) (fun r_5 x_6 => ?_))
    refine GoO.shape (env' := [(5, .bool true), (6, .int .u32 r_5)]) (H' := []) (B' := [Rd 0 Kd.u8 none 0 ([] : List UInt8), Rd 0 Kd.u8 A_1 c_2 [(49 : UInt8), (50 : UInt8), (51 : UInt8), (52 : UInt8), (53 : UInt8), (54 : UInt8), (55 : UInt8), (56 : UInt8), (57 : UInt8)]]) (ks := [5, 6]) (by kernel_rfl) (by kernel_rfl) (by kernel_rfl) ?_
    refine GoO.exec (is := [6, 7, 8]) (hs := [.p, .p, .p]) (rest := []) (ks := [0]) (env' := [(0, .bool (r_5 == 0))]) (H' := []) (ps := []) (by kernel_rfl) trivial ?_
    refine GoO.regionEnd ?_
    exact GoO.ret' (h := c15_4e) (hs := []) (ps := []) (hk := []) (bk := []) Try.func15 () (by kernel_rfl) trivial (by kernel_rfl) (by kernel_rfl)
  · refine GoO.exec (is := [5, 6, 7, 8]) (hs := [.p, .p, .p, .p]) (rest := []) (ks := [0]) (env' := [(0, .bool false)]) (H' := []) (ps := []) (by kernel_rfl) trivial ?_
    refine GoO.regionEnd ?_
    exact GoO.ret' (h := c15_4e) (hs := []) (ps := []) (hk := []) (bk := []) Try.func15 () (by kernel_rfl) trivial (by kernel_rfl) (by kernel_rfl)

/-! tontine/tontinelaw02.CrcThree -/
noncomputable def c5_0 : Code := bodyOf Try.f5
noncomputable def c5_1 : Code := cdL c5_0
noncomputable def c5_2 : Code := cdR c5_0
noncomputable def c5_3 : Code := cdL c5_2
noncomputable def c5_4 : Code := cdL c5_3
noncomputable def c5_5 : Code := cdR c5_3
noncomputable def c5_6 : Code := cdL c5_5
noncomputable def c5_7 : Code := cdL c5_6
noncomputable def c5_8 : Code := cdR c5_6
noncomputable def c5_9 : Code := cdR c5_5
noncomputable def c5_10 : Code := cdR c5_2
noncomputable def c5_11 : Code := cdL c5_10
noncomputable def c5_12 : Code := cdR c5_10
noncomputable def c5_13 : Code := cdL c5_12
noncomputable def c5_14 : Code := cdR c5_12
noncomputable def c5_15 : Code := cdL c5_14
noncomputable def c5_16 : Code := cdL c5_15
noncomputable def c5_17 : Code := cdR c5_15
noncomputable def c5_18 : Code := cdL c5_17
noncomputable def c5_19 : Code := cdL c5_18
noncomputable def c5_20 : Code := cdL c5_19
noncomputable def c5_21 : Code := cdR c5_19
noncomputable def c5_22 : Code := cdL c5_21
noncomputable def c5_23 : Code := cdL c5_22
noncomputable def c5_24 : Code := cdR c5_22
noncomputable def c5_25 : Code := cdR c5_21
noncomputable def c5_26 : Code := cdL c5_25
noncomputable def c5_27 : Code := cdL c5_26
noncomputable def c5_28 : Code := cdL c5_27
noncomputable def c5_29 : Code := cdR c5_27
noncomputable def c5_30 : Code := cdR c5_25
noncomputable def c5_31 : Code := cdR c5_14
noncomputable def c5_32 : Code := cdL c5_31
noncomputable def c5_33 : Code := cdR c5_31
noncomputable def r5_1 : Array Oper := cdO c5_1
noncomputable def r5_4 : Array Oper := cdO c5_4
noncomputable def r5_7 : Array Oper := cdO c5_7
noncomputable def r5_11 : Array Oper := cdO c5_11
noncomputable def r5_13 : Array Oper := cdO c5_13
noncomputable def r5_16 : Array Oper := cdO c5_16
noncomputable def r5_20 : Array Oper := cdO c5_20
noncomputable def r5_28 : Array Oper := cdO c5_28
noncomputable def r5_29 : Array Oper := cdO c5_29
noncomputable def r5_30 : Array Oper := cdO c5_30
noncomputable def r5_32 : Array Oper := cdO c5_32
theorem c5_0e : c5_0 = .seq c5_1 c5_2 := by kernel_rfl
theorem c5_1e : c5_1 = .region 0 r5_1 false := by kernel_rfl
theorem c5_2e : c5_2 = .seq c5_3 c5_10 := by kernel_rfl
theorem c5_3e : c5_3 = .seq c5_4 c5_5 := by kernel_rfl
theorem c5_4e : c5_4 = .region 1 r5_4 false := by kernel_rfl
theorem c5_5e : c5_5 = .cond (cdC c5_5) c5_6 c5_9 := by kernel_rfl
theorem c5_6e : c5_6 = .seq c5_7 c5_8 := by kernel_rfl
theorem c5_7e : c5_7 = .region 2 r5_7 false := by kernel_rfl
theorem c5_8e : c5_8 = .ret := by kernel_rfl
theorem c5_9e : c5_9 = .skip := by kernel_rfl
theorem c5_10e : c5_10 = .seq c5_11 c5_12 := by kernel_rfl
theorem c5_11e : c5_11 = .region 3 r5_11 false := by kernel_rfl
theorem c5_12e : c5_12 = .seq c5_13 c5_14 := by kernel_rfl
theorem c5_13e : c5_13 = .region 4 r5_13 false := by kernel_rfl
theorem c5_14e : c5_14 = .seq c5_15 c5_31 := by kernel_rfl
theorem c5_15e : c5_15 = .seq c5_16 c5_17 := by kernel_rfl
theorem c5_16e : c5_16 = .region 5 r5_16 false := by kernel_rfl
theorem c5_17e : c5_17 = .block 0 c5_18 := by kernel_rfl
theorem c5_18e : c5_18 = .loop c5_19 := by kernel_rfl
theorem c5_19e : c5_19 = .seq c5_20 c5_21 := by kernel_rfl
theorem c5_20e : c5_20 = .region 6 r5_20 false := by kernel_rfl
theorem c5_21e : c5_21 = .seq c5_22 c5_25 := by kernel_rfl
theorem c5_22e : c5_22 = .cond (cdC c5_22) c5_23 c5_24 := by kernel_rfl
theorem c5_23e : c5_23 = .skip := by kernel_rfl
theorem c5_24e : c5_24 = .exit 0 := by kernel_rfl
theorem c5_25e : c5_25 = .seq c5_26 c5_30 := by kernel_rfl
theorem c5_26e : c5_26 = .block 1 c5_27 := by kernel_rfl
theorem c5_27e : c5_27 = .seq c5_28 c5_29 := by kernel_rfl
theorem c5_28e : c5_28 = .region 7 r5_28 false := by kernel_rfl
theorem c5_29e : c5_29 = .region 8 r5_29 true := by kernel_rfl
theorem c5_30e : c5_30 = .region 9 r5_30 false := by kernel_rfl
theorem c5_31e : c5_31 = .seq c5_32 c5_33 := by kernel_rfl
theorem c5_32e : c5_32 = .region 10 r5_32 true := by kernel_rfl
theorem c5_33e : c5_33 = .ret := by kernel_rfl
noncomputable def tontinelaw02_CrcThree.R (A_2 : Option Addr) (c_3 : Nat) (A_5 : Option Addr) (c_6 : Nat) (A_8 : Option Addr) (c_9 : Nat) : Pst Bool where
  ε := Unit
  v := fun r x => .bool r
  H := fun r x => []
  B := fun r x => []
noncomputable def tontinelaw02_CrcThree.cx (A_2 : Option Addr) (c_3 : Nat) (A_5 : Option Addr) (c_6 : Nat) (A_8 : Option Addr) (c_9 : Nat) (w0 : World) (S0 : Fam) : Cx Bool := ⟨Try.prog, 5, Try.f5, 61, w0, S0, [], 0, tontinelaw02_CrcThree.R A_2 c_3 A_5 c_6 A_8 c_9⟩
theorem tontinelaw02_CrcThree_l0_ok (n : Nat) (a_1 : (List UInt8)) (b_4 : (List UInt8)) (c_7 : (List UInt8)) (A_2 : Option Addr) (c_3 : Nat) (A_5 : Option Addr) (c_6 : Nat) (A_8 : Option Addr) (c_9 : Nat) (w0 : World) (S0 : Fam) :
    ∀ (k : Nat) (x_15 : (List UInt8)) (x_18 : Int) (A_16 : Option Addr) (c_17 : Nat), GoO (tontinelaw02_CrcThree.cx A_2 c_3 A_5 c_6 A_8 c_9 w0 S0) [(0, .slice A_2 a_1.length c_3), (1, .slice A_5 b_4.length c_6), (2, .slice A_8 c_7.length c_9), (7, .int .i64 (if (c_7.length : Int) < (if (b_4.length : Int) < (a_1.length : Int) then (b_4.length : Int) else (a_1.length : Int)) then (c_7.length : Int) else (if (b_4.length : Int) < (a_1.length : Int) then (b_4.length : Int) else (a_1.length : Int)))), (8, .slice A_16 x_15.length c_17), (22, .int .i64 ((List.replicate (if (c_7.length : Int) < (if (b_4.length : Int) < (a_1.length : Int) then (b_4.length : Int) else (a_1.length : Int)) then (c_7.length : Int) else (if (b_4.length : Int) < (a_1.length : Int) then (b_4.length : Int) else (a_1.length : Int))).toNat (0 : UInt8)).length : Int)), (23, .int .i64 x_18)] [] [Rd 0 Kd.u8 A_2 c_3 a_1, Rd 0 Kd.u8 A_5 c_6 b_4, Rd 0 Kd.u8 A_8 c_9 c_7, Ow 40 Kd.u8 A_16 c_17 x_15] [.code c5_19, .inLoop c5_19, .inBlock 0, .code c5_31] (tontinelaw02_CrcThree.l0 n a_1 b_4 c_7 k x_15 x_18) := by
  intro k
  induction k with
  | zero => intros; rw [tontinelaw02_CrcThree.l0.eq_1]; exact GoO.stop
  | succ k ih0 =>
    intro x_15 x_18 A_16 c_17
    rw [tontinelaw02_CrcThree.l0.eq_2]
    refine GoO.seq' c5_19e ?_
    refine GoO.region' (is := [0]) c5_20e (by kernel_rfl) ?_
    refine GoO.exec (is := [0]) (hs := [.p]) (rest := []) (ks := [0, 1, 2, 7, 8, 22, 23, 24]) (env' := [(0, .slice A_2 a_1.length c_3), (1, .slice A_5 b_4.length c_6), (2, .slice A_8 c_7.length c_9), (7, .int .i64 (if (c_7.length : Int) < (if (b_4.length : Int) < (a_1.length : Int) then (b_4.length : Int) else (a_1.length : Int)) then (c_7.length : Int) else (if (b_4.length : Int) < (a_1.length : Int) then (b_4.length : Int) else (a_1.length : Int)))), (8, .slice A_16 x_15.length c_17), (22, .int .i64 ((List.replicate (if (c_7.length : Int) < (if (b_4.length : Int) < (a_1.length : Int) then (b_4.length : Int) else (a_1.length : Int)) then (c_7.length : Int) else (if (b_4.length : Int) < (a_1.length : Int) then (b_4.length : Int) else (a_1.length : Int))).toNat (0 : UInt8)).length : Int)), (23, .int .i64 x_18), (24, .bool (decide (x_18 < ((List.replicate (if (c_7.length : Int) < (if (b_4.length : Int) < (a_1.length : Int) then (b_4.length : Int) else (a_1.length : Int)) then (c_7.length : Int) else (if (b_4.length : Int) < (a_1.length : Int) then (b_4.length : Int) else (a_1.length : Int))).toNat (0 : UInt8)).length : Int))))]) (H' := []) (ps := []) (by kernel_rfl) trivial ?_
    refine GoO.regionEnd ?_
    refine GoO.seq' c5_21e ?_
    refine GoO.ite' c5_22e (by kernel_rfl) (fun h19 => ?_) (fun h19 => ?_)
    · refine GoO.skip' c5_23e ?_
      refine GoO.seq' c5_25e ?_
      refine GoO.block' c5_26e ?_
      refine GoO.seq' c5_27e ?_
      refine GoO.region' (is := [0, 1]) c5_28e (by kernel_rfl) ?_
      refine GoO.exec (is := [0, 1]) (hs := [.p, .p]) (rest := []) (ks := [0, 1, 2, 7, 8, 9, 22, 23]) (env' := [(0, .slice A_2 a_1.length c_3), (1, .slice A_5 b_4.length c_6), (2, .slice A_8 c_7.length c_9), (7, .int .i64 (if (c_7.length : Int) < (if (b_4.length : Int) < (a_1.length : Int) then (b_4.length : Int) else (a_1.length : Int)) then (c_7.length : Int) else (if (b_4.length : Int) < (a_1.length : Int) then (b_4.length : Int) else (a_1.length : Int)))), (8, .slice A_16 x_15.length c_17), (9, .int .i64 x_18), (22, .int .i64 ((List.replicate (if (c_7.length : Int) < (if (b_4.length : Int) < (a_1.length : Int) then (b_4.length : Int) else (a_1.length : Int)) then (c_7.length : Int) else (if (b_4.length : Int) < (a_1.length : Int) then (b_4.length : Int) else (a_1.length : Int))).toNat (0 : UInt8)).length : Int)), (23, .int .i64 x_18)]) (H' := []) (ps := []) (by kernel_rfl) trivial ?_
      refine GoO.regionEnd ?_
      refine GoO.draw c5_29e (by kernel_rfl) [16, 17] [] [Rd 0 Kd.u8 A_2 c_3 a_1, Rd 0 Kd.u8 A_5 c_6 b_4, Rd 0 Kd.u8 A_8 c_9 c_7] (n := 18) (by kernel_rfl) ?_
      simp only [List.replicate]
      refine GoF.take [0, 1, 2, 3, 6, 7, 11, 12] [.p, .p, .p, .p, .p, .p, .p, .p] (ks := [0, 1, 2, 7, 8, 22, 23, 26, 27, 28, 29, 32, 33, 37, 38]) (fu := 10) (li := [true, true, true, true, false, false, true, true, false, false, false, true, true, false, false, false, false, false]) (env' := [(0, .slice A_2 a_1.length c_3), (1, .slice A_5 b_4.length c_6), (2, .slice A_8 c_7.length c_9), (7, .int .i64 (if (c_7.length : Int) < (if (b_4.length : Int) < (a_1.length : Int) then (b_4.length : Int) else (a_1.length : Int)) then (c_7.length : Int) else (if (b_4.length : Int) < (a_1.length : Int) then (b_4.length : Int) else (a_1.length : Int)))), (8, .slice A_16 x_15.length c_17), (22, .int .i64 ((List.replicate (if (c_7.length : Int) < (if (b_4.length : Int) < (a_1.length : Int) then (b_4.length : Int) else (a_1.length : Int)) then (c_7.length : Int) else (if (b_4.length : Int) < (a_1.length : Int) then (b_4.length : Int) else (a_1.length : Int))).toNat (0 : UInt8)).length : Int)), (23, .int .i64 x_18), (26, .slice A_16 x_15.length c_17), (27, .int .i64 x_18), (28, .slice A_2 a_1.length c_3), (29, .int .i64 x_18), (32, .slice A_5 b_4.length c_6), (33, .int .i64 x_18), (37, .slice A_8 c_7.length c_9), (38, .int .i64 x_18)]) (ps := []) (hk := []) (bk := [0, 1, 2]) (by kernel_rfl) trivial rfl rfl ?_
      refine GoF.guard (fun h20 => ?_)
      refine GoF.idx (i := 4) (hk := []) (bk := [0, 1, 2]) (kk := .i64) (e := 5) (K := Kd.u8) (A := A_2) (c := c_3) (xs := a_1) (iv := x_18) (j := 0) (by kernel_rfl) rfl rfl rfl (by kernel_rfl) (by kernel_rfl) (by kernel_rfl) (by kernel_rfl) rfl Reads.rd rfl h20.1 h20.2 (by decide) rfl ?_
      refine GoF.ldE (i := 5) (hk := []) (bk := [0, 1, 2]) (K := Kd.u8) (A := A_2) (c := c_3) (xs := a_1) (iN := x_18.toNat) (off := 0) (j := 0) (v := .int .u8 (((rdL a_1 x_18)).toNat : Int)) (by kernel_rfl) rfl rfl rfl (hK := rfl) (by kernel_rfl) rfl Reads.rd (idx_lt h20.1 h20.2) (by decide) (by kernel_rfl) rfl ?_
      refine GoF.guard (fun h21 => ?_)
      refine GoF.idx (i := 8) (hk := []) (bk := [0, 1, 2]) (kk := .i64) (e := 5) (K := Kd.u8) (A := A_5) (c := c_6) (xs := b_4) (iv := x_18) (j := 1) (by kernel_rfl) rfl rfl rfl (by kernel_rfl) (by kernel_rfl) (by kernel_rfl) (by kernel_rfl) rfl Reads.rd rfl h21.1 h21.2 (by decide) rfl ?_
      refine GoF.ldE (i := 9) (hk := []) (bk := [0, 1, 2]) (K := Kd.u8) (A := A_5) (c := c_6) (xs := b_4) (iN := x_18.toNat) (off := 0) (j := 1) (v := .int .u8 (((rdL b_4 x_18)).toNat : Int)) (by kernel_rfl) rfl rfl rfl (hK := rfl) (by kernel_rfl) rfl Reads.rd (idx_lt h21.1 h21.2) (by decide) (by kernel_rfl) rfl ?_
      refine GoF.take [10] [.p] (ks := [0, 1, 2, 7, 8, 22, 23, 26, 27, 36, 37, 38]) (fu := 5) (li := [true, true, true, true, true, true, true, true, true, true, true, true, true, false, false, false, false, false]) (env' := [(0, .slice A_2 a_1.length c_3), (1, .slice A_5 b_4.length c_6), (2, .slice A_8 c_7.length c_9), (7, .int .i64 (if (c_7.length : Int) < (if (b_4.length : Int) < (a_1.length : Int) then (b_4.length : Int) else (a_1.length : Int)) then (c_7.length : Int) else (if (b_4.length : Int) < (a_1.length : Int) then (b_4.length : Int) else (a_1.length : Int)))), (8, .slice A_16 x_15.length c_17), (22, .int .i64 ((List.replicate (if (c_7.length : Int) < (if (b_4.length : Int) < (a_1.length : Int) then (b_4.length : Int) else (a_1.length : Int)) then (c_7.length : Int) else (if (b_4.length : Int) < (a_1.length : Int) then (b_4.length : Int) else (a_1.length : Int))).toNat (0 : UInt8)).length : Int)), (23, .int .i64 x_18), (26, .slice A_16 x_15.length c_17), (27, .int .i64 x_18), (36, .int .u8 (bXor .u8 (((rdL a_1 x_18)).toNat : Int) (((rdL b_4 x_18)).toNat : Int))), (37, .slice A_8 c_7.length c_9), (38, .int .i64 x_18)]) (ps := []) (hk := []) (bk := [0, 1, 2]) (by kernel_rfl) trivial rfl rfl ?_
      refine GoF.guard (fun h22 => ?_)
      refine GoF.idx (i := 13) (hk := []) (bk := [0, 1, 2]) (kk := .i64) (e := 5) (K := Kd.u8) (A := A_8) (c := c_9) (xs := c_7) (iv := x_18) (j := 2) (by kernel_rfl) rfl rfl rfl (by kernel_rfl) (by kernel_rfl) (by kernel_rfl) (by kernel_rfl) rfl Reads.rd rfl h22.1 h22.2 (by decide) rfl ?_
      refine GoF.ldE (i := 14) (hk := []) (bk := [0, 1, 2]) (K := Kd.u8) (A := A_8) (c := c_9) (xs := c_7) (iN := x_18.toNat) (off := 0) (j := 2) (v := .int .u8 (((rdL c_7 x_18)).toNat : Int)) (by kernel_rfl) rfl rfl rfl (hK := rfl) (by kernel_rfl) rfl Reads.rd (idx_lt h22.1 h22.2) (by decide) (by kernel_rfl) rfl ?_
      refine GoF.take [15] [.p] (ks := [0, 1, 2, 7, 8, 22, 23, 26, 27, 41]) (fu := 2) (li := [true, true, true, true, true, true, true, true, true, true, true, true, true, true, true, true, false, false]) (env' := [(0, .slice A_2 a_1.length c_3), (1, .slice A_5 b_4.length c_6), (2, .slice A_8 c_7.length c_9), (7, .int .i64 (if (c_7.length : Int) < (if (b_4.length : Int) < (a_1.length : Int) then (b_4.length : Int) else (a_1.length : Int)) then (c_7.length : Int) else (if (b_4.length : Int) < (a_1.length : Int) then (b_4.length : Int) else (a_1.length : Int)))), (8, .slice A_16 x_15.length c_17), (22, .int .i64 ((List.replicate (if (c_7.length : Int) < (if (b_4.length : Int) < (a_1.length : Int) then (b_4.length : Int) else (a_1.length : Int)) then (c_7.length : Int) else (if (b_4.length : Int) < (a_1.length : Int) then (b_4.length : Int) else (a_1.length : Int))).toNat (0 : UInt8)).length : Int)), (23, .int .i64 x_18), (26, .slice A_16 x_15.length c_17), (27, .int .i64 x_18), (41, .int .u8 (bXor .u8 (bXor .u8 (((rdL a_1 x_18)).toNat : Int) (((rdL b_4 x_18)).toNat : Int)) (((rdL c_7 x_18)).toNat : Int)))]) (ps := []) (hk := []) (bk := [0, 1, 2]) (by kernel_rfl) trivial rfl rfl ?_
      refine GoF.guard (fun h23 => ?_)
      refine OpTo.goE (i := 16) (by kernel_rfl) rfl (GoO.idx (kk := .i64) (e := 5) (K := Kd.u8) (A := A_16) (c := c_17) (xs := x_15) (iv := x_18) (j := 3) rfl (by kernel_rfl) (by kernel_rfl) (by kernel_rfl) (by kernel_rfl) rfl Reads.own rfl h23.1 h23.2 (by decide) rfl ?_)
      refine OpTo.goE (i := 17) (by kernel_rfl) rfl (GoO.stE (K := Kd.u8) (A := A_16) (c := c_17) (xs := x_15) (iN := x_18.toNat) (off := 0) (tg := 40) (j := 3) (v := .int .u8 (bXor .u8 (bXor .u8 (((rdL a_1 x_18)).toNat : Int) (((rdL b_4 x_18)).toNat : Int)) (((rdL c_7 x_18)).toNat : Int))) rfl (by kernel_rfl) (by kernel_rfl) rfl (idx_lt h23.1 h23.2) (by decide) (by kernel_rfl) (by kernel_rfl) (by kernel_rfl) (u8of (bXor .u8 (bXor .u8 (((rdL a_1 x_18)).toNat : Int) (((rdL b_4 x_18)).toNat : Int)) (((rdL c_7 x_18)).toNat : Int))) (fun w S cs _ hr => ⟨_, by subst hr; exact stored_flat rfl, (congrArg (fun v => [v]) (u8cell2 _))⟩) rfl ?_)
      refine GoF.reval (t := 8) (v := .slice A_16 x_15.length c_17) (v' := .slice A_16 (x_15.set x_18.toNat (u8of (bXor .u8 (bXor .u8 (((rdL a_1 x_18)).toNat : Int) (((rdL b_4 x_18)).toNat : Int)) (((rdL c_7 x_18)).toNat : Int)))).length c_17) (by kernel_rfl) (by simp) ?_
      refine GoF.reval (t := 26) (v := .slice A_16 x_15.length c_17) (v' := .slice A_16 (x_15.set x_18.toNat (u8of (bXor .u8 (bXor .u8 (((rdL a_1 x_18)).toNat : Int) (((rdL b_4 x_18)).toNat : Int)) (((rdL c_7 x_18)).toNat : Int)))).length c_17) (by kernel_rfl) (by simp) ?_
      refine GoF.done (by kernel_rfl) ?_
      refine GoO.inBlock ?_
      refine GoO.region' (is := [0, 1]) c5_30e (by kernel_rfl) ?_
      refine GoO.exec (is := [0, 1]) (hs := [.p, .p]) (rest := []) (ks := [0, 1, 2, 7, 8, 22, 23]) (env' := [(0, .slice A_2 a_1.length c_3), (1, .slice A_5 b_4.length c_6), (2, .slice A_8 c_7.length c_9), (7, .int .i64 (if (c_7.length : Int) < (if (b_4.length : Int) < (a_1.length : Int) then (b_4.length : Int) else (a_1.length : Int)) then (c_7.length : Int) else (if (b_4.length : Int) < (a_1.length : Int) then (b_4.length : Int) else (a_1.length : Int)))), (8, .slice A_16 (x_15.set x_18.toNat (u8of (bXor .u8 (bXor .u8 (((rdL a_1 x_18)).toNat : Int) (((rdL b_4 x_18)).toNat : Int)) (((rdL c_7 x_18)).toNat : Int)))).length c_17), (22, .int .i64 ((List.replicate (if (c_7.length : Int) < (if (b_4.length : Int) < (a_1.length : Int) then (b_4.length : Int) else (a_1.length : Int)) then (c_7.length : Int) else (if (b_4.length : Int) < (a_1.length : Int) then (b_4.length : Int) else (a_1.length : Int))).toNat (0 : UInt8)).length : Int)), (23, .int .i64 (wi64 (x_18 + 1)))]) (H' := []) (ps := []) (by kernel_rfl) trivial ?_
      refine GoO.regionEnd ?_
      refine GoO.inLoop ?_
      exact GoO.sub (ks := [0, 1, 2, 7, 8, 22, 23]) (hk := []) (bk := [0, 1, 2, 3]) (by kernel_rfl) (by kernel_rfl) (by kernel_rfl) (ih0 (x_15.set x_18.toNat (u8of (bXor .u8 (bXor .u8 (((rdL a_1 x_18)).toNat : Int) (((rdL b_4 x_18)).toNat : Int)) (((rdL c_7 x_18)).toNat : Int)))) (wi64 (x_18 + 1)) A_16 c_17)
    · refine GoO.exit' c5_24e rfl ?_
      refine GoO.seq' c5_31e ?_
      refine GoO.draw c5_32e (by kernel_rfl) [17] [] [] (n := 18) (by kernel_rfl) ?_
      simp only [List.replicate]
      refine GoF.take [0, 2, 3, 6, 7, 11, 12] [.p, .p, .p, .p, .p, .p, .p] (ks := [44, 46, 47, 50, 51, 55, 56]) (fu := 11) (li := [true, false, true, true, false, false, true, true, false, false, false, true, true, false, false, false, false, false]) (env' := [(44, .slice A_16 x_15.length c_17), (46, .slice A_2 a_1.length c_3), (47, .int .i64 (if (c_7.length : Int) < (if (b_4.length : Int) < (a_1.length : Int) then (b_4.length : Int) else (a_1.length : Int)) then (c_7.length : Int) else (if (b_4.length : Int) < (a_1.length : Int) then (b_4.length : Int) else (a_1.length : Int)))), (50, .slice A_5 b_4.length c_6), (51, .int .i64 (if (c_7.length : Int) < (if (b_4.length : Int) < (a_1.length : Int) then (b_4.length : Int) else (a_1.length : Int)) then (c_7.length : Int) else (if (b_4.length : Int) < (a_1.length : Int) then (b_4.length : Int) else (a_1.length : Int)))), (55, .slice A_8 c_7.length c_9), (56, .int .i64 (if (c_7.length : Int) < (if (b_4.length : Int) < (a_1.length : Int) then (b_4.length : Int) else (a_1.length : Int)) then (c_7.length : Int) else (if (b_4.length : Int) < (a_1.length : Int) then (b_4.length : Int) else (a_1.length : Int))))]) (ps := []) (hk := []) (bk := []) (by kernel_rfl) trivial rfl rfl ?_
      refine GoF.guard (fun h26 => ?_)
      refine GoF.slc1 (i := 4) (hk := []) (bk := []) (e := 5) (K := Kd.u8) (A := A_2) (c := c_3) (xs := a_1) (j := 0) (l := (0 : Int)) (h := (if (c_7.length : Int) < (if (b_4.length : Int) < (a_1.length : Int) then (b_4.length : Int) else (a_1.length : Int)) then (c_7.length : Int) else (if (b_4.length : Int) < (a_1.length : Int) then (b_4.length : Int) else (a_1.length : Int)))) (by kernel_rfl) rfl rfl rfl (by kernel_rfl) (by kernel_rfl) (by kernel_rfl) rfl Reads.rd rfl (by kernel_rfl) (by kernel_rfl) h26.1 h26.2.1 h26.2.2 _ (fun _ _ => rfl) (fun A_24 c_25 => ?_)
      refine GoF.guard (fun h29 => ?_)
      refine GoF.slc1 (i := 8) (hk := []) (bk := []) (e := 5) (K := Kd.u8) (A := A_5) (c := c_6) (xs := b_4) (j := 2) (l := (0 : Int)) (h := (if (c_7.length : Int) < (if (b_4.length : Int) < (a_1.length : Int) then (b_4.length : Int) else (a_1.length : Int)) then (c_7.length : Int) else (if (b_4.length : Int) < (a_1.length : Int) then (b_4.length : Int) else (a_1.length : Int)))) (by kernel_rfl) rfl rfl rfl (by kernel_rfl) (by kernel_rfl) (by kernel_rfl) rfl Reads.rd rfl (by kernel_rfl) (by kernel_rfl) h29.1 h29.2.1 h29.2.2 _ (fun _ _ => rfl) (fun A_27 c_28 => ?_)
      refine GoF.guard (fun h32 => ?_)
      refine GoF.slc1 (i := 13) (hk := []) (bk := []) (e := 5) (K := Kd.u8) (A := A_8) (c := c_9) (xs := c_7) (j := 4) (l := (0 : Int)) (h := (if (c_7.length : Int) < (if (b_4.length : Int) < (a_1.length : Int) then (b_4.length : Int) else (a_1.length : Int)) then (c_7.length : Int) else (if (b_4.length : Int) < (a_1.length : Int) then (b_4.length : Int) else (a_1.length : Int)))) (by kernel_rfl) rfl rfl rfl (by kernel_rfl) (by kernel_rfl) (by kernel_rfl) rfl Reads.rd rfl (by kernel_rfl) (by kernel_rfl) h32.1 h32.2.1 h32.2.2 _ (fun _ _ => rfl) (fun A_30 c_31 => ?_)
      refine GoF.view (j := 6) rfl ?_
      refine OpTo.goF (i := 1) (by kernel_rfl) (hk := []) (bk := []) (GoO.call rfl (by kernel_rfl) (by kernel_rfl) (crc_Sum_ok n x_15 A_16 c_17) [[0, 40]] [] [] [(0, 7)] (hks := []) (bks := [0, 1, 2, 3, 4, 5, 6]) (by kernel_rfl) (by kernel_rfl) (by kernel_rfl) (.inr (fun _ _ => by simp [crc_Sum.R])) rfl rfl (by kernel_rfl) (by kernel_rfl) _ (fun _ _ => rfl) _ _ (fun _ _ => rfl) (fun _ _ => rfl) (fun _ _ => by kernel_rfl) (fun _ _ => by kernel_rfl) (fun r_33 x_40 => ⟨rfl, rfl, ?_⟩))
      refine GoF.shape (env' := [(44, .slice A_16 x_15.length c_17), (45, .int .u32 r_33), (46, .slice A_2 a_1.length c_3), (47, .int .i64 (if (c_7.length : Int) < (if (b_4.length : Int) < (a_1.length : Int) then (b_4.length : Int) else (a_1.length : Int)) then (c_7.length : Int) else (if (b_4.length : Int) < (a_1.length : Int) then (b_4.length : Int) else (a_1.length : Int)))), (48, .slice A_24 ((a_1.take (if (c_7.length : Int) < (if (b_4.length : Int) < (a_1.length : Int) then (b_4.length : Int) else (a_1.length : Int)) then (c_7.length : Int) else (if (b_4.length : Int) < (a_1.length : Int) then (b_4.length : Int) else (a_1.length : Int))).toNat).drop (0 : Int).toNat).length c_25), (50, .slice A_5 b_4.length c_6), (51, .int .i64 (if (c_7.length : Int) < (if (b_4.length : Int) < (a_1.length : Int) then (b_4.length : Int) else (a_1.length : Int)) then (c_7.length : Int) else (if (b_4.length : Int) < (a_1.length : Int) then (b_4.length : Int) else (a_1.length : Int)))), (52, .slice A_27 ((b_4.take (if (c_7.length : Int) < (if (b_4.length : Int) < (a_1.length : Int) then (b_4.length : Int) else (a_1.length : Int)) then (c_7.length : Int) else (if (b_4.length : Int) < (a_1.length : Int) then (b_4.length : Int) else (a_1.length : Int))).toNat).drop (0 : Int).toNat).length c_28), (55, .slice A_8 c_7.length c_9), (56, .int .i64 (if (c_7.length : Int) < (if (b_4.length : Int) < (a_1.length : Int) then (b_4.length : Int) else (a_1.length : Int)) then (c_7.length : Int) else (if (b_4.length : Int) < (a_1.length : Int) then (b_4.length : Int) else (a_1.length : Int)))), (57, .slice A_30 ((c_7.take (if (c_7.length : Int) < (if (b_4.length : Int) < (a_1.length : Int) then (b_4.length : Int) else (a_1.length : Int)) then (c_7.length : Int) else (if (b_4.length : Int) < (a_1.length : Int) then (b_4.length : Int) else (a_1.length : Int))).toNat).drop (0 : Int).toNat).length c_31)]) (H' := []) (B' := [Rd 0 Kd.u8 A_30 c_31 ((c_7.take (if (c_7.length : Int) < (if (b_4.length : Int) < (a_1.length : Int) then (b_4.length : Int) else (a_1.length : Int)) then (c_7.length : Int) else (if (b_4.length : Int) < (a_1.length : Int) then (b_4.length : Int) else (a_1.length : Int))).toNat).drop (0 : Int).toNat), Rd 0 Kd.u8 A_27 c_28 ((b_4.take (if (c_7.length : Int) < (if (b_4.length : Int) < (a_1.length : Int) then (b_4.length : Int) else (a_1.length : Int)) then (c_7.length : Int) else (if (b_4.length : Int) < (a_1.length : Int) then (b_4.length : Int) else (a_1.length : Int))).toNat).drop (0 : Int).toNat), Rd 0 Kd.u8 A_24 c_25 ((a_1.take (if (c_7.length : Int) < (if (b_4.length : Int) < (a_1.length : Int) then (b_4.length : Int) else (a_1.length : Int)) then (c_7.length : Int) else (if (b_4.length : Int) < (a_1.length : Int) then (b_4.length : Int) else (a_1.length : Int))).toNat).drop (0 : Int).toNat), Rd 0 Kd.u8 A_2 c_3 a_1, Rd 0 Kd.u8 A_5 c_6 b_4, Rd 0 Kd.u8 A_8 c_9 c_7, Ow 40 Kd.u8 A_16 c_17 x_15]) (ks := [44, 45, 46, 47, 48, 50, 51, 52, 55, 56, 57]) (by kernel_rfl) (by kernel_rfl) (by kernel_rfl) ?_
      refine OpTo.goF (i := 5) (by kernel_rfl) (hk := []) (bk := []) (GoO.call rfl (by kernel_rfl) (by kernel_rfl) (crc_Sum_ok n ((a_1.take (if (c_7.length : Int) < (if (b_4.length : Int) < (a_1.length : Int) then (b_4.length : Int) else (a_1.length : Int)) then (c_7.length : Int) else (if (b_4.length : Int) < (a_1.length : Int) then (b_4.length : Int) else (a_1.length : Int))).toNat).drop (0 : Int).toNat) A_24 c_25) [[0]] [] [] [(0, 2)] (hks := []) (bks := [0, 1, 2, 3, 4, 5, 6]) (by kernel_rfl) (by kernel_rfl) (by kernel_rfl) (.inl rfl) rfl rfl (by kernel_rfl) (by kernel_rfl) _ (fun _ _ => rfl) _ _ (fun _ _ => rfl) (fun _ _ => rfl) (fun _ _ => by kernel_rfl) (fun _ _ => by kernel_rfl) (fun r_34 x_39 => ⟨rfl, rfl, ?_⟩))
      refine GoF.shape (env' := [(44, .slice A_16 x_15.length c_17), (45, .int .u32 r_33), (46, .slice A_2 a_1.length c_3), (47, .int .i64 (if (c_7.length : Int) < (if (b_4.length : Int) < (a_1.length : Int) then (b_4.length : Int) else (a_1.length : Int)) then (c_7.length : Int) else (if (b_4.length : Int) < (a_1.length : Int) then (b_4.length : Int) else (a_1.length : Int)))), (48, .slice A_24 ((a_1.take (if (c_7.length : Int) < (if (b_4.length : Int) < (a_1.length : Int) then (b_4.length : Int) else (a_1.length : Int)) then (c_7.length : Int) else (if (b_4.length : Int) < (a_1.length : Int) then (b_4.length : Int) else (a_1.length : Int))).toNat).drop (0 : Int).toNat).length c_25), (49, .int .u32 r_34), (50, .slice A_5 b_4.length c_6), (51, .int .i64 (if (c_7.length : Int) < (if (b_4.length : Int) < (a_1.length : Int) then (b_4.length : Int) else (a_1.length : Int)) then (c_7.length : Int) else (if (b_4.length : Int) < (a_1.length : Int) then (b_4.length : Int) else (a_1.length : Int)))), (52, .slice A_27 ((b_4.take (if (c_7.length : Int) < (if (b_4.length : Int) < (a_1.length : Int) then (b_4.length : Int) else (a_1.length : Int)) then (c_7.length : Int) else (if (b_4.length : Int) < (a_1.length : Int) then (b_4.length : Int) else (a_1.length : Int))).toNat).drop (0 : Int).toNat).length c_28), (55, .slice A_8 c_7.length c_9), (56, .int .i64 (if (c_7.length : Int) < (if (b_4.length : Int) < (a_1.length : Int) then (b_4.length : Int) else (a_1.length : Int)) then (c_7.length : Int) else (if (b_4.length : Int) < (a_1.length : Int) then (b_4.length : Int) else (a_1.length : Int)))), (57, .slice A_30 ((c_7.take (if (c_7.length : Int) < (if (b_4.length : Int) < (a_1.length : Int) then (b_4.length : Int) else (a_1.length : Int)) then (c_7.length : Int) else (if (b_4.length : Int) < (a_1.length : Int) then (b_4.length : Int) else (a_1.length : Int))).toNat).drop (0 : Int).toNat).length c_31)]) (H' := []) (B' := [Rd 0 Kd.u8 A_30 c_31 ((c_7.take (if (c_7.length : Int) < (if (b_4.length : Int) < (a_1.length : Int) then (b_4.length : Int) else (a_1.length : Int)) then (c_7.length : Int) else (if (b_4.length : Int) < (a_1.length : Int) then (b_4.length : Int) else (a_1.length : Int))).toNat).drop (0 : Int).toNat), Rd 0 Kd.u8 A_27 c_28 ((b_4.take (if (c_7.length : Int) < (if (b_4.length : Int) < (a_1.length : Int) then (b_4.length : Int) else (a_1.length : Int)) then (c_7.length : Int) else (if (b_4.length : Int) < (a_1.length : Int) then (b_4.length : Int) else (a_1.length : Int))).toNat).drop (0 : Int).toNat), Rd 0 Kd.u8 A_24 c_25 ((a_1.take (if (c_7.length : Int) < (if (b_4.length : Int) < (a_1.length : Int) then (b_4.length : Int) else (a_1.length : Int)) then (c_7.length : Int) else (if (b_4.length : Int) < (a_1.length : Int) then (b_4.length : Int) else (a_1.length : Int))).toNat).drop (0 : Int).toNat), Rd 0 Kd.u8 A_2 c_3 a_1, Rd 0 Kd.u8 A_5 c_6 b_4, Rd 0 Kd.u8 A_8 c_9 c_7, Ow 40 Kd.u8 A_16 c_17 x_15]) (ks := [44, 45, 46, 47, 48, 49, 50, 51, 52, 55, 56, 57]) (by kernel_rfl) (by kernel_rfl) (by kernel_rfl) ?_
      refine OpTo.goF (i := 9) (by kernel_rfl) (hk := []) (bk := []) (GoO.call rfl (by kernel_rfl) (by kernel_rfl) (crc_Sum_ok n ((b_4.take (if (c_7.length : Int) < (if (b_4.length : Int) < (a_1.length : Int) then (b_4.length : Int) else (a_1.length : Int)) then (c_7.length : Int) else (if (b_4.length : Int) < (a_1.length : Int) then (b_4.length : Int) else (a_1.length : Int))).toNat).drop (0 : Int).toNat) A_27 c_28) [[0]] [] [] [(0, 1)] (hks := []) (bks := [0, 1, 2, 3, 4, 5, 6]) (by kernel_rfl) (by kernel_rfl) (by kernel_rfl) (.inl rfl) rfl rfl (by kernel_rfl) (by kernel_rfl) _ (fun _ _ => rfl) _ _ (fun _ _ => rfl) (fun _ _ => rfl) (fun _ _ => by kernel_rfl) (fun _ _ => by kernel_rfl) (fun r_35 x_38 => ⟨rfl, rfl, ?_⟩))
      refine GoF.shape (env' := [(44, .slice A_16 x_15.length c_17), (45, .int .u32 r_33), (46, .slice A_2 a_1.length c_3), (47, .int .i64 (if (c_7.length : Int) < (if (b_4.length : Int) < (a_1.length : Int) then (b_4.length : Int) else (a_1.length : Int)) then (c_7.length : Int) else (if (b_4.length : Int) < (a_1.length : Int) then (b_4.length : Int) else (a_1.length : Int)))), (48, .slice A_24 ((a_1.take (if (c_7.length : Int) < (if (b_4.length : Int) < (a_1.length : Int) then (b_4.length : Int) else (a_1.length : Int)) then (c_7.length : Int) else (if (b_4.length : Int) < (a_1.length : Int) then (b_4.length : Int) else (a_1.length : Int))).toNat).drop (0 : Int).toNat).length c_25), (49, .int .u32 r_34), (50, .slice A_5 b_4.length c_6), (51, .int .i64 (if (c_7.length : Int) < (if (b_4.length : Int) < (a_1.length : Int) then (b_4.length : Int) else (a_1.length : Int)) then (c_7.length : Int) else (if (b_4.length : Int) < (a_1.length : Int) then (b_4.length : Int) else (a_1.length : Int)))), (52, .slice A_27 ((b_4.take (if (c_7.length : Int) < (if (b_4.length : Int) < (a_1.length : Int) then (b_4.length : Int) else (a_1.length : Int)) then (c_7.length : Int) else (if (b_4.length : Int) < (a_1.length : Int) then (b_4.length : Int) else (a_1.length : Int))).toNat).drop (0 : Int).toNat).length c_28), (53, .int .u32 r_35), (55, .slice A_8 c_7.length c_9), (56, .int .i64 (if (c_7.length : Int) < (if (b_4.length : Int) < (a_1.length : Int) then (b_4.length : Int) else (a_1.length : Int)) then (c_7.length : Int) else (if (b_4.length : Int) < (a_1.length : Int) then (b_4.length : Int) else (a_1.length : Int)))), (57, .slice A_30 ((c_7.take (if (c_7.length : Int) < (if (b_4.length : Int) < (a_1.length : Int) then (b_4.length : Int) else (a_1.length : Int)) then (c_7.length : Int) else (if (b_4.length : Int) < (a_1.length : Int) then (b_4.length : Int) else (a_1.length : Int))).toNat).drop (0 : Int).toNat).length c_31)]) (H' := []) (B' := [Rd 0 Kd.u8 A_30 c_31 ((c_7.take (if (c_7.length : Int) < (if (b_4.length : Int) < (a_1.length : Int) then (b_4.length : Int) else (a_1.length : Int)) then (c_7.length : Int) else (if (b_4.length : Int) < (a_1.length : Int) then (b_4.length : Int) else (a_1.length : Int))).toNat).drop (0 : Int).toNat), Rd 0 Kd.u8 A_27 c_28 ((b_4.take (if (c_7.length : Int) < (if (b_4.length : Int) < (a_1.length : Int) then (b_4.length : Int) else (a_1.length : Int)) then (c_7.length : Int) else (if (b_4.length : Int) < (a_1.length : Int) then (b_4.length : Int) else (a_1.length : Int))).toNat).drop (0 : Int).toNat), Rd 0 Kd.u8 A_24 c_25 ((a_1.take (if (c_7.length : Int) < (if (b_4.length : Int) < (a_1.length : Int) then (b_4.length : Int) else (a_1.length : Int)) then (c_7.length : Int) else (if (b_4.length : Int) < (a_1.length : Int) then (b_4.length : Int) else (a_1.length : Int))).toNat).drop (0 : Int).toNat), Rd 0 Kd.u8 A_2 c_3 a_1, Rd 0 Kd.u8 A_5 c_6 b_4, Rd 0 Kd.u8 A_8 c_9 c_7, Ow 40 Kd.u8 A_16 c_17 x_15]) (ks := [44, 45, 46, 47, 48, 49, 50, 51, 52, 53, 55, 56, 57]) (by kernel_rfl) (by kernel_rfl) (by kernel_rfl) ?_
      refine GoF.take [10] [.p] (ks := [45, 54, 57]) (fu := 4) (li := [true, true, true, true, true, true, true, true, true, true, true, true, true, true, false, false, false, false]) (env' := [(45, .int .u32 r_33), (54, .int .u32 (bXor .u32 r_34 r_35)), (57, .slice A_30 ((c_7.take (if (c_7.length : Int) < (if (b_4.length : Int) < (a_1.length : Int) then (b_4.length : Int) else (a_1.length : Int)) then (c_7.length : Int) else (if (b_4.length : Int) < (a_1.length : Int) then (b_4.length : Int) else (a_1.length : Int))).toNat).drop (0 : Int).toNat).length c_31)]) (ps := []) (hk := []) (bk := []) (by kernel_rfl) trivial rfl rfl ?_
      refine OpTo.goF (i := 14) (by kernel_rfl) (hk := []) (bk := []) (GoO.call rfl (by kernel_rfl) (by kernel_rfl) (crc_Sum_ok n ((c_7.take (if (c_7.length : Int) < (if (b_4.length : Int) < (a_1.length : Int) then (b_4.length : Int) else (a_1.length : Int)) then (c_7.length : Int) else (if (b_4.length : Int) < (a_1.length : Int) then (b_4.length : Int) else (a_1.length : Int))).toNat).drop (0 : Int).toNat) A_30 c_31) [[0]] [] [] [(0, 0)] (hks := []) (bks := [0, 1, 2, 3, 4, 5, 6]) (by kernel_rfl) (by kernel_rfl) (by kernel_rfl) (.inl rfl) rfl rfl (by kernel_rfl) (by kernel_rfl) _ (fun _ _ => rfl) _ _ (fun _ _ => rfl) (fun _ _ => rfl) (fun _ _ => by kernel_rfl) (fun _ _ => by kernel_rfl) (fun r_36 x_37 => ⟨rfl, rfl, ?_⟩))
      refine GoF.shape (env' := [(45, .int .u32 r_33), (54, .int .u32 (bXor .u32 r_34 r_35)), (57, .slice A_30 ((c_7.take (if (c_7.length : Int) < (if (b_4.length : Int) < (a_1.length : Int) then (b_4.length : Int) else (a_1.length : Int)) then (c_7.length : Int) else (if (b_4.length : Int) < (a_1.length : Int) then (b_4.length : Int) else (a_1.length : Int))).toNat).drop (0 : Int).toNat).length c_31), (58, .int .u32 r_36)]) (H' := []) (B' := [Rd 0 Kd.u8 A_30 c_31 ((c_7.take (if (c_7.length : Int) < (if (b_4.length : Int) < (a_1.length : Int) then (b_4.length : Int) else (a_1.length : Int)) then (c_7.length : Int) else (if (b_4.length : Int) < (a_1.length : Int) then (b_4.length : Int) else (a_1.length : Int))).toNat).drop (0 : Int).toNat), Rd 0 Kd.u8 A_27 c_28 ((b_4.take (if (c_7.length : Int) < (if (b_4.length : Int) < (a_1.length : Int) then (b_4.length : Int) else (a_1.length : Int)) then (c_7.length : Int) else (if (b_4.length : Int) < (a_1.length : Int) then (b_4.length : Int) else (a_1.length : Int))).toNat).drop (0 : Int).toNat), Rd 0 Kd.u8 A_24 c_25 ((a_1.take (if (c_7.length : Int) < (if (b_4.length : Int) < (a_1.length : Int) then (b_4.length : Int) else (a_1.length : Int)) then (c_7.length : Int) else (if (b_4.length : Int) < (a_1.length : Int) then (b_4.length : Int) else (a_1.length : Int))).toNat).drop (0 : Int).toNat), Rd 0 Kd.u8 A_2 c_3 a_1, Rd 0 Kd.u8 A_5 c_6 b_4, Rd 0 Kd.u8 A_8 c_9 c_7, Ow 40 Kd.u8 A_16 c_17 x_15]) (ks := [45, 54, 57, 58]) (by kernel_rfl) (by kernel_rfl) (by kernel_rfl) ?_
      refine GoF.take [15, 16] [.p, .p] (ks := [60]) (fu := 1) (li := [true, true, true, true, true, true, true, true, true, true, true, true, true, true, true, true, true, false]) (env' := [(60, .bool (r_33 == (bXor .u32 (bXor .u32 r_34 r_35) r_36)))]) (ps := []) (hk := []) (bk := []) (by kernel_rfl) trivial rfl rfl ?_
      refine GoF.fin1 (i := 17) (hint := .p) (ps := []) (hk := []) (bk := []) (by kernel_rfl) rfl trivial (.inl rfl) ?_
      refine GoF.done (by kernel_rfl) ?_
      exact GoO.ret' (h := c5_33e) (hs := []) (ps := []) (hk := []) (bk := []) Try.func5 () (by kernel_rfl) trivial (by kernel_rfl) (by kernel_rfl)
theorem tontinelaw02_CrcThree_ok (n : Nat) (a_1 : (List UInt8)) (b_4 : (List UInt8)) (c_7 : (List UInt8)) (A_2 : Option Addr) (c_3 : Nat) (A_5 : Option Addr) (c_6 : Nat) (A_8 : Option Addr) (c_9 : Nat) :
    Meets Try.prog 5 [.slice A_2 a_1.length c_3, .slice A_5 b_4.length c_6, .slice A_8 c_7.length c_9] 0 [] [] [Rd 0 Kd.u8 A_2 c_3 a_1, Rd 0 Kd.u8 A_5 c_6 b_4, Rd 0 Kd.u8 A_8 c_9 c_7] (tontinelaw02_CrcThree.f n a_1 b_4 c_7) (tontinelaw02_CrcThree.R A_2 c_3 A_5 c_6 A_8 c_9) := by
  refine Meets.of (c := c5_0) (n := 61) Try.func5 (by kernel_rfl) (by kernel_rfl) (by kernel_rfl) fun w0 S0 => ?_
  unfold tontinelaw02_CrcThree.f
  show GoO (tontinelaw02_CrcThree.cx A_2 c_3 A_5 c_6 A_8 c_9 w0 S0) [(0, .slice A_2 a_1.length c_3), (1, .slice A_5 b_4.length c_6), (2, .slice A_8 c_7.length c_9)] [] [Rd 0 Kd.u8 A_2 c_3 a_1, Rd 0 Kd.u8 A_5 c_6 b_4, Rd 0 Kd.u8 A_8 c_9 c_7] [.code c5_0] _
  refine GoO.seq' c5_0e ?_
  refine GoO.region' (is := [0]) c5_1e (by kernel_rfl) ?_
  refine GoO.exec (is := [0]) (hs := [.p]) (rest := []) (ks := [0, 1, 2]) (env' := [(0, .slice A_2 a_1.length c_3), (1, .slice A_5 b_4.length c_6), (2, .slice A_8 c_7.length c_9)]) (H' := []) (ps := []) (by kernel_rfl) trivial ?_
  refine GoO.regionEnd ?_
  refine GoO.seq' c5_2e ?_
  refine GoO.seq' c5_3e ?_
  refine GoO.region' (is := [0, 1]) c5_4e (by kernel_rfl) ?_
  refine OpTo.go (GoO.call rfl (by kernel_rfl) (by kernel_rfl) (tontinelaw02_begun_ok n) [[0]] [] [] [] (hks := []) (bks := [0, 1, 2]) (by kernel_rfl) (by kernel_rfl) (by kernel_rfl) (.inl rfl) rfl rfl (by kernel_rfl) (by kernel_rfl) _ (fun _ _ => rfl) _ _ (fun _ _ => rfl) (fun _ _ => rfl) (fun _ _ => by kernel_rfl) (fun _ _ => by kernel_rfl) (fun r_10 x_41 => ?_))
  refine GoO.shape (env' := [(0, .slice A_2 a_1.length c_3), (1, .slice A_5 b_4.length c_6), (2, .slice A_8 c_7.length c_9), (10, .bool r_10)]) (H' := []) (B' := [Rd 0 Kd.u8 A_2 c_3 a_1, Rd 0 Kd.u8 A_5 c_6 b_4, Rd 0 Kd.u8 A_8 c_9 c_7]) (ks := [0, 1, 2, 10]) (by kernel_rfl) (by kernel_rfl) (by kernel_rfl) ?_
  refine GoO.exec (is := [1]) (hs := [.p]) (rest := []) (ks := [0, 1, 2, 11]) (env' := [(0, .slice A_2 a_1.length c_3), (1, .slice A_5 b_4.length c_6), (2, .slice A_8 c_7.length c_9), (11, .bool (!r_10))]) (H' := []) (ps := []) (by kernel_rfl) trivial ?_
  refine GoO.regionEnd ?_
  refine GoO.ite' c5_5e (by kernel_rfl) (fun h11 => ?_) (fun h11 => ?_)
  · refine GoO.seq' c5_6e ?_
    refine GoO.region' (is := [0]) c5_7e (by kernel_rfl) ?_
    refine GoO.exec (is := [0]) (hs := [.p]) (rest := []) (ks := [6]) (env' := [(6, .bool false)]) (H' := []) (ps := []) (by kernel_rfl) trivial ?_
    refine GoO.regionEnd ?_
    exact GoO.ret' (h := c5_8e) (hs := []) (ps := []) (hk := []) (bk := []) Try.func5 () (by kernel_rfl) trivial (by kernel_rfl) (by kernel_rfl)
  · refine GoO.skip' c5_9e ?_
    refine GoO.seq' c5_10e ?_
    refine GoO.region' (is := [0, 1, 2, 3, 4, 5, 6, 7]) c5_11e (by kernel_rfl) ?_
    refine GoO.exec (is := [0, 1, 2, 3, 4, 5, 6, 7]) (hs := [.p, .p, .p, .p, .p, .p, .p, .p]) (rest := []) (ks := [0, 1, 2, 7]) (env' := [(0, .slice A_2 a_1.length c_3), (1, .slice A_5 b_4.length c_6), (2, .slice A_8 c_7.length c_9), (7, .int .i64 (if (c_7.length : Int) < (if (b_4.length : Int) < (a_1.length : Int) then (b_4.length : Int) else (a_1.length : Int)) then (c_7.length : Int) else (if (b_4.length : Int) < (a_1.length : Int) then (b_4.length : Int) else (a_1.length : Int))))]) (H' := []) (ps := []) (by kernel_rfl) trivial ?_
    refine GoO.regionEnd ?_
    refine GoO.seq' c5_12e ?_
    refine GoO.region' (is := [0, 1, 2]) c5_13e (by kernel_rfl) ?_
    refine GoO.exec (is := [0]) (hs := [.p]) (rest := [1, 2]) (ks := [0, 1, 2, 7, 19]) (env' := [(0, .slice A_2 a_1.length c_3), (1, .slice A_5 b_4.length c_6), (2, .slice A_8 c_7.length c_9), (7, .int .i64 (if (c_7.length : Int) < (if (b_4.length : Int) < (a_1.length : Int) then (b_4.length : Int) else (a_1.length : Int)) then (c_7.length : Int) else (if (b_4.length : Int) < (a_1.length : Int) then (b_4.length : Int) else (a_1.length : Int)))), (19, .int .i64 (if (c_7.length : Int) < (if (b_4.length : Int) < (a_1.length : Int) then (b_4.length : Int) else (a_1.length : Int)) then (c_7.length : Int) else (if (b_4.length : Int) < (a_1.length : Int) then (b_4.length : Int) else (a_1.length : Int))))]) (H' := []) (ps := []) (by kernel_rfl) trivial ?_
    refine GoO.guard (fun h14 => ?_)
    refine OpTo.go (GoO.mk (e := 5) (k1 := .i64) (k2 := .i64) (K := Kd.u8) (n := (if (c_7.length : Int) < (if (b_4.length : Int) < (a_1.length : Int) then (b_4.length : Int) else (a_1.length : Int)) then (c_7.length : Int) else (if (b_4.length : Int) < (a_1.length : Int) then (b_4.length : Int) else (a_1.length : Int)))) (c := (if (c_7.length : Int) < (if (b_4.length : Int) < (a_1.length : Int) then (b_4.length : Int) else (a_1.length : Int)) then (c_7.length : Int) else (if (b_4.length : Int) < (a_1.length : Int) then (b_4.length : Int) else (a_1.length : Int)))) (bytes := 1) (zs := [.int .u8 0]) rfl (by kernel_rfl) (by kernel_rfl) (by kernel_rfl) (by kernel_rfl) ((0 : UInt8)) (fun _ _ => rfl) h14.1 h14.2.1 (by kernel_rfl) h14.2.2 40 _ (fun _ _ => rfl) (fun A_12 c_13 => ?_))
    refine GoO.exec (is := [2]) (hs := [.p]) (rest := []) (ks := [0, 1, 2, 7, 8]) (env' := [(0, .slice A_2 a_1.length c_3), (1, .slice A_5 b_4.length c_6), (2, .slice A_8 c_7.length c_9), (7, .int .i64 (if (c_7.length : Int) < (if (b_4.length : Int) < (a_1.length : Int) then (b_4.length : Int) else (a_1.length : Int)) then (c_7.length : Int) else (if (b_4.length : Int) < (a_1.length : Int) then (b_4.length : Int) else (a_1.length : Int)))), (8, .slice A_12 (List.replicate (if (c_7.length : Int) < (if (b_4.length : Int) < (a_1.length : Int) then (b_4.length : Int) else (a_1.length : Int)) then (c_7.length : Int) else (if (b_4.length : Int) < (a_1.length : Int) then (b_4.length : Int) else (a_1.length : Int))).toNat (0 : UInt8)).length c_13)]) (H' := []) (ps := []) (by kernel_rfl) trivial ?_
    refine GoO.regionEnd ?_
    refine GoO.seq' c5_14e ?_
    refine GoO.seq' c5_15e ?_
    refine GoO.region' (is := [0, 1, 2]) c5_16e (by kernel_rfl) ?_
    refine GoO.exec (is := [0, 1, 2]) (hs := [.p, .p, .p]) (rest := []) (ks := [0, 1, 2, 7, 8, 22, 23]) (env' := [(0, .slice A_2 a_1.length c_3), (1, .slice A_5 b_4.length c_6), (2, .slice A_8 c_7.length c_9), (7, .int .i64 (if (c_7.length : Int) < (if (b_4.length : Int) < (a_1.length : Int) then (b_4.length : Int) else (a_1.length : Int)) then (c_7.length : Int) else (if (b_4.length : Int) < (a_1.length : Int) then (b_4.length : Int) else (a_1.length : Int)))), (8, .slice A_12 (List.replicate (if (c_7.length : Int) < (if (b_4.length : Int) < (a_1.length : Int) then (b_4.length : Int) else (a_1.length : Int)) then (c_7.length : Int) else (if (b_4.length : Int) < (a_1.length : Int) then (b_4.length : Int) else (a_1.length : Int))).toNat (0 : UInt8)).length c_13), (22, .int .i64 ((List.replicate (if (c_7.length : Int) < (if (b_4.length : Int) < (a_1.length : Int) then (b_4.length : Int) else (a_1.length : Int)) then (c_7.length : Int) else (if (b_4.length : Int) < (a_1.length : Int) then (b_4.length : Int) else (a_1.length : Int))).toNat (0 : UInt8)).length : Int)), (23, .int .i64 0)]) (H' := []) (ps := []) (by kernel_rfl) trivial ?_
    refine GoO.regionEnd ?_
    refine GoO.block' c5_17e ?_
    refine GoO.loop' c5_18e ?_
    exact GoO.sub (ks := [0, 1, 2, 7, 8, 22, 23]) (hk := []) (bk := [1, 2, 3, 0]) (by kernel_rfl) (by kernel_rfl) (by kernel_rfl) (tontinelaw02_CrcThree_l0_ok n a_1 b_4 c_7 A_2 c_3 A_5 c_6 A_8 c_9 w0 S0 n (List.replicate (if (c_7.length : Int) < (if (b_4.length : Int) < (a_1.length : Int) then (b_4.length : Int) else (a_1.length : Int)) then (c_7.length : Int) else (if (b_4.length : Int) < (a_1.length : Int) then (b_4.length : Int) else (a_1.length : Int))).toNat (0 : UInt8)) 0 A_12 c_13)
end Go.GL
