import Derived.Test.YtfeddlhkiomdaaaWalkCommandRepliesP1
import Derived.Test.YtfeddlhkiomdaaaKindsT1
import Derived.Test.YtfeddlhkiomdaaaProg
set_option linter.unusedVariables false
set_option linter.unusedSimpArgs false
set_option maxRecDepth 100000
namespace Go.GL
open Go Go.Proofs
theorem tontineref03_Num_l0_ok (n : Nat) (w0 : World) (S0 : Fam) :
    ∀ (k : Nat) (x_2 : Int) (s_3 : (List UInt8)) (n_4 : Int), GoO (tontineref03_Num.cx w0 S0) [(0, .int .u64 x_2), (3, .string (bs s_3)), (4, .int .i64 n_4)] [] [] [.code c65_9, .inLoop c65_9, .inBlock 0, .code c65_21] (tontineref03_Num.l0 n k x_2 s_3 n_4) := by
  intro k
  induction k with
  | zero => intros; rw [tontineref03_Num.l0.eq_1]; exact GoO.stop
  | succ k ih0 =>
    intro x_2 s_3 n_4
    rw [tontineref03_Num.l0.eq_2]
    refine GoO.seq' c65_9e ?_
    refine GoO.seq' c65_10e ?_
    refine GoO.region' (is := [0, 1]) c65_11e (by kernel_rfl) ?_
    refine GoO.exec (is := [0, 1]) (hs := [.p, .p]) (rest := []) (ks := [0, 3, 4, 6]) (env' := [(0, .int .u64 x_2), (3, .string (bs s_3)), (4, .int .i64 n_4), (6, .bool (decide (x_2 > 0)))]) (H' := []) (ps := []) (by kernel_rfl) trivial ?_
    refine GoO.regionEnd ?_
    refine GoO.ite' c65_12e (by kernel_rfl) (fun h5 => ?_) (fun h5 => ?_)
    · refine GoO.skip' c65_13e ?_
      refine GoO.block' c65_15e ?_
      refine GoO.seq' c65_16e ?_
      refine GoO.region' (is := [0, 1, 2, 3, 4, 5, 6, 7]) c65_17e (by kernel_rfl) ?_
      refine GoO.exec (is := [0, 1, 2]) (hs := [.p, .p, .p]) (rest := [3, 4, 5, 6, 7]) (ks := [0, 3, 4, 9]) (env' := [(0, .int .u64 x_2), (3, .string (bs s_3)), (4, .int .i64 n_4), (9, .int .u8 (wu8 (x_2.tmod 256)))]) (H' := []) (ps := [(256 : Int) ≠ 0]) (by kernel_rfl) (And.intro (by decide) trivial) ?_
      refine OpTo.go (GoO.lit (e := 5) (K := Kd.u8) rfl (by kernel_rfl) (by kernel_rfl) (cs := [.int .u8 (wu8 (x_2.tmod 256))]) (by kernel_rfl) [u8of (x_2.tmod 256)] (by kernel_rfl) (by kernel_rfl) (fun w S hB => ⟨[.int .u8 (wu8 (x_2.tmod 256))], _, rfl, congrArg (fun v => [v]) (u8cell _), rfl⟩) 40 _ (fun _ _ => rfl) (fun A_6 c_7 => ?_))
      refine OpTo.go (GoO.toStr (e := 5) (A := A_6) (c := c_7) (xs := [u8of (x_2.tmod 256)]) (j := 0) rfl (by kernel_rfl) (by kernel_rfl) (by kernel_rfl) (by kernel_rfl) rfl Reads.own rfl rfl ?_)
      refine GoO.guard (fun h8 => ?_)
      refine GoO.exec (is := [5, 6, 7]) (hs := [.p, .p, .p]) (rest := []) (ks := [0, 3, 4]) (env' := [(0, .int .u64 x_2), (3, .string (bs ([u8of (x_2.tmod 256)] ++ s_3))), (4, .int .i64 n_4)]) (H' := []) (ps := [([u8of (x_2.tmod 256)] : List UInt8).length + s_3.length ≤ i64max]) (by kernel_rfl) (And.intro h8 trivial) ?_
      refine GoO.regionEnd ?_
      refine GoO.seq' c65_18e ?_
      refine GoO.region' (is := [0, 1, 2]) c65_19e (by kernel_rfl) ?_
      refine GoO.exec (is := [0, 1, 2]) (hs := [.p, .p, .p]) (rest := []) (ks := [0, 3, 4]) (env' := [(0, .int .u64 (wu64 (x_2.tdiv 256))), (3, .string (bs ([u8of (x_2.tmod 256)] ++ s_3))), (4, .int .i64 n_4)]) (H' := []) (ps := [(256 : Int) ≠ 0]) (by kernel_rfl) (And.intro (by decide) trivial) ?_
      refine GoO.regionEnd ?_
      refine GoO.region' (is := [0, 1, 2]) c65_20e (by kernel_rfl) ?_
      refine GoO.exec (is := [0, 1, 2]) (hs := [.p, .p, .p]) (rest := []) (ks := [0, 3, 4]) (env' := [(0, .int .u64 (wu64 (x_2.tdiv 256))), (3, .string (bs ([u8of (x_2.tmod 256)] ++ s_3))), (4, .int .i64 (wi64 (n_4 + 1)))]) (H' := []) (ps := []) (by kernel_rfl) trivial ?_
      refine GoO.regionEnd ?_
      refine GoO.inBlock ?_
      refine GoO.inLoop ?_
      exact GoO.sub (ks := [0, 3, 4]) (hk := []) (bk := []) (by kernel_rfl) (by kernel_rfl) (by kernel_rfl) (ih0 (wu64 (x_2.tdiv 256)) ([u8of (x_2.tmod 256)] ++ s_3) (wi64 (n_4 + 1)))
    · refine GoO.exit' c65_14e rfl ?_
      refine GoO.seq' c65_21e ?_
      refine GoO.region' (is := [0, 1, 2, 3, 4, 5, 6]) c65_22e (by kernel_rfl) ?_
      refine GoO.exec (is := [0, 1]) (hs := [.p, .p]) (rest := [2, 3, 4, 5, 6]) (ks := [3, 19]) (env' := [(3, .string (bs s_3)), (19, .int .u8 (wu8 n_4))]) (H' := []) (ps := []) (by kernel_rfl) trivial ?_
      refine OpTo.go (GoO.lit (e := 5) (K := Kd.u8) rfl (by kernel_rfl) (by kernel_rfl) (cs := [.int .u8 (wu8 n_4)]) (by kernel_rfl) [u8of n_4] (by kernel_rfl) (by kernel_rfl) (fun w S hB => ⟨[.int .u8 (wu8 n_4)], _, rfl, congrArg (fun v => [v]) (u8cell _), rfl⟩) 41 _ (fun _ _ => rfl) (fun A_9 c_10 => ?_))
      refine OpTo.go (GoO.toStr (e := 5) (A := A_9) (c := c_10) (xs := [u8of n_4]) (j := 0) rfl (by kernel_rfl) (by kernel_rfl) (by kernel_rfl) (by kernel_rfl) rfl Reads.own rfl rfl ?_)
      refine GoO.guard (fun h11 => ?_)
      refine GoO.exec (is := [4, 5, 6]) (hs := [.p, .p, .p]) (rest := []) (ks := [2]) (env' := [(2, .string (bs ([u8of n_4] ++ s_3)))]) (H' := []) (ps := [([u8of n_4] : List UInt8).length + s_3.length ≤ i64max]) (by kernel_rfl) (And.intro h11 trivial) ?_
      refine GoO.regionEnd ?_
      exact GoO.ret' (h := c65_23e) (hs := []) (ps := []) (hk := []) (bk := []) Try.func65 () (by kernel_rfl) trivial (by kernel_rfl) (by kernel_rfl)
theorem tontineref03_Num_ok (n : Nat) (x_1 : Int) :
    Meets Try.prog 65 [.int .u64 x_1] 0 [] [] [] (tontineref03_Num.f n x_1) (tontineref03_Num.R) := by
  refine Meets.of (c := c65_0) (n := 24) Try.func65 (by kernel_rfl) (by kernel_rfl) (by kernel_rfl) fun w0 S0 => ?_
  unfold tontineref03_Num.f
  show GoO (tontineref03_Num.cx w0 S0) [(0, .int .u64 x_1)] [] [] [.code c65_0] _
  refine GoO.seq' c65_0e ?_
  refine GoO.region' (is := [0]) c65_1e (by kernel_rfl) ?_
  refine GoO.exec (is := [0]) (hs := [.p]) (rest := []) (ks := [0]) (env' := [(0, .int .u64 x_1)]) (H' := []) (ps := []) (by kernel_rfl) trivial ?_
  refine GoO.regionEnd ?_
  refine GoO.seq' c65_2e ?_
  refine GoO.region' (is := [0]) c65_3e (by kernel_rfl) ?_
  refine GoO.exec (is := [0]) (hs := [.p]) (rest := []) (ks := [0, 3]) (env' := [(0, .int .u64 x_1), (3, .string (bs []))]) (H' := []) (ps := []) (by kernel_rfl) trivial ?_
  refine GoO.regionEnd ?_
  refine GoO.seq' c65_4e ?_
  refine GoO.region' (is := [0]) c65_5e (by kernel_rfl) ?_
  refine GoO.exec (is := [0]) (hs := [.p]) (rest := []) (ks := [0, 3, 4]) (env' := [(0, .int .u64 x_1), (3, .string (bs [])), (4, .int .i64 0)]) (H' := []) (ps := []) (by kernel_rfl) trivial ?_
  refine GoO.regionEnd ?_
  refine GoO.seq' c65_6e ?_
  refine GoO.block' c65_7e ?_
  refine GoO.loop' c65_8e ?_
  exact GoO.sub (ks := [0, 3, 4]) (hk := []) (bk := []) (by kernel_rfl) (by kernel_rfl) (by kernel_rfl) (tontineref03_Num_l0_ok n w0 S0 n x_1 [] 0)

/-! tontine/tontineref16.nums -/
noncomputable def c51_0 : Code := bodyOf Try.f51
noncomputable def c51_1 : Code := cdL c51_0
noncomputable def c51_2 : Code := cdR c51_0
noncomputable def c51_3 : Code := cdL c51_2
noncomputable def c51_4 : Code := cdR c51_2
noncomputable def c51_5 : Code := cdL c51_4
noncomputable def c51_6 : Code := cdL c51_5
noncomputable def c51_7 : Code := cdR c51_5
noncomputable def c51_8 : Code := cdL c51_7
noncomputable def c51_9 : Code := cdL c51_8
noncomputable def c51_10 : Code := cdL c51_9
noncomputable def c51_11 : Code := cdL c51_10
noncomputable def c51_12 : Code := cdR c51_10
noncomputable def c51_13 : Code := cdL c51_12
noncomputable def c51_14 : Code := cdR c51_12
noncomputable def c51_15 : Code := cdR c51_9
noncomputable def c51_16 : Code := cdL c51_15
noncomputable def c51_17 : Code := cdL c51_16
noncomputable def c51_18 : Code := cdR c51_15
noncomputable def c51_19 : Code := cdR c51_4
noncomputable def c51_20 : Code := cdL c51_19
noncomputable def c51_21 : Code := cdR c51_19
noncomputable def r51_1 : Array Oper := cdO c51_1
noncomputable def r51_3 : Array Oper := cdO c51_3
noncomputable def r51_6 : Array Oper := cdO c51_6
noncomputable def r51_11 : Array Oper := cdO c51_11
noncomputable def r51_17 : Array Oper := cdO c51_17
noncomputable def r51_18 : Array Oper := cdO c51_18
noncomputable def r51_20 : Array Oper := cdO c51_20
theorem c51_0e : c51_0 = .seq c51_1 c51_2 := by kernel_rfl
theorem c51_1e : c51_1 = .region 0 r51_1 false := by kernel_rfl
theorem c51_2e : c51_2 = .seq c51_3 c51_4 := by kernel_rfl
theorem c51_3e : c51_3 = .region 1 r51_3 false := by kernel_rfl
theorem c51_4e : c51_4 = .seq c51_5 c51_19 := by kernel_rfl
theorem c51_5e : c51_5 = .seq c51_6 c51_7 := by kernel_rfl
theorem c51_6e : c51_6 = .region 2 r51_6 false := by kernel_rfl
theorem c51_7e : c51_7 = .block 0 c51_8 := by kernel_rfl
theorem c51_8e : c51_8 = .loop c51_9 := by kernel_rfl
theorem c51_9e : c51_9 = .seq c51_10 c51_15 := by kernel_rfl
theorem c51_10e : c51_10 = .seq c51_11 c51_12 := by kernel_rfl
theorem c51_11e : c51_11 = .region 3 r51_11 false := by kernel_rfl
theorem c51_12e : c51_12 = .cond (cdC c51_12) c51_13 c51_14 := by kernel_rfl
theorem c51_13e : c51_13 = .skip := by kernel_rfl
theorem c51_14e : c51_14 = .exit 0 := by kernel_rfl
theorem c51_15e : c51_15 = .seq c51_16 c51_18 := by kernel_rfl
theorem c51_16e : c51_16 = .block 1 c51_17 := by kernel_rfl
theorem c51_17e : c51_17 = .region 5 r51_17 false := by kernel_rfl
theorem c51_18e : c51_18 = .region 4 r51_18 false := by kernel_rfl
theorem c51_19e : c51_19 = .seq c51_20 c51_21 := by kernel_rfl
theorem c51_20e : c51_20 = .region 6 r51_20 false := by kernel_rfl
theorem c51_21e : c51_21 = .ret := by kernel_rfl
noncomputable def tontineref16_nums.R (A_2 : Option Addr) (c_3 : Nat) : Pst (List UInt8) where
  ε := Unit
  v := fun r x => .string (bs r)
  H := fun r x => []
  B := fun r x => []
noncomputable def tontineref16_nums.cx (A_2 : Option Addr) (c_3 : Nat) (w0 : World) (S0 : Fam) : Cx (List UInt8) := ⟨Try.prog, 51, Try.f51, 19, w0, S0, [], 0, tontineref16_nums.R A_2 c_3⟩
theorem tontineref16_nums_l0_ok (n : Nat) (l_1 : (List Int)) (A_2 : Option Addr) (c_3 : Nat) (w0 : World) (S0 : Fam) :
    ∀ (k : Nat) (s_4 : (List UInt8)) (i_5 : Int), GoO (tontineref16_nums.cx A_2 c_3 w0 S0) [(0, .slice A_2 l_1.length c_3), (3, .string (bs s_4)), (4, .int .i64 i_5)] [] [Rd 0 (Kd.int .u64) A_2 c_3 l_1] [.code c51_9, .inLoop c51_9, .inBlock 0, .code c51_19] (tontineref16_nums.l0 n l_1 k s_4 i_5) := by
  intro k
  induction k with
  | zero => intros; rw [tontineref16_nums.l0.eq_1]; exact GoO.stop
  | succ k ih0 =>
    intro s_4 i_5
    rw [tontineref16_nums.l0.eq_2]
    refine GoO.seq' c51_9e ?_
    refine GoO.seq' c51_10e ?_
    refine GoO.region' (is := [0, 1, 2, 3]) c51_11e (by kernel_rfl) ?_
    refine GoO.exec (is := [0, 1, 2, 3]) (hs := [.p, .p, .p, .p]) (rest := []) (ks := [0, 3, 4, 8]) (env' := [(0, .slice A_2 l_1.length c_3), (3, .string (bs s_4)), (4, .int .i64 i_5), (8, .bool (decide (i_5 < (l_1.length : Int))))]) (H' := []) (ps := []) (by kernel_rfl) trivial ?_
    refine GoO.regionEnd ?_
    refine GoO.ite' c51_12e (by kernel_rfl) (fun h6 => ?_) (fun h6 => ?_)
    · refine GoO.skip' c51_13e ?_
      refine GoO.seq' c51_15e ?_
      refine GoO.block' c51_16e ?_
      refine GoO.region' (is := [0, 1, 2, 3, 4, 5, 6, 7]) c51_17e (by kernel_rfl) ?_
      refine GoO.exec (is := [0, 1, 2]) (hs := [.p, .p, .p]) (rest := [3, 4, 5, 6, 7]) (ks := [0, 4, 11, 12, 13]) (env' := [(0, .slice A_2 l_1.length c_3), (4, .int .i64 i_5), (11, .string (bs s_4)), (12, .slice A_2 l_1.length c_3), (13, .int .i64 i_5)]) (H' := []) (ps := []) (by kernel_rfl) trivial ?_
      refine GoO.guard (fun h7 => ?_)
      refine OpTo.go (GoO.idx (kk := .i64) (e := 22) (K := (Kd.int .u64)) (A := A_2) (c := c_3) (xs := l_1) (iv := i_5) (j := 0) rfl (by kernel_rfl) (by kernel_rfl) (by kernel_rfl) (by kernel_rfl) rfl Reads.rd rfl h7.1 h7.2 (by decide) rfl ?_)
      refine OpTo.go (GoO.ldE' (K := (Kd.int .u64)) (A := A_2) (c := c_3) (xs := l_1) (iN := i_5.toNat) (off := 0) (j := 0) rfl (by kernel_rfl) rfl Reads.rd (idx_lt h7.1 h7.2) (by decide) (Opn.flat _ _ _ _ _) (v := fun _ => .int .u64 (rdL l_1 i_5)) (fun _ => by kernel_rfl) _ (fun _ => rfl) (fun _ => ?_))
      refine OpTo.go (GoO.call rfl (by kernel_rfl) (by kernel_rfl) (tontineref03_Num_ok n (rdL l_1 i_5)) [[0]] [] [] [] (hks := []) (bks := [0]) (by kernel_rfl) (by kernel_rfl) (by kernel_rfl) (.inl rfl) rfl rfl (by kernel_rfl) (by kernel_rfl) _ (fun _ _ => rfl) _ _ (fun _ _ => rfl) (fun _ _ => rfl) (fun _ _ => by kernel_rfl) (fun _ _ => by kernel_rfl) (fun r_8 x_10 => ?_))
      refine GoO.shape (env' := [(0, .slice A_2 l_1.length c_3), (4, .int .i64 i_5), (11, .string (bs s_4)), (12, .slice A_2 l_1.length c_3), (13, .int .i64 i_5), (14, elemP A_2 i_5.toNat 1 0), (15, .int .u64 (rdL l_1 i_5)), (16, .string (bs r_8))]) (H' := []) (B' := [Rd 0 (Kd.int .u64) A_2 c_3 l_1]) (ks := [0, 4, 11, 12, 13, 14, 15, 16]) (by kernel_rfl) (by kernel_rfl) (by kernel_rfl) ?_
      refine GoO.guard (fun h9 => ?_)
      refine GoO.exec (is := [6, 7]) (hs := [.p, .p]) (rest := []) (ks := [0, 3, 4]) (env' := [(0, .slice A_2 l_1.length c_3), (3, .string (bs (s_4 ++ r_8))), (4, .int .i64 i_5)]) (H' := []) (ps := [s_4.length + r_8.length ≤ i64max]) (by kernel_rfl) (And.intro h9 trivial) ?_
      refine GoO.regionEnd ?_
      refine GoO.inBlock ?_
      refine GoO.region' (is := [0, 1, 2]) c51_18e (by kernel_rfl) ?_
      refine GoO.exec (is := [0, 1, 2]) (hs := [.p, .p, .p]) (rest := []) (ks := [0, 3, 4]) (env' := [(0, .slice A_2 l_1.length c_3), (3, .string (bs (s_4 ++ r_8))), (4, .int .i64 (wi64 (i_5 + 1)))]) (H' := []) (ps := []) (by kernel_rfl) trivial ?_
      refine GoO.regionEnd ?_
      refine GoO.inLoop ?_
      exact GoO.sub (ks := [0, 3, 4]) (hk := []) (bk := [0]) (by kernel_rfl) (by kernel_rfl) (by kernel_rfl) (ih0 (s_4 ++ r_8) (wi64 (i_5 + 1)))
    · refine GoO.exit' c51_14e rfl ?_
      refine GoO.seq' c51_19e ?_
      refine GoO.region' (is := [0, 1]) c51_20e (by kernel_rfl) ?_
      refine GoO.exec (is := [0, 1]) (hs := [.p, .p]) (rest := []) (ks := [2]) (env' := [(2, .string (bs s_4))]) (H' := []) (ps := []) (by kernel_rfl) trivial ?_
      refine GoO.regionEnd ?_
      exact GoO.ret' (h := c51_21e) (hs := []) (ps := []) (hk := []) (bk := []) Try.func51 () (by kernel_rfl) trivial (by kernel_rfl) (by kernel_rfl)
theorem tontineref16_nums_ok (n : Nat) (l_1 : (List Int)) (A_2 : Option Addr) (c_3 : Nat) :
    Meets Try.prog 51 [.slice A_2 l_1.length c_3] 0 [] [] [Rd 0 (Kd.int .u64) A_2 c_3 l_1] (tontineref16_nums.f n l_1) (tontineref16_nums.R A_2 c_3) := by
  refine Meets.of (c := c51_0) (n := 19) Try.func51 (by kernel_rfl) (by kernel_rfl) (by kernel_rfl) fun w0 S0 => ?_
  unfold tontineref16_nums.f
  show GoO (tontineref16_nums.cx A_2 c_3 w0 S0) [(0, .slice A_2 l_1.length c_3)] [] [Rd 0 (Kd.int .u64) A_2 c_3 l_1] [.code c51_0] _
  refine GoO.seq' c51_0e ?_
  refine GoO.region' (is := [0]) c51_1e (by kernel_rfl) ?_
  refine GoO.exec (is := [0]) (hs := [.p]) (rest := []) (ks := [0]) (env' := [(0, .slice A_2 l_1.length c_3)]) (H' := []) (ps := []) (by kernel_rfl) trivial ?_
  refine GoO.regionEnd ?_
  refine GoO.seq' c51_2e ?_
  refine GoO.region' (is := [0]) c51_3e (by kernel_rfl) ?_
  refine GoO.exec (is := [0]) (hs := [.p]) (rest := []) (ks := [0, 3]) (env' := [(0, .slice A_2 l_1.length c_3), (3, .string (bs []))]) (H' := []) (ps := []) (by kernel_rfl) trivial ?_
  refine GoO.regionEnd ?_
  refine GoO.seq' c51_4e ?_
  refine GoO.seq' c51_5e ?_
  refine GoO.region' (is := [0]) c51_6e (by kernel_rfl) ?_
  refine GoO.exec (is := [0]) (hs := [.p]) (rest := []) (ks := [0, 3, 4]) (env' := [(0, .slice A_2 l_1.length c_3), (3, .string (bs [])), (4, .int .i64 0)]) (H' := []) (ps := []) (by kernel_rfl) trivial ?_
  refine GoO.regionEnd ?_
  refine GoO.block' c51_7e ?_
  refine GoO.loop' c51_8e ?_
  exact GoO.sub (ks := [0, 3, 4]) (hk := []) (bk := [0]) (by kernel_rfl) (by kernel_rfl) (by kernel_rfl) (tontineref16_nums_l0_ok n l_1 A_2 c_3 w0 S0 n [] 0)

/-! tontine/tontineref16.Answer -/
noncomputable def c35_0 : Code := bodyOf Try.f35
noncomputable def c35_1 : Code := cdL c35_0
noncomputable def c35_2 : Code := cdR c35_0
noncomputable def c35_3 : Code := cdL c35_2
noncomputable def c35_4 : Code := cdR c35_2
noncomputable def r35_1 : Array Oper := cdO c35_1
noncomputable def r35_3 : Array Oper := cdO c35_3
theorem c35_0e : c35_0 = .seq c35_1 c35_2 := by kernel_rfl
theorem c35_1e : c35_1 = .region 0 r35_1 false := by kernel_rfl
theorem c35_2e : c35_2 = .seq c35_3 c35_4 := by kernel_rfl
theorem c35_3e : c35_3 = .region 1 r35_3 false := by kernel_rfl
theorem c35_4e : c35_4 = .ret := by kernel_rfl
noncomputable def tontineref16_Answer.R : Pst (List UInt8) where
  ε := Unit
  v := fun r x => .string (bs r)
  H := fun r x => []
  B := fun r x => []
noncomputable def tontineref16_Answer.cx (w0 : World) (S0 : Fam) : Cx (List UInt8) := ⟨Try.prog, 35, Try.f35, 13, w0, S0, [], 0, tontineref16_Answer.R⟩
theorem tontineref16_Answer_ok (n : Nat) (y_1 : T_api_Reply) :
    Meets Try.prog 35 [.agg ⟨[.int .i64 y_1.Err, .int .u64 y_1.Num, .int .u64 y_1.Extra]⟩] 0 [] [] [] (tontineref16_Answer.f n y_1) (tontineref16_Answer.R) := by
  refine Meets.of (c := c35_0) (n := 13) Try.func35 (by kernel_rfl) (by kernel_rfl) (by kernel_rfl) fun w0 S0 => ?_
  unfold tontineref16_Answer.f
  show GoO (tontineref16_Answer.cx w0 S0) [(0, .agg ⟨[.int .i64 y_1.Err, .int .u64 y_1.Num, .int .u64 y_1.Extra]⟩)] [] [] [.code c35_0] _
  refine GoO.seq' c35_0e ?_
  refine GoO.region' (is := [0, 1]) c35_1e (by kernel_rfl) ?_
  refine OpTo.go (GoO.new rfl 40 (cs := [.int .i64 y_1.Err, .int .u64 y_1.Num, .int .u64 y_1.Extra]) (by kernel_rfl) _ (fun _ => rfl) (fun b_2 => ?_))
  refine GoO.exec (is := [1]) (hs := [.p]) (rest := []) (ks := [1]) (env' := [(1, .pointer (some ⟨b_2, 0, none⟩))]) (H' := [⟨40, b_2, [.int .i64 y_1.Err, .int .u64 y_1.Num, .int .u64 y_1.Extra]⟩]) (ps := []) (by kernel_rfl) trivial ?_
  refine GoO.regionEnd ?_
  refine GoO.seq' c35_2e ?_
  refine GoO.region' (is := [0, 1, 2, 3, 4, 5, 6, 7, 8, 9, 10]) c35_3e (by kernel_rfl) ?_
  refine GoO.exec (is := [0, 1, 2, 3, 4, 5, 6, 7]) (hs := [.p, .b 0, .p, .p, .p, .b 0, .p, .b 0]) (rest := [8, 9, 10]) (ks := [6, 8, 10]) (env' := [(6, .int .u64 (wu64 (if y_1.Err > 0 then y_1.Err else 0))), (8, .int .u64 y_1.Num), (10, .int .u64 y_1.Extra)]) (H' := [⟨40, b_2, [.int .i64 y_1.Err, .int .u64 y_1.Num, .int .u64 y_1.Extra]⟩]) (ps := [b_2 = b_2, b_2 = b_2, b_2 = b_2]) (by kernel_rfl) (And.intro rfl (And.intro rfl (And.intro rfl trivial))) ?_
  refine OpTo.go (GoO.lit (e := 22) (K := (Kd.int .u64)) rfl (by kernel_rfl) (by kernel_rfl) (cs := [.int .u64 (wu64 (if y_1.Err > 0 then y_1.Err else 0)), .int .u64 y_1.Num, .int .u64 y_1.Extra]) (by kernel_rfl) [wu64 (if y_1.Err > 0 then y_1.Err else 0), y_1.Num, y_1.Extra] (by kernel_rfl) (by kernel_rfl) (fun w S hB => ⟨[.int .u64 (wu64 (if y_1.Err > 0 then y_1.Err else 0))], _, rfl, rfl, ⟨[.int .u64 y_1.Num], _, rfl, rfl, ⟨[.int .u64 y_1.Extra], _, rfl, rfl, rfl⟩⟩⟩) 41 _ (fun _ _ => rfl) (fun A_3 c_4 => ?_))
  refine GoO.view (j := 0) rfl ?_
  refine OpTo.go (GoO.call rfl (by kernel_rfl) (by kernel_rfl) (tontineref16_nums_ok n [wu64 (if y_1.Err > 0 then y_1.Err else 0), y_1.Num, y_1.Extra] A_3 c_4) [[0, 41]] [] [] [(0, 1)] (hks := [0]) (bks := [0]) (by kernel_rfl) (by kernel_rfl) (by kernel_rfl) (.inr (fun _ _ => by simp [tontineref16_nums.R])) rfl rfl (by kernel_rfl) (by kernel_rfl) _ (fun _ _ => rfl) _ _ (fun _ _ => rfl) (fun _ _ => rfl) (fun _ _ => by kernel_rfl) (fun _ _ => by kernel_rfl) (fun r_5 x_6 => ?_))
  refine GoO.shape (env' := [(6, .int .u64 (wu64 (if y_1.Err > 0 then y_1.Err else 0))), (8, .int .u64 y_1.Num), (10, .int .u64 y_1.Extra), (11, .slice A_3 [wu64 (if y_1.Err > 0 then y_1.Err else 0), y_1.Num, y_1.Extra].length c_4), (12, .string (bs r_5))]) (H' := [⟨40, b_2, [.int .i64 y_1.Err, .int .u64 y_1.Num, .int .u64 y_1.Extra]⟩]) (B' := [Ow 41 (Kd.int .u64) A_3 c_4 [wu64 (if y_1.Err > 0 then y_1.Err else 0), y_1.Num, y_1.Extra]]) (ks := [6, 8, 10, 11, 12]) (by kernel_rfl) (by kernel_rfl) (by kernel_rfl) ?_
  refine GoO.exec (is := [10]) (hs := [.p]) (rest := []) (ks := [2]) (env' := [(2, .string (bs r_5))]) (H' := [⟨40, b_2, [.int .i64 y_1.Err, .int .u64 y_1.Num, .int .u64 y_1.Extra]⟩]) (ps := []) (by kernel_rfl) trivial ?_
  refine GoO.regionEnd ?_
  exact GoO.ret' (h := c35_4e) (hs := []) (ps := []) (hk := []) (bk := []) Try.func35 () (by kernel_rfl) trivial (by kernel_rfl) (by kernel_rfl)

/-! tontine/tontinelaw16.CommandReplies -/
noncomputable def c9_0 : Code := bodyOf Try.f9
noncomputable def c9_1 : Code := cdL c9_0
noncomputable def c9_2 : Code := cdR c9_0
noncomputable def c9_3 : Code := cdL c9_2
noncomputable def c9_4 : Code := cdL c9_3
noncomputable def c9_5 : Code := cdR c9_3
noncomputable def c9_6 : Code := cdL c9_5
noncomputable def c9_7 : Code := cdL c9_6
noncomputable def c9_8 : Code := cdR c9_6
noncomputable def c9_9 : Code := cdR c9_5
noncomputable def c9_10 : Code := cdR c9_2
noncomputable def c9_11 : Code := cdL c9_10
noncomputable def c9_12 : Code := cdR c9_10
noncomputable def c9_13 : Code := cdL c9_12
noncomputable def c9_14 : Code := cdR c9_12
noncomputable def c9_15 : Code := cdL c9_14
noncomputable def c9_16 : Code := cdR c9_14
noncomputable def c9_17 : Code := cdL c9_16
noncomputable def c9_18 : Code := cdR c9_16
noncomputable def c9_19 : Code := cdL c9_18
noncomputable def c9_20 : Code := cdR c9_18
noncomputable def r9_1 : Array Oper := cdO c9_1
noncomputable def r9_4 : Array Oper := cdO c9_4
noncomputable def r9_7 : Array Oper := cdO c9_7
noncomputable def r9_11 : Array Oper := cdO c9_11
noncomputable def r9_13 : Array Oper := cdO c9_13
noncomputable def r9_15 : Array Oper := cdO c9_15
noncomputable def r9_17 : Array Oper := cdO c9_17
noncomputable def r9_19 : Array Oper := cdO c9_19
theorem c9_0e : c9_0 = .seq c9_1 c9_2 := by kernel_rfl
theorem c9_1e : c9_1 = .region 0 r9_1 false := by kernel_rfl
theorem c9_2e : c9_2 = .seq c9_3 c9_10 := by kernel_rfl
theorem c9_3e : c9_3 = .seq c9_4 c9_5 := by kernel_rfl
theorem c9_4e : c9_4 = .region 1 r9_4 false := by kernel_rfl
theorem c9_5e : c9_5 = .cond (cdC c9_5) c9_6 c9_9 := by kernel_rfl
theorem c9_6e : c9_6 = .seq c9_7 c9_8 := by kernel_rfl
theorem c9_7e : c9_7 = .region 2 r9_7 false := by kernel_rfl
theorem c9_8e : c9_8 = .ret := by kernel_rfl
theorem c9_9e : c9_9 = .skip := by kernel_rfl
theorem c9_10e : c9_10 = .seq c9_11 c9_12 := by kernel_rfl
theorem c9_11e : c9_11 = .region 3 r9_11 false := by kernel_rfl
theorem c9_12e : c9_12 = .seq c9_13 c9_14 := by kernel_rfl
theorem c9_13e : c9_13 = .region 4 r9_13 false := by kernel_rfl
theorem c9_14e : c9_14 = .seq c9_15 c9_16 := by kernel_rfl
theorem c9_15e : c9_15 = .region 5 r9_15 false := by kernel_rfl
theorem c9_16e : c9_16 = .seq c9_17 c9_18 := by kernel_rfl
theorem c9_17e : c9_17 = .region 6 r9_17 false := by kernel_rfl
theorem c9_18e : c9_18 = .seq c9_19 c9_20 := by kernel_rfl
theorem c9_19e : c9_19 = .region 7 r9_19 false := by kernel_rfl
theorem c9_20e : c9_20 = .ret := by kernel_rfl
noncomputable def tontinelaw16_CommandReplies.R : Pst Bool where
  ε := Unit
  v := fun r x => .bool r
  H := fun r x => []
  B := fun r x => []
noncomputable def tontinelaw16_CommandReplies.cx (w0 : World) (S0 : Fam) : Cx Bool := ⟨Try.prog, 9, Try.f9, 64, w0, S0, [], 0, tontinelaw16_CommandReplies.R⟩
theorem tontinelaw16_CommandReplies_ok (n : Nat) (y_1 : T_api_Reply) (s_2 : (List UInt8)) :
    Meets Try.prog 9 [.agg ⟨[.int .i64 y_1.Err, .int .u64 y_1.Num, .int .u64 y_1.Extra]⟩, .string (bs s_2)] 0 [] [] [] (tontinelaw16_CommandReplies.f n y_1 s_2) (tontinelaw16_CommandReplies.R) := by
  refine Meets.of (c := c9_0) (n := 64) Try.func9 (by kernel_rfl) (by kernel_rfl) (by kernel_rfl) fun w0 S0 => ?_
  unfold tontinelaw16_CommandReplies.f
  show GoO (tontinelaw16_CommandReplies.cx w0 S0) [(0, .agg ⟨[.int .i64 y_1.Err, .int .u64 y_1.Num, .int .u64 y_1.Extra]⟩), (1, .string (bs s_2))] [] [] [.code c9_0] _
  refine GoO.seq' c9_0e ?_
  refine GoO.region' (is := [0, 1]) c9_1e (by kernel_rfl) ?_
  refine OpTo.go (GoO.new rfl 40 (cs := [.int .i64 y_1.Err, .int .u64 y_1.Num, .int .u64 y_1.Extra]) (by kernel_rfl) _ (fun _ => rfl) (fun b_3 => ?_))
  refine GoO.exec (is := [1]) (hs := [.p]) (rest := []) (ks := [1, 2]) (env' := [(1, .string (bs s_2)), (2, .pointer (some ⟨b_3, 0, none⟩))]) (H' := [⟨40, b_3, [.int .i64 y_1.Err, .int .u64 y_1.Num, .int .u64 y_1.Extra]⟩]) (ps := []) (by kernel_rfl) trivial ?_
  refine GoO.regionEnd ?_
  refine GoO.seq' c9_2e ?_
  refine GoO.seq' c9_3e ?_
  refine GoO.region' (is := [0, 1]) c9_4e (by kernel_rfl) ?_
  refine OpTo.go (GoO.call rfl (by kernel_rfl) (by kernel_rfl) (tontinelaw16_begun_ok n) [[0]] [] [] [] (hks := [0]) (bks := []) (by kernel_rfl) (by kernel_rfl) (by kernel_rfl) (.inl rfl) rfl rfl (by kernel_rfl) (by kernel_rfl) _ (fun _ _ => rfl) _ _ (fun _ _ => rfl) (fun _ _ => rfl) (fun _ _ => by kernel_rfl) (fun _ _ => by kernel_rfl) (fun r_4 x_25 => ?_))
  refine GoO.shape (env' := [(1, .string (bs s_2)), (2, .pointer (some ⟨b_3, 0, none⟩)), (12, .bool r_4)]) (H' := [⟨40, b_3, [.int .i64 y_1.Err, .int .u64 y_1.Num, .int .u64 y_1.Extra]⟩]) (B' := []) (ks := [1, 2, 12]) (by kernel_rfl) (by kernel_rfl) (by kernel_rfl) ?_
  refine GoO.exec (is := [1]) (hs := [.p]) (rest := []) (ks := [1, 2, 13]) (env' := [(1, .string (bs s_2)), (2, .pointer (some ⟨b_3, 0, none⟩)), (13, .bool (!r_4))]) (H' := [⟨40, b_3, [.int .i64 y_1.Err, .int .u64 y_1.Num, .int .u64 y_1.Extra]⟩]) (ps := []) (by kernel_rfl) trivial ?_
  refine GoO.regionEnd ?_
  refine GoO.ite' c9_5e (by kernel_rfl) (fun h5 => ?_) (fun h5 => ?_)
  · refine GoO.seq' c9_6e ?_
    refine GoO.region' (is := [0]) c9_7e (by kernel_rfl) ?_
    refine GoO.exec (is := [0]) (hs := [.p]) (rest := []) (ks := [4]) (env' := [(4, .bool false)]) (H' := [⟨40, b_3, [.int .i64 y_1.Err, .int .u64 y_1.Num, .int .u64 y_1.Extra]⟩]) (ps := []) (by kernel_rfl) trivial ?_
    refine GoO.regionEnd ?_
    exact GoO.ret' (h := c9_8e) (hs := []) (ps := []) (hk := []) (bk := []) Try.func9 () (by kernel_rfl) trivial (by kernel_rfl) (by kernel_rfl)
  · refine GoO.skip' c9_9e ?_
    refine GoO.seq' c9_10e ?_
    refine GoO.region' (is := [0, 1, 2]) c9_11e (by kernel_rfl) ?_
    refine GoO.exec (is := [0]) (hs := [.b 0]) (rest := [1, 2]) (ks := [1, 2, 14]) (env' := [(1, .string (bs s_2)), (2, .pointer (some ⟨b_3, 0, none⟩)), (14, .agg ⟨[.int .i64 y_1.Err, .int .u64 y_1.Num, .int .u64 y_1.Extra]⟩)]) (H' := [⟨40, b_3, [.int .i64 y_1.Err, .int .u64 y_1.Num, .int .u64 y_1.Extra]⟩]) (ps := [b_3 = b_3]) (by kernel_rfl) (And.intro rfl trivial) ?_
    refine OpTo.go (GoO.call rfl (by kernel_rfl) (by kernel_rfl) (command_Answer_ok n y_1) [[0]] [] [] [] (hks := [0]) (bks := []) (by kernel_rfl) (by kernel_rfl) (by kernel_rfl) (.inl rfl) rfl rfl (by kernel_rfl) (by kernel_rfl) _ (fun _ _ => rfl) _ _ (fun _ _ => rfl) (fun _ _ => rfl) (fun _ _ => by kernel_rfl) (fun _ _ => by kernel_rfl) (fun r_6 x_24 => ?_))
    refine GoO.shape (env' := [(1, .string (bs s_2)), (2, .pointer (some ⟨b_3, 0, none⟩)), (14, .agg ⟨[.int .i64 y_1.Err, .int .u64 y_1.Num, .int .u64 y_1.Extra]⟩), (15, .string (bs r_6))]) (H' := [⟨40, b_3, [.int .i64 y_1.Err, .int .u64 y_1.Num, .int .u64 y_1.Extra]⟩]) (B' := []) (ks := [1, 2, 14, 15]) (by kernel_rfl) (by kernel_rfl) (by kernel_rfl) ?_
    refine GoO.exec (is := [2]) (hs := [.p]) (rest := []) (ks := [1, 2, 5]) (env' := [(1, .string (bs s_2)), (2, .pointer (some ⟨b_3, 0, none⟩)), (5, .string (bs r_6))]) (H' := [⟨40, b_3, [.int .i64 y_1.Err, .int .u64 y_1.Num, .int .u64 y_1.Extra]⟩]) (ps := []) (by kernel_rfl) trivial ?_
    refine GoO.regionEnd ?_
    refine GoO.seq' c9_12e ?_
    refine GoO.region' (is := [0, 1, 2, 3, 4, 5, 6, 7]) c9_13e (by kernel_rfl) ?_
    refine GoO.exec (is := [0]) (hs := [.p]) (rest := [1, 2, 3, 4, 5, 6, 7]) (ks := [1, 2, 5, 17]) (env' := [(1, .string (bs s_2)), (2, .pointer (some ⟨b_3, 0, none⟩)), (5, .string (bs r_6)), (17, .string (bs s_2))]) (H' := [⟨40, b_3, [.int .i64 y_1.Err, .int .u64 y_1.Num, .int .u64 y_1.Extra]⟩]) (ps := []) (by kernel_rfl) trivial ?_
    refine OpTo.go (GoO.call rfl (by kernel_rfl) (by kernel_rfl) (command_Said_ok n s_2) [[0]] [] [] [] (hks := [0]) (bks := []) (by kernel_rfl) (by kernel_rfl) (by kernel_rfl) (.inl rfl) rfl rfl (by kernel_rfl) (by kernel_rfl) _ (fun _ _ => rfl) _ _ (fun _ _ => rfl) (fun _ _ => rfl) (fun _ _ => by kernel_rfl) (fun _ _ => by kernel_rfl) (fun r_7 x_23 => ?_))
    refine GoO.shape (env' := [(1, .string (bs s_2)), (2, .pointer (some ⟨b_3, 0, none⟩)), (5, .string (bs r_6)), (17, .string (bs s_2)), (18, .tuple ⟨[.agg ⟨[.int .i64 r_7.1.Err, .int .u64 r_7.1.Num, .int .u64 r_7.1.Extra]⟩, .int .i64 r_7.2]⟩)]) (H' := [⟨40, b_3, [.int .i64 y_1.Err, .int .u64 y_1.Num, .int .u64 y_1.Extra]⟩]) (B' := []) (ks := [1, 2, 5, 17, 18]) (by kernel_rfl) (by kernel_rfl) (by kernel_rfl) ?_
    refine GoO.exec (is := [2, 3, 4]) (hs := [.p, .p, .p]) (rest := [5, 6, 7]) (ks := [1, 2, 5, 19, 20]) (env' := [(1, .string (bs s_2)), (2, .pointer (some ⟨b_3, 0, none⟩)), (5, .string (bs r_6)), (19, .agg ⟨[.int .i64 r_7.1.Err, .int .u64 r_7.1.Num, .int .u64 r_7.1.Extra]⟩), (20, .int .i64 r_7.2)]) (H' := [⟨40, b_3, [.int .i64 y_1.Err, .int .u64 y_1.Num, .int .u64 y_1.Extra]⟩]) (ps := []) (by kernel_rfl) trivial ?_
    refine OpTo.go (GoO.new rfl 41 (cs := [.int .i64 0, .int .u64 0, .int .u64 0]) (by kernel_rfl) _ (fun _ => rfl) (fun b_8 => ?_))
    refine GoO.exec (is := [6, 7]) (hs := [.b 0, .p]) (rest := []) (ks := [1, 2, 5, 6, 7]) (env' := [(1, .string (bs s_2)), (2, .pointer (some ⟨b_3, 0, none⟩)), (5, .string (bs r_6)), (6, .pointer (some ⟨b_8, 0, none⟩)), (7, .int .i64 r_7.2)]) (H' := [⟨41, b_8, [.int .i64 r_7.1.Err, .int .u64 r_7.1.Num, .int .u64 r_7.1.Extra]⟩, ⟨40, b_3, [.int .i64 y_1.Err, .int .u64 y_1.Num, .int .u64 y_1.Extra]⟩]) (ps := [b_8 = b_8]) (by kernel_rfl) (And.intro rfl trivial) ?_
    refine GoO.regionEnd ?_
    refine GoO.seq' c9_14e ?_
    refine GoO.region' (is := [0, 1, 2, 3, 4, 5, 6, 7]) c9_15e (by kernel_rfl) ?_
    refine GoO.exec (is := [0]) (hs := [.p]) (rest := [1, 2, 3, 4, 5, 6, 7]) (ks := [2, 5, 6, 7, 22]) (env' := [(2, .pointer (some ⟨b_3, 0, none⟩)), (5, .string (bs r_6)), (6, .pointer (some ⟨b_8, 0, none⟩)), (7, .int .i64 r_7.2), (22, .string (bs s_2))]) (H' := [⟨41, b_8, [.int .i64 r_7.1.Err, .int .u64 r_7.1.Num, .int .u64 r_7.1.Extra]⟩, ⟨40, b_3, [.int .i64 y_1.Err, .int .u64 y_1.Num, .int .u64 y_1.Extra]⟩]) (ps := []) (by kernel_rfl) trivial ?_
    refine OpTo.go (GoO.call rfl (by kernel_rfl) (by kernel_rfl) (tontineref16_Said_ok n s_2) [[0]] [] [] [] (hks := [0, 1]) (bks := []) (by kernel_rfl) (by kernel_rfl) (by kernel_rfl) (.inl rfl) rfl rfl (by kernel_rfl) (by kernel_rfl) _ (fun _ _ => rfl) _ _ (fun _ _ => rfl) (fun _ _ => rfl) (fun _ _ => by kernel_rfl) (fun _ _ => by kernel_rfl) (fun r_9 x_22 => ?_))
    refine GoO.shape (env' := [(2, .pointer (some ⟨b_3, 0, none⟩)), (5, .string (bs r_6)), (6, .pointer (some ⟨b_8, 0, none⟩)), (7, .int .i64 r_7.2), (22, .string (bs s_2)), (23, .tuple ⟨[.agg ⟨[.int .i64 r_9.1.Err, .int .u64 r_9.1.Num, .int .u64 r_9.1.Extra]⟩, .int .i64 r_9.2]⟩)]) (H' := [⟨41, b_8, [.int .i64 r_7.1.Err, .int .u64 r_7.1.Num, .int .u64 r_7.1.Extra]⟩, ⟨40, b_3, [.int .i64 y_1.Err, .int .u64 y_1.Num, .int .u64 y_1.Extra]⟩]) (B' := []) (ks := [2, 5, 6, 7, 22, 23]) (by kernel_rfl) (by kernel_rfl) (by kernel_rfl) ?_
    refine GoO.exec (is := [2, 3, 4]) (hs := [.p, .p, .p]) (rest := [5, 6, 7]) (ks := [2, 5, 6, 7, 24, 25]) (env' := [(2, .pointer (some ⟨b_3, 0, none⟩)), (5, .string (bs r_6)), (6, .pointer (some ⟨b_8, 0, none⟩)), (7, .int .i64 r_7.2), (24, .agg ⟨[.int .i64 r_9.1.Err, .int .u64 r_9.1.Num, .int .u64 r_9.1.Extra]⟩), (25, .int .i64 r_9.2)]) (H' := [⟨41, b_8, [.int .i64 r_7.1.Err, .int .u64 r_7.1.Num, .int .u64 r_7.1.Extra]⟩, ⟨40, b_3, [.int .i64 y_1.Err, .int .u64 y_1.Num, .int .u64 y_1.Extra]⟩]) (ps := []) (by kernel_rfl) trivial ?_
    refine OpTo.go (GoO.new rfl 42 (cs := [.int .i64 0, .int .u64 0, .int .u64 0]) (by kernel_rfl) _ (fun _ => rfl) (fun b_10 => ?_))
    refine GoO.exec (is := [6, 7]) (hs := [.b 0, .p]) (rest := []) (ks := [2, 5, 6, 7, 8, 9]) (env' := [(2, .pointer (some ⟨b_3, 0, none⟩)), (5, .string (bs r_6)), (6, .pointer (some ⟨b_8, 0, none⟩)), (7, .int .i64 r_7.2), (8, .pointer (some ⟨b_10, 0, none⟩)), (9, .int .i64 r_9.2)]) (H' := [⟨42, b_10, [.int .i64 r_9.1.Err, .int .u64 r_9.1.Num, .int .u64 r_9.1.Extra]⟩, ⟨41, b_8, [.int .i64 r_7.1.Err, .int .u64 r_7.1.Num, .int .u64 r_7.1.Extra]⟩, ⟨40, b_3, [.int .i64 y_1.Err, .int .u64 y_1.Num, .int .u64 y_1.Extra]⟩]) (ps := [b_10 = b_10]) (by kernel_rfl) (And.intro rfl trivial) ?_
    refine GoO.regionEnd ?_
    refine GoO.seq' c9_16e ?_
    refine GoO.region' (is := [0, 1, 2, 3, 4, 5, 6, 7]) c9_17e (by kernel_rfl) ?_
    refine GoO.exec (is := [0]) (hs := [.p]) (rest := [1, 2, 3, 4, 5, 6, 7]) (ks := [2, 5, 6, 7, 8, 9, 27]) (env' := [(2, .pointer (some ⟨b_3, 0, none⟩)), (5, .string (bs r_6)), (6, .pointer (some ⟨b_8, 0, none⟩)), (7, .int .i64 r_7.2), (8, .pointer (some ⟨b_10, 0, none⟩)), (9, .int .i64 r_9.2), (27, .string (bs r_6))]) (H' := [⟨42, b_10, [.int .i64 r_9.1.Err, .int .u64 r_9.1.Num, .int .u64 r_9.1.Extra]⟩, ⟨41, b_8, [.int .i64 r_7.1.Err, .int .u64 r_7.1.Num, .int .u64 r_7.1.Extra]⟩, ⟨40, b_3, [.int .i64 y_1.Err, .int .u64 y_1.Num, .int .u64 y_1.Extra]⟩]) (ps := []) (by kernel_rfl) trivial ?_
    refine OpTo.go (GoO.call rfl (by kernel_rfl) (by kernel_rfl) (command_Said_ok n r_6) [[0]] [] [] [] (hks := [0, 1, 2]) (bks := []) (by kernel_rfl) (by kernel_rfl) (by kernel_rfl) (.inl rfl) rfl rfl (by kernel_rfl) (by kernel_rfl) _ (fun _ _ => rfl) _ _ (fun _ _ => rfl) (fun _ _ => rfl) (fun _ _ => by kernel_rfl) (fun _ _ => by kernel_rfl) (fun r_11 x_21 => ?_))
    refine GoO.shape (env' := [(2, .pointer (some ⟨b_3, 0, none⟩)), (5, .string (bs r_6)), (6, .pointer (some ⟨b_8, 0, none⟩)), (7, .int .i64 r_7.2), (8, .pointer (some ⟨b_10, 0, none⟩)), (9, .int .i64 r_9.2), (27, .string (bs r_6)), (28, .tuple ⟨[.agg ⟨[.int .i64 r_11.1.Err, .int .u64 r_11.1.Num, .int .u64 r_11.1.Extra]⟩, .int .i64 r_11.2]⟩)]) (H' := [⟨42, b_10, [.int .i64 r_9.1.Err, .int .u64 r_9.1.Num, .int .u64 r_9.1.Extra]⟩, ⟨41, b_8, [.int .i64 r_7.1.Err, .int .u64 r_7.1.Num, .int .u64 r_7.1.Extra]⟩, ⟨40, b_3, [.int .i64 y_1.Err, .int .u64 y_1.Num, .int .u64 y_1.Extra]⟩]) (B' := []) (ks := [2, 5, 6, 7, 8, 9, 27, 28]) (by kernel_rfl) (by kernel_rfl) (by kernel_rfl) ?_
    refine GoO.exec (is := [2, 3, 4]) (hs := [.p, .p, .p]) (rest := [5, 6, 7]) (ks := [2, 5, 6, 7, 8, 9, 29, 30]) (env' := [(2, .pointer (some ⟨b_3, 0, none⟩)), (5, .string (bs r_6)), (6, .pointer (some ⟨b_8, 0, none⟩)), (7, .int .i64 r_7.2), (8, .pointer (some ⟨b_10, 0, none⟩)), (9, .int .i64 r_9.2), (29, .agg ⟨[.int .i64 r_11.1.Err, .int .u64 r_11.1.Num, .int .u64 r_11.1.Extra]⟩), (30, .int .i64 r_11.2)]) (H' := [⟨42, b_10, [.int .i64 r_9.1.Err, .int .u64 r_9.1.Num, .int .u64 r_9.1.Extra]⟩, ⟨41, b_8, [.int .i64 r_7.1.Err, .int .u64 r_7.1.Num, .int .u64 r_7.1.Extra]⟩, ⟨40, b_3, [.int .i64 y_1.Err, .int .u64 y_1.Num, .int .u64 y_1.Extra]⟩]) (ps := []) (by kernel_rfl) trivial ?_
    refine OpTo.go (GoO.new rfl 43 (cs := [.int .i64 0, .int .u64 0, .int .u64 0]) (by kernel_rfl) _ (fun _ => rfl) (fun b_12 => ?_))
    refine GoO.exec (is := [6, 7]) (hs := [.b 0, .p]) (rest := []) (ks := [2, 5, 6, 7, 8, 9, 10, 11]) (env' := [(2, .pointer (some ⟨b_3, 0, none⟩)), (5, .string (bs r_6)), (6, .pointer (some ⟨b_8, 0, none⟩)), (7, .int .i64 r_7.2), (8, .pointer (some ⟨b_10, 0, none⟩)), (9, .int .i64 r_9.2), (10, .pointer (some ⟨b_12, 0, none⟩)), (11, .int .i64 r_11.2)]) (H' := [⟨43, b_12, [.int .i64 r_11.1.Err, .int .u64 r_11.1.Num, .int .u64 r_11.1.Extra]⟩, ⟨42, b_10, [.int .i64 r_9.1.Err, .int .u64 r_9.1.Num, .int .u64 r_9.1.Extra]⟩, ⟨41, b_8, [.int .i64 r_7.1.Err, .int .u64 r_7.1.Num, .int .u64 r_7.1.Extra]⟩, ⟨40, b_3, [.int .i64 y_1.Err, .int .u64 y_1.Num, .int .u64 y_1.Extra]⟩]) (ps := [b_12 = b_12]) (by kernel_rfl) (And.intro rfl trivial) ?_
    refine GoO.regionEnd ?_
    refine GoO.seq' c9_18e ?_
    refine GoO.region' (is := [0, 1, 2, 3, 4, 5, 6, 7, 8, 9, 10, 11, 12, 13, 14, 15, 16, 17, 18, 19, 20, 21, 22, 23, 24, 25, 26, 27, 28, 29, 30, 31, 32, 33]) c9_19e (by kernel_rfl) ?_
    refine GoO.exec (is := [0, 1]) (hs := [.p, .b 3]) (rest := [2, 3, 4, 5, 6, 7, 8, 9, 10, 11, 12, 13, 14, 15, 16, 17, 18, 19, 20, 21, 22, 23, 24, 25, 26, 27, 28, 29, 30, 31, 32, 33]) (ks := [2, 6, 7, 8, 9, 10, 11, 31, 32]) (env' := [(2, .pointer (some ⟨b_3, 0, none⟩)), (6, .pointer (some ⟨b_8, 0, none⟩)), (7, .int .i64 r_7.2), (8, .pointer (some ⟨b_10, 0, none⟩)), (9, .int .i64 r_9.2), (10, .pointer (some ⟨b_12, 0, none⟩)), (11, .int .i64 r_11.2), (31, .string (bs r_6)), (32, .agg ⟨[.int .i64 y_1.Err, .int .u64 y_1.Num, .int .u64 y_1.Extra]⟩)]) (H' := [⟨43, b_12, [.int .i64 r_11.1.Err, .int .u64 r_11.1.Num, .int .u64 r_11.1.Extra]⟩, ⟨42, b_10, [.int .i64 r_9.1.Err, .int .u64 r_9.1.Num, .int .u64 r_9.1.Extra]⟩, ⟨41, b_8, [.int .i64 r_7.1.Err, .int .u64 r_7.1.Num, .int .u64 r_7.1.Extra]⟩, ⟨40, b_3, [.int .i64 y_1.Err, .int .u64 y_1.Num, .int .u64 y_1.Extra]⟩]) (ps := [b_3 = b_3]) (by kernel_rfl) (And.intro rfl trivial) ?_
    refine OpTo.go (GoO.call rfl (by kernel_rfl) (by kernel_rfl) (tontineref16_Answer_ok n y_1) [[0]] [] [] [] (hks := [0, 1, 2, 3]) (bks := []) (by kernel_rfl) (by kernel_rfl) (by kernel_rfl) (.inl rfl) rfl rfl (by kernel_rfl) (by kernel_rfl) _ (fun _ _ => rfl) _ _ (fun _ _ => rfl) (fun _ _ => rfl) (fun _ _ => by kernel_rfl) (fun _ _ => by kernel_rfl) (fun r_13 x_20 => ?_))
    refine GoO.shape (env' := [(2, .pointer (some ⟨b_3, 0, none⟩)), (6, .pointer (some ⟨b_8, 0, none⟩)), (7, .int .i64 r_7.2), (8, .pointer (some ⟨b_10, 0, none⟩)), (9, .int .i64 r_9.2), (10, .pointer (some ⟨b_12, 0, none⟩)), (11, .int .i64 r_11.2), (31, .string (bs r_6)), (32, .agg ⟨[.int .i64 y_1.Err, .int .u64 y_1.Num, .int .u64 y_1.Extra]⟩), (33, .string (bs r_13))]) (H' := [⟨43, b_12, [.int .i64 r_11.1.Err, .int .u64 r_11.1.Num, .int .u64 r_11.1.Extra]⟩, ⟨42, b_10, [.int .i64 r_9.1.Err, .int .u64 r_9.1.Num, .int .u64 r_9.1.Extra]⟩, ⟨41, b_8, [.int .i64 r_7.1.Err, .int .u64 r_7.1.Num, .int .u64 r_7.1.Extra]⟩, ⟨40, b_3, [.int .i64 y_1.Err, .int .u64 y_1.Num, .int .u64 y_1.Extra]⟩]) (B' := []) (ks := [2, 6, 7, 8, 9, 10, 11, 31, 32, 33]) (by kernel_rfl) (by kernel_rfl) (by kernel_rfl) ?_
    refine GoO.exec (is := [3, 4]) (hs := [.p, .p]) (rest := [5, 6, 7, 8, 9, 10, 11, 12, 13, 14, 15, 16, 17, 18, 19, 20, 21, 22, 23, 24, 25, 26, 27, 28, 29, 30, 31, 32, 33]) (ks := [2, 6, 7, 8, 9, 10, 11, 35]) (env' := [(2, .pointer (some ⟨b_3, 0, none⟩)), (6, .pointer (some ⟨b_8, 0, none⟩)), (7, .int .i64 r_7.2), (8, .pointer (some ⟨b_10, 0, none⟩)), (9, .int .i64 r_9.2), (10, .pointer (some ⟨b_12, 0, none⟩)), (11, .int .i64 r_11.2), (35, .bool (r_6 == r_13))]) (H' := [⟨43, b_12, [.int .i64 r_11.1.Err, .int .u64 r_11.1.Num, .int .u64 r_11.1.Extra]⟩, ⟨42, b_10, [.int .i64 r_9.1.Err, .int .u64 r_9.1.Num, .int .u64 r_9.1.Extra]⟩, ⟨41, b_8, [.int .i64 r_7.1.Err, .int .u64 r_7.1.Num, .int .u64 r_7.1.Extra]⟩, ⟨40, b_3, [.int .i64 y_1.Err, .int .u64 y_1.Num, .int .u64 y_1.Extra]⟩]) (ps := []) (by kernel_rfl) trivial ?_
    refine GoO.bsplit (t := 35) (by kernel_rfl) (fun h14 => ?_) (fun h14 => ?_)
    · refine GoO.exec (is := [5, 6, 7, 8, 9]) (hs := [.b 2, .b 1, .p, .p, .p]) (rest := [10, 11, 12, 13, 14, 15, 16, 17, 18, 19, 20, 21, 22, 23, 24, 25, 26, 27, 28, 29, 30, 31, 32, 33]) (ks := [2, 7, 9, 10, 11, 40]) (env' := [(2, .pointer (some ⟨b_3, 0, none⟩)), (7, .int .i64 r_7.2), (9, .int .i64 r_9.2), (10, .pointer (some ⟨b_12, 0, none⟩)), (11, .int .i64 r_11.2), (40, .bool ((r_7.1.Err == r_9.1.Err) && ((r_7.1.Num == r_9.1.Num) && ((r_7.1.Extra == r_9.1.Extra) && true))))]) (H' := [⟨43, b_12, [.int .i64 r_11.1.Err, .int .u64 r_11.1.Num, .int .u64 r_11.1.Extra]⟩, ⟨42, b_10, [.int .i64 r_9.1.Err, .int .u64 r_9.1.Num, .int .u64 r_9.1.Extra]⟩, ⟨41, b_8, [.int .i64 r_7.1.Err, .int .u64 r_7.1.Num, .int .u64 r_7.1.Extra]⟩, ⟨40, b_3, [.int .i64 y_1.Err, .int .u64 y_1.Num, .int .u64 y_1.Extra]⟩]) (ps := [b_8 = b_8, b_10 = b_10]) (by kernel_rfl) (And.intro rfl (And.intro rfl trivial)) ?_
      refine GoO.bsplit (t := 40) (by kernel_rfl) (fun h15 => ?_) (fun h15 => ?_)
      · refine GoO.exec (is := [10, 11, 12, 13, 14]) (hs := [.p, .p, .p, .p, .p]) (rest := [15, 16, 17, 18, 19, 20, 21, 22, 23, 24, 25, 26, 27, 28, 29, 30, 31, 32, 33]) (ks := [2, 10, 11, 45]) (env' := [(2, .pointer (some ⟨b_3, 0, none⟩)), (10, .pointer (some ⟨b_12, 0, none⟩)), (11, .int .i64 r_11.2), (45, .bool (r_7.2 == r_9.2))]) (H' := [⟨43, b_12, [.int .i64 r_11.1.Err, .int .u64 r_11.1.Num, .int .u64 r_11.1.Extra]⟩, ⟨42, b_10, [.int .i64 r_9.1.Err, .int .u64 r_9.1.Num, .int .u64 r_9.1.Extra]⟩, ⟨41, b_8, [.int .i64 r_7.1.Err, .int .u64 r_7.1.Num, .int .u64 r_7.1.Extra]⟩, ⟨40, b_3, [.int .i64 y_1.Err, .int .u64 y_1.Num, .int .u64 y_1.Extra]⟩]) (ps := []) (by kernel_rfl) trivial ?_
        refine GoO.bsplit (t := 45) (by kernel_rfl) (fun h16 => ?_) (fun h16 => ?_)
        · refine GoO.exec (is := [15, 16, 17, 18]) (hs := [.p, .b 3, .p, .p]) (rest := [19, 20, 21, 22, 23, 24, 25, 26, 27, 28, 29, 30, 31, 32, 33]) (ks := [2, 10, 11, 45, 49]) (env' := [(2, .pointer (some ⟨b_3, 0, none⟩)), (10, .pointer (some ⟨b_12, 0, none⟩)), (11, .int .i64 r_11.2), (45, .bool true), (49, .bool (decide (y_1.Err < 0)))]) (H' := [⟨43, b_12, [.int .i64 r_11.1.Err, .int .u64 r_11.1.Num, .int .u64 r_11.1.Extra]⟩, ⟨42, b_10, [.int .i64 r_9.1.Err, .int .u64 r_9.1.Num, .int .u64 r_9.1.Extra]⟩, ⟨41, b_8, [.int .i64 r_7.1.Err, .int .u64 r_7.1.Num, .int .u64 r_7.1.Extra]⟩, ⟨40, b_3, [.int .i64 y_1.Err, .int .u64 y_1.Num, .int .u64 y_1.Extra]⟩]) (ps := [b_3 = b_3]) (by kernel_rfl) (And.intro rfl trivial) ?_
          refine GoO.bsplit (t := 49) (by kernel_rfl) (fun h17 => ?_) (fun h17 => ?_)
          · refine GoO.exec (is := [19, 20, 21, 22, 23, 24, 25, 26, 27, 28, 29, 30, 31, 32, 33]) (hs := [.p, .p, .p, .p, .p, .p, .p, .p, .p, .p, .p, .p, .p, .p, .p]) (rest := []) (ks := [4]) (env' := [(4, .bool true)]) (H' := [⟨43, b_12, [.int .i64 r_11.1.Err, .int .u64 r_11.1.Num, .int .u64 r_11.1.Extra]⟩, ⟨42, b_10, [.int .i64 r_9.1.Err, .int .u64 r_9.1.Num, .int .u64 r_9.1.Extra]⟩, ⟨41, b_8, [.int .i64 r_7.1.Err, .int .u64 r_7.1.Num, .int .u64 r_7.1.Extra]⟩, ⟨40, b_3, [.int .i64 y_1.Err, .int .u64 y_1.Num, .int .u64 y_1.Extra]⟩]) (ps := []) (by kernel_rfl) trivial ?_
            refine GoO.regionEnd ?_
            exact GoO.ret' (h := c9_20e) (hs := []) (ps := []) (hk := []) (bk := []) Try.func9 () (by kernel_rfl) trivial (by kernel_rfl) (by kernel_rfl)
          · refine GoO.exec (is := [19, 20, 21, 22, 23]) (hs := [.p, .b 3, .p, .p, .p]) (rest := [24, 25, 26, 27, 28, 29, 30, 31, 32, 33]) (ks := [2, 10, 11, 45, 54]) (env' := [(2, .pointer (some ⟨b_3, 0, none⟩)), (10, .pointer (some ⟨b_12, 0, none⟩)), (11, .int .i64 r_11.2), (45, .bool true), (54, .bool (decide (y_1.Err > 52)))]) (H' := [⟨43, b_12, [.int .i64 r_11.1.Err, .int .u64 r_11.1.Num, .int .u64 r_11.1.Extra]⟩, ⟨42, b_10, [.int .i64 r_9.1.Err, .int .u64 r_9.1.Num, .int .u64 r_9.1.Extra]⟩, ⟨41, b_8, [.int .i64 r_7.1.Err, .int .u64 r_7.1.Num, .int .u64 r_7.1.Extra]⟩, ⟨40, b_3, [.int .i64 y_1.Err, .int .u64 y_1.Num, .int .u64 y_1.Extra]⟩]) (ps := [b_3 = b_3]) (by kernel_rfl) (And.intro rfl trivial) ?_
            refine GoO.bsplit (t := 54) (by kernel_rfl) (fun h18 => ?_) (fun h18 => ?_)
            · refine GoO.exec (is := [24, 25, 26, 27, 28, 29, 30, 31, 32, 33]) (hs := [.p, .p, .p, .p, .p, .p, .p, .p, .p, .p]) (rest := []) (ks := [4]) (env' := [(4, .bool true)]) (H' := [⟨43, b_12, [.int .i64 r_11.1.Err, .int .u64 r_11.1.Num, .int .u64 r_11.1.Extra]⟩, ⟨42, b_10, [.int .i64 r_9.1.Err, .int .u64 r_9.1.Num, .int .u64 r_9.1.Extra]⟩, ⟨41, b_8, [.int .i64 r_7.1.Err, .int .u64 r_7.1.Num, .int .u64 r_7.1.Extra]⟩, ⟨40, b_3, [.int .i64 y_1.Err, .int .u64 y_1.Num, .int .u64 y_1.Extra]⟩]) (ps := []) (by kernel_rfl) trivial ?_
              refine GoO.regionEnd ?_
              exact GoO.ret' (h := c9_20e) (hs := []) (ps := []) (hk := []) (bk := []) Try.func9 () (by kernel_rfl) trivial (by kernel_rfl) (by kernel_rfl)
            · refine GoO.exec (is := [24, 25, 26]) (hs := [.p, .p, .p]) (rest := [27, 28, 29, 30, 31, 32, 33]) (ks := [2, 10, 45, 54, 57]) (env' := [(2, .pointer (some ⟨b_3, 0, none⟩)), (10, .pointer (some ⟨b_12, 0, none⟩)), (45, .bool true), (54, .bool false), (57, .bool (r_11.2 == 0))]) (H' := [⟨43, b_12, [.int .i64 r_11.1.Err, .int .u64 r_11.1.Num, .int .u64 r_11.1.Extra]⟩, ⟨42, b_10, [.int .i64 r_9.1.Err, .int .u64 r_9.1.Num, .int .u64 r_9.1.Extra]⟩, ⟨41, b_8, [.int .i64 r_7.1.Err, .int .u64 r_7.1.Num, .int .u64 r_7.1.Extra]⟩, ⟨40, b_3, [.int .i64 y_1.Err, .int .u64 y_1.Num, .int .u64 y_1.Extra]⟩]) (ps := []) (by kernel_rfl) trivial ?_
              refine GoO.bsplit (t := 57) (by kernel_rfl) (fun h19 => ?_) (fun h19 => ?_)
              · refine GoO.exec (is := [27, 28, 29, 30, 31, 32, 33]) (hs := [.b 0, .b 3, .p, .p, .p, .p, .p]) (rest := []) (ks := [4]) (env' := [(4, .bool ((r_11.1.Err == y_1.Err) && ((r_11.1.Num == y_1.Num) && ((r_11.1.Extra == y_1.Extra) && true))))]) (H' := [⟨43, b_12, [.int .i64 r_11.1.Err, .int .u64 r_11.1.Num, .int .u64 r_11.1.Extra]⟩, ⟨42, b_10, [.int .i64 r_9.1.Err, .int .u64 r_9.1.Num, .int .u64 r_9.1.Extra]⟩, ⟨41, b_8, [.int .i64 r_7.1.Err, .int .u64 r_7.1.Num, .int .u64 r_7.1.Extra]⟩, ⟨40, b_3, [.int .i64 y_1.Err, .int .u64 y_1.Num, .int .u64 y_1.Extra]⟩]) (ps := [b_12 = b_12, b_3 = b_3]) (by kernel_rfl) (And.intro rfl (And.intro rfl trivial)) ?_
                refine GoO.regionEnd ?_
                exact GoO.ret' (h := c9_20e) (hs := []) (ps := []) (hk := []) (bk := []) Try.func9 () (by kernel_rfl) trivial (by kernel_rfl) (by kernel_rfl)
              · refine GoO.exec (is := [27, 28, 29, 30, 31, 32, 33]) (hs := [.p, .p, .p, .p, .p, .p, .p]) (rest := []) (ks := [4]) (env' := [(4, .bool false)]) (H' := [⟨43, b_12, [.int .i64 r_11.1.Err, .int .u64 r_11.1.Num, .int .u64 r_11.1.Extra]⟩, ⟨42, b_10, [.int .i64 r_9.1.Err, .int .u64 r_9.1.Num, .int .u64 r_9.1.Extra]⟩, ⟨41, b_8, [.int .i64 r_7.1.Err, .int .u64 r_7.1.Num, .int .u64 r_7.1.Extra]⟩, ⟨40, b_3, [.int .i64 y_1.Err, .int .u64 y_1.Num, .int .u64 y_1.Extra]⟩]) (ps := []) (by kernel_rfl) trivial ?_
                refine GoO.regionEnd ?_
                exact GoO.ret' (h := c9_20e) (hs := []) (ps := []) (hk := []) (bk := []) Try.func9 () (by kernel_rfl) trivial (by kernel_rfl) (by kernel_rfl)
        · refine GoO.exec (is := [15, 16, 17, 18, 19, 20, 21, 22, 23, 24, 25, 26, 27, 28, 29, 30, 31, 32, 33]) (hs := [.p, .p, .p, .p, .p, .p, .p, .p, .p, .p, .p, .p, .p, .p, .p, .p, .p, .p, .p]) (rest := []) (ks := [4]) (env' := [(4, .bool false)]) (H' := [⟨43, b_12, [.int .i64 r_11.1.Err, .int .u64 r_11.1.Num, .int .u64 r_11.1.Extra]⟩, ⟨42, b_10, [.int .i64 r_9.1.Err, .int .u64 r_9.1.Num, .int .u64 r_9.1.Extra]⟩, ⟨41, b_8, [.int .i64 r_7.1.Err, .int .u64 r_7.1.Num, .int .u64 r_7.1.Extra]⟩, ⟨40, b_3, [.int .i64 y_1.Err, .int .u64 y_1.Num, .int .u64 y_1.Extra]⟩]) (ps := []) (by kernel_rfl) trivial ?_
          refine GoO.regionEnd ?_
          exact GoO.ret' (h := c9_20e) (hs := []) (ps := []) (hk := []) (bk := []) Try.func9 () (by kernel_rfl) trivial (by kernel_rfl) (by kernel_rfl)
      · refine GoO.exec (is := [10, 11, 12, 13, 14, 15, 16, 17, 18, 19, 20, 21, 22, 23, 24, 25, 26, 27, 28, 29, 30, 31, 32, 33]) (hs := [.p, .p, .p, .p, .p, .p, .p, .p, .p, .p, .p, .p, .p, .p, .p, .p, .p, .p, .p, .p, .p, .p, .p, .p]) (rest := []) (ks := [4]) (env' := [(4, .bool false)]) (H' := [⟨43, b_12, [.int .i64 r_11.1.Err, .int .u64 r_11.1.Num, .int .u64 r_11.1.Extra]⟩, ⟨42, b_10, [.int .i64 r_9.1.Err, .int .u64 r_9.1.Num, .int .u64 r_9.1.Extra]⟩, ⟨41, b_8, [.int .i64 r_7.1.Err, .int .u64 r_7.1.Num, .int .u64 r_7.1.Extra]⟩, ⟨40, b_3, [.int .i64 y_1.Err, .int .u64 y_1.Num, .int .u64 y_1.Extra]⟩]) (ps := []) (by kernel_rfl) trivial ?_
        refine GoO.regionEnd ?_
        exact GoO.ret' (h := c9_20e) (hs := []) (ps := []) (hk := []) (bk := []) Try.func9 () (by kernel_rfl) trivial (by kernel_rfl) (by kernel_rfl)
    · refine GoO.exec (is := [5, 6, 7, 8, 9, 10, 11, 12, 13, 14, 15, 16, 17, 18, 19, 20, 21, 22, 23, 24, 25, 26, 27, 28, 29, 30, 31, 32, 33]) (hs := [.p, .p, .p, .p, .p, .p, .p, .p, .p, .p, .p, .p, .p, .p, .p, .p, .p, .p, .p, .p, .p, .p, .p, .p, .p, .p, .p, .p, .p]) (rest := []) (ks := [4]) (env' := [(4, .bool false)]) (H' := [⟨43, b_12, [.int .i64 r_11.1.Err, .int .u64 r_11.1.Num, .int .u64 r_11.1.Extra]⟩, ⟨42, b_10, [.int .i64 r_9.1.Err, .int .u64 r_9.1.Num, .int .u64 r_9.1.Extra]⟩, ⟨41, b_8, [.int .i64 r_7.1.Err, .int .u64 r_7.1.Num, .int .u64 r_7.1.Extra]⟩, ⟨40, b_3, [.int .i64 y_1.Err, .int .u64 y_1.Num, .int .u64 y_1.Extra]⟩]) (ps := []) (by kernel_rfl) trivial ?_
      refine GoO.regionEnd ?_
      exact GoO.ret' (h := c9_20e) (hs := []) (ps := []) (hk := []) (bk := []) Try.func9 () (by kernel_rfl) trivial (by kernel_rfl) (by kernel_rfl)
end Go.GL
