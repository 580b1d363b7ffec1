import Derived.Test.YtolipnnfdclkoaaWalkClientGivesP2
import Derived.Test.YtolipnnfdclkoaaKindsT2
import Derived.Test.YtolipnnfdclkoaaProg
set_option linter.unusedVariables false
set_option linter.unusedSimpArgs false
set_option maxRecDepth 100000
namespace Go.GL
open Go Go.Proofs
theorem c99_4e : c99_4 = .ret := by kernel_rfl
noncomputable def tontineref16_bare.R (A_2 : Option Addr) (c_3 : Nat) : Pst Bool where
  ε := Unit
  v := fun r x => .bool r
  H := fun r x => []
  B := fun r x => []
noncomputable def tontineref16_bare.cx (A_2 : Option Addr) (c_3 : Nat) (w0 : World) (S0 : Fam) : Cx Bool := ⟨Try.prog, 99, Try.f99, 21, w0, S0, [], 0, tontineref16_bare.R A_2 c_3⟩
theorem tontineref16_bare_ok (n : Nat) (c_1 : T_api_Command) (A_2 : Option Addr) (c_3 : Nat) :
    Meets Try.prog 99 [.agg ⟨[.int .i64 c_1.Kind, .int .u64 c_1.Session, .int .u64 c_1.Seq, .int .u64 c_1.Saga, .slice A_2 c_1.Steps.length c_3, .int .i64 c_1.Step, .bool c_1.Back, .int .i64 c_1.Try, .bool c_1.Ok, .int .u64 c_1.Now]⟩] 0 [] [] [Rd 0 kT_api_Step A_2 c_3 c_1.Steps] (tontineref16_bare.f n c_1) (tontineref16_bare.R A_2 c_3) := by
  refine Meets.of (c := c99_0) (n := 21) Try.func99 (by kernel_rfl) (by kernel_rfl) (by kernel_rfl) fun w0 S0 => ?_
  unfold tontineref16_bare.f
  show GoO (tontineref16_bare.cx A_2 c_3 w0 S0) [(0, .agg ⟨[.int .i64 c_1.Kind, .int .u64 c_1.Session, .int .u64 c_1.Seq, .int .u64 c_1.Saga, .slice A_2 c_1.Steps.length c_3, .int .i64 c_1.Step, .bool c_1.Back, .int .i64 c_1.Try, .bool c_1.Ok, .int .u64 c_1.Now]⟩)] [] [Rd 0 kT_api_Step A_2 c_3 c_1.Steps] [.code c99_0] _
  refine GoO.seq' c99_0e ?_
  refine GoO.region' (is := [0, 1]) c99_1e (by kernel_rfl) ?_
  refine OpTo.go (GoO.new rfl 40 (cs := [.int .i64 c_1.Kind, .int .u64 c_1.Session, .int .u64 c_1.Seq, .int .u64 c_1.Saga, .slice A_2 c_1.Steps.length c_3, .int .i64 c_1.Step, .bool c_1.Back, .int .i64 c_1.Try, .bool c_1.Ok, .int .u64 c_1.Now]) (by kernel_rfl) _ (fun _ => rfl) (fun b_4 => ?_))
  refine GoO.exec (is := [1]) (hs := [.p]) (rest := []) (ks := [1]) (env' := [(1, .pointer (some ⟨b_4, 0, none⟩))]) (H' := [⟨40, b_4, [.int .i64 c_1.Kind, .int .u64 c_1.Session, .int .u64 c_1.Seq, .int .u64 c_1.Saga, .slice A_2 c_1.Steps.length c_3, .int .i64 c_1.Step, .bool c_1.Back, .int .i64 c_1.Try, .bool c_1.Ok, .int .u64 c_1.Now]⟩]) (ps := []) (by kernel_rfl) trivial ?_
  refine GoO.regionEnd ?_
  refine GoO.seq' c99_2e ?_
  refine GoO.region' (is := [0, 1, 2, 3, 4, 5, 6, 7, 8, 9, 10, 11, 12, 13, 14, 15, 16, 17, 18]) c99_3e (by kernel_rfl) ?_
  refine GoO.exec (is := [0, 1, 2, 3]) (hs := [.p, .b 0, .p, .p]) (rest := [4, 5, 6, 7, 8, 9, 10, 11, 12, 13, 14, 15, 16, 17, 18]) (ks := [1, 6]) (env' := [(1, .pointer (some ⟨b_4, 0, none⟩)), (6, .bool (c_1.Step == 0))]) (H' := [⟨40, b_4, [.int .i64 c_1.Kind, .int .u64 c_1.Session, .int .u64 c_1.Seq, .int .u64 c_1.Saga, .slice A_2 c_1.Steps.length c_3, .int .i64 c_1.Step, .bool c_1.Back, .int .i64 c_1.Try, .bool c_1.Ok, .int .u64 c_1.Now]⟩]) (ps := [b_4 = b_4]) (by kernel_rfl) (And.intro rfl trivial) ?_
  refine GoO.bsplit (t := 6) (by kernel_rfl) (fun h5 => ?_) (fun h5 => ?_)
  · refine GoO.exec (is := [4, 5, 6, 7, 8]) (hs := [.p, .b 0, .p, .p, .p]) (rest := [9, 10, 11, 12, 13, 14, 15, 16, 17, 18]) (ks := [1, 11]) (env' := [(1, .pointer (some ⟨b_4, 0, none⟩)), (11, .bool (!c_1.Back))]) (H' := [⟨40, b_4, [.int .i64 c_1.Kind, .int .u64 c_1.Session, .int .u64 c_1.Seq, .int .u64 c_1.Saga, .slice A_2 c_1.Steps.length c_3, .int .i64 c_1.Step, .bool c_1.Back, .int .i64 c_1.Try, .bool c_1.Ok, .int .u64 c_1.Now]⟩]) (ps := [b_4 = b_4]) (by kernel_rfl) (And.intro rfl trivial) ?_
    refine GoO.bsplit (t := 11) (by kernel_rfl) (fun h6 => ?_) (fun h6 => ?_)
    · refine GoO.exec (is := [9, 10, 11, 12, 13]) (hs := [.p, .b 0, .p, .p, .p]) (rest := [14, 15, 16, 17, 18]) (ks := [1, 16]) (env' := [(1, .pointer (some ⟨b_4, 0, none⟩)), (16, .bool (c_1.Try == 0))]) (H' := [⟨40, b_4, [.int .i64 c_1.Kind, .int .u64 c_1.Session, .int .u64 c_1.Seq, .int .u64 c_1.Saga, .slice A_2 c_1.Steps.length c_3, .int .i64 c_1.Step, .bool c_1.Back, .int .i64 c_1.Try, .bool c_1.Ok, .int .u64 c_1.Now]⟩]) (ps := [b_4 = b_4]) (by kernel_rfl) (And.intro rfl trivial) ?_
      refine GoO.bsplit (t := 16) (by kernel_rfl) (fun h7 => ?_) (fun h7 => ?_)
      · refine GoO.exec (is := [14, 15, 16, 17, 18]) (hs := [.p, .b 0, .p, .p, .p]) (rest := []) (ks := [2]) (env' := [(2, .bool (!c_1.Ok))]) (H' := [⟨40, b_4, [.int .i64 c_1.Kind, .int .u64 c_1.Session, .int .u64 c_1.Seq, .int .u64 c_1.Saga, .slice A_2 c_1.Steps.length c_3, .int .i64 c_1.Step, .bool c_1.Back, .int .i64 c_1.Try, .bool c_1.Ok, .int .u64 c_1.Now]⟩]) (ps := [b_4 = b_4]) (by kernel_rfl) (And.intro rfl trivial) ?_
        refine GoO.regionEnd ?_
        exact GoO.ret' (h := c99_4e) (hs := []) (ps := []) (hk := []) (bk := []) Try.func99 () (by kernel_rfl) trivial (by kernel_rfl) (by kernel_rfl)
      · refine GoO.exec (is := [14, 15, 16, 17, 18]) (hs := [.p, .p, .p, .p, .p]) (rest := []) (ks := [2]) (env' := [(2, .bool false)]) (H' := [⟨40, b_4, [.int .i64 c_1.Kind, .int .u64 c_1.Session, .int .u64 c_1.Seq, .int .u64 c_1.Saga, .slice A_2 c_1.Steps.length c_3, .int .i64 c_1.Step, .bool c_1.Back, .int .i64 c_1.Try, .bool c_1.Ok, .int .u64 c_1.Now]⟩]) (ps := []) (by kernel_rfl) trivial ?_
        refine GoO.regionEnd ?_
        exact GoO.ret' (h := c99_4e) (hs := []) (ps := []) (hk := []) (bk := []) Try.func99 () (by kernel_rfl) trivial (by kernel_rfl) (by kernel_rfl)
    · refine GoO.exec (is := [9, 10, 11, 12, 13, 14, 15, 16, 17, 18]) (hs := [.p, .p, .p, .p, .p, .p, .p, .p, .p, .p]) (rest := []) (ks := [2]) (env' := [(2, .bool false)]) (H' := [⟨40, b_4, [.int .i64 c_1.Kind, .int .u64 c_1.Session, .int .u64 c_1.Seq, .int .u64 c_1.Saga, .slice A_2 c_1.Steps.length c_3, .int .i64 c_1.Step, .bool c_1.Back, .int .i64 c_1.Try, .bool c_1.Ok, .int .u64 c_1.Now]⟩]) (ps := []) (by kernel_rfl) trivial ?_
      refine GoO.regionEnd ?_
      exact GoO.ret' (h := c99_4e) (hs := []) (ps := []) (hk := []) (bk := []) Try.func99 () (by kernel_rfl) trivial (by kernel_rfl) (by kernel_rfl)
  · refine GoO.exec (is := [4, 5, 6, 7, 8, 9, 10, 11, 12, 13, 14, 15, 16, 17, 18]) (hs := [.p, .p, .p, .p, .p, .p, .p, .p, .p, .p, .p, .p, .p, .p, .p]) (rest := []) (ks := [2]) (env' := [(2, .bool false)]) (H' := [⟨40, b_4, [.int .i64 c_1.Kind, .int .u64 c_1.Session, .int .u64 c_1.Seq, .int .u64 c_1.Saga, .slice A_2 c_1.Steps.length c_3, .int .i64 c_1.Step, .bool c_1.Back, .int .i64 c_1.Try, .bool c_1.Ok, .int .u64 c_1.Now]⟩]) (ps := []) (by kernel_rfl) trivial ?_
    refine GoO.regionEnd ?_
    exact GoO.ret' (h := c99_4e) (hs := []) (ps := []) (hk := []) (bk := []) Try.func99 () (by kernel_rfl) trivial (by kernel_rfl) (by kernel_rfl)

/-! tontine/tontineref16.May -/
noncomputable def c92_0 : Code := bodyOf Try.f92
noncomputable def c92_1 : Code := cdL c92_0
noncomputable def c92_2 : Code := cdR c92_0
noncomputable def c92_3 : Code := cdL c92_2
noncomputable def c92_4 : Code := cdL c92_3
noncomputable def c92_5 : Code := cdR c92_3
noncomputable def c92_6 : Code := cdL c92_5
noncomputable def c92_7 : Code := cdL c92_6
noncomputable def c92_8 : Code := cdL c92_7
noncomputable def c92_9 : Code := cdR c92_7
noncomputable def c92_10 : Code := cdL c92_9
noncomputable def c92_11 : Code := cdR c92_9
noncomputable def c92_12 : Code := cdL c92_11
noncomputable def c92_13 : Code := cdR c92_11
noncomputable def c92_14 : Code := cdL c92_13
noncomputable def c92_15 : Code := cdR c92_13
noncomputable def c92_16 : Code := cdR c92_6
noncomputable def c92_17 : Code := cdL c92_16
noncomputable def c92_18 : Code := cdL c92_17
noncomputable def c92_19 : Code := cdR c92_17
noncomputable def c92_20 : Code := cdR c92_16
noncomputable def c92_21 : Code := cdL c92_20
noncomputable def c92_22 : Code := cdR c92_20
noncomputable def c92_23 : Code := cdL c92_22
noncomputable def c92_24 : Code := cdL c92_23
noncomputable def c92_25 : Code := cdR c92_23
noncomputable def c92_26 : Code := cdR c92_22
noncomputable def c92_27 : Code := cdL c92_26
noncomputable def c92_28 : Code := cdR c92_26
noncomputable def c92_29 : Code := cdL c92_28
noncomputable def c92_30 : Code := cdL c92_29
noncomputable def c92_31 : Code := cdR c92_29
noncomputable def c92_32 : Code := cdR c92_28
noncomputable def c92_33 : Code := cdR c92_2
noncomputable def c92_34 : Code := cdL c92_33
noncomputable def c92_35 : Code := cdR c92_33
noncomputable def r92_1 : Array Oper := cdO c92_1
noncomputable def r92_4 : Array Oper := cdO c92_4
noncomputable def r92_8 : Array Oper := cdO c92_8
noncomputable def r92_12 : Array Oper := cdO c92_12
noncomputable def r92_15 : Array Oper := cdO c92_15
noncomputable def r92_18 : Array Oper := cdO c92_18
noncomputable def r92_21 : Array Oper := cdO c92_21
noncomputable def r92_24 : Array Oper := cdO c92_24
noncomputable def r92_27 : Array Oper := cdO c92_27
noncomputable def r92_30 : Array Oper := cdO c92_30
noncomputable def r92_34 : Array Oper := cdO c92_34
theorem c92_0e : c92_0 = .seq c92_1 c92_2 := by kernel_rfl
theorem c92_1e : c92_1 = .region 0 r92_1 false := by kernel_rfl
theorem c92_2e : c92_2 = .seq c92_3 c92_33 := by kernel_rfl
theorem c92_3e : c92_3 = .seq c92_4 c92_5 := by kernel_rfl
theorem c92_4e : c92_4 = .region 1 r92_4 false := by kernel_rfl
theorem c92_5e : c92_5 = .block 0 c92_6 := by kernel_rfl
theorem c92_6e : c92_6 = .seq c92_7 c92_16 := by kernel_rfl
theorem c92_7e : c92_7 = .seq c92_8 c92_9 := by kernel_rfl
theorem c92_8e : c92_8 = .region 2 r92_8 false := by kernel_rfl
theorem c92_9e : c92_9 = .cond (cdC c92_9) c92_10 c92_11 := by kernel_rfl
theorem c92_10e : c92_10 = .skip := by kernel_rfl
theorem c92_11e : c92_11 = .seq c92_12 c92_13 := by kernel_rfl
theorem c92_12e : c92_12 = .region 3 r92_12 false := by kernel_rfl
theorem c92_13e : c92_13 = .cond (cdC c92_13) c92_14 c92_15 := by kernel_rfl
theorem c92_14e : c92_14 = .skip := by kernel_rfl
theorem c92_15e : c92_15 = .region 4 r92_15 false := by kernel_rfl
theorem c92_16e : c92_16 = .cond (cdC c92_16) c92_17 c92_20 := by kernel_rfl
theorem c92_17e : c92_17 = .seq c92_18 c92_19 := by kernel_rfl
theorem c92_18e : c92_18 = .region 5 r92_18 false := by kernel_rfl
theorem c92_19e : c92_19 = .ret := by kernel_rfl
theorem c92_20e : c92_20 = .seq c92_21 c92_22 := by kernel_rfl
theorem c92_21e : c92_21 = .region 6 r92_21 false := by kernel_rfl
theorem c92_22e : c92_22 = .cond (cdC c92_22) c92_23 c92_26 := by kernel_rfl
theorem c92_23e : c92_23 = .seq c92_24 c92_25 := by kernel_rfl
theorem c92_24e : c92_24 = .region 7 r92_24 false := by kernel_rfl
theorem c92_25e : c92_25 = .ret := by kernel_rfl
theorem c92_26e : c92_26 = .seq c92_27 c92_28 := by kernel_rfl
theorem c92_27e : c92_27 = .region 8 r92_27 false := by kernel_rfl
theorem c92_28e : c92_28 = .cond (cdC c92_28) c92_29 c92_32 := by kernel_rfl
theorem c92_29e : c92_29 = .seq c92_30 c92_31 := by kernel_rfl
theorem c92_30e : c92_30 = .region 9 r92_30 false := by kernel_rfl
theorem c92_31e : c92_31 = .ret := by kernel_rfl
theorem c92_32e : c92_32 = .skip := by kernel_rfl
theorem c92_33e : c92_33 = .seq c92_34 c92_35 := by kernel_rfl
theorem c92_34e : c92_34 = .region 10 r92_34 false := by kernel_rfl
theorem c92_35e : c92_35 = .ret := by kernel_rfl
noncomputable def tontineref16_May.R (A_2 : Option Addr) (c_3 : Nat) : Pst Bool where
  ε := Unit
  v := fun r x => .bool r
  H := fun r x => []
  B := fun r x => []
noncomputable def tontineref16_May.cx (A_2 : Option Addr) (c_3 : Nat) (w0 : World) (S0 : Fam) : Cx Bool := ⟨Try.prog, 92, Try.f92, 63, w0, S0, [], 0, tontineref16_May.R A_2 c_3⟩
theorem tontineref16_May_j1_ok (n : Nat) (A_2 : Option Addr) (c_3 : Nat) (w0 : World) (S0 : Fam) (b_25 : Bool) :
    GoO (tontineref16_May.cx A_2 c_3 w0 S0) [(2, .bool b_25)] [] [] [.code c92_31, .inBlock 0, .code c92_33] (tontineref16_May.j1 n b_25) := by
  unfold tontineref16_May.j1
  exact GoO.ret' (h := c92_31e) (hs := []) (ps := []) (hk := []) (bk := []) Try.func92 () (by kernel_rfl) trivial (by kernel_rfl) (by kernel_rfl)
theorem tontineref16_May_j0_ok (n : Nat) (c_1 : T_api_Command) (A_2 : Option Addr) (c_3 : Nat) (b_4 : Nat) (w0 : World) (S0 : Fam) (b_7 : Bool) :
    GoO (tontineref16_May.cx A_2 c_3 w0 S0) [(1, .pointer (some ⟨b_4, 0, none⟩)), (4, .int .i64 c_1.Kind), (5, .bool b_7)] [⟨40, b_4, [.int .i64 c_1.Kind, .int .u64 c_1.Session, .int .u64 c_1.Seq, .int .u64 c_1.Saga, .slice A_2 c_1.Steps.length c_3, .int .i64 c_1.Step, .bool c_1.Back, .int .i64 c_1.Try, .bool c_1.Ok, .int .u64 c_1.Now]⟩] [Rd 0 kT_api_Step A_2 c_3 c_1.Steps] [.code c92_16, .inBlock 0, .code c92_33] (tontineref16_May.j0 n c_1 b_7) := by
  unfold tontineref16_May.j0
  refine GoO.ite' c92_16e (by kernel_rfl) (fun h8 => ?_) (fun h8 => ?_)
  · refine GoO.seq' c92_17e ?_
    refine GoO.region' (is := [0, 1, 2, 3, 4, 5, 6, 7, 8]) c92_18e (by kernel_rfl) ?_
    refine GoO.exec (is := [0, 1, 2, 3, 4]) (hs := [.p, .b 0, .p, .p, .p]) (rest := [5, 6, 7, 8]) (ks := [1, 13]) (env' := [(1, .pointer (some ⟨b_4, 0, none⟩)), (13, .bool ((c_1.Steps.length : Int) == 0))]) (H' := [⟨40, b_4, [.int .i64 c_1.Kind, .int .u64 c_1.Session, .int .u64 c_1.Seq, .int .u64 c_1.Saga, .slice A_2 c_1.Steps.length c_3, .int .i64 c_1.Step, .bool c_1.Back, .int .i64 c_1.Try, .bool c_1.Ok, .int .u64 c_1.Now]⟩]) (ps := [b_4 = b_4]) (by kernel_rfl) (And.intro rfl trivial) ?_
    refine GoO.bsplit (t := 13) (by kernel_rfl) (fun h9 => ?_) (fun h9 => ?_)
    · refine GoO.exec (is := [5]) (hs := [.b 0]) (rest := [6, 7, 8]) (ks := [13, 14]) (env' := [(13, .bool true), (14, .agg ⟨[.int .i64 c_1.Kind, .int .u64 c_1.Session, .int .u64 c_1.Seq, .int .u64 c_1.Saga, .slice A_2 c_1.Steps.length c_3, .int .i64 c_1.Step, .bool c_1.Back, .int .i64 c_1.Try, .bool c_1.Ok, .int .u64 c_1.Now]⟩)]) (H' := [⟨40, b_4, [.int .i64 c_1.Kind, .int .u64 c_1.Session, .int .u64 c_1.Seq, .int .u64 c_1.Saga, .slice A_2 c_1.Steps.length c_3, .int .i64 c_1.Step, .bool c_1.Back, .int .i64 c_1.Try, .bool c_1.Ok, .int .u64 c_1.Now]⟩]) (ps := [b_4 = b_4]) (by kernel_rfl) (And.intro rfl trivial) ?_
      refine OpTo.go (GoO.call rfl (by kernel_rfl) (by kernel_rfl) (tontineref16_bare_ok n c_1 A_2 c_3) [[0]] [] [] [(0, 0)] (hks := [0]) (bks := [0]) (by kernel_rfl) (by kernel_rfl) (by kernel_rfl) (.inl rfl) rfl rfl (by kernel_rfl) (by kernel_rfl) _ (fun _ _ => rfl) _ _ (fun _ _ => rfl) (fun _ _ => rfl) (fun _ _ => by kernel_rfl) (fun _ _ => by kernel_rfl) (fun r_10 x_11 => ?_))
      refine GoO.shape (env' := [(13, .bool true), (14, .agg ⟨[.int .i64 c_1.Kind, .int .u64 c_1.Session, .int .u64 c_1.Seq, .int .u64 c_1.Saga, .slice A_2 c_1.Steps.length c_3, .int .i64 c_1.Step, .bool c_1.Back, .int .i64 c_1.Try, .bool c_1.Ok, .int .u64 c_1.Now]⟩), (15, .bool r_10)]) (H' := [⟨40, b_4, [.int .i64 c_1.Kind, .int .u64 c_1.Session, .int .u64 c_1.Seq, .int .u64 c_1.Saga, .slice A_2 c_1.Steps.length c_3, .int .i64 c_1.Step, .bool c_1.Back, .int .i64 c_1.Try, .bool c_1.Ok, .int .u64 c_1.Now]⟩]) (B' := [Rd 0 kT_api_Step A_2 c_3 c_1.Steps]) (ks := [13, 14, 15]) (by kernel_rfl) (by kernel_rfl) (by kernel_rfl) ?_
      refine GoO.exec (is := [7, 8]) (hs := [.p, .p]) (rest := []) (ks := [2]) (env' := [(2, .bool r_10)]) (H' := [⟨40, b_4, [.int .i64 c_1.Kind, .int .u64 c_1.Session, .int .u64 c_1.Seq, .int .u64 c_1.Saga, .slice A_2 c_1.Steps.length c_3, .int .i64 c_1.Step, .bool c_1.Back, .int .i64 c_1.Try, .bool c_1.Ok, .int .u64 c_1.Now]⟩]) (ps := []) (by kernel_rfl) trivial ?_
      refine GoO.regionEnd ?_
      exact GoO.ret' (h := c92_19e) (hs := []) (ps := []) (hk := []) (bk := []) Try.func92 () (by kernel_rfl) trivial (by kernel_rfl) (by kernel_rfl)
    · refine GoO.exec (is := [5, 6, 7, 8]) (hs := [.p, .p, .p, .p]) (rest := []) (ks := [2]) (env' := [(2, .bool false)]) (H' := [⟨40, b_4, [.int .i64 c_1.Kind, .int .u64 c_1.Session, .int .u64 c_1.Seq, .int .u64 c_1.Saga, .slice A_2 c_1.Steps.length c_3, .int .i64 c_1.Step, .bool c_1.Back, .int .i64 c_1.Try, .bool c_1.Ok, .int .u64 c_1.Now]⟩]) (ps := []) (by kernel_rfl) trivial ?_
      refine GoO.regionEnd ?_
      exact GoO.ret' (h := c92_19e) (hs := []) (ps := []) (hk := []) (bk := []) Try.func92 () (by kernel_rfl) trivial (by kernel_rfl) (by kernel_rfl)
  · refine GoO.seq' c92_20e ?_
    refine GoO.region' (is := [0, 1]) c92_21e (by kernel_rfl) ?_
    refine GoO.exec (is := [0, 1]) (hs := [.p, .p]) (rest := []) (ks := [1, 4, 17]) (env' := [(1, .pointer (some ⟨b_4, 0, none⟩)), (4, .int .i64 c_1.Kind), (17, .bool (c_1.Kind == 2))]) (H' := [⟨40, b_4, [.int .i64 c_1.Kind, .int .u64 c_1.Session, .int .u64 c_1.Seq, .int .u64 c_1.Saga, .slice A_2 c_1.Steps.length c_3, .int .i64 c_1.Step, .bool c_1.Back, .int .i64 c_1.Try, .bool c_1.Ok, .int .u64 c_1.Now]⟩]) (ps := []) (by kernel_rfl) trivial ?_
    refine GoO.regionEnd ?_
    refine GoO.ite' c92_22e (by kernel_rfl) (fun h12 => ?_) (fun h12 => ?_)
    · refine GoO.seq' c92_23e ?_
      refine GoO.region' (is := [0, 1, 2, 3, 4, 5, 6, 7, 8]) c92_24e (by kernel_rfl) ?_
      refine GoO.exec (is := [0, 1]) (hs := [.p, .b 0]) (rest := [2, 3, 4, 5, 6, 7, 8]) (ks := [1, 20]) (env' := [(1, .pointer (some ⟨b_4, 0, none⟩)), (20, .slice A_2 c_1.Steps.length c_3)]) (H' := [⟨40, b_4, [.int .i64 c_1.Kind, .int .u64 c_1.Session, .int .u64 c_1.Seq, .int .u64 c_1.Saga, .slice A_2 c_1.Steps.length c_3, .int .i64 c_1.Step, .bool c_1.Back, .int .i64 c_1.Try, .bool c_1.Ok, .int .u64 c_1.Now]⟩]) (ps := [b_4 = b_4]) (by kernel_rfl) (And.intro rfl trivial) ?_
      refine OpTo.go (GoO.call rfl (by kernel_rfl) (by kernel_rfl) (tontineref13_Check_ok n c_1.Steps A_2 c_3) [[0]] [] [] [(0, 0)] (hks := [0]) (bks := [0]) (by kernel_rfl) (by kernel_rfl) (by kernel_rfl) (.inl rfl) rfl rfl (by kernel_rfl) (by kernel_rfl) _ (fun _ _ => rfl) _ _ (fun _ _ => rfl) (fun _ _ => rfl) (fun _ _ => by kernel_rfl) (fun _ _ => by kernel_rfl) (fun r_13 x_17 => ?_))
      refine GoO.shape (env' := [(1, .pointer (some ⟨b_4, 0, none⟩)), (20, .slice A_2 c_1.Steps.length c_3), (21, .int .i64 r_13)]) (H' := [⟨40, b_4, [.int .i64 c_1.Kind, .int .u64 c_1.Session, .int .u64 c_1.Seq, .int .u64 c_1.Saga, .slice A_2 c_1.Steps.length c_3, .int .i64 c_1.Step, .bool c_1.Back, .int .i64 c_1.Try, .bool c_1.Ok, .int .u64 c_1.Now]⟩]) (B' := [Rd 0 kT_api_Step A_2 c_3 c_1.Steps]) (ks := [1, 20, 21]) (by kernel_rfl) (by kernel_rfl) (by kernel_rfl) ?_
      refine GoO.exec (is := [3, 4]) (hs := [.p, .p]) (rest := [5, 6, 7, 8]) (ks := [1, 23]) (env' := [(1, .pointer (some ⟨b_4, 0, none⟩)), (23, .bool (r_13 == 0))]) (H' := [⟨40, b_4, [.int .i64 c_1.Kind, .int .u64 c_1.Session, .int .u64 c_1.Seq, .int .u64 c_1.Saga, .slice A_2 c_1.Steps.length c_3, .int .i64 c_1.Step, .bool c_1.Back, .int .i64 c_1.Try, .bool c_1.Ok, .int .u64 c_1.Now]⟩]) (ps := []) (by kernel_rfl) trivial ?_
      refine GoO.bsplit (t := 23) (by kernel_rfl) (fun h14 => ?_) (fun h14 => ?_)
      · refine GoO.exec (is := [5]) (hs := [.b 0]) (rest := [6, 7, 8]) (ks := [23, 24]) (env' := [(23, .bool true), (24, .agg ⟨[.int .i64 c_1.Kind, .int .u64 c_1.Session, .int .u64 c_1.Seq, .int .u64 c_1.Saga, .slice A_2 c_1.Steps.length c_3, .int .i64 c_1.Step, .bool c_1.Back, .int .i64 c_1.Try, .bool c_1.Ok, .int .u64 c_1.Now]⟩)]) (H' := [⟨40, b_4, [.int .i64 c_1.Kind, .int .u64 c_1.Session, .int .u64 c_1.Seq, .int .u64 c_1.Saga, .slice A_2 c_1.Steps.length c_3, .int .i64 c_1.Step, .bool c_1.Back, .int .i64 c_1.Try, .bool c_1.Ok, .int .u64 c_1.Now]⟩]) (ps := [b_4 = b_4]) (by kernel_rfl) (And.intro rfl trivial) ?_
        refine OpTo.go (GoO.call rfl (by kernel_rfl) (by kernel_rfl) (tontineref16_bare_ok n c_1 A_2 c_3) [[0]] [] [] [(0, 0)] (hks := [0]) (bks := [0]) (by kernel_rfl) (by kernel_rfl) (by kernel_rfl) (.inl rfl) rfl rfl (by kernel_rfl) (by kernel_rfl) _ (fun _ _ => rfl) _ _ (fun _ _ => rfl) (fun _ _ => rfl) (fun _ _ => by kernel_rfl) (fun _ _ => by kernel_rfl) (fun r_15 x_16 => ?_))
        refine GoO.shape (env' := [(23, .bool true), (24, .agg ⟨[.int .i64 c_1.Kind, .int .u64 c_1.Session, .int .u64 c_1.Seq, .int .u64 c_1.Saga, .slice A_2 c_1.Steps.length c_3, .int .i64 c_1.Step, .bool c_1.Back, .int .i64 c_1.Try, .bool c_1.Ok, .int .u64 c_1.Now]⟩), (25, .bool r_15)]) (H' := [⟨40, b_4, [.int .i64 c_1.Kind, .int .u64 c_1.Session, .int .u64 c_1.Seq, .int .u64 c_1.Saga, .slice A_2 c_1.Steps.length c_3, .int .i64 c_1.Step, .bool c_1.Back, .int .i64 c_1.Try, .bool c_1.Ok, .int .u64 c_1.Now]⟩]) (B' := [Rd 0 kT_api_Step A_2 c_3 c_1.Steps]) (ks := [23, 24, 25]) (by kernel_rfl) (by kernel_rfl) (by kernel_rfl) ?_
        refine GoO.exec (is := [7, 8]) (hs := [.p, .p]) (rest := []) (ks := [2]) (env' := [(2, .bool r_15)]) (H' := [⟨40, b_4, [.int .i64 c_1.Kind, .int .u64 c_1.Session, .int .u64 c_1.Seq, .int .u64 c_1.Saga, .slice A_2 c_1.Steps.length c_3, .int .i64 c_1.Step, .bool c_1.Back, .int .i64 c_1.Try, .bool c_1.Ok, .int .u64 c_1.Now]⟩]) (ps := []) (by kernel_rfl) trivial ?_
        refine GoO.regionEnd ?_
        exact GoO.ret' (h := c92_25e) (hs := []) (ps := []) (hk := []) (bk := []) Try.func92 () (by kernel_rfl) trivial (by kernel_rfl) (by kernel_rfl)
      · refine GoO.exec (is := [5, 6, 7, 8]) (hs := [.p, .p, .p, .p]) (rest := []) (ks := [2]) (env' := [(2, .bool false)]) (H' := [⟨40, b_4, [.int .i64 c_1.Kind, .int .u64 c_1.Session, .int .u64 c_1.Seq, .int .u64 c_1.Saga, .slice A_2 c_1.Steps.length c_3, .int .i64 c_1.Step, .bool c_1.Back, .int .i64 c_1.Try, .bool c_1.Ok, .int .u64 c_1.Now]⟩]) (ps := []) (by kernel_rfl) trivial ?_
        refine GoO.regionEnd ?_
        exact GoO.ret' (h := c92_25e) (hs := []) (ps := []) (hk := []) (bk := []) Try.func92 () (by kernel_rfl) trivial (by kernel_rfl) (by kernel_rfl)
    · refine GoO.seq' c92_26e ?_
      refine GoO.region' (is := [0, 1]) c92_27e (by kernel_rfl) ?_
      refine GoO.exec (is := [0, 1]) (hs := [.p, .p]) (rest := []) (ks := [1, 27]) (env' := [(1, .pointer (some ⟨b_4, 0, none⟩)), (27, .bool (c_1.Kind == 4))]) (H' := [⟨40, b_4, [.int .i64 c_1.Kind, .int .u64 c_1.Session, .int .u64 c_1.Seq, .int .u64 c_1.Saga, .slice A_2 c_1.Steps.length c_3, .int .i64 c_1.Step, .bool c_1.Back, .int .i64 c_1.Try, .bool c_1.Ok, .int .u64 c_1.Now]⟩]) (ps := []) (by kernel_rfl) trivial ?_
      refine GoO.regionEnd ?_
      refine GoO.ite' c92_28e (by kernel_rfl) (fun h18 => ?_) (fun h18 => ?_)
      · refine GoO.seq' c92_29e ?_
        refine GoO.region' (is := [0, 1, 2, 3, 4, 5, 6, 7, 8, 9, 10, 11, 12, 13, 14, 15, 16, 17, 18, 19, 20, 21, 22, 23, 24, 25, 26, 27, 28, 29, 30, 31, 32, 33, 34]) c92_30e (by kernel_rfl) ?_
        refine GoO.exec (is := [0, 1, 2, 3, 4]) (hs := [.p, .b 0, .p, .p, .p]) (rest := [5, 6, 7, 8, 9, 10, 11, 12, 13, 14, 15, 16, 17, 18, 19, 20, 21, 22, 23, 24, 25, 26, 27, 28, 29, 30, 31, 32, 33, 34]) (ks := [1, 33]) (env' := [(1, .pointer (some ⟨b_4, 0, none⟩)), (33, .bool ((c_1.Steps.length : Int) == 0))]) (H' := [⟨40, b_4, [.int .i64 c_1.Kind, .int .u64 c_1.Session, .int .u64 c_1.Seq, .int .u64 c_1.Saga, .slice A_2 c_1.Steps.length c_3, .int .i64 c_1.Step, .bool c_1.Back, .int .i64 c_1.Try, .bool c_1.Ok, .int .u64 c_1.Now]⟩]) (ps := [b_4 = b_4]) (by kernel_rfl) (And.intro rfl trivial) ?_
        refine GoO.bsplit (t := 33) (by kernel_rfl) (fun h19 => ?_) (fun h19 => ?_)
        · refine GoO.exec (is := [5, 6, 7, 8, 9]) (hs := [.p, .b 0, .p, .p, .p]) (rest := [10, 11, 12, 13, 14, 15, 16, 17, 18, 19, 20, 21, 22, 23, 24, 25, 26, 27, 28, 29, 30, 31, 32, 33, 34]) (ks := [1, 38]) (env' := [(1, .pointer (some ⟨b_4, 0, none⟩)), (38, .bool (decide (c_1.Step ≥ 0)))]) (H' := [⟨40, b_4, [.int .i64 c_1.Kind, .int .u64 c_1.Session, .int .u64 c_1.Seq, .int .u64 c_1.Saga, .slice A_2 c_1.Steps.length c_3, .int .i64 c_1.Step, .bool c_1.Back, .int .i64 c_1.Try, .bool c_1.Ok, .int .u64 c_1.Now]⟩]) (ps := [b_4 = b_4]) (by kernel_rfl) (And.intro rfl trivial) ?_
          refine GoO.bsplit (t := 38) (by kernel_rfl) (fun h20 => ?_) (fun h20 => ?_)
          · refine GoO.exec (is := [10, 11, 12, 13, 14]) (hs := [.p, .b 0, .p, .p, .p]) (rest := [15, 16, 17, 18, 19, 20, 21, 22, 23, 24, 25, 26, 27, 28, 29, 30, 31, 32, 33, 34]) (ks := [1, 43]) (env' := [(1, .pointer (some ⟨b_4, 0, none⟩)), (43, .bool (decide (c_1.Step ≤ 63)))]) (H' := [⟨40, b_4, [.int .i64 c_1.Kind, .int .u64 c_1.Session, .int .u64 c_1.Seq, .int .u64 c_1.Saga, .slice A_2 c_1.Steps.length c_3, .int .i64 c_1.Step, .bool c_1.Back, .int .i64 c_1.Try, .bool c_1.Ok, .int .u64 c_1.Now]⟩]) (ps := [b_4 = b_4]) (by kernel_rfl) (And.intro rfl trivial) ?_
            refine GoO.bsplit (t := 43) (by kernel_rfl) (fun h21 => ?_) (fun h21 => ?_)
            · refine GoO.exec (is := [15, 16, 17, 18, 19]) (hs := [.p, .b 0, .p, .p, .p]) (rest := [20, 21, 22, 23, 24, 25, 26, 27, 28, 29, 30, 31, 32, 33, 34]) (ks := [1, 48]) (env' := [(1, .pointer (some ⟨b_4, 0, none⟩)), (48, .bool (decide (c_1.Try ≥ 0)))]) (H' := [⟨40, b_4, [.int .i64 c_1.Kind, .int .u64 c_1.Session, .int .u64 c_1.Seq, .int .u64 c_1.Saga, .slice A_2 c_1.Steps.length c_3, .int .i64 c_1.Step, .bool c_1.Back, .int .i64 c_1.Try, .bool c_1.Ok, .int .u64 c_1.Now]⟩]) (ps := [b_4 = b_4]) (by kernel_rfl) (And.intro rfl trivial) ?_
              refine GoO.bsplit (t := 48) (by kernel_rfl) (fun h22 => ?_) (fun h22 => ?_)
              · refine GoO.exec (is := [20, 21, 22, 23, 24]) (hs := [.p, .b 0, .p, .p, .p]) (rest := [25, 26, 27, 28, 29, 30, 31, 32, 33, 34]) (ks := [1, 53]) (env' := [(1, .pointer (some ⟨b_4, 0, none⟩)), (53, .bool (decide (c_1.Try ≤ 8)))]) (H' := [⟨40, b_4, [.int .i64 c_1.Kind, .int .u64 c_1.Session, .int .u64 c_1.Seq, .int .u64 c_1.Saga, .slice A_2 c_1.Steps.length c_3, .int .i64 c_1.Step, .bool c_1.Back, .int .i64 c_1.Try, .bool c_1.Ok, .int .u64 c_1.Now]⟩]) (ps := [b_4 = b_4]) (by kernel_rfl) (And.intro rfl trivial) ?_
                refine GoO.bsplit (t := 53) (by kernel_rfl) (fun h23 => ?_) (fun h23 => ?_)
                · refine GoO.exec (is := [25, 26, 27, 28, 29]) (hs := [.p, .b 0, .p, .p, .p]) (rest := [30, 31, 32, 33, 34]) (ks := [1, 58]) (env' := [(1, .pointer (some ⟨b_4, 0, none⟩)), (58, .bool (c_1.Session == 0))]) (H' := [⟨40, b_4, [.int .i64 c_1.Kind, .int .u64 c_1.Session, .int .u64 c_1.Seq, .int .u64 c_1.Saga, .slice A_2 c_1.Steps.length c_3, .int .i64 c_1.Step, .bool c_1.Back, .int .i64 c_1.Try, .bool c_1.Ok, .int .u64 c_1.Now]⟩]) (ps := [b_4 = b_4]) (by kernel_rfl) (And.intro rfl trivial) ?_
                  refine GoO.bsplit (t := 58) (by kernel_rfl) (fun h24 => ?_) (fun h24 => ?_)
                  · refine GoO.exec (is := [30, 31, 32, 33, 34]) (hs := [.p, .b 0, .p, .p, .p]) (rest := []) (ks := [2]) (env' := [(2, .bool (c_1.Seq == 0))]) (H' := [⟨40, b_4, [.int .i64 c_1.Kind, .int .u64 c_1.Session, .int .u64 c_1.Seq, .int .u64 c_1.Saga, .slice A_2 c_1.Steps.length c_3, .int .i64 c_1.Step, .bool c_1.Back, .int .i64 c_1.Try, .bool c_1.Ok, .int .u64 c_1.Now]⟩]) (ps := [b_4 = b_4]) (by kernel_rfl) (And.intro rfl trivial) ?_
                    refine GoO.regionEnd ?_
                    exact GoO.sub (ks := [2]) (hk := []) (bk := []) (by kernel_rfl) (by kernel_rfl) (by kernel_rfl) (tontineref16_May_j1_ok n A_2 c_3 w0 S0 (c_1.Seq == 0))
                  · refine GoO.exec (is := [30, 31, 32, 33, 34]) (hs := [.p, .p, .p, .p, .p]) (rest := []) (ks := [2]) (env' := [(2, .bool false)]) (H' := [⟨40, b_4, [.int .i64 c_1.Kind, .int .u64 c_1.Session, .int .u64 c_1.Seq, .int .u64 c_1.Saga, .slice A_2 c_1.Steps.length c_3, .int .i64 c_1.Step, .bool c_1.Back, .int .i64 c_1.Try, .bool c_1.Ok, .int .u64 c_1.Now]⟩]) (ps := []) (by kernel_rfl) trivial ?_
                    refine GoO.regionEnd ?_
                    exact GoO.sub (ks := [2]) (hk := []) (bk := []) (by kernel_rfl) (by kernel_rfl) (by kernel_rfl) (tontineref16_May_j1_ok n A_2 c_3 w0 S0 false)
                · refine GoO.exec (is := [25, 26, 27, 28, 29, 30, 31, 32, 33, 34]) (hs := [.p, .p, .p, .p, .p, .p, .p, .p, .p, .p]) (rest := []) (ks := [2]) (env' := [(2, .bool false)]) (H' := [⟨40, b_4, [.int .i64 c_1.Kind, .int .u64 c_1.Session, .int .u64 c_1.Seq, .int .u64 c_1.Saga, .slice A_2 c_1.Steps.length c_3, .int .i64 c_1.Step, .bool c_1.Back, .int .i64 c_1.Try, .bool c_1.Ok, .int .u64 c_1.Now]⟩]) (ps := []) (by kernel_rfl) trivial ?_
                  refine GoO.regionEnd ?_
                  exact GoO.sub (ks := [2]) (hk := []) (bk := []) (by kernel_rfl) (by kernel_rfl) (by kernel_rfl) (tontineref16_May_j1_ok n A_2 c_3 w0 S0 false)
              · refine GoO.exec (is := [20, 21, 22, 23, 24, 25, 26, 27, 28, 29, 30, 31, 32, 33, 34]) (hs := [.p, .p, .p, .p, .p, .p, .p, .p, .p, .p, .p, .p, .p, .p, .p]) (rest := []) (ks := [2]) (env' := [(2, .bool false)]) (H' := [⟨40, b_4, [.int .i64 c_1.Kind, .int .u64 c_1.Session, .int .u64 c_1.Seq, .int .u64 c_1.Saga, .slice A_2 c_1.Steps.length c_3, .int .i64 c_1.Step, .bool c_1.Back, .int .i64 c_1.Try, .bool c_1.Ok, .int .u64 c_1.Now]⟩]) (ps := []) (by kernel_rfl) trivial ?_
                refine GoO.regionEnd ?_
                exact GoO.sub (ks := [2]) (hk := []) (bk := []) (by kernel_rfl) (by kernel_rfl) (by kernel_rfl) (tontineref16_May_j1_ok n A_2 c_3 w0 S0 false)
            · refine GoO.exec (is := [15, 16, 17, 18, 19, 20, 21, 22, 23, 24, 25, 26, 27, 28, 29, 30, 31, 32, 33, 34]) (hs := [.p, .p, .p, .p, .p, .p, .p, .p, .p, .p, .p, .p, .p, .p, .p, .p, .p, .p, .p, .p]) (rest := []) (ks := [2]) (env' := [(2, .bool false)]) (H' := [⟨40, b_4, [.int .i64 c_1.Kind, .int .u64 c_1.Session, .int .u64 c_1.Seq, .int .u64 c_1.Saga, .slice A_2 c_1.Steps.length c_3, .int .i64 c_1.Step, .bool c_1.Back, .int .i64 c_1.Try, .bool c_1.Ok, .int .u64 c_1.Now]⟩]) (ps := []) (by kernel_rfl) trivial ?_
              refine GoO.regionEnd ?_
              exact GoO.sub (ks := [2]) (hk := []) (bk := []) (by kernel_rfl) (by kernel_rfl) (by kernel_rfl) (tontineref16_May_j1_ok n A_2 c_3 w0 S0 false)
          · refine GoO.exec (is := [10, 11, 12, 13, 14, 15, 16, 17, 18, 19, 20, 21, 22, 23, 24, 25, 26, 27, 28, 29, 30, 31, 32, 33, 34]) (hs := [.p, .p, .p, .p, .p, .p, .p, .p, .p, .p, .p, .p, .p, .p, .p, .p, .p, .p, .p, .p, .p, .p, .p, .p, .p]) (rest := []) (ks := [2]) (env' := [(2, .bool false)]) (H' := [⟨40, b_4, [.int .i64 c_1.Kind, .int .u64 c_1.Session, .int .u64 c_1.Seq, .int .u64 c_1.Saga, .slice A_2 c_1.Steps.length c_3, .int .i64 c_1.Step, .bool c_1.Back, .int .i64 c_1.Try, .bool c_1.Ok, .int .u64 c_1.Now]⟩]) (ps := []) (by kernel_rfl) trivial ?_
            refine GoO.regionEnd ?_
            exact GoO.sub (ks := [2]) (hk := []) (bk := []) (by kernel_rfl) (by kernel_rfl) (by kernel_rfl) (tontineref16_May_j1_ok n A_2 c_3 w0 S0 false)
        · refine GoO.exec (is := [5, 6, 7, 8, 9, 10, 11, 12, 13, 14, 15, 16, 17, 18, 19, 20, 21, 22, 23, 24, 25, 26, 27, 28, 29, 30, 31, 32, 33, 34]) (hs := [.p, .p, .p, .p, .p, .p, .p, .p, .p, .p, .p, .p, .p, .p, .p, .p, .p, .p, .p, .p, .p, .p, .p, .p, .p, .p, .p, .p, .p, .p]) (rest := []) (ks := [2]) (env' := [(2, .bool false)]) (H' := [⟨40, b_4, [.int .i64 c_1.Kind, .int .u64 c_1.Session, .int .u64 c_1.Seq, .int .u64 c_1.Saga, .slice A_2 c_1.Steps.length c_3, .int .i64 c_1.Step, .bool c_1.Back, .int .i64 c_1.Try, .bool c_1.Ok, .int .u64 c_1.Now]⟩]) (ps := []) (by kernel_rfl) trivial ?_
          refine GoO.regionEnd ?_
          exact GoO.sub (ks := [2]) (hk := []) (bk := []) (by kernel_rfl) (by kernel_rfl) (by kernel_rfl) (tontineref16_May_j1_ok n A_2 c_3 w0 S0 false)
      · refine GoO.skip' c92_32e ?_
        refine GoO.inBlock ?_
        refine GoO.seq' c92_33e ?_
        refine GoO.region' (is := [0]) c92_34e (by kernel_rfl) ?_
        refine GoO.exec (is := [0]) (hs := [.p]) (rest := []) (ks := [2]) (env' := [(2, .bool false)]) (H' := [⟨40, b_4, [.int .i64 c_1.Kind, .int .u64 c_1.Session, .int .u64 c_1.Seq, .int .u64 c_1.Saga, .slice A_2 c_1.Steps.length c_3, .int .i64 c_1.Step, .bool c_1.Back, .int .i64 c_1.Try, .bool c_1.Ok, .int .u64 c_1.Now]⟩]) (ps := []) (by kernel_rfl) trivial ?_
        refine GoO.regionEnd ?_
        exact GoO.ret' (h := c92_35e) (hs := []) (ps := []) (hk := []) (bk := []) Try.func92 () (by kernel_rfl) trivial (by kernel_rfl) (by kernel_rfl)
theorem tontineref16_May_ok (n : Nat) (c_1 : T_api_Command) (A_2 : Option Addr) (c_3 : Nat) :
    Meets Try.prog 92 [.agg ⟨[.int .i64 c_1.Kind, .int .u64 c_1.Session, .int .u64 c_1.Seq, .int .u64 c_1.Saga, .slice A_2 c_1.Steps.length c_3, .int .i64 c_1.Step, .bool c_1.Back, .int .i64 c_1.Try, .bool c_1.Ok, .int .u64 c_1.Now]⟩] 0 [] [] [Rd 0 kT_api_Step A_2 c_3 c_1.Steps] (tontineref16_May.f n c_1) (tontineref16_May.R A_2 c_3) := by
  refine Meets.of (c := c92_0) (n := 63) Try.func92 (by kernel_rfl) (by kernel_rfl) (by kernel_rfl) fun w0 S0 => ?_
  unfold tontineref16_May.f
  show GoO (tontineref16_May.cx A_2 c_3 w0 S0) [(0, .agg ⟨[.int .i64 c_1.Kind, .int .u64 c_1.Session, .int .u64 c_1.Seq, .int .u64 c_1.Saga, .slice A_2 c_1.Steps.length c_3, .int .i64 c_1.Step, .bool c_1.Back, .int .i64 c_1.Try, .bool c_1.Ok, .int .u64 c_1.Now]⟩)] [] [Rd 0 kT_api_Step A_2 c_3 c_1.Steps] [.code c92_0] _
  refine GoO.seq' c92_0e ?_
  refine GoO.region' (is := [0, 1]) c92_1e (by kernel_rfl) ?_
  refine OpTo.go (GoO.new rfl 40 (cs := [.int .i64 c_1.Kind, .int .u64 c_1.Session, .int .u64 c_1.Seq, .int .u64 c_1.Saga, .slice A_2 c_1.Steps.length c_3, .int .i64 c_1.Step, .bool c_1.Back, .int .i64 c_1.Try, .bool c_1.Ok, .int .u64 c_1.Now]) (by kernel_rfl) _ (fun _ => rfl) (fun b_4 => ?_))
  refine GoO.exec (is := [1]) (hs := [.p]) (rest := []) (ks := [1]) (env' := [(1, .pointer (some ⟨b_4, 0, none⟩))]) (H' := [⟨40, b_4, [.int .i64 c_1.Kind, .int .u64 c_1.Session, .int .u64 c_1.Seq, .int .u64 c_1.Saga, .slice A_2 c_1.Steps.length c_3, .int .i64 c_1.Step, .bool c_1.Back, .int .i64 c_1.Try, .bool c_1.Ok, .int .u64 c_1.Now]⟩]) (ps := []) (by kernel_rfl) trivial ?_
  refine GoO.regionEnd ?_
  refine GoO.seq' c92_2e ?_
  refine GoO.seq' c92_3e ?_
  refine GoO.region' (is := [0, 1]) c92_4e (by kernel_rfl) ?_
  refine GoO.exec (is := [0, 1]) (hs := [.p, .b 0]) (rest := []) (ks := [1, 4]) (env' := [(1, .pointer (some ⟨b_4, 0, none⟩)), (4, .int .i64 c_1.Kind)]) (H' := [⟨40, b_4, [.int .i64 c_1.Kind, .int .u64 c_1.Session, .int .u64 c_1.Seq, .int .u64 c_1.Saga, .slice A_2 c_1.Steps.length c_3, .int .i64 c_1.Step, .bool c_1.Back, .int .i64 c_1.Try, .bool c_1.Ok, .int .u64 c_1.Now]⟩]) (ps := [b_4 = b_4]) (by kernel_rfl) (And.intro rfl trivial) ?_
  refine GoO.regionEnd ?_
  refine GoO.block' c92_5e ?_
  refine GoO.seq' c92_6e ?_
  refine GoO.seq' c92_7e ?_
  refine GoO.region' (is := [0, 1]) c92_8e (by kernel_rfl) ?_
  refine GoO.exec (is := [0, 1]) (hs := [.p, .p]) (rest := []) (ks := [1, 4, 5]) (env' := [(1, .pointer (some ⟨b_4, 0, none⟩)), (4, .int .i64 c_1.Kind), (5, .bool (c_1.Kind == 1))]) (H' := [⟨40, b_4, [.int .i64 c_1.Kind, .int .u64 c_1.Session, .int .u64 c_1.Seq, .int .u64 c_1.Saga, .slice A_2 c_1.Steps.length c_3, .int .i64 c_1.Step, .bool c_1.Back, .int .i64 c_1.Try, .bool c_1.Ok, .int .u64 c_1.Now]⟩]) (ps := []) (by kernel_rfl) trivial ?_
  refine GoO.regionEnd ?_
  refine GoO.ite' c92_9e (by kernel_rfl) (fun h5 => ?_) (fun h5 => ?_)
  · refine GoO.skip' c92_10e ?_
    exact GoO.sub (ks := [1, 4, 5]) (hk := [0]) (bk := [0]) (by kernel_rfl) (by kernel_rfl) (by kernel_rfl) (tontineref16_May_j0_ok n c_1 A_2 c_3 b_4 w0 S0 (c_1.Kind == 1))
  · refine GoO.seq' c92_11e ?_
    refine GoO.region' (is := [0, 1]) c92_12e (by kernel_rfl) ?_
    refine GoO.exec (is := [0, 1]) (hs := [.p, .p]) (rest := []) (ks := [1, 4, 5]) (env' := [(1, .pointer (some ⟨b_4, 0, none⟩)), (4, .int .i64 c_1.Kind), (5, .bool (c_1.Kind == 3))]) (H' := [⟨40, b_4, [.int .i64 c_1.Kind, .int .u64 c_1.Session, .int .u64 c_1.Seq, .int .u64 c_1.Saga, .slice A_2 c_1.Steps.length c_3, .int .i64 c_1.Step, .bool c_1.Back, .int .i64 c_1.Try, .bool c_1.Ok, .int .u64 c_1.Now]⟩]) (ps := []) (by kernel_rfl) trivial ?_
    refine GoO.regionEnd ?_
    refine GoO.ite' c92_13e (by kernel_rfl) (fun h6 => ?_) (fun h6 => ?_)
    · refine GoO.skip' c92_14e ?_
      exact GoO.sub (ks := [1, 4, 5]) (hk := [0]) (bk := [0]) (by kernel_rfl) (by kernel_rfl) (by kernel_rfl) (tontineref16_May_j0_ok n c_1 A_2 c_3 b_4 w0 S0 (c_1.Kind == 3))
    · refine GoO.region' (is := [0, 1]) c92_15e (by kernel_rfl) ?_
      refine GoO.exec (is := [0, 1]) (hs := [.p, .p]) (rest := []) (ks := [1, 4, 5]) (env' := [(1, .pointer (some ⟨b_4, 0, none⟩)), (4, .int .i64 c_1.Kind), (5, .bool (c_1.Kind == 5))]) (H' := [⟨40, b_4, [.int .i64 c_1.Kind, .int .u64 c_1.Session, .int .u64 c_1.Seq, .int .u64 c_1.Saga, .slice A_2 c_1.Steps.length c_3, .int .i64 c_1.Step, .bool c_1.Back, .int .i64 c_1.Try, .bool c_1.Ok, .int .u64 c_1.Now]⟩]) (ps := []) (by kernel_rfl) trivial ?_
      refine GoO.regionEnd ?_
      exact GoO.sub (ks := [1, 4, 5]) (hk := [0]) (bk := [0]) (by kernel_rfl) (by kernel_rfl) (by kernel_rfl) (tontineref16_May_j0_ok n c_1 A_2 c_3 b_4 w0 S0 (c_1.Kind == 5))

/-! tontine/tontineref03.Text -/
noncomputable def c100_0 : Code := bodyOf Try.f100
noncomputable def c100_1 : Code := cdL c100_0
noncomputable def c100_2 : Code := cdR c100_0
noncomputable def c100_3 : Code := cdL c100_2
noncomputable def c100_4 : Code := cdR c100_2
noncomputable def r100_1 : Array Oper := cdO c100_1
noncomputable def r100_3 : Array Oper := cdO c100_3
theorem c100_0e : c100_0 = .seq c100_1 c100_2 := by kernel_rfl
theorem c100_1e : c100_1 = .region 0 r100_1 false := by kernel_rfl
theorem c100_2e : c100_2 = .seq c100_3 c100_4 := by kernel_rfl
theorem c100_3e : c100_3 = .region 1 r100_3 false := by kernel_rfl
theorem c100_4e : c100_4 = .ret := by kernel_rfl
noncomputable def tontineref03_Text.R : Pst (List UInt8) where
  ε := Unit
  v := fun r x => .string (bs r)
  H := fun r x => []
  B := fun r x => []
noncomputable def tontineref03_Text.cx (w0 : World) (S0 : Fam) : Cx (List UInt8) := ⟨Try.prog, 100, Try.f100, 9, w0, S0, [], 0, tontineref03_Text.R⟩
theorem tontineref03_Text_ok (n : Nat) (s_1 : (List UInt8)) :
    Meets Try.prog 100 [.string (bs s_1)] 0 [] [] [] (tontineref03_Text.f n s_1) (tontineref03_Text.R) := by
  refine Meets.of (c := c100_0) (n := 9) Try.func100 (by kernel_rfl) (by kernel_rfl) (by kernel_rfl) fun w0 S0 => ?_
  unfold tontineref03_Text.f
  show GoO (tontineref03_Text.cx w0 S0) [(0, .string (bs s_1))] [] [] [.code c100_0] _
  refine GoO.seq' c100_0e ?_
  refine GoO.region' (is := [0]) c100_1e (by kernel_rfl) ?_
  refine GoO.exec (is := [0]) (hs := [.p]) (rest := []) (ks := [0]) (env' := [(0, .string (bs s_1))]) (H' := []) (ps := []) (by kernel_rfl) trivial ?_
  refine GoO.regionEnd ?_
  refine GoO.seq' c100_2e ?_
  refine GoO.region' (is := [0, 1, 2, 3, 4, 5, 6]) c100_3e (by kernel_rfl) ?_
  refine GoO.exec (is := [0, 1, 2]) (hs := [.p, .p, .p]) (rest := [3, 4, 5, 6]) (ks := [0, 5]) (env' := [(0, .string (bs s_1)), (5, .int .u64 (wu64 (s_1.length : Int)))]) (H' := []) (ps := []) (by kernel_rfl) trivial ?_
  refine OpTo.go (GoO.call rfl (by kernel_rfl) (by kernel_rfl) (tontineref03_Num_ok n (wu64 (s_1.length : Int))) [[0]] [] [] [] (hks := []) (bks := []) (by kernel_rfl) (by kernel_rfl) (by kernel_rfl) (.inl rfl) rfl rfl (by kernel_rfl) (by kernel_rfl) _ (fun _ _ => rfl) _ _ (fun _ _ => rfl) (fun _ _ => rfl) (fun _ _ => by kernel_rfl) (fun _ _ => by kernel_rfl) (fun r_2 x_4 => ?_))
  refine GoO.shape (env' := [(0, .string (bs s_1)), (5, .int .u64 (wu64 (s_1.length : Int))), (6, .string (bs r_2))]) (H' := []) (B' := []) (ks := [0, 5, 6]) (by kernel_rfl) (by kernel_rfl) (by kernel_rfl) ?_
  refine GoO.guard (fun h3 => ?_)
  refine GoO.exec (is := [4, 5, 6]) (hs := [.p, .p, .p]) (rest := []) (ks := [2]) (env' := [(2, .string (bs (r_2 ++ s_1)))]) (H' := []) (ps := [r_2.length + s_1.length ≤ i64max]) (by kernel_rfl) (And.intro h3 trivial) ?_
  refine GoO.regionEnd ?_
  exact GoO.ret' (h := c100_4e) (hs := []) (ps := []) (hk := []) (bk := []) Try.func100 () (by kernel_rfl) trivial (by kernel_rfl) (by kernel_rfl)

/-! tontine/tontineref13.Bytes -/
noncomputable def c93_0 : Code := bodyOf Try.f93
noncomputable def c93_1 : Code := cdL c93_0
noncomputable def c93_2 : Code := cdR c93_0
noncomputable def c93_3 : Code := cdL c93_2
noncomputable def c93_4 : Code := cdR c93_2
noncomputable def c93_5 : Code := cdL c93_4
noncomputable def c93_6 : Code := cdL c93_5
noncomputable def c93_7 : Code := cdR c93_5
noncomputable def c93_8 : Code := cdL c93_7
noncomputable def c93_9 : Code := cdL c93_8
noncomputable def c93_10 : Code := cdL c93_9
noncomputable def c93_11 : Code := cdL c93_10
noncomputable def c93_12 : Code := cdR c93_10
noncomputable def c93_13 : Code := cdL c93_12
noncomputable def c93_14 : Code := cdR c93_12
noncomputable def c93_15 : Code := cdR c93_9
noncomputable def c93_16 : Code := cdL c93_15
noncomputable def c93_17 : Code := cdL c93_16
noncomputable def c93_18 : Code := cdR c93_15
noncomputable def c93_19 : Code := cdR c93_4
noncomputable def c93_20 : Code := cdL c93_19
noncomputable def c93_21 : Code := cdR c93_19
noncomputable def r93_1 : Array Oper := cdO c93_1
noncomputable def r93_3 : Array Oper := cdO c93_3
noncomputable def r93_6 : Array Oper := cdO c93_6
noncomputable def r93_11 : Array Oper := cdO c93_11
noncomputable def r93_17 : Array Oper := cdO c93_17
noncomputable def r93_18 : Array Oper := cdO c93_18
noncomputable def r93_20 : Array Oper := cdO c93_20
theorem c93_0e : c93_0 = .seq c93_1 c93_2 := by kernel_rfl
theorem c93_1e : c93_1 = .region 0 r93_1 false := by kernel_rfl
theorem c93_2e : c93_2 = .seq c93_3 c93_4 := by kernel_rfl
theorem c93_3e : c93_3 = .region 1 r93_3 false := by kernel_rfl
theorem c93_4e : c93_4 = .seq c93_5 c93_19 := by kernel_rfl
theorem c93_5e : c93_5 = .seq c93_6 c93_7 := by kernel_rfl
theorem c93_6e : c93_6 = .region 2 r93_6 false := by kernel_rfl
theorem c93_7e : c93_7 = .block 0 c93_8 := by kernel_rfl
theorem c93_8e : c93_8 = .loop c93_9 := by kernel_rfl
theorem c93_9e : c93_9 = .seq c93_10 c93_15 := by kernel_rfl
theorem c93_10e : c93_10 = .seq c93_11 c93_12 := by kernel_rfl
theorem c93_11e : c93_11 = .region 3 r93_11 false := by kernel_rfl
theorem c93_12e : c93_12 = .cond (cdC c93_12) c93_13 c93_14 := by kernel_rfl
theorem c93_13e : c93_13 = .skip := by kernel_rfl
theorem c93_14e : c93_14 = .exit 0 := by kernel_rfl
theorem c93_15e : c93_15 = .seq c93_16 c93_18 := by kernel_rfl
theorem c93_16e : c93_16 = .block 1 c93_17 := by kernel_rfl
theorem c93_17e : c93_17 = .region 5 r93_17 true := by kernel_rfl
theorem c93_18e : c93_18 = .region 4 r93_18 false := by kernel_rfl
theorem c93_19e : c93_19 = .seq c93_20 c93_21 := by kernel_rfl
theorem c93_20e : c93_20 = .region 6 r93_20 false := by kernel_rfl
theorem c93_21e : c93_21 = .ret := by kernel_rfl
noncomputable def tontineref13_Bytes.R (A_2 : Option Addr) (c_3 : Nat) : Pst (List UInt8) where
  ε := Unit
  v := fun r x => .string (bs r)
  H := fun r x => []
  B := fun r x => []
noncomputable def tontineref13_Bytes.cx (A_2 : Option Addr) (c_3 : Nat) (w0 : World) (S0 : Fam) : Cx (List UInt8) := ⟨Try.prog, 93, Try.f93, 40, w0, S0, [], 0, tontineref13_Bytes.R A_2 c_3⟩
theorem tontineref13_Bytes_l0_ok (n : Nat) (l_1 : (List T_api_Step)) (A_2 : Option Addr) (c_3 : Nat) (w0 : World) (S0 : Fam) :
    ∀ (k : Nat) (s_5 : (List UInt8)) (i_6 : Int), GoO (tontineref13_Bytes.cx A_2 c_3 w0 S0) [(0, .slice A_2 l_1.length c_3), (3, .string (bs s_5)), (4, .int .i64 i_6)] [] [Rd 0 kT_api_Step A_2 c_3 l_1] [.code c93_9, .inLoop c93_9, .inBlock 0, .code c93_19] (tontineref13_Bytes.l0 n l_1 k s_5 i_6) := by
  intro k
  induction k with
  | zero => intros; rw [tontineref13_Bytes.l0.eq_1]; exact GoO.stop
  | succ k ih0 =>
    intro s_5 i_6
    rw [tontineref13_Bytes.l0.eq_2]
    refine GoO.seq' c93_9e ?_
    refine GoO.seq' c93_10e ?_
    refine GoO.region' (is := [0, 1, 2, 3]) c93_11e (by kernel_rfl) ?_
    refine GoO.exec (is := [0, 1, 2, 3]) (hs := [.p, .p, .p, .p]) (rest := []) (ks := [0, 3, 4, 12]) (env' := [(0, .slice A_2 l_1.length c_3), (3, .string (bs s_5)), (4, .int .i64 i_6), (12, .bool (decide (i_6 < (l_1.length : Int))))]) (H' := []) (ps := []) (by kernel_rfl) trivial ?_
    refine GoO.regionEnd ?_
    refine GoO.ite' c93_12e (by kernel_rfl) (fun h7 => ?_) (fun h7 => ?_)
    · refine GoO.skip' c93_13e ?_
      refine GoO.seq' c93_15e ?_
      refine GoO.block' c93_16e ?_
      refine GoO.draw c93_17e (by kernel_rfl) [24] [] [Rd 0 kT_api_Step A_2 c_3 l_1] (n := 25) (by kernel_rfl) ?_
      simp only [List.replicate]
      refine GoF.take [0, 1, 2, 8, 9, 15, 16] [.p, .p, .p, .p, .p, .p, .p] (ks := [0, 4, 15, 16, 17, 23, 24, 30, 31]) (fu := 18) (li := [true, true, true, false, false, false, false, false, true, true, false, false, false, false, false, true, true, false, false, false, false, false, false, false, false]) (env' := [(0, .slice A_2 l_1.length c_3), (4, .int .i64 i_6), (15, .string (bs s_5)), (16, .slice A_2 l_1.length c_3), (17, .int .i64 i_6), (23, .slice A_2 l_1.length c_3), (24, .int .i64 i_6), (30, .slice A_2 l_1.length c_3), (31, .int .i64 i_6)]) (ps := []) (hk := []) (bk := [0]) (by kernel_rfl) trivial rfl rfl ?_
      refine GoF.guard (fun h8 => ?_)
      refine GoF.idx (i := 3) (hk := []) (bk := [0]) (kk := .i64) (e := 160) (K := kT_api_Step) (A := A_2) (c := c_3) (xs := l_1) (iv := i_6) (j := 0) (by kernel_rfl) rfl rfl rfl (by kernel_rfl) (by kernel_rfl) (by kernel_rfl) (by kernel_rfl) rfl Reads.rd rfl h8.1 h8.2 (by decide) rfl ?_
      refine GoF.fldE (i := 4) (hk := []) (bk := [0]) (K := kT_api_Step) (A := A_2) (c := c_3) (xs := l_1) (iN := i_6.toNat) (off := 0) (n := 0) (j := 0) (by kernel_rfl) rfl rfl rfl (by kernel_rfl) (by kernel_rfl) rfl Reads.rd (by first | exact idx_lt h8.1 h8.2 | (simp only [List.length_set]; exact idx_lt h8.1 h8.2)) (by decide) rfl ?_
      refine GoF.ldE (i := 5) (hk := []) (bk := [0]) (K := kT_api_Step) (A := A_2) (c := c_3) (xs := l_1) (iN := i_6.toNat) (off := 0) (j := 0) (v := .int .i64 ((rdL l_1 i_6).Part)) (by kernel_rfl) rfl rfl rfl (hK := rfl) (by kernel_rfl) rfl Reads.rd (by first | exact idx_lt h8.1 h8.2 | (simp only [List.length_set]; exact idx_lt h8.1 h8.2)) (by decide) (by kernel_rfl) rfl ?_
      refine GoF.take [6] [.p] (ks := [0, 4, 15, 21, 23, 24, 30, 31]) (fu := 14) (li := [true, true, true, true, true, true, true, false, true, true, false, false, false, false, false, true, true, false, false, false, false, false, false, false, false]) (env' := [(0, .slice A_2 l_1.length c_3), (4, .int .i64 i_6), (15, .string (bs s_5)), (21, .int .u64 (wu64 ((rdL l_1 i_6).Part))), (23, .slice A_2 l_1.length c_3), (24, .int .i64 i_6), (30, .slice A_2 l_1.length c_3), (31, .int .i64 i_6)]) (ps := []) (hk := []) (bk := [0]) (by kernel_rfl) trivial rfl rfl ?_
      refine GoF.guard (fun h9 => ?_)
      refine GoF.idx (i := 10) (hk := []) (bk := [0]) (kk := .i64) (e := 160) (K := kT_api_Step) (A := A_2) (c := c_3) (xs := l_1) (iv := i_6) (j := 0) (by kernel_rfl) rfl rfl rfl (by kernel_rfl) (by kernel_rfl) (by kernel_rfl) (by kernel_rfl) rfl Reads.rd rfl h9.1 h9.2 (by decide) rfl ?_
      refine GoF.fldE (i := 11) (hk := []) (bk := [0]) (K := kT_api_Step) (A := A_2) (c := c_3) (xs := l_1) (iN := i_6.toNat) (off := 0) (n := 1) (j := 0) (by kernel_rfl) rfl rfl rfl (by kernel_rfl) (by kernel_rfl) rfl Reads.rd (by first | exact idx_lt h9.1 h9.2 | (simp only [List.length_set]; exact idx_lt h9.1 h9.2)) (by decide) rfl ?_
      refine GoF.ldE (i := 12) (hk := []) (bk := [0]) (K := kT_api_Step) (A := A_2) (c := c_3) (xs := l_1) (iN := i_6.toNat) (off := 1) (j := 0) (v := .string (bs ((rdL l_1 i_6).Name))) (by kernel_rfl) rfl rfl rfl (hK := rfl) (by kernel_rfl) rfl Reads.rd (by first | exact idx_lt h9.1 h9.2 | (simp only [List.length_set]; exact idx_lt h9.1 h9.2)) (by decide) (by kernel_rfl) rfl ?_
      refine GoF.guard (fun h10 => ?_)
      refine GoF.idx (i := 17) (hk := []) (bk := [0]) (kk := .i64) (e := 160) (K := kT_api_Step) (A := A_2) (c := c_3) (xs := l_1) (iv := i_6) (j := 0) (by kernel_rfl) rfl rfl rfl (by kernel_rfl) (by kernel_rfl) (by kernel_rfl) (by kernel_rfl) rfl Reads.rd rfl h10.1 h10.2 (by decide) rfl ?_
      refine GoF.fldE (i := 18) (hk := []) (bk := [0]) (K := kT_api_Step) (A := A_2) (c := c_3) (xs := l_1) (iN := i_6.toNat) (off := 0) (n := 2) (j := 0) (by kernel_rfl) rfl rfl rfl (by kernel_rfl) (by kernel_rfl) rfl Reads.rd (by first | exact idx_lt h10.1 h10.2 | (simp only [List.length_set]; exact idx_lt h10.1 h10.2)) (by decide) rfl ?_
      refine GoF.ldE (i := 19) (hk := []) (bk := [0]) (K := kT_api_Step) (A := A_2) (c := c_3) (xs := l_1) (iN := i_6.toNat) (off := 2) (j := 0) (v := .int .i64 ((rdL l_1 i_6).Budget)) (by kernel_rfl) rfl rfl rfl (hK := rfl) (by kernel_rfl) rfl Reads.rd (by first | exact idx_lt h10.1 h10.2 | (simp only [List.length_set]; exact idx_lt h10.1 h10.2)) (by decide) (by kernel_rfl) rfl ?_
      refine GoF.take [20] [.p] (ks := [0, 4, 15, 21, 27, 35]) (fu := 7) (li := [true, true, true, true, true, true, true, false, true, true, true, true, true, false, false, true, true, true, true, true, true, false, false, false, false]) (env' := [(0, .slice A_2 l_1.length c_3), (4, .int .i64 i_6), (15, .string (bs s_5)), (21, .int .u64 (wu64 ((rdL l_1 i_6).Part))), (27, .string (bs ((rdL l_1 i_6).Name))), (35, .int .u64 (wu64 ((rdL l_1 i_6).Budget)))]) (ps := []) (hk := []) (bk := [0]) (by kernel_rfl) trivial rfl rfl ?_
      refine OpTo.goF (i := 7) (by kernel_rfl) (hk := []) (bk := [0]) (GoO.call rfl (by kernel_rfl) (by kernel_rfl) (tontineref03_Num_ok n (wu64 ((rdL l_1 i_6).Part))) [[0]] [] [] [] (hks := []) (bks := [0]) (by kernel_rfl) (by kernel_rfl) (by kernel_rfl) (.inl rfl) rfl rfl (by kernel_rfl) (by kernel_rfl) _ (fun _ _ => rfl) _ _ (fun _ _ => rfl) (fun _ _ => rfl) (fun _ _ => by kernel_rfl) (fun _ _ => by kernel_rfl) (fun r_11 x_19 => ⟨rfl, rfl, ?_⟩))
      refine GoF.shape (env' := [(0, .slice A_2 l_1.length c_3), (4, .int .i64 i_6), (15, .string (bs s_5)), (21, .int .u64 (wu64 ((rdL l_1 i_6).Part))), (22, .string (bs r_11)), (27, .string (bs ((rdL l_1 i_6).Name))), (35, .int .u64 (wu64 ((rdL l_1 i_6).Budget)))]) (H' := []) (B' := [Rd 0 kT_api_Step A_2 c_3 l_1]) (ks := [0, 4, 15, 21, 22, 27, 35]) (by kernel_rfl) (by kernel_rfl) (by kernel_rfl) ?_
      refine OpTo.goF (i := 13) (by kernel_rfl) (hk := []) (bk := [0]) (GoO.call rfl (by kernel_rfl) (by kernel_rfl) (tontineref03_Text_ok n ((rdL l_1 i_6).Name)) [[0]] [] [] [] (hks := []) (bks := [0]) (by kernel_rfl) (by kernel_rfl) (by kernel_rfl) (.inl rfl) rfl rfl (by kernel_rfl) (by kernel_rfl) _ (fun _ _ => rfl) _ _ (fun _ _ => rfl) (fun _ _ => rfl) (fun _ _ => by kernel_rfl) (fun _ _ => by kernel_rfl) (fun r_12 x_18 => ⟨rfl, rfl, ?_⟩))
      refine GoF.shape (env' := [(0, .slice A_2 l_1.length c_3), (4, .int .i64 i_6), (15, .string (bs s_5)), (21, .int .u64 (wu64 ((rdL l_1 i_6).Part))), (22, .string (bs r_11)), (27, .string (bs ((rdL l_1 i_6).Name))), (28, .string (bs r_12)), (35, .int .u64 (wu64 ((rdL l_1 i_6).Budget)))]) (H' := []) (B' := [Rd 0 kT_api_Step A_2 c_3 l_1]) (ks := [0, 4, 15, 21, 22, 27, 28, 35]) (by kernel_rfl) (by kernel_rfl) (by kernel_rfl) ?_
      refine GoF.guard (fun h13 => ?_)
      refine GoF.take [14] [.p] (ks := [0, 4, 15, 29, 35]) (fu := 4) (li := [true, true, true, true, true, true, true, true, true, true, true, true, true, true, true, true, true, true, true, true, true, false, false, false, false]) (env' := [(0, .slice A_2 l_1.length c_3), (4, .int .i64 i_6), (15, .string (bs s_5)), (29, .string (bs (r_11 ++ r_12))), (35, .int .u64 (wu64 ((rdL l_1 i_6).Budget)))]) (ps := [r_11.length + r_12.length ≤ i64max]) (hk := []) (bk := [0]) (by kernel_rfl) (And.intro h13 trivial) rfl rfl ?_
      refine OpTo.goF (i := 21) (by kernel_rfl) (hk := []) (bk := [0]) (GoO.call rfl (by kernel_rfl) (by kernel_rfl) (tontineref03_Num_ok n (wu64 ((rdL l_1 i_6).Budget))) [[0]] [] [] [] (hks := []) (bks := [0]) (by kernel_rfl) (by kernel_rfl) (by kernel_rfl) (.inl rfl) rfl rfl (by kernel_rfl) (by kernel_rfl) _ (fun _ _ => rfl) _ _ (fun _ _ => rfl) (fun _ _ => rfl) (fun _ _ => by kernel_rfl) (fun _ _ => by kernel_rfl) (fun r_14 x_17 => ⟨rfl, rfl, ?_⟩))
      refine GoF.shape (env' := [(0, .slice A_2 l_1.length c_3), (4, .int .i64 i_6), (15, .string (bs s_5)), (29, .string (bs (r_11 ++ r_12))), (35, .int .u64 (wu64 ((rdL l_1 i_6).Budget))), (36, .string (bs r_14))]) (H' := []) (B' := [Rd 0 kT_api_Step A_2 c_3 l_1]) (ks := [0, 4, 15, 29, 35, 36]) (by kernel_rfl) (by kernel_rfl) (by kernel_rfl) ?_
      refine GoF.guard (fun h15 => ?_)
      refine GoF.guard (fun h16 => ?_)
      refine GoF.take [22, 23] [.p, .p] (ks := [0, 4, 38]) (fu := 1) (li := [true, true, true, true, true, true, true, true, true, true, true, true, true, true, true, true, true, true, true, true, true, true, true, true, false]) (env' := [(0, .slice A_2 l_1.length c_3), (4, .int .i64 i_6), (38, .string (bs (s_5 ++ ((r_11 ++ r_12) ++ r_14))))]) (ps := [(r_11 ++ r_12).length + r_14.length ≤ i64max, s_5.length + ((r_11 ++ r_12) ++ r_14).length ≤ i64max]) (hk := []) (bk := [0]) (by kernel_rfl) (And.intro h15 (And.intro h16 trivial)) rfl rfl ?_
      refine GoF.fin1 (i := 24) (hint := .p) (ps := []) (hk := []) (bk := []) (by kernel_rfl) rfl trivial (.inl rfl) ?_
      refine GoF.done (by kernel_rfl) ?_
      refine GoO.inBlock ?_
      refine GoO.region' (is := [0, 1, 2]) c93_18e (by kernel_rfl) ?_
      refine GoO.exec (is := [0, 1, 2]) (hs := [.p, .p, .p]) (rest := []) (ks := [0, 3, 4]) (env' := [(0, .slice A_2 l_1.length c_3), (3, .string (bs (s_5 ++ ((r_11 ++ r_12) ++ r_14)))), (4, .int .i64 (wi64 (i_6 + 1)))]) (H' := []) (ps := []) (by kernel_rfl) trivial ?_
      refine GoO.regionEnd ?_
      refine GoO.inLoop ?_
      exact GoO.sub (ks := [0, 3, 4]) (hk := []) (bk := [0]) (by kernel_rfl) (by kernel_rfl) (by kernel_rfl) (ih0 (s_5 ++ ((r_11 ++ r_12) ++ r_14)) (wi64 (i_6 + 1)))
    · refine GoO.exit' c93_14e rfl ?_
      refine GoO.seq' c93_19e ?_
      refine GoO.region' (is := [0, 1]) c93_20e (by kernel_rfl) ?_
      refine GoO.exec (is := [0, 1]) (hs := [.p, .p]) (rest := []) (ks := [2]) (env' := [(2, .string (bs s_5))]) (H' := []) (ps := []) (by kernel_rfl) trivial ?_
      refine GoO.regionEnd ?_
      exact GoO.ret' (h := c93_21e) (hs := []) (ps := []) (hk := []) (bk := []) Try.func93 () (by kernel_rfl) trivial (by kernel_rfl) (by kernel_rfl)
theorem tontineref13_Bytes_ok (n : Nat) (l_1 : (List T_api_Step)) (A_2 : Option Addr) (c_3 : Nat) :
    Meets Try.prog 93 [.slice A_2 l_1.length c_3] 0 [] [] [Rd 0 kT_api_Step A_2 c_3 l_1] (tontineref13_Bytes.f n l_1) (tontineref13_Bytes.R A_2 c_3) := by
  refine Meets.of (c := c93_0) (n := 40) Try.func93 (by kernel_rfl) (by kernel_rfl) (by kernel_rfl) fun w0 S0 => ?_
  unfold tontineref13_Bytes.f
  show GoO (tontineref13_Bytes.cx A_2 c_3 w0 S0) [(0, .slice A_2 l_1.length c_3)] [] [Rd 0 kT_api_Step A_2 c_3 l_1] [.code c93_0] _
  refine GoO.seq' c93_0e ?_
  refine GoO.region' (is := [0]) c93_1e (by kernel_rfl) ?_
  refine GoO.exec (is := [0]) (hs := [.p]) (rest := []) (ks := [0]) (env' := [(0, .slice A_2 l_1.length c_3)]) (H' := []) (ps := []) (by kernel_rfl) trivial ?_
  refine GoO.regionEnd ?_
  refine GoO.seq' c93_2e ?_
  refine GoO.region' (is := [0, 1, 2, 3, 4]) c93_3e (by kernel_rfl) ?_
  refine GoO.exec (is := [0, 1, 2]) (hs := [.p, .p, .p]) (rest := [3, 4]) (ks := [0, 7]) (env' := [(0, .slice A_2 l_1.length c_3), (7, .int .u64 (wu64 (l_1.length : Int)))]) (H' := []) (ps := []) (by kernel_rfl) trivial ?_
  refine OpTo.go (GoO.call rfl (by kernel_rfl) (by kernel_rfl) (tontineref03_Num_ok n (wu64 (l_1.length : Int))) [[0]] [] [] [] (hks := []) (bks := [0]) (by kernel_rfl) (by kernel_rfl) (by kernel_rfl) (.inl rfl) rfl rfl (by kernel_rfl) (by kernel_rfl) _ (fun _ _ => rfl) _ _ (fun _ _ => rfl) (fun _ _ => rfl) (fun _ _ => by kernel_rfl) (fun _ _ => by kernel_rfl) (fun r_4 x_20 => ?_))
  refine GoO.shape (env' := [(0, .slice A_2 l_1.length c_3), (7, .int .u64 (wu64 (l_1.length : Int))), (8, .string (bs r_4))]) (H' := []) (B' := [Rd 0 kT_api_Step A_2 c_3 l_1]) (ks := [0, 7, 8]) (by kernel_rfl) (by kernel_rfl) (by kernel_rfl) ?_
  refine GoO.exec (is := [4]) (hs := [.p]) (rest := []) (ks := [0, 3]) (env' := [(0, .slice A_2 l_1.length c_3), (3, .string (bs r_4))]) (H' := []) (ps := []) (by kernel_rfl) trivial ?_
  refine GoO.regionEnd ?_
  refine GoO.seq' c93_4e ?_
  refine GoO.seq' c93_5e ?_
  refine GoO.region' (is := [0]) c93_6e (by kernel_rfl) ?_
  refine GoO.exec (is := [0]) (hs := [.p]) (rest := []) (ks := [0, 3, 4]) (env' := [(0, .slice A_2 l_1.length c_3), (3, .string (bs r_4)), (4, .int .i64 0)]) (H' := []) (ps := []) (by kernel_rfl) trivial ?_
  refine GoO.regionEnd ?_
  refine GoO.block' c93_7e ?_
  refine GoO.loop' c93_8e ?_
  exact GoO.sub (ks := [0, 3, 4]) (hk := []) (bk := [0]) (by kernel_rfl) (by kernel_rfl) (by kernel_rfl) (tontineref13_Bytes_l0_ok n l_1 A_2 c_3 w0 S0 n r_4 0)

/-! tontine/tontineref16.truth -/
noncomputable def c94_0 : Code := bodyOf Try.f94
noncomputable def c94_1 : Code := cdL c94_0
noncomputable def c94_2 : Code := cdR c94_0
noncomputable def c94_3 : Code := cdL c94_2
noncomputable def c94_4 : Code := cdL c94_3
noncomputable def c94_5 : Code := cdR c94_3
noncomputable def c94_6 : Code := cdL c94_5
noncomputable def c94_7 : Code := cdL c94_6
noncomputable def c94_8 : Code := cdR c94_6
noncomputable def c94_9 : Code := cdR c94_5
noncomputable def c94_10 : Code := cdR c94_2
noncomputable def c94_11 : Code := cdL c94_10
noncomputable def c94_12 : Code := cdR c94_10
noncomputable def r94_1 : Array Oper := cdO c94_1
noncomputable def r94_4 : Array Oper := cdO c94_4
noncomputable def r94_7 : Array Oper := cdO c94_7
noncomputable def r94_11 : Array Oper := cdO c94_11
theorem c94_0e : c94_0 = .seq c94_1 c94_2 := by kernel_rfl
theorem c94_1e : c94_1 = .region 0 r94_1 false := by kernel_rfl
theorem c94_2e : c94_2 = .seq c94_3 c94_10 := by kernel_rfl
theorem c94_3e : c94_3 = .seq c94_4 c94_5 := by kernel_rfl
theorem c94_4e : c94_4 = .region 1 r94_4 false := by kernel_rfl
theorem c94_5e : c94_5 = .cond (cdC c94_5) c94_6 c94_9 := by kernel_rfl
theorem c94_6e : c94_6 = .seq c94_7 c94_8 := by kernel_rfl
theorem c94_7e : c94_7 = .region 2 r94_7 false := by kernel_rfl
theorem c94_8e : c94_8 = .ret := by kernel_rfl
theorem c94_9e : c94_9 = .skip := by kernel_rfl
theorem c94_10e : c94_10 = .seq c94_11 c94_12 := by kernel_rfl
theorem c94_11e : c94_11 = .region 3 r94_11 false := by kernel_rfl
theorem c94_12e : c94_12 = .ret := by kernel_rfl
noncomputable def tontineref16_truth.R : Pst Int where
  ε := Unit
  v := fun r x => .int .u64 r
  H := fun r x => []
  B := fun r x => []
noncomputable def tontineref16_truth.cx (w0 : World) (S0 : Fam) : Cx Int := ⟨Try.prog, 94, Try.f94, 4, w0, S0, [], 0, tontineref16_truth.R⟩
theorem tontineref16_truth_ok (n : Nat) (x_1 : Bool) :
    Meets Try.prog 94 [.bool x_1] 0 [] [] [] (tontineref16_truth.f n x_1) (tontineref16_truth.R) := by
  refine Meets.of (c := c94_0) (n := 4) Try.func94 (by kernel_rfl) (by kernel_rfl) (by kernel_rfl) fun w0 S0 => ?_
  unfold tontineref16_truth.f
  show GoO (tontineref16_truth.cx w0 S0) [(0, .bool x_1)] [] [] [.code c94_0] _
  refine GoO.seq' c94_0e ?_
  refine GoO.region' (is := [0]) c94_1e (by kernel_rfl) ?_
  refine GoO.exec (is := [0]) (hs := [.p]) (rest := []) (ks := [0]) (env' := [(0, .bool x_1)]) (H' := []) (ps := []) (by kernel_rfl) trivial ?_
  refine GoO.regionEnd ?_
  refine GoO.seq' c94_2e ?_
  refine GoO.seq' c94_3e ?_
  refine GoO.region' (is := [0]) c94_4e (by kernel_rfl) ?_
  refine GoO.exec (is := [0]) (hs := [.p]) (rest := []) (ks := [3]) (env' := [(3, .bool x_1)]) (H' := []) (ps := []) (by kernel_rfl) trivial ?_
  refine GoO.regionEnd ?_
  refine GoO.ite' c94_5e (by kernel_rfl) (fun h2 => ?_) (fun h2 => ?_)
  · refine GoO.seq' c94_6e ?_
    refine GoO.region' (is := [0]) c94_7e (by kernel_rfl) ?_
    refine GoO.exec (is := [0]) (hs := [.p]) (rest := []) (ks := [2]) (env' := [(2, .int .u64 1)]) (H' := []) (ps := []) (by kernel_rfl) trivial ?_
    refine GoO.regionEnd ?_
    exact GoO.ret' (h := c94_8e) (hs := []) (ps := []) (hk := []) (bk := []) Try.func94 () (by kernel_rfl) trivial (by kernel_rfl) (by kernel_rfl)
  · refine GoO.skip' c94_9e ?_
    refine GoO.seq' c94_10e ?_
    refine GoO.region' (is := [0]) c94_11e (by kernel_rfl) ?_
    refine GoO.exec (is := [0]) (hs := [.p]) (rest := []) (ks := [2]) (env' := [(2, .int .u64 0)]) (H' := []) (ps := []) (by kernel_rfl) trivial ?_
    refine GoO.regionEnd ?_
    exact GoO.ret' (h := c94_12e) (hs := []) (ps := []) (hk := []) (bk := []) Try.func94 () (by kernel_rfl) trivial (by kernel_rfl) (by kernel_rfl)

/-! tontine/tontineref16.Encode -/
noncomputable def c74_0 : Code := bodyOf Try.f74
noncomputable def c74_1 : Code := cdL c74_0
noncomputable def c74_2 : Code := cdR c74_0
noncomputable def c74_3 : Code := cdL c74_2
noncomputable def c74_4 : Code := cdL c74_3
noncomputable def c74_5 : Code := cdR c74_3
noncomputable def c74_6 : Code := cdL c74_5
noncomputable def c74_7 : Code := cdL c74_6
noncomputable def c74_8 : Code := cdR c74_6
noncomputable def c74_9 : Code := cdR c74_5
noncomputable def c74_10 : Code := cdR c74_2
noncomputable def c74_11 : Code := cdL c74_10
noncomputable def c74_12 : Code := cdL c74_11
noncomputable def c74_13 : Code := cdR c74_11
noncomputable def c74_14 : Code := cdL c74_13
noncomputable def c74_15 : Code := cdL c74_14
noncomputable def c74_16 : Code := cdR c74_14
noncomputable def c74_17 : Code := cdR c74_13
noncomputable def c74_18 : Code := cdR c74_10
noncomputable def c74_19 : Code := cdL c74_18
noncomputable def c74_20 : Code := cdR c74_18
noncomputable def c74_21 : Code := cdL c74_20
noncomputable def c74_22 : Code := cdL c74_21
noncomputable def c74_23 : Code := cdR c74_21
noncomputable def c74_24 : Code := cdL c74_23
noncomputable def c74_25 : Code := cdR c74_23
noncomputable def c74_26 : Code := cdR c74_20
noncomputable def c74_27 : Code := cdL c74_26
noncomputable def c74_28 : Code := cdL c74_27
noncomputable def c74_29 : Code := cdR c74_27
noncomputable def c74_30 : Code := cdL c74_29
noncomputable def c74_31 : Code := cdR c74_29
noncomputable def c74_32 : Code := cdR c74_26
noncomputable def c74_33 : Code := cdL c74_32
noncomputable def c74_34 : Code := cdR c74_32
noncomputable def r74_1 : Array Oper := cdO c74_1
noncomputable def r74_4 : Array Oper := cdO c74_4
noncomputable def r74_7 : Array Oper := cdO c74_7
noncomputable def r74_12 : Array Oper := cdO c74_12
noncomputable def r74_15 : Array Oper := cdO c74_15
noncomputable def r74_19 : Array Oper := cdO c74_19
noncomputable def r74_22 : Array Oper := cdO c74_22
noncomputable def r74_24 : Array Oper := cdO c74_24
noncomputable def r74_28 : Array Oper := cdO c74_28
noncomputable def r74_30 : Array Oper := cdO c74_30
noncomputable def r74_33 : Array Oper := cdO c74_33
theorem c74_0e : c74_0 = .seq c74_1 c74_2 := by kernel_rfl
theorem c74_1e : c74_1 = .region 0 r74_1 false := by kernel_rfl
theorem c74_2e : c74_2 = .seq c74_3 c74_10 := by kernel_rfl
theorem c74_3e : c74_3 = .seq c74_4 c74_5 := by kernel_rfl
theorem c74_4e : c74_4 = .region 1 r74_4 false := by kernel_rfl
theorem c74_5e : c74_5 = .cond (cdC c74_5) c74_6 c74_9 := by kernel_rfl
theorem c74_6e : c74_6 = .seq c74_7 c74_8 := by kernel_rfl
theorem c74_7e : c74_7 = .region 2 r74_7 false := by kernel_rfl
theorem c74_8e : c74_8 = .ret := by kernel_rfl
theorem c74_9e : c74_9 = .skip := by kernel_rfl
theorem c74_10e : c74_10 = .seq c74_11 c74_18 := by kernel_rfl
theorem c74_11e : c74_11 = .seq c74_12 c74_13 := by kernel_rfl
theorem c74_12e : c74_12 = .region 3 r74_12 false := by kernel_rfl
theorem c74_13e : c74_13 = .cond (cdC c74_13) c74_14 c74_17 := by kernel_rfl
theorem c74_14e : c74_14 = .seq c74_15 c74_16 := by kernel_rfl
theorem c74_15e : c74_15 = .region 4 r74_15 false := by kernel_rfl
theorem c74_16e : c74_16 = .ret := by kernel_rfl
theorem c74_17e : c74_17 = .skip := by kernel_rfl
theorem c74_18e : c74_18 = .seq c74_19 c74_20 := by kernel_rfl
theorem c74_19e : c74_19 = .region 5 r74_19 false := by kernel_rfl
theorem c74_20e : c74_20 = .seq c74_21 c74_26 := by kernel_rfl
theorem c74_21e : c74_21 = .seq c74_22 c74_23 := by kernel_rfl
theorem c74_22e : c74_22 = .region 6 r74_22 false := by kernel_rfl
theorem c74_23e : c74_23 = .cond (cdC c74_23) c74_24 c74_25 := by kernel_rfl
theorem c74_24e : c74_24 = .region 7 r74_24 false := by kernel_rfl
theorem c74_25e : c74_25 = .skip := by kernel_rfl
theorem c74_26e : c74_26 = .seq c74_27 c74_32 := by kernel_rfl
theorem c74_27e : c74_27 = .seq c74_28 c74_29 := by kernel_rfl
theorem c74_28e : c74_28 = .region 8 r74_28 false := by kernel_rfl
theorem c74_29e : c74_29 = .cond (cdC c74_29) c74_30 c74_31 := by kernel_rfl
theorem c74_30e : c74_30 = .region 9 r74_30 true := by kernel_rfl
theorem c74_31e : c74_31 = .skip := by kernel_rfl
theorem c74_32e : c74_32 = .seq c74_33 c74_34 := by kernel_rfl
theorem c74_33e : c74_33 = .region 10 r74_33 false := by kernel_rfl
theorem c74_34e : c74_34 = .ret := by kernel_rfl
noncomputable def tontineref16_Encode.R (A_2 : Option Addr) (c_3 : Nat) : Pst ((List UInt8) × Int) where
  ε := Unit
  v := fun r x => .tuple ⟨[.string (bs r.1), .int .i64 r.2]⟩
  H := fun r x => []
  B := fun r x => []
noncomputable def tontineref16_Encode.cx (A_2 : Option Addr) (c_3 : Nat) (w0 : World) (S0 : Fam) : Cx ((List UInt8) × Int) := ⟨Try.prog, 74, Try.f74, 58, w0, S0, [], 0, tontineref16_Encode.R A_2 c_3⟩
theorem tontineref16_Encode_j1_ok (n : Nat) (c_1 : T_api_Command) (A_2 : Option Addr) (c_3 : Nat) (b_4 : Nat) (w0 : World) (S0 : Fam) (s_17 : (List UInt8)) :
    GoO (tontineref16_Encode.cx A_2 c_3 w0 S0) [(1, .pointer (some ⟨b_4, 0, none⟩)), (4, .string (bs s_17))] [⟨40, b_4, [.int .i64 c_1.Kind, .int .u64 c_1.Session, .int .u64 c_1.Seq, .int .u64 c_1.Saga, .slice A_2 c_1.Steps.length c_3, .int .i64 c_1.Step, .bool c_1.Back, .int .i64 c_1.Try, .bool c_1.Ok, .int .u64 c_1.Now]⟩] [Rd 0 kT_api_Step A_2 c_3 c_1.Steps] [.code c74_26] (tontineref16_Encode.j1 n c_1 s_17) := by
  unfold tontineref16_Encode.j1
  refine GoO.seq' c74_26e ?_
  refine GoO.seq' c74_27e ?_
  refine GoO.region' (is := [0, 1, 2]) c74_28e (by kernel_rfl) ?_
  refine GoO.exec (is := [0, 1, 2]) (hs := [.p, .b 0, .p]) (rest := []) (ks := [1, 4, 40]) (env' := [(1, .pointer (some ⟨b_4, 0, none⟩)), (4, .string (bs s_17)), (40, .bool (c_1.Kind == 4))]) (H' := [⟨40, b_4, [.int .i64 c_1.Kind, .int .u64 c_1.Session, .int .u64 c_1.Seq, .int .u64 c_1.Saga, .slice A_2 c_1.Steps.length c_3, .int .i64 c_1.Step, .bool c_1.Back, .int .i64 c_1.Try, .bool c_1.Ok, .int .u64 c_1.Now]⟩]) (ps := [b_4 = b_4]) (by kernel_rfl) (And.intro rfl trivial) ?_
  refine GoO.regionEnd ?_
  refine GoO.ite' c74_29e (by kernel_rfl) (fun h18 => ?_) (fun h18 => ?_)
  · refine GoO.draw c74_30e (by kernel_rfl) [16] [⟨40, b_4, [.int .i64 c_1.Kind, .int .u64 c_1.Session, .int .u64 c_1.Seq, .int .u64 c_1.Saga, .slice A_2 c_1.Steps.length c_3, .int .i64 c_1.Step, .bool c_1.Back, .int .i64 c_1.Try, .bool c_1.Ok, .int .u64 c_1.Now]⟩] [] (n := 17) (by kernel_rfl) ?_
    simp only [List.replicate]
    refine GoF.take [0, 1, 2, 3, 4, 5, 7, 8, 9, 10, 11] [.p, .p, .b 0, .p, .p, .b 0, .p, .b 0, .p, .p, .b 0] (ks := [41, 44, 46, 50, 52]) (fu := 6) (li := [true, true, true, true, true, true, false, true, true, true, true, true, false, false, false, false, false]) (env' := [(41, .string (bs s_17)), (44, .int .u64 (wu64 c_1.Step)), (46, .bool c_1.Back), (50, .int .u64 (wu64 c_1.Try)), (52, .bool c_1.Ok)]) (ps := [b_4 = b_4, b_4 = b_4, b_4 = b_4, b_4 = b_4]) (hk := [0]) (bk := []) (by kernel_rfl) (And.intro rfl (And.intro rfl (And.intro rfl (And.intro rfl trivial)))) rfl rfl ?_
    refine OpTo.goF (i := 6) (by kernel_rfl) (hk := [0]) (bk := []) (GoO.call rfl (by kernel_rfl) (by kernel_rfl) (tontineref16_truth_ok n c_1.Back) [[0]] [] [] [] (hks := [0]) (bks := [0]) (by kernel_rfl) (by kernel_rfl) (by kernel_rfl) (.inl rfl) rfl rfl (by kernel_rfl) (by kernel_rfl) _ (fun _ _ => rfl) _ _ (fun _ _ => rfl) (fun _ _ => rfl) (fun _ _ => by kernel_rfl) (fun _ _ => by kernel_rfl) (fun r_19 x_27 => ⟨rfl, rfl, ?_⟩))
    refine GoF.shape (env' := [(41, .string (bs s_17)), (44, .int .u64 (wu64 c_1.Step)), (46, .bool c_1.Back), (47, .int .u64 r_19), (50, .int .u64 (wu64 c_1.Try)), (52, .bool c_1.Ok)]) (H' := [⟨40, b_4, [.int .i64 c_1.Kind, .int .u64 c_1.Session, .int .u64 c_1.Seq, .int .u64 c_1.Saga, .slice A_2 c_1.Steps.length c_3, .int .i64 c_1.Step, .bool c_1.Back, .int .i64 c_1.Try, .bool c_1.Ok, .int .u64 c_1.Now]⟩]) (B' := [Rd 0 kT_api_Step A_2 c_3 c_1.Steps]) (ks := [41, 44, 46, 47, 50, 52]) (by kernel_rfl) (by kernel_rfl) (by kernel_rfl) ?_
    refine OpTo.goF (i := 12) (by kernel_rfl) (hk := [0]) (bk := []) (GoO.call rfl (by kernel_rfl) (by kernel_rfl) (tontineref16_truth_ok n c_1.Ok) [[0]] [] [] [] (hks := [0]) (bks := [0]) (by kernel_rfl) (by kernel_rfl) (by kernel_rfl) (.inl rfl) rfl rfl (by kernel_rfl) (by kernel_rfl) _ (fun _ _ => rfl) _ _ (fun _ _ => rfl) (fun _ _ => rfl) (fun _ _ => by kernel_rfl) (fun _ _ => by kernel_rfl) (fun r_20 x_26 => ⟨rfl, rfl, ?_⟩))
    refine GoF.shape (env' := [(41, .string (bs s_17)), (44, .int .u64 (wu64 c_1.Step)), (46, .bool c_1.Back), (47, .int .u64 r_19), (50, .int .u64 (wu64 c_1.Try)), (52, .bool c_1.Ok), (53, .int .u64 r_20)]) (H' := [⟨40, b_4, [.int .i64 c_1.Kind, .int .u64 c_1.Session, .int .u64 c_1.Seq, .int .u64 c_1.Saga, .slice A_2 c_1.Steps.length c_3, .int .i64 c_1.Step, .bool c_1.Back, .int .i64 c_1.Try, .bool c_1.Ok, .int .u64 c_1.Now]⟩]) (B' := [Rd 0 kT_api_Step A_2 c_3 c_1.Steps]) (ks := [41, 44, 46, 47, 50, 52, 53]) (by kernel_rfl) (by kernel_rfl) (by kernel_rfl) ?_
    refine OpTo.goF (i := 13) (by kernel_rfl) (hk := [0]) (bk := []) (GoO.lit (e := 22) (K := (Kd.int .u64)) rfl (by kernel_rfl) (by kernel_rfl) (cs := [.int .u64 (wu64 c_1.Step), .int .u64 r_19, .int .u64 (wu64 c_1.Try), .int .u64 r_20]) (by kernel_rfl) [wu64 c_1.Step, r_19, wu64 c_1.Try, r_20] (by kernel_rfl) (by kernel_rfl) (fun w S hB => ⟨[.int .u64 (wu64 c_1.Step)], _, rfl, rfl, ⟨[.int .u64 r_19], _, rfl, rfl, ⟨[.int .u64 (wu64 c_1.Try)], _, rfl, rfl, ⟨[.int .u64 r_20], _, rfl, rfl, rfl⟩⟩⟩⟩) 42 _ (fun _ _ => rfl) (fun A_21 c_22 => ⟨rfl, rfl, ?_⟩))
    refine GoF.view (j := 0) rfl ?_
    refine OpTo.goF (i := 14) (by kernel_rfl) (hk := [0]) (bk := []) (GoO.call rfl (by kernel_rfl) (by kernel_rfl) (tontineref16_nums_ok n [wu64 c_1.Step, r_19, wu64 c_1.Try, r_20] A_21 c_22) [[0, 42]] [] [] [(0, 2)] (hks := [0]) (bks := [0, 1]) (by kernel_rfl) (by kernel_rfl) (by kernel_rfl) (.inr (fun _ _ => by simp [tontineref16_nums.R])) rfl rfl (by kernel_rfl) (by kernel_rfl) _ (fun _ _ => rfl) _ _ (fun _ _ => rfl) (fun _ _ => rfl) (fun _ _ => by kernel_rfl) (fun _ _ => by kernel_rfl) (fun r_23 x_25 => ⟨rfl, rfl, ?_⟩))
    refine GoF.shape (env' := [(41, .string (bs s_17)), (44, .int .u64 (wu64 c_1.Step)), (46, .bool c_1.Back), (47, .int .u64 r_19), (50, .int .u64 (wu64 c_1.Try)), (52, .bool c_1.Ok), (53, .int .u64 r_20), (54, .slice A_21 [wu64 c_1.Step, r_19, wu64 c_1.Try, r_20].length c_22), (55, .string (bs r_23))]) (H' := [⟨40, b_4, [.int .i64 c_1.Kind, .int .u64 c_1.Session, .int .u64 c_1.Seq, .int .u64 c_1.Saga, .slice A_2 c_1.Steps.length c_3, .int .i64 c_1.Step, .bool c_1.Back, .int .i64 c_1.Try, .bool c_1.Ok, .int .u64 c_1.Now]⟩]) (B' := [Ow 42 (Kd.int .u64) A_21 c_22 [wu64 c_1.Step, r_19, wu64 c_1.Try, r_20], Rd 0 kT_api_Step A_2 c_3 c_1.Steps]) (ks := [41, 44, 46, 47, 50, 52, 53, 54, 55]) (by kernel_rfl) (by kernel_rfl) (by kernel_rfl) ?_
    refine GoF.guard (fun h24 => ?_)
    refine GoF.take [15] [.p] (ks := [56]) (fu := 1) (li := [true, true, true, true, true, true, true, true, true, true, true, true, true, true, true, true, false]) (env' := [(56, .string (bs (s_17 ++ r_23)))]) (ps := [s_17.length + r_23.length ≤ i64max]) (hk := [0]) (bk := []) (by kernel_rfl) (And.intro h24 trivial) rfl rfl ?_
    refine GoF.fin1 (i := 16) (hint := .p) (ps := []) (hk := []) (bk := []) (by kernel_rfl) rfl trivial (.inl rfl) ?_
    refine GoF.done (by kernel_rfl) ?_
    refine GoO.seq' c74_32e ?_
    refine GoO.region' (is := [0, 1, 2]) c74_33e (by kernel_rfl) ?_
    refine GoO.exec (is := [0, 1, 2]) (hs := [.p, .p, .p]) (rest := []) (ks := [2, 3]) (env' := [(2, .string (bs (s_17 ++ r_23))), (3, .int .i64 0)]) (H' := [⟨40, b_4, [.int .i64 c_1.Kind, .int .u64 c_1.Session, .int .u64 c_1.Seq, .int .u64 c_1.Saga, .slice A_2 c_1.Steps.length c_3, .int .i64 c_1.Step, .bool c_1.Back, .int .i64 c_1.Try, .bool c_1.Ok, .int .u64 c_1.Now]⟩]) (ps := []) (by kernel_rfl) trivial ?_
    refine GoO.regionEnd ?_
    exact GoO.ret' (h := c74_34e) (hs := []) (ps := []) (hk := []) (bk := []) Try.func74 () (by kernel_rfl) trivial (by kernel_rfl) (by kernel_rfl)
  · refine GoO.skip' c74_31e ?_
    refine GoO.seq' c74_32e ?_
    refine GoO.region' (is := [0, 1, 2]) c74_33e (by kernel_rfl) ?_
    refine GoO.exec (is := [0, 1, 2]) (hs := [.p, .p, .p]) (rest := []) (ks := [2, 3]) (env' := [(2, .string (bs s_17)), (3, .int .i64 0)]) (H' := [⟨40, b_4, [.int .i64 c_1.Kind, .int .u64 c_1.Session, .int .u64 c_1.Seq, .int .u64 c_1.Saga, .slice A_2 c_1.Steps.length c_3, .int .i64 c_1.Step, .bool c_1.Back, .int .i64 c_1.Try, .bool c_1.Ok, .int .u64 c_1.Now]⟩]) (ps := []) (by kernel_rfl) trivial ?_
    refine GoO.regionEnd ?_
    exact GoO.ret' (h := c74_34e) (hs := []) (ps := []) (hk := []) (bk := []) Try.func74 () (by kernel_rfl) trivial (by kernel_rfl) (by kernel_rfl)
theorem tontineref16_Encode_j0_ok (n : Nat) (c_1 : T_api_Command) (A_2 : Option Addr) (c_3 : Nat) (b_4 : Nat) (w0 : World) (S0 : Fam) (b_7 : Bool) :
    GoO (tontineref16_Encode.cx A_2 c_3 w0 S0) [(1, .pointer (some ⟨b_4, 0, none⟩)), (13, .bool b_7)] [⟨40, b_4, [.int .i64 c_1.Kind, .int .u64 c_1.Session, .int .u64 c_1.Seq, .int .u64 c_1.Saga, .slice A_2 c_1.Steps.length c_3, .int .i64 c_1.Step, .bool c_1.Back, .int .i64 c_1.Try, .bool c_1.Ok, .int .u64 c_1.Now]⟩] [Rd 0 kT_api_Step A_2 c_3 c_1.Steps] [.code c74_5, .code c74_10] (tontineref16_Encode.j0 n c_1 b_7) := by
  unfold tontineref16_Encode.j0
  refine GoO.ite' c74_5e (by kernel_rfl) (fun h8 => ?_) (fun h8 => ?_)
  · refine GoO.seq' c74_6e ?_
    refine GoO.region' (is := [0, 1]) c74_7e (by kernel_rfl) ?_
    refine GoO.exec (is := [0, 1]) (hs := [.p, .p]) (rest := []) (ks := [2, 3]) (env' := [(2, .string (bs [])), (3, .int .i64 44)]) (H' := [⟨40, b_4, [.int .i64 c_1.Kind, .int .u64 c_1.Session, .int .u64 c_1.Seq, .int .u64 c_1.Saga, .slice A_2 c_1.Steps.length c_3, .int .i64 c_1.Step, .bool c_1.Back, .int .i64 c_1.Try, .bool c_1.Ok, .int .u64 c_1.Now]⟩]) (ps := []) (by kernel_rfl) trivial ?_
    refine GoO.regionEnd ?_
    exact GoO.ret' (h := c74_8e) (hs := []) (ps := []) (hk := []) (bk := []) Try.func74 () (by kernel_rfl) trivial (by kernel_rfl) (by kernel_rfl)
  · refine GoO.skip' c74_9e ?_
    refine GoO.seq' c74_10e ?_
    refine GoO.seq' c74_11e ?_
    refine GoO.region' (is := [0, 1, 2]) c74_12e (by kernel_rfl) ?_
    refine GoO.exec (is := [0]) (hs := [.b 0]) (rest := [1, 2]) (ks := [1, 14]) (env' := [(1, .pointer (some ⟨b_4, 0, none⟩)), (14, .agg ⟨[.int .i64 c_1.Kind, .int .u64 c_1.Session, .int .u64 c_1.Seq, .int .u64 c_1.Saga, .slice A_2 c_1.Steps.length c_3, .int .i64 c_1.Step, .bool c_1.Back, .int .i64 c_1.Try, .bool c_1.Ok, .int .u64 c_1.Now]⟩)]) (H' := [⟨40, b_4, [.int .i64 c_1.Kind, .int .u64 c_1.Session, .int .u64 c_1.Seq, .int .u64 c_1.Saga, .slice A_2 c_1.Steps.length c_3, .int .i64 c_1.Step, .bool c_1.Back, .int .i64 c_1.Try, .bool c_1.Ok, .int .u64 c_1.Now]⟩]) (ps := [b_4 = b_4]) (by kernel_rfl) (And.intro rfl trivial) ?_
    refine OpTo.go (GoO.call rfl (by kernel_rfl) (by kernel_rfl) (tontineref16_May_ok n c_1 A_2 c_3) [[0]] [] [] [(0, 0)] (hks := [0]) (bks := [0]) (by kernel_rfl) (by kernel_rfl) (by kernel_rfl) (.inl rfl) rfl rfl (by kernel_rfl) (by kernel_rfl) _ (fun _ _ => rfl) _ _ (fun _ _ => rfl) (fun _ _ => rfl) (fun _ _ => by kernel_rfl) (fun _ _ => by kernel_rfl) (fun r_9 x_29 => ?_))
    refine GoO.shape (env' := [(1, .pointer (some ⟨b_4, 0, none⟩)), (14, .agg ⟨[.int .i64 c_1.Kind, .int .u64 c_1.Session, .int .u64 c_1.Seq, .int .u64 c_1.Saga, .slice A_2 c_1.Steps.length c_3, .int .i64 c_1.Step, .bool c_1.Back, .int .i64 c_1.Try, .bool c_1.Ok, .int .u64 c_1.Now]⟩), (15, .bool r_9)]) (H' := [⟨40, b_4, [.int .i64 c_1.Kind, .int .u64 c_1.Session, .int .u64 c_1.Seq, .int .u64 c_1.Saga, .slice A_2 c_1.Steps.length c_3, .int .i64 c_1.Step, .bool c_1.Back, .int .i64 c_1.Try, .bool c_1.Ok, .int .u64 c_1.Now]⟩]) (B' := [Rd 0 kT_api_Step A_2 c_3 c_1.Steps]) (ks := [1, 14, 15]) (by kernel_rfl) (by kernel_rfl) (by kernel_rfl) ?_
    refine GoO.exec (is := [2]) (hs := [.p]) (rest := []) (ks := [1, 16]) (env' := [(1, .pointer (some ⟨b_4, 0, none⟩)), (16, .bool (!r_9))]) (H' := [⟨40, b_4, [.int .i64 c_1.Kind, .int .u64 c_1.Session, .int .u64 c_1.Seq, .int .u64 c_1.Saga, .slice A_2 c_1.Steps.length c_3, .int .i64 c_1.Step, .bool c_1.Back, .int .i64 c_1.Try, .bool c_1.Ok, .int .u64 c_1.Now]⟩]) (ps := []) (by kernel_rfl) trivial ?_
    refine GoO.regionEnd ?_
    refine GoO.ite' c74_13e (by kernel_rfl) (fun h10 => ?_) (fun h10 => ?_)
    · refine GoO.seq' c74_14e ?_
      refine GoO.region' (is := [0, 1]) c74_15e (by kernel_rfl) ?_
      refine GoO.exec (is := [0, 1]) (hs := [.p, .p]) (rest := []) (ks := [2, 3]) (env' := [(2, .string (bs [])), (3, .int .i64 1)]) (H' := [⟨40, b_4, [.int .i64 c_1.Kind, .int .u64 c_1.Session, .int .u64 c_1.Seq, .int .u64 c_1.Saga, .slice A_2 c_1.Steps.length c_3, .int .i64 c_1.Step, .bool c_1.Back, .int .i64 c_1.Try, .bool c_1.Ok, .int .u64 c_1.Now]⟩]) (ps := []) (by kernel_rfl) trivial ?_
      refine GoO.regionEnd ?_
      exact GoO.ret' (h := c74_16e) (hs := []) (ps := []) (hk := []) (bk := []) Try.func74 () (by kernel_rfl) trivial (by kernel_rfl) (by kernel_rfl)
    · refine GoO.skip' c74_17e ?_
      refine GoO.seq' c74_18e ?_
      refine GoO.region' (is := [0, 1, 2, 3, 4, 5, 6, 7, 8, 9, 10, 11, 12, 13]) c74_19e (by kernel_rfl) ?_
      refine GoO.exec (is := [0, 1, 2, 3, 4, 5, 6, 7, 8, 9, 10]) (hs := [.p, .b 0, .p, .p, .b 0, .p, .b 0, .p, .b 0, .p, .b 0]) (rest := [11, 12, 13]) (ks := [1, 19, 21, 23, 25, 27]) (env' := [(1, .pointer (some ⟨b_4, 0, none⟩)), (19, .int .u64 (wu64 c_1.Kind)), (21, .int .u64 c_1.Session), (23, .int .u64 c_1.Seq), (25, .int .u64 c_1.Saga), (27, .int .u64 c_1.Now)]) (H' := [⟨40, b_4, [.int .i64 c_1.Kind, .int .u64 c_1.Session, .int .u64 c_1.Seq, .int .u64 c_1.Saga, .slice A_2 c_1.Steps.length c_3, .int .i64 c_1.Step, .bool c_1.Back, .int .i64 c_1.Try, .bool c_1.Ok, .int .u64 c_1.Now]⟩]) (ps := [b_4 = b_4, b_4 = b_4, b_4 = b_4, b_4 = b_4, b_4 = b_4]) (by kernel_rfl) (And.intro rfl (And.intro rfl (And.intro rfl (And.intro rfl (And.intro rfl trivial))))) ?_
      refine OpTo.go (GoO.lit (e := 22) (K := (Kd.int .u64)) rfl (by kernel_rfl) (by kernel_rfl) (cs := [.int .u64 (wu64 c_1.Kind), .int .u64 c_1.Session, .int .u64 c_1.Seq, .int .u64 c_1.Saga, .int .u64 c_1.Now]) (by kernel_rfl) [wu64 c_1.Kind, c_1.Session, c_1.Seq, c_1.Saga, c_1.Now] (by kernel_rfl) (by kernel_rfl) (fun w S hB => ⟨[.int .u64 (wu64 c_1.Kind)], _, rfl, rfl, ⟨[.int .u64 c_1.Session], _, rfl, rfl, ⟨[.int .u64 c_1.Seq], _, rfl, rfl, ⟨[.int .u64 c_1.Saga], _, rfl, rfl, ⟨[.int .u64 c_1.Now], _, rfl, rfl, rfl⟩⟩⟩⟩⟩) 41 _ (fun _ _ => rfl) (fun A_11 c_12 => ?_))
      refine GoO.view (j := 0) rfl ?_
      refine OpTo.go (GoO.call rfl (by kernel_rfl) (by kernel_rfl) (tontineref16_nums_ok n [wu64 c_1.Kind, c_1.Session, c_1.Seq, c_1.Saga, c_1.Now] A_11 c_12) [[0, 41]] [] [] [(0, 2)] (hks := [0]) (bks := [0, 1]) (by kernel_rfl) (by kernel_rfl) (by kernel_rfl) (.inr (fun _ _ => by simp [tontineref16_nums.R])) rfl rfl (by kernel_rfl) (by kernel_rfl) _ (fun _ _ => rfl) _ _ (fun _ _ => rfl) (fun _ _ => rfl) (fun _ _ => by kernel_rfl) (fun _ _ => by kernel_rfl) (fun r_13 x_28 => ?_))
      refine GoO.shape (env' := [(1, .pointer (some ⟨b_4, 0, none⟩)), (19, .int .u64 (wu64 c_1.Kind)), (21, .int .u64 c_1.Session), (23, .int .u64 c_1.Seq), (25, .int .u64 c_1.Saga), (27, .int .u64 c_1.Now), (28, .slice A_11 [wu64 c_1.Kind, c_1.Session, c_1.Seq, c_1.Saga, c_1.Now].length c_12), (29, .string (bs r_13))]) (H' := [⟨40, b_4, [.int .i64 c_1.Kind, .int .u64 c_1.Session, .int .u64 c_1.Seq, .int .u64 c_1.Saga, .slice A_2 c_1.Steps.length c_3, .int .i64 c_1.Step, .bool c_1.Back, .int .i64 c_1.Try, .bool c_1.Ok, .int .u64 c_1.Now]⟩]) (B' := [Ow 41 (Kd.int .u64) A_11 c_12 [wu64 c_1.Kind, c_1.Session, c_1.Seq, c_1.Saga, c_1.Now], Rd 0 kT_api_Step A_2 c_3 c_1.Steps]) (ks := [1, 19, 21, 23, 25, 27, 28, 29]) (by kernel_rfl) (by kernel_rfl) (by kernel_rfl) ?_
      refine GoO.exec (is := [13]) (hs := [.p]) (rest := []) (ks := [1, 4]) (env' := [(1, .pointer (some ⟨b_4, 0, none⟩)), (4, .string (bs r_13))]) (H' := [⟨40, b_4, [.int .i64 c_1.Kind, .int .u64 c_1.Session, .int .u64 c_1.Seq, .int .u64 c_1.Saga, .slice A_2 c_1.Steps.length c_3, .int .i64 c_1.Step, .bool c_1.Back, .int .i64 c_1.Try, .bool c_1.Ok, .int .u64 c_1.Now]⟩]) (ps := []) (by kernel_rfl) trivial ?_
      refine GoO.regionEnd ?_
      refine GoO.seq' c74_20e ?_
      refine GoO.seq' c74_21e ?_
      refine GoO.region' (is := [0, 1, 2]) c74_22e (by kernel_rfl) ?_
      refine GoO.exec (is := [0, 1, 2]) (hs := [.p, .b 0, .p]) (rest := []) (ks := [1, 4, 32]) (env' := [(1, .pointer (some ⟨b_4, 0, none⟩)), (4, .string (bs r_13)), (32, .bool (c_1.Kind == 2))]) (H' := [⟨40, b_4, [.int .i64 c_1.Kind, .int .u64 c_1.Session, .int .u64 c_1.Seq, .int .u64 c_1.Saga, .slice A_2 c_1.Steps.length c_3, .int .i64 c_1.Step, .bool c_1.Back, .int .i64 c_1.Try, .bool c_1.Ok, .int .u64 c_1.Now]⟩]) (ps := [b_4 = b_4]) (by kernel_rfl) (And.intro rfl trivial) ?_
      refine GoO.regionEnd ?_
      refine GoO.ite' c74_23e (by kernel_rfl) (fun h14 => ?_) (fun h14 => ?_)
      · refine GoO.region' (is := [0, 1, 2, 3, 4, 5]) c74_24e (by kernel_rfl) ?_
        refine GoO.exec (is := [0, 1, 2]) (hs := [.p, .p, .b 0]) (rest := [3, 4, 5]) (ks := [1, 33, 35]) (env' := [(1, .pointer (some ⟨b_4, 0, none⟩)), (33, .string (bs r_13)), (35, .slice A_2 c_1.Steps.length c_3)]) (H' := [⟨40, b_4, [.int .i64 c_1.Kind, .int .u64 c_1.Session, .int .u64 c_1.Seq, .int .u64 c_1.Saga, .slice A_2 c_1.Steps.length c_3, .int .i64 c_1.Step, .bool c_1.Back, .int .i64 c_1.Try, .bool c_1.Ok, .int .u64 c_1.Now]⟩]) (ps := [b_4 = b_4]) (by kernel_rfl) (And.intro rfl trivial) ?_
        refine OpTo.go (GoO.call rfl (by kernel_rfl) (by kernel_rfl) (tontineref13_Bytes_ok n c_1.Steps A_2 c_3) [[0]] [] [] [(0, 1)] (hks := [0]) (bks := [0, 1]) (by kernel_rfl) (by kernel_rfl) (by kernel_rfl) (.inl rfl) rfl rfl (by kernel_rfl) (by kernel_rfl) _ (fun _ _ => rfl) _ _ (fun _ _ => rfl) (fun _ _ => rfl) (fun _ _ => by kernel_rfl) (fun _ _ => by kernel_rfl) (fun r_15 x_17 => ?_))
        refine GoO.shape (env' := [(1, .pointer (some ⟨b_4, 0, none⟩)), (33, .string (bs r_13)), (35, .slice A_2 c_1.Steps.length c_3), (36, .string (bs r_15))]) (H' := [⟨40, b_4, [.int .i64 c_1.Kind, .int .u64 c_1.Session, .int .u64 c_1.Seq, .int .u64 c_1.Saga, .slice A_2 c_1.Steps.length c_3, .int .i64 c_1.Step, .bool c_1.Back, .int .i64 c_1.Try, .bool c_1.Ok, .int .u64 c_1.Now]⟩]) (B' := [Ow 41 (Kd.int .u64) A_11 c_12 [wu64 c_1.Kind, c_1.Session, c_1.Seq, c_1.Saga, c_1.Now], Rd 0 kT_api_Step A_2 c_3 c_1.Steps]) (ks := [1, 33, 35, 36]) (by kernel_rfl) (by kernel_rfl) (by kernel_rfl) ?_
        refine GoO.guard (fun h16 => ?_)
        refine GoO.exec (is := [4, 5]) (hs := [.p, .p]) (rest := []) (ks := [1, 4]) (env' := [(1, .pointer (some ⟨b_4, 0, none⟩)), (4, .string (bs (r_13 ++ r_15)))]) (H' := [⟨40, b_4, [.int .i64 c_1.Kind, .int .u64 c_1.Session, .int .u64 c_1.Seq, .int .u64 c_1.Saga, .slice A_2 c_1.Steps.length c_3, .int .i64 c_1.Step, .bool c_1.Back, .int .i64 c_1.Try, .bool c_1.Ok, .int .u64 c_1.Now]⟩]) (ps := [r_13.length + r_15.length ≤ i64max]) (by kernel_rfl) (And.intro h16 trivial) ?_
        refine GoO.regionEnd ?_
        exact GoO.sub (ks := [1, 4]) (hk := [0]) (bk := [1]) (by kernel_rfl) (by kernel_rfl) (by kernel_rfl) (tontineref16_Encode_j1_ok n c_1 A_2 c_3 b_4 w0 S0 (r_13 ++ r_15))
      · refine GoO.skip' c74_25e ?_
        exact GoO.sub (ks := [1, 4]) (hk := [0]) (bk := [1]) (by kernel_rfl) (by kernel_rfl) (by kernel_rfl) (tontineref16_Encode_j1_ok n c_1 A_2 c_3 b_4 w0 S0 r_13)
theorem tontineref16_Encode_ok (n : Nat) (c_1 : T_api_Command) (A_2 : Option Addr) (c_3 : Nat) :
    Meets Try.prog 74 [.agg ⟨[.int .i64 c_1.Kind, .int .u64 c_1.Session, .int .u64 c_1.Seq, .int .u64 c_1.Saga, .slice A_2 c_1.Steps.length c_3, .int .i64 c_1.Step, .bool c_1.Back, .int .i64 c_1.Try, .bool c_1.Ok, .int .u64 c_1.Now]⟩] 0 [] [] [Rd 0 kT_api_Step A_2 c_3 c_1.Steps] (tontineref16_Encode.f n c_1) (tontineref16_Encode.R A_2 c_3) := by
  refine Meets.of (c := c74_0) (n := 58) Try.func74 (by kernel_rfl) (by kernel_rfl) (by kernel_rfl) fun w0 S0 => ?_
  unfold tontineref16_Encode.f
  show GoO (tontineref16_Encode.cx A_2 c_3 w0 S0) [(0, .agg ⟨[.int .i64 c_1.Kind, .int .u64 c_1.Session, .int .u64 c_1.Seq, .int .u64 c_1.Saga, .slice A_2 c_1.Steps.length c_3, .int .i64 c_1.Step, .bool c_1.Back, .int .i64 c_1.Try, .bool c_1.Ok, .int .u64 c_1.Now]⟩)] [] [Rd 0 kT_api_Step A_2 c_3 c_1.Steps] [.code c74_0] _
  refine GoO.seq' c74_0e ?_
  refine GoO.region' (is := [0, 1, 2]) c74_1e (by kernel_rfl) ?_
  refine OpTo.go (GoO.new rfl 40 (cs := [.int .i64 c_1.Kind, .int .u64 c_1.Session, .int .u64 c_1.Seq, .int .u64 c_1.Saga, .slice A_2 c_1.Steps.length c_3, .int .i64 c_1.Step, .bool c_1.Back, .int .i64 c_1.Try, .bool c_1.Ok, .int .u64 c_1.Now]) (by kernel_rfl) _ (fun _ => rfl) (fun b_4 => ?_))
  refine GoO.exec (is := [1, 2]) (hs := [.p, .p]) (rest := []) (ks := [1]) (env' := [(1, .pointer (some ⟨b_4, 0, none⟩))]) (H' := [⟨40, b_4, [.int .i64 c_1.Kind, .int .u64 c_1.Session, .int .u64 c_1.Seq, .int .u64 c_1.Saga, .slice A_2 c_1.Steps.length c_3, .int .i64 c_1.Step, .bool c_1.Back, .int .i64 c_1.Try, .bool c_1.Ok, .int .u64 c_1.Now]⟩]) (ps := []) (by kernel_rfl) trivial ?_
  refine GoO.regionEnd ?_
  refine GoO.seq' c74_2e ?_
  refine GoO.seq' c74_3e ?_
  refine GoO.region' (is := [0, 1, 2, 3, 4, 5, 6, 7, 8]) c74_4e (by kernel_rfl) ?_
  refine GoO.exec (is := [0, 1, 2, 3]) (hs := [.p, .b 0, .p, .p]) (rest := [4, 5, 6, 7, 8]) (ks := [1, 8]) (env' := [(1, .pointer (some ⟨b_4, 0, none⟩)), (8, .bool (c_1.Kind == 2))]) (H' := [⟨40, b_4, [.int .i64 c_1.Kind, .int .u64 c_1.Session, .int .u64 c_1.Seq, .int .u64 c_1.Saga, .slice A_2 c_1.Steps.length c_3, .int .i64 c_1.Step, .bool c_1.Back, .int .i64 c_1.Try, .bool c_1.Ok, .int .u64 c_1.Now]⟩]) (ps := [b_4 = b_4]) (by kernel_rfl) (And.intro rfl trivial) ?_
  refine GoO.bsplit (t := 8) (by kernel_rfl) (fun h5 => ?_) (fun h5 => ?_)
  · refine GoO.exec (is := [4, 5]) (hs := [.p, .b 0]) (rest := [6, 7, 8]) (ks := [1, 8, 10]) (env' := [(1, .pointer (some ⟨b_4, 0, none⟩)), (8, .bool true), (10, .slice A_2 c_1.Steps.length c_3)]) (H' := [⟨40, b_4, [.int .i64 c_1.Kind, .int .u64 c_1.Session, .int .u64 c_1.Seq, .int .u64 c_1.Saga, .slice A_2 c_1.Steps.length c_3, .int .i64 c_1.Step, .bool c_1.Back, .int .i64 c_1.Try, .bool c_1.Ok, .int .u64 c_1.Now]⟩]) (ps := [b_4 = b_4]) (by kernel_rfl) (And.intro rfl trivial) ?_
    refine OpTo.go (GoO.call rfl (by kernel_rfl) (by kernel_rfl) (tontineref13_Check_ok n c_1.Steps A_2 c_3) [[0]] [] [] [(0, 0)] (hks := [0]) (bks := [0]) (by kernel_rfl) (by kernel_rfl) (by kernel_rfl) (.inl rfl) rfl rfl (by kernel_rfl) (by kernel_rfl) _ (fun _ _ => rfl) _ _ (fun _ _ => rfl) (fun _ _ => rfl) (fun _ _ => by kernel_rfl) (fun _ _ => by kernel_rfl) (fun r_6 x_7 => ?_))
    refine GoO.shape (env' := [(1, .pointer (some ⟨b_4, 0, none⟩)), (8, .bool true), (10, .slice A_2 c_1.Steps.length c_3), (11, .int .i64 r_6)]) (H' := [⟨40, b_4, [.int .i64 c_1.Kind, .int .u64 c_1.Session, .int .u64 c_1.Seq, .int .u64 c_1.Saga, .slice A_2 c_1.Steps.length c_3, .int .i64 c_1.Step, .bool c_1.Back, .int .i64 c_1.Try, .bool c_1.Ok, .int .u64 c_1.Now]⟩]) (B' := [Rd 0 kT_api_Step A_2 c_3 c_1.Steps]) (ks := [1, 8, 10, 11]) (by kernel_rfl) (by kernel_rfl) (by kernel_rfl) ?_
    refine GoO.exec (is := [7, 8]) (hs := [.p, .p]) (rest := []) (ks := [1, 13]) (env' := [(1, .pointer (some ⟨b_4, 0, none⟩)), (13, .bool (r_6 != 0))]) (H' := [⟨40, b_4, [.int .i64 c_1.Kind, .int .u64 c_1.Session, .int .u64 c_1.Seq, .int .u64 c_1.Saga, .slice A_2 c_1.Steps.length c_3, .int .i64 c_1.Step, .bool c_1.Back, .int .i64 c_1.Try, .bool c_1.Ok, .int .u64 c_1.Now]⟩]) (ps := []) (by kernel_rfl) trivial ?_
    refine GoO.regionEnd ?_
    exact GoO.sub (ks := [1, 13]) (hk := [0]) (bk := [0]) (by kernel_rfl) (by kernel_rfl) (by kernel_rfl) (tontineref16_Encode_j0_ok n c_1 A_2 c_3 b_4 w0 S0 (r_6 != 0))
  · refine GoO.exec (is := [4, 5, 6, 7, 8]) (hs := [.p, .p, .p, .p, .p]) (rest := []) (ks := [1, 13]) (env' := [(1, .pointer (some ⟨b_4, 0, none⟩)), (13, .bool false)]) (H' := [⟨40, b_4, [.int .i64 c_1.Kind, .int .u64 c_1.Session, .int .u64 c_1.Seq, .int .u64 c_1.Saga, .slice A_2 c_1.Steps.length c_3, .int .i64 c_1.Step, .bool c_1.Back, .int .i64 c_1.Try, .bool c_1.Ok, .int .u64 c_1.Now]⟩]) (ps := []) (by kernel_rfl) trivial ?_
    refine GoO.regionEnd ?_
    exact GoO.sub (ks := [1, 13]) (hk := [0]) (bk := [0]) (by kernel_rfl) (by kernel_rfl) (by kernel_rfl) (tontineref16_Encode_j0_ok n c_1 A_2 c_3 b_4 w0 S0 false)

/-! tontine/tontineref16.Decode -/
noncomputable def c37_0 : Code := bodyOf Try.f37
noncomputable def c37_1 : Code := cdL c37_0
noncomputable def c37_2 : Code := cdR c37_0
noncomputable def c37_3 : Code := cdL c37_2
noncomputable def c37_4 : Code := cdR c37_2
noncomputable def c37_5 : Code := cdL c37_4
noncomputable def c37_6 : Code := cdR c37_4
noncomputable def c37_7 : Code := cdL c37_6
noncomputable def c37_8 : Code := cdR c37_6
noncomputable def c37_9 : Code := cdL c37_8
noncomputable def c37_10 : Code := cdR c37_8
noncomputable def c37_11 : Code := cdL c37_10
noncomputable def c37_12 : Code := cdR c37_10
noncomputable def c37_13 : Code := cdL c37_12
noncomputable def c37_14 : Code := cdR c37_12
noncomputable def c37_15 : Code := cdL c37_14
noncomputable def c37_16 : Code := cdL c37_15
noncomputable def c37_17 : Code := cdR c37_15
noncomputable def c37_18 : Code := cdL c37_17
noncomputable def c37_19 : Code := cdR c37_17
noncomputable def c37_20 : Code := cdR c37_14
noncomputable def c37_21 : Code := cdL c37_20
noncomputable def c37_22 : Code := cdL c37_21
noncomputable def c37_23 : Code := cdR c37_21
noncomputable def c37_24 : Code := cdL c37_23
noncomputable def c37_25 : Code := cdL c37_24
noncomputable def c37_26 : Code := cdR c37_24
noncomputable def c37_27 : Code := cdL c37_26
noncomputable def c37_28 : Code := cdR c37_26
noncomputable def c37_29 : Code := cdL c37_28
noncomputable def c37_30 : Code := cdR c37_28
noncomputable def c37_31 : Code := cdR c37_23
noncomputable def c37_32 : Code := cdR c37_20
noncomputable def c37_33 : Code := cdL c37_32
noncomputable def c37_34 : Code := cdR c37_32
noncomputable def c37_35 : Code := cdL c37_34
noncomputable def c37_36 : Code := cdL c37_35
noncomputable def c37_37 : Code := cdR c37_35
noncomputable def c37_38 : Code := cdL c37_37
noncomputable def c37_39 : Code := cdL c37_38
noncomputable def c37_40 : Code := cdR c37_38
noncomputable def c37_41 : Code := cdR c37_37
noncomputable def c37_42 : Code := cdR c37_34
noncomputable def c37_43 : Code := cdL c37_42
noncomputable def c37_44 : Code := cdR c37_42
noncomputable def r37_1 : Array Oper := cdO c37_1
noncomputable def r37_3 : Array Oper := cdO c37_3
noncomputable def r37_5 : Array Oper := cdO c37_5
noncomputable def r37_7 : Array Oper := cdO c37_7
noncomputable def r37_9 : Array Oper := cdO c37_9
noncomputable def r37_11 : Array Oper := cdO c37_11
noncomputable def r37_13 : Array Oper := cdO c37_13
noncomputable def r37_16 : Array Oper := cdO c37_16
noncomputable def r37_18 : Array Oper := cdO c37_18
noncomputable def r37_22 : Array Oper := cdO c37_22
noncomputable def r37_25 : Array Oper := cdO c37_25
noncomputable def r37_27 : Array Oper := cdO c37_27
noncomputable def r37_29 : Array Oper := cdO c37_29
noncomputable def r37_30 : Array Oper := cdO c37_30
noncomputable def r37_33 : Array Oper := cdO c37_33
noncomputable def r37_36 : Array Oper := cdO c37_36
noncomputable def r37_39 : Array Oper := cdO c37_39
noncomputable def r37_43 : Array Oper := cdO c37_43
theorem c37_0e : c37_0 = .seq c37_1 c37_2 := by kernel_rfl
theorem c37_1e : c37_1 = .region 0 r37_1 false := by kernel_rfl
theorem c37_2e : c37_2 = .seq c37_3 c37_4 := by kernel_rfl
theorem c37_3e : c37_3 = .region 1 r37_3 false := by kernel_rfl
theorem c37_4e : c37_4 = .seq c37_5 c37_6 := by kernel_rfl
theorem c37_5e : c37_5 = .region 2 r37_5 false := by kernel_rfl
theorem c37_6e : c37_6 = .seq c37_7 c37_8 := by kernel_rfl
theorem c37_7e : c37_7 = .region 3 r37_7 false := by kernel_rfl
theorem c37_8e : c37_8 = .seq c37_9 c37_10 := by kernel_rfl
theorem c37_9e : c37_9 = .region 4 r37_9 false := by kernel_rfl
theorem c37_10e : c37_10 = .seq c37_11 c37_12 := by kernel_rfl
theorem c37_11e : c37_11 = .region 5 r37_11 false := by kernel_rfl
theorem c37_12e : c37_12 = .seq c37_13 c37_14 := by kernel_rfl
theorem c37_13e : c37_13 = .region 6 r37_13 false := by kernel_rfl
theorem c37_14e : c37_14 = .seq c37_15 c37_20 := by kernel_rfl
theorem c37_15e : c37_15 = .seq c37_16 c37_17 := by kernel_rfl
theorem c37_16e : c37_16 = .region 7 r37_16 false := by kernel_rfl
theorem c37_17e : c37_17 = .cond (cdC c37_17) c37_18 c37_19 := by kernel_rfl
theorem c37_18e : c37_18 = .region 8 r37_18 false := by kernel_rfl
theorem c37_19e : c37_19 = .skip := by kernel_rfl
theorem c37_20e : c37_20 = .seq c37_21 c37_32 := by kernel_rfl
theorem c37_21e : c37_21 = .seq c37_22 c37_23 := by kernel_rfl
theorem c37_22e : c37_22 = .region 9 r37_22 false := by kernel_rfl
theorem c37_23e : c37_23 = .cond (cdC c37_23) c37_24 c37_31 := by kernel_rfl
theorem c37_24e : c37_24 = .seq c37_25 c37_26 := by kernel_rfl
theorem c37_25e : c37_25 = .region 10 r37_25 false := by kernel_rfl
theorem c37_26e : c37_26 = .seq c37_27 c37_28 := by kernel_rfl
theorem c37_27e : c37_27 = .region 11 r37_27 false := by kernel_rfl
theorem c37_28e : c37_28 = .seq c37_29 c37_30 := by kernel_rfl
theorem c37_29e : c37_29 = .region 12 r37_29 false := by kernel_rfl
theorem c37_30e : c37_30 = .region 13 r37_30 false := by kernel_rfl
theorem c37_31e : c37_31 = .skip := by kernel_rfl
theorem c37_32e : c37_32 = .seq c37_33 c37_34 := by kernel_rfl
theorem c37_33e : c37_33 = .region 14 r37_33 false := by kernel_rfl
theorem c37_34e : c37_34 = .seq c37_35 c37_42 := by kernel_rfl
theorem c37_35e : c37_35 = .seq c37_36 c37_37 := by kernel_rfl
theorem c37_36e : c37_36 = .region 15 r37_36 false := by kernel_rfl
theorem c37_37e : c37_37 = .cond (cdC c37_37) c37_38 c37_41 := by kernel_rfl
theorem c37_38e : c37_38 = .seq c37_39 c37_40 := by kernel_rfl
theorem c37_39e : c37_39 = .region 16 r37_39 false := by kernel_rfl
theorem c37_40e : c37_40 = .ret := by kernel_rfl
theorem c37_41e : c37_41 = .skip := by kernel_rfl
theorem c37_42e : c37_42 = .seq c37_43 c37_44 := by kernel_rfl
theorem c37_43e : c37_43 = .region 17 r37_43 false := by kernel_rfl
theorem c37_44e : c37_44 = .ret := by kernel_rfl
noncomputable def tontineref16_Decode.R : Pst (T_api_Command × Int) where
  ε := Option Addr × Nat
  v := fun r x => .tuple ⟨[.agg ⟨[.int .i64 r.1.Kind, .int .u64 r.1.Session, .int .u64 r.1.Seq, .int .u64 r.1.Saga, .slice x.1 r.1.Steps.length x.2, .int .i64 r.1.Step, .bool r.1.Back, .int .i64 r.1.Try, .bool r.1.Ok, .int .u64 r.1.Now]⟩, .int .i64 r.2]⟩
  H := fun r x => []
  B := fun r x => [Rd 0 kT_api_Step x.1 x.2 r.1.Steps]
noncomputable def tontineref16_Decode.cx (w0 : World) (S0 : Fam) : Cx (T_api_Command × Int) := ⟨Try.prog, 37, Try.f37, 76, w0, S0, [], 0, tontineref16_Decode.R⟩
theorem tontineref16_Decode_j2_ok (n : Nat) (r_4 : Int × T_tontineref03_Reader) (r_6 : Int × T_tontineref03_Reader) (r_7 : Int × T_tontineref03_Reader) (r_8 : Int × T_tontineref03_Reader) (r_9 : Int × T_tontineref03_Reader) (f_16 : (List T_api_Step)) (f_26 : Int) (f_27 : Bool) (f_28 : Int) (f_29 : Bool) (b_2 : Nat) (b_5 : Nat) (A_17 : Option Addr) (c_18 : Nat) (w0 : World) (S0 : Fam) (b_34 : Bool) :
    GoO (tontineref16_Decode.cx w0 S0) [(2, .pointer (some ⟨b_2, 0, none⟩)), (5, .pointer (some ⟨b_5, 0, none⟩)), (73, .bool b_34)] [⟨40, b_2, [.int .i64 0, .int .u64 0, .int .u64 0, .int .u64 0, .slice none ([] : List T_api_Step).length 0, .int .i64 0, .bool false, .int .i64 0, .bool false, .int .u64 0]⟩, ⟨42, b_5, [.int .i64 r_4.1, .int .u64 r_6.1, .int .u64 r_7.1, .int .u64 r_8.1, .slice A_17 f_16.length c_18, .int .i64 f_26, .bool f_27, .int .i64 f_28, .bool f_29, .int .u64 r_9.1]⟩] [Ow 43 kT_api_Step A_17 c_18 f_16] [.code c37_37, .code c37_42] (tontineref16_Decode.j2 n r_4 r_6 r_7 r_8 r_9 f_16 f_26 f_27 f_28 f_29 b_34) := by
  unfold tontineref16_Decode.j2
  refine GoO.ite' c37_37e (by kernel_rfl) (fun h35 => ?_) (fun h35 => ?_)
  · refine GoO.seq' c37_38e ?_
    refine GoO.region' (is := [0, 1, 2]) c37_39e (by kernel_rfl) ?_
    refine GoO.exec (is := [0, 1, 2]) (hs := [.p, .b 0, .p]) (rest := []) (ks := [2, 3]) (env' := [(2, .pointer (some ⟨b_2, 0, none⟩)), (3, .int .i64 2)]) (H' := [⟨40, b_2, [.int .i64 0, .int .u64 0, .int .u64 0, .int .u64 0, .slice none ([] : List T_api_Step).length 0, .int .i64 0, .bool false, .int .i64 0, .bool false, .int .u64 0]⟩, ⟨42, b_5, [.int .i64 r_4.1, .int .u64 r_6.1, .int .u64 r_7.1, .int .u64 r_8.1, .slice A_17 f_16.length c_18, .int .i64 f_26, .bool f_27, .int .i64 f_28, .bool f_29, .int .u64 r_9.1]⟩]) (ps := [b_2 = b_2]) (by kernel_rfl) (And.intro rfl trivial) ?_
    refine GoO.regionEnd ?_
    refine GoO.nilRd kT_api_Step ?_
    exact GoO.ret' (h := c37_40e) (hs := [0]) (ps := [b_2 = b_2]) (hk := []) (bk := [0]) Try.func37 (⟨none, 0⟩ : Option Addr × Nat) (by kernel_rfl) (And.intro rfl trivial) (by kernel_rfl) (by kernel_rfl)
  · refine GoO.skip' c37_41e ?_
    refine GoO.seq' c37_42e ?_
    refine GoO.region' (is := [0, 1, 2]) c37_43e (by kernel_rfl) ?_
    refine GoO.exec (is := [0, 1, 2]) (hs := [.b 1, .b 0, .p]) (rest := []) (ks := [2, 3]) (env' := [(2, .pointer (some ⟨b_2, 0, none⟩)), (3, .int .i64 0)]) (H' := [⟨40, b_2, [.int .i64 r_4.1, .int .u64 r_6.1, .int .u64 r_7.1, .int .u64 r_8.1, .slice A_17 f_16.length c_18, .int .i64 f_26, .bool f_27, .int .i64 f_28, .bool f_29, .int .u64 r_9.1]⟩, ⟨42, b_5, [.int .i64 r_4.1, .int .u64 r_6.1, .int .u64 r_7.1, .int .u64 r_8.1, .slice A_17 f_16.length c_18, .int .i64 f_26, .bool f_27, .int .i64 f_28, .bool f_29, .int .u64 r_9.1]⟩]) (ps := [b_5 = b_5, b_2 = b_2]) (by kernel_rfl) (And.intro rfl (And.intro rfl trivial)) ?_
    refine GoO.regionEnd ?_
    refine GoO.retag (t := 43) (u := 0) (j := 0) (hk := [0, 1]) (bk := []) rfl rfl rfl rfl rfl rfl (by kernel_rfl) (by kernel_rfl) ?_
    refine GoO.own2rd (j := 0) rfl ?_
    exact GoO.ret' (h := c37_44e) (hs := [0]) (ps := [b_2 = b_2]) (hk := []) (bk := [0]) Try.func37 (⟨A_17, c_18⟩ : Option Addr × Nat) (by kernel_rfl) (And.intro rfl trivial) (by kernel_rfl) (by kernel_rfl)
theorem tontineref16_Decode_j1_ok (n : Nat) (s_1 : (List UInt8)) (r_4 : Int × T_tontineref03_Reader) (r_6 : Int × T_tontineref03_Reader) (r_7 : Int × T_tontineref03_Reader) (r_8 : Int × T_tontineref03_Reader) (r_9 : Int × T_tontineref03_Reader) (f_16 : (List T_api_Step)) (b_2 : Nat) (b_3 : Nat) (b_5 : Nat) (A_17 : Option Addr) (c_18 : Nat) (w0 : World) (S0 : Fam) (f_24 : (List UInt8)) (f_25 : Bool) (f_26 : Int) (f_27 : Bool) (f_28 : Int) (f_29 : Bool) :
    GoO (tontineref16_Decode.cx w0 S0) [(0, .string (bs s_1)), (2, .pointer (some ⟨b_2, 0, none⟩)), (4, .pointer (some ⟨b_3, 0, none⟩)), (5, .pointer (some ⟨b_5, 0, none⟩))] [⟨40, b_2, [.int .i64 0, .int .u64 0, .int .u64 0, .int .u64 0, .slice none ([] : List T_api_Step).length 0, .int .i64 0, .bool false, .int .i64 0, .bool false, .int .u64 0]⟩, ⟨41, b_3, [.string (bs f_24), .bool f_25]⟩, ⟨42, b_5, [.int .i64 r_4.1, .int .u64 r_6.1, .int .u64 r_7.1, .int .u64 r_8.1, .slice A_17 f_16.length c_18, .int .i64 f_26, .bool f_27, .int .i64 f_28, .bool f_29, .int .u64 r_9.1]⟩] [Ow 43 kT_api_Step A_17 c_18 f_16] [.code c37_32] (tontineref16_Decode.j1 n s_1 r_4 r_6 r_7 r_8 r_9 f_16 f_24 f_25 f_26 f_27 f_28 f_29) := by
  unfold tontineref16_Decode.j1
  refine GoO.seq' c37_32e ?_
  refine GoO.region' (is := [0, 1, 2, 3, 4, 5, 6]) c37_33e (by kernel_rfl) ?_
  refine GoO.exec (is := [0]) (hs := [.b 2]) (rest := [1, 2, 3, 4, 5, 6]) (ks := [0, 2, 4, 5, 50]) (env' := [(0, .string (bs s_1)), (2, .pointer (some ⟨b_2, 0, none⟩)), (4, .pointer (some ⟨b_3, 0, none⟩)), (5, .pointer (some ⟨b_5, 0, none⟩)), (50, .agg ⟨[.int .i64 r_4.1, .int .u64 r_6.1, .int .u64 r_7.1, .int .u64 r_8.1, .slice A_17 f_16.length c_18, .int .i64 f_26, .bool f_27, .int .i64 f_28, .bool f_29, .int .u64 r_9.1]⟩)]) (H' := [⟨40, b_2, [.int .i64 0, .int .u64 0, .int .u64 0, .int .u64 0, .slice none ([] : List T_api_Step).length 0, .int .i64 0, .bool false, .int .i64 0, .bool false, .int .u64 0]⟩, ⟨41, b_3, [.string (bs f_24), .bool f_25]⟩, ⟨42, b_5, [.int .i64 r_4.1, .int .u64 r_6.1, .int .u64 r_7.1, .int .u64 r_8.1, .slice A_17 f_16.length c_18, .int .i64 f_26, .bool f_27, .int .i64 f_28, .bool f_29, .int .u64 r_9.1]⟩]) (ps := [b_5 = b_5]) (by kernel_rfl) (And.intro rfl trivial) ?_
  refine GoO.view (j := 0) rfl ?_
  refine OpTo.go (GoO.call rfl (by kernel_rfl) (by kernel_rfl) (tontineref16_Encode_ok n (⟨r_4.1, r_6.1, r_7.1, r_8.1, f_16, f_26, f_27, f_28, f_29, r_9.1⟩ : T_api_Command) A_17 c_18) [[0, 43]] [] [] [(0, 1)] (hks := [0, 1, 2]) (bks := [0]) (by kernel_rfl) (by kernel_rfl) (by kernel_rfl) (.inr (fun _ _ => by simp [tontineref16_Encode.R])) rfl rfl (by kernel_rfl) (by kernel_rfl) _ (fun _ _ => rfl) _ _ (fun _ _ => rfl) (fun _ _ => rfl) (fun _ _ => by kernel_rfl) (fun _ _ => by kernel_rfl) (fun r_30 x_36 => ?_))
  refine GoO.shape (env' := [(0, .string (bs s_1)), (2, .pointer (some ⟨b_2, 0, none⟩)), (4, .pointer (some ⟨b_3, 0, none⟩)), (5, .pointer (some ⟨b_5, 0, none⟩)), (50, .agg ⟨[.int .i64 r_4.1, .int .u64 r_6.1, .int .u64 r_7.1, .int .u64 r_8.1, .slice A_17 f_16.length c_18, .int .i64 f_26, .bool f_27, .int .i64 f_28, .bool f_29, .int .u64 r_9.1]⟩), (51, .tuple ⟨[.string (bs r_30.1), .int .i64 r_30.2]⟩)]) (H' := [⟨40, b_2, [.int .i64 0, .int .u64 0, .int .u64 0, .int .u64 0, .slice none ([] : List T_api_Step).length 0, .int .i64 0, .bool false, .int .i64 0, .bool false, .int .u64 0]⟩, ⟨41, b_3, [.string (bs f_24), .bool f_25]⟩, ⟨42, b_5, [.int .i64 r_4.1, .int .u64 r_6.1, .int .u64 r_7.1, .int .u64 r_8.1, .slice A_17 f_16.length c_18, .int .i64 f_26, .bool f_27, .int .i64 f_28, .bool f_29, .int .u64 r_9.1]⟩]) (B' := [Ow 43 kT_api_Step A_17 c_18 f_16]) (ks := [0, 2, 4, 5, 50, 51]) (by kernel_rfl) (by kernel_rfl) (by kernel_rfl) ?_
  refine GoO.exec (is := [2, 3, 4, 5, 6]) (hs := [.p, .p, .p, .p, .p]) (rest := []) (ks := [0, 2, 4, 5, 6, 7]) (env' := [(0, .string (bs s_1)), (2, .pointer (some ⟨b_2, 0, none⟩)), (4, .pointer (some ⟨b_3, 0, none⟩)), (5, .pointer (some ⟨b_5, 0, none⟩)), (6, .string (bs r_30.1)), (7, .int .i64 r_30.2)]) (H' := [⟨40, b_2, [.int .i64 0, .int .u64 0, .int .u64 0, .int .u64 0, .slice none ([] : List T_api_Step).length 0, .int .i64 0, .bool false, .int .i64 0, .bool false, .int .u64 0]⟩, ⟨41, b_3, [.string (bs f_24), .bool f_25]⟩, ⟨42, b_5, [.int .i64 r_4.1, .int .u64 r_6.1, .int .u64 r_7.1, .int .u64 r_8.1, .slice A_17 f_16.length c_18, .int .i64 f_26, .bool f_27, .int .i64 f_28, .bool f_29, .int .u64 r_9.1]⟩]) (ps := []) (by kernel_rfl) trivial ?_
  refine GoO.regionEnd ?_
  refine GoO.seq' c37_34e ?_
  refine GoO.seq' c37_35e ?_
  refine GoO.region' (is := [0, 1, 2, 3, 4, 5, 6, 7, 8, 9, 10, 11, 12, 13, 14, 15, 16, 17, 18, 19]) c37_36e (by kernel_rfl) ?_
  refine GoO.exec (is := [0, 1, 2, 3, 4]) (hs := [.p, .p, .p, .b 1, .p]) (rest := [5, 6, 7, 8, 9, 10, 11, 12, 13, 14, 15, 16, 17, 18, 19]) (ks := [0, 2, 4, 5, 6, 7, 58]) (env' := [(0, .string (bs s_1)), (2, .pointer (some ⟨b_2, 0, none⟩)), (4, .pointer (some ⟨b_3, 0, none⟩)), (5, .pointer (some ⟨b_5, 0, none⟩)), (6, .string (bs r_30.1)), (7, .int .i64 r_30.2), (58, .bool f_25)]) (H' := [⟨40, b_2, [.int .i64 0, .int .u64 0, .int .u64 0, .int .u64 0, .slice none ([] : List T_api_Step).length 0, .int .i64 0, .bool false, .int .i64 0, .bool false, .int .u64 0]⟩, ⟨41, b_3, [.string (bs f_24), .bool f_25]⟩, ⟨42, b_5, [.int .i64 r_4.1, .int .u64 r_6.1, .int .u64 r_7.1, .int .u64 r_8.1, .slice A_17 f_16.length c_18, .int .i64 f_26, .bool f_27, .int .i64 f_28, .bool f_29, .int .u64 r_9.1]⟩]) (ps := [b_3 = b_3]) (by kernel_rfl) (And.intro rfl trivial) ?_
  refine GoO.bsplit (t := 58) (by kernel_rfl) (fun h31 => ?_) (fun h31 => ?_)
  · refine GoO.exec (is := [5, 6, 7, 8, 9, 10, 11, 12, 13, 14, 15, 16, 17, 18, 19]) (hs := [.p, .p, .p, .p, .p, .p, .p, .p, .p, .p, .p, .p, .p, .p, .p]) (rest := []) (ks := [2, 5, 73]) (env' := [(2, .pointer (some ⟨b_2, 0, none⟩)), (5, .pointer (some ⟨b_5, 0, none⟩)), (73, .bool true)]) (H' := [⟨40, b_2, [.int .i64 0, .int .u64 0, .int .u64 0, .int .u64 0, .slice none ([] : List T_api_Step).length 0, .int .i64 0, .bool false, .int .i64 0, .bool false, .int .u64 0]⟩, ⟨41, b_3, [.string (bs f_24), .bool f_25]⟩, ⟨42, b_5, [.int .i64 r_4.1, .int .u64 r_6.1, .int .u64 r_7.1, .int .u64 r_8.1, .slice A_17 f_16.length c_18, .int .i64 f_26, .bool f_27, .int .i64 f_28, .bool f_29, .int .u64 r_9.1]⟩]) (ps := []) (by kernel_rfl) trivial ?_
    refine GoO.regionEnd ?_
    exact GoO.sub (ks := [2, 5, 73]) (hk := [0, 2]) (bk := [0]) (by kernel_rfl) (by kernel_rfl) (by kernel_rfl) (tontineref16_Decode_j2_ok n r_4 r_6 r_7 r_8 r_9 f_16 f_26 f_27 f_28 f_29 b_2 b_5 A_17 c_18 w0 S0 true)
  · refine GoO.exec (is := [5, 6, 7, 8, 9, 10, 11]) (hs := [.p, .p, .p, .b 1, .p, .p, .p]) (rest := [12, 13, 14, 15, 16, 17, 18, 19]) (ks := [0, 2, 5, 6, 7, 65]) (env' := [(0, .string (bs s_1)), (2, .pointer (some ⟨b_2, 0, none⟩)), (5, .pointer (some ⟨b_5, 0, none⟩)), (6, .string (bs r_30.1)), (7, .int .i64 r_30.2), (65, .bool (!(f_24 == ([] : List UInt8))))]) (H' := [⟨40, b_2, [.int .i64 0, .int .u64 0, .int .u64 0, .int .u64 0, .slice none ([] : List T_api_Step).length 0, .int .i64 0, .bool false, .int .i64 0, .bool false, .int .u64 0]⟩, ⟨41, b_3, [.string (bs f_24), .bool f_25]⟩, ⟨42, b_5, [.int .i64 r_4.1, .int .u64 r_6.1, .int .u64 r_7.1, .int .u64 r_8.1, .slice A_17 f_16.length c_18, .int .i64 f_26, .bool f_27, .int .i64 f_28, .bool f_29, .int .u64 r_9.1]⟩]) (ps := [b_3 = b_3]) (by kernel_rfl) (And.intro rfl trivial) ?_
    refine GoO.bsplit (t := 65) (by kernel_rfl) (fun h32 => ?_) (fun h32 => ?_)
    · refine GoO.exec (is := [12, 13, 14, 15, 16, 17, 18, 19]) (hs := [.p, .p, .p, .p, .p, .p, .p, .p]) (rest := []) (ks := [2, 5, 73]) (env' := [(2, .pointer (some ⟨b_2, 0, none⟩)), (5, .pointer (some ⟨b_5, 0, none⟩)), (73, .bool true)]) (H' := [⟨40, b_2, [.int .i64 0, .int .u64 0, .int .u64 0, .int .u64 0, .slice none ([] : List T_api_Step).length 0, .int .i64 0, .bool false, .int .i64 0, .bool false, .int .u64 0]⟩, ⟨41, b_3, [.string (bs f_24), .bool f_25]⟩, ⟨42, b_5, [.int .i64 r_4.1, .int .u64 r_6.1, .int .u64 r_7.1, .int .u64 r_8.1, .slice A_17 f_16.length c_18, .int .i64 f_26, .bool f_27, .int .i64 f_28, .bool f_29, .int .u64 r_9.1]⟩]) (ps := []) (by kernel_rfl) trivial ?_
      refine GoO.regionEnd ?_
      exact GoO.sub (ks := [2, 5, 73]) (hk := [0, 2]) (bk := [0]) (by kernel_rfl) (by kernel_rfl) (by kernel_rfl) (tontineref16_Decode_j2_ok n r_4 r_6 r_7 r_8 r_9 f_16 f_26 f_27 f_28 f_29 b_2 b_5 A_17 c_18 w0 S0 true)
    · refine GoO.exec (is := [12, 13, 14, 15]) (hs := [.p, .p, .p, .p]) (rest := [16, 17, 18, 19]) (ks := [0, 2, 5, 6, 69]) (env' := [(0, .string (bs s_1)), (2, .pointer (some ⟨b_2, 0, none⟩)), (5, .pointer (some ⟨b_5, 0, none⟩)), (6, .string (bs r_30.1)), (69, .bool (r_30.2 != 0))]) (H' := [⟨40, b_2, [.int .i64 0, .int .u64 0, .int .u64 0, .int .u64 0, .slice none ([] : List T_api_Step).length 0, .int .i64 0, .bool false, .int .i64 0, .bool false, .int .u64 0]⟩, ⟨41, b_3, [.string (bs f_24), .bool f_25]⟩, ⟨42, b_5, [.int .i64 r_4.1, .int .u64 r_6.1, .int .u64 r_7.1, .int .u64 r_8.1, .slice A_17 f_16.length c_18, .int .i64 f_26, .bool f_27, .int .i64 f_28, .bool f_29, .int .u64 r_9.1]⟩]) (ps := []) (by kernel_rfl) trivial ?_
      refine GoO.bsplit (t := 69) (by kernel_rfl) (fun h33 => ?_) (fun h33 => ?_)
      · refine GoO.exec (is := [16, 17, 18, 19]) (hs := [.p, .p, .p, .p]) (rest := []) (ks := [2, 5, 73]) (env' := [(2, .pointer (some ⟨b_2, 0, none⟩)), (5, .pointer (some ⟨b_5, 0, none⟩)), (73, .bool true)]) (H' := [⟨40, b_2, [.int .i64 0, .int .u64 0, .int .u64 0, .int .u64 0, .slice none ([] : List T_api_Step).length 0, .int .i64 0, .bool false, .int .i64 0, .bool false, .int .u64 0]⟩, ⟨41, b_3, [.string (bs f_24), .bool f_25]⟩, ⟨42, b_5, [.int .i64 r_4.1, .int .u64 r_6.1, .int .u64 r_7.1, .int .u64 r_8.1, .slice A_17 f_16.length c_18, .int .i64 f_26, .bool f_27, .int .i64 f_28, .bool f_29, .int .u64 r_9.1]⟩]) (ps := []) (by kernel_rfl) trivial ?_
        refine GoO.regionEnd ?_
        exact GoO.sub (ks := [2, 5, 73]) (hk := [0, 2]) (bk := [0]) (by kernel_rfl) (by kernel_rfl) (by kernel_rfl) (tontineref16_Decode_j2_ok n r_4 r_6 r_7 r_8 r_9 f_16 f_26 f_27 f_28 f_29 b_2 b_5 A_17 c_18 w0 S0 true)
      · refine GoO.exec (is := [16, 17, 18, 19]) (hs := [.p, .p, .p, .p]) (rest := []) (ks := [2, 5, 73]) (env' := [(2, .pointer (some ⟨b_2, 0, none⟩)), (5, .pointer (some ⟨b_5, 0, none⟩)), (73, .bool (!(r_30.1 == s_1)))]) (H' := [⟨40, b_2, [.int .i64 0, .int .u64 0, .int .u64 0, .int .u64 0, .slice none ([] : List T_api_Step).length 0, .int .i64 0, .bool false, .int .i64 0, .bool false, .int .u64 0]⟩, ⟨41, b_3, [.string (bs f_24), .bool f_25]⟩, ⟨42, b_5, [.int .i64 r_4.1, .int .u64 r_6.1, .int .u64 r_7.1, .int .u64 r_8.1, .slice A_17 f_16.length c_18, .int .i64 f_26, .bool f_27, .int .i64 f_28, .bool f_29, .int .u64 r_9.1]⟩]) (ps := []) (by kernel_rfl) trivial ?_
        refine GoO.regionEnd ?_
        exact GoO.sub (ks := [2, 5, 73]) (hk := [0, 2]) (bk := [0]) (by kernel_rfl) (by kernel_rfl) (by kernel_rfl) (tontineref16_Decode_j2_ok n r_4 r_6 r_7 r_8 r_9 f_16 f_26 f_27 f_28 f_29 b_2 b_5 A_17 c_18 w0 S0 (!(r_30.1 == s_1)))
theorem tontineref16_Decode_j0_ok (n : Nat) (s_1 : (List UInt8)) (r_4 : Int × T_tontineref03_Reader) (r_6 : Int × T_tontineref03_Reader) (r_7 : Int × T_tontineref03_Reader) (r_8 : Int × T_tontineref03_Reader) (r_9 : Int × T_tontineref03_Reader) (b_2 : Nat) (b_3 : Nat) (b_5 : Nat) (w0 : World) (S0 : Fam) (f_14 : (List UInt8)) (f_15 : Bool) (f_16 : (List T_api_Step)) (A_17 : Option Addr) (c_18 : Nat) :
    GoO (tontineref16_Decode.cx w0 S0) [(0, .string (bs s_1)), (2, .pointer (some ⟨b_2, 0, none⟩)), (4, .pointer (some ⟨b_3, 0, none⟩)), (5, .pointer (some ⟨b_5, 0, none⟩))] [⟨40, b_2, [.int .i64 0, .int .u64 0, .int .u64 0, .int .u64 0, .slice none ([] : List T_api_Step).length 0, .int .i64 0, .bool false, .int .i64 0, .bool false, .int .u64 0]⟩, ⟨41, b_3, [.string (bs f_14), .bool f_15]⟩, ⟨42, b_5, [.int .i64 r_4.1, .int .u64 r_6.1, .int .u64 r_7.1, .int .u64 r_8.1, .slice A_17 f_16.length c_18, .int .i64 0, .bool false, .int .i64 0, .bool false, .int .u64 r_9.1]⟩] [Ow 43 kT_api_Step A_17 c_18 f_16] [.code c37_20] (tontineref16_Decode.j0 n s_1 r_4 r_6 r_7 r_8 r_9 f_14 f_15 f_16) := by
  unfold tontineref16_Decode.j0
  refine GoO.seq' c37_20e ?_
  refine GoO.seq' c37_21e ?_
  refine GoO.region' (is := [0, 1, 2]) c37_22e (by kernel_rfl) ?_
  refine GoO.exec (is := [0, 1, 2]) (hs := [.p, .b 2, .p]) (rest := []) (ks := [0, 2, 4, 5, 34]) (env' := [(0, .string (bs s_1)), (2, .pointer (some ⟨b_2, 0, none⟩)), (4, .pointer (some ⟨b_3, 0, none⟩)), (5, .pointer (some ⟨b_5, 0, none⟩)), (34, .bool (r_4.1 == 4))]) (H' := [⟨40, b_2, [.int .i64 0, .int .u64 0, .int .u64 0, .int .u64 0, .slice none ([] : List T_api_Step).length 0, .int .i64 0, .bool false, .int .i64 0, .bool false, .int .u64 0]⟩, ⟨41, b_3, [.string (bs f_14), .bool f_15]⟩, ⟨42, b_5, [.int .i64 r_4.1, .int .u64 r_6.1, .int .u64 r_7.1, .int .u64 r_8.1, .slice A_17 f_16.length c_18, .int .i64 0, .bool false, .int .i64 0, .bool false, .int .u64 r_9.1]⟩]) (ps := [b_5 = b_5]) (by kernel_rfl) (And.intro rfl trivial) ?_
  refine GoO.regionEnd ?_
  refine GoO.ite' c37_23e (by kernel_rfl) (fun h19 => ?_) (fun h19 => ?_)
  · refine GoO.seq' c37_24e ?_
    refine GoO.region' (is := [0, 1, 2, 3]) c37_25e (by kernel_rfl) ?_
    refine GoO.exec (is := [0]) (hs := [.p]) (rest := [1, 2, 3]) (ks := [0, 2, 4, 5, 35]) (env' := [(0, .string (bs s_1)), (2, .pointer (some ⟨b_2, 0, none⟩)), (4, .pointer (some ⟨b_3, 0, none⟩)), (5, .pointer (some ⟨b_5, 0, none⟩)), (35, .pointer (some ⟨b_3, 0, none⟩))]) (H' := [⟨40, b_2, [.int .i64 0, .int .u64 0, .int .u64 0, .int .u64 0, .slice none ([] : List T_api_Step).length 0, .int .i64 0, .bool false, .int .i64 0, .bool false, .int .u64 0]⟩, ⟨41, b_3, [.string (bs f_14), .bool f_15]⟩, ⟨42, b_5, [.int .i64 r_4.1, .int .u64 r_6.1, .int .u64 r_7.1, .int .u64 r_8.1, .slice A_17 f_16.length c_18, .int .i64 0, .bool false, .int .i64 0, .bool false, .int .u64 r_9.1]⟩]) (ps := []) (by kernel_rfl) trivial ?_
    refine OpTo.go (GoO.call rfl (by kernel_rfl) (by kernel_rfl) (tontineref03_Reader_Up_ok n (⟨f_14, f_15⟩ : T_tontineref03_Reader) 63 b_3) [[0], [41]] [(41, 1)] [(1, 1)] [] (hks := [0, 2]) (bks := [0]) (by kernel_rfl) (by kernel_rfl) (by kernel_rfl) (.inl rfl) rfl rfl (by kernel_rfl) (by kernel_rfl) _ (fun _ _ => rfl) _ _ (fun _ _ => rfl) (fun _ _ => rfl) (fun _ _ => by kernel_rfl) (fun _ _ => by kernel_rfl) (fun r_20 x_27 => ?_))
    refine GoO.shape (env' := [(0, .string (bs s_1)), (2, .pointer (some ⟨b_2, 0, none⟩)), (4, .pointer (some ⟨b_3, 0, none⟩)), (5, .pointer (some ⟨b_5, 0, none⟩)), (35, .pointer (some ⟨b_3, 0, none⟩)), (36, .int .i64 r_20.1)]) (H' := [⟨41, b_3, [.string (bs r_20.2.S_), .bool r_20.2.Bad]⟩, ⟨40, b_2, [.int .i64 0, .int .u64 0, .int .u64 0, .int .u64 0, .slice none ([] : List T_api_Step).length 0, .int .i64 0, .bool false, .int .i64 0, .bool false, .int .u64 0]⟩, ⟨42, b_5, [.int .i64 r_4.1, .int .u64 r_6.1, .int .u64 r_7.1, .int .u64 r_8.1, .slice A_17 f_16.length c_18, .int .i64 0, .bool false, .int .i64 0, .bool false, .int .u64 r_9.1]⟩]) (B' := [Ow 43 kT_api_Step A_17 c_18 f_16]) (ks := [0, 2, 4, 5, 35, 36]) (by kernel_rfl) (by kernel_rfl) (by kernel_rfl) ?_
    refine GoO.exec (is := [2, 3]) (hs := [.p, .b 2]) (rest := []) (ks := [0, 2, 4, 5]) (env' := [(0, .string (bs s_1)), (2, .pointer (some ⟨b_2, 0, none⟩)), (4, .pointer (some ⟨b_3, 0, none⟩)), (5, .pointer (some ⟨b_5, 0, none⟩))]) (H' := [⟨41, b_3, [.string (bs r_20.2.S_), .bool r_20.2.Bad]⟩, ⟨40, b_2, [.int .i64 0, .int .u64 0, .int .u64 0, .int .u64 0, .slice none ([] : List T_api_Step).length 0, .int .i64 0, .bool false, .int .i64 0, .bool false, .int .u64 0]⟩, ⟨42, b_5, [.int .i64 r_4.1, .int .u64 r_6.1, .int .u64 r_7.1, .int .u64 r_8.1, .slice A_17 f_16.length c_18, .int .i64 r_20.1, .bool false, .int .i64 0, .bool false, .int .u64 r_9.1]⟩]) (ps := [b_5 = b_5]) (by kernel_rfl) (And.intro rfl trivial) ?_
    refine GoO.regionEnd ?_
    refine GoO.seq' c37_26e ?_
    refine GoO.region' (is := [0, 1, 2, 3, 4]) c37_27e (by kernel_rfl) ?_
    refine GoO.exec (is := [0]) (hs := [.p]) (rest := [1, 2, 3, 4]) (ks := [0, 2, 4, 5, 38]) (env' := [(0, .string (bs s_1)), (2, .pointer (some ⟨b_2, 0, none⟩)), (4, .pointer (some ⟨b_3, 0, none⟩)), (5, .pointer (some ⟨b_5, 0, none⟩)), (38, .pointer (some ⟨b_3, 0, none⟩))]) (H' := [⟨41, b_3, [.string (bs r_20.2.S_), .bool r_20.2.Bad]⟩, ⟨40, b_2, [.int .i64 0, .int .u64 0, .int .u64 0, .int .u64 0, .slice none ([] : List T_api_Step).length 0, .int .i64 0, .bool false, .int .i64 0, .bool false, .int .u64 0]⟩, ⟨42, b_5, [.int .i64 r_4.1, .int .u64 r_6.1, .int .u64 r_7.1, .int .u64 r_8.1, .slice A_17 f_16.length c_18, .int .i64 r_20.1, .bool false, .int .i64 0, .bool false, .int .u64 r_9.1]⟩]) (ps := []) (by kernel_rfl) trivial ?_
    refine OpTo.go (GoO.call rfl (by kernel_rfl) (by kernel_rfl) (tontineref03_Reader_Up_ok n r_20.2 1 b_3) [[0], [41]] [(41, 1)] [(1, 0)] [] (hks := [1, 2]) (bks := [0]) (by kernel_rfl) (by kernel_rfl) (by kernel_rfl) (.inl rfl) rfl rfl (by kernel_rfl) (by kernel_rfl) _ (fun _ _ => rfl) _ _ (fun _ _ => rfl) (fun _ _ => rfl) (fun _ _ => by kernel_rfl) (fun _ _ => by kernel_rfl) (fun r_21 x_26 => ?_))
    refine GoO.shape (env' := [(0, .string (bs s_1)), (2, .pointer (some ⟨b_2, 0, none⟩)), (4, .pointer (some ⟨b_3, 0, none⟩)), (5, .pointer (some ⟨b_5, 0, none⟩)), (38, .pointer (some ⟨b_3, 0, none⟩)), (39, .int .i64 r_21.1)]) (H' := [⟨41, b_3, [.string (bs r_21.2.S_), .bool r_21.2.Bad]⟩, ⟨40, b_2, [.int .i64 0, .int .u64 0, .int .u64 0, .int .u64 0, .slice none ([] : List T_api_Step).length 0, .int .i64 0, .bool false, .int .i64 0, .bool false, .int .u64 0]⟩, ⟨42, b_5, [.int .i64 r_4.1, .int .u64 r_6.1, .int .u64 r_7.1, .int .u64 r_8.1, .slice A_17 f_16.length c_18, .int .i64 r_20.1, .bool false, .int .i64 0, .bool false, .int .u64 r_9.1]⟩]) (B' := [Ow 43 kT_api_Step A_17 c_18 f_16]) (ks := [0, 2, 4, 5, 38, 39]) (by kernel_rfl) (by kernel_rfl) (by kernel_rfl) ?_
    refine GoO.exec (is := [2, 3, 4]) (hs := [.p, .p, .b 2]) (rest := []) (ks := [0, 2, 4, 5]) (env' := [(0, .string (bs s_1)), (2, .pointer (some ⟨b_2, 0, none⟩)), (4, .pointer (some ⟨b_3, 0, none⟩)), (5, .pointer (some ⟨b_5, 0, none⟩))]) (H' := [⟨41, b_3, [.string (bs r_21.2.S_), .bool r_21.2.Bad]⟩, ⟨40, b_2, [.int .i64 0, .int .u64 0, .int .u64 0, .int .u64 0, .slice none ([] : List T_api_Step).length 0, .int .i64 0, .bool false, .int .i64 0, .bool false, .int .u64 0]⟩, ⟨42, b_5, [.int .i64 r_4.1, .int .u64 r_6.1, .int .u64 r_7.1, .int .u64 r_8.1, .slice A_17 f_16.length c_18, .int .i64 r_20.1, .bool (r_21.1 == 1), .int .i64 0, .bool false, .int .u64 r_9.1]⟩]) (ps := [b_5 = b_5]) (by kernel_rfl) (And.intro rfl trivial) ?_
    refine GoO.regionEnd ?_
    refine GoO.seq' c37_28e ?_
    refine GoO.region' (is := [0, 1, 2, 3]) c37_29e (by kernel_rfl) ?_
    refine GoO.exec (is := [0]) (hs := [.p]) (rest := [1, 2, 3]) (ks := [0, 2, 4, 5, 42]) (env' := [(0, .string (bs s_1)), (2, .pointer (some ⟨b_2, 0, none⟩)), (4, .pointer (some ⟨b_3, 0, none⟩)), (5, .pointer (some ⟨b_5, 0, none⟩)), (42, .pointer (some ⟨b_3, 0, none⟩))]) (H' := [⟨41, b_3, [.string (bs r_21.2.S_), .bool r_21.2.Bad]⟩, ⟨40, b_2, [.int .i64 0, .int .u64 0, .int .u64 0, .int .u64 0, .slice none ([] : List T_api_Step).length 0, .int .i64 0, .bool false, .int .i64 0, .bool false, .int .u64 0]⟩, ⟨42, b_5, [.int .i64 r_4.1, .int .u64 r_6.1, .int .u64 r_7.1, .int .u64 r_8.1, .slice A_17 f_16.length c_18, .int .i64 r_20.1, .bool (r_21.1 == 1), .int .i64 0, .bool false, .int .u64 r_9.1]⟩]) (ps := []) (by kernel_rfl) trivial ?_
    refine OpTo.go (GoO.call rfl (by kernel_rfl) (by kernel_rfl) (tontineref03_Reader_Up_ok n r_21.2 8 b_3) [[0], [41]] [(41, 1)] [(1, 0)] [] (hks := [1, 2]) (bks := [0]) (by kernel_rfl) (by kernel_rfl) (by kernel_rfl) (.inl rfl) rfl rfl (by kernel_rfl) (by kernel_rfl) _ (fun _ _ => rfl) _ _ (fun _ _ => rfl) (fun _ _ => rfl) (fun _ _ => by kernel_rfl) (fun _ _ => by kernel_rfl) (fun r_22 x_25 => ?_))
    refine GoO.shape (env' := [(0, .string (bs s_1)), (2, .pointer (some ⟨b_2, 0, none⟩)), (4, .pointer (some ⟨b_3, 0, none⟩)), (5, .pointer (some ⟨b_5, 0, none⟩)), (42, .pointer (some ⟨b_3, 0, none⟩)), (43, .int .i64 r_22.1)]) (H' := [⟨41, b_3, [.string (bs r_22.2.S_), .bool r_22.2.Bad]⟩, ⟨40, b_2, [.int .i64 0, .int .u64 0, .int .u64 0, .int .u64 0, .slice none ([] : List T_api_Step).length 0, .int .i64 0, .bool false, .int .i64 0, .bool false, .int .u64 0]⟩, ⟨42, b_5, [.int .i64 r_4.1, .int .u64 r_6.1, .int .u64 r_7.1, .int .u64 r_8.1, .slice A_17 f_16.length c_18, .int .i64 r_20.1, .bool (r_21.1 == 1), .int .i64 0, .bool false, .int .u64 r_9.1]⟩]) (B' := [Ow 43 kT_api_Step A_17 c_18 f_16]) (ks := [0, 2, 4, 5, 42, 43]) (by kernel_rfl) (by kernel_rfl) (by kernel_rfl) ?_
    refine GoO.exec (is := [2, 3]) (hs := [.p, .b 2]) (rest := []) (ks := [0, 2, 4, 5]) (env' := [(0, .string (bs s_1)), (2, .pointer (some ⟨b_2, 0, none⟩)), (4, .pointer (some ⟨b_3, 0, none⟩)), (5, .pointer (some ⟨b_5, 0, none⟩))]) (H' := [⟨41, b_3, [.string (bs r_22.2.S_), .bool r_22.2.Bad]⟩, ⟨40, b_2, [.int .i64 0, .int .u64 0, .int .u64 0, .int .u64 0, .slice none ([] : List T_api_Step).length 0, .int .i64 0, .bool false, .int .i64 0, .bool false, .int .u64 0]⟩, ⟨42, b_5, [.int .i64 r_4.1, .int .u64 r_6.1, .int .u64 r_7.1, .int .u64 r_8.1, .slice A_17 f_16.length c_18, .int .i64 r_20.1, .bool (r_21.1 == 1), .int .i64 r_22.1, .bool false, .int .u64 r_9.1]⟩]) (ps := [b_5 = b_5]) (by kernel_rfl) (And.intro rfl trivial) ?_
    refine GoO.regionEnd ?_
    refine GoO.region' (is := [0, 1, 2, 3, 4]) c37_30e (by kernel_rfl) ?_
    refine GoO.exec (is := [0]) (hs := [.p]) (rest := [1, 2, 3, 4]) (ks := [0, 2, 4, 5, 45]) (env' := [(0, .string (bs s_1)), (2, .pointer (some ⟨b_2, 0, none⟩)), (4, .pointer (some ⟨b_3, 0, none⟩)), (5, .pointer (some ⟨b_5, 0, none⟩)), (45, .pointer (some ⟨b_3, 0, none⟩))]) (H' := [⟨41, b_3, [.string (bs r_22.2.S_), .bool r_22.2.Bad]⟩, ⟨40, b_2, [.int .i64 0, .int .u64 0, .int .u64 0, .int .u64 0, .slice none ([] : List T_api_Step).length 0, .int .i64 0, .bool false, .int .i64 0, .bool false, .int .u64 0]⟩, ⟨42, b_5, [.int .i64 r_4.1, .int .u64 r_6.1, .int .u64 r_7.1, .int .u64 r_8.1, .slice A_17 f_16.length c_18, .int .i64 r_20.1, .bool (r_21.1 == 1), .int .i64 r_22.1, .bool false, .int .u64 r_9.1]⟩]) (ps := []) (by kernel_rfl) trivial ?_
    refine OpTo.go (GoO.call rfl (by kernel_rfl) (by kernel_rfl) (tontineref03_Reader_Up_ok n r_22.2 1 b_3) [[0], [41]] [(41, 1)] [(1, 0)] [] (hks := [1, 2]) (bks := [0]) (by kernel_rfl) (by kernel_rfl) (by kernel_rfl) (.inl rfl) rfl rfl (by kernel_rfl) (by kernel_rfl) _ (fun _ _ => rfl) _ _ (fun _ _ => rfl) (fun _ _ => rfl) (fun _ _ => by kernel_rfl) (fun _ _ => by kernel_rfl) (fun r_23 x_24 => ?_))
    refine GoO.shape (env' := [(0, .string (bs s_1)), (2, .pointer (some ⟨b_2, 0, none⟩)), (4, .pointer (some ⟨b_3, 0, none⟩)), (5, .pointer (some ⟨b_5, 0, none⟩)), (45, .pointer (some ⟨b_3, 0, none⟩)), (46, .int .i64 r_23.1)]) (H' := [⟨41, b_3, [.string (bs r_23.2.S_), .bool r_23.2.Bad]⟩, ⟨40, b_2, [.int .i64 0, .int .u64 0, .int .u64 0, .int .u64 0, .slice none ([] : List T_api_Step).length 0, .int .i64 0, .bool false, .int .i64 0, .bool false, .int .u64 0]⟩, ⟨42, b_5, [.int .i64 r_4.1, .int .u64 r_6.1, .int .u64 r_7.1, .int .u64 r_8.1, .slice A_17 f_16.length c_18, .int .i64 r_20.1, .bool (r_21.1 == 1), .int .i64 r_22.1, .bool false, .int .u64 r_9.1]⟩]) (B' := [Ow 43 kT_api_Step A_17 c_18 f_16]) (ks := [0, 2, 4, 5, 45, 46]) (by kernel_rfl) (by kernel_rfl) (by kernel_rfl) ?_
    refine GoO.exec (is := [2, 3, 4]) (hs := [.p, .p, .b 2]) (rest := []) (ks := [0, 2, 4, 5]) (env' := [(0, .string (bs s_1)), (2, .pointer (some ⟨b_2, 0, none⟩)), (4, .pointer (some ⟨b_3, 0, none⟩)), (5, .pointer (some ⟨b_5, 0, none⟩))]) (H' := [⟨41, b_3, [.string (bs r_23.2.S_), .bool r_23.2.Bad]⟩, ⟨40, b_2, [.int .i64 0, .int .u64 0, .int .u64 0, .int .u64 0, .slice none ([] : List T_api_Step).length 0, .int .i64 0, .bool false, .int .i64 0, .bool false, .int .u64 0]⟩, ⟨42, b_5, [.int .i64 r_4.1, .int .u64 r_6.1, .int .u64 r_7.1, .int .u64 r_8.1, .slice A_17 f_16.length c_18, .int .i64 r_20.1, .bool (r_21.1 == 1), .int .i64 r_22.1, .bool (r_23.1 == 1), .int .u64 r_9.1]⟩]) (ps := [b_5 = b_5]) (by kernel_rfl) (And.intro rfl trivial) ?_
    refine GoO.regionEnd ?_
    exact GoO.sub (ks := [0, 2, 4, 5]) (hk := [1, 0, 2]) (bk := [0]) (by kernel_rfl) (by kernel_rfl) (by kernel_rfl) (tontineref16_Decode_j1_ok n s_1 r_4 r_6 r_7 r_8 r_9 f_16 b_2 b_3 b_5 A_17 c_18 w0 S0 r_23.2.S_ r_23.2.Bad r_20.1 (r_21.1 == 1) r_22.1 (r_23.1 == 1))
  · refine GoO.skip' c37_31e ?_
    exact GoO.sub (ks := [0, 2, 4, 5]) (hk := [0, 1, 2]) (bk := [0]) (by kernel_rfl) (by kernel_rfl) (by kernel_rfl) (tontineref16_Decode_j1_ok n s_1 r_4 r_6 r_7 r_8 r_9 f_16 b_2 b_3 b_5 A_17 c_18 w0 S0 f_14 f_15 0 false 0 false)
theorem tontineref16_Decode_ok (n : Nat) (s_1 : (List UInt8)) :
    Meets Try.prog 37 [.string (bs s_1)] 0 [] [] [] (tontineref16_Decode.f n s_1) (tontineref16_Decode.R) := by
  refine Meets.of (c := c37_0) (n := 76) Try.func37 (by kernel_rfl) (by kernel_rfl) (by kernel_rfl) fun w0 S0 => ?_
  unfold tontineref16_Decode.f
  show GoO (tontineref16_Decode.cx w0 S0) [(0, .string (bs s_1))] [] [] [.code c37_0] _
  refine GoO.seq' c37_0e ?_
  refine GoO.region' (is := [0, 1]) c37_1e (by kernel_rfl) ?_
  refine OpTo.go (GoO.new rfl 40 (cs := [.int .i64 0, .int .u64 0, .int .u64 0, .int .u64 0, .slice none ([] : List T_api_Step).length 0, .int .i64 0, .bool false, .int .i64 0, .bool false, .int .u64 0]) (by kernel_rfl) _ (fun _ => rfl) (fun b_2 => ?_))
  refine GoO.exec (is := [1]) (hs := [.p]) (rest := []) (ks := [0, 2]) (env' := [(0, .string (bs s_1)), (2, .pointer (some ⟨b_2, 0, none⟩))]) (H' := [⟨40, b_2, [.int .i64 0, .int .u64 0, .int .u64 0, .int .u64 0, .slice none ([] : List T_api_Step).length 0, .int .i64 0, .bool false, .int .i64 0, .bool false, .int .u64 0]⟩]) (ps := []) (by kernel_rfl) trivial ?_
  refine GoO.regionEnd ?_
  refine GoO.seq' c37_2e ?_
  refine GoO.region' (is := [0, 1, 2, 3]) c37_3e (by kernel_rfl) ?_
  refine GoO.exec (is := [0, 1]) (hs := [.p, .p]) (rest := [2, 3]) (ks := [0, 2, 9]) (env' := [(0, .string (bs s_1)), (2, .pointer (some ⟨b_2, 0, none⟩)), (9, .agg ⟨[.string (bs s_1), .bool false]⟩)]) (H' := [⟨40, b_2, [.int .i64 0, .int .u64 0, .int .u64 0, .int .u64 0, .slice none ([] : List T_api_Step).length 0, .int .i64 0, .bool false, .int .i64 0, .bool false, .int .u64 0]⟩]) (ps := []) (by kernel_rfl) trivial ?_
  refine OpTo.go (GoO.new rfl 41 (cs := [.string (bs s_1), .bool false]) (by kernel_rfl) _ (fun _ => rfl) (fun b_3 => ?_))
  refine GoO.exec (is := [3]) (hs := [.p]) (rest := []) (ks := [0, 2, 4]) (env' := [(0, .string (bs s_1)), (2, .pointer (some ⟨b_2, 0, none⟩)), (4, .pointer (some ⟨b_3, 0, none⟩))]) (H' := [⟨41, b_3, [.string (bs s_1), .bool false]⟩, ⟨40, b_2, [.int .i64 0, .int .u64 0, .int .u64 0, .int .u64 0, .slice none ([] : List T_api_Step).length 0, .int .i64 0, .bool false, .int .i64 0, .bool false, .int .u64 0]⟩]) (ps := []) (by kernel_rfl) trivial ?_
  refine GoO.regionEnd ?_
  refine GoO.seq' c37_4e ?_
  refine GoO.region' (is := [0, 1, 2, 3, 4]) c37_5e (by kernel_rfl) ?_
  refine GoO.exec (is := [0]) (hs := [.p]) (rest := [1, 2, 3, 4]) (ks := [0, 2, 4, 11]) (env' := [(0, .string (bs s_1)), (2, .pointer (some ⟨b_2, 0, none⟩)), (4, .pointer (some ⟨b_3, 0, none⟩)), (11, .pointer (some ⟨b_3, 0, none⟩))]) (H' := [⟨41, b_3, [.string (bs s_1), .bool false]⟩, ⟨40, b_2, [.int .i64 0, .int .u64 0, .int .u64 0, .int .u64 0, .slice none ([] : List T_api_Step).length 0, .int .i64 0, .bool false, .int .i64 0, .bool false, .int .u64 0]⟩]) (ps := []) (by kernel_rfl) trivial ?_
  refine OpTo.go (GoO.call rfl (by kernel_rfl) (by kernel_rfl) (tontineref03_Reader_Up_ok n (⟨s_1, false⟩ : T_tontineref03_Reader) 5 b_3) [[0], [41]] [(41, 1)] [(1, 0)] [] (hks := [1]) (bks := []) (by kernel_rfl) (by kernel_rfl) (by kernel_rfl) (.inl rfl) rfl rfl (by kernel_rfl) (by kernel_rfl) _ (fun _ _ => rfl) _ _ (fun _ _ => rfl) (fun _ _ => rfl) (fun _ _ => by kernel_rfl) (fun _ _ => by kernel_rfl) (fun r_4 x_41 => ?_))
  refine GoO.shape (env' := [(0, .string (bs s_1)), (2, .pointer (some ⟨b_2, 0, none⟩)), (4, .pointer (some ⟨b_3, 0, none⟩)), (11, .pointer (some ⟨b_3, 0, none⟩)), (12, .int .i64 r_4.1)]) (H' := [⟨41, b_3, [.string (bs r_4.2.S_), .bool r_4.2.Bad]⟩, ⟨40, b_2, [.int .i64 0, .int .u64 0, .int .u64 0, .int .u64 0, .slice none ([] : List T_api_Step).length 0, .int .i64 0, .bool false, .int .i64 0, .bool false, .int .u64 0]⟩]) (B' := []) (ks := [0, 2, 4, 11, 12]) (by kernel_rfl) (by kernel_rfl) (by kernel_rfl) ?_
  refine GoO.exec (is := [2]) (hs := [.p]) (rest := [3, 4]) (ks := [0, 2, 4, 13]) (env' := [(0, .string (bs s_1)), (2, .pointer (some ⟨b_2, 0, none⟩)), (4, .pointer (some ⟨b_3, 0, none⟩)), (13, .agg ⟨[.int .i64 r_4.1, .int .u64 0, .int .u64 0, .int .u64 0, .slice none ([] : List T_api_Step).length 0, .int .i64 0, .bool false, .int .i64 0, .bool false, .int .u64 0]⟩)]) (H' := [⟨41, b_3, [.string (bs r_4.2.S_), .bool r_4.2.Bad]⟩, ⟨40, b_2, [.int .i64 0, .int .u64 0, .int .u64 0, .int .u64 0, .slice none ([] : List T_api_Step).length 0, .int .i64 0, .bool false, .int .i64 0, .bool false, .int .u64 0]⟩]) (ps := []) (by kernel_rfl) trivial ?_
  refine OpTo.go (GoO.new rfl 42 (cs := [.int .i64 0, .int .u64 0, .int .u64 0, .int .u64 0, .slice none ([] : List T_api_Step).length 0, .int .i64 0, .bool false, .int .i64 0, .bool false, .int .u64 0]) (by kernel_rfl) _ (fun _ => rfl) (fun b_5 => ?_))
  refine GoO.exec (is := [4]) (hs := [.b 0]) (rest := []) (ks := [0, 2, 4, 5]) (env' := [(0, .string (bs s_1)), (2, .pointer (some ⟨b_2, 0, none⟩)), (4, .pointer (some ⟨b_3, 0, none⟩)), (5, .pointer (some ⟨b_5, 0, none⟩))]) (H' := [⟨42, b_5, [.int .i64 r_4.1, .int .u64 0, .int .u64 0, .int .u64 0, .slice none ([] : List T_api_Step).length 0, .int .i64 0, .bool false, .int .i64 0, .bool false, .int .u64 0]⟩, ⟨41, b_3, [.string (bs r_4.2.S_), .bool r_4.2.Bad]⟩, ⟨40, b_2, [.int .i64 0, .int .u64 0, .int .u64 0, .int .u64 0, .slice none ([] : List T_api_Step).length 0, .int .i64 0, .bool false, .int .i64 0, .bool false, .int .u64 0]⟩]) (ps := [b_5 = b_5]) (by kernel_rfl) (And.intro rfl trivial) ?_
  refine GoO.regionEnd ?_
  refine GoO.seq' c37_6e ?_
  refine GoO.region' (is := [0, 1, 2, 3]) c37_7e (by kernel_rfl) ?_
  refine GoO.exec (is := [0]) (hs := [.p]) (rest := [1, 2, 3]) (ks := [0, 2, 4, 5, 14]) (env' := [(0, .string (bs s_1)), (2, .pointer (some ⟨b_2, 0, none⟩)), (4, .pointer (some ⟨b_3, 0, none⟩)), (5, .pointer (some ⟨b_5, 0, none⟩)), (14, .pointer (some ⟨b_3, 0, none⟩))]) (H' := [⟨42, b_5, [.int .i64 r_4.1, .int .u64 0, .int .u64 0, .int .u64 0, .slice none ([] : List T_api_Step).length 0, .int .i64 0, .bool false, .int .i64 0, .bool false, .int .u64 0]⟩, ⟨41, b_3, [.string (bs r_4.2.S_), .bool r_4.2.Bad]⟩, ⟨40, b_2, [.int .i64 0, .int .u64 0, .int .u64 0, .int .u64 0, .slice none ([] : List T_api_Step).length 0, .int .i64 0, .bool false, .int .i64 0, .bool false, .int .u64 0]⟩]) (ps := []) (by kernel_rfl) trivial ?_
  refine OpTo.go (GoO.call rfl (by kernel_rfl) (by kernel_rfl) (tontineref03_Reader_Num_ok n r_4.2 b_3) [[0], [41]] [(41, 1)] [(1, 1)] [] (hks := [0, 2]) (bks := []) (by kernel_rfl) (by kernel_rfl) (by kernel_rfl) (.inl rfl) rfl rfl (by kernel_rfl) (by kernel_rfl) _ (fun _ _ => rfl) _ _ (fun _ _ => rfl) (fun _ _ => rfl) (fun _ _ => by kernel_rfl) (fun _ _ => by kernel_rfl) (fun r_6 x_40 => ?_))
  refine GoO.shape (env' := [(0, .string (bs s_1)), (2, .pointer (some ⟨b_2, 0, none⟩)), (4, .pointer (some ⟨b_3, 0, none⟩)), (5, .pointer (some ⟨b_5, 0, none⟩)), (14, .pointer (some ⟨b_3, 0, none⟩)), (15, .int .u64 r_6.1)]) (H' := [⟨41, b_3, [.string (bs r_6.2.S_), .bool r_6.2.Bad]⟩, ⟨42, b_5, [.int .i64 r_4.1, .int .u64 0, .int .u64 0, .int .u64 0, .slice none ([] : List T_api_Step).length 0, .int .i64 0, .bool false, .int .i64 0, .bool false, .int .u64 0]⟩, ⟨40, b_2, [.int .i64 0, .int .u64 0, .int .u64 0, .int .u64 0, .slice none ([] : List T_api_Step).length 0, .int .i64 0, .bool false, .int .i64 0, .bool false, .int .u64 0]⟩]) (B' := []) (ks := [0, 2, 4, 5, 14, 15]) (by kernel_rfl) (by kernel_rfl) (by kernel_rfl) ?_
  refine GoO.exec (is := [2, 3]) (hs := [.p, .b 1]) (rest := []) (ks := [0, 2, 4, 5]) (env' := [(0, .string (bs s_1)), (2, .pointer (some ⟨b_2, 0, none⟩)), (4, .pointer (some ⟨b_3, 0, none⟩)), (5, .pointer (some ⟨b_5, 0, none⟩))]) (H' := [⟨41, b_3, [.string (bs r_6.2.S_), .bool r_6.2.Bad]⟩, ⟨42, b_5, [.int .i64 r_4.1, .int .u64 r_6.1, .int .u64 0, .int .u64 0, .slice none ([] : List T_api_Step).length 0, .int .i64 0, .bool false, .int .i64 0, .bool false, .int .u64 0]⟩, ⟨40, b_2, [.int .i64 0, .int .u64 0, .int .u64 0, .int .u64 0, .slice none ([] : List T_api_Step).length 0, .int .i64 0, .bool false, .int .i64 0, .bool false, .int .u64 0]⟩]) (ps := [b_5 = b_5]) (by kernel_rfl) (And.intro rfl trivial) ?_
  refine GoO.regionEnd ?_
  refine GoO.seq' c37_8e ?_
  refine GoO.region' (is := [0, 1, 2, 3]) c37_9e (by kernel_rfl) ?_
  refine GoO.exec (is := [0]) (hs := [.p]) (rest := [1, 2, 3]) (ks := [0, 2, 4, 5, 17]) (env' := [(0, .string (bs s_1)), (2, .pointer (some ⟨b_2, 0, none⟩)), (4, .pointer (some ⟨b_3, 0, none⟩)), (5, .pointer (some ⟨b_5, 0, none⟩)), (17, .pointer (some ⟨b_3, 0, none⟩))]) (H' := [⟨41, b_3, [.string (bs r_6.2.S_), .bool r_6.2.Bad]⟩, ⟨42, b_5, [.int .i64 r_4.1, .int .u64 r_6.1, .int .u64 0, .int .u64 0, .slice none ([] : List T_api_Step).length 0, .int .i64 0, .bool false, .int .i64 0, .bool false, .int .u64 0]⟩, ⟨40, b_2, [.int .i64 0, .int .u64 0, .int .u64 0, .int .u64 0, .slice none ([] : List T_api_Step).length 0, .int .i64 0, .bool false, .int .i64 0, .bool false, .int .u64 0]⟩]) (ps := []) (by kernel_rfl) trivial ?_
  refine OpTo.go (GoO.call rfl (by kernel_rfl) (by kernel_rfl) (tontineref03_Reader_Num_ok n r_6.2 b_3) [[0], [41]] [(41, 1)] [(1, 0)] [] (hks := [1, 2]) (bks := []) (by kernel_rfl) (by kernel_rfl) (by kernel_rfl) (.inl rfl) rfl rfl (by kernel_rfl) (by kernel_rfl) _ (fun _ _ => rfl) _ _ (fun _ _ => rfl) (fun _ _ => rfl) (fun _ _ => by kernel_rfl) (fun _ _ => by kernel_rfl) (fun r_7 x_39 => ?_))
  refine GoO.shape (env' := [(0, .string (bs s_1)), (2, .pointer (some ⟨b_2, 0, none⟩)), (4, .pointer (some ⟨b_3, 0, none⟩)), (5, .pointer (some ⟨b_5, 0, none⟩)), (17, .pointer (some ⟨b_3, 0, none⟩)), (18, .int .u64 r_7.1)]) (H' := [⟨41, b_3, [.string (bs r_7.2.S_), .bool r_7.2.Bad]⟩, ⟨42, b_5, [.int .i64 r_4.1, .int .u64 r_6.1, .int .u64 0, .int .u64 0, .slice none ([] : List T_api_Step).length 0, .int .i64 0, .bool false, .int .i64 0, .bool false, .int .u64 0]⟩, ⟨40, b_2, [.int .i64 0, .int .u64 0, .int .u64 0, .int .u64 0, .slice none ([] : List T_api_Step).length 0, .int .i64 0, .bool false, .int .i64 0, .bool false, .int .u64 0]⟩]) (B' := []) (ks := [0, 2, 4, 5, 17, 18]) (by kernel_rfl) (by kernel_rfl) (by kernel_rfl) ?_
  refine GoO.exec (is := [2, 3]) (hs := [.p, .b 1]) (rest := []) (ks := [0, 2, 4, 5]) (env' := [(0, .string (bs s_1)), (2, .pointer (some ⟨b_2, 0, none⟩)), (4, .pointer (some ⟨b_3, 0, none⟩)), (5, .pointer (some ⟨b_5, 0, none⟩))]) (H' := [⟨41, b_3, [.string (bs r_7.2.S_), .bool r_7.2.Bad]⟩, ⟨42, b_5, [.int .i64 r_4.1, .int .u64 r_6.1, .int .u64 r_7.1, .int .u64 0, .slice none ([] : List T_api_Step).length 0, .int .i64 0, .bool false, .int .i64 0, .bool false, .int .u64 0]⟩, ⟨40, b_2, [.int .i64 0, .int .u64 0, .int .u64 0, .int .u64 0, .slice none ([] : List T_api_Step).length 0, .int .i64 0, .bool false, .int .i64 0, .bool false, .int .u64 0]⟩]) (ps := [b_5 = b_5]) (by kernel_rfl) (And.intro rfl trivial) ?_
  refine GoO.regionEnd ?_
  refine GoO.seq' c37_10e ?_
  refine GoO.region' (is := [0, 1, 2, 3]) c37_11e (by kernel_rfl) ?_
  refine GoO.exec (is := [0]) (hs := [.p]) (rest := [1, 2, 3]) (ks := [0, 2, 4, 5, 20]) (env' := [(0, .string (bs s_1)), (2, .pointer (some ⟨b_2, 0, none⟩)), (4, .pointer (some ⟨b_3, 0, none⟩)), (5, .pointer (some ⟨b_5, 0, none⟩)), (20, .pointer (some ⟨b_3, 0, none⟩))]) (H' := [⟨41, b_3, [.string (bs r_7.2.S_), .bool r_7.2.Bad]⟩, ⟨42, b_5, [.int .i64 r_4.1, .int .u64 r_6.1, .int .u64 r_7.1, .int .u64 0, .slice none ([] : List T_api_Step).length 0, .int .i64 0, .bool false, .int .i64 0, .bool false, .int .u64 0]⟩, ⟨40, b_2, [.int .i64 0, .int .u64 0, .int .u64 0, .int .u64 0, .slice none ([] : List T_api_Step).length 0, .int .i64 0, .bool false, .int .i64 0, .bool false, .int .u64 0]⟩]) (ps := []) (by kernel_rfl) trivial ?_
  refine OpTo.go (GoO.call rfl (by kernel_rfl) (by kernel_rfl) (tontineref03_Reader_Num_ok n r_7.2 b_3) [[0], [41]] [(41, 1)] [(1, 0)] [] (hks := [1, 2]) (bks := []) (by kernel_rfl) (by kernel_rfl) (by kernel_rfl) (.inl rfl) rfl rfl (by kernel_rfl) (by kernel_rfl) _ (fun _ _ => rfl) _ _ (fun _ _ => rfl) (fun _ _ => rfl) (fun _ _ => by kernel_rfl) (fun _ _ => by kernel_rfl) (fun r_8 x_38 => ?_))
  refine GoO.shape (env' := [(0, .string (bs s_1)), (2, .pointer (some ⟨b_2, 0, none⟩)), (4, .pointer (some ⟨b_3, 0, none⟩)), (5, .pointer (some ⟨b_5, 0, none⟩)), (20, .pointer (some ⟨b_3, 0, none⟩)), (21, .int .u64 r_8.1)]) (H' := [⟨41, b_3, [.string (bs r_8.2.S_), .bool r_8.2.Bad]⟩, ⟨42, b_5, [.int .i64 r_4.1, .int .u64 r_6.1, .int .u64 r_7.1, .int .u64 0, .slice none ([] : List T_api_Step).length 0, .int .i64 0, .bool false, .int .i64 0, .bool false, .int .u64 0]⟩, ⟨40, b_2, [.int .i64 0, .int .u64 0, .int .u64 0, .int .u64 0, .slice none ([] : List T_api_Step).length 0, .int .i64 0, .bool false, .int .i64 0, .bool false, .int .u64 0]⟩]) (B' := []) (ks := [0, 2, 4, 5, 20, 21]) (by kernel_rfl) (by kernel_rfl) (by kernel_rfl) ?_
  refine GoO.exec (is := [2, 3]) (hs := [.p, .b 1]) (rest := []) (ks := [0, 2, 4, 5]) (env' := [(0, .string (bs s_1)), (2, .pointer (some ⟨b_2, 0, none⟩)), (4, .pointer (some ⟨b_3, 0, none⟩)), (5, .pointer (some ⟨b_5, 0, none⟩))]) (H' := [⟨41, b_3, [.string (bs r_8.2.S_), .bool r_8.2.Bad]⟩, ⟨42, b_5, [.int .i64 r_4.1, .int .u64 r_6.1, .int .u64 r_7.1, .int .u64 r_8.1, .slice none ([] : List T_api_Step).length 0, .int .i64 0, .bool false, .int .i64 0, .bool false, .int .u64 0]⟩, ⟨40, b_2, [.int .i64 0, .int .u64 0, .int .u64 0, .int .u64 0, .slice none ([] : List T_api_Step).length 0, .int .i64 0, .bool false, .int .i64 0, .bool false, .int .u64 0]⟩]) (ps := [b_5 = b_5]) (by kernel_rfl) (And.intro rfl trivial) ?_
  refine GoO.regionEnd ?_
  refine GoO.seq' c37_12e ?_
  refine GoO.region' (is := [0, 1, 2, 3]) c37_13e (by kernel_rfl) ?_
  refine GoO.exec (is := [0]) (hs := [.p]) (rest := [1, 2, 3]) (ks := [0, 2, 4, 5, 23]) (env' := [(0, .string (bs s_1)), (2, .pointer (some ⟨b_2, 0, none⟩)), (4, .pointer (some ⟨b_3, 0, none⟩)), (5, .pointer (some ⟨b_5, 0, none⟩)), (23, .pointer (some ⟨b_3, 0, none⟩))]) (H' := [⟨41, b_3, [.string (bs r_8.2.S_), .bool r_8.2.Bad]⟩, ⟨42, b_5, [.int .i64 r_4.1, .int .u64 r_6.1, .int .u64 r_7.1, .int .u64 r_8.1, .slice none ([] : List T_api_Step).length 0, .int .i64 0, .bool false, .int .i64 0, .bool false, .int .u64 0]⟩, ⟨40, b_2, [.int .i64 0, .int .u64 0, .int .u64 0, .int .u64 0, .slice none ([] : List T_api_Step).length 0, .int .i64 0, .bool false, .int .i64 0, .bool false, .int .u64 0]⟩]) (ps := []) (by kernel_rfl) trivial ?_
  refine OpTo.go (GoO.call rfl (by kernel_rfl) (by kernel_rfl) (tontineref03_Reader_Num_ok n r_8.2 b_3) [[0], [41]] [(41, 1)] [(1, 0)] [] (hks := [1, 2]) (bks := []) (by kernel_rfl) (by kernel_rfl) (by kernel_rfl) (.inl rfl) rfl rfl (by kernel_rfl) (by kernel_rfl) _ (fun _ _ => rfl) _ _ (fun _ _ => rfl) (fun _ _ => rfl) (fun _ _ => by kernel_rfl) (fun _ _ => by kernel_rfl) (fun r_9 x_37 => ?_))
  refine GoO.shape (env' := [(0, .string (bs s_1)), (2, .pointer (some ⟨b_2, 0, none⟩)), (4, .pointer (some ⟨b_3, 0, none⟩)), (5, .pointer (some ⟨b_5, 0, none⟩)), (23, .pointer (some ⟨b_3, 0, none⟩)), (24, .int .u64 r_9.1)]) (H' := [⟨41, b_3, [.string (bs r_9.2.S_), .bool r_9.2.Bad]⟩, ⟨42, b_5, [.int .i64 r_4.1, .int .u64 r_6.1, .int .u64 r_7.1, .int .u64 r_8.1, .slice none ([] : List T_api_Step).length 0, .int .i64 0, .bool false, .int .i64 0, .bool false, .int .u64 0]⟩, ⟨40, b_2, [.int .i64 0, .int .u64 0, .int .u64 0, .int .u64 0, .slice none ([] : List T_api_Step).length 0, .int .i64 0, .bool false, .int .i64 0, .bool false, .int .u64 0]⟩]) (B' := []) (ks := [0, 2, 4, 5, 23, 24]) (by kernel_rfl) (by kernel_rfl) (by kernel_rfl) ?_
  refine GoO.exec (is := [2, 3]) (hs := [.p, .b 1]) (rest := []) (ks := [0, 2, 4, 5]) (env' := [(0, .string (bs s_1)), (2, .pointer (some ⟨b_2, 0, none⟩)), (4, .pointer (some ⟨b_3, 0, none⟩)), (5, .pointer (some ⟨b_5, 0, none⟩))]) (H' := [⟨41, b_3, [.string (bs r_9.2.S_), .bool r_9.2.Bad]⟩, ⟨42, b_5, [.int .i64 r_4.1, .int .u64 r_6.1, .int .u64 r_7.1, .int .u64 r_8.1, .slice none ([] : List T_api_Step).length 0, .int .i64 0, .bool false, .int .i64 0, .bool false, .int .u64 r_9.1]⟩, ⟨40, b_2, [.int .i64 0, .int .u64 0, .int .u64 0, .int .u64 0, .slice none ([] : List T_api_Step).length 0, .int .i64 0, .bool false, .int .i64 0, .bool false, .int .u64 0]⟩]) (ps := [b_5 = b_5]) (by kernel_rfl) (And.intro rfl trivial) ?_
  refine GoO.regionEnd ?_
  refine GoO.seq' c37_14e ?_
  refine GoO.seq' c37_15e ?_
  refine GoO.region' (is := [0, 1, 2]) c37_16e (by kernel_rfl) ?_
  refine GoO.exec (is := [0, 1, 2]) (hs := [.p, .b 1, .p]) (rest := []) (ks := [0, 2, 4, 5, 28]) (env' := [(0, .string (bs s_1)), (2, .pointer (some ⟨b_2, 0, none⟩)), (4, .pointer (some ⟨b_3, 0, none⟩)), (5, .pointer (some ⟨b_5, 0, none⟩)), (28, .bool (r_4.1 == 2))]) (H' := [⟨41, b_3, [.string (bs r_9.2.S_), .bool r_9.2.Bad]⟩, ⟨42, b_5, [.int .i64 r_4.1, .int .u64 r_6.1, .int .u64 r_7.1, .int .u64 r_8.1, .slice none ([] : List T_api_Step).length 0, .int .i64 0, .bool false, .int .i64 0, .bool false, .int .u64 r_9.1]⟩, ⟨40, b_2, [.int .i64 0, .int .u64 0, .int .u64 0, .int .u64 0, .slice none ([] : List T_api_Step).length 0, .int .i64 0, .bool false, .int .i64 0, .bool false, .int .u64 0]⟩]) (ps := [b_5 = b_5]) (by kernel_rfl) (And.intro rfl trivial) ?_
  refine GoO.regionEnd ?_
  refine GoO.ite' c37_17e (by kernel_rfl) (fun h10 => ?_) (fun h10 => ?_)
  · refine GoO.region' (is := [0, 1, 2, 3]) c37_18e (by kernel_rfl) ?_
    refine GoO.exec (is := [0]) (hs := [.p]) (rest := [1, 2, 3]) (ks := [0, 2, 4, 5, 29]) (env' := [(0, .string (bs s_1)), (2, .pointer (some ⟨b_2, 0, none⟩)), (4, .pointer (some ⟨b_3, 0, none⟩)), (5, .pointer (some ⟨b_5, 0, none⟩)), (29, .pointer (some ⟨b_3, 0, none⟩))]) (H' := [⟨41, b_3, [.string (bs r_9.2.S_), .bool r_9.2.Bad]⟩, ⟨42, b_5, [.int .i64 r_4.1, .int .u64 r_6.1, .int .u64 r_7.1, .int .u64 r_8.1, .slice none ([] : List T_api_Step).length 0, .int .i64 0, .bool false, .int .i64 0, .bool false, .int .u64 r_9.1]⟩, ⟨40, b_2, [.int .i64 0, .int .u64 0, .int .u64 0, .int .u64 0, .slice none ([] : List T_api_Step).length 0, .int .i64 0, .bool false, .int .i64 0, .bool false, .int .u64 0]⟩]) (ps := []) (by kernel_rfl) trivial ?_
    refine OpTo.go (GoO.call rfl (by kernel_rfl) (by kernel_rfl) (tontineref13_Read_ok n r_9.2 b_3) [[0], [41]] [(41, 1), (43, 2)] [(1, 0)] [] (hks := [1, 2]) (bks := []) (by kernel_rfl) (by kernel_rfl) (by kernel_rfl) (.inl rfl) rfl rfl (by kernel_rfl) (by kernel_rfl) _ (fun _ _ => rfl) _ _ (fun _ _ => rfl) (fun _ _ => rfl) (fun _ _ => by kernel_rfl) (fun _ _ => by kernel_rfl) (fun r_11 x_14 => ?_))
    obtain ⟨A_12, c_13⟩ := x_14
    refine GoO.shape (env' := [(0, .string (bs s_1)), (2, .pointer (some ⟨b_2, 0, none⟩)), (4, .pointer (some ⟨b_3, 0, none⟩)), (5, .pointer (some ⟨b_5, 0, none⟩)), (29, .pointer (some ⟨b_3, 0, none⟩)), (30, .slice A_12 r_11.1.length c_13)]) (H' := [⟨41, b_3, [.string (bs r_11.2.S_), .bool r_11.2.Bad]⟩, ⟨42, b_5, [.int .i64 r_4.1, .int .u64 r_6.1, .int .u64 r_7.1, .int .u64 r_8.1, .slice none ([] : List T_api_Step).length 0, .int .i64 0, .bool false, .int .i64 0, .bool false, .int .u64 r_9.1]⟩, ⟨40, b_2, [.int .i64 0, .int .u64 0, .int .u64 0, .int .u64 0, .slice none ([] : List T_api_Step).length 0, .int .i64 0, .bool false, .int .i64 0, .bool false, .int .u64 0]⟩]) (B' := [Ow 43 kT_api_Step A_12 c_13 r_11.1]) (ks := [0, 2, 4, 5, 29, 30]) (by kernel_rfl) (by kernel_rfl) (by kernel_rfl) ?_
    refine GoO.exec (is := [2, 3]) (hs := [.p, .b 1]) (rest := []) (ks := [0, 2, 4, 5]) (env' := [(0, .string (bs s_1)), (2, .pointer (some ⟨b_2, 0, none⟩)), (4, .pointer (some ⟨b_3, 0, none⟩)), (5, .pointer (some ⟨b_5, 0, none⟩))]) (H' := [⟨41, b_3, [.string (bs r_11.2.S_), .bool r_11.2.Bad]⟩, ⟨42, b_5, [.int .i64 r_4.1, .int .u64 r_6.1, .int .u64 r_7.1, .int .u64 r_8.1, .slice A_12 r_11.1.length c_13, .int .i64 0, .bool false, .int .i64 0, .bool false, .int .u64 r_9.1]⟩, ⟨40, b_2, [.int .i64 0, .int .u64 0, .int .u64 0, .int .u64 0, .slice none ([] : List T_api_Step).length 0, .int .i64 0, .bool false, .int .i64 0, .bool false, .int .u64 0]⟩]) (ps := [b_5 = b_5]) (by kernel_rfl) (And.intro rfl trivial) ?_
    refine GoO.regionEnd ?_
    exact GoO.sub (ks := [0, 2, 4, 5]) (hk := [2, 0, 1]) (bk := [0]) (by kernel_rfl) (by kernel_rfl) (by kernel_rfl) (tontineref16_Decode_j0_ok n s_1 r_4 r_6 r_7 r_8 r_9 b_2 b_3 b_5 w0 S0 r_11.2.S_ r_11.2.Bad r_11.1 A_12 c_13)
  · refine GoO.skip' c37_19e ?_
    refine GoO.nilOwn kT_api_Step 43 ?_
    exact GoO.sub (ks := [0, 2, 4, 5]) (hk := [2, 0, 1]) (bk := [0]) (by kernel_rfl) (by kernel_rfl) (by kernel_rfl) (tontineref16_Decode_j0_ok n s_1 r_4 r_6 r_7 r_8 r_9 b_2 b_3 b_5 w0 S0 r_9.2.S_ r_9.2.Bad ([] : List T_api_Step) none 0)

/-! (*tontine/client.Client).Give -/
noncomputable def c38_0 : Code := bodyOf Try.f38
noncomputable def c38_1 : Code := cdL c38_0
noncomputable def c38_2 : Code := cdR c38_0
noncomputable def c38_3 : Code := cdL c38_2
noncomputable def c38_4 : Code := cdL c38_3
noncomputable def c38_5 : Code := cdR c38_3
noncomputable def c38_6 : Code := cdL c38_5
noncomputable def c38_7 : Code := cdL c38_6
noncomputable def c38_8 : Code := cdR c38_6
noncomputable def c38_9 : Code := cdR c38_5
noncomputable def c38_10 : Code := cdR c38_2
noncomputable def c38_11 : Code := cdL c38_10
noncomputable def c38_12 : Code := cdR c38_10
noncomputable def c38_13 : Code := cdL c38_12
noncomputable def c38_14 : Code := cdR c38_12
noncomputable def c38_15 : Code := cdL c38_14
noncomputable def c38_16 : Code := cdR c38_14
noncomputable def r38_1 : Array Oper := cdO c38_1
noncomputable def r38_4 : Array Oper := cdO c38_4
noncomputable def r38_7 : Array Oper := cdO c38_7
noncomputable def r38_11 : Array Oper := cdO c38_11
noncomputable def r38_13 : Array Oper := cdO c38_13
noncomputable def r38_15 : Array Oper := cdO c38_15
theorem c38_0e : c38_0 = .seq c38_1 c38_2 := by kernel_rfl
theorem c38_1e : c38_1 = .region 0 r38_1 false := by kernel_rfl
theorem c38_2e : c38_2 = .seq c38_3 c38_10 := by kernel_rfl
theorem c38_3e : c38_3 = .seq c38_4 c38_5 := by kernel_rfl
theorem c38_4e : c38_4 = .region 1 r38_4 false := by kernel_rfl
theorem c38_5e : c38_5 = .cond (cdC c38_5) c38_6 c38_9 := by kernel_rfl
theorem c38_6e : c38_6 = .seq c38_7 c38_8 := by kernel_rfl
theorem c38_7e : c38_7 = .region 2 r38_7 false := by kernel_rfl
theorem c38_8e : c38_8 = .ret := by kernel_rfl
theorem c38_9e : c38_9 = .skip := by kernel_rfl
theorem c38_10e : c38_10 = .seq c38_11 c38_12 := by kernel_rfl
theorem c38_11e : c38_11 = .region 3 r38_11 false := by kernel_rfl
theorem c38_12e : c38_12 = .seq c38_13 c38_14 := by kernel_rfl
theorem c38_13e : c38_13 = .region 4 r38_13 false := by kernel_rfl
theorem c38_14e : c38_14 = .seq c38_15 c38_16 := by kernel_rfl
theorem c38_15e : c38_15 = .region 5 r38_15 false := by kernel_rfl
theorem c38_16e : c38_16 = .ret := by kernel_rfl
noncomputable def client_Client_Give.R (b_2 : Nat) (A_3 : Option Addr) (c_4 : Nat) : Pst (Int × T_client_Client) where
  ε := Option Addr × Nat
  v := fun r x => .int .i64 r.1
  H := fun r x => [⟨1, b_2, [.int .i64 r.2.id, .int .u64 r.2.session, .int .u64 r.2.seq, .int .u64 r.2.call, .bool r.2.busy, .int .i64 r.2.now.Kind, .int .u64 r.2.now.Session, .int .u64 r.2.now.Seq, .int .u64 r.2.now.Saga, .slice x.1 r.2.now.Steps.length x.2, .int .i64 r.2.now.Step, .bool r.2.now.Back, .int .i64 r.2.now.Try, .bool r.2.now.Ok, .int .u64 r.2.now.Now, .string (bs r.2.data), .int .i64 r.2.to_]⟩]
  B := fun r x => [Rd 0 kT_api_Step x.1 x.2 r.2.now.Steps]
noncomputable def client_Client_Give.cx (b_2 : Nat) (A_3 : Option Addr) (c_4 : Nat) (w0 : World) (S0 : Fam) : Cx (Int × T_client_Client) := ⟨Try.prog, 38, Try.f38, 21, w0, S0, [1], 1, client_Client_Give.R b_2 A_3 c_4⟩
theorem client_Client_Give_ok (n : Nat) (c_1 : T_client_Client) (b_2 : Nat) (A_3 : Option Addr) (c_4 : Nat) :
    Meets Try.prog 38 [.pointer (some ⟨b_2, 0, none⟩)] 1 [1] [⟨1, b_2, [.int .i64 c_1.id, .int .u64 c_1.session, .int .u64 c_1.seq, .int .u64 c_1.call, .bool c_1.busy, .int .i64 c_1.now.Kind, .int .u64 c_1.now.Session, .int .u64 c_1.now.Seq, .int .u64 c_1.now.Saga, .slice A_3 c_1.now.Steps.length c_4, .int .i64 c_1.now.Step, .bool c_1.now.Back, .int .i64 c_1.now.Try, .bool c_1.now.Ok, .int .u64 c_1.now.Now, .string (bs c_1.data), .int .i64 c_1.to_]⟩] [Rd 0 kT_api_Step A_3 c_4 c_1.now.Steps] (client_Client_Give.f n c_1) (client_Client_Give.R b_2 A_3 c_4) := by
  refine Meets.of (c := c38_0) (n := 21) Try.func38 (by kernel_rfl) (by kernel_rfl) (by kernel_rfl) fun w0 S0 => ?_
  unfold client_Client_Give.f
  show GoO (client_Client_Give.cx b_2 A_3 c_4 w0 S0) [(0, .pointer (some ⟨b_2, 0, none⟩))] [⟨1, b_2, [.int .i64 c_1.id, .int .u64 c_1.session, .int .u64 c_1.seq, .int .u64 c_1.call, .bool c_1.busy, .int .i64 c_1.now.Kind, .int .u64 c_1.now.Session, .int .u64 c_1.now.Seq, .int .u64 c_1.now.Saga, .slice A_3 c_1.now.Steps.length c_4, .int .i64 c_1.now.Step, .bool c_1.now.Back, .int .i64 c_1.now.Try, .bool c_1.now.Ok, .int .u64 c_1.now.Now, .string (bs c_1.data), .int .i64 c_1.to_]⟩] [Rd 0 kT_api_Step A_3 c_4 c_1.now.Steps] [.code c38_0] _
  refine GoO.seq' c38_0e ?_
  refine GoO.region' (is := [0]) c38_1e (by kernel_rfl) ?_
  refine GoO.exec (is := [0]) (hs := [.p]) (rest := []) (ks := [0]) (env' := [(0, .pointer (some ⟨b_2, 0, none⟩))]) (H' := [⟨1, b_2, [.int .i64 c_1.id, .int .u64 c_1.session, .int .u64 c_1.seq, .int .u64 c_1.call, .bool c_1.busy, .int .i64 c_1.now.Kind, .int .u64 c_1.now.Session, .int .u64 c_1.now.Seq, .int .u64 c_1.now.Saga, .slice A_3 c_1.now.Steps.length c_4, .int .i64 c_1.now.Step, .bool c_1.now.Back, .int .i64 c_1.now.Try, .bool c_1.now.Ok, .int .u64 c_1.now.Now, .string (bs c_1.data), .int .i64 c_1.to_]⟩]) (ps := []) (by kernel_rfl) trivial ?_
  refine GoO.regionEnd ?_
  refine GoO.seq' c38_2e ?_
  refine GoO.seq' c38_3e ?_
  refine GoO.region' (is := [0, 1, 2, 3, 4, 5, 6, 7, 8]) c38_4e (by kernel_rfl) ?_
  refine GoO.exec (is := [0, 1, 2, 3, 4, 5, 6, 7, 8]) (hs := [.p, .p, .p, .p, .p, .p, .b 0, .p, .p]) (rest := []) (ks := [0, 11]) (env' := [(0, .pointer (some ⟨b_2, 0, none⟩)), (11, .bool (!c_1.busy))]) (H' := [⟨1, b_2, [.int .i64 c_1.id, .int .u64 c_1.session, .int .u64 c_1.seq, .int .u64 c_1.call, .bool c_1.busy, .int .i64 c_1.now.Kind, .int .u64 c_1.now.Session, .int .u64 c_1.now.Seq, .int .u64 c_1.now.Saga, .slice A_3 c_1.now.Steps.length c_4, .int .i64 c_1.now.Step, .bool c_1.now.Back, .int .i64 c_1.now.Try, .bool c_1.now.Ok, .int .u64 c_1.now.Now, .string (bs c_1.data), .int .i64 c_1.to_]⟩]) (ps := [b_2 = b_2]) (by kernel_rfl) (And.intro rfl trivial) ?_
  refine GoO.regionEnd ?_
  refine GoO.ite' c38_5e (by kernel_rfl) (fun h5 => ?_) (fun h5 => ?_)
  · refine GoO.seq' c38_6e ?_
    refine GoO.region' (is := [0]) c38_7e (by kernel_rfl) ?_
    refine GoO.exec (is := [0]) (hs := [.p]) (rest := []) (ks := [2]) (env' := [(2, .int .i64 1)]) (H' := [⟨1, b_2, [.int .i64 c_1.id, .int .u64 c_1.session, .int .u64 c_1.seq, .int .u64 c_1.call, .bool c_1.busy, .int .i64 c_1.now.Kind, .int .u64 c_1.now.Session, .int .u64 c_1.now.Seq, .int .u64 c_1.now.Saga, .slice A_3 c_1.now.Steps.length c_4, .int .i64 c_1.now.Step, .bool c_1.now.Back, .int .i64 c_1.now.Try, .bool c_1.now.Ok, .int .u64 c_1.now.Now, .string (bs c_1.data), .int .i64 c_1.to_]⟩]) (ps := []) (by kernel_rfl) trivial ?_
    refine GoO.regionEnd ?_
    exact GoO.ret' (h := c38_8e) (hs := []) (ps := []) (hk := [0]) (bk := [0]) Try.func38 (⟨A_3, c_4⟩ : Option Addr × Nat) (by kernel_rfl) trivial (by kernel_rfl) (by kernel_rfl)
  · refine GoO.skip' c38_9e ?_
    refine GoO.seq' c38_10e ?_
    refine GoO.region' (is := [0, 1, 2, 3]) c38_11e (by kernel_rfl) ?_
    refine GoO.exec (is := [0, 1, 2, 3]) (hs := [.p, .p, .p, .b 0]) (rest := []) (ks := [0]) (env' := [(0, .pointer (some ⟨b_2, 0, none⟩))]) (H' := [⟨1, b_2, [.int .i64 c_1.id, .int .u64 c_1.session, .int .u64 c_1.seq, .int .u64 c_1.call, .bool false, .int .i64 c_1.now.Kind, .int .u64 c_1.now.Session, .int .u64 c_1.now.Seq, .int .u64 c_1.now.Saga, .slice A_3 c_1.now.Steps.length c_4, .int .i64 c_1.now.Step, .bool c_1.now.Back, .int .i64 c_1.now.Try, .bool c_1.now.Ok, .int .u64 c_1.now.Now, .string (bs c_1.data), .int .i64 c_1.to_]⟩]) (ps := [b_2 = b_2]) (by kernel_rfl) (And.intro rfl trivial) ?_
    refine GoO.regionEnd ?_
    refine GoO.seq' c38_12e ?_
    refine GoO.region' (is := [0, 1, 2, 3, 4, 5, 6, 7]) c38_13e (by kernel_rfl) ?_
    refine GoO.exec (is := [0, 1, 2, 3, 4, 5, 6, 7]) (hs := [.p, .p, .p, .p, .b 0, .p, .p, .b 0]) (rest := []) (ks := []) (env' := []) (H' := [⟨1, b_2, [.int .i64 c_1.id, .int .u64 0, .int .u64 0, .int .u64 c_1.call, .bool false, .int .i64 c_1.now.Kind, .int .u64 c_1.now.Session, .int .u64 c_1.now.Seq, .int .u64 c_1.now.Saga, .slice A_3 c_1.now.Steps.length c_4, .int .i64 c_1.now.Step, .bool c_1.now.Back, .int .i64 c_1.now.Try, .bool c_1.now.Ok, .int .u64 c_1.now.Now, .string (bs c_1.data), .int .i64 c_1.to_]⟩]) (ps := [b_2 = b_2, b_2 = b_2]) (by kernel_rfl) (And.intro rfl (And.intro rfl trivial)) ?_
    refine GoO.regionEnd ?_
    refine GoO.seq' c38_14e ?_
    refine GoO.region' (is := [0]) c38_15e (by kernel_rfl) ?_
    refine GoO.exec (is := [0]) (hs := [.p]) (rest := []) (ks := [2]) (env' := [(2, .int .i64 0)]) (H' := [⟨1, b_2, [.int .i64 c_1.id, .int .u64 0, .int .u64 0, .int .u64 c_1.call, .bool false, .int .i64 c_1.now.Kind, .int .u64 c_1.now.Session, .int .u64 c_1.now.Seq, .int .u64 c_1.now.Saga, .slice A_3 c_1.now.Steps.length c_4, .int .i64 c_1.now.Step, .bool c_1.now.Back, .int .i64 c_1.now.Try, .bool c_1.now.Ok, .int .u64 c_1.now.Now, .string (bs c_1.data), .int .i64 c_1.to_]⟩]) (ps := []) (by kernel_rfl) trivial ?_
    refine GoO.regionEnd ?_
    exact GoO.ret' (h := c38_16e) (hs := []) (ps := []) (hk := [0]) (bk := [0]) Try.func38 (⟨A_3, c_4⟩ : Option Addr × Nat) (by kernel_rfl) trivial (by kernel_rfl) (by kernel_rfl)

/-! tontine/tontinelaw21.ClientGives -/
noncomputable def c9_0 : Code := bodyOf Try.f9
noncomputable def c9_1 : Code := cdL c9_0
noncomputable def c9_2 : Code := cdR c9_0
noncomputable def c9_3 : Code := cdL c9_2
noncomputable def c9_4 : Code := cdL c9_3
noncomputable def c9_5 : Code := cdR c9_3
noncomputable def c9_6 : Code := cdL c9_5
noncomputable def c9_7 : Code := cdL c9_6
noncomputable def c9_8 : Code := cdR c9_6
noncomputable def c9_9 : Code := cdR c9_5
noncomputable def c9_10 : Code := cdR c9_2
noncomputable def c9_11 : Code := cdL c9_10
noncomputable def c9_12 : Code := cdR c9_10
noncomputable def c9_13 : Code := cdL c9_12
noncomputable def c9_14 : Code := cdR c9_12
noncomputable def c9_15 : Code := cdL c9_14
noncomputable def c9_16 : Code := cdR c9_14
noncomputable def c9_17 : Code := cdL c9_16
noncomputable def c9_18 : Code := cdR c9_16
noncomputable def c9_19 : Code := cdL c9_18
noncomputable def c9_20 : Code := cdR c9_18
noncomputable def c9_21 : Code := cdL c9_20
noncomputable def c9_22 : Code := cdR c9_20
noncomputable def c9_23 : Code := cdL c9_22
noncomputable def c9_24 : Code := cdL c9_23
noncomputable def c9_25 : Code := cdR c9_23
noncomputable def c9_26 : Code := cdL c9_25
noncomputable def c9_27 : Code := cdL c9_26
noncomputable def c9_28 : Code := cdL c9_27
noncomputable def c9_29 : Code := cdR c9_27
noncomputable def c9_30 : Code := cdL c9_29
noncomputable def c9_31 : Code := cdL c9_30
noncomputable def c9_32 : Code := cdR c9_30
noncomputable def c9_33 : Code := cdR c9_29
noncomputable def c9_34 : Code := cdL c9_33
noncomputable def c9_35 : Code := cdL c9_34
noncomputable def c9_36 : Code := cdL c9_35
noncomputable def c9_37 : Code := cdR c9_35
noncomputable def c9_38 : Code := cdL c9_37
noncomputable def c9_39 : Code := cdR c9_37
noncomputable def c9_40 : Code := cdL c9_39
noncomputable def c9_41 : Code := cdR c9_39
noncomputable def c9_42 : Code := cdL c9_41
noncomputable def c9_43 : Code := cdL c9_42
noncomputable def c9_44 : Code := cdR c9_42
noncomputable def c9_45 : Code := cdL c9_44
noncomputable def c9_46 : Code := cdL c9_45
noncomputable def c9_47 : Code := cdR c9_45
noncomputable def c9_48 : Code := cdR c9_44
noncomputable def c9_49 : Code := cdR c9_41
noncomputable def c9_50 : Code := cdL c9_49
noncomputable def c9_51 : Code := cdR c9_49
noncomputable def c9_52 : Code := cdL c9_51
noncomputable def c9_53 : Code := cdR c9_51
noncomputable def c9_54 : Code := cdR c9_33
noncomputable def c9_55 : Code := cdR c9_22
noncomputable def c9_56 : Code := cdL c9_55
noncomputable def c9_57 : Code := cdR c9_55
noncomputable def c9_58 : Code := cdL c9_57
noncomputable def c9_59 : Code := cdR c9_57
noncomputable def c9_60 : Code := cdL c9_59
noncomputable def c9_61 : Code := cdR c9_59
noncomputable def c9_62 : Code := cdL c9_61
noncomputable def c9_63 : Code := cdR c9_61
noncomputable def c9_64 : Code := cdL c9_63
noncomputable def c9_65 : Code := cdR c9_63
noncomputable def r9_1 : Array Oper := cdO c9_1
noncomputable def r9_4 : Array Oper := cdO c9_4
noncomputable def r9_7 : Array Oper := cdO c9_7
noncomputable def r9_11 : Array Oper := cdO c9_11
noncomputable def r9_13 : Array Oper := cdO c9_13
noncomputable def r9_15 : Array Oper := cdO c9_15
noncomputable def r9_17 : Array Oper := cdO c9_17
noncomputable def r9_19 : Array Oper := cdO c9_19
noncomputable def r9_21 : Array Oper := cdO c9_21
noncomputable def r9_24 : Array Oper := cdO c9_24
noncomputable def r9_28 : Array Oper := cdO c9_28
noncomputable def r9_36 : Array Oper := cdO c9_36
noncomputable def r9_38 : Array Oper := cdO c9_38
noncomputable def r9_40 : Array Oper := cdO c9_40
noncomputable def r9_43 : Array Oper := cdO c9_43
noncomputable def r9_46 : Array Oper := cdO c9_46
noncomputable def r9_50 : Array Oper := cdO c9_50
noncomputable def r9_52 : Array Oper := cdO c9_52
noncomputable def r9_54 : Array Oper := cdO c9_54
noncomputable def r9_56 : Array Oper := cdO c9_56
noncomputable def r9_58 : Array Oper := cdO c9_58
noncomputable def r9_60 : Array Oper := cdO c9_60
noncomputable def r9_62 : Array Oper := cdO c9_62
noncomputable def r9_64 : Array Oper := cdO c9_64
theorem c9_0e : c9_0 = .seq c9_1 c9_2 := by kernel_rfl
theorem c9_1e : c9_1 = .region 0 r9_1 false := by kernel_rfl
theorem c9_2e : c9_2 = .seq c9_3 c9_10 := by kernel_rfl
theorem c9_3e : c9_3 = .seq c9_4 c9_5 := by kernel_rfl
theorem c9_4e : c9_4 = .region 1 r9_4 false := by kernel_rfl
theorem c9_5e : c9_5 = .cond (cdC c9_5) c9_6 c9_9 := by kernel_rfl
theorem c9_6e : c9_6 = .seq c9_7 c9_8 := by kernel_rfl
theorem c9_7e : c9_7 = .region 2 r9_7 false := by kernel_rfl
theorem c9_8e : c9_8 = .ret := by kernel_rfl
theorem c9_9e : c9_9 = .skip := by kernel_rfl
theorem c9_10e : c9_10 = .seq c9_11 c9_12 := by kernel_rfl
theorem c9_11e : c9_11 = .region 3 r9_11 false := by kernel_rfl
theorem c9_12e : c9_12 = .seq c9_13 c9_14 := by kernel_rfl
theorem c9_13e : c9_13 = .region 4 r9_13 false := by kernel_rfl
theorem c9_14e : c9_14 = .seq c9_15 c9_16 := by kernel_rfl
theorem c9_15e : c9_15 = .region 5 r9_15 false := by kernel_rfl
theorem c9_16e : c9_16 = .seq c9_17 c9_18 := by kernel_rfl
theorem c9_17e : c9_17 = .region 6 r9_17 false := by kernel_rfl
theorem c9_18e : c9_18 = .seq c9_19 c9_20 := by kernel_rfl
theorem c9_19e : c9_19 = .region 7 r9_19 false := by kernel_rfl
theorem c9_20e : c9_20 = .seq c9_21 c9_22 := by kernel_rfl
theorem c9_21e : c9_21 = .region 8 r9_21 false := by kernel_rfl
theorem c9_22e : c9_22 = .seq c9_23 c9_55 := by kernel_rfl
theorem c9_23e : c9_23 = .seq c9_24 c9_25 := by kernel_rfl
theorem c9_24e : c9_24 = .region 9 r9_24 false := by kernel_rfl
theorem c9_25e : c9_25 = .block 0 c9_26 := by kernel_rfl
theorem c9_26e : c9_26 = .loop c9_27 := by kernel_rfl
theorem c9_27e : c9_27 = .seq c9_28 c9_29 := by kernel_rfl
theorem c9_28e : c9_28 = .region 10 r9_28 false := by kernel_rfl
theorem c9_29e : c9_29 = .seq c9_30 c9_33 := by kernel_rfl
theorem c9_30e : c9_30 = .cond (cdC c9_30) c9_31 c9_32 := by kernel_rfl
theorem c9_31e : c9_31 = .skip := by kernel_rfl
theorem c9_32e : c9_32 = .exit 0 := by kernel_rfl
theorem c9_33e : c9_33 = .seq c9_34 c9_54 := by kernel_rfl
theorem c9_34e : c9_34 = .block 1 c9_35 := by kernel_rfl
theorem c9_35e : c9_35 = .seq c9_36 c9_37 := by kernel_rfl
theorem c9_36e : c9_36 = .region 11 r9_36 false := by kernel_rfl
theorem c9_37e : c9_37 = .seq c9_38 c9_39 := by kernel_rfl
theorem c9_38e : c9_38 = .region 12 r9_38 false := by kernel_rfl
theorem c9_39e : c9_39 = .seq c9_40 c9_41 := by kernel_rfl
theorem c9_40e : c9_40 = .region 13 r9_40 false := by kernel_rfl
theorem c9_41e : c9_41 = .seq c9_42 c9_49 := by kernel_rfl
theorem c9_42e : c9_42 = .seq c9_43 c9_44 := by kernel_rfl
theorem c9_43e : c9_43 = .region 14 r9_43 false := by kernel_rfl
theorem c9_44e : c9_44 = .cond (cdC c9_44) c9_45 c9_48 := by kernel_rfl
theorem c9_45e : c9_45 = .seq c9_46 c9_47 := by kernel_rfl
theorem c9_46e : c9_46 = .region 15 r9_46 false := by kernel_rfl
theorem c9_47e : c9_47 = .ret := by kernel_rfl
theorem c9_48e : c9_48 = .skip := by kernel_rfl
theorem c9_49e : c9_49 = .seq c9_50 c9_51 := by kernel_rfl
theorem c9_50e : c9_50 = .region 16 r9_50 false := by kernel_rfl
theorem c9_51e : c9_51 = .cond (cdC c9_51) c9_52 c9_53 := by kernel_rfl
theorem c9_52e : c9_52 = .region 17 r9_52 false := by kernel_rfl
theorem c9_53e : c9_53 = .skip := by kernel_rfl
theorem c9_54e : c9_54 = .region 18 r9_54 false := by kernel_rfl
theorem c9_55e : c9_55 = .seq c9_56 c9_57 := by kernel_rfl
theorem c9_56e : c9_56 = .region 19 r9_56 false := by kernel_rfl
theorem c9_57e : c9_57 = .seq c9_58 c9_59 := by kernel_rfl
theorem c9_58e : c9_58 = .region 20 r9_58 false := by kernel_rfl
theorem c9_59e : c9_59 = .seq c9_60 c9_61 := by kernel_rfl
theorem c9_60e : c9_60 = .region 21 r9_60 false := by kernel_rfl
theorem c9_61e : c9_61 = .seq c9_62 c9_63 := by kernel_rfl
theorem c9_62e : c9_62 = .region 22 r9_62 false := by kernel_rfl
theorem c9_63e : c9_63 = .seq c9_64 c9_65 := by kernel_rfl
theorem c9_64e : c9_64 = .region 23 r9_64 false := by kernel_rfl
theorem c9_65e : c9_65 = .ret := by kernel_rfl
noncomputable def tontinelaw21_ClientGives.R : Pst Bool where
  ε := Unit
  v := fun r x => .bool r
  H := fun r x => []
  B := fun r x => []
noncomputable def tontinelaw21_ClientGives.cx (w0 : World) (S0 : Fam) : Cx Bool := ⟨Try.prog, 9, Try.f9, 159, w0, S0, [], 0, tontinelaw21_ClientGives.R⟩
theorem tontinelaw21_ClientGives_j0_ok (n : Nat) (L0 : Int → Int → Int → Int → Bool → Int → Int → Int → Int → (List T_api_Step) → Int → Bool → Int → Bool → Int → (List UInt8) → Int → Int → Option Bool) (id_1 : Int) (seq_2 : Int) (y_3 : T_api_Reply) (f_29 : Int) (f_30 : Int) (f_31 : Int) (f_32 : Int) (f_33 : Bool) (f_34 : Int) (f_35 : Int) (f_36 : Int) (f_37 : Int) (f_38 : (List T_api_Step)) (f_41 : Int) (f_42 : Bool) (f_43 : Int) (f_44 : Bool) (f_45 : Int) (f_46 : (List UInt8)) (f_47 : Int) (x_48 : Int) (r_50 : T_api_Letter × Int × T_client_Client) (b_4 : Nat) (c_8 : Nat) (b_13 : Nat) (A_39 : Option Addr) (c_40 : Nat) (A_53 : Option Addr) (c_54 : Nat) (w0 : World) (S0 : Fam) (ih0 : ∀ (f_29 : Int) (f_30 : Int) (f_31 : Int) (f_32 : Int) (f_33 : Bool) (f_34 : Int) (f_35 : Int) (f_36 : Int) (f_37 : Int) (f_38 : (List T_api_Step)) (f_41 : Int) (f_42 : Bool) (f_43 : Int) (f_44 : Bool) (f_45 : Int) (f_46 : (List UInt8)) (f_47 : Int) (x_48 : Int) (A_39 : Option Addr) (c_40 : Nat), GoO (tontinelaw21_ClientGives.cx w0 S0) [(5, .pointer (some ⟨b_4, 0, none⟩)), (7, .pointer (some ⟨c_8, 0, none⟩)), (10, .func (.func 34) #[] ⟨[.pointer (some ⟨b_13, 0, none⟩)]⟩), (11, .int .u64 (wu64 ((wu64 ((wi64 ((seq_2.tmod 20) + 20)).tmod 20)) + 1))), (57, .int .u64 (wu64 ((wu64 ((wi64 ((seq_2.tmod 20) + 20)).tmod 20)) + 1))), (58, .int .u64 x_48)] [⟨40, b_4, [.int .i64 y_3.Err, .int .u64 y_3.Num, .int .u64 y_3.Extra]⟩, ⟨41, c_8, [.int .i64 f_29, .int .u64 f_30, .int .u64 f_31, .int .u64 f_32, .bool f_33, .int .i64 f_34, .int .u64 f_35, .int .u64 f_36, .int .u64 f_37, .slice A_39 f_38.length c_40, .int .i64 f_41, .bool f_42, .int .i64 f_43, .bool f_44, .int .u64 f_45, .string (bs f_46), .int .i64 f_47]⟩, ⟨42, b_13, [.int .i64 (wi64 (200 + ((wi64 ((id_1.tmod 4) + 4)).tmod 4)))]⟩] [Rd 0 kT_api_Step A_39 c_40 f_38] [.code c9_27, .inLoop c9_27, .inBlock 0, .code c9_55] (L0 f_29 f_30 f_31 f_32 f_33 f_34 f_35 f_36 f_37 f_38 f_41 f_42 f_43 f_44 f_45 f_46 f_47 x_48)) (b_65 : Bool) :
    GoO (tontinelaw21_ClientGives.cx w0 S0) [(5, .pointer (some ⟨b_4, 0, none⟩)), (7, .pointer (some ⟨c_8, 0, none⟩)), (10, .func (.func 34) #[] ⟨[.pointer (some ⟨b_13, 0, none⟩)]⟩), (11, .int .u64 (wu64 ((wu64 ((wi64 ((seq_2.tmod 20) + 20)).tmod 20)) + 1))), (12, .int .u64 x_48), (57, .int .u64 (wu64 ((wu64 ((wi64 ((seq_2.tmod 20) + 20)).tmod 20)) + 1))), (58, .int .u64 x_48), (94, .bool b_65)] [⟨40, b_4, [.int .i64 y_3.Err, .int .u64 y_3.Num, .int .u64 y_3.Extra]⟩, ⟨41, c_8, [.int .i64 r_50.2.2.id, .int .u64 r_50.2.2.session, .int .u64 r_50.2.2.seq, .int .u64 r_50.2.2.call, .bool r_50.2.2.busy, .int .i64 r_50.2.2.now.Kind, .int .u64 r_50.2.2.now.Session, .int .u64 r_50.2.2.now.Seq, .int .u64 r_50.2.2.now.Saga, .slice A_53 r_50.2.2.now.Steps.length c_54, .int .i64 r_50.2.2.now.Step, .bool r_50.2.2.now.Back, .int .i64 r_50.2.2.now.Try, .bool r_50.2.2.now.Ok, .int .u64 r_50.2.2.now.Now, .string (bs r_50.2.2.data), .int .i64 r_50.2.2.to_]⟩, ⟨42, b_13, [.int .i64 (wi64 (200 + ((wi64 ((id_1.tmod 4) + 4)).tmod 4)))]⟩] [Rd 0 kT_api_Step A_53 c_54 r_50.2.2.now.Steps] [.code c9_44, .code c9_49, .inBlock 1, .code c9_54, .inLoop c9_27, .inBlock 0, .code c9_55] (tontinelaw21_ClientGives.j0 n L0 id_1 seq_2 x_48 r_50 b_65) := by
  unfold tontinelaw21_ClientGives.j0
  refine GoO.ite' c9_44e (by kernel_rfl) (fun h66 => ?_) (fun h66 => ?_)
  · refine GoO.seq' c9_45e ?_
    refine GoO.region' (is := [0]) c9_46e (by kernel_rfl) ?_
    refine GoO.exec (is := [0]) (hs := [.p]) (rest := []) (ks := [6]) (env' := [(6, .bool false)]) (H' := [⟨40, b_4, [.int .i64 y_3.Err, .int .u64 y_3.Num, .int .u64 y_3.Extra]⟩, ⟨41, c_8, [.int .i64 r_50.2.2.id, .int .u64 r_50.2.2.session, .int .u64 r_50.2.2.seq, .int .u64 r_50.2.2.call, .bool r_50.2.2.busy, .int .i64 r_50.2.2.now.Kind, .int .u64 r_50.2.2.now.Session, .int .u64 r_50.2.2.now.Seq, .int .u64 r_50.2.2.now.Saga, .slice A_53 r_50.2.2.now.Steps.length c_54, .int .i64 r_50.2.2.now.Step, .bool r_50.2.2.now.Back, .int .i64 r_50.2.2.now.Try, .bool r_50.2.2.now.Ok, .int .u64 r_50.2.2.now.Now, .string (bs r_50.2.2.data), .int .i64 r_50.2.2.to_]⟩, ⟨42, b_13, [.int .i64 (wi64 (200 + ((wi64 ((id_1.tmod 4) + 4)).tmod 4)))]⟩]) (ps := []) (by kernel_rfl) trivial ?_
    refine GoO.regionEnd ?_
    exact GoO.ret' (h := c9_47e) (hs := []) (ps := []) (hk := []) (bk := []) Try.func9 () (by kernel_rfl) trivial (by kernel_rfl) (by kernel_rfl)
  · refine GoO.skip' c9_48e ?_
    refine GoO.seq' c9_49e ?_
    refine GoO.region' (is := [0, 1, 2, 3]) c9_50e (by kernel_rfl) ?_
    refine GoO.exec (is := [0, 1, 2, 3]) (hs := [.p, .p, .p, .p]) (rest := []) (ks := [5, 7, 10, 11, 12, 57, 58, 98]) (env' := [(5, .pointer (some ⟨b_4, 0, none⟩)), (7, .pointer (some ⟨c_8, 0, none⟩)), (10, .func (.func 34) #[] ⟨[.pointer (some ⟨b_13, 0, none⟩)]⟩), (11, .int .u64 (wu64 ((wu64 ((wi64 ((seq_2.tmod 20) + 20)).tmod 20)) + 1))), (12, .int .u64 x_48), (57, .int .u64 (wu64 ((wu64 ((wi64 ((seq_2.tmod 20) + 20)).tmod 20)) + 1))), (58, .int .u64 x_48), (98, .bool (decide ((wu64 (x_48 + 1)) < (wu64 ((wu64 ((wi64 ((seq_2.tmod 20) + 20)).tmod 20)) + 1)))))]) (H' := [⟨40, b_4, [.int .i64 y_3.Err, .int .u64 y_3.Num, .int .u64 y_3.Extra]⟩, ⟨41, c_8, [.int .i64 r_50.2.2.id, .int .u64 r_50.2.2.session, .int .u64 r_50.2.2.seq, .int .u64 r_50.2.2.call, .bool r_50.2.2.busy, .int .i64 r_50.2.2.now.Kind, .int .u64 r_50.2.2.now.Session, .int .u64 r_50.2.2.now.Seq, .int .u64 r_50.2.2.now.Saga, .slice A_53 r_50.2.2.now.Steps.length c_54, .int .i64 r_50.2.2.now.Step, .bool r_50.2.2.now.Back, .int .i64 r_50.2.2.now.Try, .bool r_50.2.2.now.Ok, .int .u64 r_50.2.2.now.Now, .string (bs r_50.2.2.data), .int .i64 r_50.2.2.to_]⟩, ⟨42, b_13, [.int .i64 (wi64 (200 + ((wi64 ((id_1.tmod 4) + 4)).tmod 4)))]⟩]) (ps := []) (by kernel_rfl) trivial ?_
    refine GoO.regionEnd ?_
    refine GoO.ite' c9_51e (by kernel_rfl) (fun h67 => ?_) (fun h67 => ?_)
    · refine GoO.region' (is := [0, 1, 2, 3, 4, 5, 6]) c9_52e (by kernel_rfl) ?_
      refine GoO.exec (is := [0, 1, 2, 3, 4]) (hs := [.p, .p, .p, .p, .p]) (rest := [5, 6]) (ks := [5, 7, 10, 11, 57, 58, 99, 100, 102, 103]) (env' := [(5, .pointer (some ⟨b_4, 0, none⟩)), (7, .pointer (some ⟨c_8, 0, none⟩)), (10, .func (.func 34) #[] ⟨[.pointer (some ⟨b_13, 0, none⟩)]⟩), (11, .int .u64 (wu64 ((wu64 ((wi64 ((seq_2.tmod 20) + 20)).tmod 20)) + 1))), (57, .int .u64 (wu64 ((wu64 ((wi64 ((seq_2.tmod 20) + 20)).tmod 20)) + 1))), (58, .int .u64 x_48), (99, .pointer (some ⟨c_8, 0, none⟩)), (100, .func (.func 34) #[] ⟨[.pointer (some ⟨b_13, 0, none⟩)]⟩), (102, .int .u64 (wu64 (x_48 + 2))), (103, .agg ⟨[.int .i64 0, .int .u64 0, .int .u64 0]⟩)]) (H' := [⟨40, b_4, [.int .i64 y_3.Err, .int .u64 y_3.Num, .int .u64 y_3.Extra]⟩, ⟨41, c_8, [.int .i64 r_50.2.2.id, .int .u64 r_50.2.2.session, .int .u64 r_50.2.2.seq, .int .u64 r_50.2.2.call, .bool r_50.2.2.busy, .int .i64 r_50.2.2.now.Kind, .int .u64 r_50.2.2.now.Session, .int .u64 r_50.2.2.now.Seq, .int .u64 r_50.2.2.now.Saga, .slice A_53 r_50.2.2.now.Steps.length c_54, .int .i64 r_50.2.2.now.Step, .bool r_50.2.2.now.Back, .int .i64 r_50.2.2.now.Try, .bool r_50.2.2.now.Ok, .int .u64 r_50.2.2.now.Now, .string (bs r_50.2.2.data), .int .i64 r_50.2.2.to_]⟩, ⟨42, b_13, [.int .i64 (wi64 (200 + ((wi64 ((id_1.tmod 4) + 4)).tmod 4)))]⟩]) (ps := []) (by kernel_rfl) trivial ?_
      refine OpTo.go (GoO.callF (args := [.int .u64 (wu64 (x_48 + 2)), .agg ⟨[.int .i64 0, .int .u64 0, .int .u64 0]⟩]) (cap := [.pointer (some ⟨b_13, 0, none⟩)]) rfl (by kernel_rfl) (by kernel_rfl) (by kernel_rfl) (tontinelaw21_ClientGives_1_ok n (wu64 (x_48 + 2)) (⟨0, 0, 0⟩ : T_api_Reply) (wi64 (200 + ((wi64 ((id_1.tmod 4) + 4)).tmod 4))) b_13) [[0], [42]] [] [(1, 2)] [] (hks := [0, 1, 2]) (bks := [0]) (by kernel_rfl) (by kernel_rfl) (by kernel_rfl) (.inl rfl) rfl rfl (by kernel_rfl) (by kernel_rfl) _ (fun _ _ => rfl) _ _ (fun _ _ => rfl) (fun _ _ => rfl) (fun _ _ => by kernel_rfl) (fun _ _ => by kernel_rfl) (fun r_68 x_79 => ?_))
      obtain ⟨A_69, c_70⟩ := x_79
      refine GoO.shape (env' := [(5, .pointer (some ⟨b_4, 0, none⟩)), (7, .pointer (some ⟨c_8, 0, none⟩)), (10, .func (.func 34) #[] ⟨[.pointer (some ⟨b_13, 0, none⟩)]⟩), (11, .int .u64 (wu64 ((wu64 ((wi64 ((seq_2.tmod 20) + 20)).tmod 20)) + 1))), (57, .int .u64 (wu64 ((wu64 ((wi64 ((seq_2.tmod 20) + 20)).tmod 20)) + 1))), (58, .int .u64 x_48), (99, .pointer (some ⟨c_8, 0, none⟩)), (100, .func (.func 34) #[] ⟨[.pointer (some ⟨b_13, 0, none⟩)]⟩), (102, .int .u64 (wu64 (x_48 + 2))), (103, .agg ⟨[.int .i64 0, .int .u64 0, .int .u64 0]⟩), (104, .agg ⟨[.int .i64 r_68.Kind, .int .i64 r_68.From, .int .i64 r_68.To, .int .u64 r_68.Term, .int .u64 r_68.Index, .int .u64 r_68.Prev, .int .u64 r_68.Commit, .bool r_68.Ok, .slice A_69 r_68.Entries.length c_70, .string (bs r_68.Data)]⟩)]) (H' := [⟨40, b_4, [.int .i64 y_3.Err, .int .u64 y_3.Num, .int .u64 y_3.Extra]⟩, ⟨41, c_8, [.int .i64 r_50.2.2.id, .int .u64 r_50.2.2.session, .int .u64 r_50.2.2.seq, .int .u64 r_50.2.2.call, .bool r_50.2.2.busy, .int .i64 r_50.2.2.now.Kind, .int .u64 r_50.2.2.now.Session, .int .u64 r_50.2.2.now.Seq, .int .u64 r_50.2.2.now.Saga, .slice A_53 r_50.2.2.now.Steps.length c_54, .int .i64 r_50.2.2.now.Step, .bool r_50.2.2.now.Back, .int .i64 r_50.2.2.now.Try, .bool r_50.2.2.now.Ok, .int .u64 r_50.2.2.now.Now, .string (bs r_50.2.2.data), .int .i64 r_50.2.2.to_]⟩, ⟨42, b_13, [.int .i64 (wi64 (200 + ((wi64 ((id_1.tmod 4) + 4)).tmod 4)))]⟩]) (B' := [Rd 0 kT_api_Entry A_69 c_70 r_68.Entries, Rd 0 kT_api_Step A_53 c_54 r_50.2.2.now.Steps]) (ks := [5, 7, 10, 11, 57, 58, 99, 100, 102, 103, 104]) (by kernel_rfl) (by kernel_rfl) (by kernel_rfl) ?_
      refine OpTo.go (GoO.call rfl (by kernel_rfl) (by kernel_rfl) (client_Client_Hear_ok n (⟨r_50.2.2.id, r_50.2.2.session, r_50.2.2.seq, r_50.2.2.call, r_50.2.2.busy, (⟨r_50.2.2.now.Kind, r_50.2.2.now.Session, r_50.2.2.now.Seq, r_50.2.2.now.Saga, r_50.2.2.now.Steps, r_50.2.2.now.Step, r_50.2.2.now.Back, r_50.2.2.now.Try, r_50.2.2.now.Ok, r_50.2.2.now.Now⟩ : T_api_Command), r_50.2.2.data, r_50.2.2.to_⟩ : T_client_Client) r_68 c_8 A_53 c_54 A_69 c_70) [[0], [41]] [(41, 1)] [(1, 1)] [(0, 1), (0, 0)] (hks := [0, 2]) (bks := [0, 1]) (by kernel_rfl) (by kernel_rfl) (by kernel_rfl) (.inl rfl) rfl rfl (by kernel_rfl) (by kernel_rfl) _ (fun _ _ => rfl) _ _ (fun _ _ => rfl) (fun _ _ => rfl) (fun _ _ => by kernel_rfl) (fun _ _ => by kernel_rfl) (fun r_71 x_78 => ?_))
      obtain ⟨A_72, c_73, A_74, c_75, A_76, c_77⟩ := x_78
      refine GoO.shape (env' := [(5, .pointer (some ⟨b_4, 0, none⟩)), (7, .pointer (some ⟨c_8, 0, none⟩)), (10, .func (.func 34) #[] ⟨[.pointer (some ⟨b_13, 0, none⟩)]⟩), (11, .int .u64 (wu64 ((wu64 ((wi64 ((seq_2.tmod 20) + 20)).tmod 20)) + 1))), (57, .int .u64 (wu64 ((wu64 ((wi64 ((seq_2.tmod 20) + 20)).tmod 20)) + 1))), (58, .int .u64 x_48), (99, .pointer (some ⟨c_8, 0, none⟩)), (100, .func (.func 34) #[] ⟨[.pointer (some ⟨b_13, 0, none⟩)]⟩), (102, .int .u64 (wu64 (x_48 + 2))), (103, .agg ⟨[.int .i64 0, .int .u64 0, .int .u64 0]⟩), (104, .agg ⟨[.int .i64 r_68.Kind, .int .i64 r_68.From, .int .i64 r_68.To, .int .u64 r_68.Term, .int .u64 r_68.Index, .int .u64 r_68.Prev, .int .u64 r_68.Commit, .bool r_68.Ok, .slice A_69 r_68.Entries.length c_70, .string (bs r_68.Data)]⟩), (105, .tuple ⟨[.agg ⟨[.int .i64 r_71.1.Client, .int .i64 r_71.1.Command.Kind, .int .u64 r_71.1.Command.Session, .int .u64 r_71.1.Command.Seq, .int .u64 r_71.1.Command.Saga, .slice A_72 r_71.1.Command.Steps.length c_73, .int .i64 r_71.1.Command.Step, .bool r_71.1.Command.Back, .int .i64 r_71.1.Command.Try, .bool r_71.1.Command.Ok, .int .u64 r_71.1.Command.Now, .int .i64 r_71.1.Reply.Err, .int .u64 r_71.1.Reply.Num, .int .u64 r_71.1.Reply.Extra]⟩, .bool r_71.2.1, .agg ⟨[.int .i64 r_71.2.2.1.Kind, .int .i64 r_71.2.2.1.From, .int .i64 r_71.2.2.1.To, .int .u64 r_71.2.2.1.Term, .int .u64 r_71.2.2.1.Index, .int .u64 r_71.2.2.1.Prev, .int .u64 r_71.2.2.1.Commit, .bool r_71.2.2.1.Ok, .slice A_74 r_71.2.2.1.Entries.length c_75, .string (bs r_71.2.2.1.Data)]⟩, .bool r_71.2.2.2.1]⟩)]) (H' := [⟨41, c_8, [.int .i64 r_71.2.2.2.2.id, .int .u64 r_71.2.2.2.2.session, .int .u64 r_71.2.2.2.2.seq, .int .u64 r_71.2.2.2.2.call, .bool r_71.2.2.2.2.busy, .int .i64 r_71.2.2.2.2.now.Kind, .int .u64 r_71.2.2.2.2.now.Session, .int .u64 r_71.2.2.2.2.now.Seq, .int .u64 r_71.2.2.2.2.now.Saga, .slice A_76 r_71.2.2.2.2.now.Steps.length c_77, .int .i64 r_71.2.2.2.2.now.Step, .bool r_71.2.2.2.2.now.Back, .int .i64 r_71.2.2.2.2.now.Try, .bool r_71.2.2.2.2.now.Ok, .int .u64 r_71.2.2.2.2.now.Now, .string (bs r_71.2.2.2.2.data), .int .i64 r_71.2.2.2.2.to_]⟩, ⟨40, b_4, [.int .i64 y_3.Err, .int .u64 y_3.Num, .int .u64 y_3.Extra]⟩, ⟨42, b_13, [.int .i64 (wi64 (200 + ((wi64 ((id_1.tmod 4) + 4)).tmod 4)))]⟩]) (B' := [Rd 0 kT_api_Step A_72 c_73 r_71.1.Command.Steps, Rd 0 kT_api_Entry A_74 c_75 r_71.2.2.1.Entries, Rd 0 kT_api_Step A_76 c_77 r_71.2.2.2.2.now.Steps, Rd 0 kT_api_Entry A_69 c_70 r_68.Entries, Rd 0 kT_api_Step A_53 c_54 r_50.2.2.now.Steps]) (ks := [5, 7, 10, 11, 57, 58, 99, 100, 102, 103, 104, 105]) (by kernel_rfl) (by kernel_rfl) (by kernel_rfl) ?_
      refine GoO.regionEnd ?_
      refine GoO.inBlock ?_
      refine GoO.region' (is := [0, 1]) c9_54e (by kernel_rfl) ?_
      refine GoO.exec (is := [0, 1]) (hs := [.p, .p]) (rest := []) (ks := [5, 7, 10, 11, 57, 58]) (env' := [(5, .pointer (some ⟨b_4, 0, none⟩)), (7, .pointer (some ⟨c_8, 0, none⟩)), (10, .func (.func 34) #[] ⟨[.pointer (some ⟨b_13, 0, none⟩)]⟩), (11, .int .u64 (wu64 ((wu64 ((wi64 ((seq_2.tmod 20) + 20)).tmod 20)) + 1))), (57, .int .u64 (wu64 ((wu64 ((wi64 ((seq_2.tmod 20) + 20)).tmod 20)) + 1))), (58, .int .u64 (wu64 (x_48 + 1)))]) (H' := [⟨41, c_8, [.int .i64 r_71.2.2.2.2.id, .int .u64 r_71.2.2.2.2.session, .int .u64 r_71.2.2.2.2.seq, .int .u64 r_71.2.2.2.2.call, .bool r_71.2.2.2.2.busy, .int .i64 r_71.2.2.2.2.now.Kind, .int .u64 r_71.2.2.2.2.now.Session, .int .u64 r_71.2.2.2.2.now.Seq, .int .u64 r_71.2.2.2.2.now.Saga, .slice A_76 r_71.2.2.2.2.now.Steps.length c_77, .int .i64 r_71.2.2.2.2.now.Step, .bool r_71.2.2.2.2.now.Back, .int .i64 r_71.2.2.2.2.now.Try, .bool r_71.2.2.2.2.now.Ok, .int .u64 r_71.2.2.2.2.now.Now, .string (bs r_71.2.2.2.2.data), .int .i64 r_71.2.2.2.2.to_]⟩, ⟨40, b_4, [.int .i64 y_3.Err, .int .u64 y_3.Num, .int .u64 y_3.Extra]⟩, ⟨42, b_13, [.int .i64 (wi64 (200 + ((wi64 ((id_1.tmod 4) + 4)).tmod 4)))]⟩]) (ps := []) (by kernel_rfl) trivial ?_
      refine GoO.regionEnd ?_
      refine GoO.inLoop ?_
      exact GoO.sub (ks := [5, 7, 10, 11, 57, 58]) (hk := [1, 0, 2]) (bk := [2]) (by kernel_rfl) (by kernel_rfl) (by kernel_rfl) (ih0 r_71.2.2.2.2.id r_71.2.2.2.2.session r_71.2.2.2.2.seq r_71.2.2.2.2.call r_71.2.2.2.2.busy r_71.2.2.2.2.now.Kind r_71.2.2.2.2.now.Session r_71.2.2.2.2.now.Seq r_71.2.2.2.2.now.Saga r_71.2.2.2.2.now.Steps r_71.2.2.2.2.now.Step r_71.2.2.2.2.now.Back r_71.2.2.2.2.now.Try r_71.2.2.2.2.now.Ok r_71.2.2.2.2.now.Now r_71.2.2.2.2.data r_71.2.2.2.2.to_ (wu64 (x_48 + 1)) A_76 c_77)
    · refine GoO.skip' c9_53e ?_
      refine GoO.inBlock ?_
      refine GoO.region' (is := [0, 1]) c9_54e (by kernel_rfl) ?_
      refine GoO.exec (is := [0, 1]) (hs := [.p, .p]) (rest := []) (ks := [5, 7, 10, 11, 57, 58]) (env' := [(5, .pointer (some ⟨b_4, 0, none⟩)), (7, .pointer (some ⟨c_8, 0, none⟩)), (10, .func (.func 34) #[] ⟨[.pointer (some ⟨b_13, 0, none⟩)]⟩), (11, .int .u64 (wu64 ((wu64 ((wi64 ((seq_2.tmod 20) + 20)).tmod 20)) + 1))), (57, .int .u64 (wu64 ((wu64 ((wi64 ((seq_2.tmod 20) + 20)).tmod 20)) + 1))), (58, .int .u64 (wu64 (x_48 + 1)))]) (H' := [⟨40, b_4, [.int .i64 y_3.Err, .int .u64 y_3.Num, .int .u64 y_3.Extra]⟩, ⟨41, c_8, [.int .i64 r_50.2.2.id, .int .u64 r_50.2.2.session, .int .u64 r_50.2.2.seq, .int .u64 r_50.2.2.call, .bool r_50.2.2.busy, .int .i64 r_50.2.2.now.Kind, .int .u64 r_50.2.2.now.Session, .int .u64 r_50.2.2.now.Seq, .int .u64 r_50.2.2.now.Saga, .slice A_53 r_50.2.2.now.Steps.length c_54, .int .i64 r_50.2.2.now.Step, .bool r_50.2.2.now.Back, .int .i64 r_50.2.2.now.Try, .bool r_50.2.2.now.Ok, .int .u64 r_50.2.2.now.Now, .string (bs r_50.2.2.data), .int .i64 r_50.2.2.to_]⟩, ⟨42, b_13, [.int .i64 (wi64 (200 + ((wi64 ((id_1.tmod 4) + 4)).tmod 4)))]⟩]) (ps := []) (by kernel_rfl) trivial ?_
      refine GoO.regionEnd ?_
      refine GoO.inLoop ?_
      exact GoO.sub (ks := [5, 7, 10, 11, 57, 58]) (hk := [0, 1, 2]) (bk := [0]) (by kernel_rfl) (by kernel_rfl) (by kernel_rfl) (ih0 r_50.2.2.id r_50.2.2.session r_50.2.2.seq r_50.2.2.call r_50.2.2.busy r_50.2.2.now.Kind r_50.2.2.now.Session r_50.2.2.now.Seq r_50.2.2.now.Saga r_50.2.2.now.Steps r_50.2.2.now.Step r_50.2.2.now.Back r_50.2.2.now.Try r_50.2.2.now.Ok r_50.2.2.now.Now r_50.2.2.data r_50.2.2.to_ (wu64 (x_48 + 1)) A_53 c_54)
theorem tontinelaw21_ClientGives_j2_ok (n : Nat) (L0 : Int → Int → Int → Int → Bool → Int → Int → Int → Int → (List T_api_Step) → Int → Bool → Int → Bool → Int → (List UInt8) → Int → Int → Option Bool) (id_1 : Int) (seq_2 : Int) (y_3 : T_api_Reply) (f_29 : Int) (f_30 : Int) (f_31 : Int) (f_32 : Int) (f_33 : Bool) (f_34 : Int) (f_35 : Int) (f_36 : Int) (f_37 : Int) (f_38 : (List T_api_Step)) (f_41 : Int) (f_42 : Bool) (f_43 : Int) (f_44 : Bool) (f_45 : Int) (f_46 : (List UInt8)) (f_47 : Int) (x_48 : Int) (r_50 : T_api_Letter × Int × T_client_Client) (b_4 : Nat) (c_8 : Nat) (b_13 : Nat) (A_39 : Option Addr) (c_40 : Nat) (A_51 : Option Addr) (c_52 : Nat) (A_53 : Option Addr) (c_54 : Nat) (b_55 : Nat) (w0 : World) (S0 : Fam) (ih0 : ∀ (f_29 : Int) (f_30 : Int) (f_31 : Int) (f_32 : Int) (f_33 : Bool) (f_34 : Int) (f_35 : Int) (f_36 : Int) (f_37 : Int) (f_38 : (List T_api_Step)) (f_41 : Int) (f_42 : Bool) (f_43 : Int) (f_44 : Bool) (f_45 : Int) (f_46 : (List UInt8)) (f_47 : Int) (x_48 : Int) (A_39 : Option Addr) (c_40 : Nat), GoO (tontinelaw21_ClientGives.cx w0 S0) [(5, .pointer (some ⟨b_4, 0, none⟩)), (7, .pointer (some ⟨c_8, 0, none⟩)), (10, .func (.func 34) #[] ⟨[.pointer (some ⟨b_13, 0, none⟩)]⟩), (11, .int .u64 (wu64 ((wu64 ((wi64 ((seq_2.tmod 20) + 20)).tmod 20)) + 1))), (57, .int .u64 (wu64 ((wu64 ((wi64 ((seq_2.tmod 20) + 20)).tmod 20)) + 1))), (58, .int .u64 x_48)] [⟨40, b_4, [.int .i64 y_3.Err, .int .u64 y_3.Num, .int .u64 y_3.Extra]⟩, ⟨41, c_8, [.int .i64 f_29, .int .u64 f_30, .int .u64 f_31, .int .u64 f_32, .bool f_33, .int .i64 f_34, .int .u64 f_35, .int .u64 f_36, .int .u64 f_37, .slice A_39 f_38.length c_40, .int .i64 f_41, .bool f_42, .int .i64 f_43, .bool f_44, .int .u64 f_45, .string (bs f_46), .int .i64 f_47]⟩, ⟨42, b_13, [.int .i64 (wi64 (200 + ((wi64 ((id_1.tmod 4) + 4)).tmod 4)))]⟩] [Rd 0 kT_api_Step A_39 c_40 f_38] [.code c9_27, .inLoop c9_27, .inBlock 0, .code c9_55] (L0 f_29 f_30 f_31 f_32 f_33 f_34 f_35 f_36 f_37 f_38 f_41 f_42 f_43 f_44 f_45 f_46 f_47 x_48)) (b_63 : Bool) :
    GoO (tontinelaw21_ClientGives.cx w0 S0) [(5, .pointer (some ⟨b_4, 0, none⟩)), (7, .pointer (some ⟨c_8, 0, none⟩)), (10, .func (.func 34) #[] ⟨[.pointer (some ⟨b_13, 0, none⟩)]⟩), (11, .int .u64 (wu64 ((wu64 ((wi64 ((seq_2.tmod 20) + 20)).tmod 20)) + 1))), (12, .int .u64 x_48), (13, .pointer (some ⟨b_55, 0, none⟩)), (57, .int .u64 (wu64 ((wu64 ((wi64 ((seq_2.tmod 20) + 20)).tmod 20)) + 1))), (58, .int .u64 x_48), (87, .bool b_63)] [⟨40, b_4, [.int .i64 y_3.Err, .int .u64 y_3.Num, .int .u64 y_3.Extra]⟩, ⟨41, c_8, [.int .i64 r_50.2.2.id, .int .u64 r_50.2.2.session, .int .u64 r_50.2.2.seq, .int .u64 r_50.2.2.call, .bool r_50.2.2.busy, .int .i64 r_50.2.2.now.Kind, .int .u64 r_50.2.2.now.Session, .int .u64 r_50.2.2.now.Seq, .int .u64 r_50.2.2.now.Saga, .slice A_53 r_50.2.2.now.Steps.length c_54, .int .i64 r_50.2.2.now.Step, .bool r_50.2.2.now.Back, .int .i64 r_50.2.2.now.Try, .bool r_50.2.2.now.Ok, .int .u64 r_50.2.2.now.Now, .string (bs r_50.2.2.data), .int .i64 r_50.2.2.to_]⟩, ⟨42, b_13, [.int .i64 (wi64 (200 + ((wi64 ((id_1.tmod 4) + 4)).tmod 4)))]⟩, ⟨43, b_55, [.int .i64 r_50.1.Kind, .int .i64 r_50.1.From, .int .i64 r_50.1.To, .int .u64 r_50.1.Term, .int .u64 r_50.1.Index, .int .u64 r_50.1.Prev, .int .u64 r_50.1.Commit, .bool r_50.1.Ok, .slice A_51 r_50.1.Entries.length c_52, .string (bs r_50.1.Data)]⟩] [Rd 0 kT_api_Step A_53 c_54 r_50.2.2.now.Steps, Rd 0 kT_api_Entry A_51 c_52 r_50.1.Entries] [.inRegion r9_43 [14, 15, 16, 17, 18, 19, 20], .code c9_44, .code c9_49, .inBlock 1, .code c9_54, .inLoop c9_27, .inBlock 0, .code c9_55] (tontinelaw21_ClientGives.j2 n L0 id_1 seq_2 x_48 r_50 b_63) := by
  unfold tontinelaw21_ClientGives.j2
  refine GoO.exec (is := [14]) (hs := [.p]) (rest := [15, 16, 17, 18, 19, 20]) (ks := [5, 7, 10, 11, 12, 13, 57, 58, 88]) (env' := [(5, .pointer (some ⟨b_4, 0, none⟩)), (7, .pointer (some ⟨c_8, 0, none⟩)), (10, .func (.func 34) #[] ⟨[.pointer (some ⟨b_13, 0, none⟩)]⟩), (11, .int .u64 (wu64 ((wu64 ((wi64 ((seq_2.tmod 20) + 20)).tmod 20)) + 1))), (12, .int .u64 x_48), (13, .pointer (some ⟨b_55, 0, none⟩)), (57, .int .u64 (wu64 ((wu64 ((wi64 ((seq_2.tmod 20) + 20)).tmod 20)) + 1))), (58, .int .u64 x_48), (88, .bool b_63)]) (H' := [⟨40, b_4, [.int .i64 y_3.Err, .int .u64 y_3.Num, .int .u64 y_3.Extra]⟩, ⟨41, c_8, [.int .i64 r_50.2.2.id, .int .u64 r_50.2.2.session, .int .u64 r_50.2.2.seq, .int .u64 r_50.2.2.call, .bool r_50.2.2.busy, .int .i64 r_50.2.2.now.Kind, .int .u64 r_50.2.2.now.Session, .int .u64 r_50.2.2.now.Seq, .int .u64 r_50.2.2.now.Saga, .slice A_53 r_50.2.2.now.Steps.length c_54, .int .i64 r_50.2.2.now.Step, .bool r_50.2.2.now.Back, .int .i64 r_50.2.2.now.Try, .bool r_50.2.2.now.Ok, .int .u64 r_50.2.2.now.Now, .string (bs r_50.2.2.data), .int .i64 r_50.2.2.to_]⟩, ⟨42, b_13, [.int .i64 (wi64 (200 + ((wi64 ((id_1.tmod 4) + 4)).tmod 4)))]⟩, ⟨43, b_55, [.int .i64 r_50.1.Kind, .int .i64 r_50.1.From, .int .i64 r_50.1.To, .int .u64 r_50.1.Term, .int .u64 r_50.1.Index, .int .u64 r_50.1.Prev, .int .u64 r_50.1.Commit, .bool r_50.1.Ok, .slice A_51 r_50.1.Entries.length c_52, .string (bs r_50.1.Data)]⟩]) (ps := []) (by kernel_rfl) trivial ?_
  refine GoO.bsplit (t := 88) (by kernel_rfl) (fun h64 => ?_) (fun h64 => ?_)
  · refine GoO.exec (is := [15, 16, 17, 18, 19, 20]) (hs := [.p, .p, .p, .p, .p, .p]) (rest := []) (ks := [5, 7, 10, 11, 12, 57, 58, 94]) (env' := [(5, .pointer (some ⟨b_4, 0, none⟩)), (7, .pointer (some ⟨c_8, 0, none⟩)), (10, .func (.func 34) #[] ⟨[.pointer (some ⟨b_13, 0, none⟩)]⟩), (11, .int .u64 (wu64 ((wu64 ((wi64 ((seq_2.tmod 20) + 20)).tmod 20)) + 1))), (12, .int .u64 x_48), (57, .int .u64 (wu64 ((wu64 ((wi64 ((seq_2.tmod 20) + 20)).tmod 20)) + 1))), (58, .int .u64 x_48), (94, .bool true)]) (H' := [⟨40, b_4, [.int .i64 y_3.Err, .int .u64 y_3.Num, .int .u64 y_3.Extra]⟩, ⟨41, c_8, [.int .i64 r_50.2.2.id, .int .u64 r_50.2.2.session, .int .u64 r_50.2.2.seq, .int .u64 r_50.2.2.call, .bool r_50.2.2.busy, .int .i64 r_50.2.2.now.Kind, .int .u64 r_50.2.2.now.Session, .int .u64 r_50.2.2.now.Seq, .int .u64 r_50.2.2.now.Saga, .slice A_53 r_50.2.2.now.Steps.length c_54, .int .i64 r_50.2.2.now.Step, .bool r_50.2.2.now.Back, .int .i64 r_50.2.2.now.Try, .bool r_50.2.2.now.Ok, .int .u64 r_50.2.2.now.Now, .string (bs r_50.2.2.data), .int .i64 r_50.2.2.to_]⟩, ⟨42, b_13, [.int .i64 (wi64 (200 + ((wi64 ((id_1.tmod 4) + 4)).tmod 4)))]⟩, ⟨43, b_55, [.int .i64 r_50.1.Kind, .int .i64 r_50.1.From, .int .i64 r_50.1.To, .int .u64 r_50.1.Term, .int .u64 r_50.1.Index, .int .u64 r_50.1.Prev, .int .u64 r_50.1.Commit, .bool r_50.1.Ok, .slice A_51 r_50.1.Entries.length c_52, .string (bs r_50.1.Data)]⟩]) (ps := []) (by kernel_rfl) trivial ?_
    refine GoO.regionEnd ?_
    exact GoO.sub (ks := [5, 7, 10, 11, 12, 57, 58, 94]) (hk := [0, 1, 2]) (bk := [0]) (by kernel_rfl) (by kernel_rfl) (by kernel_rfl) (tontinelaw21_ClientGives_j0_ok n L0 id_1 seq_2 y_3 f_29 f_30 f_31 f_32 f_33 f_34 f_35 f_36 f_37 f_38 f_41 f_42 f_43 f_44 f_45 f_46 f_47 x_48 r_50 b_4 c_8 b_13 A_39 c_40 A_53 c_54 w0 S0 ih0 true)
  · refine GoO.exec (is := [15, 16, 17, 18, 19, 20]) (hs := [.p, .b 3, .p, .p, .p, .p]) (rest := []) (ks := [5, 7, 10, 11, 12, 57, 58, 94]) (env' := [(5, .pointer (some ⟨b_4, 0, none⟩)), (7, .pointer (some ⟨c_8, 0, none⟩)), (10, .func (.func 34) #[] ⟨[.pointer (some ⟨b_13, 0, none⟩)]⟩), (11, .int .u64 (wu64 ((wu64 ((wi64 ((seq_2.tmod 20) + 20)).tmod 20)) + 1))), (12, .int .u64 x_48), (57, .int .u64 (wu64 ((wu64 ((wi64 ((seq_2.tmod 20) + 20)).tmod 20)) + 1))), (58, .int .u64 x_48), (94, .bool (r_50.1.Index != (wu64 (x_48 + 2))))]) (H' := [⟨40, b_4, [.int .i64 y_3.Err, .int .u64 y_3.Num, .int .u64 y_3.Extra]⟩, ⟨41, c_8, [.int .i64 r_50.2.2.id, .int .u64 r_50.2.2.session, .int .u64 r_50.2.2.seq, .int .u64 r_50.2.2.call, .bool r_50.2.2.busy, .int .i64 r_50.2.2.now.Kind, .int .u64 r_50.2.2.now.Session, .int .u64 r_50.2.2.now.Seq, .int .u64 r_50.2.2.now.Saga, .slice A_53 r_50.2.2.now.Steps.length c_54, .int .i64 r_50.2.2.now.Step, .bool r_50.2.2.now.Back, .int .i64 r_50.2.2.now.Try, .bool r_50.2.2.now.Ok, .int .u64 r_50.2.2.now.Now, .string (bs r_50.2.2.data), .int .i64 r_50.2.2.to_]⟩, ⟨42, b_13, [.int .i64 (wi64 (200 + ((wi64 ((id_1.tmod 4) + 4)).tmod 4)))]⟩, ⟨43, b_55, [.int .i64 r_50.1.Kind, .int .i64 r_50.1.From, .int .i64 r_50.1.To, .int .u64 r_50.1.Term, .int .u64 r_50.1.Index, .int .u64 r_50.1.Prev, .int .u64 r_50.1.Commit, .bool r_50.1.Ok, .slice A_51 r_50.1.Entries.length c_52, .string (bs r_50.1.Data)]⟩]) (ps := [b_55 = b_55]) (by kernel_rfl) (And.intro rfl trivial) ?_
    refine GoO.regionEnd ?_
    exact GoO.sub (ks := [5, 7, 10, 11, 12, 57, 58, 94]) (hk := [0, 1, 2]) (bk := [0]) (by kernel_rfl) (by kernel_rfl) (by kernel_rfl) (tontinelaw21_ClientGives_j0_ok n L0 id_1 seq_2 y_3 f_29 f_30 f_31 f_32 f_33 f_34 f_35 f_36 f_37 f_38 f_41 f_42 f_43 f_44 f_45 f_46 f_47 x_48 r_50 b_4 c_8 b_13 A_39 c_40 A_53 c_54 w0 S0 ih0 (r_50.1.Index != (wu64 (x_48 + 2))))
theorem tontinelaw21_ClientGives_j1_ok (n : Nat) (L0 : Int → Int → Int → Int → Bool → Int → Int → Int → Int → (List T_api_Step) → Int → Bool → Int → Bool → Int → (List UInt8) → Int → Int → Option Bool) (id_1 : Int) (seq_2 : Int) (y_3 : T_api_Reply) (f_29 : Int) (f_30 : Int) (f_31 : Int) (f_32 : Int) (f_33 : Bool) (f_34 : Int) (f_35 : Int) (f_36 : Int) (f_37 : Int) (f_38 : (List T_api_Step)) (f_41 : Int) (f_42 : Bool) (f_43 : Int) (f_44 : Bool) (f_45 : Int) (f_46 : (List UInt8)) (f_47 : Int) (x_48 : Int) (r_50 : T_api_Letter × Int × T_client_Client) (r_56 : T_api_Command × Int) (b_4 : Nat) (c_8 : Nat) (b_13 : Nat) (A_39 : Option Addr) (c_40 : Nat) (A_51 : Option Addr) (c_52 : Nat) (A_53 : Option Addr) (c_54 : Nat) (b_55 : Nat) (A_57 : Option Addr) (c_58 : Nat) (b_59 : Nat) (w0 : World) (S0 : Fam) (ih0 : ∀ (f_29 : Int) (f_30 : Int) (f_31 : Int) (f_32 : Int) (f_33 : Bool) (f_34 : Int) (f_35 : Int) (f_36 : Int) (f_37 : Int) (f_38 : (List T_api_Step)) (f_41 : Int) (f_42 : Bool) (f_43 : Int) (f_44 : Bool) (f_45 : Int) (f_46 : (List UInt8)) (f_47 : Int) (x_48 : Int) (A_39 : Option Addr) (c_40 : Nat), GoO (tontinelaw21_ClientGives.cx w0 S0) [(5, .pointer (some ⟨b_4, 0, none⟩)), (7, .pointer (some ⟨c_8, 0, none⟩)), (10, .func (.func 34) #[] ⟨[.pointer (some ⟨b_13, 0, none⟩)]⟩), (11, .int .u64 (wu64 ((wu64 ((wi64 ((seq_2.tmod 20) + 20)).tmod 20)) + 1))), (57, .int .u64 (wu64 ((wu64 ((wi64 ((seq_2.tmod 20) + 20)).tmod 20)) + 1))), (58, .int .u64 x_48)] [⟨40, b_4, [.int .i64 y_3.Err, .int .u64 y_3.Num, .int .u64 y_3.Extra]⟩, ⟨41, c_8, [.int .i64 f_29, .int .u64 f_30, .int .u64 f_31, .int .u64 f_32, .bool f_33, .int .i64 f_34, .int .u64 f_35, .int .u64 f_36, .int .u64 f_37, .slice A_39 f_38.length c_40, .int .i64 f_41, .bool f_42, .int .i64 f_43, .bool f_44, .int .u64 f_45, .string (bs f_46), .int .i64 f_47]⟩, ⟨42, b_13, [.int .i64 (wi64 (200 + ((wi64 ((id_1.tmod 4) + 4)).tmod 4)))]⟩] [Rd 0 kT_api_Step A_39 c_40 f_38] [.code c9_27, .inLoop c9_27, .inBlock 0, .code c9_55] (L0 f_29 f_30 f_31 f_32 f_33 f_34 f_35 f_36 f_37 f_38 f_41 f_42 f_43 f_44 f_45 f_46 f_47 x_48)) (b_61 : Bool) :
    GoO (tontinelaw21_ClientGives.cx w0 S0) [(5, .pointer (some ⟨b_4, 0, none⟩)), (7, .pointer (some ⟨c_8, 0, none⟩)), (10, .func (.func 34) #[] ⟨[.pointer (some ⟨b_13, 0, none⟩)]⟩), (11, .int .u64 (wu64 ((wu64 ((wi64 ((seq_2.tmod 20) + 20)).tmod 20)) + 1))), (12, .int .u64 x_48), (13, .pointer (some ⟨b_55, 0, none⟩)), (15, .pointer (some ⟨b_59, 0, none⟩)), (57, .int .u64 (wu64 ((wu64 ((wi64 ((seq_2.tmod 20) + 20)).tmod 20)) + 1))), (58, .int .u64 x_48), (80, .bool b_61)] [⟨40, b_4, [.int .i64 y_3.Err, .int .u64 y_3.Num, .int .u64 y_3.Extra]⟩, ⟨41, c_8, [.int .i64 r_50.2.2.id, .int .u64 r_50.2.2.session, .int .u64 r_50.2.2.seq, .int .u64 r_50.2.2.call, .bool r_50.2.2.busy, .int .i64 r_50.2.2.now.Kind, .int .u64 r_50.2.2.now.Session, .int .u64 r_50.2.2.now.Seq, .int .u64 r_50.2.2.now.Saga, .slice A_53 r_50.2.2.now.Steps.length c_54, .int .i64 r_50.2.2.now.Step, .bool r_50.2.2.now.Back, .int .i64 r_50.2.2.now.Try, .bool r_50.2.2.now.Ok, .int .u64 r_50.2.2.now.Now, .string (bs r_50.2.2.data), .int .i64 r_50.2.2.to_]⟩, ⟨42, b_13, [.int .i64 (wi64 (200 + ((wi64 ((id_1.tmod 4) + 4)).tmod 4)))]⟩, ⟨43, b_55, [.int .i64 r_50.1.Kind, .int .i64 r_50.1.From, .int .i64 r_50.1.To, .int .u64 r_50.1.Term, .int .u64 r_50.1.Index, .int .u64 r_50.1.Prev, .int .u64 r_50.1.Commit, .bool r_50.1.Ok, .slice A_51 r_50.1.Entries.length c_52, .string (bs r_50.1.Data)]⟩, ⟨44, b_59, [.int .i64 r_56.1.Kind, .int .u64 r_56.1.Session, .int .u64 r_56.1.Seq, .int .u64 r_56.1.Saga, .slice A_57 r_56.1.Steps.length c_58, .int .i64 r_56.1.Step, .bool r_56.1.Back, .int .i64 r_56.1.Try, .bool r_56.1.Ok, .int .u64 r_56.1.Now]⟩] [Rd 0 kT_api_Step A_53 c_54 r_50.2.2.now.Steps, Rd 0 kT_api_Entry A_51 c_52 r_50.1.Entries, Rd 0 kT_api_Step A_57 c_58 r_56.1.Steps] [.inRegion r9_43 [7, 8, 9, 10, 11, 12, 13, 14, 15, 16, 17, 18, 19, 20], .code c9_44, .code c9_49, .inBlock 1, .code c9_54, .inLoop c9_27, .inBlock 0, .code c9_55] (tontinelaw21_ClientGives.j1 n L0 id_1 seq_2 x_48 r_50 r_56 b_61) := by
  unfold tontinelaw21_ClientGives.j1
  refine GoO.exec (is := [7]) (hs := [.p]) (rest := [8, 9, 10, 11, 12, 13, 14, 15, 16, 17, 18, 19, 20]) (ks := [5, 7, 10, 11, 12, 13, 15, 57, 58, 81]) (env' := [(5, .pointer (some ⟨b_4, 0, none⟩)), (7, .pointer (some ⟨c_8, 0, none⟩)), (10, .func (.func 34) #[] ⟨[.pointer (some ⟨b_13, 0, none⟩)]⟩), (11, .int .u64 (wu64 ((wu64 ((wi64 ((seq_2.tmod 20) + 20)).tmod 20)) + 1))), (12, .int .u64 x_48), (13, .pointer (some ⟨b_55, 0, none⟩)), (15, .pointer (some ⟨b_59, 0, none⟩)), (57, .int .u64 (wu64 ((wu64 ((wi64 ((seq_2.tmod 20) + 20)).tmod 20)) + 1))), (58, .int .u64 x_48), (81, .bool b_61)]) (H' := [⟨40, b_4, [.int .i64 y_3.Err, .int .u64 y_3.Num, .int .u64 y_3.Extra]⟩, ⟨41, c_8, [.int .i64 r_50.2.2.id, .int .u64 r_50.2.2.session, .int .u64 r_50.2.2.seq, .int .u64 r_50.2.2.call, .bool r_50.2.2.busy, .int .i64 r_50.2.2.now.Kind, .int .u64 r_50.2.2.now.Session, .int .u64 r_50.2.2.now.Seq, .int .u64 r_50.2.2.now.Saga, .slice A_53 r_50.2.2.now.Steps.length c_54, .int .i64 r_50.2.2.now.Step, .bool r_50.2.2.now.Back, .int .i64 r_50.2.2.now.Try, .bool r_50.2.2.now.Ok, .int .u64 r_50.2.2.now.Now, .string (bs r_50.2.2.data), .int .i64 r_50.2.2.to_]⟩, ⟨42, b_13, [.int .i64 (wi64 (200 + ((wi64 ((id_1.tmod 4) + 4)).tmod 4)))]⟩, ⟨43, b_55, [.int .i64 r_50.1.Kind, .int .i64 r_50.1.From, .int .i64 r_50.1.To, .int .u64 r_50.1.Term, .int .u64 r_50.1.Index, .int .u64 r_50.1.Prev, .int .u64 r_50.1.Commit, .bool r_50.1.Ok, .slice A_51 r_50.1.Entries.length c_52, .string (bs r_50.1.Data)]⟩, ⟨44, b_59, [.int .i64 r_56.1.Kind, .int .u64 r_56.1.Session, .int .u64 r_56.1.Seq, .int .u64 r_56.1.Saga, .slice A_57 r_56.1.Steps.length c_58, .int .i64 r_56.1.Step, .bool r_56.1.Back, .int .i64 r_56.1.Try, .bool r_56.1.Ok, .int .u64 r_56.1.Now]⟩]) (ps := []) (by kernel_rfl) trivial ?_
  refine GoO.bsplit (t := 81) (by kernel_rfl) (fun h62 => ?_) (fun h62 => ?_)
  · refine GoO.exec (is := [8, 9, 10, 11, 12, 13]) (hs := [.p, .p, .p, .p, .p, .p]) (rest := [14, 15, 16, 17, 18, 19, 20]) (ks := [5, 7, 10, 11, 12, 13, 57, 58, 87]) (env' := [(5, .pointer (some ⟨b_4, 0, none⟩)), (7, .pointer (some ⟨c_8, 0, none⟩)), (10, .func (.func 34) #[] ⟨[.pointer (some ⟨b_13, 0, none⟩)]⟩), (11, .int .u64 (wu64 ((wu64 ((wi64 ((seq_2.tmod 20) + 20)).tmod 20)) + 1))), (12, .int .u64 x_48), (13, .pointer (some ⟨b_55, 0, none⟩)), (57, .int .u64 (wu64 ((wu64 ((wi64 ((seq_2.tmod 20) + 20)).tmod 20)) + 1))), (58, .int .u64 x_48), (87, .bool true)]) (H' := [⟨40, b_4, [.int .i64 y_3.Err, .int .u64 y_3.Num, .int .u64 y_3.Extra]⟩, ⟨41, c_8, [.int .i64 r_50.2.2.id, .int .u64 r_50.2.2.session, .int .u64 r_50.2.2.seq, .int .u64 r_50.2.2.call, .bool r_50.2.2.busy, .int .i64 r_50.2.2.now.Kind, .int .u64 r_50.2.2.now.Session, .int .u64 r_50.2.2.now.Seq, .int .u64 r_50.2.2.now.Saga, .slice A_53 r_50.2.2.now.Steps.length c_54, .int .i64 r_50.2.2.now.Step, .bool r_50.2.2.now.Back, .int .i64 r_50.2.2.now.Try, .bool r_50.2.2.now.Ok, .int .u64 r_50.2.2.now.Now, .string (bs r_50.2.2.data), .int .i64 r_50.2.2.to_]⟩, ⟨42, b_13, [.int .i64 (wi64 (200 + ((wi64 ((id_1.tmod 4) + 4)).tmod 4)))]⟩, ⟨43, b_55, [.int .i64 r_50.1.Kind, .int .i64 r_50.1.From, .int .i64 r_50.1.To, .int .u64 r_50.1.Term, .int .u64 r_50.1.Index, .int .u64 r_50.1.Prev, .int .u64 r_50.1.Commit, .bool r_50.1.Ok, .slice A_51 r_50.1.Entries.length c_52, .string (bs r_50.1.Data)]⟩, ⟨44, b_59, [.int .i64 r_56.1.Kind, .int .u64 r_56.1.Session, .int .u64 r_56.1.Seq, .int .u64 r_56.1.Saga, .slice A_57 r_56.1.Steps.length c_58, .int .i64 r_56.1.Step, .bool r_56.1.Back, .int .i64 r_56.1.Try, .bool r_56.1.Ok, .int .u64 r_56.1.Now]⟩]) (ps := []) (by kernel_rfl) trivial ?_
    exact GoO.sub (ks := [5, 7, 10, 11, 12, 13, 57, 58, 87]) (hk := [0, 1, 2, 3]) (bk := [0, 1]) (by kernel_rfl) (by kernel_rfl) (by kernel_rfl) (tontinelaw21_ClientGives_j2_ok n L0 id_1 seq_2 y_3 f_29 f_30 f_31 f_32 f_33 f_34 f_35 f_36 f_37 f_38 f_41 f_42 f_43 f_44 f_45 f_46 f_47 x_48 r_50 b_4 c_8 b_13 A_39 c_40 A_51 c_52 A_53 c_54 b_55 w0 S0 ih0 true)
  · refine GoO.exec (is := [8, 9, 10, 11, 12, 13]) (hs := [.p, .b 4, .p, .p, .p, .p]) (rest := [14, 15, 16, 17, 18, 19, 20]) (ks := [5, 7, 10, 11, 12, 13, 57, 58, 87]) (env' := [(5, .pointer (some ⟨b_4, 0, none⟩)), (7, .pointer (some ⟨c_8, 0, none⟩)), (10, .func (.func 34) #[] ⟨[.pointer (some ⟨b_13, 0, none⟩)]⟩), (11, .int .u64 (wu64 ((wu64 ((wi64 ((seq_2.tmod 20) + 20)).tmod 20)) + 1))), (12, .int .u64 x_48), (13, .pointer (some ⟨b_55, 0, none⟩)), (57, .int .u64 (wu64 ((wu64 ((wi64 ((seq_2.tmod 20) + 20)).tmod 20)) + 1))), (58, .int .u64 x_48), (87, .bool (r_56.1.Seq != (wu64 (x_48 + 1))))]) (H' := [⟨40, b_4, [.int .i64 y_3.Err, .int .u64 y_3.Num, .int .u64 y_3.Extra]⟩, ⟨41, c_8, [.int .i64 r_50.2.2.id, .int .u64 r_50.2.2.session, .int .u64 r_50.2.2.seq, .int .u64 r_50.2.2.call, .bool r_50.2.2.busy, .int .i64 r_50.2.2.now.Kind, .int .u64 r_50.2.2.now.Session, .int .u64 r_50.2.2.now.Seq, .int .u64 r_50.2.2.now.Saga, .slice A_53 r_50.2.2.now.Steps.length c_54, .int .i64 r_50.2.2.now.Step, .bool r_50.2.2.now.Back, .int .i64 r_50.2.2.now.Try, .bool r_50.2.2.now.Ok, .int .u64 r_50.2.2.now.Now, .string (bs r_50.2.2.data), .int .i64 r_50.2.2.to_]⟩, ⟨42, b_13, [.int .i64 (wi64 (200 + ((wi64 ((id_1.tmod 4) + 4)).tmod 4)))]⟩, ⟨43, b_55, [.int .i64 r_50.1.Kind, .int .i64 r_50.1.From, .int .i64 r_50.1.To, .int .u64 r_50.1.Term, .int .u64 r_50.1.Index, .int .u64 r_50.1.Prev, .int .u64 r_50.1.Commit, .bool r_50.1.Ok, .slice A_51 r_50.1.Entries.length c_52, .string (bs r_50.1.Data)]⟩, ⟨44, b_59, [.int .i64 r_56.1.Kind, .int .u64 r_56.1.Session, .int .u64 r_56.1.Seq, .int .u64 r_56.1.Saga, .slice A_57 r_56.1.Steps.length c_58, .int .i64 r_56.1.Step, .bool r_56.1.Back, .int .i64 r_56.1.Try, .bool r_56.1.Ok, .int .u64 r_56.1.Now]⟩]) (ps := [b_59 = b_59]) (by kernel_rfl) (And.intro rfl trivial) ?_
    exact GoO.sub (ks := [5, 7, 10, 11, 12, 13, 57, 58, 87]) (hk := [0, 1, 2, 3]) (bk := [0, 1]) (by kernel_rfl) (by kernel_rfl) (by kernel_rfl) (tontinelaw21_ClientGives_j2_ok n L0 id_1 seq_2 y_3 f_29 f_30 f_31 f_32 f_33 f_34 f_35 f_36 f_37 f_38 f_41 f_42 f_43 f_44 f_45 f_46 f_47 x_48 r_50 b_4 c_8 b_13 A_39 c_40 A_51 c_52 A_53 c_54 b_55 w0 S0 ih0 (r_56.1.Seq != (wu64 (x_48 + 1))))
theorem tontinelaw21_ClientGives_j4_ok (n : Nat) (r_97 : T_api_Letter × Int × T_client_Client) (r_103 : Int × Int × Bool) (w0 : World) (S0 : Fam) (b_107 : Bool) :
    GoO (tontinelaw21_ClientGives.cx w0 S0) [(23, .int .i64 r_97.2.1), (24, .int .u64 r_103.1), (25, .int .u64 r_103.2.1), (26, .bool r_103.2.2), (142, .bool b_107)] [] [] [.inRegion r9_64 [10, 11, 12, 13, 14, 15, 16, 17, 18, 19, 20, 21, 22, 23, 24, 25, 26], .code c9_65] (tontinelaw21_ClientGives.j4 n r_97 r_103 b_107) := by
  unfold tontinelaw21_ClientGives.j4
  refine GoO.exec (is := [10]) (hs := [.p]) (rest := [11, 12, 13, 14, 15, 16, 17, 18, 19, 20, 21, 22, 23, 24, 25, 26]) (ks := [23, 24, 25, 26, 143]) (env' := [(23, .int .i64 r_97.2.1), (24, .int .u64 r_103.1), (25, .int .u64 r_103.2.1), (26, .bool r_103.2.2), (143, .bool b_107)]) (H' := []) (ps := []) (by kernel_rfl) trivial ?_
  refine GoO.bsplit (t := 143) (by kernel_rfl) (fun h108 => ?_) (fun h108 => ?_)
  · refine GoO.exec (is := [11, 12, 13, 14]) (hs := [.p, .p, .p, .p]) (rest := [15, 16, 17, 18, 19, 20, 21, 22, 23, 24, 25, 26]) (ks := [24, 25, 26, 147]) (env' := [(24, .int .u64 r_103.1), (25, .int .u64 r_103.2.1), (26, .bool r_103.2.2), (147, .bool (r_97.2.1 == 40))]) (H' := []) (ps := []) (by kernel_rfl) trivial ?_
    refine GoO.bsplit (t := 147) (by kernel_rfl) (fun h109 => ?_) (fun h109 => ?_)
    · refine GoO.exec (is := [15, 16, 17, 18]) (hs := [.p, .p, .p, .p]) (rest := [19, 20, 21, 22, 23, 24, 25, 26]) (ks := [25, 26, 151]) (env' := [(25, .int .u64 r_103.2.1), (26, .bool r_103.2.2), (151, .bool (r_103.1 == 0))]) (H' := []) (ps := []) (by kernel_rfl) trivial ?_
      refine GoO.bsplit (t := 151) (by kernel_rfl) (fun h110 => ?_) (fun h110 => ?_)
      · refine GoO.exec (is := [19, 20, 21, 22]) (hs := [.p, .p, .p, .p]) (rest := [23, 24, 25, 26]) (ks := [26, 155]) (env' := [(26, .bool r_103.2.2), (155, .bool (r_103.2.1 == 0))]) (H' := []) (ps := []) (by kernel_rfl) trivial ?_
        refine GoO.bsplit (t := 155) (by kernel_rfl) (fun h111 => ?_) (fun h111 => ?_)
        · refine GoO.exec (is := [23, 24, 25, 26]) (hs := [.p, .p, .p, .p]) (rest := []) (ks := [6]) (env' := [(6, .bool (!r_103.2.2))]) (H' := []) (ps := []) (by kernel_rfl) trivial ?_
          refine GoO.regionEnd ?_
          exact GoO.ret' (h := c9_65e) (hs := []) (ps := []) (hk := []) (bk := []) Try.func9 () (by kernel_rfl) trivial (by kernel_rfl) (by kernel_rfl)
        · refine GoO.exec (is := [23, 24, 25, 26]) (hs := [.p, .p, .p, .p]) (rest := []) (ks := [6]) (env' := [(6, .bool false)]) (H' := []) (ps := []) (by kernel_rfl) trivial ?_
          refine GoO.regionEnd ?_
          exact GoO.ret' (h := c9_65e) (hs := []) (ps := []) (hk := []) (bk := []) Try.func9 () (by kernel_rfl) trivial (by kernel_rfl) (by kernel_rfl)
      · refine GoO.exec (is := [19, 20, 21, 22, 23, 24, 25, 26]) (hs := [.p, .p, .p, .p, .p, .p, .p, .p]) (rest := []) (ks := [6]) (env' := [(6, .bool false)]) (H' := []) (ps := []) (by kernel_rfl) trivial ?_
        refine GoO.regionEnd ?_
        exact GoO.ret' (h := c9_65e) (hs := []) (ps := []) (hk := []) (bk := []) Try.func9 () (by kernel_rfl) trivial (by kernel_rfl) (by kernel_rfl)
    · refine GoO.exec (is := [15, 16, 17, 18, 19, 20, 21, 22, 23, 24, 25, 26]) (hs := [.p, .p, .p, .p, .p, .p, .p, .p, .p, .p, .p, .p]) (rest := []) (ks := [6]) (env' := [(6, .bool false)]) (H' := []) (ps := []) (by kernel_rfl) trivial ?_
      refine GoO.regionEnd ?_
      exact GoO.ret' (h := c9_65e) (hs := []) (ps := []) (hk := []) (bk := []) Try.func9 () (by kernel_rfl) trivial (by kernel_rfl) (by kernel_rfl)
  · refine GoO.exec (is := [11, 12, 13, 14, 15, 16, 17, 18, 19, 20, 21, 22, 23, 24, 25, 26]) (hs := [.p, .p, .p, .p, .p, .p, .p, .p, .p, .p, .p, .p, .p, .p, .p, .p]) (rest := []) (ks := [6]) (env' := [(6, .bool false)]) (H' := []) (ps := []) (by kernel_rfl) trivial ?_
    refine GoO.regionEnd ?_
    exact GoO.ret' (h := c9_65e) (hs := []) (ps := []) (hk := []) (bk := []) Try.func9 () (by kernel_rfl) trivial (by kernel_rfl) (by kernel_rfl)
theorem tontinelaw21_ClientGives_j3_ok (n : Nat) (r_88 : T_api_Told × Bool × T_api_Letter × Bool × T_client_Client) (r_97 : T_api_Letter × Int × T_client_Client) (r_103 : Int × Int × Bool) (w0 : World) (S0 : Fam) (b_105 : Bool) :
    GoO (tontinelaw21_ClientGives.cx w0 S0) [(21, .bool r_88.2.2.2.1), (23, .int .i64 r_97.2.1), (24, .int .u64 r_103.1), (25, .int .u64 r_103.2.1), (26, .bool r_103.2.2), (138, .bool b_105)] [] [] [.inRegion r9_64 [6, 7, 8, 9, 10, 11, 12, 13, 14, 15, 16, 17, 18, 19, 20, 21, 22, 23, 24, 25, 26], .code c9_65] (tontinelaw21_ClientGives.j3 n r_88 r_97 r_103 b_105) := by
  unfold tontinelaw21_ClientGives.j3
  refine GoO.exec (is := [6]) (hs := [.p]) (rest := [7, 8, 9, 10, 11, 12, 13, 14, 15, 16, 17, 18, 19, 20, 21, 22, 23, 24, 25, 26]) (ks := [21, 23, 24, 25, 26, 139]) (env' := [(21, .bool r_88.2.2.2.1), (23, .int .i64 r_97.2.1), (24, .int .u64 r_103.1), (25, .int .u64 r_103.2.1), (26, .bool r_103.2.2), (139, .bool b_105)]) (H' := []) (ps := []) (by kernel_rfl) trivial ?_
  refine GoO.bsplit (t := 139) (by kernel_rfl) (fun h106 => ?_) (fun h106 => ?_)
  · refine GoO.exec (is := [7, 8, 9]) (hs := [.p, .p, .p]) (rest := [10, 11, 12, 13, 14, 15, 16, 17, 18, 19, 20, 21, 22, 23, 24, 25, 26]) (ks := [23, 24, 25, 26, 142]) (env' := [(23, .int .i64 r_97.2.1), (24, .int .u64 r_103.1), (25, .int .u64 r_103.2.1), (26, .bool r_103.2.2), (142, .bool (!r_88.2.2.2.1))]) (H' := []) (ps := []) (by kernel_rfl) trivial ?_
    exact GoO.sub (ks := [23, 24, 25, 26, 142]) (hk := []) (bk := []) (by kernel_rfl) (by kernel_rfl) (by kernel_rfl) (tontinelaw21_ClientGives_j4_ok n r_97 r_103 w0 S0 (!r_88.2.2.2.1))
  · refine GoO.exec (is := [7, 8, 9]) (hs := [.p, .p, .p]) (rest := [10, 11, 12, 13, 14, 15, 16, 17, 18, 19, 20, 21, 22, 23, 24, 25, 26]) (ks := [23, 24, 25, 26, 142]) (env' := [(23, .int .i64 r_97.2.1), (24, .int .u64 r_103.1), (25, .int .u64 r_103.2.1), (26, .bool r_103.2.2), (142, .bool false)]) (H' := []) (ps := []) (by kernel_rfl) trivial ?_
    exact GoO.sub (ks := [23, 24, 25, 26, 142]) (hk := []) (bk := []) (by kernel_rfl) (by kernel_rfl) (by kernel_rfl) (tontinelaw21_ClientGives_j4_ok n r_97 r_103 w0 S0 false)
end Go.GL
