import Derived.Test.YtfeddlhkiomdaaaKindsT1
import Derived.Test.YtfeddlhkiomdaaaProg
set_option linter.unusedVariables false
set_option linter.unusedSimpArgs false
set_option maxRecDepth 100000
namespace Go.GL
open Go Go.Proofs

/-! tontine/plan.Check -/
noncomputable def c47_0 : Code := bodyOf Try.f47
noncomputable def c47_1 : Code := cdL c47_0
noncomputable def c47_2 : Code := cdR c47_0
noncomputable def c47_3 : Code := cdL c47_2
noncomputable def c47_4 : Code := cdL c47_3
noncomputable def c47_5 : Code := cdR c47_3
noncomputable def c47_6 : Code := cdL c47_5
noncomputable def c47_7 : Code := cdL c47_6
noncomputable def c47_8 : Code := cdR c47_6
noncomputable def c47_9 : Code := cdR c47_5
noncomputable def c47_10 : Code := cdR c47_2
noncomputable def c47_11 : Code := cdL c47_10
noncomputable def c47_12 : Code := cdL c47_11
noncomputable def c47_13 : Code := cdR c47_11
noncomputable def c47_14 : Code := cdL c47_13
noncomputable def c47_15 : Code := cdL c47_14
noncomputable def c47_16 : Code := cdL c47_15
noncomputable def c47_17 : Code := cdR c47_15
noncomputable def c47_18 : Code := cdL c47_17
noncomputable def c47_19 : Code := cdL c47_18
noncomputable def c47_20 : Code := cdR c47_18
noncomputable def c47_21 : Code := cdR c47_17
noncomputable def c47_22 : Code := cdL c47_21
noncomputable def c47_23 : Code := cdL c47_22
noncomputable def c47_24 : Code := cdL c47_23
noncomputable def c47_25 : Code := cdR c47_23
noncomputable def c47_26 : Code := cdL c47_25
noncomputable def c47_27 : Code := cdR c47_25
noncomputable def c47_28 : Code := cdL c47_27
noncomputable def c47_29 : Code := cdL c47_28
noncomputable def c47_30 : Code := cdR c47_28
noncomputable def c47_31 : Code := cdR c47_27
noncomputable def c47_32 : Code := cdR c47_21
noncomputable def c47_33 : Code := cdR c47_10
noncomputable def c47_34 : Code := cdL c47_33
noncomputable def c47_35 : Code := cdR c47_33
noncomputable def r47_1 : Array Oper := cdO c47_1
noncomputable def r47_4 : Array Oper := cdO c47_4
noncomputable def r47_7 : Array Oper := cdO c47_7
noncomputable def r47_12 : Array Oper := cdO c47_12
noncomputable def r47_16 : Array Oper := cdO c47_16
noncomputable def r47_24 : Array Oper := cdO c47_24
noncomputable def r47_26 : Array Oper := cdO c47_26
noncomputable def r47_29 : Array Oper := cdO c47_29
noncomputable def r47_32 : Array Oper := cdO c47_32
noncomputable def r47_34 : Array Oper := cdO c47_34
theorem c47_0e : c47_0 = .seq c47_1 c47_2 := by kernel_rfl
theorem c47_1e : c47_1 = .region 0 r47_1 false := by kernel_rfl
theorem c47_2e : c47_2 = .seq c47_3 c47_10 := by kernel_rfl
theorem c47_3e : c47_3 = .seq c47_4 c47_5 := by kernel_rfl
theorem c47_4e : c47_4 = .region 1 r47_4 false := by kernel_rfl
theorem c47_5e : c47_5 = .cond (cdC c47_5) c47_6 c47_9 := by kernel_rfl
theorem c47_6e : c47_6 = .seq c47_7 c47_8 := by kernel_rfl
theorem c47_7e : c47_7 = .region 2 r47_7 false := by kernel_rfl
theorem c47_8e : c47_8 = .ret := by kernel_rfl
theorem c47_9e : c47_9 = .skip := by kernel_rfl
theorem c47_10e : c47_10 = .seq c47_11 c47_33 := by kernel_rfl
theorem c47_11e : c47_11 = .seq c47_12 c47_13 := by kernel_rfl
theorem c47_12e : c47_12 = .region 3 r47_12 false := by kernel_rfl
theorem c47_13e : c47_13 = .block 0 c47_14 := by kernel_rfl
theorem c47_14e : c47_14 = .loop c47_15 := by kernel_rfl
theorem c47_15e : c47_15 = .seq c47_16 c47_17 := by kernel_rfl
theorem c47_16e : c47_16 = .region 4 r47_16 false := by kernel_rfl
theorem c47_17e : c47_17 = .seq c47_18 c47_21 := by kernel_rfl
theorem c47_18e : c47_18 = .cond (cdC c47_18) c47_19 c47_20 := by kernel_rfl
theorem c47_19e : c47_19 = .skip := by kernel_rfl
theorem c47_20e : c47_20 = .exit 0 := by kernel_rfl
theorem c47_21e : c47_21 = .seq c47_22 c47_32 := by kernel_rfl
theorem c47_22e : c47_22 = .block 1 c47_23 := by kernel_rfl
theorem c47_23e : c47_23 = .seq c47_24 c47_25 := by kernel_rfl
theorem c47_24e : c47_24 = .region 5 r47_24 false := by kernel_rfl
theorem c47_25e : c47_25 = .seq c47_26 c47_27 := by kernel_rfl
theorem c47_26e : c47_26 = .region 6 r47_26 false := by kernel_rfl
theorem c47_27e : c47_27 = .cond (cdC c47_27) c47_28 c47_31 := by kernel_rfl
theorem c47_28e : c47_28 = .seq c47_29 c47_30 := by kernel_rfl
theorem c47_29e : c47_29 = .region 7 r47_29 false := by kernel_rfl
theorem c47_30e : c47_30 = .ret := by kernel_rfl
theorem c47_31e : c47_31 = .skip := by kernel_rfl
theorem c47_32e : c47_32 = .region 8 r47_32 false := by kernel_rfl
theorem c47_33e : c47_33 = .seq c47_34 c47_35 := by kernel_rfl
theorem c47_34e : c47_34 = .region 9 r47_34 false := by kernel_rfl
theorem c47_35e : c47_35 = .ret := by kernel_rfl
noncomputable def plan_Check.R (A_2 : Option Addr) (c_3 : Nat) : Pst Int where
  ε := Unit
  v := fun r x => .int .i64 r
  H := fun r x => []
  B := fun r x => []
noncomputable def plan_Check.cx (A_2 : Option Addr) (c_3 : Nat) (w0 : World) (S0 : Fam) : Cx Int := ⟨Try.prog, 47, Try.f47, 49, w0, S0, [], 0, plan_Check.R A_2 c_3⟩
theorem plan_Check_j1_ok (n : Nat) (L0 : Int → Option Int) (l_1 : (List T_api_Step)) (x_7 : Int) (A_2 : Option Addr) (c_3 : Nat) (w0 : World) (S0 : Fam) (ih0 : ∀ (x_7 : Int), GoO (plan_Check.cx A_2 c_3 w0 S0) [(13, .slice A_2 l_1.length c_3), (14, .int .i64 (l_1.length : Int)), (15, .int .i64 x_7)] [] [Rd 0 kT_api_Step A_2 c_3 l_1] [.code c47_15, .inLoop c47_15, .inBlock 0, .code c47_33] (L0 x_7)) (b_16 : Bool) :
    GoO (plan_Check.cx A_2 c_3 w0 S0) [(13, .slice A_2 l_1.length c_3), (14, .int .i64 (l_1.length : Int)), (15, .int .i64 x_7), (47, .bool b_16)] [] [Rd 0 kT_api_Step A_2 c_3 l_1] [.code c47_27, .inBlock 1, .code c47_32, .inLoop c47_15, .inBlock 0, .code c47_33] (plan_Check.j1 n L0 x_7 b_16) := by
  unfold plan_Check.j1
  refine GoO.ite' c47_27e (by kernel_rfl) (fun h17 => ?_) (fun h17 => ?_)
  · refine GoO.seq' c47_28e ?_
    refine GoO.region' (is := [0]) c47_29e (by kernel_rfl) ?_
    refine GoO.exec (is := [0]) (hs := [.p]) (rest := []) (ks := [2]) (env' := [(2, .int .i64 44)]) (H' := []) (ps := []) (by kernel_rfl) trivial ?_
    refine GoO.regionEnd ?_
    exact GoO.ret' (h := c47_30e) (hs := []) (ps := []) (hk := []) (bk := []) Try.func47 () (by kernel_rfl) trivial (by kernel_rfl) (by kernel_rfl)
  · refine GoO.skip' c47_31e ?_
    refine GoO.inBlock ?_
    refine GoO.region' (is := [0, 1]) c47_32e (by kernel_rfl) ?_
    refine GoO.exec (is := [0, 1]) (hs := [.p, .p]) (rest := []) (ks := [13, 14, 15]) (env' := [(13, .slice A_2 l_1.length c_3), (14, .int .i64 (l_1.length : Int)), (15, .int .i64 (wi64 (x_7 + 1)))]) (H' := []) (ps := []) (by kernel_rfl) trivial ?_
    refine GoO.regionEnd ?_
    refine GoO.inLoop ?_
    exact GoO.sub (ks := [13, 14, 15]) (hk := []) (bk := [0]) (by kernel_rfl) (by kernel_rfl) (by kernel_rfl) (ih0 (wi64 (x_7 + 1)))
theorem plan_Check_l0_ok (n : Nat) (l_1 : (List T_api_Step)) (A_2 : Option Addr) (c_3 : Nat) (w0 : World) (S0 : Fam) :
    ∀ (k : Nat) (x_7 : Int), GoO (plan_Check.cx A_2 c_3 w0 S0) [(13, .slice A_2 l_1.length c_3), (14, .int .i64 (l_1.length : Int)), (15, .int .i64 x_7)] [] [Rd 0 kT_api_Step A_2 c_3 l_1] [.code c47_15, .inLoop c47_15, .inBlock 0, .code c47_33] (plan_Check.l0 n l_1 k x_7) := by
  intro k
  induction k with
  | zero => intros; rw [plan_Check.l0.eq_1]; exact GoO.stop
  | succ k ih0 =>
    intro x_7
    rw [plan_Check.l0.eq_2]
    refine GoO.seq' c47_15e ?_
    refine GoO.region' (is := [0]) c47_16e (by kernel_rfl) ?_
    refine GoO.exec (is := [0]) (hs := [.p]) (rest := []) (ks := [13, 14, 15, 16]) (env' := [(13, .slice A_2 l_1.length c_3), (14, .int .i64 (l_1.length : Int)), (15, .int .i64 x_7), (16, .bool (decide (x_7 < (l_1.length : Int))))]) (H' := []) (ps := []) (by kernel_rfl) trivial ?_
    refine GoO.regionEnd ?_
    refine GoO.seq' c47_17e ?_
    refine GoO.ite' c47_18e (by kernel_rfl) (fun h8 => ?_) (fun h8 => ?_)
    · refine GoO.skip' c47_19e ?_
      refine GoO.seq' c47_21e ?_
      refine GoO.block' c47_22e ?_
      refine GoO.seq' c47_23e ?_
      refine GoO.region' (is := [0, 1, 2, 3]) c47_24e (by kernel_rfl) ?_
      refine GoO.guard (fun h9 => ?_)
      refine OpTo.go (GoO.idx (kk := .i64) (e := 50) (K := kT_api_Step) (A := A_2) (c := c_3) (xs := l_1) (iv := x_7) (j := 0) rfl (by kernel_rfl) (by kernel_rfl) (by kernel_rfl) (by kernel_rfl) rfl Reads.rd rfl h9.1 h9.2 (by decide) rfl ?_)
      refine OpTo.go (GoO.ldE' (K := kT_api_Step) (A := A_2) (c := c_3) (xs := l_1) (iN := x_7.toNat) (off := 0) (j := 0) rfl (by kernel_rfl) rfl Reads.rd (idx_lt h9.1 h9.2) (by decide) (Opn.flat _ _ _ _ _) (v := fun _ => .agg ⟨[.int .i64 ((rdL l_1 x_7).Part), .string (bs ((rdL l_1 x_7).Name)), .int .i64 ((rdL l_1 x_7).Budget)]⟩) (fun _ => by kernel_rfl) _ (fun _ => rfl) (fun _ => ?_))
      refine OpTo.go (GoO.new rfl 40 (cs := [.int .i64 0, .string (bs []), .int .i64 0]) (by kernel_rfl) _ (fun _ => rfl) (fun b_10 => ?_))
      refine GoO.exec (is := [3]) (hs := [.b 0]) (rest := []) (ks := [4, 13, 14, 15]) (env' := [(4, .pointer (some ⟨b_10, 0, none⟩)), (13, .slice A_2 l_1.length c_3), (14, .int .i64 (l_1.length : Int)), (15, .int .i64 x_7)]) (H' := [⟨40, b_10, [.int .i64 ((rdL l_1 x_7).Part), .string (bs ((rdL l_1 x_7).Name)), .int .i64 ((rdL l_1 x_7).Budget)]⟩]) (ps := [b_10 = b_10]) (by kernel_rfl) (And.intro rfl trivial) ?_
      refine GoO.regionEnd ?_
      refine GoO.seq' c47_25e ?_
      refine GoO.region' (is := [0, 1, 2, 3, 4, 5, 6, 7, 8, 9, 10, 11, 12, 13, 14, 15, 16, 17, 18, 19, 20, 21, 22, 23, 24, 25, 26, 27, 28]) c47_26e (by kernel_rfl) ?_
      refine GoO.exec (is := [0, 1, 2, 3]) (hs := [.p, .b 0, .p, .p]) (rest := [4, 5, 6, 7, 8, 9, 10, 11, 12, 13, 14, 15, 16, 17, 18, 19, 20, 21, 22, 23, 24, 25, 26, 27, 28]) (ks := [4, 13, 14, 15, 22]) (env' := [(4, .pointer (some ⟨b_10, 0, none⟩)), (13, .slice A_2 l_1.length c_3), (14, .int .i64 (l_1.length : Int)), (15, .int .i64 x_7), (22, .bool (decide (((rdL l_1 x_7).Part) < 0)))]) (H' := [⟨40, b_10, [.int .i64 ((rdL l_1 x_7).Part), .string (bs ((rdL l_1 x_7).Name)), .int .i64 ((rdL l_1 x_7).Budget)]⟩]) (ps := [b_10 = b_10]) (by kernel_rfl) (And.intro rfl trivial) ?_
      refine GoO.bsplit (t := 22) (by kernel_rfl) (fun h11 => ?_) (fun h11 => ?_)
      · refine GoO.exec (is := [4, 5, 6, 7, 8, 9, 10, 11, 12, 13, 14, 15, 16, 17, 18, 19, 20, 21, 22, 23, 24, 25, 26, 27, 28]) (hs := [.p, .p, .p, .p, .p, .p, .p, .p, .p, .p, .p, .p, .p, .p, .p, .p, .p, .p, .p, .p, .p, .p, .p, .p, .p]) (rest := []) (ks := [13, 14, 15, 47]) (env' := [(13, .slice A_2 l_1.length c_3), (14, .int .i64 (l_1.length : Int)), (15, .int .i64 x_7), (47, .bool true)]) (H' := [⟨40, b_10, [.int .i64 ((rdL l_1 x_7).Part), .string (bs ((rdL l_1 x_7).Name)), .int .i64 ((rdL l_1 x_7).Budget)]⟩]) (ps := []) (by kernel_rfl) trivial ?_
        refine GoO.regionEnd ?_
        exact GoO.sub (ks := [13, 14, 15, 47]) (hk := []) (bk := [0]) (by kernel_rfl) (by kernel_rfl) (by kernel_rfl) (plan_Check_j1_ok n (plan_Check.l0 n l_1 k) l_1 x_7 A_2 c_3 w0 S0 ih0 true)
      · refine GoO.exec (is := [4, 5, 6, 7, 8]) (hs := [.p, .b 0, .p, .p, .p]) (rest := [9, 10, 11, 12, 13, 14, 15, 16, 17, 18, 19, 20, 21, 22, 23, 24, 25, 26, 27, 28]) (ks := [4, 13, 14, 15, 27]) (env' := [(4, .pointer (some ⟨b_10, 0, none⟩)), (13, .slice A_2 l_1.length c_3), (14, .int .i64 (l_1.length : Int)), (15, .int .i64 x_7), (27, .bool (decide (((rdL l_1 x_7).Part) ≥ 4)))]) (H' := [⟨40, b_10, [.int .i64 ((rdL l_1 x_7).Part), .string (bs ((rdL l_1 x_7).Name)), .int .i64 ((rdL l_1 x_7).Budget)]⟩]) (ps := [b_10 = b_10]) (by kernel_rfl) (And.intro rfl trivial) ?_
        refine GoO.bsplit (t := 27) (by kernel_rfl) (fun h12 => ?_) (fun h12 => ?_)
        · refine GoO.exec (is := [9, 10, 11, 12, 13, 14, 15, 16, 17, 18, 19, 20, 21, 22, 23, 24, 25, 26, 27, 28]) (hs := [.p, .p, .p, .p, .p, .p, .p, .p, .p, .p, .p, .p, .p, .p, .p, .p, .p, .p, .p, .p]) (rest := []) (ks := [13, 14, 15, 47]) (env' := [(13, .slice A_2 l_1.length c_3), (14, .int .i64 (l_1.length : Int)), (15, .int .i64 x_7), (47, .bool true)]) (H' := [⟨40, b_10, [.int .i64 ((rdL l_1 x_7).Part), .string (bs ((rdL l_1 x_7).Name)), .int .i64 ((rdL l_1 x_7).Budget)]⟩]) (ps := []) (by kernel_rfl) trivial ?_
          refine GoO.regionEnd ?_
          exact GoO.sub (ks := [13, 14, 15, 47]) (hk := []) (bk := [0]) (by kernel_rfl) (by kernel_rfl) (by kernel_rfl) (plan_Check_j1_ok n (plan_Check.l0 n l_1 k) l_1 x_7 A_2 c_3 w0 S0 ih0 true)
        · refine GoO.exec (is := [9, 10, 11, 12, 13]) (hs := [.p, .b 0, .p, .p, .p]) (rest := [14, 15, 16, 17, 18, 19, 20, 21, 22, 23, 24, 25, 26, 27, 28]) (ks := [4, 13, 14, 15, 32]) (env' := [(4, .pointer (some ⟨b_10, 0, none⟩)), (13, .slice A_2 l_1.length c_3), (14, .int .i64 (l_1.length : Int)), (15, .int .i64 x_7), (32, .bool (((rdL l_1 x_7).Name) == ([] : List UInt8)))]) (H' := [⟨40, b_10, [.int .i64 ((rdL l_1 x_7).Part), .string (bs ((rdL l_1 x_7).Name)), .int .i64 ((rdL l_1 x_7).Budget)]⟩]) (ps := [b_10 = b_10]) (by kernel_rfl) (And.intro rfl trivial) ?_
          refine GoO.bsplit (t := 32) (by kernel_rfl) (fun h13 => ?_) (fun h13 => ?_)
          · refine GoO.exec (is := [14, 15, 16, 17, 18, 19, 20, 21, 22, 23, 24, 25, 26, 27, 28]) (hs := [.p, .p, .p, .p, .p, .p, .p, .p, .p, .p, .p, .p, .p, .p, .p]) (rest := []) (ks := [13, 14, 15, 47]) (env' := [(13, .slice A_2 l_1.length c_3), (14, .int .i64 (l_1.length : Int)), (15, .int .i64 x_7), (47, .bool true)]) (H' := [⟨40, b_10, [.int .i64 ((rdL l_1 x_7).Part), .string (bs ((rdL l_1 x_7).Name)), .int .i64 ((rdL l_1 x_7).Budget)]⟩]) (ps := []) (by kernel_rfl) trivial ?_
            refine GoO.regionEnd ?_
            exact GoO.sub (ks := [13, 14, 15, 47]) (hk := []) (bk := [0]) (by kernel_rfl) (by kernel_rfl) (by kernel_rfl) (plan_Check_j1_ok n (plan_Check.l0 n l_1 k) l_1 x_7 A_2 c_3 w0 S0 ih0 true)
          · refine GoO.exec (is := [14, 15, 16, 17, 18, 19]) (hs := [.p, .b 0, .p, .p, .p, .p]) (rest := [20, 21, 22, 23, 24, 25, 26, 27, 28]) (ks := [4, 13, 14, 15, 38]) (env' := [(4, .pointer (some ⟨b_10, 0, none⟩)), (13, .slice A_2 l_1.length c_3), (14, .int .i64 (l_1.length : Int)), (15, .int .i64 x_7), (38, .bool (decide ((((rdL l_1 x_7).Name).length : Int) > 16)))]) (H' := [⟨40, b_10, [.int .i64 ((rdL l_1 x_7).Part), .string (bs ((rdL l_1 x_7).Name)), .int .i64 ((rdL l_1 x_7).Budget)]⟩]) (ps := [b_10 = b_10]) (by kernel_rfl) (And.intro rfl trivial) ?_
            refine GoO.bsplit (t := 38) (by kernel_rfl) (fun h14 => ?_) (fun h14 => ?_)
            · refine GoO.exec (is := [20, 21, 22, 23, 24, 25, 26, 27, 28]) (hs := [.p, .p, .p, .p, .p, .p, .p, .p, .p]) (rest := []) (ks := [13, 14, 15, 47]) (env' := [(13, .slice A_2 l_1.length c_3), (14, .int .i64 (l_1.length : Int)), (15, .int .i64 x_7), (47, .bool true)]) (H' := [⟨40, b_10, [.int .i64 ((rdL l_1 x_7).Part), .string (bs ((rdL l_1 x_7).Name)), .int .i64 ((rdL l_1 x_7).Budget)]⟩]) (ps := []) (by kernel_rfl) trivial ?_
              refine GoO.regionEnd ?_
              exact GoO.sub (ks := [13, 14, 15, 47]) (hk := []) (bk := [0]) (by kernel_rfl) (by kernel_rfl) (by kernel_rfl) (plan_Check_j1_ok n (plan_Check.l0 n l_1 k) l_1 x_7 A_2 c_3 w0 S0 ih0 true)
            · refine GoO.exec (is := [20, 21, 22, 23, 24]) (hs := [.p, .b 0, .p, .p, .p]) (rest := [25, 26, 27, 28]) (ks := [4, 13, 14, 15, 43]) (env' := [(4, .pointer (some ⟨b_10, 0, none⟩)), (13, .slice A_2 l_1.length c_3), (14, .int .i64 (l_1.length : Int)), (15, .int .i64 x_7), (43, .bool (decide (((rdL l_1 x_7).Budget) < 1)))]) (H' := [⟨40, b_10, [.int .i64 ((rdL l_1 x_7).Part), .string (bs ((rdL l_1 x_7).Name)), .int .i64 ((rdL l_1 x_7).Budget)]⟩]) (ps := [b_10 = b_10]) (by kernel_rfl) (And.intro rfl trivial) ?_
              refine GoO.bsplit (t := 43) (by kernel_rfl) (fun h15 => ?_) (fun h15 => ?_)
              · refine GoO.exec (is := [25, 26, 27, 28]) (hs := [.p, .p, .p, .p]) (rest := []) (ks := [13, 14, 15, 47]) (env' := [(13, .slice A_2 l_1.length c_3), (14, .int .i64 (l_1.length : Int)), (15, .int .i64 x_7), (47, .bool true)]) (H' := [⟨40, b_10, [.int .i64 ((rdL l_1 x_7).Part), .string (bs ((rdL l_1 x_7).Name)), .int .i64 ((rdL l_1 x_7).Budget)]⟩]) (ps := []) (by kernel_rfl) trivial ?_
                refine GoO.regionEnd ?_
                exact GoO.sub (ks := [13, 14, 15, 47]) (hk := []) (bk := [0]) (by kernel_rfl) (by kernel_rfl) (by kernel_rfl) (plan_Check_j1_ok n (plan_Check.l0 n l_1 k) l_1 x_7 A_2 c_3 w0 S0 ih0 true)
              · refine GoO.exec (is := [25, 26, 27, 28]) (hs := [.p, .b 0, .p, .p]) (rest := []) (ks := [13, 14, 15, 47]) (env' := [(13, .slice A_2 l_1.length c_3), (14, .int .i64 (l_1.length : Int)), (15, .int .i64 x_7), (47, .bool (decide (((rdL l_1 x_7).Budget) > 9)))]) (H' := [⟨40, b_10, [.int .i64 ((rdL l_1 x_7).Part), .string (bs ((rdL l_1 x_7).Name)), .int .i64 ((rdL l_1 x_7).Budget)]⟩]) (ps := [b_10 = b_10]) (by kernel_rfl) (And.intro rfl trivial) ?_
                refine GoO.regionEnd ?_
                exact GoO.sub (ks := [13, 14, 15, 47]) (hk := []) (bk := [0]) (by kernel_rfl) (by kernel_rfl) (by kernel_rfl) (plan_Check_j1_ok n (plan_Check.l0 n l_1 k) l_1 x_7 A_2 c_3 w0 S0 ih0 (decide (((rdL l_1 x_7).Budget) > 9)))
    · refine GoO.exit' c47_20e rfl ?_
      refine GoO.seq' c47_33e ?_
      refine GoO.region' (is := [0]) c47_34e (by kernel_rfl) ?_
      refine GoO.exec (is := [0]) (hs := [.p]) (rest := []) (ks := [2]) (env' := [(2, .int .i64 0)]) (H' := []) (ps := []) (by kernel_rfl) trivial ?_
      refine GoO.regionEnd ?_
      exact GoO.ret' (h := c47_35e) (hs := []) (ps := []) (hk := []) (bk := []) Try.func47 () (by kernel_rfl) trivial (by kernel_rfl) (by kernel_rfl)
theorem plan_Check_j0_ok (n : Nat) (l_1 : (List T_api_Step)) (A_2 : Option Addr) (c_3 : Nat) (w0 : World) (S0 : Fam) (b_5 : Bool) :
    GoO (plan_Check.cx A_2 c_3 w0 S0) [(0, .slice A_2 l_1.length c_3), (12, .bool b_5)] [] [Rd 0 kT_api_Step A_2 c_3 l_1] [.code c47_5, .code c47_10] (plan_Check.j0 n l_1 b_5) := by
  unfold plan_Check.j0
  refine GoO.ite' c47_5e (by kernel_rfl) (fun h6 => ?_) (fun h6 => ?_)
  · refine GoO.seq' c47_6e ?_
    refine GoO.region' (is := [0]) c47_7e (by kernel_rfl) ?_
    refine GoO.exec (is := [0]) (hs := [.p]) (rest := []) (ks := [2]) (env' := [(2, .int .i64 44)]) (H' := []) (ps := []) (by kernel_rfl) trivial ?_
    refine GoO.regionEnd ?_
    exact GoO.ret' (h := c47_8e) (hs := []) (ps := []) (hk := []) (bk := []) Try.func47 () (by kernel_rfl) trivial (by kernel_rfl) (by kernel_rfl)
  · refine GoO.skip' c47_9e ?_
    refine GoO.seq' c47_10e ?_
    refine GoO.seq' c47_11e ?_
    refine GoO.region' (is := [0, 1, 2]) c47_12e (by kernel_rfl) ?_
    refine GoO.exec (is := [0, 1, 2]) (hs := [.p, .p, .p]) (rest := []) (ks := [13, 14, 15]) (env' := [(13, .slice A_2 l_1.length c_3), (14, .int .i64 (l_1.length : Int)), (15, .int .i64 0)]) (H' := []) (ps := []) (by kernel_rfl) trivial ?_
    refine GoO.regionEnd ?_
    refine GoO.block' c47_13e ?_
    refine GoO.loop' c47_14e ?_
    exact GoO.sub (ks := [13, 14, 15]) (hk := []) (bk := [0]) (by kernel_rfl) (by kernel_rfl) (by kernel_rfl) (plan_Check_l0_ok n l_1 A_2 c_3 w0 S0 n 0)
theorem plan_Check_ok (n : Nat) (l_1 : (List T_api_Step)) (A_2 : Option Addr) (c_3 : Nat) :
    Meets Try.prog 47 [.slice A_2 l_1.length c_3] 0 [] [] [Rd 0 kT_api_Step A_2 c_3 l_1] (plan_Check.f n l_1) (plan_Check.R A_2 c_3) := by
  refine Meets.of (c := c47_0) (n := 49) Try.func47 (by kernel_rfl) (by kernel_rfl) (by kernel_rfl) fun w0 S0 => ?_
  unfold plan_Check.f
  show GoO (plan_Check.cx A_2 c_3 w0 S0) [(0, .slice A_2 l_1.length c_3)] [] [Rd 0 kT_api_Step A_2 c_3 l_1] [.code c47_0] _
  refine GoO.seq' c47_0e ?_
  refine GoO.region' (is := [0]) c47_1e (by kernel_rfl) ?_
  refine GoO.exec (is := [0]) (hs := [.p]) (rest := []) (ks := [0]) (env' := [(0, .slice A_2 l_1.length c_3)]) (H' := []) (ps := []) (by kernel_rfl) trivial ?_
  refine GoO.regionEnd ?_
  refine GoO.seq' c47_2e ?_
  refine GoO.seq' c47_3e ?_
  refine GoO.region' (is := [0, 1, 2, 3, 4, 5, 6, 7]) c47_4e (by kernel_rfl) ?_
  refine GoO.exec (is := [0, 1, 2, 3]) (hs := [.p, .p, .p, .p]) (rest := [4, 5, 6, 7]) (ks := [0, 8]) (env' := [(0, .slice A_2 l_1.length c_3), (8, .bool (decide ((l_1.length : Int) < 1)))]) (H' := []) (ps := []) (by kernel_rfl) trivial ?_
  refine GoO.bsplit (t := 8) (by kernel_rfl) (fun h4 => ?_) (fun h4 => ?_)
  · refine GoO.exec (is := [4, 5, 6, 7]) (hs := [.p, .p, .p, .p]) (rest := []) (ks := [0, 12]) (env' := [(0, .slice A_2 l_1.length c_3), (12, .bool true)]) (H' := []) (ps := []) (by kernel_rfl) trivial ?_
    refine GoO.regionEnd ?_
    exact GoO.sub (ks := [0, 12]) (hk := []) (bk := [0]) (by kernel_rfl) (by kernel_rfl) (by kernel_rfl) (plan_Check_j0_ok n l_1 A_2 c_3 w0 S0 true)
  · refine GoO.exec (is := [4, 5, 6, 7]) (hs := [.p, .p, .p, .p]) (rest := []) (ks := [0, 12]) (env' := [(0, .slice A_2 l_1.length c_3), (12, .bool (decide ((l_1.length : Int) > 64)))]) (H' := []) (ps := []) (by kernel_rfl) trivial ?_
    refine GoO.regionEnd ?_
    exact GoO.sub (ks := [0, 12]) (hk := []) (bk := [0]) (by kernel_rfl) (by kernel_rfl) (by kernel_rfl) (plan_Check_j0_ok n l_1 A_2 c_3 w0 S0 (decide ((l_1.length : Int) > 64)))

/-! tontine/command.May -/
noncomputable def c18_0 : Code := bodyOf Try.f18
noncomputable def c18_1 : Code := cdL c18_0
noncomputable def c18_2 : Code := cdR c18_0
noncomputable def c18_3 : Code := cdL c18_2
noncomputable def c18_4 : Code := cdL c18_3
noncomputable def c18_5 : Code := cdR c18_3
noncomputable def c18_6 : Code := cdL c18_5
noncomputable def c18_7 : Code := cdL c18_6
noncomputable def c18_8 : Code := cdL c18_7
noncomputable def c18_9 : Code := cdR c18_7
noncomputable def c18_10 : Code := cdL c18_9
noncomputable def c18_11 : Code := cdR c18_9
noncomputable def c18_12 : Code := cdL c18_11
noncomputable def c18_13 : Code := cdR c18_11
noncomputable def c18_14 : Code := cdL c18_13
noncomputable def c18_15 : Code := cdR c18_13
noncomputable def c18_16 : Code := cdR c18_6
noncomputable def c18_17 : Code := cdL c18_16
noncomputable def c18_18 : Code := cdL c18_17
noncomputable def c18_19 : Code := cdR c18_17
noncomputable def c18_20 : Code := cdR c18_16
noncomputable def c18_21 : Code := cdL c18_20
noncomputable def c18_22 : Code := cdR c18_20
noncomputable def c18_23 : Code := cdL c18_22
noncomputable def c18_24 : Code := cdL c18_23
noncomputable def c18_25 : Code := cdR c18_23
noncomputable def c18_26 : Code := cdR c18_22
noncomputable def c18_27 : Code := cdL c18_26
noncomputable def c18_28 : Code := cdR c18_26
noncomputable def c18_29 : Code := cdL c18_28
noncomputable def c18_30 : Code := cdL c18_29
noncomputable def c18_31 : Code := cdR c18_29
noncomputable def c18_32 : Code := cdR c18_28
noncomputable def c18_33 : Code := cdR c18_2
noncomputable def c18_34 : Code := cdL c18_33
noncomputable def c18_35 : Code := cdR c18_33
noncomputable def r18_1 : Array Oper := cdO c18_1
noncomputable def r18_4 : Array Oper := cdO c18_4
noncomputable def r18_8 : Array Oper := cdO c18_8
noncomputable def r18_12 : Array Oper := cdO c18_12
noncomputable def r18_15 : Array Oper := cdO c18_15
noncomputable def r18_18 : Array Oper := cdO c18_18
noncomputable def r18_21 : Array Oper := cdO c18_21
noncomputable def r18_24 : Array Oper := cdO c18_24
noncomputable def r18_27 : Array Oper := cdO c18_27
noncomputable def r18_30 : Array Oper := cdO c18_30
noncomputable def r18_34 : Array Oper := cdO c18_34
theorem c18_0e : c18_0 = .seq c18_1 c18_2 := by kernel_rfl
theorem c18_1e : c18_1 = .region 0 r18_1 false := by kernel_rfl
theorem c18_2e : c18_2 = .seq c18_3 c18_33 := by kernel_rfl
theorem c18_3e : c18_3 = .seq c18_4 c18_5 := by kernel_rfl
theorem c18_4e : c18_4 = .region 1 r18_4 false := by kernel_rfl
theorem c18_5e : c18_5 = .block 0 c18_6 := by kernel_rfl
theorem c18_6e : c18_6 = .seq c18_7 c18_16 := by kernel_rfl
theorem c18_7e : c18_7 = .seq c18_8 c18_9 := by kernel_rfl
theorem c18_8e : c18_8 = .region 2 r18_8 false := by kernel_rfl
theorem c18_9e : c18_9 = .cond (cdC c18_9) c18_10 c18_11 := by kernel_rfl
theorem c18_10e : c18_10 = .skip := by kernel_rfl
theorem c18_11e : c18_11 = .seq c18_12 c18_13 := by kernel_rfl
theorem c18_12e : c18_12 = .region 3 r18_12 false := by kernel_rfl
theorem c18_13e : c18_13 = .cond (cdC c18_13) c18_14 c18_15 := by kernel_rfl
theorem c18_14e : c18_14 = .skip := by kernel_rfl
theorem c18_15e : c18_15 = .region 4 r18_15 false := by kernel_rfl
theorem c18_16e : c18_16 = .cond (cdC c18_16) c18_17 c18_20 := by kernel_rfl
theorem c18_17e : c18_17 = .seq c18_18 c18_19 := by kernel_rfl
theorem c18_18e : c18_18 = .region 5 r18_18 false := by kernel_rfl
theorem c18_19e : c18_19 = .ret := by kernel_rfl
theorem c18_20e : c18_20 = .seq c18_21 c18_22 := by kernel_rfl
theorem c18_21e : c18_21 = .region 6 r18_21 false := by kernel_rfl
theorem c18_22e : c18_22 = .cond (cdC c18_22) c18_23 c18_26 := by kernel_rfl
theorem c18_23e : c18_23 = .seq c18_24 c18_25 := by kernel_rfl
theorem c18_24e : c18_24 = .region 7 r18_24 false := by kernel_rfl
theorem c18_25e : c18_25 = .ret := by kernel_rfl
theorem c18_26e : c18_26 = .seq c18_27 c18_28 := by kernel_rfl
theorem c18_27e : c18_27 = .region 8 r18_27 false := by kernel_rfl
theorem c18_28e : c18_28 = .cond (cdC c18_28) c18_29 c18_32 := by kernel_rfl
theorem c18_29e : c18_29 = .seq c18_30 c18_31 := by kernel_rfl
theorem c18_30e : c18_30 = .region 9 r18_30 false := by kernel_rfl
theorem c18_31e : c18_31 = .ret := by kernel_rfl
theorem c18_32e : c18_32 = .skip := by kernel_rfl
theorem c18_33e : c18_33 = .seq c18_34 c18_35 := by kernel_rfl
theorem c18_34e : c18_34 = .region 10 r18_34 false := by kernel_rfl
theorem c18_35e : c18_35 = .ret := by kernel_rfl
noncomputable def command_May.R (A_2 : Option Addr) (c_3 : Nat) : Pst Bool where
  ε := Unit
  v := fun r x => .bool r
  H := fun r x => []
  B := fun r x => []
noncomputable def command_May.cx (A_2 : Option Addr) (c_3 : Nat) (w0 : World) (S0 : Fam) : Cx Bool := ⟨Try.prog, 18, Try.f18, 95, w0, S0, [], 0, command_May.R A_2 c_3⟩
theorem command_May_j1_ok (n : Nat) (A_2 : Option Addr) (c_3 : Nat) (w0 : World) (S0 : Fam) (b_13 : Bool) :
    GoO (command_May.cx A_2 c_3 w0 S0) [(2, .bool b_13)] [] [] [.code c18_19, .inBlock 0, .code c18_33] (command_May.j1 n b_13) := by
  unfold command_May.j1
  exact GoO.ret' (h := c18_19e) (hs := []) (ps := []) (hk := []) (bk := []) Try.func18 () (by kernel_rfl) trivial (by kernel_rfl) (by kernel_rfl)
theorem command_May_j2_ok (n : Nat) (A_2 : Option Addr) (c_3 : Nat) (w0 : World) (S0 : Fam) (b_20 : Bool) :
    GoO (command_May.cx A_2 c_3 w0 S0) [(2, .bool b_20)] [] [] [.code c18_25, .inBlock 0, .code c18_33] (command_May.j2 n b_20) := by
  unfold command_May.j2
  exact GoO.ret' (h := c18_25e) (hs := []) (ps := []) (hk := []) (bk := []) Try.func18 () (by kernel_rfl) trivial (by kernel_rfl) (by kernel_rfl)
theorem command_May_j3_ok (n : Nat) (A_2 : Option Addr) (c_3 : Nat) (w0 : World) (S0 : Fam) (b_28 : Bool) :
    GoO (command_May.cx A_2 c_3 w0 S0) [(2, .bool b_28)] [] [] [.code c18_31, .inBlock 0, .code c18_33] (command_May.j3 n b_28) := by
  unfold command_May.j3
  exact GoO.ret' (h := c18_31e) (hs := []) (ps := []) (hk := []) (bk := []) Try.func18 () (by kernel_rfl) trivial (by kernel_rfl) (by kernel_rfl)
theorem command_May_j0_ok (n : Nat) (c_1 : T_api_Command) (A_2 : Option Addr) (c_3 : Nat) (b_4 : Nat) (w0 : World) (S0 : Fam) (b_7 : Bool) :
    GoO (command_May.cx A_2 c_3 w0 S0) [(1, .pointer (some ⟨b_4, 0, none⟩)), (4, .int .i64 c_1.Kind), (5, .bool b_7)] [⟨40, b_4, [.int .i64 c_1.Kind, .int .u64 c_1.Session, .int .u64 c_1.Seq, .int .u64 c_1.Saga, .slice A_2 c_1.Steps.length c_3, .int .i64 c_1.Step, .bool c_1.Back, .int .i64 c_1.Try, .bool c_1.Ok, .int .u64 c_1.Now]⟩] [Rd 0 kT_api_Step A_2 c_3 c_1.Steps] [.code c18_16, .inBlock 0, .code c18_33] (command_May.j0 n c_1 b_7) := by
  unfold command_May.j0
  refine GoO.ite' c18_16e (by kernel_rfl) (fun h8 => ?_) (fun h8 => ?_)
  · refine GoO.seq' c18_17e ?_
    refine GoO.region' (is := [0, 1, 2, 3, 4, 5, 6, 7, 8, 9, 10, 11, 12, 13, 14, 15, 16, 17, 18, 19, 20, 21, 22, 23, 24]) c18_18e (by kernel_rfl) ?_
    refine GoO.exec (is := [0, 1, 2, 3, 4]) (hs := [.p, .b 0, .p, .p, .p]) (rest := [5, 6, 7, 8, 9, 10, 11, 12, 13, 14, 15, 16, 17, 18, 19, 20, 21, 22, 23, 24]) (ks := [1, 13]) (env' := [(1, .pointer (some ⟨b_4, 0, none⟩)), (13, .bool ((c_1.Steps.length : Int) == 0))]) (H' := [⟨40, b_4, [.int .i64 c_1.Kind, .int .u64 c_1.Session, .int .u64 c_1.Seq, .int .u64 c_1.Saga, .slice A_2 c_1.Steps.length c_3, .int .i64 c_1.Step, .bool c_1.Back, .int .i64 c_1.Try, .bool c_1.Ok, .int .u64 c_1.Now]⟩]) (ps := [b_4 = b_4]) (by kernel_rfl) (And.intro rfl trivial) ?_
    refine GoO.bsplit (t := 13) (by kernel_rfl) (fun h9 => ?_) (fun h9 => ?_)
    · refine GoO.exec (is := [5, 6, 7, 8, 9]) (hs := [.p, .b 0, .p, .p, .p]) (rest := [10, 11, 12, 13, 14, 15, 16, 17, 18, 19, 20, 21, 22, 23, 24]) (ks := [1, 18]) (env' := [(1, .pointer (some ⟨b_4, 0, none⟩)), (18, .bool (c_1.Step == 0))]) (H' := [⟨40, b_4, [.int .i64 c_1.Kind, .int .u64 c_1.Session, .int .u64 c_1.Seq, .int .u64 c_1.Saga, .slice A_2 c_1.Steps.length c_3, .int .i64 c_1.Step, .bool c_1.Back, .int .i64 c_1.Try, .bool c_1.Ok, .int .u64 c_1.Now]⟩]) (ps := [b_4 = b_4]) (by kernel_rfl) (And.intro rfl trivial) ?_
      refine GoO.bsplit (t := 18) (by kernel_rfl) (fun h10 => ?_) (fun h10 => ?_)
      · refine GoO.exec (is := [10, 11, 12, 13, 14]) (hs := [.p, .b 0, .p, .p, .p]) (rest := [15, 16, 17, 18, 19, 20, 21, 22, 23, 24]) (ks := [1, 23]) (env' := [(1, .pointer (some ⟨b_4, 0, none⟩)), (23, .bool (!c_1.Back))]) (H' := [⟨40, b_4, [.int .i64 c_1.Kind, .int .u64 c_1.Session, .int .u64 c_1.Seq, .int .u64 c_1.Saga, .slice A_2 c_1.Steps.length c_3, .int .i64 c_1.Step, .bool c_1.Back, .int .i64 c_1.Try, .bool c_1.Ok, .int .u64 c_1.Now]⟩]) (ps := [b_4 = b_4]) (by kernel_rfl) (And.intro rfl trivial) ?_
        refine GoO.bsplit (t := 23) (by kernel_rfl) (fun h11 => ?_) (fun h11 => ?_)
        · refine GoO.exec (is := [15, 16, 17, 18, 19]) (hs := [.p, .b 0, .p, .p, .p]) (rest := [20, 21, 22, 23, 24]) (ks := [1, 28]) (env' := [(1, .pointer (some ⟨b_4, 0, none⟩)), (28, .bool (c_1.Try == 0))]) (H' := [⟨40, b_4, [.int .i64 c_1.Kind, .int .u64 c_1.Session, .int .u64 c_1.Seq, .int .u64 c_1.Saga, .slice A_2 c_1.Steps.length c_3, .int .i64 c_1.Step, .bool c_1.Back, .int .i64 c_1.Try, .bool c_1.Ok, .int .u64 c_1.Now]⟩]) (ps := [b_4 = b_4]) (by kernel_rfl) (And.intro rfl trivial) ?_
          refine GoO.bsplit (t := 28) (by kernel_rfl) (fun h12 => ?_) (fun h12 => ?_)
          · refine GoO.exec (is := [20, 21, 22, 23, 24]) (hs := [.p, .b 0, .p, .p, .p]) (rest := []) (ks := [2]) (env' := [(2, .bool (!c_1.Ok))]) (H' := [⟨40, b_4, [.int .i64 c_1.Kind, .int .u64 c_1.Session, .int .u64 c_1.Seq, .int .u64 c_1.Saga, .slice A_2 c_1.Steps.length c_3, .int .i64 c_1.Step, .bool c_1.Back, .int .i64 c_1.Try, .bool c_1.Ok, .int .u64 c_1.Now]⟩]) (ps := [b_4 = b_4]) (by kernel_rfl) (And.intro rfl trivial) ?_
            refine GoO.regionEnd ?_
            exact GoO.sub (ks := [2]) (hk := []) (bk := []) (by kernel_rfl) (by kernel_rfl) (by kernel_rfl) (command_May_j1_ok n A_2 c_3 w0 S0 (!c_1.Ok))
          · refine GoO.exec (is := [20, 21, 22, 23, 24]) (hs := [.p, .p, .p, .p, .p]) (rest := []) (ks := [2]) (env' := [(2, .bool false)]) (H' := [⟨40, b_4, [.int .i64 c_1.Kind, .int .u64 c_1.Session, .int .u64 c_1.Seq, .int .u64 c_1.Saga, .slice A_2 c_1.Steps.length c_3, .int .i64 c_1.Step, .bool c_1.Back, .int .i64 c_1.Try, .bool c_1.Ok, .int .u64 c_1.Now]⟩]) (ps := []) (by kernel_rfl) trivial ?_
            refine GoO.regionEnd ?_
            exact GoO.sub (ks := [2]) (hk := []) (bk := []) (by kernel_rfl) (by kernel_rfl) (by kernel_rfl) (command_May_j1_ok n A_2 c_3 w0 S0 false)
        · refine GoO.exec (is := [15, 16, 17, 18, 19, 20, 21, 22, 23, 24]) (hs := [.p, .p, .p, .p, .p, .p, .p, .p, .p, .p]) (rest := []) (ks := [2]) (env' := [(2, .bool false)]) (H' := [⟨40, b_4, [.int .i64 c_1.Kind, .int .u64 c_1.Session, .int .u64 c_1.Seq, .int .u64 c_1.Saga, .slice A_2 c_1.Steps.length c_3, .int .i64 c_1.Step, .bool c_1.Back, .int .i64 c_1.Try, .bool c_1.Ok, .int .u64 c_1.Now]⟩]) (ps := []) (by kernel_rfl) trivial ?_
          refine GoO.regionEnd ?_
          exact GoO.sub (ks := [2]) (hk := []) (bk := []) (by kernel_rfl) (by kernel_rfl) (by kernel_rfl) (command_May_j1_ok n A_2 c_3 w0 S0 false)
      · refine GoO.exec (is := [10, 11, 12, 13, 14, 15, 16, 17, 18, 19, 20, 21, 22, 23, 24]) (hs := [.p, .p, .p, .p, .p, .p, .p, .p, .p, .p, .p, .p, .p, .p, .p]) (rest := []) (ks := [2]) (env' := [(2, .bool false)]) (H' := [⟨40, b_4, [.int .i64 c_1.Kind, .int .u64 c_1.Session, .int .u64 c_1.Seq, .int .u64 c_1.Saga, .slice A_2 c_1.Steps.length c_3, .int .i64 c_1.Step, .bool c_1.Back, .int .i64 c_1.Try, .bool c_1.Ok, .int .u64 c_1.Now]⟩]) (ps := []) (by kernel_rfl) trivial ?_
        refine GoO.regionEnd ?_
        exact GoO.sub (ks := [2]) (hk := []) (bk := []) (by kernel_rfl) (by kernel_rfl) (by kernel_rfl) (command_May_j1_ok n A_2 c_3 w0 S0 false)
    · refine GoO.exec (is := [5, 6, 7, 8, 9, 10, 11, 12, 13, 14, 15, 16, 17, 18, 19, 20, 21, 22, 23, 24]) (hs := [.p, .p, .p, .p, .p, .p, .p, .p, .p, .p, .p, .p, .p, .p, .p, .p, .p, .p, .p, .p]) (rest := []) (ks := [2]) (env' := [(2, .bool false)]) (H' := [⟨40, b_4, [.int .i64 c_1.Kind, .int .u64 c_1.Session, .int .u64 c_1.Seq, .int .u64 c_1.Saga, .slice A_2 c_1.Steps.length c_3, .int .i64 c_1.Step, .bool c_1.Back, .int .i64 c_1.Try, .bool c_1.Ok, .int .u64 c_1.Now]⟩]) (ps := []) (by kernel_rfl) trivial ?_
      refine GoO.regionEnd ?_
      exact GoO.sub (ks := [2]) (hk := []) (bk := []) (by kernel_rfl) (by kernel_rfl) (by kernel_rfl) (command_May_j1_ok n A_2 c_3 w0 S0 false)
  · refine GoO.seq' c18_20e ?_
    refine GoO.region' (is := [0, 1]) c18_21e (by kernel_rfl) ?_
    refine GoO.exec (is := [0, 1]) (hs := [.p, .p]) (rest := []) (ks := [1, 4, 33]) (env' := [(1, .pointer (some ⟨b_4, 0, none⟩)), (4, .int .i64 c_1.Kind), (33, .bool (c_1.Kind == 2))]) (H' := [⟨40, b_4, [.int .i64 c_1.Kind, .int .u64 c_1.Session, .int .u64 c_1.Seq, .int .u64 c_1.Saga, .slice A_2 c_1.Steps.length c_3, .int .i64 c_1.Step, .bool c_1.Back, .int .i64 c_1.Try, .bool c_1.Ok, .int .u64 c_1.Now]⟩]) (ps := []) (by kernel_rfl) trivial ?_
    refine GoO.regionEnd ?_
    refine GoO.ite' c18_22e (by kernel_rfl) (fun h14 => ?_) (fun h14 => ?_)
    · refine GoO.seq' c18_23e ?_
      refine GoO.region' (is := [0, 1, 2, 3, 4, 5, 6, 7, 8, 9, 10, 11, 12, 13, 14, 15, 16, 17, 18, 19, 20, 21, 22, 23, 24]) c18_24e (by kernel_rfl) ?_
      refine GoO.exec (is := [0, 1]) (hs := [.p, .b 0]) (rest := [2, 3, 4, 5, 6, 7, 8, 9, 10, 11, 12, 13, 14, 15, 16, 17, 18, 19, 20, 21, 22, 23, 24]) (ks := [1, 36]) (env' := [(1, .pointer (some ⟨b_4, 0, none⟩)), (36, .slice A_2 c_1.Steps.length c_3)]) (H' := [⟨40, b_4, [.int .i64 c_1.Kind, .int .u64 c_1.Session, .int .u64 c_1.Seq, .int .u64 c_1.Saga, .slice A_2 c_1.Steps.length c_3, .int .i64 c_1.Step, .bool c_1.Back, .int .i64 c_1.Try, .bool c_1.Ok, .int .u64 c_1.Now]⟩]) (ps := [b_4 = b_4]) (by kernel_rfl) (And.intro rfl trivial) ?_
      refine OpTo.go (GoO.call rfl (by kernel_rfl) (by kernel_rfl) (plan_Check_ok n c_1.Steps A_2 c_3) [[0]] [] [] [(0, 0)] (hks := [0]) (bks := [0]) (by kernel_rfl) (by kernel_rfl) (by kernel_rfl) (.inl rfl) rfl rfl (by kernel_rfl) (by kernel_rfl) _ (fun _ _ => rfl) _ _ (fun _ _ => rfl) (fun _ _ => rfl) (fun _ _ => by kernel_rfl) (fun _ _ => by kernel_rfl) (fun r_15 x_20 => ?_))
      refine GoO.shape (env' := [(1, .pointer (some ⟨b_4, 0, none⟩)), (36, .slice A_2 c_1.Steps.length c_3), (37, .int .i64 r_15)]) (H' := [⟨40, b_4, [.int .i64 c_1.Kind, .int .u64 c_1.Session, .int .u64 c_1.Seq, .int .u64 c_1.Saga, .slice A_2 c_1.Steps.length c_3, .int .i64 c_1.Step, .bool c_1.Back, .int .i64 c_1.Try, .bool c_1.Ok, .int .u64 c_1.Now]⟩]) (B' := [Rd 0 kT_api_Step A_2 c_3 c_1.Steps]) (ks := [1, 36, 37]) (by kernel_rfl) (by kernel_rfl) (by kernel_rfl) ?_
      refine GoO.exec (is := [3, 4]) (hs := [.p, .p]) (rest := [5, 6, 7, 8, 9, 10, 11, 12, 13, 14, 15, 16, 17, 18, 19, 20, 21, 22, 23, 24]) (ks := [1, 39]) (env' := [(1, .pointer (some ⟨b_4, 0, none⟩)), (39, .bool (r_15 == 0))]) (H' := [⟨40, b_4, [.int .i64 c_1.Kind, .int .u64 c_1.Session, .int .u64 c_1.Seq, .int .u64 c_1.Saga, .slice A_2 c_1.Steps.length c_3, .int .i64 c_1.Step, .bool c_1.Back, .int .i64 c_1.Try, .bool c_1.Ok, .int .u64 c_1.Now]⟩]) (ps := []) (by kernel_rfl) trivial ?_
      refine GoO.bsplit (t := 39) (by kernel_rfl) (fun h16 => ?_) (fun h16 => ?_)
      · refine GoO.exec (is := [5, 6, 7, 8, 9]) (hs := [.p, .b 0, .p, .p, .p]) (rest := [10, 11, 12, 13, 14, 15, 16, 17, 18, 19, 20, 21, 22, 23, 24]) (ks := [1, 44]) (env' := [(1, .pointer (some ⟨b_4, 0, none⟩)), (44, .bool (c_1.Step == 0))]) (H' := [⟨40, b_4, [.int .i64 c_1.Kind, .int .u64 c_1.Session, .int .u64 c_1.Seq, .int .u64 c_1.Saga, .slice A_2 c_1.Steps.length c_3, .int .i64 c_1.Step, .bool c_1.Back, .int .i64 c_1.Try, .bool c_1.Ok, .int .u64 c_1.Now]⟩]) (ps := [b_4 = b_4]) (by kernel_rfl) (And.intro rfl trivial) ?_
        refine GoO.bsplit (t := 44) (by kernel_rfl) (fun h17 => ?_) (fun h17 => ?_)
        · refine GoO.exec (is := [10, 11, 12, 13, 14]) (hs := [.p, .b 0, .p, .p, .p]) (rest := [15, 16, 17, 18, 19, 20, 21, 22, 23, 24]) (ks := [1, 49]) (env' := [(1, .pointer (some ⟨b_4, 0, none⟩)), (49, .bool (!c_1.Back))]) (H' := [⟨40, b_4, [.int .i64 c_1.Kind, .int .u64 c_1.Session, .int .u64 c_1.Seq, .int .u64 c_1.Saga, .slice A_2 c_1.Steps.length c_3, .int .i64 c_1.Step, .bool c_1.Back, .int .i64 c_1.Try, .bool c_1.Ok, .int .u64 c_1.Now]⟩]) (ps := [b_4 = b_4]) (by kernel_rfl) (And.intro rfl trivial) ?_
          refine GoO.bsplit (t := 49) (by kernel_rfl) (fun h18 => ?_) (fun h18 => ?_)
          · refine GoO.exec (is := [15, 16, 17, 18, 19]) (hs := [.p, .b 0, .p, .p, .p]) (rest := [20, 21, 22, 23, 24]) (ks := [1, 54]) (env' := [(1, .pointer (some ⟨b_4, 0, none⟩)), (54, .bool (c_1.Try == 0))]) (H' := [⟨40, b_4, [.int .i64 c_1.Kind, .int .u64 c_1.Session, .int .u64 c_1.Seq, .int .u64 c_1.Saga, .slice A_2 c_1.Steps.length c_3, .int .i64 c_1.Step, .bool c_1.Back, .int .i64 c_1.Try, .bool c_1.Ok, .int .u64 c_1.Now]⟩]) (ps := [b_4 = b_4]) (by kernel_rfl) (And.intro rfl trivial) ?_
            refine GoO.bsplit (t := 54) (by kernel_rfl) (fun h19 => ?_) (fun h19 => ?_)
            · refine GoO.exec (is := [20, 21, 22, 23, 24]) (hs := [.p, .b 0, .p, .p, .p]) (rest := []) (ks := [2]) (env' := [(2, .bool (!c_1.Ok))]) (H' := [⟨40, b_4, [.int .i64 c_1.Kind, .int .u64 c_1.Session, .int .u64 c_1.Seq, .int .u64 c_1.Saga, .slice A_2 c_1.Steps.length c_3, .int .i64 c_1.Step, .bool c_1.Back, .int .i64 c_1.Try, .bool c_1.Ok, .int .u64 c_1.Now]⟩]) (ps := [b_4 = b_4]) (by kernel_rfl) (And.intro rfl trivial) ?_
              refine GoO.regionEnd ?_
              exact GoO.sub (ks := [2]) (hk := []) (bk := []) (by kernel_rfl) (by kernel_rfl) (by kernel_rfl) (command_May_j2_ok n A_2 c_3 w0 S0 (!c_1.Ok))
            · refine GoO.exec (is := [20, 21, 22, 23, 24]) (hs := [.p, .p, .p, .p, .p]) (rest := []) (ks := [2]) (env' := [(2, .bool false)]) (H' := [⟨40, b_4, [.int .i64 c_1.Kind, .int .u64 c_1.Session, .int .u64 c_1.Seq, .int .u64 c_1.Saga, .slice A_2 c_1.Steps.length c_3, .int .i64 c_1.Step, .bool c_1.Back, .int .i64 c_1.Try, .bool c_1.Ok, .int .u64 c_1.Now]⟩]) (ps := []) (by kernel_rfl) trivial ?_
              refine GoO.regionEnd ?_
              exact GoO.sub (ks := [2]) (hk := []) (bk := []) (by kernel_rfl) (by kernel_rfl) (by kernel_rfl) (command_May_j2_ok n A_2 c_3 w0 S0 false)
          · refine GoO.exec (is := [15, 16, 17, 18, 19, 20, 21, 22, 23, 24]) (hs := [.p, .p, .p, .p, .p, .p, .p, .p, .p, .p]) (rest := []) (ks := [2]) (env' := [(2, .bool false)]) (H' := [⟨40, b_4, [.int .i64 c_1.Kind, .int .u64 c_1.Session, .int .u64 c_1.Seq, .int .u64 c_1.Saga, .slice A_2 c_1.Steps.length c_3, .int .i64 c_1.Step, .bool c_1.Back, .int .i64 c_1.Try, .bool c_1.Ok, .int .u64 c_1.Now]⟩]) (ps := []) (by kernel_rfl) trivial ?_
            refine GoO.regionEnd ?_
            exact GoO.sub (ks := [2]) (hk := []) (bk := []) (by kernel_rfl) (by kernel_rfl) (by kernel_rfl) (command_May_j2_ok n A_2 c_3 w0 S0 false)
        · refine GoO.exec (is := [10, 11, 12, 13, 14, 15, 16, 17, 18, 19, 20, 21, 22, 23, 24]) (hs := [.p, .p, .p, .p, .p, .p, .p, .p, .p, .p, .p, .p, .p, .p, .p]) (rest := []) (ks := [2]) (env' := [(2, .bool false)]) (H' := [⟨40, b_4, [.int .i64 c_1.Kind, .int .u64 c_1.Session, .int .u64 c_1.Seq, .int .u64 c_1.Saga, .slice A_2 c_1.Steps.length c_3, .int .i64 c_1.Step, .bool c_1.Back, .int .i64 c_1.Try, .bool c_1.Ok, .int .u64 c_1.Now]⟩]) (ps := []) (by kernel_rfl) trivial ?_
          refine GoO.regionEnd ?_
          exact GoO.sub (ks := [2]) (hk := []) (bk := []) (by kernel_rfl) (by kernel_rfl) (by kernel_rfl) (command_May_j2_ok n A_2 c_3 w0 S0 false)
      · refine GoO.exec (is := [5, 6, 7, 8, 9, 10, 11, 12, 13, 14, 15, 16, 17, 18, 19, 20, 21, 22, 23, 24]) (hs := [.p, .p, .p, .p, .p, .p, .p, .p, .p, .p, .p, .p, .p, .p, .p, .p, .p, .p, .p, .p]) (rest := []) (ks := [2]) (env' := [(2, .bool false)]) (H' := [⟨40, b_4, [.int .i64 c_1.Kind, .int .u64 c_1.Session, .int .u64 c_1.Seq, .int .u64 c_1.Saga, .slice A_2 c_1.Steps.length c_3, .int .i64 c_1.Step, .bool c_1.Back, .int .i64 c_1.Try, .bool c_1.Ok, .int .u64 c_1.Now]⟩]) (ps := []) (by kernel_rfl) trivial ?_
        refine GoO.regionEnd ?_
        exact GoO.sub (ks := [2]) (hk := []) (bk := []) (by kernel_rfl) (by kernel_rfl) (by kernel_rfl) (command_May_j2_ok n A_2 c_3 w0 S0 false)
    · refine GoO.seq' c18_26e ?_
      refine GoO.region' (is := [0, 1]) c18_27e (by kernel_rfl) ?_
      refine GoO.exec (is := [0, 1]) (hs := [.p, .p]) (rest := []) (ks := [1, 59]) (env' := [(1, .pointer (some ⟨b_4, 0, none⟩)), (59, .bool (c_1.Kind == 4))]) (H' := [⟨40, b_4, [.int .i64 c_1.Kind, .int .u64 c_1.Session, .int .u64 c_1.Seq, .int .u64 c_1.Saga, .slice A_2 c_1.Steps.length c_3, .int .i64 c_1.Step, .bool c_1.Back, .int .i64 c_1.Try, .bool c_1.Ok, .int .u64 c_1.Now]⟩]) (ps := []) (by kernel_rfl) trivial ?_
      refine GoO.regionEnd ?_
      refine GoO.ite' c18_28e (by kernel_rfl) (fun h21 => ?_) (fun h21 => ?_)
      · refine GoO.seq' c18_29e ?_
        refine GoO.region' (is := [0, 1, 2, 3, 4, 5, 6, 7, 8, 9, 10, 11, 12, 13, 14, 15, 16, 17, 18, 19, 20, 21, 22, 23, 24, 25, 26, 27, 28, 29, 30, 31, 32, 33, 34]) c18_30e (by kernel_rfl) ?_
        refine GoO.exec (is := [0, 1, 2, 3, 4]) (hs := [.p, .b 0, .p, .p, .p]) (rest := [5, 6, 7, 8, 9, 10, 11, 12, 13, 14, 15, 16, 17, 18, 19, 20, 21, 22, 23, 24, 25, 26, 27, 28, 29, 30, 31, 32, 33, 34]) (ks := [1, 65]) (env' := [(1, .pointer (some ⟨b_4, 0, none⟩)), (65, .bool ((c_1.Steps.length : Int) == 0))]) (H' := [⟨40, b_4, [.int .i64 c_1.Kind, .int .u64 c_1.Session, .int .u64 c_1.Seq, .int .u64 c_1.Saga, .slice A_2 c_1.Steps.length c_3, .int .i64 c_1.Step, .bool c_1.Back, .int .i64 c_1.Try, .bool c_1.Ok, .int .u64 c_1.Now]⟩]) (ps := [b_4 = b_4]) (by kernel_rfl) (And.intro rfl trivial) ?_
        refine GoO.bsplit (t := 65) (by kernel_rfl) (fun h22 => ?_) (fun h22 => ?_)
        · refine GoO.exec (is := [5, 6, 7, 8, 9]) (hs := [.p, .b 0, .p, .p, .p]) (rest := [10, 11, 12, 13, 14, 15, 16, 17, 18, 19, 20, 21, 22, 23, 24, 25, 26, 27, 28, 29, 30, 31, 32, 33, 34]) (ks := [1, 70]) (env' := [(1, .pointer (some ⟨b_4, 0, none⟩)), (70, .bool (decide (c_1.Step ≥ 0)))]) (H' := [⟨40, b_4, [.int .i64 c_1.Kind, .int .u64 c_1.Session, .int .u64 c_1.Seq, .int .u64 c_1.Saga, .slice A_2 c_1.Steps.length c_3, .int .i64 c_1.Step, .bool c_1.Back, .int .i64 c_1.Try, .bool c_1.Ok, .int .u64 c_1.Now]⟩]) (ps := [b_4 = b_4]) (by kernel_rfl) (And.intro rfl trivial) ?_
          refine GoO.bsplit (t := 70) (by kernel_rfl) (fun h23 => ?_) (fun h23 => ?_)
          · refine GoO.exec (is := [10, 11, 12, 13, 14]) (hs := [.p, .b 0, .p, .p, .p]) (rest := [15, 16, 17, 18, 19, 20, 21, 22, 23, 24, 25, 26, 27, 28, 29, 30, 31, 32, 33, 34]) (ks := [1, 75]) (env' := [(1, .pointer (some ⟨b_4, 0, none⟩)), (75, .bool (decide (c_1.Step < 64)))]) (H' := [⟨40, b_4, [.int .i64 c_1.Kind, .int .u64 c_1.Session, .int .u64 c_1.Seq, .int .u64 c_1.Saga, .slice A_2 c_1.Steps.length c_3, .int .i64 c_1.Step, .bool c_1.Back, .int .i64 c_1.Try, .bool c_1.Ok, .int .u64 c_1.Now]⟩]) (ps := [b_4 = b_4]) (by kernel_rfl) (And.intro rfl trivial) ?_
            refine GoO.bsplit (t := 75) (by kernel_rfl) (fun h24 => ?_) (fun h24 => ?_)
            · refine GoO.exec (is := [15, 16, 17, 18, 19]) (hs := [.p, .b 0, .p, .p, .p]) (rest := [20, 21, 22, 23, 24, 25, 26, 27, 28, 29, 30, 31, 32, 33, 34]) (ks := [1, 80]) (env' := [(1, .pointer (some ⟨b_4, 0, none⟩)), (80, .bool (decide (c_1.Try ≥ 0)))]) (H' := [⟨40, b_4, [.int .i64 c_1.Kind, .int .u64 c_1.Session, .int .u64 c_1.Seq, .int .u64 c_1.Saga, .slice A_2 c_1.Steps.length c_3, .int .i64 c_1.Step, .bool c_1.Back, .int .i64 c_1.Try, .bool c_1.Ok, .int .u64 c_1.Now]⟩]) (ps := [b_4 = b_4]) (by kernel_rfl) (And.intro rfl trivial) ?_
              refine GoO.bsplit (t := 80) (by kernel_rfl) (fun h25 => ?_) (fun h25 => ?_)
              · refine GoO.exec (is := [20, 21, 22, 23, 24]) (hs := [.p, .b 0, .p, .p, .p]) (rest := [25, 26, 27, 28, 29, 30, 31, 32, 33, 34]) (ks := [1, 85]) (env' := [(1, .pointer (some ⟨b_4, 0, none⟩)), (85, .bool (decide (c_1.Try < 9)))]) (H' := [⟨40, b_4, [.int .i64 c_1.Kind, .int .u64 c_1.Session, .int .u64 c_1.Seq, .int .u64 c_1.Saga, .slice A_2 c_1.Steps.length c_3, .int .i64 c_1.Step, .bool c_1.Back, .int .i64 c_1.Try, .bool c_1.Ok, .int .u64 c_1.Now]⟩]) (ps := [b_4 = b_4]) (by kernel_rfl) (And.intro rfl trivial) ?_
                refine GoO.bsplit (t := 85) (by kernel_rfl) (fun h26 => ?_) (fun h26 => ?_)
                · refine GoO.exec (is := [25, 26, 27, 28, 29]) (hs := [.p, .b 0, .p, .p, .p]) (rest := [30, 31, 32, 33, 34]) (ks := [1, 90]) (env' := [(1, .pointer (some ⟨b_4, 0, none⟩)), (90, .bool (c_1.Session == 0))]) (H' := [⟨40, b_4, [.int .i64 c_1.Kind, .int .u64 c_1.Session, .int .u64 c_1.Seq, .int .u64 c_1.Saga, .slice A_2 c_1.Steps.length c_3, .int .i64 c_1.Step, .bool c_1.Back, .int .i64 c_1.Try, .bool c_1.Ok, .int .u64 c_1.Now]⟩]) (ps := [b_4 = b_4]) (by kernel_rfl) (And.intro rfl trivial) ?_
                  refine GoO.bsplit (t := 90) (by kernel_rfl) (fun h27 => ?_) (fun h27 => ?_)
                  · refine GoO.exec (is := [30, 31, 32, 33, 34]) (hs := [.p, .b 0, .p, .p, .p]) (rest := []) (ks := [2]) (env' := [(2, .bool (c_1.Seq == 0))]) (H' := [⟨40, b_4, [.int .i64 c_1.Kind, .int .u64 c_1.Session, .int .u64 c_1.Seq, .int .u64 c_1.Saga, .slice A_2 c_1.Steps.length c_3, .int .i64 c_1.Step, .bool c_1.Back, .int .i64 c_1.Try, .bool c_1.Ok, .int .u64 c_1.Now]⟩]) (ps := [b_4 = b_4]) (by kernel_rfl) (And.intro rfl trivial) ?_
                    refine GoO.regionEnd ?_
                    exact GoO.sub (ks := [2]) (hk := []) (bk := []) (by kernel_rfl) (by kernel_rfl) (by kernel_rfl) (command_May_j3_ok n A_2 c_3 w0 S0 (c_1.Seq == 0))
                  · refine GoO.exec (is := [30, 31, 32, 33, 34]) (hs := [.p, .p, .p, .p, .p]) (rest := []) (ks := [2]) (env' := [(2, .bool false)]) (H' := [⟨40, b_4, [.int .i64 c_1.Kind, .int .u64 c_1.Session, .int .u64 c_1.Seq, .int .u64 c_1.Saga, .slice A_2 c_1.Steps.length c_3, .int .i64 c_1.Step, .bool c_1.Back, .int .i64 c_1.Try, .bool c_1.Ok, .int .u64 c_1.Now]⟩]) (ps := []) (by kernel_rfl) trivial ?_
                    refine GoO.regionEnd ?_
                    exact GoO.sub (ks := [2]) (hk := []) (bk := []) (by kernel_rfl) (by kernel_rfl) (by kernel_rfl) (command_May_j3_ok n A_2 c_3 w0 S0 false)
                · refine GoO.exec (is := [25, 26, 27, 28, 29, 30, 31, 32, 33, 34]) (hs := [.p, .p, .p, .p, .p, .p, .p, .p, .p, .p]) (rest := []) (ks := [2]) (env' := [(2, .bool false)]) (H' := [⟨40, b_4, [.int .i64 c_1.Kind, .int .u64 c_1.Session, .int .u64 c_1.Seq, .int .u64 c_1.Saga, .slice A_2 c_1.Steps.length c_3, .int .i64 c_1.Step, .bool c_1.Back, .int .i64 c_1.Try, .bool c_1.Ok, .int .u64 c_1.Now]⟩]) (ps := []) (by kernel_rfl) trivial ?_
                  refine GoO.regionEnd ?_
                  exact GoO.sub (ks := [2]) (hk := []) (bk := []) (by kernel_rfl) (by kernel_rfl) (by kernel_rfl) (command_May_j3_ok n A_2 c_3 w0 S0 false)
              · refine GoO.exec (is := [20, 21, 22, 23, 24, 25, 26, 27, 28, 29, 30, 31, 32, 33, 34]) (hs := [.p, .p, .p, .p, .p, .p, .p, .p, .p, .p, .p, .p, .p, .p, .p]) (rest := []) (ks := [2]) (env' := [(2, .bool false)]) (H' := [⟨40, b_4, [.int .i64 c_1.Kind, .int .u64 c_1.Session, .int .u64 c_1.Seq, .int .u64 c_1.Saga, .slice A_2 c_1.Steps.length c_3, .int .i64 c_1.Step, .bool c_1.Back, .int .i64 c_1.Try, .bool c_1.Ok, .int .u64 c_1.Now]⟩]) (ps := []) (by kernel_rfl) trivial ?_
                refine GoO.regionEnd ?_
                exact GoO.sub (ks := [2]) (hk := []) (bk := []) (by kernel_rfl) (by kernel_rfl) (by kernel_rfl) (command_May_j3_ok n A_2 c_3 w0 S0 false)
            · refine GoO.exec (is := [15, 16, 17, 18, 19, 20, 21, 22, 23, 24, 25, 26, 27, 28, 29, 30, 31, 32, 33, 34]) (hs := [.p, .p, .p, .p, .p, .p, .p, .p, .p, .p, .p, .p, .p, .p, .p, .p, .p, .p, .p, .p]) (rest := []) (ks := [2]) (env' := [(2, .bool false)]) (H' := [⟨40, b_4, [.int .i64 c_1.Kind, .int .u64 c_1.Session, .int .u64 c_1.Seq, .int .u64 c_1.Saga, .slice A_2 c_1.Steps.length c_3, .int .i64 c_1.Step, .bool c_1.Back, .int .i64 c_1.Try, .bool c_1.Ok, .int .u64 c_1.Now]⟩]) (ps := []) (by kernel_rfl) trivial ?_
              refine GoO.regionEnd ?_
              exact GoO.sub (ks := [2]) (hk := []) (bk := []) (by kernel_rfl) (by kernel_rfl) (by kernel_rfl) (command_May_j3_ok n A_2 c_3 w0 S0 false)
          · refine GoO.exec (is := [10, 11, 12, 13, 14, 15, 16, 17, 18, 19, 20, 21, 22, 23, 24, 25, 26, 27, 28, 29, 30, 31, 32, 33, 34]) (hs := [.p, .p, .p, .p, .p, .p, .p, .p, .p, .p, .p, .p, .p, .p, .p, .p, .p, .p, .p, .p, .p, .p, .p, .p, .p]) (rest := []) (ks := [2]) (env' := [(2, .bool false)]) (H' := [⟨40, b_4, [.int .i64 c_1.Kind, .int .u64 c_1.Session, .int .u64 c_1.Seq, .int .u64 c_1.Saga, .slice A_2 c_1.Steps.length c_3, .int .i64 c_1.Step, .bool c_1.Back, .int .i64 c_1.Try, .bool c_1.Ok, .int .u64 c_1.Now]⟩]) (ps := []) (by kernel_rfl) trivial ?_
            refine GoO.regionEnd ?_
            exact GoO.sub (ks := [2]) (hk := []) (bk := []) (by kernel_rfl) (by kernel_rfl) (by kernel_rfl) (command_May_j3_ok n A_2 c_3 w0 S0 false)
        · refine GoO.exec (is := [5, 6, 7, 8, 9, 10, 11, 12, 13, 14, 15, 16, 17, 18, 19, 20, 21, 22, 23, 24, 25, 26, 27, 28, 29, 30, 31, 32, 33, 34]) (hs := [.p, .p, .p, .p, .p, .p, .p, .p, .p, .p, .p, .p, .p, .p, .p, .p, .p, .p, .p, .p, .p, .p, .p, .p, .p, .p, .p, .p, .p, .p]) (rest := []) (ks := [2]) (env' := [(2, .bool false)]) (H' := [⟨40, b_4, [.int .i64 c_1.Kind, .int .u64 c_1.Session, .int .u64 c_1.Seq, .int .u64 c_1.Saga, .slice A_2 c_1.Steps.length c_3, .int .i64 c_1.Step, .bool c_1.Back, .int .i64 c_1.Try, .bool c_1.Ok, .int .u64 c_1.Now]⟩]) (ps := []) (by kernel_rfl) trivial ?_
          refine GoO.regionEnd ?_
          exact GoO.sub (ks := [2]) (hk := []) (bk := []) (by kernel_rfl) (by kernel_rfl) (by kernel_rfl) (command_May_j3_ok n A_2 c_3 w0 S0 false)
      · refine GoO.skip' c18_32e ?_
        refine GoO.inBlock ?_
        refine GoO.seq' c18_33e ?_
        refine GoO.region' (is := [0]) c18_34e (by kernel_rfl) ?_
        refine GoO.exec (is := [0]) (hs := [.p]) (rest := []) (ks := [2]) (env' := [(2, .bool false)]) (H' := [⟨40, b_4, [.int .i64 c_1.Kind, .int .u64 c_1.Session, .int .u64 c_1.Seq, .int .u64 c_1.Saga, .slice A_2 c_1.Steps.length c_3, .int .i64 c_1.Step, .bool c_1.Back, .int .i64 c_1.Try, .bool c_1.Ok, .int .u64 c_1.Now]⟩]) (ps := []) (by kernel_rfl) trivial ?_
        refine GoO.regionEnd ?_
        exact GoO.ret' (h := c18_35e) (hs := []) (ps := []) (hk := []) (bk := []) Try.func18 () (by kernel_rfl) trivial (by kernel_rfl) (by kernel_rfl)
theorem command_May_ok (n : Nat) (c_1 : T_api_Command) (A_2 : Option Addr) (c_3 : Nat) :
    Meets Try.prog 18 [.agg ⟨[.int .i64 c_1.Kind, .int .u64 c_1.Session, .int .u64 c_1.Seq, .int .u64 c_1.Saga, .slice A_2 c_1.Steps.length c_3, .int .i64 c_1.Step, .bool c_1.Back, .int .i64 c_1.Try, .bool c_1.Ok, .int .u64 c_1.Now]⟩] 0 [] [] [Rd 0 kT_api_Step A_2 c_3 c_1.Steps] (command_May.f n c_1) (command_May.R A_2 c_3) := by
  refine Meets.of (c := c18_0) (n := 95) Try.func18 (by kernel_rfl) (by kernel_rfl) (by kernel_rfl) fun w0 S0 => ?_
  unfold command_May.f
  show GoO (command_May.cx A_2 c_3 w0 S0) [(0, .agg ⟨[.int .i64 c_1.Kind, .int .u64 c_1.Session, .int .u64 c_1.Seq, .int .u64 c_1.Saga, .slice A_2 c_1.Steps.length c_3, .int .i64 c_1.Step, .bool c_1.Back, .int .i64 c_1.Try, .bool c_1.Ok, .int .u64 c_1.Now]⟩)] [] [Rd 0 kT_api_Step A_2 c_3 c_1.Steps] [.code c18_0] _
  refine GoO.seq' c18_0e ?_
  refine GoO.region' (is := [0, 1]) c18_1e (by kernel_rfl) ?_
  refine OpTo.go (GoO.new rfl 40 (cs := [.int .i64 c_1.Kind, .int .u64 c_1.Session, .int .u64 c_1.Seq, .int .u64 c_1.Saga, .slice A_2 c_1.Steps.length c_3, .int .i64 c_1.Step, .bool c_1.Back, .int .i64 c_1.Try, .bool c_1.Ok, .int .u64 c_1.Now]) (by kernel_rfl) _ (fun _ => rfl) (fun b_4 => ?_))
  refine GoO.exec (is := [1]) (hs := [.p]) (rest := []) (ks := [1]) (env' := [(1, .pointer (some ⟨b_4, 0, none⟩))]) (H' := [⟨40, b_4, [.int .i64 c_1.Kind, .int .u64 c_1.Session, .int .u64 c_1.Seq, .int .u64 c_1.Saga, .slice A_2 c_1.Steps.length c_3, .int .i64 c_1.Step, .bool c_1.Back, .int .i64 c_1.Try, .bool c_1.Ok, .int .u64 c_1.Now]⟩]) (ps := []) (by kernel_rfl) trivial ?_
  refine GoO.regionEnd ?_
  refine GoO.seq' c18_2e ?_
  refine GoO.seq' c18_3e ?_
  refine GoO.region' (is := [0, 1]) c18_4e (by kernel_rfl) ?_
  refine GoO.exec (is := [0, 1]) (hs := [.p, .b 0]) (rest := []) (ks := [1, 4]) (env' := [(1, .pointer (some ⟨b_4, 0, none⟩)), (4, .int .i64 c_1.Kind)]) (H' := [⟨40, b_4, [.int .i64 c_1.Kind, .int .u64 c_1.Session, .int .u64 c_1.Seq, .int .u64 c_1.Saga, .slice A_2 c_1.Steps.length c_3, .int .i64 c_1.Step, .bool c_1.Back, .int .i64 c_1.Try, .bool c_1.Ok, .int .u64 c_1.Now]⟩]) (ps := [b_4 = b_4]) (by kernel_rfl) (And.intro rfl trivial) ?_
  refine GoO.regionEnd ?_
  refine GoO.block' c18_5e ?_
  refine GoO.seq' c18_6e ?_
  refine GoO.seq' c18_7e ?_
  refine GoO.region' (is := [0, 1]) c18_8e (by kernel_rfl) ?_
  refine GoO.exec (is := [0, 1]) (hs := [.p, .p]) (rest := []) (ks := [1, 4, 5]) (env' := [(1, .pointer (some ⟨b_4, 0, none⟩)), (4, .int .i64 c_1.Kind), (5, .bool (c_1.Kind == 1))]) (H' := [⟨40, b_4, [.int .i64 c_1.Kind, .int .u64 c_1.Session, .int .u64 c_1.Seq, .int .u64 c_1.Saga, .slice A_2 c_1.Steps.length c_3, .int .i64 c_1.Step, .bool c_1.Back, .int .i64 c_1.Try, .bool c_1.Ok, .int .u64 c_1.Now]⟩]) (ps := []) (by kernel_rfl) trivial ?_
  refine GoO.regionEnd ?_
  refine GoO.ite' c18_9e (by kernel_rfl) (fun h5 => ?_) (fun h5 => ?_)
  · refine GoO.skip' c18_10e ?_
    exact GoO.sub (ks := [1, 4, 5]) (hk := [0]) (bk := [0]) (by kernel_rfl) (by kernel_rfl) (by kernel_rfl) (command_May_j0_ok n c_1 A_2 c_3 b_4 w0 S0 (c_1.Kind == 1))
  · refine GoO.seq' c18_11e ?_
    refine GoO.region' (is := [0, 1]) c18_12e (by kernel_rfl) ?_
    refine GoO.exec (is := [0, 1]) (hs := [.p, .p]) (rest := []) (ks := [1, 4, 5]) (env' := [(1, .pointer (some ⟨b_4, 0, none⟩)), (4, .int .i64 c_1.Kind), (5, .bool (c_1.Kind == 3))]) (H' := [⟨40, b_4, [.int .i64 c_1.Kind, .int .u64 c_1.Session, .int .u64 c_1.Seq, .int .u64 c_1.Saga, .slice A_2 c_1.Steps.length c_3, .int .i64 c_1.Step, .bool c_1.Back, .int .i64 c_1.Try, .bool c_1.Ok, .int .u64 c_1.Now]⟩]) (ps := []) (by kernel_rfl) trivial ?_
    refine GoO.regionEnd ?_
    refine GoO.ite' c18_13e (by kernel_rfl) (fun h6 => ?_) (fun h6 => ?_)
    · refine GoO.skip' c18_14e ?_
      exact GoO.sub (ks := [1, 4, 5]) (hk := [0]) (bk := [0]) (by kernel_rfl) (by kernel_rfl) (by kernel_rfl) (command_May_j0_ok n c_1 A_2 c_3 b_4 w0 S0 (c_1.Kind == 3))
    · refine GoO.region' (is := [0, 1]) c18_15e (by kernel_rfl) ?_
      refine GoO.exec (is := [0, 1]) (hs := [.p, .p]) (rest := []) (ks := [1, 4, 5]) (env' := [(1, .pointer (some ⟨b_4, 0, none⟩)), (4, .int .i64 c_1.Kind), (5, .bool (c_1.Kind == 5))]) (H' := [⟨40, b_4, [.int .i64 c_1.Kind, .int .u64 c_1.Session, .int .u64 c_1.Seq, .int .u64 c_1.Saga, .slice A_2 c_1.Steps.length c_3, .int .i64 c_1.Step, .bool c_1.Back, .int .i64 c_1.Try, .bool c_1.Ok, .int .u64 c_1.Now]⟩]) (ps := []) (by kernel_rfl) trivial ?_
      refine GoO.regionEnd ?_
      exact GoO.sub (ks := [1, 4, 5]) (hk := [0]) (bk := [0]) (by kernel_rfl) (by kernel_rfl) (by kernel_rfl) (command_May_j0_ok n c_1 A_2 c_3 b_4 w0 S0 (c_1.Kind == 5))

/-! (*tontine/pack.Writer).Num -/
noncomputable def c48_0 : Code := bodyOf Try.f48
noncomputable def c48_1 : Code := cdL c48_0
noncomputable def c48_2 : Code := cdR c48_0
noncomputable def c48_3 : Code := cdL c48_2
noncomputable def c48_4 : Code := cdL c48_3
noncomputable def c48_5 : Code := cdR c48_3
noncomputable def c48_9 : Code := cdR c48_5
noncomputable def c48_10 : Code := cdR c48_2
noncomputable def c48_11 : Code := cdL c48_10
noncomputable def c48_12 : Code := cdR c48_10
noncomputable def c48_13 : Code := cdL c48_12
noncomputable def c48_14 : Code := cdL c48_13
noncomputable def c48_15 : Code := cdR c48_13
noncomputable def c48_16 : Code := cdL c48_15
noncomputable def c48_17 : Code := cdL c48_16
noncomputable def c48_18 : Code := cdL c48_17
noncomputable def c48_19 : Code := cdL c48_18
noncomputable def c48_20 : Code := cdR c48_18
noncomputable def c48_21 : Code := cdL c48_20
noncomputable def c48_22 : Code := cdR c48_20
noncomputable def c48_23 : Code := cdR c48_17
noncomputable def c48_24 : Code := cdL c48_23
noncomputable def c48_25 : Code := cdL c48_24
noncomputable def c48_26 : Code := cdR c48_23
noncomputable def c48_27 : Code := cdR c48_12
noncomputable def c48_28 : Code := cdL c48_27
noncomputable def c48_29 : Code := cdR c48_27
noncomputable def c48_30 : Code := cdL c48_29
noncomputable def c48_31 : Code := cdL c48_30
noncomputable def c48_32 : Code := cdR c48_30
noncomputable def c48_33 : Code := cdL c48_32
noncomputable def c48_34 : Code := cdL c48_33
noncomputable def c48_35 : Code := cdL c48_34
noncomputable def c48_36 : Code := cdL c48_35
noncomputable def c48_37 : Code := cdR c48_35
noncomputable def c48_38 : Code := cdL c48_37
noncomputable def c48_39 : Code := cdR c48_37
noncomputable def c48_40 : Code := cdR c48_34
noncomputable def c48_41 : Code := cdL c48_40
noncomputable def c48_42 : Code := cdL c48_41
noncomputable def c48_43 : Code := cdR c48_40
noncomputable def c48_44 : Code := cdR c48_29
noncomputable def c48_45 : Code := cdL c48_44
noncomputable def c48_46 : Code := cdR c48_44
noncomputable def c48_6 : Code := cdL c48_5
noncomputable def r48_1 : Array Oper := cdO c48_1
noncomputable def r48_4 : Array Oper := cdO c48_4
noncomputable def r48_11 : Array Oper := cdO c48_11
noncomputable def r48_14 : Array Oper := cdO c48_14
noncomputable def r48_19 : Array Oper := cdO c48_19
noncomputable def r48_25 : Array Oper := cdO c48_25
noncomputable def r48_26 : Array Oper := cdO c48_26
noncomputable def r48_28 : Array Oper := cdO c48_28
noncomputable def r48_31 : Array Oper := cdO c48_31
noncomputable def r48_36 : Array Oper := cdO c48_36
noncomputable def r48_42 : Array Oper := cdO c48_42
noncomputable def r48_43 : Array Oper := cdO c48_43
noncomputable def r48_45 : Array Oper := cdO c48_45
theorem c48_0e : c48_0 = .seq c48_1 c48_2 := by kernel_rfl
theorem c48_1e : c48_1 = .region 0 r48_1 false := by kernel_rfl
theorem c48_2e : c48_2 = .seq c48_3 c48_10 := by kernel_rfl
theorem c48_3e : c48_3 = .seq c48_4 c48_5 := by kernel_rfl
theorem c48_4e : c48_4 = .region 1 r48_4 false := by kernel_rfl
theorem c48_5e : c48_5 = .cond (cdC c48_5) c48_6 c48_9 := by kernel_rfl
theorem c48_9e : c48_9 = .skip := by kernel_rfl
theorem c48_10e : c48_10 = .seq c48_11 c48_12 := by kernel_rfl
theorem c48_11e : c48_11 = .region 3 r48_11 false := by kernel_rfl
theorem c48_12e : c48_12 = .seq c48_13 c48_27 := by kernel_rfl
theorem c48_13e : c48_13 = .seq c48_14 c48_15 := by kernel_rfl
theorem c48_14e : c48_14 = .region 4 r48_14 false := by kernel_rfl
theorem c48_15e : c48_15 = .block 0 c48_16 := by kernel_rfl
theorem c48_16e : c48_16 = .loop c48_17 := by kernel_rfl
theorem c48_17e : c48_17 = .seq c48_18 c48_23 := by kernel_rfl
theorem c48_18e : c48_18 = .seq c48_19 c48_20 := by kernel_rfl
theorem c48_19e : c48_19 = .region 5 r48_19 false := by kernel_rfl
theorem c48_20e : c48_20 = .cond (cdC c48_20) c48_21 c48_22 := by kernel_rfl
theorem c48_21e : c48_21 = .skip := by kernel_rfl
theorem c48_22e : c48_22 = .exit 0 := by kernel_rfl
theorem c48_23e : c48_23 = .seq c48_24 c48_26 := by kernel_rfl
theorem c48_24e : c48_24 = .block 1 c48_25 := by kernel_rfl
theorem c48_25e : c48_25 = .region 7 r48_25 false := by kernel_rfl
theorem c48_26e : c48_26 = .region 6 r48_26 false := by kernel_rfl
theorem c48_27e : c48_27 = .seq c48_28 c48_29 := by kernel_rfl
theorem c48_28e : c48_28 = .region 8 r48_28 false := by kernel_rfl
theorem c48_29e : c48_29 = .seq c48_30 c48_44 := by kernel_rfl
theorem c48_30e : c48_30 = .seq c48_31 c48_32 := by kernel_rfl
theorem c48_31e : c48_31 = .region 9 r48_31 false := by kernel_rfl
theorem c48_32e : c48_32 = .block 2 c48_33 := by kernel_rfl
theorem c48_33e : c48_33 = .loop c48_34 := by kernel_rfl
theorem c48_34e : c48_34 = .seq c48_35 c48_40 := by kernel_rfl
theorem c48_35e : c48_35 = .seq c48_36 c48_37 := by kernel_rfl
theorem c48_36e : c48_36 = .region 10 r48_36 false := by kernel_rfl
theorem c48_37e : c48_37 = .cond (cdC c48_37) c48_38 c48_39 := by kernel_rfl
theorem c48_38e : c48_38 = .skip := by kernel_rfl
theorem c48_39e : c48_39 = .exit 2 := by kernel_rfl
theorem c48_40e : c48_40 = .seq c48_41 c48_43 := by kernel_rfl
theorem c48_41e : c48_41 = .block 3 c48_42 := by kernel_rfl
theorem c48_42e : c48_42 = .region 12 r48_42 true := by kernel_rfl
theorem c48_43e : c48_43 = .region 11 r48_43 false := by kernel_rfl
theorem c48_44e : c48_44 = .seq c48_45 c48_46 := by kernel_rfl
theorem c48_45e : c48_45 = .region 13 r48_45 false := by kernel_rfl
theorem c48_46e : c48_46 = .ret := by kernel_rfl
noncomputable def pack_Writer_Num.R (b_2 : Nat) (A_3 : Option Addr) (c_4 : Nat) : Pst T_pack_Writer where
  ε := Option Addr × Nat
  v := fun r x => .pointer (some ⟨b_2, 0, none⟩)
  H := fun r x => [⟨1, b_2, [.slice x.1 r.b.length x.2]⟩]
  B := fun r x => [Ow 2 Kd.u8 x.1 x.2 r.b]
noncomputable def pack_Writer_Num.cx (b_2 : Nat) (A_3 : Option Addr) (c_4 : Nat) (w0 : World) (S0 : Fam) : Cx T_pack_Writer := ⟨Try.prog, 48, Try.f48, 49, w0, S0, [1, 2], 2, pack_Writer_Num.R b_2 A_3 c_4⟩
theorem pack_Writer_Num_l1_ok (n : Nat) (x_5 : Int) (b_2 : Nat) (A_3 : Option Addr) (c_4 : Nat) (w0 : World) (S0 : Fam) :
    ∀ (k : Nat) (f_14 : (List UInt8)) (i_17 : Int) (A_15 : Option Addr) (c_16 : Nat), GoO (pack_Writer_Num.cx b_2 A_3 c_4 w0 S0) [(0, .pointer (some ⟨b_2, 0, none⟩)), (1, .int .u64 x_5), (7, .int .i64 i_17)] [⟨1, b_2, [.slice A_15 f_14.length c_16]⟩] [Ow 2 Kd.u8 A_15 c_16 f_14] [.code c48_34, .inLoop c48_34, .inBlock 2, .code c48_44] (pack_Writer_Num.l1 n x_5 k f_14 i_17) := by
  intro k
  induction k with
  | zero => intros; rw [pack_Writer_Num.l1.eq_1]; exact GoO.stop
  | succ k ih1 =>
    intro f_14 i_17 A_15 c_16
    rw [pack_Writer_Num.l1.eq_2]
    refine GoO.seq' c48_34e ?_
    refine GoO.seq' c48_35e ?_
    refine GoO.region' (is := [0, 1]) c48_36e (by kernel_rfl) ?_
    refine GoO.exec (is := [0, 1]) (hs := [.p, .p]) (rest := []) (ks := [0, 1, 7, 31]) (env' := [(0, .pointer (some ⟨b_2, 0, none⟩)), (1, .int .u64 x_5), (7, .int .i64 i_17), (31, .bool (decide (i_17 ≥ 0)))]) (H' := [⟨1, b_2, [.slice A_15 f_14.length c_16]⟩]) (ps := []) (by kernel_rfl) trivial ?_
    refine GoO.regionEnd ?_
    refine GoO.ite' c48_37e (by kernel_rfl) (fun h18 => ?_) (fun h18 => ?_)
    · refine GoO.skip' c48_38e ?_
      refine GoO.seq' c48_40e ?_
      refine GoO.block' c48_41e ?_
      refine GoO.draw c48_42e (by kernel_rfl) [12, 13, 14] [⟨1, b_2, [.slice A_15 f_14.length c_16]⟩] [] (n := 15) (by kernel_rfl) ?_
      simp only [List.replicate]
      refine GoF.guard (fun h19 => ?_)
      refine GoF.take [0, 1, 2, 3, 4, 5, 6, 7, 8, 9] [.p, .p, .p, .p, .b 0, .p, .p, .p, .p, .p] (ks := [0, 1, 7, 34, 38, 43]) (fu := 5) (li := [true, true, true, true, true, true, true, true, true, true, false, false, false, false, false]) (env' := [(0, .pointer (some ⟨b_2, 0, none⟩)), (1, .int .u64 x_5), (7, .int .i64 i_17), (34, .pointer (some ⟨b_2, 0, none⟩)), (38, .slice A_15 f_14.length c_16), (43, .int .u8 (wu8 (shR .u64 x_5 (wi64 (8 * i_17)))))]) (ps := [b_2 = b_2, (0 : Int) ≤ (wi64 (8 * i_17))]) (hk := [0]) (bk := []) (by kernel_rfl) (And.intro rfl (And.intro h19 trivial)) rfl rfl ?_
      refine OpTo.goF (i := 10) (by kernel_rfl) (hk := [0]) (bk := []) (GoO.lit (e := 5) (K := Kd.u8) rfl (by kernel_rfl) (by kernel_rfl) (cs := [.int .u8 (wu8 (shR .u64 x_5 (wi64 (8 * i_17))))]) (by kernel_rfl) [u8of (shR .u64 x_5 (wi64 (8 * i_17)))] (by kernel_rfl) (by kernel_rfl) (fun w S hB => ⟨[.int .u8 (wu8 (shR .u64 x_5 (wi64 (8 * i_17))))], _, rfl, congrArg (fun v => [v]) (u8cell _), rfl⟩) 41 _ (fun _ _ => rfl) (fun A_20 c_21 => ⟨rfl, rfl, ?_⟩))
      refine GoF.guard (fun h22 => ?_)
      refine OpTo.goF (i := 11) (by kernel_rfl) (hk := [0]) (bk := []) (GoO.appW (e := 5) (K := Kd.u8) (A := A_15) (c := c_16) (tg := 2) (bytes := 1) (zs := [.int .u8 0]) (xs := f_14) (ys := [u8of (shR .u64 x_5 (wi64 (8 * i_17)))]) (xv := .slice A_20 [u8of (shR .u64 x_5 (wi64 (8 * i_17)))].length c_21) (j := 1) (bk := [0]) rfl (by kernel_rfl) (by kernel_rfl) (by kernel_rfl) (by kernel_rfl) rfl (by kernel_rfl) rfl (fun w S hB => SrcIs.row (Reads.own w S (hB _ (List.mem_of_getElem? (i := 0) rfl)))) h22 rfl rfl rfl rfl _ (fun _ _ => rfl) (fun A_23 c_24 => ⟨rfl, rfl, ?_⟩))
      refine GoF.fin1 (i := 12) (hint := .p) (ps := []) (hk := []) (bk := []) (by kernel_rfl) rfl trivial (.inl rfl) ?_
      refine GoF.fin1 (i := 13) (hint := .p) (ps := []) (hk := []) (bk := []) (by kernel_rfl) rfl trivial (.inl rfl) ?_
      refine GoF.fin1 (i := 14) (hint := .b 0) (ps := [b_2 = b_2]) (hk := []) (bk := []) (by kernel_rfl) rfl (And.intro rfl trivial) (.inl rfl) ?_
      refine GoF.done (by kernel_rfl) ?_
      refine GoO.inBlock ?_
      refine GoO.region' (is := [0, 1, 2]) c48_43e (by kernel_rfl) ?_
      refine GoO.exec (is := [0, 1, 2]) (hs := [.p, .p, .p]) (rest := []) (ks := [0, 1, 7]) (env' := [(0, .pointer (some ⟨b_2, 0, none⟩)), (1, .int .u64 x_5), (7, .int .i64 (wi64 (i_17 - 1)))]) (H' := [⟨1, b_2, [.slice A_23 (f_14 ++ [u8of (shR .u64 x_5 (wi64 (8 * i_17)))]).length c_24]⟩]) (ps := []) (by kernel_rfl) trivial ?_
      refine GoO.regionEnd ?_
      refine GoO.inLoop ?_
      exact GoO.sub (ks := [0, 1, 7]) (hk := [0]) (bk := [0]) (by kernel_rfl) (by kernel_rfl) (by kernel_rfl) (ih1 (f_14 ++ [u8of (shR .u64 x_5 (wi64 (8 * i_17)))]) (wi64 (i_17 - 1)) A_23 c_24)
    · refine GoO.exit' c48_39e rfl ?_
      refine GoO.seq' c48_44e ?_
      refine GoO.region' (is := [0, 1]) c48_45e (by kernel_rfl) ?_
      refine GoO.exec (is := [0, 1]) (hs := [.p, .p]) (rest := []) (ks := [4]) (env' := [(4, .pointer (some ⟨b_2, 0, none⟩))]) (H' := [⟨1, b_2, [.slice A_15 f_14.length c_16]⟩]) (ps := []) (by kernel_rfl) trivial ?_
      refine GoO.regionEnd ?_
      exact GoO.ret' (h := c48_46e) (hs := []) (ps := []) (hk := [0]) (bk := [0]) Try.func48 (⟨A_15, c_16⟩ : Option Addr × Nat) (by kernel_rfl) trivial (by kernel_rfl) (by kernel_rfl)
theorem pack_Writer_Num_l0_ok (n : Nat) (w_1 : T_pack_Writer) (x_5 : Int) (b_2 : Nat) (A_3 : Option Addr) (c_4 : Nat) (w0 : World) (S0 : Fam) :
    ∀ (k : Nat) (n_6 : Int) (y_7 : Int), GoO (pack_Writer_Num.cx b_2 A_3 c_4 w0 S0) [(0, .pointer (some ⟨b_2, 0, none⟩)), (1, .int .u64 x_5), (5, .int .i64 n_6), (6, .int .u64 y_7)] [⟨1, b_2, [.slice A_3 w_1.b.length c_4]⟩] [Ow 2 Kd.u8 A_3 c_4 w_1.b] [.code c48_17, .inLoop c48_17, .inBlock 0, .code c48_27] (pack_Writer_Num.l0 n w_1 x_5 k n_6 y_7) := by
  intro k
  induction k with
  | zero => intros; rw [pack_Writer_Num.l0.eq_1]; exact GoO.stop
  | succ k ih0 =>
    intro n_6 y_7
    rw [pack_Writer_Num.l0.eq_2]
    refine GoO.seq' c48_17e ?_
    refine GoO.seq' c48_18e ?_
    refine GoO.region' (is := [0, 1]) c48_19e (by kernel_rfl) ?_
    refine GoO.exec (is := [0, 1]) (hs := [.p, .p]) (rest := []) (ks := [0, 1, 5, 6, 12]) (env' := [(0, .pointer (some ⟨b_2, 0, none⟩)), (1, .int .u64 x_5), (5, .int .i64 n_6), (6, .int .u64 y_7), (12, .bool (decide (y_7 > 0)))]) (H' := [⟨1, b_2, [.slice A_3 w_1.b.length c_4]⟩]) (ps := []) (by kernel_rfl) trivial ?_
    refine GoO.regionEnd ?_
    refine GoO.ite' c48_20e (by kernel_rfl) (fun h8 => ?_) (fun h8 => ?_)
    · refine GoO.skip' c48_21e ?_
      refine GoO.seq' c48_23e ?_
      refine GoO.block' c48_24e ?_
      refine GoO.region' (is := [0, 1, 2]) c48_25e (by kernel_rfl) ?_
      refine GoO.exec (is := [0, 1, 2]) (hs := [.p, .p, .p]) (rest := []) (ks := [0, 1, 5, 6]) (env' := [(0, .pointer (some ⟨b_2, 0, none⟩)), (1, .int .u64 x_5), (5, .int .i64 (wi64 (n_6 + 1))), (6, .int .u64 y_7)]) (H' := [⟨1, b_2, [.slice A_3 w_1.b.length c_4]⟩]) (ps := []) (by kernel_rfl) trivial ?_
      refine GoO.regionEnd ?_
      refine GoO.inBlock ?_
      refine GoO.region' (is := [0, 1, 2]) c48_26e (by kernel_rfl) ?_
      refine GoO.exec (is := [0, 1, 2]) (hs := [.p, .p, .p]) (rest := []) (ks := [0, 1, 5, 6]) (env' := [(0, .pointer (some ⟨b_2, 0, none⟩)), (1, .int .u64 x_5), (5, .int .i64 (wi64 (n_6 + 1))), (6, .int .u64 (shR .u64 y_7 8))]) (H' := [⟨1, b_2, [.slice A_3 w_1.b.length c_4]⟩]) (ps := [(0 : Int) ≤ 8]) (by kernel_rfl) (And.intro (by decide) trivial) ?_
      refine GoO.regionEnd ?_
      refine GoO.inLoop ?_
      exact GoO.sub (ks := [0, 1, 5, 6]) (hk := [0]) (bk := [0]) (by kernel_rfl) (by kernel_rfl) (by kernel_rfl) (ih0 (wi64 (n_6 + 1)) (shR .u64 y_7 8))
    · refine GoO.exit' c48_22e rfl ?_
      refine GoO.seq' c48_27e ?_
      refine GoO.region' (is := [0, 1, 2, 3, 4, 5, 6, 7, 8, 9, 10, 11]) c48_28e (by kernel_rfl) ?_
      refine GoO.exec (is := [0, 1, 2, 3, 4, 5, 6]) (hs := [.p, .p, .p, .p, .b 0, .p, .p]) (rest := [7, 8, 9, 10, 11]) (ks := [0, 1, 5, 17, 21, 23]) (env' := [(0, .pointer (some ⟨b_2, 0, none⟩)), (1, .int .u64 x_5), (5, .int .i64 n_6), (17, .pointer (some ⟨b_2, 0, none⟩)), (21, .slice A_3 w_1.b.length c_4), (23, .int .u8 (wu8 n_6))]) (H' := [⟨1, b_2, [.slice A_3 w_1.b.length c_4]⟩]) (ps := [b_2 = b_2]) (by kernel_rfl) (And.intro rfl trivial) ?_
      refine OpTo.go (GoO.lit (e := 5) (K := Kd.u8) rfl (by kernel_rfl) (by kernel_rfl) (cs := [.int .u8 (wu8 n_6)]) (by kernel_rfl) [u8of n_6] (by kernel_rfl) (by kernel_rfl) (fun w S hB => ⟨[.int .u8 (wu8 n_6)], _, rfl, congrArg (fun v => [v]) (u8cell _), rfl⟩) 40 _ (fun _ _ => rfl) (fun A_9 c_10 => ?_))
      refine GoO.guard (fun h11 => ?_)
      refine OpTo.go (GoO.appW (e := 5) (K := Kd.u8) (A := A_3) (c := c_4) (tg := 2) (bytes := 1) (zs := [.int .u8 0]) (xs := w_1.b) (ys := [u8of n_6]) (xv := .slice A_9 [u8of n_6].length c_10) (j := 1) (bk := [0]) rfl (by kernel_rfl) (by kernel_rfl) (by kernel_rfl) (by kernel_rfl) rfl (by kernel_rfl) rfl (fun w S hB => SrcIs.row (Reads.own w S (hB _ (List.mem_of_getElem? (i := 0) rfl)))) h11 rfl rfl rfl rfl _ (fun _ _ => rfl) (fun A_12 c_13 => ?_))
      refine GoO.exec (is := [9, 10, 11]) (hs := [.p, .p, .b 0]) (rest := []) (ks := [0, 1, 5]) (env' := [(0, .pointer (some ⟨b_2, 0, none⟩)), (1, .int .u64 x_5), (5, .int .i64 n_6)]) (H' := [⟨1, b_2, [.slice A_12 (w_1.b ++ [u8of n_6]).length c_13]⟩]) (ps := [b_2 = b_2]) (by kernel_rfl) (And.intro rfl trivial) ?_
      refine GoO.regionEnd ?_
      refine GoO.seq' c48_29e ?_
      refine GoO.seq' c48_30e ?_
      refine GoO.region' (is := [0, 1, 2]) c48_31e (by kernel_rfl) ?_
      refine GoO.exec (is := [0, 1, 2]) (hs := [.p, .p, .p]) (rest := []) (ks := [0, 1, 7]) (env' := [(0, .pointer (some ⟨b_2, 0, none⟩)), (1, .int .u64 x_5), (7, .int .i64 (wi64 (n_6 - 1)))]) (H' := [⟨1, b_2, [.slice A_12 (w_1.b ++ [u8of n_6]).length c_13]⟩]) (ps := []) (by kernel_rfl) trivial ?_
      refine GoO.regionEnd ?_
      refine GoO.block' c48_32e ?_
      refine GoO.loop' c48_33e ?_
      exact GoO.sub (ks := [0, 1, 7]) (hk := [0]) (bk := [0]) (by kernel_rfl) (by kernel_rfl) (by kernel_rfl) (pack_Writer_Num_l1_ok n x_5 b_2 A_3 c_4 w0 S0 n (w_1.b ++ [u8of n_6]) (wi64 (n_6 - 1)) A_12 c_13)
theorem pack_Writer_Num_ok (n : Nat) (w_1 : T_pack_Writer) (x_5 : Int) (b_2 : Nat) (A_3 : Option Addr) (c_4 : Nat) :
    Meets Try.prog 48 [.pointer (some ⟨b_2, 0, none⟩), .int .u64 x_5] 2 [1, 2] [⟨1, b_2, [.slice A_3 w_1.b.length c_4]⟩] [Ow 2 Kd.u8 A_3 c_4 w_1.b] (pack_Writer_Num.f n w_1 x_5) (pack_Writer_Num.R b_2 A_3 c_4) := by
  refine Meets.of (c := c48_0) (n := 49) Try.func48 (by kernel_rfl) (by kernel_rfl) (by kernel_rfl) fun w0 S0 => ?_
  unfold pack_Writer_Num.f
  show GoO (pack_Writer_Num.cx b_2 A_3 c_4 w0 S0) [(0, .pointer (some ⟨b_2, 0, none⟩)), (1, .int .u64 x_5)] [⟨1, b_2, [.slice A_3 w_1.b.length c_4]⟩] [Ow 2 Kd.u8 A_3 c_4 w_1.b] [.code c48_0] _
  refine GoO.seq' c48_0e ?_
  refine GoO.region' (is := [0]) c48_1e (by kernel_rfl) ?_
  refine GoO.exec (is := [0]) (hs := [.p]) (rest := []) (ks := [0, 1]) (env' := [(0, .pointer (some ⟨b_2, 0, none⟩)), (1, .int .u64 x_5)]) (H' := [⟨1, b_2, [.slice A_3 w_1.b.length c_4]⟩]) (ps := []) (by kernel_rfl) trivial ?_
  refine GoO.regionEnd ?_
  refine GoO.seq' c48_2e ?_
  refine GoO.seq' c48_3e ?_
  refine GoO.region' (is := [0, 1]) c48_4e (by kernel_rfl) ?_
  refine GoO.exec (is := [0, 1]) (hs := [.p, .p]) (rest := []) (ks := [0, 1, 9]) (env' := [(0, .pointer (some ⟨b_2, 0, none⟩)), (1, .int .u64 x_5), (9, .bool false)]) (H' := [⟨1, b_2, [.slice A_3 w_1.b.length c_4]⟩]) (ps := []) (by kernel_rfl) trivial ?_
  refine GoO.regionEnd ?_
  refine GoO.condF c48_5e (by kernel_rfl) ?_
  refine GoO.skip' c48_9e ?_
  refine GoO.seq' c48_10e ?_
  refine GoO.region' (is := [0]) c48_11e (by kernel_rfl) ?_
  refine GoO.exec (is := [0]) (hs := [.p]) (rest := []) (ks := [0, 1, 5]) (env' := [(0, .pointer (some ⟨b_2, 0, none⟩)), (1, .int .u64 x_5), (5, .int .i64 0)]) (H' := [⟨1, b_2, [.slice A_3 w_1.b.length c_4]⟩]) (ps := []) (by kernel_rfl) trivial ?_
  refine GoO.regionEnd ?_
  refine GoO.seq' c48_12e ?_
  refine GoO.seq' c48_13e ?_
  refine GoO.region' (is := [0, 1]) c48_14e (by kernel_rfl) ?_
  refine GoO.exec (is := [0, 1]) (hs := [.p, .p]) (rest := []) (ks := [0, 1, 5, 6]) (env' := [(0, .pointer (some ⟨b_2, 0, none⟩)), (1, .int .u64 x_5), (5, .int .i64 0), (6, .int .u64 x_5)]) (H' := [⟨1, b_2, [.slice A_3 w_1.b.length c_4]⟩]) (ps := []) (by kernel_rfl) trivial ?_
  refine GoO.regionEnd ?_
  refine GoO.block' c48_15e ?_
  refine GoO.loop' c48_16e ?_
  exact GoO.sub (ks := [0, 1, 5, 6]) (hk := [0]) (bk := [0]) (by kernel_rfl) (by kernel_rfl) (by kernel_rfl) (pack_Writer_Num_l0_ok n w_1 x_5 b_2 A_3 c_4 w0 S0 n 0 x_5)

/-! (*tontine/pack.Writer).Text -/
noncomputable def c66_0 : Code := bodyOf Try.f66
noncomputable def c66_1 : Code := cdL c66_0
noncomputable def c66_2 : Code := cdR c66_0
noncomputable def c66_3 : Code := cdL c66_2
noncomputable def c66_4 : Code := cdL c66_3
noncomputable def c66_5 : Code := cdR c66_3
noncomputable def c66_9 : Code := cdR c66_5
noncomputable def c66_10 : Code := cdR c66_2
noncomputable def c66_11 : Code := cdL c66_10
noncomputable def c66_12 : Code := cdR c66_10
noncomputable def c66_13 : Code := cdL c66_12
noncomputable def c66_14 : Code := cdR c66_12
noncomputable def c66_15 : Code := cdL c66_14
noncomputable def c66_16 : Code := cdR c66_14
noncomputable def c66_6 : Code := cdL c66_5
noncomputable def r66_1 : Array Oper := cdO c66_1
noncomputable def r66_4 : Array Oper := cdO c66_4
noncomputable def r66_11 : Array Oper := cdO c66_11
noncomputable def r66_13 : Array Oper := cdO c66_13
noncomputable def r66_15 : Array Oper := cdO c66_15
theorem c66_0e : c66_0 = .seq c66_1 c66_2 := by kernel_rfl
theorem c66_1e : c66_1 = .region 0 r66_1 false := by kernel_rfl
theorem c66_2e : c66_2 = .seq c66_3 c66_10 := by kernel_rfl
theorem c66_3e : c66_3 = .seq c66_4 c66_5 := by kernel_rfl
theorem c66_4e : c66_4 = .region 1 r66_4 false := by kernel_rfl
theorem c66_5e : c66_5 = .cond (cdC c66_5) c66_6 c66_9 := by kernel_rfl
theorem c66_9e : c66_9 = .skip := by kernel_rfl
theorem c66_10e : c66_10 = .seq c66_11 c66_12 := by kernel_rfl
theorem c66_11e : c66_11 = .region 3 r66_11 false := by kernel_rfl
theorem c66_12e : c66_12 = .seq c66_13 c66_14 := by kernel_rfl
theorem c66_13e : c66_13 = .region 4 r66_13 false := by kernel_rfl
theorem c66_14e : c66_14 = .seq c66_15 c66_16 := by kernel_rfl
theorem c66_15e : c66_15 = .region 5 r66_15 false := by kernel_rfl
theorem c66_16e : c66_16 = .ret := by kernel_rfl
noncomputable def pack_Writer_Text.R (b_2 : Nat) (A_3 : Option Addr) (c_4 : Nat) : Pst T_pack_Writer where
  ε := Option Addr × Nat
  v := fun r x => .pointer (some ⟨b_2, 0, none⟩)
  H := fun r x => [⟨1, b_2, [.slice x.1 r.b.length x.2]⟩]
  B := fun r x => [Ow 2 Kd.u8 x.1 x.2 r.b]
noncomputable def pack_Writer_Text.cx (b_2 : Nat) (A_3 : Option Addr) (c_4 : Nat) (w0 : World) (S0 : Fam) : Cx T_pack_Writer := ⟨Try.prog, 66, Try.f66, 22, w0, S0, [1, 2], 2, pack_Writer_Text.R b_2 A_3 c_4⟩
theorem pack_Writer_Text_ok (n : Nat) (w_1 : T_pack_Writer) (s_5 : (List UInt8)) (b_2 : Nat) (A_3 : Option Addr) (c_4 : Nat) :
    Meets Try.prog 66 [.pointer (some ⟨b_2, 0, none⟩), .string (bs s_5)] 2 [1, 2] [⟨1, b_2, [.slice A_3 w_1.b.length c_4]⟩] [Ow 2 Kd.u8 A_3 c_4 w_1.b] (pack_Writer_Text.f n w_1 s_5) (pack_Writer_Text.R b_2 A_3 c_4) := by
  refine Meets.of (c := c66_0) (n := 22) Try.func66 (by kernel_rfl) (by kernel_rfl) (by kernel_rfl) fun w0 S0 => ?_
  unfold pack_Writer_Text.f
  show GoO (pack_Writer_Text.cx b_2 A_3 c_4 w0 S0) [(0, .pointer (some ⟨b_2, 0, none⟩)), (1, .string (bs s_5))] [⟨1, b_2, [.slice A_3 w_1.b.length c_4]⟩] [Ow 2 Kd.u8 A_3 c_4 w_1.b] [.code c66_0] _
  refine GoO.seq' c66_0e ?_
  refine GoO.region' (is := [0]) c66_1e (by kernel_rfl) ?_
  refine GoO.exec (is := [0]) (hs := [.p]) (rest := []) (ks := [0, 1]) (env' := [(0, .pointer (some ⟨b_2, 0, none⟩)), (1, .string (bs s_5))]) (H' := [⟨1, b_2, [.slice A_3 w_1.b.length c_4]⟩]) (ps := []) (by kernel_rfl) trivial ?_
  refine GoO.regionEnd ?_
  refine GoO.seq' c66_2e ?_
  refine GoO.seq' c66_3e ?_
  refine GoO.region' (is := [0, 1]) c66_4e (by kernel_rfl) ?_
  refine GoO.exec (is := [0, 1]) (hs := [.p, .p]) (rest := []) (ks := [0, 1, 6]) (env' := [(0, .pointer (some ⟨b_2, 0, none⟩)), (1, .string (bs s_5)), (6, .bool false)]) (H' := [⟨1, b_2, [.slice A_3 w_1.b.length c_4]⟩]) (ps := []) (by kernel_rfl) trivial ?_
  refine GoO.regionEnd ?_
  refine GoO.condF c66_5e (by kernel_rfl) ?_
  refine GoO.skip' c66_9e ?_
  refine GoO.seq' c66_10e ?_
  refine GoO.region' (is := [0, 1, 2, 3, 4]) c66_11e (by kernel_rfl) ?_
  refine GoO.exec (is := [0, 1, 2, 3]) (hs := [.p, .p, .p, .p]) (rest := [4]) (ks := [0, 1, 7, 10]) (env' := [(0, .pointer (some ⟨b_2, 0, none⟩)), (1, .string (bs s_5)), (7, .pointer (some ⟨b_2, 0, none⟩)), (10, .int .u64 (wu64 (s_5.length : Int)))]) (H' := [⟨1, b_2, [.slice A_3 w_1.b.length c_4]⟩]) (ps := []) (by kernel_rfl) trivial ?_
  refine OpTo.go (GoO.call rfl (by kernel_rfl) (by kernel_rfl) (pack_Writer_Num_ok n w_1 (wu64 (s_5.length : Int)) b_2 A_3 c_4) [[0], [1], [2]] [(1, 1), (2, 2)] [(1, 0)] [(2, 0)] (hks := []) (bks := []) (by kernel_rfl) (by kernel_rfl) (by kernel_rfl) (.inl rfl) rfl rfl (by kernel_rfl) (by kernel_rfl) _ (fun _ _ => rfl) _ _ (fun _ _ => rfl) (fun _ _ => rfl) (fun _ _ => by kernel_rfl) (fun _ _ => by kernel_rfl) (fun r_6 x_12 => ?_))
  obtain ⟨A_7, c_8⟩ := x_12
  refine GoO.shape (env' := [(0, .pointer (some ⟨b_2, 0, none⟩)), (1, .string (bs s_5)), (7, .pointer (some ⟨b_2, 0, none⟩)), (10, .int .u64 (wu64 (s_5.length : Int))), (11, .pointer (some ⟨b_2, 0, none⟩))]) (H' := [⟨1, b_2, [.slice A_7 r_6.b.length c_8]⟩]) (B' := [Ow 2 Kd.u8 A_7 c_8 r_6.b]) (ks := [0, 1, 7, 10, 11]) (by kernel_rfl) (by kernel_rfl) (by kernel_rfl) ?_
  refine GoO.regionEnd ?_
  refine GoO.seq' c66_12e ?_
  refine GoO.region' (is := [0, 1, 2, 3, 4, 5, 6, 7, 8, 9]) c66_13e (by kernel_rfl) ?_
  refine GoO.exec (is := [0, 1, 2, 3, 4, 5]) (hs := [.p, .p, .p, .p, .b 0, .p]) (rest := [6, 7, 8, 9]) (ks := [0, 12, 16, 17]) (env' := [(0, .pointer (some ⟨b_2, 0, none⟩)), (12, .pointer (some ⟨b_2, 0, none⟩)), (16, .slice A_7 r_6.b.length c_8), (17, .string (bs s_5))]) (H' := [⟨1, b_2, [.slice A_7 r_6.b.length c_8]⟩]) (ps := [b_2 = b_2]) (by kernel_rfl) (And.intro rfl trivial) ?_
  refine GoO.guard (fun h9 => ?_)
  refine OpTo.go (GoO.appW (e := 5) (K := Kd.u8) (A := A_7) (c := c_8) (tg := 2) (bytes := 1) (zs := [.int .u8 0]) (xs := r_6.b) (ys := s_5) (xv := .string (bs s_5)) (j := 0) (bk := []) rfl (by kernel_rfl) (by kernel_rfl) (by kernel_rfl) (by kernel_rfl) rfl (by kernel_rfl) rfl (fun _ _ _ => SrcIs.str _) h9 rfl rfl rfl rfl _ (fun _ _ => rfl) (fun A_10 c_11 => ?_))
  refine GoO.exec (is := [7, 8, 9]) (hs := [.p, .p, .b 0]) (rest := []) (ks := [0]) (env' := [(0, .pointer (some ⟨b_2, 0, none⟩))]) (H' := [⟨1, b_2, [.slice A_10 (r_6.b ++ s_5).length c_11]⟩]) (ps := [b_2 = b_2]) (by kernel_rfl) (And.intro rfl trivial) ?_
  refine GoO.regionEnd ?_
  refine GoO.seq' c66_14e ?_
  refine GoO.region' (is := [0, 1]) c66_15e (by kernel_rfl) ?_
  refine GoO.exec (is := [0, 1]) (hs := [.p, .p]) (rest := []) (ks := [4]) (env' := [(4, .pointer (some ⟨b_2, 0, none⟩))]) (H' := [⟨1, b_2, [.slice A_10 (r_6.b ++ s_5).length c_11]⟩]) (ps := []) (by kernel_rfl) trivial ?_
  refine GoO.regionEnd ?_
  exact GoO.ret' (h := c66_16e) (hs := []) (ps := []) (hk := [0]) (bk := [0]) Try.func66 (⟨A_10, c_11⟩ : Option Addr × Nat) (by kernel_rfl) trivial (by kernel_rfl) (by kernel_rfl)

/-! tontine/plan.Write -/
noncomputable def c49_0 : Code := bodyOf Try.f49
noncomputable def c49_1 : Code := cdL c49_0
noncomputable def c49_2 : Code := cdR c49_0
noncomputable def c49_3 : Code := cdL c49_2
noncomputable def c49_4 : Code := cdR c49_2
noncomputable def c49_5 : Code := cdL c49_4
noncomputable def c49_6 : Code := cdL c49_5
noncomputable def c49_7 : Code := cdL c49_6
noncomputable def c49_8 : Code := cdR c49_6
noncomputable def c49_9 : Code := cdL c49_8
noncomputable def c49_10 : Code := cdL c49_9
noncomputable def c49_11 : Code := cdR c49_9
noncomputable def c49_12 : Code := cdR c49_8
noncomputable def c49_13 : Code := cdL c49_12
noncomputable def c49_14 : Code := cdL c49_13
noncomputable def c49_15 : Code := cdL c49_14
noncomputable def c49_16 : Code := cdR c49_14
noncomputable def c49_17 : Code := cdR c49_12
noncomputable def r49_1 : Array Oper := cdO c49_1
noncomputable def r49_3 : Array Oper := cdO c49_3
noncomputable def r49_7 : Array Oper := cdO c49_7
noncomputable def r49_15 : Array Oper := cdO c49_15
noncomputable def r49_16 : Array Oper := cdO c49_16
noncomputable def r49_17 : Array Oper := cdO c49_17
theorem c49_0e : c49_0 = .seq c49_1 c49_2 := by kernel_rfl
theorem c49_1e : c49_1 = .region 0 r49_1 false := by kernel_rfl
theorem c49_2e : c49_2 = .seq c49_3 c49_4 := by kernel_rfl
theorem c49_3e : c49_3 = .region 1 r49_3 false := by kernel_rfl
theorem c49_4e : c49_4 = .block 0 c49_5 := by kernel_rfl
theorem c49_5e : c49_5 = .loop c49_6 := by kernel_rfl
theorem c49_6e : c49_6 = .seq c49_7 c49_8 := by kernel_rfl
theorem c49_7e : c49_7 = .region 2 r49_7 false := by kernel_rfl
theorem c49_8e : c49_8 = .seq c49_9 c49_12 := by kernel_rfl
theorem c49_9e : c49_9 = .cond (cdC c49_9) c49_10 c49_11 := by kernel_rfl
theorem c49_10e : c49_10 = .skip := by kernel_rfl
theorem c49_11e : c49_11 = .exit 0 := by kernel_rfl
theorem c49_12e : c49_12 = .seq c49_13 c49_17 := by kernel_rfl
theorem c49_13e : c49_13 = .block 1 c49_14 := by kernel_rfl
theorem c49_14e : c49_14 = .seq c49_15 c49_16 := by kernel_rfl
theorem c49_15e : c49_15 = .region 3 r49_15 false := by kernel_rfl
theorem c49_16e : c49_16 = .region 4 r49_16 true := by kernel_rfl
theorem c49_17e : c49_17 = .region 5 r49_17 false := by kernel_rfl
noncomputable def plan_Write.R (b_2 : Nat) (A_3 : Option Addr) (c_4 : Nat) (A_6 : Option Addr) (c_7 : Nat) : Pst T_pack_Writer where
  ε := Option Addr × Nat
  v := fun r x => .tuple ⟨[]⟩
  H := fun r x => [⟨1, b_2, [.slice x.1 r.b.length x.2]⟩]
  B := fun r x => [Ow 2 Kd.u8 x.1 x.2 r.b]
noncomputable def plan_Write.cx (b_2 : Nat) (A_3 : Option Addr) (c_4 : Nat) (A_6 : Option Addr) (c_7 : Nat) (w0 : World) (S0 : Fam) : Cx T_pack_Writer := ⟨Try.prog, 49, Try.f49, 30, w0, S0, [1, 2], 2, plan_Write.R b_2 A_3 c_4 A_6 c_7⟩
theorem plan_Write_l0_ok (n : Nat) (l_5 : (List T_api_Step)) (b_2 : Nat) (A_6 : Option Addr) (c_7 : Nat) (A_3 : Option Addr) (c_4 : Nat) (w0 : World) (S0 : Fam) :
    ∀ (k : Nat) (f_11 : (List UInt8)) (x_14 : Int) (A_12 : Option Addr) (c_13 : Nat), GoO (plan_Write.cx b_2 A_3 c_4 A_6 c_7 w0 S0) [(0, .pointer (some ⟨b_2, 0, none⟩)), (11, .slice A_6 l_5.length c_7), (12, .int .i64 (l_5.length : Int)), (13, .int .i64 x_14)] [⟨1, b_2, [.slice A_12 f_11.length c_13]⟩] [Ow 2 Kd.u8 A_12 c_13 f_11, Rd 0 kT_api_Step A_6 c_7 l_5] [.code c49_6, .inLoop c49_6, .inBlock 0] (plan_Write.l0 n l_5 k f_11 x_14) := by
  intro k
  induction k with
  | zero => intros; rw [plan_Write.l0.eq_1]; exact GoO.stop
  | succ k ih0 =>
    intro f_11 x_14 A_12 c_13
    rw [plan_Write.l0.eq_2]
    refine GoO.seq' c49_6e ?_
    refine GoO.region' (is := [0]) c49_7e (by kernel_rfl) ?_
    refine GoO.exec (is := [0]) (hs := [.p]) (rest := []) (ks := [0, 11, 12, 13, 14]) (env' := [(0, .pointer (some ⟨b_2, 0, none⟩)), (11, .slice A_6 l_5.length c_7), (12, .int .i64 (l_5.length : Int)), (13, .int .i64 x_14), (14, .bool (decide (x_14 < (l_5.length : Int))))]) (H' := [⟨1, b_2, [.slice A_12 f_11.length c_13]⟩]) (ps := []) (by kernel_rfl) trivial ?_
    refine GoO.regionEnd ?_
    refine GoO.seq' c49_8e ?_
    refine GoO.ite' c49_9e (by kernel_rfl) (fun h15 => ?_) (fun h15 => ?_)
    · refine GoO.skip' c49_10e ?_
      refine GoO.seq' c49_12e ?_
      refine GoO.block' c49_13e ?_
      refine GoO.seq' c49_14e ?_
      refine GoO.region' (is := [0, 1, 2, 3]) c49_15e (by kernel_rfl) ?_
      refine GoO.guard (fun h16 => ?_)
      refine OpTo.go (GoO.idx (kk := .i64) (e := 50) (K := kT_api_Step) (A := A_6) (c := c_7) (xs := l_5) (iv := x_14) (j := 1) rfl (by kernel_rfl) (by kernel_rfl) (by kernel_rfl) (by kernel_rfl) rfl Reads.rd rfl h16.1 h16.2 (by decide) rfl ?_)
      refine OpTo.go (GoO.ldE' (K := kT_api_Step) (A := A_6) (c := c_7) (xs := l_5) (iN := x_14.toNat) (off := 0) (j := 1) rfl (by kernel_rfl) rfl Reads.rd (idx_lt h16.1 h16.2) (by decide) (Opn.flat _ _ _ _ _) (v := fun _ => .agg ⟨[.int .i64 ((rdL l_5 x_14).Part), .string (bs ((rdL l_5 x_14).Name)), .int .i64 ((rdL l_5 x_14).Budget)]⟩) (fun _ => by kernel_rfl) _ (fun _ => rfl) (fun _ => ?_))
      refine OpTo.go (GoO.new rfl 40 (cs := [.int .i64 0, .string (bs []), .int .i64 0]) (by kernel_rfl) _ (fun _ => rfl) (fun b_17 => ?_))
      refine GoO.exec (is := [3]) (hs := [.b 0]) (rest := []) (ks := [0, 5, 11, 12, 13]) (env' := [(0, .pointer (some ⟨b_2, 0, none⟩)), (5, .pointer (some ⟨b_17, 0, none⟩)), (11, .slice A_6 l_5.length c_7), (12, .int .i64 (l_5.length : Int)), (13, .int .i64 x_14)]) (H' := [⟨40, b_17, [.int .i64 ((rdL l_5 x_14).Part), .string (bs ((rdL l_5 x_14).Name)), .int .i64 ((rdL l_5 x_14).Budget)]⟩, ⟨1, b_2, [.slice A_12 f_11.length c_13]⟩]) (ps := [b_17 = b_17]) (by kernel_rfl) (And.intro rfl trivial) ?_
      refine GoO.regionEnd ?_
      refine GoO.draw c49_16e (by kernel_rfl) [] [⟨40, b_17, [.int .i64 ((rdL l_5 x_14).Part), .string (bs ((rdL l_5 x_14).Name)), .int .i64 ((rdL l_5 x_14).Budget)]⟩] [] (n := 12) (by kernel_rfl) ?_
      simp only [List.replicate]
      refine GoF.take [0, 1, 2, 3, 5, 6, 8, 9, 10] [.p, .p, .b 0, .p, .p, .b 0, .p, .b 0, .p] (ks := [0, 11, 12, 13, 17, 20, 23, 27]) (fu := 3) (li := [true, true, true, true, false, true, true, false, true, true, true, false]) (env' := [(0, .pointer (some ⟨b_2, 0, none⟩)), (11, .slice A_6 l_5.length c_7), (12, .int .i64 (l_5.length : Int)), (13, .int .i64 x_14), (17, .pointer (some ⟨b_2, 0, none⟩)), (20, .int .u64 (wu64 ((rdL l_5 x_14).Part))), (23, .string (bs ((rdL l_5 x_14).Name))), (27, .int .u64 (wu64 ((rdL l_5 x_14).Budget)))]) (ps := [b_17 = b_17, b_17 = b_17, b_17 = b_17]) (hk := [0]) (bk := []) (by kernel_rfl) (And.intro rfl (And.intro rfl (And.intro rfl trivial))) rfl rfl ?_
      refine OpTo.goF (i := 4) (by kernel_rfl) (hk := [1]) (bk := []) (GoO.call rfl (by kernel_rfl) (by kernel_rfl) (pack_Writer_Num_ok n (⟨f_11⟩ : T_pack_Writer) (wu64 ((rdL l_5 x_14).Part)) b_2 A_12 c_13) [[0], [1], [2]] [(1, 1), (2, 2)] [(1, 1)] [(2, 0)] (hks := [0]) (bks := [1]) (by kernel_rfl) (by kernel_rfl) (by kernel_rfl) (.inl rfl) rfl rfl (by kernel_rfl) (by kernel_rfl) _ (fun _ _ => rfl) _ _ (fun _ _ => rfl) (fun _ _ => rfl) (fun _ _ => by kernel_rfl) (fun _ _ => by kernel_rfl) (fun r_18 x_29 => ⟨rfl, rfl, ?_⟩))
      obtain ⟨A_19, c_20⟩ := x_29
      refine GoF.shape (env' := [(0, .pointer (some ⟨b_2, 0, none⟩)), (11, .slice A_6 l_5.length c_7), (12, .int .i64 (l_5.length : Int)), (13, .int .i64 x_14), (17, .pointer (some ⟨b_2, 0, none⟩)), (20, .int .u64 (wu64 ((rdL l_5 x_14).Part))), (21, .pointer (some ⟨b_2, 0, none⟩)), (23, .string (bs ((rdL l_5 x_14).Name))), (27, .int .u64 (wu64 ((rdL l_5 x_14).Budget)))]) (H' := [⟨1, b_2, [.slice A_19 r_18.b.length c_20]⟩, ⟨40, b_17, [.int .i64 ((rdL l_5 x_14).Part), .string (bs ((rdL l_5 x_14).Name)), .int .i64 ((rdL l_5 x_14).Budget)]⟩]) (B' := [Ow 2 Kd.u8 A_19 c_20 r_18.b, Rd 0 kT_api_Step A_6 c_7 l_5]) (ks := [0, 11, 12, 13, 17, 20, 21, 23, 27]) (by kernel_rfl) (by kernel_rfl) (by kernel_rfl) ?_
      refine OpTo.goF (i := 7) (by kernel_rfl) (hk := [1]) (bk := []) (GoO.call rfl (by kernel_rfl) (by kernel_rfl) (pack_Writer_Text_ok n r_18 ((rdL l_5 x_14).Name) b_2 A_19 c_20) [[0], [1], [2]] [(1, 1), (2, 2)] [(1, 0)] [(2, 0)] (hks := [1]) (bks := [1]) (by kernel_rfl) (by kernel_rfl) (by kernel_rfl) (.inl rfl) rfl rfl (by kernel_rfl) (by kernel_rfl) _ (fun _ _ => rfl) _ _ (fun _ _ => rfl) (fun _ _ => rfl) (fun _ _ => by kernel_rfl) (fun _ _ => by kernel_rfl) (fun r_21 x_28 => ⟨rfl, rfl, ?_⟩))
      obtain ⟨A_22, c_23⟩ := x_28
      refine GoF.shape (env' := [(0, .pointer (some ⟨b_2, 0, none⟩)), (11, .slice A_6 l_5.length c_7), (12, .int .i64 (l_5.length : Int)), (13, .int .i64 x_14), (17, .pointer (some ⟨b_2, 0, none⟩)), (20, .int .u64 (wu64 ((rdL l_5 x_14).Part))), (21, .pointer (some ⟨b_2, 0, none⟩)), (23, .string (bs ((rdL l_5 x_14).Name))), (24, .pointer (some ⟨b_2, 0, none⟩)), (27, .int .u64 (wu64 ((rdL l_5 x_14).Budget)))]) (H' := [⟨1, b_2, [.slice A_22 r_21.b.length c_23]⟩, ⟨40, b_17, [.int .i64 ((rdL l_5 x_14).Part), .string (bs ((rdL l_5 x_14).Name)), .int .i64 ((rdL l_5 x_14).Budget)]⟩]) (B' := [Ow 2 Kd.u8 A_22 c_23 r_21.b, Rd 0 kT_api_Step A_6 c_7 l_5]) (ks := [0, 11, 12, 13, 17, 20, 21, 23, 24, 27]) (by kernel_rfl) (by kernel_rfl) (by kernel_rfl) ?_
      refine OpTo.goF (i := 11) (by kernel_rfl) (hk := [1]) (bk := []) (GoO.call rfl (by kernel_rfl) (by kernel_rfl) (pack_Writer_Num_ok n r_21 (wu64 ((rdL l_5 x_14).Budget)) b_2 A_22 c_23) [[0], [1], [2]] [(1, 1), (2, 2)] [(1, 0)] [(2, 0)] (hks := [1]) (bks := [1]) (by kernel_rfl) (by kernel_rfl) (by kernel_rfl) (.inl rfl) rfl rfl (by kernel_rfl) (by kernel_rfl) _ (fun _ _ => rfl) _ _ (fun _ _ => rfl) (fun _ _ => rfl) (fun _ _ => by kernel_rfl) (fun _ _ => by kernel_rfl) (fun r_24 x_27 => ⟨rfl, rfl, ?_⟩))
      obtain ⟨A_25, c_26⟩ := x_27
      refine GoF.shape (env' := [(0, .pointer (some ⟨b_2, 0, none⟩)), (11, .slice A_6 l_5.length c_7), (12, .int .i64 (l_5.length : Int)), (13, .int .i64 x_14), (17, .pointer (some ⟨b_2, 0, none⟩)), (20, .int .u64 (wu64 ((rdL l_5 x_14).Part))), (21, .pointer (some ⟨b_2, 0, none⟩)), (23, .string (bs ((rdL l_5 x_14).Name))), (24, .pointer (some ⟨b_2, 0, none⟩)), (27, .int .u64 (wu64 ((rdL l_5 x_14).Budget))), (28, .pointer (some ⟨b_2, 0, none⟩))]) (H' := [⟨1, b_2, [.slice A_25 r_24.b.length c_26]⟩, ⟨40, b_17, [.int .i64 ((rdL l_5 x_14).Part), .string (bs ((rdL l_5 x_14).Name)), .int .i64 ((rdL l_5 x_14).Budget)]⟩]) (B' := [Ow 2 Kd.u8 A_25 c_26 r_24.b, Rd 0 kT_api_Step A_6 c_7 l_5]) (ks := [0, 11, 12, 13, 17, 20, 21, 23, 24, 27, 28]) (by kernel_rfl) (by kernel_rfl) (by kernel_rfl) ?_
      refine GoF.done (by kernel_rfl) ?_
      refine GoO.inBlock ?_
      refine GoO.region' (is := [0, 1]) c49_17e (by kernel_rfl) ?_
      refine GoO.exec (is := [0, 1]) (hs := [.p, .p]) (rest := []) (ks := [0, 11, 12, 13]) (env' := [(0, .pointer (some ⟨b_2, 0, none⟩)), (11, .slice A_6 l_5.length c_7), (12, .int .i64 (l_5.length : Int)), (13, .int .i64 (wi64 (x_14 + 1)))]) (H' := [⟨1, b_2, [.slice A_25 r_24.b.length c_26]⟩, ⟨40, b_17, [.int .i64 ((rdL l_5 x_14).Part), .string (bs ((rdL l_5 x_14).Name)), .int .i64 ((rdL l_5 x_14).Budget)]⟩]) (ps := []) (by kernel_rfl) trivial ?_
      refine GoO.regionEnd ?_
      refine GoO.inLoop ?_
      exact GoO.sub (ks := [0, 11, 12, 13]) (hk := [0]) (bk := [0, 1]) (by kernel_rfl) (by kernel_rfl) (by kernel_rfl) (ih0 r_24.b (wi64 (x_14 + 1)) A_25 c_26)
    · refine GoO.exit' c49_11e rfl ?_
      exact GoO.fin (hs := []) (ps := []) (hk := [0]) (bk := [0]) Try.func49 (⟨A_12, c_13⟩ : Option Addr × Nat) (by kernel_rfl) trivial (by kernel_rfl) (by kernel_rfl)
theorem plan_Write_ok (n : Nat) (w_1 : T_pack_Writer) (l_5 : (List T_api_Step)) (b_2 : Nat) (A_3 : Option Addr) (c_4 : Nat) (A_6 : Option Addr) (c_7 : Nat) :
    Meets Try.prog 49 [.pointer (some ⟨b_2, 0, none⟩), .slice A_6 l_5.length c_7] 2 [1, 2] [⟨1, b_2, [.slice A_3 w_1.b.length c_4]⟩] [Ow 2 Kd.u8 A_3 c_4 w_1.b, Rd 0 kT_api_Step A_6 c_7 l_5] (plan_Write.f n w_1 l_5) (plan_Write.R b_2 A_3 c_4 A_6 c_7) := by
  refine Meets.of (c := c49_0) (n := 30) Try.func49 (by kernel_rfl) (by kernel_rfl) (by kernel_rfl) fun w0 S0 => ?_
  unfold plan_Write.f
  show GoO (plan_Write.cx b_2 A_3 c_4 A_6 c_7 w0 S0) [(0, .pointer (some ⟨b_2, 0, none⟩)), (1, .slice A_6 l_5.length c_7)] [⟨1, b_2, [.slice A_3 w_1.b.length c_4]⟩] [Ow 2 Kd.u8 A_3 c_4 w_1.b, Rd 0 kT_api_Step A_6 c_7 l_5] [.code c49_0] _
  refine GoO.seq' c49_0e ?_
  refine GoO.region' (is := [0, 1, 2, 3, 4]) c49_1e (by kernel_rfl) ?_
  refine GoO.exec (is := [0, 1, 2, 3]) (hs := [.p, .p, .p, .p]) (rest := [4]) (ks := [0, 1, 6, 9]) (env' := [(0, .pointer (some ⟨b_2, 0, none⟩)), (1, .slice A_6 l_5.length c_7), (6, .pointer (some ⟨b_2, 0, none⟩)), (9, .int .u64 (wu64 (l_5.length : Int)))]) (H' := [⟨1, b_2, [.slice A_3 w_1.b.length c_4]⟩]) (ps := []) (by kernel_rfl) trivial ?_
  refine OpTo.go (GoO.call rfl (by kernel_rfl) (by kernel_rfl) (pack_Writer_Num_ok n w_1 (wu64 (l_5.length : Int)) b_2 A_3 c_4) [[0], [1], [2]] [(1, 1), (2, 2)] [(1, 0)] [(2, 0)] (hks := []) (bks := [1]) (by kernel_rfl) (by kernel_rfl) (by kernel_rfl) (.inl rfl) rfl rfl (by kernel_rfl) (by kernel_rfl) _ (fun _ _ => rfl) _ _ (fun _ _ => rfl) (fun _ _ => rfl) (fun _ _ => by kernel_rfl) (fun _ _ => by kernel_rfl) (fun r_8 x_30 => ?_))
  obtain ⟨A_9, c_10⟩ := x_30
  refine GoO.shape (env' := [(0, .pointer (some ⟨b_2, 0, none⟩)), (1, .slice A_6 l_5.length c_7), (6, .pointer (some ⟨b_2, 0, none⟩)), (9, .int .u64 (wu64 (l_5.length : Int))), (10, .pointer (some ⟨b_2, 0, none⟩))]) (H' := [⟨1, b_2, [.slice A_9 r_8.b.length c_10]⟩]) (B' := [Ow 2 Kd.u8 A_9 c_10 r_8.b, Rd 0 kT_api_Step A_6 c_7 l_5]) (ks := [0, 1, 6, 9, 10]) (by kernel_rfl) (by kernel_rfl) (by kernel_rfl) ?_
  refine GoO.regionEnd ?_
  refine GoO.seq' c49_2e ?_
  refine GoO.region' (is := [0, 1, 2]) c49_3e (by kernel_rfl) ?_
  refine GoO.exec (is := [0, 1, 2]) (hs := [.p, .p, .p]) (rest := []) (ks := [0, 11, 12, 13]) (env' := [(0, .pointer (some ⟨b_2, 0, none⟩)), (11, .slice A_6 l_5.length c_7), (12, .int .i64 (l_5.length : Int)), (13, .int .i64 0)]) (H' := [⟨1, b_2, [.slice A_9 r_8.b.length c_10]⟩]) (ps := []) (by kernel_rfl) trivial ?_
  refine GoO.regionEnd ?_
  refine GoO.block' c49_4e ?_
  refine GoO.loop' c49_5e ?_
  exact GoO.sub (ks := [0, 11, 12, 13]) (hk := [0]) (bk := [0, 1]) (by kernel_rfl) (by kernel_rfl) (by kernel_rfl) (plan_Write_l0_ok n l_5 b_2 A_6 c_7 A_3 c_4 w0 S0 n r_8.b 0 A_9 c_10)

/-! (*tontine/pack.Writer).Bool -/
noncomputable def c50_0 : Code := bodyOf Try.f50
noncomputable def c50_1 : Code := cdL c50_0
noncomputable def c50_2 : Code := cdR c50_0
noncomputable def c50_3 : Code := cdL c50_2
noncomputable def c50_4 : Code := cdL c50_3
noncomputable def c50_5 : Code := cdR c50_3
noncomputable def c50_6 : Code := cdL c50_5
noncomputable def c50_7 : Code := cdL c50_6
noncomputable def c50_8 : Code := cdR c50_6
noncomputable def c50_9 : Code := cdR c50_5
noncomputable def c50_10 : Code := cdR c50_2
noncomputable def c50_11 : Code := cdL c50_10
noncomputable def c50_12 : Code := cdR c50_10
noncomputable def r50_1 : Array Oper := cdO c50_1
noncomputable def r50_4 : Array Oper := cdO c50_4
noncomputable def r50_7 : Array Oper := cdO c50_7
noncomputable def r50_11 : Array Oper := cdO c50_11
theorem c50_0e : c50_0 = .seq c50_1 c50_2 := by kernel_rfl
theorem c50_1e : c50_1 = .region 0 r50_1 false := by kernel_rfl
theorem c50_2e : c50_2 = .seq c50_3 c50_10 := by kernel_rfl
theorem c50_3e : c50_3 = .seq c50_4 c50_5 := by kernel_rfl
theorem c50_4e : c50_4 = .region 1 r50_4 false := by kernel_rfl
theorem c50_5e : c50_5 = .cond (cdC c50_5) c50_6 c50_9 := by kernel_rfl
theorem c50_6e : c50_6 = .seq c50_7 c50_8 := by kernel_rfl
theorem c50_7e : c50_7 = .region 2 r50_7 false := by kernel_rfl
theorem c50_8e : c50_8 = .ret := by kernel_rfl
theorem c50_9e : c50_9 = .skip := by kernel_rfl
theorem c50_10e : c50_10 = .seq c50_11 c50_12 := by kernel_rfl
theorem c50_11e : c50_11 = .region 3 r50_11 false := by kernel_rfl
theorem c50_12e : c50_12 = .ret := by kernel_rfl
noncomputable def pack_Writer_Bool.R (b_2 : Nat) (A_3 : Option Addr) (c_4 : Nat) : Pst T_pack_Writer where
  ε := Option Addr × Nat
  v := fun r x => .pointer (some ⟨b_2, 0, none⟩)
  H := fun r x => [⟨1, b_2, [.slice x.1 r.b.length x.2]⟩]
  B := fun r x => [Ow 2 Kd.u8 x.1 x.2 r.b]
noncomputable def pack_Writer_Bool.cx (b_2 : Nat) (A_3 : Option Addr) (c_4 : Nat) (w0 : World) (S0 : Fam) : Cx T_pack_Writer := ⟨Try.prog, 50, Try.f50, 10, w0, S0, [1, 2], 2, pack_Writer_Bool.R b_2 A_3 c_4⟩
theorem pack_Writer_Bool_ok (n : Nat) (w_1 : T_pack_Writer) (x_5 : Bool) (b_2 : Nat) (A_3 : Option Addr) (c_4 : Nat) :
    Meets Try.prog 50 [.pointer (some ⟨b_2, 0, none⟩), .bool x_5] 2 [1, 2] [⟨1, b_2, [.slice A_3 w_1.b.length c_4]⟩] [Ow 2 Kd.u8 A_3 c_4 w_1.b] (pack_Writer_Bool.f n w_1 x_5) (pack_Writer_Bool.R b_2 A_3 c_4) := by
  refine Meets.of (c := c50_0) (n := 10) Try.func50 (by kernel_rfl) (by kernel_rfl) (by kernel_rfl) fun w0 S0 => ?_
  unfold pack_Writer_Bool.f
  show GoO (pack_Writer_Bool.cx b_2 A_3 c_4 w0 S0) [(0, .pointer (some ⟨b_2, 0, none⟩)), (1, .bool x_5)] [⟨1, b_2, [.slice A_3 w_1.b.length c_4]⟩] [Ow 2 Kd.u8 A_3 c_4 w_1.b] [.code c50_0] _
  refine GoO.seq' c50_0e ?_
  refine GoO.region' (is := [0]) c50_1e (by kernel_rfl) ?_
  refine GoO.exec (is := [0]) (hs := [.p]) (rest := []) (ks := [0, 1]) (env' := [(0, .pointer (some ⟨b_2, 0, none⟩)), (1, .bool x_5)]) (H' := [⟨1, b_2, [.slice A_3 w_1.b.length c_4]⟩]) (ps := []) (by kernel_rfl) trivial ?_
  refine GoO.regionEnd ?_
  refine GoO.seq' c50_2e ?_
  refine GoO.seq' c50_3e ?_
  refine GoO.region' (is := [0]) c50_4e (by kernel_rfl) ?_
  refine GoO.exec (is := [0]) (hs := [.p]) (rest := []) (ks := [0, 5]) (env' := [(0, .pointer (some ⟨b_2, 0, none⟩)), (5, .bool x_5)]) (H' := [⟨1, b_2, [.slice A_3 w_1.b.length c_4]⟩]) (ps := []) (by kernel_rfl) trivial ?_
  refine GoO.regionEnd ?_
  refine GoO.ite' c50_5e (by kernel_rfl) (fun h6 => ?_) (fun h6 => ?_)
  · refine GoO.seq' c50_6e ?_
    refine GoO.region' (is := [0, 1, 2]) c50_7e (by kernel_rfl) ?_
    refine GoO.exec (is := [0]) (hs := [.p]) (rest := [1, 2]) (ks := [6]) (env' := [(6, .pointer (some ⟨b_2, 0, none⟩))]) (H' := [⟨1, b_2, [.slice A_3 w_1.b.length c_4]⟩]) (ps := []) (by kernel_rfl) trivial ?_
    refine OpTo.go (GoO.call rfl (by kernel_rfl) (by kernel_rfl) (pack_Writer_Num_ok n w_1 1 b_2 A_3 c_4) [[0], [1], [2]] [(1, 1), (2, 2)] [(1, 0)] [(2, 0)] (hks := []) (bks := []) (by kernel_rfl) (by kernel_rfl) (by kernel_rfl) (.inl rfl) rfl rfl (by kernel_rfl) (by kernel_rfl) _ (fun _ _ => rfl) _ _ (fun _ _ => rfl) (fun _ _ => rfl) (fun _ _ => by kernel_rfl) (fun _ _ => by kernel_rfl) (fun r_7 x_10 => ?_))
    obtain ⟨A_8, c_9⟩ := x_10
    refine GoO.shape (env' := [(6, .pointer (some ⟨b_2, 0, none⟩)), (7, .pointer (some ⟨b_2, 0, none⟩))]) (H' := [⟨1, b_2, [.slice A_8 r_7.b.length c_9]⟩]) (B' := [Ow 2 Kd.u8 A_8 c_9 r_7.b]) (ks := [6, 7]) (by kernel_rfl) (by kernel_rfl) (by kernel_rfl) ?_
    refine GoO.exec (is := [2]) (hs := [.p]) (rest := []) (ks := [4]) (env' := [(4, .pointer (some ⟨b_2, 0, none⟩))]) (H' := [⟨1, b_2, [.slice A_8 r_7.b.length c_9]⟩]) (ps := []) (by kernel_rfl) trivial ?_
    refine GoO.regionEnd ?_
    exact GoO.ret' (h := c50_8e) (hs := []) (ps := []) (hk := [0]) (bk := [0]) Try.func50 (⟨A_8, c_9⟩ : Option Addr × Nat) (by kernel_rfl) trivial (by kernel_rfl) (by kernel_rfl)
  · refine GoO.skip' c50_9e ?_
    refine GoO.seq' c50_10e ?_
    refine GoO.region' (is := [0, 1, 2]) c50_11e (by kernel_rfl) ?_
    refine GoO.exec (is := [0]) (hs := [.p]) (rest := [1, 2]) (ks := [8]) (env' := [(8, .pointer (some ⟨b_2, 0, none⟩))]) (H' := [⟨1, b_2, [.slice A_3 w_1.b.length c_4]⟩]) (ps := []) (by kernel_rfl) trivial ?_
    refine OpTo.go (GoO.call rfl (by kernel_rfl) (by kernel_rfl) (pack_Writer_Num_ok n w_1 0 b_2 A_3 c_4) [[0], [1], [2]] [(1, 1), (2, 2)] [(1, 0)] [(2, 0)] (hks := []) (bks := []) (by kernel_rfl) (by kernel_rfl) (by kernel_rfl) (.inl rfl) rfl rfl (by kernel_rfl) (by kernel_rfl) _ (fun _ _ => rfl) _ _ (fun _ _ => rfl) (fun _ _ => rfl) (fun _ _ => by kernel_rfl) (fun _ _ => by kernel_rfl) (fun r_11 x_14 => ?_))
    obtain ⟨A_12, c_13⟩ := x_14
    refine GoO.shape (env' := [(8, .pointer (some ⟨b_2, 0, none⟩)), (9, .pointer (some ⟨b_2, 0, none⟩))]) (H' := [⟨1, b_2, [.slice A_12 r_11.b.length c_13]⟩]) (B' := [Ow 2 Kd.u8 A_12 c_13 r_11.b]) (ks := [8, 9]) (by kernel_rfl) (by kernel_rfl) (by kernel_rfl) ?_
    refine GoO.exec (is := [2]) (hs := [.p]) (rest := []) (ks := [4]) (env' := [(4, .pointer (some ⟨b_2, 0, none⟩))]) (H' := [⟨1, b_2, [.slice A_12 r_11.b.length c_13]⟩]) (ps := []) (by kernel_rfl) trivial ?_
    refine GoO.regionEnd ?_
    exact GoO.ret' (h := c50_12e) (hs := []) (ps := []) (hk := [0]) (bk := [0]) Try.func50 (⟨A_12, c_13⟩ : Option Addr × Nat) (by kernel_rfl) trivial (by kernel_rfl) (by kernel_rfl)

/-! (*tontine/pack.Writer).Bytes -/
noncomputable def c40_0 : Code := bodyOf Try.f40
noncomputable def c40_1 : Code := cdL c40_0
noncomputable def c40_2 : Code := cdR c40_0
noncomputable def c40_3 : Code := cdL c40_2
noncomputable def c40_4 : Code := cdL c40_3
noncomputable def c40_5 : Code := cdR c40_3
noncomputable def c40_9 : Code := cdR c40_5
noncomputable def c40_10 : Code := cdR c40_2
noncomputable def c40_11 : Code := cdL c40_10
noncomputable def c40_12 : Code := cdR c40_10
noncomputable def c40_6 : Code := cdL c40_5
noncomputable def r40_1 : Array Oper := cdO c40_1
noncomputable def r40_4 : Array Oper := cdO c40_4
noncomputable def r40_11 : Array Oper := cdO c40_11
theorem c40_0e : c40_0 = .seq c40_1 c40_2 := by kernel_rfl
theorem c40_1e : c40_1 = .region 0 r40_1 false := by kernel_rfl
theorem c40_2e : c40_2 = .seq c40_3 c40_10 := by kernel_rfl
theorem c40_3e : c40_3 = .seq c40_4 c40_5 := by kernel_rfl
theorem c40_4e : c40_4 = .region 1 r40_4 false := by kernel_rfl
theorem c40_5e : c40_5 = .cond (cdC c40_5) c40_6 c40_9 := by kernel_rfl
theorem c40_9e : c40_9 = .skip := by kernel_rfl
theorem c40_10e : c40_10 = .seq c40_11 c40_12 := by kernel_rfl
theorem c40_11e : c40_11 = .region 3 r40_11 false := by kernel_rfl
theorem c40_12e : c40_12 = .ret := by kernel_rfl
noncomputable def pack_Writer_Bytes.R (b_2 : Nat) (A_3 : Option Addr) (c_4 : Nat) : Pst (List UInt8) where
  ε := Unit
  v := fun r x => .string (bs r)
  H := fun r x => []
  B := fun r x => []
noncomputable def pack_Writer_Bytes.cx (b_2 : Nat) (A_3 : Option Addr) (c_4 : Nat) (w0 : World) (S0 : Fam) : Cx (List UInt8) := ⟨Try.prog, 40, Try.f40, 10, w0, S0, [], 2, pack_Writer_Bytes.R b_2 A_3 c_4⟩
theorem pack_Writer_Bytes_ok (n : Nat) (w_1 : T_pack_Writer) (b_2 : Nat) (A_3 : Option Addr) (c_4 : Nat) :
    Meets Try.prog 40 [.pointer (some ⟨b_2, 0, none⟩)] 2 [] [⟨1, b_2, [.slice A_3 w_1.b.length c_4]⟩] [Ow 2 Kd.u8 A_3 c_4 w_1.b] (pack_Writer_Bytes.f n w_1) (pack_Writer_Bytes.R b_2 A_3 c_4) := by
  refine Meets.of (c := c40_0) (n := 10) Try.func40 (by kernel_rfl) (by kernel_rfl) (by kernel_rfl) fun w0 S0 => ?_
  unfold pack_Writer_Bytes.f
  show GoO (pack_Writer_Bytes.cx b_2 A_3 c_4 w0 S0) [(0, .pointer (some ⟨b_2, 0, none⟩))] [⟨1, b_2, [.slice A_3 w_1.b.length c_4]⟩] [Ow 2 Kd.u8 A_3 c_4 w_1.b] [.code c40_0] _
  refine GoO.seq' c40_0e ?_
  refine GoO.region' (is := [0]) c40_1e (by kernel_rfl) ?_
  refine GoO.exec (is := [0]) (hs := [.p]) (rest := []) (ks := [0]) (env' := [(0, .pointer (some ⟨b_2, 0, none⟩))]) (H' := [⟨1, b_2, [.slice A_3 w_1.b.length c_4]⟩]) (ps := []) (by kernel_rfl) trivial ?_
  refine GoO.regionEnd ?_
  refine GoO.seq' c40_2e ?_
  refine GoO.seq' c40_3e ?_
  refine GoO.region' (is := [0, 1]) c40_4e (by kernel_rfl) ?_
  refine GoO.exec (is := [0, 1]) (hs := [.p, .p]) (rest := []) (ks := [0, 4]) (env' := [(0, .pointer (some ⟨b_2, 0, none⟩)), (4, .bool false)]) (H' := [⟨1, b_2, [.slice A_3 w_1.b.length c_4]⟩]) (ps := []) (by kernel_rfl) trivial ?_
  refine GoO.regionEnd ?_
  refine GoO.condF c40_5e (by kernel_rfl) ?_
  refine GoO.skip' c40_9e ?_
  refine GoO.seq' c40_10e ?_
  refine GoO.region' (is := [0, 1, 2, 3, 4, 5]) c40_11e (by kernel_rfl) ?_
  refine GoO.exec (is := [0, 1, 2, 3]) (hs := [.p, .p, .p, .b 0]) (rest := [4, 5]) (ks := [8]) (env' := [(8, .slice A_3 w_1.b.length c_4)]) (H' := [⟨1, b_2, [.slice A_3 w_1.b.length c_4]⟩]) (ps := [b_2 = b_2]) (by kernel_rfl) (And.intro rfl trivial) ?_
  refine OpTo.go (GoO.toStr (e := 5) (A := A_3) (c := c_4) (xs := w_1.b) (j := 0) rfl (by kernel_rfl) (by kernel_rfl) (by kernel_rfl) (by kernel_rfl) rfl Reads.own rfl rfl ?_)
  refine GoO.exec (is := [5]) (hs := [.p]) (rest := []) (ks := [2]) (env' := [(2, .string (bs w_1.b))]) (H' := [⟨1, b_2, [.slice A_3 w_1.b.length c_4]⟩]) (ps := []) (by kernel_rfl) trivial ?_
  refine GoO.regionEnd ?_
  exact GoO.ret' (h := c40_12e) (hs := []) (ps := []) (hk := []) (bk := []) Try.func40 () (by kernel_rfl) trivial (by kernel_rfl) (by kernel_rfl)

/-! tontine/command.Encode -/
noncomputable def c16_0 : Code := bodyOf Try.f16
noncomputable def c16_1 : Code := cdL c16_0
noncomputable def c16_2 : Code := cdR c16_0
noncomputable def c16_3 : Code := cdL c16_2
noncomputable def c16_4 : Code := cdL c16_3
noncomputable def c16_5 : Code := cdR c16_3
noncomputable def c16_6 : Code := cdL c16_5
noncomputable def c16_7 : Code := cdL c16_6
noncomputable def c16_8 : Code := cdR c16_6
noncomputable def c16_9 : Code := cdR c16_5
noncomputable def c16_10 : Code := cdR c16_2
noncomputable def c16_11 : Code := cdL c16_10
noncomputable def c16_12 : Code := cdL c16_11
noncomputable def c16_13 : Code := cdR c16_11
noncomputable def c16_14 : Code := cdL c16_13
noncomputable def c16_15 : Code := cdL c16_14
noncomputable def c16_16 : Code := cdR c16_14
noncomputable def c16_17 : Code := cdR c16_13
noncomputable def c16_18 : Code := cdR c16_10
noncomputable def c16_19 : Code := cdL c16_18
noncomputable def c16_20 : Code := cdR c16_18
noncomputable def c16_21 : Code := cdL c16_20
noncomputable def c16_22 : Code := cdL c16_21
noncomputable def c16_23 : Code := cdR c16_21
noncomputable def c16_24 : Code := cdL c16_23
noncomputable def c16_25 : Code := cdL c16_24
noncomputable def c16_26 : Code := cdR c16_24
noncomputable def c16_27 : Code := cdL c16_26
noncomputable def c16_28 : Code := cdR c16_26
noncomputable def c16_29 : Code := cdL c16_28
noncomputable def c16_30 : Code := cdR c16_28
noncomputable def c16_31 : Code := cdL c16_30
noncomputable def c16_32 : Code := cdR c16_30
noncomputable def c16_33 : Code := cdR c16_20
noncomputable def c16_34 : Code := cdL c16_33
noncomputable def c16_35 : Code := cdR c16_33
noncomputable def r16_1 : Array Oper := cdO c16_1
noncomputable def r16_4 : Array Oper := cdO c16_4
noncomputable def r16_7 : Array Oper := cdO c16_7
noncomputable def r16_12 : Array Oper := cdO c16_12
noncomputable def r16_15 : Array Oper := cdO c16_15
noncomputable def r16_19 : Array Oper := cdO c16_19
noncomputable def r16_22 : Array Oper := cdO c16_22
noncomputable def r16_25 : Array Oper := cdO c16_25
noncomputable def r16_27 : Array Oper := cdO c16_27
noncomputable def r16_29 : Array Oper := cdO c16_29
noncomputable def r16_31 : Array Oper := cdO c16_31
noncomputable def r16_34 : Array Oper := cdO c16_34
theorem c16_0e : c16_0 = .seq c16_1 c16_2 := by kernel_rfl
theorem c16_1e : c16_1 = .region 0 r16_1 false := by kernel_rfl
theorem c16_2e : c16_2 = .seq c16_3 c16_10 := by kernel_rfl
theorem c16_3e : c16_3 = .seq c16_4 c16_5 := by kernel_rfl
theorem c16_4e : c16_4 = .region 1 r16_4 false := by kernel_rfl
theorem c16_5e : c16_5 = .cond (cdC c16_5) c16_6 c16_9 := by kernel_rfl
theorem c16_6e : c16_6 = .seq c16_7 c16_8 := by kernel_rfl
theorem c16_7e : c16_7 = .region 2 r16_7 false := by kernel_rfl
theorem c16_8e : c16_8 = .ret := by kernel_rfl
theorem c16_9e : c16_9 = .skip := by kernel_rfl
theorem c16_10e : c16_10 = .seq c16_11 c16_18 := by kernel_rfl
theorem c16_11e : c16_11 = .seq c16_12 c16_13 := by kernel_rfl
theorem c16_12e : c16_12 = .region 3 r16_12 false := by kernel_rfl
theorem c16_13e : c16_13 = .cond (cdC c16_13) c16_14 c16_17 := by kernel_rfl
theorem c16_14e : c16_14 = .seq c16_15 c16_16 := by kernel_rfl
theorem c16_15e : c16_15 = .region 4 r16_15 false := by kernel_rfl
theorem c16_16e : c16_16 = .ret := by kernel_rfl
theorem c16_17e : c16_17 = .skip := by kernel_rfl
theorem c16_18e : c16_18 = .seq c16_19 c16_20 := by kernel_rfl
theorem c16_19e : c16_19 = .region 5 r16_19 true := by kernel_rfl
theorem c16_20e : c16_20 = .seq c16_21 c16_33 := by kernel_rfl
theorem c16_21e : c16_21 = .seq c16_22 c16_23 := by kernel_rfl
theorem c16_22e : c16_22 = .region 6 r16_22 false := by kernel_rfl
theorem c16_23e : c16_23 = .block 0 c16_24 := by kernel_rfl
theorem c16_24e : c16_24 = .seq c16_25 c16_26 := by kernel_rfl
theorem c16_25e : c16_25 = .region 7 r16_25 false := by kernel_rfl
theorem c16_26e : c16_26 = .cond (cdC c16_26) c16_27 c16_28 := by kernel_rfl
theorem c16_27e : c16_27 = .region 8 r16_27 false := by kernel_rfl
theorem c16_28e : c16_28 = .seq c16_29 c16_30 := by kernel_rfl
theorem c16_29e : c16_29 = .region 9 r16_29 false := by kernel_rfl
theorem c16_30e : c16_30 = .cond (cdC c16_30) c16_31 c16_32 := by kernel_rfl
theorem c16_31e : c16_31 = .region 10 r16_31 true := by kernel_rfl
theorem c16_32e : c16_32 = .skip := by kernel_rfl
theorem c16_33e : c16_33 = .seq c16_34 c16_35 := by kernel_rfl
theorem c16_34e : c16_34 = .region 11 r16_34 false := by kernel_rfl
theorem c16_35e : c16_35 = .ret := by kernel_rfl
noncomputable def command_Encode.R (A_2 : Option Addr) (c_3 : Nat) : Pst ((List UInt8) × Int) where
  ε := Unit
  v := fun r x => .tuple ⟨[.string (bs r.1), .int .i64 r.2]⟩
  H := fun r x => []
  B := fun r x => []
noncomputable def command_Encode.cx (A_2 : Option Addr) (c_3 : Nat) (w0 : World) (S0 : Fam) : Cx ((List UInt8) × Int) := ⟨Try.prog, 16, Try.f16, 61, w0, S0, [], 0, command_Encode.R A_2 c_3⟩
theorem command_Encode_j1_ok (n : Nat) (b_11 : Nat) (A_2 : Option Addr) (c_3 : Nat) (w0 : World) (S0 : Fam) (f_44 : (List UInt8)) (A_45 : Option Addr) (c_46 : Nat) :
    GoO (command_Encode.cx A_2 c_3 w0 S0) [(4, .pointer (some ⟨b_11, 0, none⟩))] [⟨41, b_11, [.slice A_45 f_44.length c_46]⟩] [Ow 42 Kd.u8 A_45 c_46 f_44] [.inBlock 0, .code c16_33] (command_Encode.j1 n f_44) := by
  unfold command_Encode.j1
  refine GoO.inBlock ?_
  refine GoO.seq' c16_33e ?_
  refine GoO.region' (is := [0, 1, 2, 3]) c16_34e (by kernel_rfl) ?_
  refine GoO.exec (is := [0]) (hs := [.p]) (rest := [1, 2, 3]) (ks := [59]) (env' := [(59, .pointer (some ⟨b_11, 0, none⟩))]) (H' := [⟨41, b_11, [.slice A_45 f_44.length c_46]⟩]) (ps := []) (by kernel_rfl) trivial ?_
  refine OpTo.go (GoO.call rfl (by kernel_rfl) (by kernel_rfl) (pack_Writer_Bytes_ok n (⟨f_44⟩ : T_pack_Writer) b_11 A_45 c_46) [[0], [41], [42]] [] [(1, 0)] [(2, 0)] (hks := [0]) (bks := [0]) (by kernel_rfl) (by kernel_rfl) (by kernel_rfl) (.inl rfl) rfl rfl (by kernel_rfl) (by kernel_rfl) _ (fun _ _ => rfl) _ _ (fun _ _ => rfl) (fun _ _ => rfl) (fun _ _ => by kernel_rfl) (fun _ _ => by kernel_rfl) (fun r_47 x_48 => ?_))
  refine GoO.shape (env' := [(59, .pointer (some ⟨b_11, 0, none⟩)), (60, .string (bs r_47))]) (H' := [⟨41, b_11, [.slice A_45 f_44.length c_46]⟩]) (B' := [Ow 42 Kd.u8 A_45 c_46 f_44]) (ks := [59, 60]) (by kernel_rfl) (by kernel_rfl) (by kernel_rfl) ?_
  refine GoO.exec (is := [2, 3]) (hs := [.p, .p]) (rest := []) (ks := [2, 3]) (env' := [(2, .string (bs r_47)), (3, .int .i64 0)]) (H' := [⟨41, b_11, [.slice A_45 f_44.length c_46]⟩]) (ps := []) (by kernel_rfl) trivial ?_
  refine GoO.regionEnd ?_
  exact GoO.ret' (h := c16_35e) (hs := []) (ps := []) (hk := []) (bk := []) Try.func16 () (by kernel_rfl) trivial (by kernel_rfl) (by kernel_rfl)
theorem command_Encode_j0_ok (n : Nat) (c_1 : T_api_Command) (A_2 : Option Addr) (c_3 : Nat) (b_4 : Nat) (w0 : World) (S0 : Fam) (b_7 : Bool) :
    GoO (command_Encode.cx A_2 c_3 w0 S0) [(1, .pointer (some ⟨b_4, 0, none⟩)), (13, .bool b_7)] [⟨40, b_4, [.int .i64 c_1.Kind, .int .u64 c_1.Session, .int .u64 c_1.Seq, .int .u64 c_1.Saga, .slice A_2 c_1.Steps.length c_3, .int .i64 c_1.Step, .bool c_1.Back, .int .i64 c_1.Try, .bool c_1.Ok, .int .u64 c_1.Now]⟩] [Rd 0 kT_api_Step A_2 c_3 c_1.Steps] [.code c16_5, .code c16_10] (command_Encode.j0 n c_1 b_7) := by
  unfold command_Encode.j0
  refine GoO.ite' c16_5e (by kernel_rfl) (fun h8 => ?_) (fun h8 => ?_)
  · refine GoO.seq' c16_6e ?_
    refine GoO.region' (is := [0, 1]) c16_7e (by kernel_rfl) ?_
    refine GoO.exec (is := [0, 1]) (hs := [.p, .p]) (rest := []) (ks := [2, 3]) (env' := [(2, .string (bs [])), (3, .int .i64 44)]) (H' := [⟨40, b_4, [.int .i64 c_1.Kind, .int .u64 c_1.Session, .int .u64 c_1.Seq, .int .u64 c_1.Saga, .slice A_2 c_1.Steps.length c_3, .int .i64 c_1.Step, .bool c_1.Back, .int .i64 c_1.Try, .bool c_1.Ok, .int .u64 c_1.Now]⟩]) (ps := []) (by kernel_rfl) trivial ?_
    refine GoO.regionEnd ?_
    exact GoO.ret' (h := c16_8e) (hs := []) (ps := []) (hk := []) (bk := []) Try.func16 () (by kernel_rfl) trivial (by kernel_rfl) (by kernel_rfl)
  · refine GoO.skip' c16_9e ?_
    refine GoO.seq' c16_10e ?_
    refine GoO.seq' c16_11e ?_
    refine GoO.region' (is := [0, 1, 2]) c16_12e (by kernel_rfl) ?_
    refine GoO.exec (is := [0]) (hs := [.b 0]) (rest := [1, 2]) (ks := [1, 14]) (env' := [(1, .pointer (some ⟨b_4, 0, none⟩)), (14, .agg ⟨[.int .i64 c_1.Kind, .int .u64 c_1.Session, .int .u64 c_1.Seq, .int .u64 c_1.Saga, .slice A_2 c_1.Steps.length c_3, .int .i64 c_1.Step, .bool c_1.Back, .int .i64 c_1.Try, .bool c_1.Ok, .int .u64 c_1.Now]⟩)]) (H' := [⟨40, b_4, [.int .i64 c_1.Kind, .int .u64 c_1.Session, .int .u64 c_1.Seq, .int .u64 c_1.Saga, .slice A_2 c_1.Steps.length c_3, .int .i64 c_1.Step, .bool c_1.Back, .int .i64 c_1.Try, .bool c_1.Ok, .int .u64 c_1.Now]⟩]) (ps := [b_4 = b_4]) (by kernel_rfl) (And.intro rfl trivial) ?_
    refine OpTo.go (GoO.call rfl (by kernel_rfl) (by kernel_rfl) (command_May_ok n c_1 A_2 c_3) [[0]] [] [] [(0, 0)] (hks := [0]) (bks := [0]) (by kernel_rfl) (by kernel_rfl) (by kernel_rfl) (.inl rfl) rfl rfl (by kernel_rfl) (by kernel_rfl) _ (fun _ _ => rfl) _ _ (fun _ _ => rfl) (fun _ _ => rfl) (fun _ _ => by kernel_rfl) (fun _ _ => by kernel_rfl) (fun r_9 x_54 => ?_))
    refine GoO.shape (env' := [(1, .pointer (some ⟨b_4, 0, none⟩)), (14, .agg ⟨[.int .i64 c_1.Kind, .int .u64 c_1.Session, .int .u64 c_1.Seq, .int .u64 c_1.Saga, .slice A_2 c_1.Steps.length c_3, .int .i64 c_1.Step, .bool c_1.Back, .int .i64 c_1.Try, .bool c_1.Ok, .int .u64 c_1.Now]⟩), (15, .bool r_9)]) (H' := [⟨40, b_4, [.int .i64 c_1.Kind, .int .u64 c_1.Session, .int .u64 c_1.Seq, .int .u64 c_1.Saga, .slice A_2 c_1.Steps.length c_3, .int .i64 c_1.Step, .bool c_1.Back, .int .i64 c_1.Try, .bool c_1.Ok, .int .u64 c_1.Now]⟩]) (B' := [Rd 0 kT_api_Step A_2 c_3 c_1.Steps]) (ks := [1, 14, 15]) (by kernel_rfl) (by kernel_rfl) (by kernel_rfl) ?_
    refine GoO.exec (is := [2]) (hs := [.p]) (rest := []) (ks := [1, 16]) (env' := [(1, .pointer (some ⟨b_4, 0, none⟩)), (16, .bool (!r_9))]) (H' := [⟨40, b_4, [.int .i64 c_1.Kind, .int .u64 c_1.Session, .int .u64 c_1.Seq, .int .u64 c_1.Saga, .slice A_2 c_1.Steps.length c_3, .int .i64 c_1.Step, .bool c_1.Back, .int .i64 c_1.Try, .bool c_1.Ok, .int .u64 c_1.Now]⟩]) (ps := []) (by kernel_rfl) trivial ?_
    refine GoO.regionEnd ?_
    refine GoO.ite' c16_13e (by kernel_rfl) (fun h10 => ?_) (fun h10 => ?_)
    · refine GoO.seq' c16_14e ?_
      refine GoO.region' (is := [0, 1]) c16_15e (by kernel_rfl) ?_
      refine GoO.exec (is := [0, 1]) (hs := [.p, .p]) (rest := []) (ks := [2, 3]) (env' := [(2, .string (bs [])), (3, .int .i64 1)]) (H' := [⟨40, b_4, [.int .i64 c_1.Kind, .int .u64 c_1.Session, .int .u64 c_1.Seq, .int .u64 c_1.Saga, .slice A_2 c_1.Steps.length c_3, .int .i64 c_1.Step, .bool c_1.Back, .int .i64 c_1.Try, .bool c_1.Ok, .int .u64 c_1.Now]⟩]) (ps := []) (by kernel_rfl) trivial ?_
      refine GoO.regionEnd ?_
      exact GoO.ret' (h := c16_16e) (hs := []) (ps := []) (hk := []) (bk := []) Try.func16 () (by kernel_rfl) trivial (by kernel_rfl) (by kernel_rfl)
    · refine GoO.skip' c16_17e ?_
      refine GoO.seq' c16_18e ?_
      refine GoO.draw c16_19e (by kernel_rfl) [17] [⟨40, b_4, [.int .i64 c_1.Kind, .int .u64 c_1.Session, .int .u64 c_1.Seq, .int .u64 c_1.Saga, .slice A_2 c_1.Steps.length c_3, .int .i64 c_1.Step, .bool c_1.Back, .int .i64 c_1.Try, .bool c_1.Ok, .int .u64 c_1.Now]⟩] [] (n := 18) (by kernel_rfl) ?_
      simp only [List.replicate]
      refine GoF.take [1, 2, 3, 5, 6, 8, 9, 11, 12, 14, 15] [.p, .b 0, .p, .p, .b 0, .p, .b 0, .p, .b 0, .p, .b 0] (ks := [1, 20, 23, 26, 29, 32]) (fu := 7) (li := [false, true, true, true, false, true, true, false, true, true, false, true, true, false, true, true, false, false]) (env' := [(1, .pointer (some ⟨b_4, 0, none⟩)), (20, .int .u64 (wu64 c_1.Kind)), (23, .int .u64 c_1.Session), (26, .int .u64 c_1.Seq), (29, .int .u64 c_1.Saga), (32, .int .u64 c_1.Now)]) (ps := [b_4 = b_4, b_4 = b_4, b_4 = b_4, b_4 = b_4, b_4 = b_4]) (hk := [0]) (bk := []) (by kernel_rfl) (And.intro rfl (And.intro rfl (And.intro rfl (And.intro rfl (And.intro rfl trivial))))) rfl rfl ?_
      refine OpTo.goF (i := 0) (by kernel_rfl) (hk := [1]) (bk := []) (GoO.new rfl 41 (cs := [.slice none ([] : List UInt8).length 0]) (by kernel_rfl) _ (fun _ => rfl) (fun b_11 => ⟨rfl, rfl, ?_⟩))
      refine GoF.nilOwn Kd.u8 42 ?_
      refine OpTo.goF (i := 4) (by kernel_rfl) (hk := [1]) (bk := []) (GoO.call rfl (by kernel_rfl) (by kernel_rfl) (pack_Writer_Num_ok n (⟨[]⟩ : T_pack_Writer) (wu64 c_1.Kind) b_11 none 0) [[0], [41], [42]] [(41, 1), (42, 2)] [(1, 0)] [(2, 0)] (hks := [1]) (bks := [1]) (by kernel_rfl) (by kernel_rfl) (by kernel_rfl) (.inl rfl) rfl rfl (by kernel_rfl) (by kernel_rfl) _ (fun _ _ => rfl) _ _ (fun _ _ => rfl) (fun _ _ => rfl) (fun _ _ => by kernel_rfl) (fun _ _ => by kernel_rfl) (fun r_12 x_53 => ⟨rfl, rfl, ?_⟩))
      obtain ⟨A_13, c_14⟩ := x_53
      refine GoF.shape (env' := [(1, .pointer (some ⟨b_4, 0, none⟩)), (17, .pointer (some ⟨b_11, 0, none⟩)), (20, .int .u64 (wu64 c_1.Kind)), (21, .pointer (some ⟨b_11, 0, none⟩)), (23, .int .u64 c_1.Session), (26, .int .u64 c_1.Seq), (29, .int .u64 c_1.Saga), (32, .int .u64 c_1.Now)]) (H' := [⟨41, b_11, [.slice A_13 r_12.b.length c_14]⟩, ⟨40, b_4, [.int .i64 c_1.Kind, .int .u64 c_1.Session, .int .u64 c_1.Seq, .int .u64 c_1.Saga, .slice A_2 c_1.Steps.length c_3, .int .i64 c_1.Step, .bool c_1.Back, .int .i64 c_1.Try, .bool c_1.Ok, .int .u64 c_1.Now]⟩]) (B' := [Ow 42 Kd.u8 A_13 c_14 r_12.b, Rd 0 kT_api_Step A_2 c_3 c_1.Steps]) (ks := [1, 17, 20, 21, 23, 26, 29, 32]) (by kernel_rfl) (by kernel_rfl) (by kernel_rfl) ?_
      refine OpTo.goF (i := 7) (by kernel_rfl) (hk := [1]) (bk := []) (GoO.call rfl (by kernel_rfl) (by kernel_rfl) (pack_Writer_Num_ok n r_12 c_1.Session b_11 A_13 c_14) [[0], [41], [42]] [(41, 1), (42, 2)] [(1, 0)] [(2, 0)] (hks := [1]) (bks := [1]) (by kernel_rfl) (by kernel_rfl) (by kernel_rfl) (.inl rfl) rfl rfl (by kernel_rfl) (by kernel_rfl) _ (fun _ _ => rfl) _ _ (fun _ _ => rfl) (fun _ _ => rfl) (fun _ _ => by kernel_rfl) (fun _ _ => by kernel_rfl) (fun r_15 x_52 => ⟨rfl, rfl, ?_⟩))
      obtain ⟨A_16, c_17⟩ := x_52
      refine GoF.shape (env' := [(1, .pointer (some ⟨b_4, 0, none⟩)), (17, .pointer (some ⟨b_11, 0, none⟩)), (20, .int .u64 (wu64 c_1.Kind)), (21, .pointer (some ⟨b_11, 0, none⟩)), (23, .int .u64 c_1.Session), (24, .pointer (some ⟨b_11, 0, none⟩)), (26, .int .u64 c_1.Seq), (29, .int .u64 c_1.Saga), (32, .int .u64 c_1.Now)]) (H' := [⟨41, b_11, [.slice A_16 r_15.b.length c_17]⟩, ⟨40, b_4, [.int .i64 c_1.Kind, .int .u64 c_1.Session, .int .u64 c_1.Seq, .int .u64 c_1.Saga, .slice A_2 c_1.Steps.length c_3, .int .i64 c_1.Step, .bool c_1.Back, .int .i64 c_1.Try, .bool c_1.Ok, .int .u64 c_1.Now]⟩]) (B' := [Ow 42 Kd.u8 A_16 c_17 r_15.b, Rd 0 kT_api_Step A_2 c_3 c_1.Steps]) (ks := [1, 17, 20, 21, 23, 24, 26, 29, 32]) (by kernel_rfl) (by kernel_rfl) (by kernel_rfl) ?_
      refine OpTo.goF (i := 10) (by kernel_rfl) (hk := [1]) (bk := []) (GoO.call rfl (by kernel_rfl) (by kernel_rfl) (pack_Writer_Num_ok n r_15 c_1.Seq b_11 A_16 c_17) [[0], [41], [42]] [(41, 1), (42, 2)] [(1, 0)] [(2, 0)] (hks := [1]) (bks := [1]) (by kernel_rfl) (by kernel_rfl) (by kernel_rfl) (.inl rfl) rfl rfl (by kernel_rfl) (by kernel_rfl) _ (fun _ _ => rfl) _ _ (fun _ _ => rfl) (fun _ _ => rfl) (fun _ _ => by kernel_rfl) (fun _ _ => by kernel_rfl) (fun r_18 x_51 => ⟨rfl, rfl, ?_⟩))
      obtain ⟨A_19, c_20⟩ := x_51
      refine GoF.shape (env' := [(1, .pointer (some ⟨b_4, 0, none⟩)), (17, .pointer (some ⟨b_11, 0, none⟩)), (20, .int .u64 (wu64 c_1.Kind)), (21, .pointer (some ⟨b_11, 0, none⟩)), (23, .int .u64 c_1.Session), (24, .pointer (some ⟨b_11, 0, none⟩)), (26, .int .u64 c_1.Seq), (27, .pointer (some ⟨b_11, 0, none⟩)), (29, .int .u64 c_1.Saga), (32, .int .u64 c_1.Now)]) (H' := [⟨41, b_11, [.slice A_19 r_18.b.length c_20]⟩, ⟨40, b_4, [.int .i64 c_1.Kind, .int .u64 c_1.Session, .int .u64 c_1.Seq, .int .u64 c_1.Saga, .slice A_2 c_1.Steps.length c_3, .int .i64 c_1.Step, .bool c_1.Back, .int .i64 c_1.Try, .bool c_1.Ok, .int .u64 c_1.Now]⟩]) (B' := [Ow 42 Kd.u8 A_19 c_20 r_18.b, Rd 0 kT_api_Step A_2 c_3 c_1.Steps]) (ks := [1, 17, 20, 21, 23, 24, 26, 27, 29, 32]) (by kernel_rfl) (by kernel_rfl) (by kernel_rfl) ?_
      refine OpTo.goF (i := 13) (by kernel_rfl) (hk := [1]) (bk := []) (GoO.call rfl (by kernel_rfl) (by kernel_rfl) (pack_Writer_Num_ok n r_18 c_1.Saga b_11 A_19 c_20) [[0], [41], [42]] [(41, 1), (42, 2)] [(1, 0)] [(2, 0)] (hks := [1]) (bks := [1]) (by kernel_rfl) (by kernel_rfl) (by kernel_rfl) (.inl rfl) rfl rfl (by kernel_rfl) (by kernel_rfl) _ (fun _ _ => rfl) _ _ (fun _ _ => rfl) (fun _ _ => rfl) (fun _ _ => by kernel_rfl) (fun _ _ => by kernel_rfl) (fun r_21 x_50 => ⟨rfl, rfl, ?_⟩))
      obtain ⟨A_22, c_23⟩ := x_50
      refine GoF.shape (env' := [(1, .pointer (some ⟨b_4, 0, none⟩)), (17, .pointer (some ⟨b_11, 0, none⟩)), (20, .int .u64 (wu64 c_1.Kind)), (21, .pointer (some ⟨b_11, 0, none⟩)), (23, .int .u64 c_1.Session), (24, .pointer (some ⟨b_11, 0, none⟩)), (26, .int .u64 c_1.Seq), (27, .pointer (some ⟨b_11, 0, none⟩)), (29, .int .u64 c_1.Saga), (30, .pointer (some ⟨b_11, 0, none⟩)), (32, .int .u64 c_1.Now)]) (H' := [⟨41, b_11, [.slice A_22 r_21.b.length c_23]⟩, ⟨40, b_4, [.int .i64 c_1.Kind, .int .u64 c_1.Session, .int .u64 c_1.Seq, .int .u64 c_1.Saga, .slice A_2 c_1.Steps.length c_3, .int .i64 c_1.Step, .bool c_1.Back, .int .i64 c_1.Try, .bool c_1.Ok, .int .u64 c_1.Now]⟩]) (B' := [Ow 42 Kd.u8 A_22 c_23 r_21.b, Rd 0 kT_api_Step A_2 c_3 c_1.Steps]) (ks := [1, 17, 20, 21, 23, 24, 26, 27, 29, 30, 32]) (by kernel_rfl) (by kernel_rfl) (by kernel_rfl) ?_
      refine OpTo.goF (i := 16) (by kernel_rfl) (hk := [1]) (bk := []) (GoO.call rfl (by kernel_rfl) (by kernel_rfl) (pack_Writer_Num_ok n r_21 c_1.Now b_11 A_22 c_23) [[0], [41], [42]] [(41, 1), (42, 2)] [(1, 0)] [(2, 0)] (hks := [1]) (bks := [1]) (by kernel_rfl) (by kernel_rfl) (by kernel_rfl) (.inl rfl) rfl rfl (by kernel_rfl) (by kernel_rfl) _ (fun _ _ => rfl) _ _ (fun _ _ => rfl) (fun _ _ => rfl) (fun _ _ => by kernel_rfl) (fun _ _ => by kernel_rfl) (fun r_24 x_49 => ⟨rfl, rfl, ?_⟩))
      obtain ⟨A_25, c_26⟩ := x_49
      refine GoF.shape (env' := [(1, .pointer (some ⟨b_4, 0, none⟩)), (17, .pointer (some ⟨b_11, 0, none⟩)), (20, .int .u64 (wu64 c_1.Kind)), (21, .pointer (some ⟨b_11, 0, none⟩)), (23, .int .u64 c_1.Session), (24, .pointer (some ⟨b_11, 0, none⟩)), (26, .int .u64 c_1.Seq), (27, .pointer (some ⟨b_11, 0, none⟩)), (29, .int .u64 c_1.Saga), (30, .pointer (some ⟨b_11, 0, none⟩)), (32, .int .u64 c_1.Now), (33, .pointer (some ⟨b_11, 0, none⟩))]) (H' := [⟨41, b_11, [.slice A_25 r_24.b.length c_26]⟩, ⟨40, b_4, [.int .i64 c_1.Kind, .int .u64 c_1.Session, .int .u64 c_1.Seq, .int .u64 c_1.Saga, .slice A_2 c_1.Steps.length c_3, .int .i64 c_1.Step, .bool c_1.Back, .int .i64 c_1.Try, .bool c_1.Ok, .int .u64 c_1.Now]⟩]) (B' := [Ow 42 Kd.u8 A_25 c_26 r_24.b, Rd 0 kT_api_Step A_2 c_3 c_1.Steps]) (ks := [1, 17, 20, 21, 23, 24, 26, 27, 29, 30, 32, 33]) (by kernel_rfl) (by kernel_rfl) (by kernel_rfl) ?_
      refine GoF.fin1 (i := 17) (hint := .p) (ps := []) (hk := []) (bk := []) (by kernel_rfl) rfl trivial (.inl rfl) ?_
      refine GoF.done (by kernel_rfl) ?_
      refine GoO.seq' c16_20e ?_
      refine GoO.seq' c16_21e ?_
      refine GoO.region' (is := [0, 1]) c16_22e (by kernel_rfl) ?_
      refine GoO.exec (is := [0, 1]) (hs := [.p, .b 1]) (rest := []) (ks := [1, 4, 35]) (env' := [(1, .pointer (some ⟨b_4, 0, none⟩)), (4, .pointer (some ⟨b_11, 0, none⟩)), (35, .int .i64 c_1.Kind)]) (H' := [⟨41, b_11, [.slice A_25 r_24.b.length c_26]⟩, ⟨40, b_4, [.int .i64 c_1.Kind, .int .u64 c_1.Session, .int .u64 c_1.Seq, .int .u64 c_1.Saga, .slice A_2 c_1.Steps.length c_3, .int .i64 c_1.Step, .bool c_1.Back, .int .i64 c_1.Try, .bool c_1.Ok, .int .u64 c_1.Now]⟩]) (ps := [b_4 = b_4]) (by kernel_rfl) (And.intro rfl trivial) ?_
      refine GoO.regionEnd ?_
      refine GoO.block' c16_23e ?_
      refine GoO.seq' c16_24e ?_
      refine GoO.region' (is := [0, 1]) c16_25e (by kernel_rfl) ?_
      refine GoO.exec (is := [0, 1]) (hs := [.p, .p]) (rest := []) (ks := [1, 4, 35, 36]) (env' := [(1, .pointer (some ⟨b_4, 0, none⟩)), (4, .pointer (some ⟨b_11, 0, none⟩)), (35, .int .i64 c_1.Kind), (36, .bool (c_1.Kind == 2))]) (H' := [⟨41, b_11, [.slice A_25 r_24.b.length c_26]⟩, ⟨40, b_4, [.int .i64 c_1.Kind, .int .u64 c_1.Session, .int .u64 c_1.Seq, .int .u64 c_1.Saga, .slice A_2 c_1.Steps.length c_3, .int .i64 c_1.Step, .bool c_1.Back, .int .i64 c_1.Try, .bool c_1.Ok, .int .u64 c_1.Now]⟩]) (ps := []) (by kernel_rfl) trivial ?_
      refine GoO.regionEnd ?_
      refine GoO.ite' c16_26e (by kernel_rfl) (fun h27 => ?_) (fun h27 => ?_)
      · refine GoO.region' (is := [0, 1, 2, 3]) c16_27e (by kernel_rfl) ?_
        refine GoO.exec (is := [0, 1, 2]) (hs := [.p, .p, .b 1]) (rest := [3]) (ks := [4, 38, 40]) (env' := [(4, .pointer (some ⟨b_11, 0, none⟩)), (38, .pointer (some ⟨b_11, 0, none⟩)), (40, .slice A_2 c_1.Steps.length c_3)]) (H' := [⟨41, b_11, [.slice A_25 r_24.b.length c_26]⟩, ⟨40, b_4, [.int .i64 c_1.Kind, .int .u64 c_1.Session, .int .u64 c_1.Seq, .int .u64 c_1.Saga, .slice A_2 c_1.Steps.length c_3, .int .i64 c_1.Step, .bool c_1.Back, .int .i64 c_1.Try, .bool c_1.Ok, .int .u64 c_1.Now]⟩]) (ps := [b_4 = b_4]) (by kernel_rfl) (And.intro rfl trivial) ?_
        refine OpTo.go (GoO.call rfl (by kernel_rfl) (by kernel_rfl) (plan_Write_ok n r_24 c_1.Steps b_11 A_25 c_26 A_2 c_3) [[0], [41], [42]] [(41, 1), (42, 2)] [(1, 0)] [(2, 0), (0, 1)] (hks := [1]) (bks := [1]) (by kernel_rfl) (by kernel_rfl) (by kernel_rfl) (.inl rfl) rfl rfl (by kernel_rfl) (by kernel_rfl) _ (fun _ _ => rfl) _ _ (fun _ _ => rfl) (fun _ _ => rfl) (fun _ _ => by kernel_rfl) (fun _ _ => by kernel_rfl) (fun r_28 x_31 => ?_))
        obtain ⟨A_29, c_30⟩ := x_31
        refine GoO.shape (env' := [(4, .pointer (some ⟨b_11, 0, none⟩)), (38, .pointer (some ⟨b_11, 0, none⟩)), (40, .slice A_2 c_1.Steps.length c_3), (41, .tuple ⟨[]⟩)]) (H' := [⟨41, b_11, [.slice A_29 r_28.b.length c_30]⟩, ⟨40, b_4, [.int .i64 c_1.Kind, .int .u64 c_1.Session, .int .u64 c_1.Seq, .int .u64 c_1.Saga, .slice A_2 c_1.Steps.length c_3, .int .i64 c_1.Step, .bool c_1.Back, .int .i64 c_1.Try, .bool c_1.Ok, .int .u64 c_1.Now]⟩]) (B' := [Ow 42 Kd.u8 A_29 c_30 r_28.b, Rd 0 kT_api_Step A_2 c_3 c_1.Steps]) (ks := [4, 38, 40, 41]) (by kernel_rfl) (by kernel_rfl) (by kernel_rfl) ?_
        refine GoO.regionEnd ?_
        exact GoO.sub (ks := [4]) (hk := [0]) (bk := [0]) (by kernel_rfl) (by kernel_rfl) (by kernel_rfl) (command_Encode_j1_ok n b_11 A_2 c_3 w0 S0 r_28.b A_29 c_30)
      · refine GoO.seq' c16_28e ?_
        refine GoO.region' (is := [0, 1]) c16_29e (by kernel_rfl) ?_
        refine GoO.exec (is := [0, 1]) (hs := [.p, .p]) (rest := []) (ks := [1, 4, 42]) (env' := [(1, .pointer (some ⟨b_4, 0, none⟩)), (4, .pointer (some ⟨b_11, 0, none⟩)), (42, .bool (c_1.Kind == 4))]) (H' := [⟨41, b_11, [.slice A_25 r_24.b.length c_26]⟩, ⟨40, b_4, [.int .i64 c_1.Kind, .int .u64 c_1.Session, .int .u64 c_1.Seq, .int .u64 c_1.Saga, .slice A_2 c_1.Steps.length c_3, .int .i64 c_1.Step, .bool c_1.Back, .int .i64 c_1.Try, .bool c_1.Ok, .int .u64 c_1.Now]⟩]) (ps := []) (by kernel_rfl) trivial ?_
        refine GoO.regionEnd ?_
        refine GoO.ite' c16_30e (by kernel_rfl) (fun h32 => ?_) (fun h32 => ?_)
        · refine GoO.draw c16_31e (by kernel_rfl) [] [⟨40, b_4, [.int .i64 c_1.Kind, .int .u64 c_1.Session, .int .u64 c_1.Seq, .int .u64 c_1.Saga, .slice A_2 c_1.Steps.length c_3, .int .i64 c_1.Step, .bool c_1.Back, .int .i64 c_1.Try, .bool c_1.Ok, .int .u64 c_1.Now]⟩] [] (n := 15) (by kernel_rfl) ?_
          simp only [List.replicate]
          refine GoF.take [0, 1, 2, 3, 5, 6, 8, 9, 10, 12, 13] [.p, .p, .b 0, .p, .p, .b 0, .p, .b 0, .p, .p, .b 0] (ks := [4, 44, 47, 50, 54, 57]) (fu := 4) (li := [true, true, true, true, false, true, true, false, true, true, true, false, true, true, false]) (env' := [(4, .pointer (some ⟨b_11, 0, none⟩)), (44, .pointer (some ⟨b_11, 0, none⟩)), (47, .int .u64 (wu64 c_1.Step)), (50, .bool c_1.Back), (54, .int .u64 (wu64 c_1.Try)), (57, .bool c_1.Ok)]) (ps := [b_4 = b_4, b_4 = b_4, b_4 = b_4, b_4 = b_4]) (hk := [1]) (bk := []) (by kernel_rfl) (And.intro rfl (And.intro rfl (And.intro rfl (And.intro rfl trivial)))) rfl rfl ?_
          refine OpTo.goF (i := 4) (by kernel_rfl) (hk := [1]) (bk := []) (GoO.call rfl (by kernel_rfl) (by kernel_rfl) (pack_Writer_Num_ok n r_24 (wu64 c_1.Step) b_11 A_25 c_26) [[0], [41], [42]] [(41, 1), (42, 2)] [(1, 0)] [(2, 0)] (hks := [1]) (bks := [1]) (by kernel_rfl) (by kernel_rfl) (by kernel_rfl) (.inl rfl) rfl rfl (by kernel_rfl) (by kernel_rfl) _ (fun _ _ => rfl) _ _ (fun _ _ => rfl) (fun _ _ => rfl) (fun _ _ => by kernel_rfl) (fun _ _ => by kernel_rfl) (fun r_33 x_48 => ⟨rfl, rfl, ?_⟩))
          obtain ⟨A_34, c_35⟩ := x_48
          refine GoF.shape (env' := [(4, .pointer (some ⟨b_11, 0, none⟩)), (44, .pointer (some ⟨b_11, 0, none⟩)), (47, .int .u64 (wu64 c_1.Step)), (48, .pointer (some ⟨b_11, 0, none⟩)), (50, .bool c_1.Back), (54, .int .u64 (wu64 c_1.Try)), (57, .bool c_1.Ok)]) (H' := [⟨41, b_11, [.slice A_34 r_33.b.length c_35]⟩, ⟨40, b_4, [.int .i64 c_1.Kind, .int .u64 c_1.Session, .int .u64 c_1.Seq, .int .u64 c_1.Saga, .slice A_2 c_1.Steps.length c_3, .int .i64 c_1.Step, .bool c_1.Back, .int .i64 c_1.Try, .bool c_1.Ok, .int .u64 c_1.Now]⟩]) (B' := [Ow 42 Kd.u8 A_34 c_35 r_33.b, Rd 0 kT_api_Step A_2 c_3 c_1.Steps]) (ks := [4, 44, 47, 48, 50, 54, 57]) (by kernel_rfl) (by kernel_rfl) (by kernel_rfl) ?_
          refine OpTo.goF (i := 7) (by kernel_rfl) (hk := [1]) (bk := []) (GoO.call rfl (by kernel_rfl) (by kernel_rfl) (pack_Writer_Bool_ok n r_33 c_1.Back b_11 A_34 c_35) [[0], [41], [42]] [(41, 1), (42, 2)] [(1, 0)] [(2, 0)] (hks := [1]) (bks := [1]) (by kernel_rfl) (by kernel_rfl) (by kernel_rfl) (.inl rfl) rfl rfl (by kernel_rfl) (by kernel_rfl) _ (fun _ _ => rfl) _ _ (fun _ _ => rfl) (fun _ _ => rfl) (fun _ _ => by kernel_rfl) (fun _ _ => by kernel_rfl) (fun r_36 x_47 => ⟨rfl, rfl, ?_⟩))
          obtain ⟨A_37, c_38⟩ := x_47
          refine GoF.shape (env' := [(4, .pointer (some ⟨b_11, 0, none⟩)), (44, .pointer (some ⟨b_11, 0, none⟩)), (47, .int .u64 (wu64 c_1.Step)), (48, .pointer (some ⟨b_11, 0, none⟩)), (50, .bool c_1.Back), (51, .pointer (some ⟨b_11, 0, none⟩)), (54, .int .u64 (wu64 c_1.Try)), (57, .bool c_1.Ok)]) (H' := [⟨41, b_11, [.slice A_37 r_36.b.length c_38]⟩, ⟨40, b_4, [.int .i64 c_1.Kind, .int .u64 c_1.Session, .int .u64 c_1.Seq, .int .u64 c_1.Saga, .slice A_2 c_1.Steps.length c_3, .int .i64 c_1.Step, .bool c_1.Back, .int .i64 c_1.Try, .bool c_1.Ok, .int .u64 c_1.Now]⟩]) (B' := [Ow 42 Kd.u8 A_37 c_38 r_36.b, Rd 0 kT_api_Step A_2 c_3 c_1.Steps]) (ks := [4, 44, 47, 48, 50, 51, 54, 57]) (by kernel_rfl) (by kernel_rfl) (by kernel_rfl) ?_
          refine OpTo.goF (i := 11) (by kernel_rfl) (hk := [1]) (bk := []) (GoO.call rfl (by kernel_rfl) (by kernel_rfl) (pack_Writer_Num_ok n r_36 (wu64 c_1.Try) b_11 A_37 c_38) [[0], [41], [42]] [(41, 1), (42, 2)] [(1, 0)] [(2, 0)] (hks := [1]) (bks := [1]) (by kernel_rfl) (by kernel_rfl) (by kernel_rfl) (.inl rfl) rfl rfl (by kernel_rfl) (by kernel_rfl) _ (fun _ _ => rfl) _ _ (fun _ _ => rfl) (fun _ _ => rfl) (fun _ _ => by kernel_rfl) (fun _ _ => by kernel_rfl) (fun r_39 x_46 => ⟨rfl, rfl, ?_⟩))
          obtain ⟨A_40, c_41⟩ := x_46
          refine GoF.shape (env' := [(4, .pointer (some ⟨b_11, 0, none⟩)), (44, .pointer (some ⟨b_11, 0, none⟩)), (47, .int .u64 (wu64 c_1.Step)), (48, .pointer (some ⟨b_11, 0, none⟩)), (50, .bool c_1.Back), (51, .pointer (some ⟨b_11, 0, none⟩)), (54, .int .u64 (wu64 c_1.Try)), (55, .pointer (some ⟨b_11, 0, none⟩)), (57, .bool c_1.Ok)]) (H' := [⟨41, b_11, [.slice A_40 r_39.b.length c_41]⟩, ⟨40, b_4, [.int .i64 c_1.Kind, .int .u64 c_1.Session, .int .u64 c_1.Seq, .int .u64 c_1.Saga, .slice A_2 c_1.Steps.length c_3, .int .i64 c_1.Step, .bool c_1.Back, .int .i64 c_1.Try, .bool c_1.Ok, .int .u64 c_1.Now]⟩]) (B' := [Ow 42 Kd.u8 A_40 c_41 r_39.b, Rd 0 kT_api_Step A_2 c_3 c_1.Steps]) (ks := [4, 44, 47, 48, 50, 51, 54, 55, 57]) (by kernel_rfl) (by kernel_rfl) (by kernel_rfl) ?_
          refine OpTo.goF (i := 14) (by kernel_rfl) (hk := [1]) (bk := []) (GoO.call rfl (by kernel_rfl) (by kernel_rfl) (pack_Writer_Bool_ok n r_39 c_1.Ok b_11 A_40 c_41) [[0], [41], [42]] [(41, 1), (42, 2)] [(1, 0)] [(2, 0)] (hks := [1]) (bks := [1]) (by kernel_rfl) (by kernel_rfl) (by kernel_rfl) (.inl rfl) rfl rfl (by kernel_rfl) (by kernel_rfl) _ (fun _ _ => rfl) _ _ (fun _ _ => rfl) (fun _ _ => rfl) (fun _ _ => by kernel_rfl) (fun _ _ => by kernel_rfl) (fun r_42 x_45 => ⟨rfl, rfl, ?_⟩))
          obtain ⟨A_43, c_44⟩ := x_45
          refine GoF.shape (env' := [(4, .pointer (some ⟨b_11, 0, none⟩)), (44, .pointer (some ⟨b_11, 0, none⟩)), (47, .int .u64 (wu64 c_1.Step)), (48, .pointer (some ⟨b_11, 0, none⟩)), (50, .bool c_1.Back), (51, .pointer (some ⟨b_11, 0, none⟩)), (54, .int .u64 (wu64 c_1.Try)), (55, .pointer (some ⟨b_11, 0, none⟩)), (57, .bool c_1.Ok), (58, .pointer (some ⟨b_11, 0, none⟩))]) (H' := [⟨41, b_11, [.slice A_43 r_42.b.length c_44]⟩, ⟨40, b_4, [.int .i64 c_1.Kind, .int .u64 c_1.Session, .int .u64 c_1.Seq, .int .u64 c_1.Saga, .slice A_2 c_1.Steps.length c_3, .int .i64 c_1.Step, .bool c_1.Back, .int .i64 c_1.Try, .bool c_1.Ok, .int .u64 c_1.Now]⟩]) (B' := [Ow 42 Kd.u8 A_43 c_44 r_42.b, Rd 0 kT_api_Step A_2 c_3 c_1.Steps]) (ks := [4, 44, 47, 48, 50, 51, 54, 55, 57, 58]) (by kernel_rfl) (by kernel_rfl) (by kernel_rfl) ?_
          refine GoF.done (by kernel_rfl) ?_
          exact GoO.sub (ks := [4]) (hk := [0]) (bk := [0]) (by kernel_rfl) (by kernel_rfl) (by kernel_rfl) (command_Encode_j1_ok n b_11 A_2 c_3 w0 S0 r_42.b A_43 c_44)
        · refine GoO.skip' c16_32e ?_
          exact GoO.sub (ks := [4]) (hk := [0]) (bk := [0]) (by kernel_rfl) (by kernel_rfl) (by kernel_rfl) (command_Encode_j1_ok n b_11 A_2 c_3 w0 S0 r_24.b A_25 c_26)
theorem command_Encode_ok (n : Nat) (c_1 : T_api_Command) (A_2 : Option Addr) (c_3 : Nat) :
    Meets Try.prog 16 [.agg ⟨[.int .i64 c_1.Kind, .int .u64 c_1.Session, .int .u64 c_1.Seq, .int .u64 c_1.Saga, .slice A_2 c_1.Steps.length c_3, .int .i64 c_1.Step, .bool c_1.Back, .int .i64 c_1.Try, .bool c_1.Ok, .int .u64 c_1.Now]⟩] 0 [] [] [Rd 0 kT_api_Step A_2 c_3 c_1.Steps] (command_Encode.f n c_1) (command_Encode.R A_2 c_3) := by
  refine Meets.of (c := c16_0) (n := 61) Try.func16 (by kernel_rfl) (by kernel_rfl) (by kernel_rfl) fun w0 S0 => ?_
  unfold command_Encode.f
  show GoO (command_Encode.cx A_2 c_3 w0 S0) [(0, .agg ⟨[.int .i64 c_1.Kind, .int .u64 c_1.Session, .int .u64 c_1.Seq, .int .u64 c_1.Saga, .slice A_2 c_1.Steps.length c_3, .int .i64 c_1.Step, .bool c_1.Back, .int .i64 c_1.Try, .bool c_1.Ok, .int .u64 c_1.Now]⟩)] [] [Rd 0 kT_api_Step A_2 c_3 c_1.Steps] [.code c16_0] _
  refine GoO.seq' c16_0e ?_
  refine GoO.region' (is := [0, 1, 2]) c16_1e (by kernel_rfl) ?_
  refine OpTo.go (GoO.new rfl 40 (cs := [.int .i64 c_1.Kind, .int .u64 c_1.Session, .int .u64 c_1.Seq, .int .u64 c_1.Saga, .slice A_2 c_1.Steps.length c_3, .int .i64 c_1.Step, .bool c_1.Back, .int .i64 c_1.Try, .bool c_1.Ok, .int .u64 c_1.Now]) (by kernel_rfl) _ (fun _ => rfl) (fun b_4 => ?_))
  refine GoO.exec (is := [1, 2]) (hs := [.p, .p]) (rest := []) (ks := [1]) (env' := [(1, .pointer (some ⟨b_4, 0, none⟩))]) (H' := [⟨40, b_4, [.int .i64 c_1.Kind, .int .u64 c_1.Session, .int .u64 c_1.Seq, .int .u64 c_1.Saga, .slice A_2 c_1.Steps.length c_3, .int .i64 c_1.Step, .bool c_1.Back, .int .i64 c_1.Try, .bool c_1.Ok, .int .u64 c_1.Now]⟩]) (ps := []) (by kernel_rfl) trivial ?_
  refine GoO.regionEnd ?_
  refine GoO.seq' c16_2e ?_
  refine GoO.seq' c16_3e ?_
  refine GoO.region' (is := [0, 1, 2, 3, 4, 5, 6, 7, 8]) c16_4e (by kernel_rfl) ?_
  refine GoO.exec (is := [0, 1, 2, 3]) (hs := [.p, .b 0, .p, .p]) (rest := [4, 5, 6, 7, 8]) (ks := [1, 8]) (env' := [(1, .pointer (some ⟨b_4, 0, none⟩)), (8, .bool (c_1.Kind == 2))]) (H' := [⟨40, b_4, [.int .i64 c_1.Kind, .int .u64 c_1.Session, .int .u64 c_1.Seq, .int .u64 c_1.Saga, .slice A_2 c_1.Steps.length c_3, .int .i64 c_1.Step, .bool c_1.Back, .int .i64 c_1.Try, .bool c_1.Ok, .int .u64 c_1.Now]⟩]) (ps := [b_4 = b_4]) (by kernel_rfl) (And.intro rfl trivial) ?_
  refine GoO.bsplit (t := 8) (by kernel_rfl) (fun h5 => ?_) (fun h5 => ?_)
  · refine GoO.exec (is := [4, 5]) (hs := [.p, .b 0]) (rest := [6, 7, 8]) (ks := [1, 8, 10]) (env' := [(1, .pointer (some ⟨b_4, 0, none⟩)), (8, .bool true), (10, .slice A_2 c_1.Steps.length c_3)]) (H' := [⟨40, b_4, [.int .i64 c_1.Kind, .int .u64 c_1.Session, .int .u64 c_1.Seq, .int .u64 c_1.Saga, .slice A_2 c_1.Steps.length c_3, .int .i64 c_1.Step, .bool c_1.Back, .int .i64 c_1.Try, .bool c_1.Ok, .int .u64 c_1.Now]⟩]) (ps := [b_4 = b_4]) (by kernel_rfl) (And.intro rfl trivial) ?_
    refine OpTo.go (GoO.call rfl (by kernel_rfl) (by kernel_rfl) (plan_Check_ok n c_1.Steps A_2 c_3) [[0]] [] [] [(0, 0)] (hks := [0]) (bks := [0]) (by kernel_rfl) (by kernel_rfl) (by kernel_rfl) (.inl rfl) rfl rfl (by kernel_rfl) (by kernel_rfl) _ (fun _ _ => rfl) _ _ (fun _ _ => rfl) (fun _ _ => rfl) (fun _ _ => by kernel_rfl) (fun _ _ => by kernel_rfl) (fun r_6 x_7 => ?_))
    refine GoO.shape (env' := [(1, .pointer (some ⟨b_4, 0, none⟩)), (8, .bool true), (10, .slice A_2 c_1.Steps.length c_3), (11, .int .i64 r_6)]) (H' := [⟨40, b_4, [.int .i64 c_1.Kind, .int .u64 c_1.Session, .int .u64 c_1.Seq, .int .u64 c_1.Saga, .slice A_2 c_1.Steps.length c_3, .int .i64 c_1.Step, .bool c_1.Back, .int .i64 c_1.Try, .bool c_1.Ok, .int .u64 c_1.Now]⟩]) (B' := [Rd 0 kT_api_Step A_2 c_3 c_1.Steps]) (ks := [1, 8, 10, 11]) (by kernel_rfl) (by kernel_rfl) (by kernel_rfl) ?_
    refine GoO.exec (is := [7, 8]) (hs := [.p, .p]) (rest := []) (ks := [1, 13]) (env' := [(1, .pointer (some ⟨b_4, 0, none⟩)), (13, .bool (r_6 != 0))]) (H' := [⟨40, b_4, [.int .i64 c_1.Kind, .int .u64 c_1.Session, .int .u64 c_1.Seq, .int .u64 c_1.Saga, .slice A_2 c_1.Steps.length c_3, .int .i64 c_1.Step, .bool c_1.Back, .int .i64 c_1.Try, .bool c_1.Ok, .int .u64 c_1.Now]⟩]) (ps := []) (by kernel_rfl) trivial ?_
    refine GoO.regionEnd ?_
    exact GoO.sub (ks := [1, 13]) (hk := [0]) (bk := [0]) (by kernel_rfl) (by kernel_rfl) (by kernel_rfl) (command_Encode_j0_ok n c_1 A_2 c_3 b_4 w0 S0 (r_6 != 0))
  · refine GoO.exec (is := [4, 5, 6, 7, 8]) (hs := [.p, .p, .p, .p, .p]) (rest := []) (ks := [1, 13]) (env' := [(1, .pointer (some ⟨b_4, 0, none⟩)), (13, .bool false)]) (H' := [⟨40, b_4, [.int .i64 c_1.Kind, .int .u64 c_1.Session, .int .u64 c_1.Seq, .int .u64 c_1.Saga, .slice A_2 c_1.Steps.length c_3, .int .i64 c_1.Step, .bool c_1.Back, .int .i64 c_1.Try, .bool c_1.Ok, .int .u64 c_1.Now]⟩]) (ps := []) (by kernel_rfl) trivial ?_
    refine GoO.regionEnd ?_
    exact GoO.sub (ks := [1, 13]) (hk := [0]) (bk := [0]) (by kernel_rfl) (by kernel_rfl) (by kernel_rfl) (command_Encode_j0_ok n c_1 A_2 c_3 b_4 w0 S0 false)

/-! tontine/tontinelaw16.begun -/
noncomputable def c15_0 : Code := bodyOf Try.f15
noncomputable def c15_1 : Code := cdL c15_0
noncomputable def c15_2 : Code := cdR c15_0
noncomputable def c15_3 : Code := cdL c15_2
noncomputable def c15_4 : Code := cdR c15_2
noncomputable def c15_5 : Code := cdL c15_4
noncomputable def c15_6 : Code := cdR c15_4
noncomputable def r15_1 : Array Oper := cdO c15_1
noncomputable def r15_3 : Array Oper := cdO c15_3
noncomputable def r15_5 : Array Oper := cdO c15_5
theorem c15_0e : c15_0 = .seq c15_1 c15_2 := by kernel_rfl
theorem c15_1e : c15_1 = .region 0 r15_1 false := by kernel_rfl
theorem c15_2e : c15_2 = .seq c15_3 c15_4 := by kernel_rfl
theorem c15_3e : c15_3 = .region 1 r15_3 false := by kernel_rfl
theorem c15_4e : c15_4 = .seq c15_5 c15_6 := by kernel_rfl
theorem c15_5e : c15_5 = .region 2 r15_5 false := by kernel_rfl
theorem c15_6e : c15_6 = .ret := by kernel_rfl
noncomputable def tontinelaw16_begun.R : Pst Bool where
  ε := Unit
  v := fun r x => .bool r
  H := fun r x => []
  B := fun r x => []
noncomputable def tontinelaw16_begun.cx (w0 : World) (S0 : Fam) : Cx Bool := ⟨Try.prog, 15, Try.f15, 14, w0, S0, [], 0, tontinelaw16_begun.R⟩
theorem tontinelaw16_begun_ok (n : Nat) :
    Meets Try.prog 15 [] 0 [] [] [] (tontinelaw16_begun.f n) (tontinelaw16_begun.R) := by
  refine Meets.of (c := c15_0) (n := 14) Try.func15 (by kernel_rfl) (by kernel_rfl) (by kernel_rfl) fun w0 S0 => ?_
  unfold tontinelaw16_begun.f
  show GoO (tontinelaw16_begun.cx w0 S0) [] [] [] [.code c15_0] _
  refine GoO.seq' c15_0e ?_
  refine GoO.region' (is := [0]) c15_1e (by kernel_rfl) ?_
  refine GoO.exec (is := [0]) (hs := [.p]) (rest := []) (ks := []) (env' := []) (H' := []) (ps := []) (by kernel_rfl) trivial ?_
  refine GoO.regionEnd ?_
  refine GoO.seq' c15_2e ?_
  refine GoO.region' (is := [0, 1, 2, 3, 4, 5, 6]) c15_3e (by kernel_rfl) ?_
  refine GoO.exec (is := [0]) (hs := [.p]) (rest := [1, 2, 3, 4, 5, 6]) (ks := [4]) (env' := [(4, .agg ⟨[.int .i64 5, .int .u64 2, .int .u64 3, .int .u64 5, .slice none ([] : List T_api_Step).length 0, .int .i64 0, .bool false, .int .i64 0, .bool false, .int .u64 0]⟩)]) (H' := []) (ps := []) (by kernel_rfl) trivial ?_
  refine GoO.nilRd kT_api_Step ?_
  refine OpTo.go (GoO.call rfl (by kernel_rfl) (by kernel_rfl) (command_Encode_ok n (⟨5, 2, 3, 5, [], 0, false, 0, false, 0⟩ : T_api_Command) none 0) [[0]] [] [] [(0, 0)] (hks := []) (bks := [0]) (by kernel_rfl) (by kernel_rfl) (by kernel_rfl) (.inl rfl) rfl rfl (by kernel_rfl) (by kernel_rfl) _ (fun _ _ => rfl) _ _ (fun _ _ => rfl) (fun _ _ => rfl) (fun _ _ => by kernel_rfl) (fun _ _ => by kernel_rfl) (fun r_1 x_3 => ?_))
  refine GoO.shape (env' := [(4, .agg ⟨[.int .i64 5, .int .u64 2, .int .u64 3, .int .u64 5, .slice none ([] : List T_api_Step).length 0, .int .i64 0, .bool false, .int .i64 0, .bool false, .int .u64 0]⟩), (5, .tuple ⟨[.string (bs r_1.1), .int .i64 r_1.2]⟩)]) (H' := []) (B' := [Rd 0 kT_api_Step none 0 ([] : List T_api_Step)]) (ks := [4, 5]) (by kernel_rfl) (by kernel_rfl) (by kernel_rfl) ?_
  refine GoO.exec (is := [2, 3, 4, 5, 6]) (hs := [.p, .p, .p, .p, .p]) (rest := []) (ks := [1, 2]) (env' := [(1, .string (bs r_1.1)), (2, .int .i64 r_1.2)]) (H' := []) (ps := []) (by kernel_rfl) trivial ?_
  refine GoO.regionEnd ?_
  refine GoO.seq' c15_4e ?_
  refine GoO.region' (is := [0, 1, 2, 3, 4, 5, 6]) c15_5e (by kernel_rfl) ?_
  refine GoO.exec (is := [0, 1, 2]) (hs := [.p, .p, .p]) (rest := [3, 4, 5, 6]) (ks := [1, 10]) (env' := [(1, .string (bs r_1.1)), (10, .bool (r_1.2 == 0))]) (H' := []) (ps := []) (by kernel_rfl) trivial ?_
  refine GoO.bsplit (t := 10) (by kernel_rfl) (fun h2 => ?_) (fun h2 => ?_)
  · refine GoO.exec (is := [3, 4, 5, 6]) (hs := [.p, .p, .p, .p]) (rest := []) (ks := [0]) (env' := [(0, .bool (r_1.1 == ([1, 5, 1, 2, 1, 3, 1, 5, 0] : List UInt8)))]) (H' := []) (ps := []) (by kernel_rfl) trivial ?_
    refine GoO.regionEnd ?_
    exact GoO.ret' (h := c15_6e) (hs := []) (ps := []) (hk := []) (bk := []) Try.func15 () (by kernel_rfl) trivial (by kernel_rfl) (by kernel_rfl)
  · refine GoO.exec (is := [3, 4, 5, 6]) (hs := [.p, .p, .p, .p]) (rest := []) (ks := [0]) (env' := [(0, .bool false)]) (H' := []) (ps := []) (by kernel_rfl) trivial ?_
    refine GoO.regionEnd ?_
    exact GoO.ret' (h := c15_6e) (hs := []) (ps := []) (hk := []) (bk := []) Try.func15 () (by kernel_rfl) trivial (by kernel_rfl) (by kernel_rfl)

/-! tontine/pack.From -/
noncomputable def c42_0 : Code := bodyOf Try.f42
noncomputable def c42_1 : Code := cdL c42_0
noncomputable def c42_2 : Code := cdR c42_0
noncomputable def c42_3 : Code := cdL c42_2
noncomputable def c42_4 : Code := cdR c42_2
noncomputable def r42_1 : Array Oper := cdO c42_1
noncomputable def r42_3 : Array Oper := cdO c42_3
theorem c42_0e : c42_0 = .seq c42_1 c42_2 := by kernel_rfl
theorem c42_1e : c42_1 = .region 0 r42_1 false := by kernel_rfl
theorem c42_2e : c42_2 = .seq c42_3 c42_4 := by kernel_rfl
theorem c42_3e : c42_3 = .region 1 r42_3 false := by kernel_rfl
theorem c42_4e : c42_4 = .ret := by kernel_rfl
noncomputable def pack_From.R : Pst T_pack_Reader where
  ε := Nat
  v := fun r x => .pointer (some ⟨x, 0, none⟩)
  H := fun r x => [⟨1, x, [.string (bs r.s), .bool r.bad]⟩]
  B := fun r x => []
noncomputable def pack_From.cx (w0 : World) (S0 : Fam) : Cx T_pack_Reader := ⟨Try.prog, 42, Try.f42, 6, w0, S0, [], 0, pack_From.R⟩
theorem pack_From_ok (n : Nat) (s_1 : (List UInt8)) :
    Meets Try.prog 42 [.string (bs s_1)] 0 [] [] [] (pack_From.f n s_1) (pack_From.R) := by
  refine Meets.of (c := c42_0) (n := 6) Try.func42 (by kernel_rfl) (by kernel_rfl) (by kernel_rfl) fun w0 S0 => ?_
  unfold pack_From.f
  show GoO (pack_From.cx w0 S0) [(0, .string (bs s_1))] [] [] [.code c42_0] _
  refine GoO.seq' c42_0e ?_
  refine GoO.region' (is := [0]) c42_1e (by kernel_rfl) ?_
  refine GoO.exec (is := [0]) (hs := [.p]) (rest := []) (ks := [0]) (env' := [(0, .string (bs s_1))]) (H' := []) (ps := []) (by kernel_rfl) trivial ?_
  refine GoO.regionEnd ?_
  refine GoO.seq' c42_2e ?_
  refine GoO.region' (is := [0, 1, 2, 3]) c42_3e (by kernel_rfl) ?_
  refine GoO.exec (is := [0, 1]) (hs := [.p, .p]) (rest := [2, 3]) (ks := [4]) (env' := [(4, .agg ⟨[.string (bs s_1), .bool false]⟩)]) (H' := []) (ps := []) (by kernel_rfl) trivial ?_
  refine OpTo.go (GoO.new rfl 40 (cs := [.string (bs s_1), .bool false]) (by kernel_rfl) _ (fun _ => rfl) (fun b_2 => ?_))
  refine GoO.exec (is := [3]) (hs := [.p]) (rest := []) (ks := [2]) (env' := [(2, .pointer (some ⟨b_2, 0, none⟩))]) (H' := [⟨40, b_2, [.string (bs s_1), .bool false]⟩]) (ps := []) (by kernel_rfl) trivial ?_
  refine GoO.regionEnd ?_
  refine GoO.retagB (t := 40) (u := 1) (j := 0) (hk := []) (bk := []) rfl rfl rfl rfl rfl rfl (by kernel_rfl) (by kernel_rfl) ?_
  exact GoO.ret' (h := c42_4e) (hs := []) (ps := []) (hk := [0]) (bk := []) Try.func42 b_2 (by kernel_rfl) trivial (by kernel_rfl) (by kernel_rfl)

/-! (*tontine/pack.Reader).fail -/
noncomputable def c68_0 : Code := bodyOf Try.f68
noncomputable def c68_1 : Code := cdL c68_0
noncomputable def c68_2 : Code := cdR c68_0
noncomputable def c68_3 : Code := cdL c68_2
noncomputable def c68_4 : Code := cdL c68_3
noncomputable def c68_5 : Code := cdR c68_3
noncomputable def c68_6 : Code := cdL c68_5
noncomputable def c68_8 : Code := cdR c68_2
noncomputable def c68_9 : Code := cdL c68_8
noncomputable def c68_10 : Code := cdR c68_8
noncomputable def c68_7 : Code := cdR c68_5
noncomputable def r68_1 : Array Oper := cdO c68_1
noncomputable def r68_4 : Array Oper := cdO c68_4
noncomputable def r68_6 : Array Oper := cdO c68_6
noncomputable def r68_9 : Array Oper := cdO c68_9
theorem c68_0e : c68_0 = .seq c68_1 c68_2 := by kernel_rfl
theorem c68_1e : c68_1 = .region 0 r68_1 false := by kernel_rfl
theorem c68_2e : c68_2 = .seq c68_3 c68_8 := by kernel_rfl
theorem c68_3e : c68_3 = .seq c68_4 c68_5 := by kernel_rfl
theorem c68_4e : c68_4 = .region 1 r68_4 false := by kernel_rfl
theorem c68_5e : c68_5 = .cond (cdC c68_5) c68_6 c68_7 := by kernel_rfl
theorem c68_6e : c68_6 = .region 2 r68_6 false := by kernel_rfl
theorem c68_8e : c68_8 = .seq c68_9 c68_10 := by kernel_rfl
theorem c68_9e : c68_9 = .region 3 r68_9 false := by kernel_rfl
theorem c68_10e : c68_10 = .ret := by kernel_rfl
theorem c68_7e : c68_7 = .skip := by kernel_rfl
noncomputable def pack_Reader_fail.R (b_2 : Nat) : Pst (Int × T_pack_Reader) where
  ε := Unit
  v := fun r x => .int .u64 r.1
  H := fun r x => [⟨1, b_2, [.string (bs r.2.s), .bool r.2.bad]⟩]
  B := fun r x => []
noncomputable def pack_Reader_fail.cx (b_2 : Nat) (w0 : World) (S0 : Fam) : Cx (Int × T_pack_Reader) := ⟨Try.prog, 68, Try.f68, 11, w0, S0, [1], 1, pack_Reader_fail.R b_2⟩
theorem pack_Reader_fail_ok (n : Nat) (r_1 : T_pack_Reader) (b_2 : Nat) :
    Meets Try.prog 68 [.pointer (some ⟨b_2, 0, none⟩)] 1 [1] [⟨1, b_2, [.string (bs r_1.s), .bool r_1.bad]⟩] [] (pack_Reader_fail.f n r_1) (pack_Reader_fail.R b_2) := by
  refine Meets.of (c := c68_0) (n := 11) Try.func68 (by kernel_rfl) (by kernel_rfl) (by kernel_rfl) fun w0 S0 => ?_
  unfold pack_Reader_fail.f
  show GoO (pack_Reader_fail.cx b_2 w0 S0) [(0, .pointer (some ⟨b_2, 0, none⟩))] [⟨1, b_2, [.string (bs r_1.s), .bool r_1.bad]⟩] [] [.code c68_0] _
  refine GoO.seq' c68_0e ?_
  refine GoO.region' (is := [0]) c68_1e (by kernel_rfl) ?_
  refine GoO.exec (is := [0]) (hs := [.p]) (rest := []) (ks := [0]) (env' := [(0, .pointer (some ⟨b_2, 0, none⟩))]) (H' := [⟨1, b_2, [.string (bs r_1.s), .bool r_1.bad]⟩]) (ps := []) (by kernel_rfl) trivial ?_
  refine GoO.regionEnd ?_
  refine GoO.seq' c68_2e ?_
  refine GoO.seq' c68_3e ?_
  refine GoO.region' (is := [0, 1]) c68_4e (by kernel_rfl) ?_
  refine GoO.exec (is := [0, 1]) (hs := [.p, .p]) (rest := []) (ks := [0, 4]) (env' := [(0, .pointer (some ⟨b_2, 0, none⟩)), (4, .bool true)]) (H' := [⟨1, b_2, [.string (bs r_1.s), .bool r_1.bad]⟩]) (ps := []) (by kernel_rfl) trivial ?_
  refine GoO.regionEnd ?_
  refine GoO.condT c68_5e (by kernel_rfl) ?_
  refine GoO.region' (is := [0, 1, 2, 3, 4, 5, 6, 7]) c68_6e (by kernel_rfl) ?_
  refine GoO.exec (is := [0, 1, 2, 3, 4, 5, 6, 7]) (hs := [.p, .p, .p, .p, .b 0, .p, .p, .b 0]) (rest := []) (ks := []) (env' := []) (H' := [⟨1, b_2, [.string (bs []), .bool true]⟩]) (ps := [b_2 = b_2, b_2 = b_2]) (by kernel_rfl) (And.intro rfl (And.intro rfl trivial)) ?_
  refine GoO.regionEnd ?_
  refine GoO.seq' c68_8e ?_
  refine GoO.region' (is := [0]) c68_9e (by kernel_rfl) ?_
  refine GoO.exec (is := [0]) (hs := [.p]) (rest := []) (ks := [2]) (env' := [(2, .int .u64 0)]) (H' := [⟨1, b_2, [.string (bs []), .bool true]⟩]) (ps := []) (by kernel_rfl) trivial ?_
  refine GoO.regionEnd ?_
  exact GoO.ret' (h := c68_10e) (hs := []) (ps := []) (hk := [0]) (bk := []) Try.func68 () (by kernel_rfl) trivial (by kernel_rfl) (by kernel_rfl)

/-! (*tontine/pack.Reader).Num -/
noncomputable def c59_0 : Code := bodyOf Try.f59
noncomputable def c59_1 : Code := cdL c59_0
noncomputable def c59_2 : Code := cdR c59_0
noncomputable def c59_3 : Code := cdL c59_2
noncomputable def c59_4 : Code := cdL c59_3
noncomputable def c59_5 : Code := cdR c59_3
noncomputable def c59_6 : Code := cdL c59_5
noncomputable def c59_7 : Code := cdL c59_6
noncomputable def c59_8 : Code := cdR c59_6
noncomputable def c59_9 : Code := cdR c59_5
noncomputable def c59_10 : Code := cdR c59_2
noncomputable def c59_11 : Code := cdL c59_10
noncomputable def c59_12 : Code := cdR c59_10
noncomputable def c59_13 : Code := cdL c59_12
noncomputable def c59_14 : Code := cdL c59_13
noncomputable def c59_15 : Code := cdR c59_13
noncomputable def c59_16 : Code := cdL c59_15
noncomputable def c59_17 : Code := cdL c59_16
noncomputable def c59_18 : Code := cdR c59_16
noncomputable def c59_19 : Code := cdR c59_15
noncomputable def c59_20 : Code := cdR c59_12
noncomputable def c59_21 : Code := cdL c59_20
noncomputable def c59_22 : Code := cdR c59_20
noncomputable def c59_23 : Code := cdL c59_22
noncomputable def c59_24 : Code := cdL c59_23
noncomputable def c59_25 : Code := cdR c59_23
noncomputable def c59_26 : Code := cdL c59_25
noncomputable def c59_27 : Code := cdL c59_26
noncomputable def c59_28 : Code := cdL c59_27
noncomputable def c59_29 : Code := cdL c59_28
noncomputable def c59_30 : Code := cdR c59_28
noncomputable def c59_31 : Code := cdL c59_30
noncomputable def c59_32 : Code := cdR c59_30
noncomputable def c59_33 : Code := cdR c59_27
noncomputable def c59_34 : Code := cdL c59_33
noncomputable def c59_35 : Code := cdL c59_34
noncomputable def c59_36 : Code := cdR c59_33
noncomputable def c59_37 : Code := cdR c59_22
noncomputable def c59_38 : Code := cdL c59_37
noncomputable def c59_39 : Code := cdR c59_37
noncomputable def c59_40 : Code := cdL c59_39
noncomputable def c59_41 : Code := cdR c59_39
noncomputable def r59_1 : Array Oper := cdO c59_1
noncomputable def r59_4 : Array Oper := cdO c59_4
noncomputable def r59_7 : Array Oper := cdO c59_7
noncomputable def r59_11 : Array Oper := cdO c59_11
noncomputable def r59_14 : Array Oper := cdO c59_14
noncomputable def r59_17 : Array Oper := cdO c59_17
noncomputable def r59_21 : Array Oper := cdO c59_21
noncomputable def r59_24 : Array Oper := cdO c59_24
noncomputable def r59_29 : Array Oper := cdO c59_29
noncomputable def r59_35 : Array Oper := cdO c59_35
noncomputable def r59_36 : Array Oper := cdO c59_36
noncomputable def r59_38 : Array Oper := cdO c59_38
noncomputable def r59_40 : Array Oper := cdO c59_40
theorem c59_0e : c59_0 = .seq c59_1 c59_2 := by kernel_rfl
theorem c59_1e : c59_1 = .region 0 r59_1 false := by kernel_rfl
theorem c59_2e : c59_2 = .seq c59_3 c59_10 := by kernel_rfl
theorem c59_3e : c59_3 = .seq c59_4 c59_5 := by kernel_rfl
theorem c59_4e : c59_4 = .region 1 r59_4 false := by kernel_rfl
theorem c59_5e : c59_5 = .cond (cdC c59_5) c59_6 c59_9 := by kernel_rfl
theorem c59_6e : c59_6 = .seq c59_7 c59_8 := by kernel_rfl
theorem c59_7e : c59_7 = .region 2 r59_7 false := by kernel_rfl
theorem c59_8e : c59_8 = .ret := by kernel_rfl
theorem c59_9e : c59_9 = .skip := by kernel_rfl
theorem c59_10e : c59_10 = .seq c59_11 c59_12 := by kernel_rfl
theorem c59_11e : c59_11 = .region 3 r59_11 false := by kernel_rfl
theorem c59_12e : c59_12 = .seq c59_13 c59_20 := by kernel_rfl
theorem c59_13e : c59_13 = .seq c59_14 c59_15 := by kernel_rfl
theorem c59_14e : c59_14 = .region 4 r59_14 false := by kernel_rfl
theorem c59_15e : c59_15 = .cond (cdC c59_15) c59_16 c59_19 := by kernel_rfl
theorem c59_16e : c59_16 = .seq c59_17 c59_18 := by kernel_rfl
theorem c59_17e : c59_17 = .region 5 r59_17 false := by kernel_rfl
theorem c59_18e : c59_18 = .ret := by kernel_rfl
theorem c59_19e : c59_19 = .skip := by kernel_rfl
theorem c59_20e : c59_20 = .seq c59_21 c59_22 := by kernel_rfl
theorem c59_21e : c59_21 = .region 6 r59_21 false := by kernel_rfl
theorem c59_22e : c59_22 = .seq c59_23 c59_37 := by kernel_rfl
theorem c59_23e : c59_23 = .seq c59_24 c59_25 := by kernel_rfl
theorem c59_24e : c59_24 = .region 7 r59_24 false := by kernel_rfl
theorem c59_25e : c59_25 = .block 0 c59_26 := by kernel_rfl
theorem c59_26e : c59_26 = .loop c59_27 := by kernel_rfl
theorem c59_27e : c59_27 = .seq c59_28 c59_33 := by kernel_rfl
theorem c59_28e : c59_28 = .seq c59_29 c59_30 := by kernel_rfl
theorem c59_29e : c59_29 = .region 8 r59_29 false := by kernel_rfl
theorem c59_30e : c59_30 = .cond (cdC c59_30) c59_31 c59_32 := by kernel_rfl
theorem c59_31e : c59_31 = .skip := by kernel_rfl
theorem c59_32e : c59_32 = .exit 0 := by kernel_rfl
theorem c59_33e : c59_33 = .seq c59_34 c59_36 := by kernel_rfl
theorem c59_34e : c59_34 = .block 1 c59_35 := by kernel_rfl
theorem c59_35e : c59_35 = .region 10 r59_35 false := by kernel_rfl
theorem c59_36e : c59_36 = .region 9 r59_36 false := by kernel_rfl
theorem c59_37e : c59_37 = .seq c59_38 c59_39 := by kernel_rfl
theorem c59_38e : c59_38 = .region 11 r59_38 false := by kernel_rfl
theorem c59_39e : c59_39 = .seq c59_40 c59_41 := by kernel_rfl
theorem c59_40e : c59_40 = .region 12 r59_40 false := by kernel_rfl
theorem c59_41e : c59_41 = .ret := by kernel_rfl
noncomputable def pack_Reader_Num.R (b_2 : Nat) : Pst (Int × T_pack_Reader) where
  ε := Unit
  v := fun r x => .int .u64 r.1
  H := fun r x => [⟨1, b_2, [.string (bs r.2.s), .bool r.2.bad]⟩]
  B := fun r x => []
noncomputable def pack_Reader_Num.cx (b_2 : Nat) (w0 : World) (S0 : Fam) : Cx (Int × T_pack_Reader) := ⟨Try.prog, 59, Try.f59, 75, w0, S0, [1], 1, pack_Reader_Num.R b_2⟩
theorem pack_Reader_Num_l0_ok (n : Nat) (r_1 : T_pack_Reader) (b_2 : Nat) (w0 : World) (S0 : Fam) :
    ∀ (k : Nat) (x_15 : Int) (i_16 : Int), GoO (pack_Reader_Num.cx b_2 w0 S0) [(0, .pointer (some ⟨b_2, 0, none⟩)), (3, .int .i64 (wi64 ((rdB r_1.s 0).toNat : Int))), (4, .int .u64 x_15), (5, .int .i64 i_16)] [⟨1, b_2, [.string (bs r_1.s), .bool r_1.bad]⟩] [] [.code c59_27, .inLoop c59_27, .inBlock 0, .code c59_37] (pack_Reader_Num.l0 n r_1 k x_15 i_16) := by
  intro k
  induction k with
  | zero => intros; rw [pack_Reader_Num.l0.eq_1]; exact GoO.stop
  | succ k ih0 =>
    intro x_15 i_16
    rw [pack_Reader_Num.l0.eq_2]
    refine GoO.seq' c59_27e ?_
    refine GoO.seq' c59_28e ?_
    refine GoO.region' (is := [0, 1, 2]) c59_29e (by kernel_rfl) ?_
    refine GoO.exec (is := [0, 1, 2]) (hs := [.p, .p, .p]) (rest := []) (ks := [0, 3, 4, 5, 51]) (env' := [(0, .pointer (some ⟨b_2, 0, none⟩)), (3, .int .i64 (wi64 ((rdB r_1.s 0).toNat : Int))), (4, .int .u64 x_15), (5, .int .i64 i_16), (51, .bool (decide (i_16 ≤ (wi64 ((rdB r_1.s 0).toNat : Int)))))]) (H' := [⟨1, b_2, [.string (bs r_1.s), .bool r_1.bad]⟩]) (ps := []) (by kernel_rfl) trivial ?_
    refine GoO.regionEnd ?_
    refine GoO.ite' c59_30e (by kernel_rfl) (fun h17 => ?_) (fun h17 => ?_)
    · refine GoO.skip' c59_31e ?_
      refine GoO.seq' c59_33e ?_
      refine GoO.block' c59_34e ?_
      refine GoO.region' (is := [0, 1, 2, 3, 4, 5, 6, 7, 8, 9, 10]) c59_35e (by kernel_rfl) ?_
      refine GoO.guard (fun h18 => ?_)
      refine GoO.exec (is := [0, 1, 2, 3, 4, 5, 6, 7, 8, 9, 10]) (hs := [.p, .p, .p, .p, .p, .b 0, .p, .p, .p, .p, .p]) (rest := []) (ks := [0, 3, 4, 5]) (env' := [(0, .pointer (some ⟨b_2, 0, none⟩)), (3, .int .i64 (wi64 ((rdB r_1.s 0).toNat : Int))), (4, .int .u64 (bOr .u64 (shL .u64 x_15 8) (wu64 ((rdB r_1.s i_16).toNat : Int)))), (5, .int .i64 i_16)]) (H' := [⟨1, b_2, [.string (bs r_1.s), .bool r_1.bad]⟩]) (ps := [(0 : Int) ≤ 8, b_2 = b_2, (0 : Int) ≤ i_16, i_16 < (r_1.s.length : Int)]) (by kernel_rfl) (And.intro (by decide) (And.intro rfl (And.intro h18.1 (And.intro h18.2 trivial)))) ?_
      refine GoO.regionEnd ?_
      refine GoO.inBlock ?_
      refine GoO.region' (is := [0, 1, 2]) c59_36e (by kernel_rfl) ?_
      refine GoO.exec (is := [0, 1, 2]) (hs := [.p, .p, .p]) (rest := []) (ks := [0, 3, 4, 5]) (env' := [(0, .pointer (some ⟨b_2, 0, none⟩)), (3, .int .i64 (wi64 ((rdB r_1.s 0).toNat : Int))), (4, .int .u64 (bOr .u64 (shL .u64 x_15 8) (wu64 ((rdB r_1.s i_16).toNat : Int)))), (5, .int .i64 (wi64 (i_16 + 1)))]) (H' := [⟨1, b_2, [.string (bs r_1.s), .bool r_1.bad]⟩]) (ps := []) (by kernel_rfl) trivial ?_
      refine GoO.regionEnd ?_
      refine GoO.inLoop ?_
      exact GoO.sub (ks := [0, 3, 4, 5]) (hk := [0]) (bk := []) (by kernel_rfl) (by kernel_rfl) (by kernel_rfl) (ih0 (bOr .u64 (shL .u64 x_15 8) (wu64 ((rdB r_1.s i_16).toNat : Int))) (wi64 (i_16 + 1)))
    · refine GoO.exit' c59_32e rfl ?_
      refine GoO.seq' c59_37e ?_
      refine GoO.region' (is := [0, 1, 2, 3, 4, 5, 6, 7, 8, 9, 10]) c59_38e (by kernel_rfl) ?_
      refine GoO.guard (fun h19 => ?_)
      refine GoO.exec (is := [0, 1, 2, 3, 4, 5, 6, 7, 8, 9, 10]) (hs := [.p, .p, .p, .p, .b 0, .p, .p, .p, .p, .p, .b 0]) (rest := []) (ks := [4]) (env' := [(4, .int .u64 x_15)]) (H' := [⟨1, b_2, [.string (bs (r_1.s.drop (wi64 ((wi64 ((rdB r_1.s 0).toNat : Int)) + 1)).toNat)), .bool r_1.bad]⟩]) (ps := [b_2 = b_2, (0 : Int) ≤ (wi64 ((wi64 ((rdB r_1.s 0).toNat : Int)) + 1)), (wi64 ((wi64 ((rdB r_1.s 0).toNat : Int)) + 1)) ≤ (r_1.s.length : Int), b_2 = b_2]) (by kernel_rfl) (And.intro rfl (And.intro h19.1 (And.intro h19.2 (And.intro rfl trivial)))) ?_
      refine GoO.regionEnd ?_
      refine GoO.seq' c59_39e ?_
      refine GoO.region' (is := [0, 1]) c59_40e (by kernel_rfl) ?_
      refine GoO.exec (is := [0, 1]) (hs := [.p, .p]) (rest := []) (ks := [2]) (env' := [(2, .int .u64 x_15)]) (H' := [⟨1, b_2, [.string (bs (r_1.s.drop (wi64 ((wi64 ((rdB r_1.s 0).toNat : Int)) + 1)).toNat)), .bool r_1.bad]⟩]) (ps := []) (by kernel_rfl) trivial ?_
      refine GoO.regionEnd ?_
      exact GoO.ret' (h := c59_41e) (hs := []) (ps := []) (hk := [0]) (bk := []) Try.func59 () (by kernel_rfl) trivial (by kernel_rfl) (by kernel_rfl)
theorem pack_Reader_Num_j0_ok (n : Nat) (r_1 : T_pack_Reader) (b_2 : Nat) (w0 : World) (S0 : Fam) (b_11 : Bool) :
    GoO (pack_Reader_Num.cx b_2 w0 S0) [(0, .pointer (some ⟨b_2, 0, none⟩)), (3, .int .i64 (wi64 ((rdB r_1.s 0).toNat : Int))), (46, .bool b_11)] [⟨1, b_2, [.string (bs r_1.s), .bool r_1.bad]⟩] [] [.code c59_15, .code c59_20] (pack_Reader_Num.j0 n r_1 b_11) := by
  unfold pack_Reader_Num.j0
  refine GoO.ite' c59_15e (by kernel_rfl) (fun h12 => ?_) (fun h12 => ?_)
  · refine GoO.seq' c59_16e ?_
    refine GoO.region' (is := [0, 1, 2]) c59_17e (by kernel_rfl) ?_
    refine GoO.exec (is := [0]) (hs := [.p]) (rest := [1, 2]) (ks := [47]) (env' := [(47, .pointer (some ⟨b_2, 0, none⟩))]) (H' := [⟨1, b_2, [.string (bs r_1.s), .bool r_1.bad]⟩]) (ps := []) (by kernel_rfl) trivial ?_
    refine OpTo.go (GoO.call rfl (by kernel_rfl) (by kernel_rfl) (pack_Reader_fail_ok n r_1 b_2) [[0], [1]] [(1, 1)] [(1, 0)] [] (hks := []) (bks := []) (by kernel_rfl) (by kernel_rfl) (by kernel_rfl) (.inl rfl) rfl rfl (by kernel_rfl) (by kernel_rfl) _ (fun _ _ => rfl) _ _ (fun _ _ => rfl) (fun _ _ => rfl) (fun _ _ => by kernel_rfl) (fun _ _ => by kernel_rfl) (fun r_13 x_14 => ?_))
    refine GoO.shape (env' := [(47, .pointer (some ⟨b_2, 0, none⟩)), (48, .int .u64 r_13.1)]) (H' := [⟨1, b_2, [.string (bs r_13.2.s), .bool r_13.2.bad]⟩]) (B' := []) (ks := [47, 48]) (by kernel_rfl) (by kernel_rfl) (by kernel_rfl) ?_
    refine GoO.exec (is := [2]) (hs := [.p]) (rest := []) (ks := [2]) (env' := [(2, .int .u64 r_13.1)]) (H' := [⟨1, b_2, [.string (bs r_13.2.s), .bool r_13.2.bad]⟩]) (ps := []) (by kernel_rfl) trivial ?_
    refine GoO.regionEnd ?_
    exact GoO.ret' (h := c59_18e) (hs := []) (ps := []) (hk := [0]) (bk := []) Try.func59 () (by kernel_rfl) trivial (by kernel_rfl) (by kernel_rfl)
  · refine GoO.skip' c59_19e ?_
    refine GoO.seq' c59_20e ?_
    refine GoO.region' (is := [0]) c59_21e (by kernel_rfl) ?_
    refine GoO.exec (is := [0]) (hs := [.p]) (rest := []) (ks := [0, 3, 4]) (env' := [(0, .pointer (some ⟨b_2, 0, none⟩)), (3, .int .i64 (wi64 ((rdB r_1.s 0).toNat : Int))), (4, .int .u64 0)]) (H' := [⟨1, b_2, [.string (bs r_1.s), .bool r_1.bad]⟩]) (ps := []) (by kernel_rfl) trivial ?_
    refine GoO.regionEnd ?_
    refine GoO.seq' c59_22e ?_
    refine GoO.seq' c59_23e ?_
    refine GoO.region' (is := [0]) c59_24e (by kernel_rfl) ?_
    refine GoO.exec (is := [0]) (hs := [.p]) (rest := []) (ks := [0, 3, 4, 5]) (env' := [(0, .pointer (some ⟨b_2, 0, none⟩)), (3, .int .i64 (wi64 ((rdB r_1.s 0).toNat : Int))), (4, .int .u64 0), (5, .int .i64 1)]) (H' := [⟨1, b_2, [.string (bs r_1.s), .bool r_1.bad]⟩]) (ps := []) (by kernel_rfl) trivial ?_
    refine GoO.regionEnd ?_
    refine GoO.block' c59_25e ?_
    refine GoO.loop' c59_26e ?_
    exact GoO.sub (ks := [0, 3, 4, 5]) (hk := [0]) (bk := []) (by kernel_rfl) (by kernel_rfl) (by kernel_rfl) (pack_Reader_Num_l0_ok n r_1 b_2 w0 S0 n 0 1)
theorem pack_Reader_Num_ok (n : Nat) (r_1 : T_pack_Reader) (b_2 : Nat) :
    Meets Try.prog 59 [.pointer (some ⟨b_2, 0, none⟩)] 1 [1] [⟨1, b_2, [.string (bs r_1.s), .bool r_1.bad]⟩] [] (pack_Reader_Num.f n r_1) (pack_Reader_Num.R b_2) := by
  refine Meets.of (c := c59_0) (n := 75) Try.func59 (by kernel_rfl) (by kernel_rfl) (by kernel_rfl) fun w0 S0 => ?_
  unfold pack_Reader_Num.f
  show GoO (pack_Reader_Num.cx b_2 w0 S0) [(0, .pointer (some ⟨b_2, 0, none⟩))] [⟨1, b_2, [.string (bs r_1.s), .bool r_1.bad]⟩] [] [.code c59_0] _
  refine GoO.seq' c59_0e ?_
  refine GoO.region' (is := [0]) c59_1e (by kernel_rfl) ?_
  refine GoO.exec (is := [0]) (hs := [.p]) (rest := []) (ks := [0]) (env' := [(0, .pointer (some ⟨b_2, 0, none⟩))]) (H' := [⟨1, b_2, [.string (bs r_1.s), .bool r_1.bad]⟩]) (ps := []) (by kernel_rfl) trivial ?_
  refine GoO.regionEnd ?_
  refine GoO.seq' c59_2e ?_
  refine GoO.seq' c59_3e ?_
  refine GoO.region' (is := [0, 1, 2, 3, 4, 5, 6, 7, 8]) c59_4e (by kernel_rfl) ?_
  refine GoO.exec (is := [0, 1, 2, 3, 4, 5, 6, 7, 8]) (hs := [.p, .p, .p, .p, .p, .p, .b 0, .p, .p]) (rest := []) (ks := [0, 14]) (env' := [(0, .pointer (some ⟨b_2, 0, none⟩)), (14, .bool (r_1.s == ([] : List UInt8)))]) (H' := [⟨1, b_2, [.string (bs r_1.s), .bool r_1.bad]⟩]) (ps := [b_2 = b_2]) (by kernel_rfl) (And.intro rfl trivial) ?_
  refine GoO.regionEnd ?_
  refine GoO.ite' c59_5e (by kernel_rfl) (fun h3 => ?_) (fun h3 => ?_)
  · refine GoO.seq' c59_6e ?_
    refine GoO.region' (is := [0, 1, 2]) c59_7e (by kernel_rfl) ?_
    refine GoO.exec (is := [0]) (hs := [.p]) (rest := [1, 2]) (ks := [15]) (env' := [(15, .pointer (some ⟨b_2, 0, none⟩))]) (H' := [⟨1, b_2, [.string (bs r_1.s), .bool r_1.bad]⟩]) (ps := []) (by kernel_rfl) trivial ?_
    refine OpTo.go (GoO.call rfl (by kernel_rfl) (by kernel_rfl) (pack_Reader_fail_ok n r_1 b_2) [[0], [1]] [(1, 1)] [(1, 0)] [] (hks := []) (bks := []) (by kernel_rfl) (by kernel_rfl) (by kernel_rfl) (.inl rfl) rfl rfl (by kernel_rfl) (by kernel_rfl) _ (fun _ _ => rfl) _ _ (fun _ _ => rfl) (fun _ _ => rfl) (fun _ _ => by kernel_rfl) (fun _ _ => by kernel_rfl) (fun r_4 x_5 => ?_))
    refine GoO.shape (env' := [(15, .pointer (some ⟨b_2, 0, none⟩)), (16, .int .u64 r_4.1)]) (H' := [⟨1, b_2, [.string (bs r_4.2.s), .bool r_4.2.bad]⟩]) (B' := []) (ks := [15, 16]) (by kernel_rfl) (by kernel_rfl) (by kernel_rfl) ?_
    refine GoO.exec (is := [2]) (hs := [.p]) (rest := []) (ks := [2]) (env' := [(2, .int .u64 r_4.1)]) (H' := [⟨1, b_2, [.string (bs r_4.2.s), .bool r_4.2.bad]⟩]) (ps := []) (by kernel_rfl) trivial ?_
    refine GoO.regionEnd ?_
    exact GoO.ret' (h := c59_8e) (hs := []) (ps := []) (hk := [0]) (bk := []) Try.func59 () (by kernel_rfl) trivial (by kernel_rfl) (by kernel_rfl)
  · refine GoO.skip' c59_9e ?_
    refine GoO.seq' c59_10e ?_
    refine GoO.region' (is := [0, 1, 2, 3, 4, 5, 6]) c59_11e (by kernel_rfl) ?_
    refine GoO.guard (fun h6 => ?_)
    refine GoO.exec (is := [0, 1, 2, 3, 4, 5, 6]) (hs := [.p, .p, .p, .b 0, .p, .p, .p]) (rest := []) (ks := [0, 3]) (env' := [(0, .pointer (some ⟨b_2, 0, none⟩)), (3, .int .i64 (wi64 ((rdB r_1.s 0).toNat : Int)))]) (H' := [⟨1, b_2, [.string (bs r_1.s), .bool r_1.bad]⟩]) (ps := [b_2 = b_2, (0 : Int) ≤ 0, 0 < (r_1.s.length : Int)]) (by kernel_rfl) (And.intro rfl (And.intro h6.1 (And.intro h6.2 trivial))) ?_
    refine GoO.regionEnd ?_
    refine GoO.seq' c59_12e ?_
    refine GoO.seq' c59_13e ?_
    refine GoO.region' (is := [0, 1, 2, 3, 4, 5, 6, 7, 8, 9, 10, 11, 12, 13, 14, 15, 16, 17, 18, 19, 20, 21, 22, 23]) c59_14e (by kernel_rfl) ?_
    refine GoO.exec (is := [0, 1, 2]) (hs := [.p, .p, .p]) (rest := [3, 4, 5, 6, 7, 8, 9, 10, 11, 12, 13, 14, 15, 16, 17, 18, 19, 20, 21, 22, 23]) (ks := [0, 3, 25]) (env' := [(0, .pointer (some ⟨b_2, 0, none⟩)), (3, .int .i64 (wi64 ((rdB r_1.s 0).toNat : Int))), (25, .bool (decide ((wi64 ((rdB r_1.s 0).toNat : Int)) > 8)))]) (H' := [⟨1, b_2, [.string (bs r_1.s), .bool r_1.bad]⟩]) (ps := []) (by kernel_rfl) trivial ?_
    refine GoO.bsplit (t := 25) (by kernel_rfl) (fun h7 => ?_) (fun h7 => ?_)
    · refine GoO.exec (is := [3, 4, 5, 6, 7, 8, 9, 10, 11, 12, 13, 14, 15, 16, 17, 18, 19, 20, 21, 22, 23]) (hs := [.p, .p, .p, .p, .p, .p, .p, .p, .p, .p, .p, .p, .p, .p, .p, .p, .p, .p, .p, .p, .p]) (rest := []) (ks := [0, 3, 46]) (env' := [(0, .pointer (some ⟨b_2, 0, none⟩)), (3, .int .i64 (wi64 ((rdB r_1.s 0).toNat : Int))), (46, .bool true)]) (H' := [⟨1, b_2, [.string (bs r_1.s), .bool r_1.bad]⟩]) (ps := []) (by kernel_rfl) trivial ?_
      refine GoO.regionEnd ?_
      exact GoO.sub (ks := [0, 3, 46]) (hk := [0]) (bk := []) (by kernel_rfl) (by kernel_rfl) (by kernel_rfl) (pack_Reader_Num_j0_ok n r_1 b_2 w0 S0 true)
    · refine GoO.exec (is := [3, 4, 5, 6, 7, 8, 9, 10, 11, 12]) (hs := [.p, .p, .p, .p, .b 0, .p, .p, .p, .p, .p]) (rest := [13, 14, 15, 16, 17, 18, 19, 20, 21, 22, 23]) (ks := [0, 3, 35]) (env' := [(0, .pointer (some ⟨b_2, 0, none⟩)), (3, .int .i64 (wi64 ((rdB r_1.s 0).toNat : Int))), (35, .bool (decide ((wi64 ((rdB r_1.s 0).toNat : Int)) > (wi64 ((r_1.s.length : Int) - 1)))))]) (H' := [⟨1, b_2, [.string (bs r_1.s), .bool r_1.bad]⟩]) (ps := [b_2 = b_2]) (by kernel_rfl) (And.intro rfl trivial) ?_
      refine GoO.bsplit (t := 35) (by kernel_rfl) (fun h8 => ?_) (fun h8 => ?_)
      · refine GoO.exec (is := [13, 14, 15, 16, 17, 18, 19, 20, 21, 22, 23]) (hs := [.p, .p, .p, .p, .p, .p, .p, .p, .p, .p, .p]) (rest := []) (ks := [0, 3, 46]) (env' := [(0, .pointer (some ⟨b_2, 0, none⟩)), (3, .int .i64 (wi64 ((rdB r_1.s 0).toNat : Int))), (46, .bool true)]) (H' := [⟨1, b_2, [.string (bs r_1.s), .bool r_1.bad]⟩]) (ps := []) (by kernel_rfl) trivial ?_
        refine GoO.regionEnd ?_
        exact GoO.sub (ks := [0, 3, 46]) (hk := [0]) (bk := []) (by kernel_rfl) (by kernel_rfl) (by kernel_rfl) (pack_Reader_Num_j0_ok n r_1 b_2 w0 S0 true)
      · refine GoO.exec (is := [13, 14, 15]) (hs := [.p, .p, .p]) (rest := [16, 17, 18, 19, 20, 21, 22, 23]) (ks := [0, 3, 35, 38]) (env' := [(0, .pointer (some ⟨b_2, 0, none⟩)), (3, .int .i64 (wi64 ((rdB r_1.s 0).toNat : Int))), (35, .bool false), (38, .bool (decide ((wi64 ((rdB r_1.s 0).toNat : Int)) > 0)))]) (H' := [⟨1, b_2, [.string (bs r_1.s), .bool r_1.bad]⟩]) (ps := []) (by kernel_rfl) trivial ?_
        refine GoO.bsplit (t := 38) (by kernel_rfl) (fun h9 => ?_) (fun h9 => ?_)
        · refine GoO.guard (fun h10 => ?_)
          refine GoO.exec (is := [16, 17, 18, 19, 20, 21, 22, 23]) (hs := [.p, .p, .p, .b 0, .p, .p, .p, .p]) (rest := []) (ks := [0, 3, 46]) (env' := [(0, .pointer (some ⟨b_2, 0, none⟩)), (3, .int .i64 (wi64 ((rdB r_1.s 0).toNat : Int))), (46, .bool (((rdB r_1.s 1).toNat : Int) == 0))]) (H' := [⟨1, b_2, [.string (bs r_1.s), .bool r_1.bad]⟩]) (ps := [b_2 = b_2, (0 : Int) ≤ 1, 1 < (r_1.s.length : Int)]) (by kernel_rfl) (And.intro rfl (And.intro h10.1 (And.intro h10.2 trivial))) ?_
          refine GoO.regionEnd ?_
          exact GoO.sub (ks := [0, 3, 46]) (hk := [0]) (bk := []) (by kernel_rfl) (by kernel_rfl) (by kernel_rfl) (pack_Reader_Num_j0_ok n r_1 b_2 w0 S0 (((rdB r_1.s 1).toNat : Int) == 0))
        · refine GoO.exec (is := [16, 17, 18, 19, 20, 21, 22, 23]) (hs := [.p, .p, .p, .p, .p, .p, .p, .p]) (rest := []) (ks := [0, 3, 46]) (env' := [(0, .pointer (some ⟨b_2, 0, none⟩)), (3, .int .i64 (wi64 ((rdB r_1.s 0).toNat : Int))), (46, .bool false)]) (H' := [⟨1, b_2, [.string (bs r_1.s), .bool r_1.bad]⟩]) (ps := []) (by kernel_rfl) trivial ?_
          refine GoO.regionEnd ?_
          exact GoO.sub (ks := [0, 3, 46]) (hk := [0]) (bk := []) (by kernel_rfl) (by kernel_rfl) (by kernel_rfl) (pack_Reader_Num_j0_ok n r_1 b_2 w0 S0 false)

/-! (*tontine/pack.Reader).Up -/
noncomputable def c58_0 : Code := bodyOf Try.f58
noncomputable def c58_1 : Code := cdL c58_0
noncomputable def c58_2 : Code := cdR c58_0
noncomputable def c58_3 : Code := cdL c58_2
noncomputable def c58_4 : Code := cdR c58_2
noncomputable def c58_5 : Code := cdL c58_4
noncomputable def c58_6 : Code := cdL c58_5
noncomputable def c58_7 : Code := cdR c58_5
noncomputable def c58_8 : Code := cdL c58_7
noncomputable def c58_9 : Code := cdL c58_8
noncomputable def c58_10 : Code := cdR c58_8
noncomputable def c58_11 : Code := cdR c58_7
noncomputable def c58_12 : Code := cdR c58_4
noncomputable def c58_13 : Code := cdL c58_12
noncomputable def c58_14 : Code := cdR c58_12
noncomputable def r58_1 : Array Oper := cdO c58_1
noncomputable def r58_3 : Array Oper := cdO c58_3
noncomputable def r58_6 : Array Oper := cdO c58_6
noncomputable def r58_9 : Array Oper := cdO c58_9
noncomputable def r58_13 : Array Oper := cdO c58_13
theorem c58_0e : c58_0 = .seq c58_1 c58_2 := by kernel_rfl
theorem c58_1e : c58_1 = .region 0 r58_1 false := by kernel_rfl
theorem c58_2e : c58_2 = .seq c58_3 c58_4 := by kernel_rfl
theorem c58_3e : c58_3 = .region 1 r58_3 false := by kernel_rfl
theorem c58_4e : c58_4 = .seq c58_5 c58_12 := by kernel_rfl
theorem c58_5e : c58_5 = .seq c58_6 c58_7 := by kernel_rfl
theorem c58_6e : c58_6 = .region 2 r58_6 false := by kernel_rfl
theorem c58_7e : c58_7 = .cond (cdC c58_7) c58_8 c58_11 := by kernel_rfl
theorem c58_8e : c58_8 = .seq c58_9 c58_10 := by kernel_rfl
theorem c58_9e : c58_9 = .region 3 r58_9 false := by kernel_rfl
theorem c58_10e : c58_10 = .ret := by kernel_rfl
theorem c58_11e : c58_11 = .skip := by kernel_rfl
theorem c58_12e : c58_12 = .seq c58_13 c58_14 := by kernel_rfl
theorem c58_13e : c58_13 = .region 4 r58_13 false := by kernel_rfl
theorem c58_14e : c58_14 = .ret := by kernel_rfl
noncomputable def pack_Reader_Up.R (b_2 : Nat) : Pst (Int × T_pack_Reader) where
  ε := Unit
  v := fun r x => .int .i64 r.1
  H := fun r x => [⟨1, b_2, [.string (bs r.2.s), .bool r.2.bad]⟩]
  B := fun r x => []
noncomputable def pack_Reader_Up.cx (b_2 : Nat) (w0 : World) (S0 : Fam) : Cx (Int × T_pack_Reader) := ⟨Try.prog, 58, Try.f58, 21, w0, S0, [1], 1, pack_Reader_Up.R b_2⟩
theorem pack_Reader_Up_j0_ok (n : Nat) (r_4 : Int × T_pack_Reader) (b_2 : Nat) (w0 : World) (S0 : Fam) (b_6 : Bool) :
    GoO (pack_Reader_Up.cx b_2 w0 S0) [(0, .pointer (some ⟨b_2, 0, none⟩)), (5, .int .u64 r_4.1), (15, .bool b_6)] [⟨1, b_2, [.string (bs r_4.2.s), .bool r_4.2.bad]⟩] [] [.code c58_7, .code c58_12] (pack_Reader_Up.j0 n r_4 b_6) := by
  unfold pack_Reader_Up.j0
  refine GoO.ite' c58_7e (by kernel_rfl) (fun h7 => ?_) (fun h7 => ?_)
  · refine GoO.seq' c58_8e ?_
    refine GoO.region' (is := [0, 1, 2, 3]) c58_9e (by kernel_rfl) ?_
    refine GoO.exec (is := [0]) (hs := [.p]) (rest := [1, 2, 3]) (ks := [16]) (env' := [(16, .pointer (some ⟨b_2, 0, none⟩))]) (H' := [⟨1, b_2, [.string (bs r_4.2.s), .bool r_4.2.bad]⟩]) (ps := []) (by kernel_rfl) trivial ?_
    refine OpTo.go (GoO.call rfl (by kernel_rfl) (by kernel_rfl) (pack_Reader_fail_ok n r_4.2 b_2) [[0], [1]] [(1, 1)] [(1, 0)] [] (hks := []) (bks := []) (by kernel_rfl) (by kernel_rfl) (by kernel_rfl) (.inl rfl) rfl rfl (by kernel_rfl) (by kernel_rfl) _ (fun _ _ => rfl) _ _ (fun _ _ => rfl) (fun _ _ => rfl) (fun _ _ => by kernel_rfl) (fun _ _ => by kernel_rfl) (fun r_8 x_9 => ?_))
    refine GoO.shape (env' := [(16, .pointer (some ⟨b_2, 0, none⟩)), (17, .int .u64 r_8.1)]) (H' := [⟨1, b_2, [.string (bs r_8.2.s), .bool r_8.2.bad]⟩]) (B' := []) (ks := [16, 17]) (by kernel_rfl) (by kernel_rfl) (by kernel_rfl) ?_
    refine GoO.exec (is := [2, 3]) (hs := [.p, .p]) (rest := []) (ks := [4]) (env' := [(4, .int .i64 (wi64 r_8.1))]) (H' := [⟨1, b_2, [.string (bs r_8.2.s), .bool r_8.2.bad]⟩]) (ps := []) (by kernel_rfl) trivial ?_
    refine GoO.regionEnd ?_
    exact GoO.ret' (h := c58_10e) (hs := []) (ps := []) (hk := [0]) (bk := []) Try.func58 () (by kernel_rfl) trivial (by kernel_rfl) (by kernel_rfl)
  · refine GoO.skip' c58_11e ?_
    refine GoO.seq' c58_12e ?_
    refine GoO.region' (is := [0, 1, 2]) c58_13e (by kernel_rfl) ?_
    refine GoO.exec (is := [0, 1, 2]) (hs := [.p, .p, .p]) (rest := []) (ks := [4]) (env' := [(4, .int .i64 (wi64 r_4.1))]) (H' := [⟨1, b_2, [.string (bs r_4.2.s), .bool r_4.2.bad]⟩]) (ps := []) (by kernel_rfl) trivial ?_
    refine GoO.regionEnd ?_
    exact GoO.ret' (h := c58_14e) (hs := []) (ps := []) (hk := [0]) (bk := []) Try.func58 () (by kernel_rfl) trivial (by kernel_rfl) (by kernel_rfl)
theorem pack_Reader_Up_ok (n : Nat) (r_1 : T_pack_Reader) (limit_3 : Int) (b_2 : Nat) :
    Meets Try.prog 58 [.pointer (some ⟨b_2, 0, none⟩), .int .i64 limit_3] 1 [1] [⟨1, b_2, [.string (bs r_1.s), .bool r_1.bad]⟩] [] (pack_Reader_Up.f n r_1 limit_3) (pack_Reader_Up.R b_2) := by
  refine Meets.of (c := c58_0) (n := 21) Try.func58 (by kernel_rfl) (by kernel_rfl) (by kernel_rfl) fun w0 S0 => ?_
  unfold pack_Reader_Up.f
  show GoO (pack_Reader_Up.cx b_2 w0 S0) [(0, .pointer (some ⟨b_2, 0, none⟩)), (1, .int .i64 limit_3)] [⟨1, b_2, [.string (bs r_1.s), .bool r_1.bad]⟩] [] [.code c58_0] _
  refine GoO.seq' c58_0e ?_
  refine GoO.region' (is := [0]) c58_1e (by kernel_rfl) ?_
  refine GoO.exec (is := [0]) (hs := [.p]) (rest := []) (ks := [0, 1]) (env' := [(0, .pointer (some ⟨b_2, 0, none⟩)), (1, .int .i64 limit_3)]) (H' := [⟨1, b_2, [.string (bs r_1.s), .bool r_1.bad]⟩]) (ps := []) (by kernel_rfl) trivial ?_
  refine GoO.regionEnd ?_
  refine GoO.seq' c58_2e ?_
  refine GoO.region' (is := [0, 1, 2]) c58_3e (by kernel_rfl) ?_
  refine GoO.exec (is := [0]) (hs := [.p]) (rest := [1, 2]) (ks := [0, 1, 6]) (env' := [(0, .pointer (some ⟨b_2, 0, none⟩)), (1, .int .i64 limit_3), (6, .pointer (some ⟨b_2, 0, none⟩))]) (H' := [⟨1, b_2, [.string (bs r_1.s), .bool r_1.bad]⟩]) (ps := []) (by kernel_rfl) trivial ?_
  refine OpTo.go (GoO.call rfl (by kernel_rfl) (by kernel_rfl) (pack_Reader_Num_ok n r_1 b_2) [[0], [1]] [(1, 1)] [(1, 0)] [] (hks := []) (bks := []) (by kernel_rfl) (by kernel_rfl) (by kernel_rfl) (.inl rfl) rfl rfl (by kernel_rfl) (by kernel_rfl) _ (fun _ _ => rfl) _ _ (fun _ _ => rfl) (fun _ _ => rfl) (fun _ _ => by kernel_rfl) (fun _ _ => by kernel_rfl) (fun r_4 x_10 => ?_))
  refine GoO.shape (env' := [(0, .pointer (some ⟨b_2, 0, none⟩)), (1, .int .i64 limit_3), (6, .pointer (some ⟨b_2, 0, none⟩)), (7, .int .u64 r_4.1)]) (H' := [⟨1, b_2, [.string (bs r_4.2.s), .bool r_4.2.bad]⟩]) (B' := []) (ks := [0, 1, 6, 7]) (by kernel_rfl) (by kernel_rfl) (by kernel_rfl) ?_
  refine GoO.exec (is := [2]) (hs := [.p]) (rest := []) (ks := [0, 1, 5]) (env' := [(0, .pointer (some ⟨b_2, 0, none⟩)), (1, .int .i64 limit_3), (5, .int .u64 r_4.1)]) (H' := [⟨1, b_2, [.string (bs r_4.2.s), .bool r_4.2.bad]⟩]) (ps := []) (by kernel_rfl) trivial ?_
  refine GoO.regionEnd ?_
  refine GoO.seq' c58_4e ?_
  refine GoO.seq' c58_5e ?_
  refine GoO.region' (is := [0, 1, 2, 3, 4, 5, 6, 7]) c58_6e (by kernel_rfl) ?_
  refine GoO.exec (is := [0, 1, 2]) (hs := [.p, .p, .p]) (rest := [3, 4, 5, 6, 7]) (ks := [0, 1, 5, 10]) (env' := [(0, .pointer (some ⟨b_2, 0, none⟩)), (1, .int .i64 limit_3), (5, .int .u64 r_4.1), (10, .bool (decide (limit_3 < 0)))]) (H' := [⟨1, b_2, [.string (bs r_4.2.s), .bool r_4.2.bad]⟩]) (ps := []) (by kernel_rfl) trivial ?_
  refine GoO.bsplit (t := 10) (by kernel_rfl) (fun h5 => ?_) (fun h5 => ?_)
  · refine GoO.exec (is := [3, 4, 5, 6, 7]) (hs := [.p, .p, .p, .p, .p]) (rest := []) (ks := [0, 5, 15]) (env' := [(0, .pointer (some ⟨b_2, 0, none⟩)), (5, .int .u64 r_4.1), (15, .bool true)]) (H' := [⟨1, b_2, [.string (bs r_4.2.s), .bool r_4.2.bad]⟩]) (ps := []) (by kernel_rfl) trivial ?_
    refine GoO.regionEnd ?_
    exact GoO.sub (ks := [0, 5, 15]) (hk := [0]) (bk := []) (by kernel_rfl) (by kernel_rfl) (by kernel_rfl) (pack_Reader_Up_j0_ok n r_4 b_2 w0 S0 true)
  · refine GoO.exec (is := [3, 4, 5, 6, 7]) (hs := [.p, .p, .p, .p, .p]) (rest := []) (ks := [0, 5, 15]) (env' := [(0, .pointer (some ⟨b_2, 0, none⟩)), (5, .int .u64 r_4.1), (15, .bool (decide (r_4.1 > (wu64 limit_3))))]) (H' := [⟨1, b_2, [.string (bs r_4.2.s), .bool r_4.2.bad]⟩]) (ps := []) (by kernel_rfl) trivial ?_
    refine GoO.regionEnd ?_
    exact GoO.sub (ks := [0, 5, 15]) (hk := [0]) (bk := []) (by kernel_rfl) (by kernel_rfl) (by kernel_rfl) (pack_Reader_Up_j0_ok n r_4 b_2 w0 S0 (decide (r_4.1 > (wu64 limit_3))))

/-! (*tontine/pack.Reader).Text -/
noncomputable def c70_0 : Code := bodyOf Try.f70
noncomputable def c70_1 : Code := cdL c70_0
noncomputable def c70_2 : Code := cdR c70_0
noncomputable def c70_3 : Code := cdL c70_2
noncomputable def c70_4 : Code := cdR c70_2
noncomputable def c70_5 : Code := cdL c70_4
noncomputable def c70_6 : Code := cdL c70_5
noncomputable def c70_7 : Code := cdR c70_5
noncomputable def c70_8 : Code := cdL c70_7
noncomputable def c70_9 : Code := cdL c70_8
noncomputable def c70_10 : Code := cdR c70_8
noncomputable def c70_11 : Code := cdL c70_10
noncomputable def c70_12 : Code := cdR c70_10
noncomputable def c70_13 : Code := cdR c70_7
noncomputable def c70_14 : Code := cdR c70_4
noncomputable def c70_15 : Code := cdL c70_14
noncomputable def c70_16 : Code := cdR c70_14
noncomputable def c70_17 : Code := cdL c70_16
noncomputable def c70_18 : Code := cdR c70_16
noncomputable def c70_19 : Code := cdL c70_18
noncomputable def c70_20 : Code := cdR c70_18
noncomputable def r70_1 : Array Oper := cdO c70_1
noncomputable def r70_3 : Array Oper := cdO c70_3
noncomputable def r70_6 : Array Oper := cdO c70_6
noncomputable def r70_9 : Array Oper := cdO c70_9
noncomputable def r70_11 : Array Oper := cdO c70_11
noncomputable def r70_15 : Array Oper := cdO c70_15
noncomputable def r70_17 : Array Oper := cdO c70_17
noncomputable def r70_19 : Array Oper := cdO c70_19
theorem c70_0e : c70_0 = .seq c70_1 c70_2 := by kernel_rfl
theorem c70_1e : c70_1 = .region 0 r70_1 false := by kernel_rfl
theorem c70_2e : c70_2 = .seq c70_3 c70_4 := by kernel_rfl
theorem c70_3e : c70_3 = .region 1 r70_3 false := by kernel_rfl
theorem c70_4e : c70_4 = .seq c70_5 c70_14 := by kernel_rfl
theorem c70_5e : c70_5 = .seq c70_6 c70_7 := by kernel_rfl
theorem c70_6e : c70_6 = .region 2 r70_6 false := by kernel_rfl
theorem c70_7e : c70_7 = .cond (cdC c70_7) c70_8 c70_13 := by kernel_rfl
theorem c70_8e : c70_8 = .seq c70_9 c70_10 := by kernel_rfl
theorem c70_9e : c70_9 = .region 3 r70_9 false := by kernel_rfl
theorem c70_10e : c70_10 = .seq c70_11 c70_12 := by kernel_rfl
theorem c70_11e : c70_11 = .region 4 r70_11 false := by kernel_rfl
theorem c70_12e : c70_12 = .ret := by kernel_rfl
theorem c70_13e : c70_13 = .skip := by kernel_rfl
theorem c70_14e : c70_14 = .seq c70_15 c70_16 := by kernel_rfl
theorem c70_15e : c70_15 = .region 5 r70_15 false := by kernel_rfl
theorem c70_16e : c70_16 = .seq c70_17 c70_18 := by kernel_rfl
theorem c70_17e : c70_17 = .region 6 r70_17 false := by kernel_rfl
theorem c70_18e : c70_18 = .seq c70_19 c70_20 := by kernel_rfl
theorem c70_19e : c70_19 = .region 7 r70_19 false := by kernel_rfl
theorem c70_20e : c70_20 = .ret := by kernel_rfl
noncomputable def pack_Reader_Text.R (b_2 : Nat) : Pst ((List UInt8) × T_pack_Reader) where
  ε := Unit
  v := fun r x => .string (bs r.1)
  H := fun r x => [⟨1, b_2, [.string (bs r.2.s), .bool r.2.bad]⟩]
  B := fun r x => []
noncomputable def pack_Reader_Text.cx (b_2 : Nat) (w0 : World) (S0 : Fam) : Cx ((List UInt8) × T_pack_Reader) := ⟨Try.prog, 70, Try.f70, 39, w0, S0, [1], 1, pack_Reader_Text.R b_2⟩
theorem pack_Reader_Text_ok (n : Nat) (r_1 : T_pack_Reader) (limit_3 : Int) (b_2 : Nat) :
    Meets Try.prog 70 [.pointer (some ⟨b_2, 0, none⟩), .int .i64 limit_3] 1 [1] [⟨1, b_2, [.string (bs r_1.s), .bool r_1.bad]⟩] [] (pack_Reader_Text.f n r_1 limit_3) (pack_Reader_Text.R b_2) := by
  refine Meets.of (c := c70_0) (n := 39) Try.func70 (by kernel_rfl) (by kernel_rfl) (by kernel_rfl) fun w0 S0 => ?_
  unfold pack_Reader_Text.f
  show GoO (pack_Reader_Text.cx b_2 w0 S0) [(0, .pointer (some ⟨b_2, 0, none⟩)), (1, .int .i64 limit_3)] [⟨1, b_2, [.string (bs r_1.s), .bool r_1.bad]⟩] [] [.code c70_0] _
  refine GoO.seq' c70_0e ?_
  refine GoO.region' (is := [0]) c70_1e (by kernel_rfl) ?_
  refine GoO.exec (is := [0]) (hs := [.p]) (rest := []) (ks := [0, 1]) (env' := [(0, .pointer (some ⟨b_2, 0, none⟩)), (1, .int .i64 limit_3)]) (H' := [⟨1, b_2, [.string (bs r_1.s), .bool r_1.bad]⟩]) (ps := []) (by kernel_rfl) trivial ?_
  refine GoO.regionEnd ?_
  refine GoO.seq' c70_2e ?_
  refine GoO.region' (is := [0, 1, 2, 3]) c70_3e (by kernel_rfl) ?_
  refine GoO.exec (is := [0, 1]) (hs := [.p, .p]) (rest := [2, 3]) (ks := [0, 7, 8]) (env' := [(0, .pointer (some ⟨b_2, 0, none⟩)), (7, .pointer (some ⟨b_2, 0, none⟩)), (8, .int .i64 limit_3)]) (H' := [⟨1, b_2, [.string (bs r_1.s), .bool r_1.bad]⟩]) (ps := []) (by kernel_rfl) trivial ?_
  refine OpTo.go (GoO.call rfl (by kernel_rfl) (by kernel_rfl) (pack_Reader_Up_ok n r_1 limit_3 b_2) [[0], [1]] [(1, 1)] [(1, 0)] [] (hks := []) (bks := []) (by kernel_rfl) (by kernel_rfl) (by kernel_rfl) (.inl rfl) rfl rfl (by kernel_rfl) (by kernel_rfl) _ (fun _ _ => rfl) _ _ (fun _ _ => rfl) (fun _ _ => rfl) (fun _ _ => by kernel_rfl) (fun _ _ => by kernel_rfl) (fun r_4 x_10 => ?_))
  refine GoO.shape (env' := [(0, .pointer (some ⟨b_2, 0, none⟩)), (7, .pointer (some ⟨b_2, 0, none⟩)), (8, .int .i64 limit_3), (9, .int .i64 r_4.1)]) (H' := [⟨1, b_2, [.string (bs r_4.2.s), .bool r_4.2.bad]⟩]) (B' := []) (ks := [0, 7, 8, 9]) (by kernel_rfl) (by kernel_rfl) (by kernel_rfl) ?_
  refine GoO.exec (is := [3]) (hs := [.p]) (rest := []) (ks := [0, 5]) (env' := [(0, .pointer (some ⟨b_2, 0, none⟩)), (5, .int .i64 r_4.1)]) (H' := [⟨1, b_2, [.string (bs r_4.2.s), .bool r_4.2.bad]⟩]) (ps := []) (by kernel_rfl) trivial ?_
  refine GoO.regionEnd ?_
  refine GoO.seq' c70_4e ?_
  refine GoO.seq' c70_5e ?_
  refine GoO.region' (is := [0, 1, 2, 3, 4, 5, 6, 7, 8, 9, 10]) c70_6e (by kernel_rfl) ?_
  refine GoO.exec (is := [0, 1, 2, 3, 4, 5, 6, 7, 8, 9, 10]) (hs := [.p, .p, .p, .p, .p, .p, .p, .b 0, .p, .p, .p]) (rest := []) (ks := [0, 5, 20]) (env' := [(0, .pointer (some ⟨b_2, 0, none⟩)), (5, .int .i64 r_4.1), (20, .bool (decide (r_4.1 > (r_4.2.s.length : Int))))]) (H' := [⟨1, b_2, [.string (bs r_4.2.s), .bool r_4.2.bad]⟩]) (ps := [b_2 = b_2]) (by kernel_rfl) (And.intro rfl trivial) ?_
  refine GoO.regionEnd ?_
  refine GoO.ite' c70_7e (by kernel_rfl) (fun h5 => ?_) (fun h5 => ?_)
  · refine GoO.seq' c70_8e ?_
    refine GoO.region' (is := [0, 1]) c70_9e (by kernel_rfl) ?_
    refine GoO.exec (is := [0]) (hs := [.p]) (rest := [1]) (ks := [21]) (env' := [(21, .pointer (some ⟨b_2, 0, none⟩))]) (H' := [⟨1, b_2, [.string (bs r_4.2.s), .bool r_4.2.bad]⟩]) (ps := []) (by kernel_rfl) trivial ?_
    refine OpTo.go (GoO.call rfl (by kernel_rfl) (by kernel_rfl) (pack_Reader_fail_ok n r_4.2 b_2) [[0], [1]] [(1, 1)] [(1, 0)] [] (hks := []) (bks := []) (by kernel_rfl) (by kernel_rfl) (by kernel_rfl) (.inl rfl) rfl rfl (by kernel_rfl) (by kernel_rfl) _ (fun _ _ => rfl) _ _ (fun _ _ => rfl) (fun _ _ => rfl) (fun _ _ => by kernel_rfl) (fun _ _ => by kernel_rfl) (fun r_6 x_7 => ?_))
    refine GoO.shape (env' := [(21, .pointer (some ⟨b_2, 0, none⟩)), (22, .int .u64 r_6.1)]) (H' := [⟨1, b_2, [.string (bs r_6.2.s), .bool r_6.2.bad]⟩]) (B' := []) (ks := [21, 22]) (by kernel_rfl) (by kernel_rfl) (by kernel_rfl) ?_
    refine GoO.regionEnd ?_
    refine GoO.seq' c70_10e ?_
    refine GoO.region' (is := [0]) c70_11e (by kernel_rfl) ?_
    refine GoO.exec (is := [0]) (hs := [.p]) (rest := []) (ks := [4]) (env' := [(4, .string (bs []))]) (H' := [⟨1, b_2, [.string (bs r_6.2.s), .bool r_6.2.bad]⟩]) (ps := []) (by kernel_rfl) trivial ?_
    refine GoO.regionEnd ?_
    exact GoO.ret' (h := c70_12e) (hs := []) (ps := []) (hk := [0]) (bk := []) Try.func70 () (by kernel_rfl) trivial (by kernel_rfl) (by kernel_rfl)
  · refine GoO.skip' c70_13e ?_
    refine GoO.seq' c70_14e ?_
    refine GoO.region' (is := [0, 1, 2, 3, 4, 5, 6]) c70_15e (by kernel_rfl) ?_
    refine GoO.guard (fun h8 => ?_)
    refine GoO.exec (is := [0, 1, 2, 3, 4, 5, 6]) (hs := [.p, .p, .p, .b 0, .p, .p, .p]) (rest := []) (ks := [0, 5, 6]) (env' := [(0, .pointer (some ⟨b_2, 0, none⟩)), (5, .int .i64 r_4.1), (6, .string (bs (r_4.2.s.take r_4.1.toNat)))]) (H' := [⟨1, b_2, [.string (bs r_4.2.s), .bool r_4.2.bad]⟩]) (ps := [b_2 = b_2, (0 : Int) ≤ r_4.1, r_4.1 ≤ (r_4.2.s.length : Int)]) (by kernel_rfl) (And.intro rfl (And.intro h8.1 (And.intro h8.2 trivial))) ?_
    refine GoO.regionEnd ?_
    refine GoO.seq' c70_16e ?_
    refine GoO.region' (is := [0, 1, 2, 3, 4, 5, 6, 7, 8, 9]) c70_17e (by kernel_rfl) ?_
    refine GoO.guard (fun h9 => ?_)
    refine GoO.exec (is := [0, 1, 2, 3, 4, 5, 6, 7, 8, 9]) (hs := [.p, .p, .p, .p, .b 0, .p, .p, .p, .p, .b 0]) (rest := []) (ks := [6]) (env' := [(6, .string (bs (r_4.2.s.take r_4.1.toNat)))]) (H' := [⟨1, b_2, [.string (bs (r_4.2.s.drop r_4.1.toNat)), .bool r_4.2.bad]⟩]) (ps := [b_2 = b_2, (0 : Int) ≤ r_4.1, r_4.1 ≤ (r_4.2.s.length : Int), b_2 = b_2]) (by kernel_rfl) (And.intro rfl (And.intro h9.1 (And.intro h9.2 (And.intro rfl trivial)))) ?_
    refine GoO.regionEnd ?_
    refine GoO.seq' c70_18e ?_
    refine GoO.region' (is := [0, 1]) c70_19e (by kernel_rfl) ?_
    refine GoO.exec (is := [0, 1]) (hs := [.p, .p]) (rest := []) (ks := [4]) (env' := [(4, .string (bs (r_4.2.s.take r_4.1.toNat)))]) (H' := [⟨1, b_2, [.string (bs (r_4.2.s.drop r_4.1.toNat)), .bool r_4.2.bad]⟩]) (ps := []) (by kernel_rfl) trivial ?_
    refine GoO.regionEnd ?_
    exact GoO.ret' (h := c70_20e) (hs := []) (ps := []) (hk := [0]) (bk := []) Try.func70 () (by kernel_rfl) trivial (by kernel_rfl) (by kernel_rfl)

/-! (*tontine/pack.Reader).Left -/
noncomputable def c45_0 : Code := bodyOf Try.f45
noncomputable def c45_1 : Code := cdL c45_0
noncomputable def c45_2 : Code := cdR c45_0
noncomputable def c45_3 : Code := cdL c45_2
noncomputable def c45_4 : Code := cdL c45_3
noncomputable def c45_5 : Code := cdR c45_3
noncomputable def c45_9 : Code := cdR c45_5
noncomputable def c45_10 : Code := cdR c45_2
noncomputable def c45_11 : Code := cdL c45_10
noncomputable def c45_12 : Code := cdR c45_10
noncomputable def c45_6 : Code := cdL c45_5
noncomputable def r45_1 : Array Oper := cdO c45_1
noncomputable def r45_4 : Array Oper := cdO c45_4
noncomputable def r45_11 : Array Oper := cdO c45_11
theorem c45_0e : c45_0 = .seq c45_1 c45_2 := by kernel_rfl
theorem c45_1e : c45_1 = .region 0 r45_1 false := by kernel_rfl
theorem c45_2e : c45_2 = .seq c45_3 c45_10 := by kernel_rfl
theorem c45_3e : c45_3 = .seq c45_4 c45_5 := by kernel_rfl
theorem c45_4e : c45_4 = .region 1 r45_4 false := by kernel_rfl
theorem c45_5e : c45_5 = .cond (cdC c45_5) c45_6 c45_9 := by kernel_rfl
theorem c45_9e : c45_9 = .skip := by kernel_rfl
theorem c45_10e : c45_10 = .seq c45_11 c45_12 := by kernel_rfl
theorem c45_11e : c45_11 = .region 3 r45_11 true := by kernel_rfl
theorem c45_12e : c45_12 = .ret := by kernel_rfl
noncomputable def pack_Reader_Left.R (b_2 : Nat) : Pst (Int × Bool) where
  ε := Unit
  v := fun r x => .tuple ⟨[.int .i64 r.1, .bool r.2]⟩
  H := fun r x => []
  B := fun r x => []
noncomputable def pack_Reader_Left.cx (b_2 : Nat) (w0 : World) (S0 : Fam) : Cx (Int × Bool) := ⟨Try.prog, 45, Try.f45, 16, w0, S0, [], 1, pack_Reader_Left.R b_2⟩
theorem pack_Reader_Left_ok (n : Nat) (r_1 : T_pack_Reader) (b_2 : Nat) :
    Meets Try.prog 45 [.pointer (some ⟨b_2, 0, none⟩)] 1 [] [⟨1, b_2, [.string (bs r_1.s), .bool r_1.bad]⟩] [] (pack_Reader_Left.f n r_1) (pack_Reader_Left.R b_2) := by
  refine Meets.of (c := c45_0) (n := 16) Try.func45 (by kernel_rfl) (by kernel_rfl) (by kernel_rfl) fun w0 S0 => ?_
  unfold pack_Reader_Left.f
  show GoO (pack_Reader_Left.cx b_2 w0 S0) [(0, .pointer (some ⟨b_2, 0, none⟩))] [⟨1, b_2, [.string (bs r_1.s), .bool r_1.bad]⟩] [] [.code c45_0] _
  refine GoO.seq' c45_0e ?_
  refine GoO.region' (is := [0, 1]) c45_1e (by kernel_rfl) ?_
  refine GoO.exec (is := [0, 1]) (hs := [.p, .p]) (rest := []) (ks := [0]) (env' := [(0, .pointer (some ⟨b_2, 0, none⟩))]) (H' := [⟨1, b_2, [.string (bs r_1.s), .bool r_1.bad]⟩]) (ps := []) (by kernel_rfl) trivial ?_
  refine GoO.regionEnd ?_
  refine GoO.seq' c45_2e ?_
  refine GoO.seq' c45_3e ?_
  refine GoO.region' (is := [0, 1]) c45_4e (by kernel_rfl) ?_
  refine GoO.exec (is := [0, 1]) (hs := [.p, .p]) (rest := []) (ks := [0, 5]) (env' := [(0, .pointer (some ⟨b_2, 0, none⟩)), (5, .bool false)]) (H' := [⟨1, b_2, [.string (bs r_1.s), .bool r_1.bad]⟩]) (ps := []) (by kernel_rfl) trivial ?_
  refine GoO.regionEnd ?_
  refine GoO.condF c45_5e (by kernel_rfl) ?_
  refine GoO.skip' c45_9e ?_
  refine GoO.seq' c45_10e ?_
  refine GoO.draw c45_11e (by kernel_rfl) [11] [⟨1, b_2, [.string (bs r_1.s), .bool r_1.bad]⟩] [] (n := 12) (by kernel_rfl) ?_
  simp only [List.replicate]
  refine GoF.take [0, 1, 2, 3, 4, 5, 6, 7, 8, 9, 10] [.p, .p, .p, .b 0, .p, .p, .p, .p, .b 0, .p, .p] (ks := [2, 15]) (fu := 1) (li := [true, true, true, true, true, true, true, true, true, true, true, false]) (env' := [(2, .int .i64 (r_1.s.length : Int)), (15, .bool (!r_1.bad))]) (ps := [b_2 = b_2, b_2 = b_2]) (hk := [0]) (bk := []) (by kernel_rfl) (And.intro rfl (And.intro rfl trivial)) rfl rfl ?_
  refine GoF.fin1 (i := 11) (hint := .p) (ps := []) (hk := []) (bk := []) (by kernel_rfl) rfl trivial (.inl rfl) ?_
  refine GoF.done (by kernel_rfl) ?_
  exact GoO.ret' (h := c45_12e) (hs := []) (ps := []) (hk := []) (bk := []) Try.func45 () (by kernel_rfl) trivial (by kernel_rfl) (by kernel_rfl)

/-! tontine/plan.Read -/
noncomputable def c62_0 : Code := bodyOf Try.f62
noncomputable def c62_1 : Code := cdL c62_0
noncomputable def c62_2 : Code := cdR c62_0
noncomputable def c62_3 : Code := cdL c62_2
noncomputable def c62_4 : Code := cdR c62_2
noncomputable def c62_5 : Code := cdL c62_4
noncomputable def c62_6 : Code := cdL c62_5
noncomputable def c62_7 : Code := cdR c62_5
noncomputable def c62_8 : Code := cdL c62_7
noncomputable def c62_9 : Code := cdL c62_8
noncomputable def c62_10 : Code := cdL c62_9
noncomputable def c62_11 : Code := cdL c62_10
noncomputable def c62_12 : Code := cdR c62_10
noncomputable def c62_13 : Code := cdL c62_12
noncomputable def c62_14 : Code := cdR c62_12
noncomputable def c62_15 : Code := cdR c62_9
noncomputable def c62_16 : Code := cdL c62_15
noncomputable def c62_17 : Code := cdL c62_16
noncomputable def c62_18 : Code := cdL c62_17
noncomputable def c62_19 : Code := cdR c62_17
noncomputable def c62_20 : Code := cdL c62_19
noncomputable def c62_21 : Code := cdR c62_19
noncomputable def c62_22 : Code := cdL c62_21
noncomputable def c62_23 : Code := cdR c62_21
noncomputable def c62_24 : Code := cdR c62_15
noncomputable def c62_25 : Code := cdR c62_4
noncomputable def c62_26 : Code := cdL c62_25
noncomputable def c62_27 : Code := cdL c62_26
noncomputable def c62_28 : Code := cdR c62_26
noncomputable def c62_29 : Code := cdL c62_28
noncomputable def c62_30 : Code := cdR c62_28
noncomputable def c62_31 : Code := cdL c62_30
noncomputable def c62_32 : Code := cdL c62_31
noncomputable def c62_33 : Code := cdR c62_31
noncomputable def c62_34 : Code := cdR c62_30
noncomputable def c62_35 : Code := cdR c62_25
noncomputable def c62_36 : Code := cdL c62_35
noncomputable def c62_37 : Code := cdR c62_35
noncomputable def r62_1 : Array Oper := cdO c62_1
noncomputable def r62_3 : Array Oper := cdO c62_3
noncomputable def r62_6 : Array Oper := cdO c62_6
noncomputable def r62_11 : Array Oper := cdO c62_11
noncomputable def r62_18 : Array Oper := cdO c62_18
noncomputable def r62_20 : Array Oper := cdO c62_20
noncomputable def r62_22 : Array Oper := cdO c62_22
noncomputable def r62_23 : Array Oper := cdO c62_23
noncomputable def r62_24 : Array Oper := cdO c62_24
noncomputable def r62_27 : Array Oper := cdO c62_27
noncomputable def r62_29 : Array Oper := cdO c62_29
noncomputable def r62_32 : Array Oper := cdO c62_32
noncomputable def r62_36 : Array Oper := cdO c62_36
theorem c62_0e : c62_0 = .seq c62_1 c62_2 := by kernel_rfl
theorem c62_1e : c62_1 = .region 0 r62_1 false := by kernel_rfl
theorem c62_2e : c62_2 = .seq c62_3 c62_4 := by kernel_rfl
theorem c62_3e : c62_3 = .region 1 r62_3 false := by kernel_rfl
theorem c62_4e : c62_4 = .seq c62_5 c62_25 := by kernel_rfl
theorem c62_5e : c62_5 = .seq c62_6 c62_7 := by kernel_rfl
theorem c62_6e : c62_6 = .region 2 r62_6 false := by kernel_rfl
theorem c62_7e : c62_7 = .block 0 c62_8 := by kernel_rfl
theorem c62_8e : c62_8 = .loop c62_9 := by kernel_rfl
theorem c62_9e : c62_9 = .seq c62_10 c62_15 := by kernel_rfl
theorem c62_10e : c62_10 = .seq c62_11 c62_12 := by kernel_rfl
theorem c62_11e : c62_11 = .region 3 r62_11 false := by kernel_rfl
theorem c62_12e : c62_12 = .cond (cdC c62_12) c62_13 c62_14 := by kernel_rfl
theorem c62_13e : c62_13 = .skip := by kernel_rfl
theorem c62_14e : c62_14 = .exit 0 := by kernel_rfl
theorem c62_15e : c62_15 = .seq c62_16 c62_24 := by kernel_rfl
theorem c62_16e : c62_16 = .block 1 c62_17 := by kernel_rfl
theorem c62_17e : c62_17 = .seq c62_18 c62_19 := by kernel_rfl
theorem c62_18e : c62_18 = .region 5 r62_18 false := by kernel_rfl
theorem c62_19e : c62_19 = .seq c62_20 c62_21 := by kernel_rfl
theorem c62_20e : c62_20 = .region 6 r62_20 false := by kernel_rfl
theorem c62_21e : c62_21 = .seq c62_22 c62_23 := by kernel_rfl
theorem c62_22e : c62_22 = .region 7 r62_22 false := by kernel_rfl
theorem c62_23e : c62_23 = .region 8 r62_23 false := by kernel_rfl
theorem c62_24e : c62_24 = .region 4 r62_24 false := by kernel_rfl
theorem c62_25e : c62_25 = .seq c62_26 c62_35 := by kernel_rfl
theorem c62_26e : c62_26 = .seq c62_27 c62_28 := by kernel_rfl
theorem c62_27e : c62_27 = .region 9 r62_27 false := by kernel_rfl
theorem c62_28e : c62_28 = .seq c62_29 c62_30 := by kernel_rfl
theorem c62_29e : c62_29 = .region 10 r62_29 false := by kernel_rfl
theorem c62_30e : c62_30 = .cond (cdC c62_30) c62_31 c62_34 := by kernel_rfl
theorem c62_31e : c62_31 = .seq c62_32 c62_33 := by kernel_rfl
theorem c62_32e : c62_32 = .region 11 r62_32 false := by kernel_rfl
theorem c62_33e : c62_33 = .ret := by kernel_rfl
theorem c62_34e : c62_34 = .skip := by kernel_rfl
theorem c62_35e : c62_35 = .seq c62_36 c62_37 := by kernel_rfl
theorem c62_36e : c62_36 = .region 12 r62_36 false := by kernel_rfl
theorem c62_37e : c62_37 = .ret := by kernel_rfl
noncomputable def plan_Read.R (b_2 : Nat) : Pst ((List T_api_Step) × T_pack_Reader) where
  ε := Option Addr × Nat
  v := fun r x => .slice x.1 r.1.length x.2
  H := fun r x => [⟨1, b_2, [.string (bs r.2.s), .bool r.2.bad]⟩]
  B := fun r x => [Ow 2 kT_api_Step x.1 x.2 r.1]
noncomputable def plan_Read.cx (b_2 : Nat) (w0 : World) (S0 : Fam) : Cx ((List T_api_Step) × T_pack_Reader) := ⟨Try.prog, 62, Try.f62, 35, w0, S0, [1], 1, plan_Read.R b_2⟩
theorem plan_Read_l0_ok (n : Nat) (b_2 : Nat) (w0 : World) (S0 : Fam) :
    ∀ (k : Nat) (f_4 : (List UInt8)) (f_5 : Bool) (l_6 : (List T_api_Step)) (n_9 : Int) (A_7 : Option Addr) (c_8 : Nat), GoO (plan_Read.cx b_2 w0 S0) [(0, .pointer (some ⟨b_2, 0, none⟩)), (3, .slice A_7 l_6.length c_8), (4, .int .i64 n_9)] [⟨1, b_2, [.string (bs f_4), .bool f_5]⟩] [Ow 42 kT_api_Step A_7 c_8 l_6] [.code c62_9, .inLoop c62_9, .inBlock 0, .code c62_25] (plan_Read.l0 n k f_4 f_5 l_6 n_9) := by
  intro k
  induction k with
  | zero => intros; rw [plan_Read.l0.eq_1]; exact GoO.stop
  | succ k ih0 =>
    intro f_4 f_5 l_6 n_9 A_7 c_8
    rw [plan_Read.l0.eq_2]
    refine GoO.seq' c62_9e ?_
    refine GoO.seq' c62_10e ?_
    refine GoO.region' (is := [0, 1]) c62_11e (by kernel_rfl) ?_
    refine GoO.exec (is := [0, 1]) (hs := [.p, .p]) (rest := []) (ks := [0, 3, 4, 11]) (env' := [(0, .pointer (some ⟨b_2, 0, none⟩)), (3, .slice A_7 l_6.length c_8), (4, .int .i64 n_9), (11, .bool (decide (n_9 > 0)))]) (H' := [⟨1, b_2, [.string (bs f_4), .bool f_5]⟩]) (ps := []) (by kernel_rfl) trivial ?_
    refine GoO.regionEnd ?_
    refine GoO.ite' c62_12e (by kernel_rfl) (fun h10 => ?_) (fun h10 => ?_)
    · refine GoO.skip' c62_13e ?_
      refine GoO.seq' c62_15e ?_
      refine GoO.block' c62_16e ?_
      refine GoO.seq' c62_17e ?_
      refine GoO.region' (is := [0, 1, 2, 3, 4]) c62_18e (by kernel_rfl) ?_
      refine GoO.exec (is := [0]) (hs := [.p]) (rest := [1, 2, 3, 4]) (ks := [0, 3, 4, 14]) (env' := [(0, .pointer (some ⟨b_2, 0, none⟩)), (3, .slice A_7 l_6.length c_8), (4, .int .i64 n_9), (14, .pointer (some ⟨b_2, 0, none⟩))]) (H' := [⟨1, b_2, [.string (bs f_4), .bool f_5]⟩]) (ps := []) (by kernel_rfl) trivial ?_
      refine OpTo.go (GoO.call rfl (by kernel_rfl) (by kernel_rfl) (pack_Reader_Up_ok n (⟨f_4, f_5⟩ : T_pack_Reader) 3 b_2) [[0], [1]] [(1, 1)] [(1, 0)] [] (hks := []) (bks := [0]) (by kernel_rfl) (by kernel_rfl) (by kernel_rfl) (.inl rfl) rfl rfl (by kernel_rfl) (by kernel_rfl) _ (fun _ _ => rfl) _ _ (fun _ _ => rfl) (fun _ _ => rfl) (fun _ _ => by kernel_rfl) (fun _ _ => by kernel_rfl) (fun r_11 x_22 => ?_))
      refine GoO.shape (env' := [(0, .pointer (some ⟨b_2, 0, none⟩)), (3, .slice A_7 l_6.length c_8), (4, .int .i64 n_9), (14, .pointer (some ⟨b_2, 0, none⟩)), (15, .int .i64 r_11.1)]) (H' := [⟨1, b_2, [.string (bs r_11.2.s), .bool r_11.2.bad]⟩]) (B' := [Ow 42 kT_api_Step A_7 c_8 l_6]) (ks := [0, 3, 4, 14, 15]) (by kernel_rfl) (by kernel_rfl) (by kernel_rfl) ?_
      refine GoO.exec (is := [2]) (hs := [.p]) (rest := [3, 4]) (ks := [0, 3, 4, 16]) (env' := [(0, .pointer (some ⟨b_2, 0, none⟩)), (3, .slice A_7 l_6.length c_8), (4, .int .i64 n_9), (16, .agg ⟨[.int .i64 r_11.1, .string (bs []), .int .i64 0]⟩)]) (H' := [⟨1, b_2, [.string (bs r_11.2.s), .bool r_11.2.bad]⟩]) (ps := []) (by kernel_rfl) trivial ?_
      refine OpTo.go (GoO.new rfl 40 (cs := [.int .i64 0, .string (bs []), .int .i64 0]) (by kernel_rfl) _ (fun _ => rfl) (fun b_12 => ?_))
      refine GoO.exec (is := [4]) (hs := [.b 0]) (rest := []) (ks := [0, 3, 4, 5]) (env' := [(0, .pointer (some ⟨b_2, 0, none⟩)), (3, .slice A_7 l_6.length c_8), (4, .int .i64 n_9), (5, .pointer (some ⟨b_12, 0, none⟩))]) (H' := [⟨40, b_12, [.int .i64 r_11.1, .string (bs []), .int .i64 0]⟩, ⟨1, b_2, [.string (bs r_11.2.s), .bool r_11.2.bad]⟩]) (ps := [b_12 = b_12]) (by kernel_rfl) (And.intro rfl trivial) ?_
      refine GoO.regionEnd ?_
      refine GoO.seq' c62_19e ?_
      refine GoO.region' (is := [0, 1, 2, 3]) c62_20e (by kernel_rfl) ?_
      refine GoO.exec (is := [0]) (hs := [.p]) (rest := [1, 2, 3]) (ks := [0, 3, 4, 5, 17]) (env' := [(0, .pointer (some ⟨b_2, 0, none⟩)), (3, .slice A_7 l_6.length c_8), (4, .int .i64 n_9), (5, .pointer (some ⟨b_12, 0, none⟩)), (17, .pointer (some ⟨b_2, 0, none⟩))]) (H' := [⟨40, b_12, [.int .i64 r_11.1, .string (bs []), .int .i64 0]⟩, ⟨1, b_2, [.string (bs r_11.2.s), .bool r_11.2.bad]⟩]) (ps := []) (by kernel_rfl) trivial ?_
      refine OpTo.go (GoO.call rfl (by kernel_rfl) (by kernel_rfl) (pack_Reader_Text_ok n r_11.2 16 b_2) [[0], [1]] [(1, 1)] [(1, 1)] [] (hks := [0]) (bks := [0]) (by kernel_rfl) (by kernel_rfl) (by kernel_rfl) (.inl rfl) rfl rfl (by kernel_rfl) (by kernel_rfl) _ (fun _ _ => rfl) _ _ (fun _ _ => rfl) (fun _ _ => rfl) (fun _ _ => by kernel_rfl) (fun _ _ => by kernel_rfl) (fun r_13 x_21 => ?_))
      refine GoO.shape (env' := [(0, .pointer (some ⟨b_2, 0, none⟩)), (3, .slice A_7 l_6.length c_8), (4, .int .i64 n_9), (5, .pointer (some ⟨b_12, 0, none⟩)), (17, .pointer (some ⟨b_2, 0, none⟩)), (18, .string (bs r_13.1))]) (H' := [⟨1, b_2, [.string (bs r_13.2.s), .bool r_13.2.bad]⟩, ⟨40, b_12, [.int .i64 r_11.1, .string (bs []), .int .i64 0]⟩]) (B' := [Ow 42 kT_api_Step A_7 c_8 l_6]) (ks := [0, 3, 4, 5, 17, 18]) (by kernel_rfl) (by kernel_rfl) (by kernel_rfl) ?_
      refine GoO.exec (is := [2, 3]) (hs := [.p, .b 1]) (rest := []) (ks := [0, 3, 4, 5]) (env' := [(0, .pointer (some ⟨b_2, 0, none⟩)), (3, .slice A_7 l_6.length c_8), (4, .int .i64 n_9), (5, .pointer (some ⟨b_12, 0, none⟩))]) (H' := [⟨1, b_2, [.string (bs r_13.2.s), .bool r_13.2.bad]⟩, ⟨40, b_12, [.int .i64 r_11.1, .string (bs r_13.1), .int .i64 0]⟩]) (ps := [b_12 = b_12]) (by kernel_rfl) (And.intro rfl trivial) ?_
      refine GoO.regionEnd ?_
      refine GoO.seq' c62_21e ?_
      refine GoO.region' (is := [0, 1, 2, 3]) c62_22e (by kernel_rfl) ?_
      refine GoO.exec (is := [0]) (hs := [.p]) (rest := [1, 2, 3]) (ks := [0, 3, 4, 5, 20]) (env' := [(0, .pointer (some ⟨b_2, 0, none⟩)), (3, .slice A_7 l_6.length c_8), (4, .int .i64 n_9), (5, .pointer (some ⟨b_12, 0, none⟩)), (20, .pointer (some ⟨b_2, 0, none⟩))]) (H' := [⟨1, b_2, [.string (bs r_13.2.s), .bool r_13.2.bad]⟩, ⟨40, b_12, [.int .i64 r_11.1, .string (bs r_13.1), .int .i64 0]⟩]) (ps := []) (by kernel_rfl) trivial ?_
      refine OpTo.go (GoO.call rfl (by kernel_rfl) (by kernel_rfl) (pack_Reader_Up_ok n r_13.2 9 b_2) [[0], [1]] [(1, 1)] [(1, 0)] [] (hks := [1]) (bks := [0]) (by kernel_rfl) (by kernel_rfl) (by kernel_rfl) (.inl rfl) rfl rfl (by kernel_rfl) (by kernel_rfl) _ (fun _ _ => rfl) _ _ (fun _ _ => rfl) (fun _ _ => rfl) (fun _ _ => by kernel_rfl) (fun _ _ => by kernel_rfl) (fun r_14 x_20 => ?_))
      refine GoO.shape (env' := [(0, .pointer (some ⟨b_2, 0, none⟩)), (3, .slice A_7 l_6.length c_8), (4, .int .i64 n_9), (5, .pointer (some ⟨b_12, 0, none⟩)), (20, .pointer (some ⟨b_2, 0, none⟩)), (21, .int .i64 r_14.1)]) (H' := [⟨1, b_2, [.string (bs r_14.2.s), .bool r_14.2.bad]⟩, ⟨40, b_12, [.int .i64 r_11.1, .string (bs r_13.1), .int .i64 0]⟩]) (B' := [Ow 42 kT_api_Step A_7 c_8 l_6]) (ks := [0, 3, 4, 5, 20, 21]) (by kernel_rfl) (by kernel_rfl) (by kernel_rfl) ?_
      refine GoO.exec (is := [2, 3]) (hs := [.p, .b 1]) (rest := []) (ks := [0, 3, 4, 5]) (env' := [(0, .pointer (some ⟨b_2, 0, none⟩)), (3, .slice A_7 l_6.length c_8), (4, .int .i64 n_9), (5, .pointer (some ⟨b_12, 0, none⟩))]) (H' := [⟨1, b_2, [.string (bs r_14.2.s), .bool r_14.2.bad]⟩, ⟨40, b_12, [.int .i64 r_11.1, .string (bs r_13.1), .int .i64 r_14.1]⟩]) (ps := [b_12 = b_12]) (by kernel_rfl) (And.intro rfl trivial) ?_
      refine GoO.regionEnd ?_
      refine GoO.region' (is := [0, 1, 2, 3, 4]) c62_23e (by kernel_rfl) ?_
      refine GoO.exec (is := [0, 1]) (hs := [.p, .b 1]) (rest := [2, 3, 4]) (ks := [0, 4, 23, 24]) (env' := [(0, .pointer (some ⟨b_2, 0, none⟩)), (4, .int .i64 n_9), (23, .slice A_7 l_6.length c_8), (24, .agg ⟨[.int .i64 r_11.1, .string (bs r_13.1), .int .i64 r_14.1]⟩)]) (H' := [⟨1, b_2, [.string (bs r_14.2.s), .bool r_14.2.bad]⟩, ⟨40, b_12, [.int .i64 r_11.1, .string (bs r_13.1), .int .i64 r_14.1]⟩]) (ps := [b_12 = b_12]) (by kernel_rfl) (And.intro rfl trivial) ?_
      refine OpTo.go (GoO.lit (e := 50) (K := kT_api_Step) rfl (by kernel_rfl) (by kernel_rfl) (cs := [.int .i64 r_11.1, .string (bs r_13.1), .int .i64 r_14.1]) (by kernel_rfl) [(⟨r_11.1, r_13.1, r_14.1⟩ : T_api_Step)] (by kernel_rfl) (by kernel_rfl) (fun w S hB => ⟨[.int .i64 r_11.1, .string (bs r_13.1), .int .i64 r_14.1], _, rfl, rfl, rfl⟩) 41 _ (fun _ _ => rfl) (fun A_15 c_16 => ?_))
      refine GoO.guard (fun h17 => ?_)
      refine OpTo.go (GoO.appW (e := 50) (K := kT_api_Step) (A := A_7) (c := c_8) (tg := 42) (bytes := 32) (zs := [.int .i64 0, .string (bs []), .int .i64 0]) (xs := l_6) (ys := [(⟨r_11.1, r_13.1, r_14.1⟩ : T_api_Step)]) (xv := .slice A_15 [(⟨r_11.1, r_13.1, r_14.1⟩ : T_api_Step)].length c_16) (j := 1) (bk := [0]) rfl (by kernel_rfl) (by kernel_rfl) (by kernel_rfl) (by kernel_rfl) rfl (by kernel_rfl) rfl (fun w S hB => SrcIs.row (Reads.own w S (hB _ (List.mem_of_getElem? (i := 0) rfl)))) h17 rfl rfl rfl rfl _ (fun _ _ => rfl) (fun A_18 c_19 => ?_))
      refine GoO.exec (is := [4]) (hs := [.p]) (rest := []) (ks := [0, 3, 4]) (env' := [(0, .pointer (some ⟨b_2, 0, none⟩)), (3, .slice A_18 (l_6 ++ [(⟨r_11.1, r_13.1, r_14.1⟩ : T_api_Step)]).length c_19), (4, .int .i64 n_9)]) (H' := [⟨1, b_2, [.string (bs r_14.2.s), .bool r_14.2.bad]⟩, ⟨40, b_12, [.int .i64 r_11.1, .string (bs r_13.1), .int .i64 r_14.1]⟩]) (ps := []) (by kernel_rfl) trivial ?_
      refine GoO.regionEnd ?_
      refine GoO.inBlock ?_
      refine GoO.region' (is := [0, 1, 2]) c62_24e (by kernel_rfl) ?_
      refine GoO.exec (is := [0, 1, 2]) (hs := [.p, .p, .p]) (rest := []) (ks := [0, 3, 4]) (env' := [(0, .pointer (some ⟨b_2, 0, none⟩)), (3, .slice A_18 (l_6 ++ [(⟨r_11.1, r_13.1, r_14.1⟩ : T_api_Step)]).length c_19), (4, .int .i64 (wi64 (n_9 - 1)))]) (H' := [⟨1, b_2, [.string (bs r_14.2.s), .bool r_14.2.bad]⟩, ⟨40, b_12, [.int .i64 r_11.1, .string (bs r_13.1), .int .i64 r_14.1]⟩]) (ps := []) (by kernel_rfl) trivial ?_
      refine GoO.regionEnd ?_
      refine GoO.inLoop ?_
      exact GoO.sub (ks := [0, 3, 4]) (hk := [0]) (bk := [0]) (by kernel_rfl) (by kernel_rfl) (by kernel_rfl) (ih0 r_14.2.s r_14.2.bad (l_6 ++ [(⟨r_11.1, r_13.1, r_14.1⟩ : T_api_Step)]) (wi64 (n_9 - 1)) A_18 c_19)
    · refine GoO.exit' c62_14e rfl ?_
      refine GoO.seq' c62_25e ?_
      refine GoO.seq' c62_26e ?_
      refine GoO.region' (is := [0, 1, 2, 3, 4, 5, 6]) c62_27e (by kernel_rfl) ?_
      refine GoO.exec (is := [0]) (hs := [.p]) (rest := [1, 2, 3, 4, 5, 6]) (ks := [3, 28]) (env' := [(3, .slice A_7 l_6.length c_8), (28, .pointer (some ⟨b_2, 0, none⟩))]) (H' := [⟨1, b_2, [.string (bs f_4), .bool f_5]⟩]) (ps := []) (by kernel_rfl) trivial ?_
      refine OpTo.go (GoO.call rfl (by kernel_rfl) (by kernel_rfl) (pack_Reader_Left_ok n (⟨f_4, f_5⟩ : T_pack_Reader) b_2) [[0], [1]] [] [(1, 0)] [] (hks := [0]) (bks := [0]) (by kernel_rfl) (by kernel_rfl) (by kernel_rfl) (.inl rfl) rfl rfl (by kernel_rfl) (by kernel_rfl) _ (fun _ _ => rfl) _ _ (fun _ _ => rfl) (fun _ _ => rfl) (fun _ _ => by kernel_rfl) (fun _ _ => by kernel_rfl) (fun r_23 x_25 => ?_))
      refine GoO.shape (env' := [(3, .slice A_7 l_6.length c_8), (28, .pointer (some ⟨b_2, 0, none⟩)), (29, .tuple ⟨[.int .i64 r_23.1, .bool r_23.2]⟩)]) (H' := [⟨1, b_2, [.string (bs f_4), .bool f_5]⟩]) (B' := [Ow 42 kT_api_Step A_7 c_8 l_6]) (ks := [3, 28, 29]) (by kernel_rfl) (by kernel_rfl) (by kernel_rfl) ?_
      refine GoO.exec (is := [2, 3, 4, 5, 6]) (hs := [.p, .p, .p, .p, .p]) (rest := []) (ks := [3, 7]) (env' := [(3, .slice A_7 l_6.length c_8), (7, .bool r_23.2)]) (H' := [⟨1, b_2, [.string (bs f_4), .bool f_5]⟩]) (ps := []) (by kernel_rfl) trivial ?_
      refine GoO.regionEnd ?_
      refine GoO.seq' c62_28e ?_
      refine GoO.region' (is := [0, 1]) c62_29e (by kernel_rfl) ?_
      refine GoO.exec (is := [0, 1]) (hs := [.p, .p]) (rest := []) (ks := [3, 33]) (env' := [(3, .slice A_7 l_6.length c_8), (33, .bool (!r_23.2))]) (H' := [⟨1, b_2, [.string (bs f_4), .bool f_5]⟩]) (ps := []) (by kernel_rfl) trivial ?_
      refine GoO.regionEnd ?_
      refine GoO.ite' c62_30e (by kernel_rfl) (fun h24 => ?_) (fun h24 => ?_)
      · refine GoO.seq' c62_31e ?_
        refine GoO.region' (is := [0]) c62_32e (by kernel_rfl) ?_
        refine GoO.exec (is := [0]) (hs := [.p]) (rest := []) (ks := [2]) (env' := [(2, .slice none ([] : List T_api_Step).length 0)]) (H' := [⟨1, b_2, [.string (bs f_4), .bool f_5]⟩]) (ps := []) (by kernel_rfl) trivial ?_
        refine GoO.regionEnd ?_
        refine GoO.nilOwn kT_api_Step 2 ?_
        exact GoO.ret' (h := c62_33e) (hs := []) (ps := []) (hk := [0]) (bk := [0]) Try.func62 (⟨none, 0⟩ : Option Addr × Nat) (by kernel_rfl) trivial (by kernel_rfl) (by kernel_rfl)
      · refine GoO.skip' c62_34e ?_
        refine GoO.seq' c62_35e ?_
        refine GoO.region' (is := [0, 1]) c62_36e (by kernel_rfl) ?_
        refine GoO.exec (is := [0, 1]) (hs := [.p, .p]) (rest := []) (ks := [2]) (env' := [(2, .slice A_7 l_6.length c_8)]) (H' := [⟨1, b_2, [.string (bs f_4), .bool f_5]⟩]) (ps := []) (by kernel_rfl) trivial ?_
        refine GoO.regionEnd ?_
        refine GoO.retag (t := 42) (u := 2) (j := 0) (hk := [0]) (bk := []) rfl rfl rfl rfl rfl rfl (by kernel_rfl) (by kernel_rfl) ?_
        exact GoO.ret' (h := c62_37e) (hs := []) (ps := []) (hk := [0]) (bk := [0]) Try.func62 (⟨A_7, c_8⟩ : Option Addr × Nat) (by kernel_rfl) trivial (by kernel_rfl) (by kernel_rfl)
theorem plan_Read_ok (n : Nat) (r_1 : T_pack_Reader) (b_2 : Nat) :
    Meets Try.prog 62 [.pointer (some ⟨b_2, 0, none⟩)] 1 [1] [⟨1, b_2, [.string (bs r_1.s), .bool r_1.bad]⟩] [] (plan_Read.f n r_1) (plan_Read.R b_2) := by
  refine Meets.of (c := c62_0) (n := 35) Try.func62 (by kernel_rfl) (by kernel_rfl) (by kernel_rfl) fun w0 S0 => ?_
  unfold plan_Read.f
  show GoO (plan_Read.cx b_2 w0 S0) [(0, .pointer (some ⟨b_2, 0, none⟩))] [⟨1, b_2, [.string (bs r_1.s), .bool r_1.bad]⟩] [] [.code c62_0] _
  refine GoO.seq' c62_0e ?_
  refine GoO.region' (is := [0]) c62_1e (by kernel_rfl) ?_
  refine GoO.exec (is := [0]) (hs := [.p]) (rest := []) (ks := [0]) (env' := [(0, .pointer (some ⟨b_2, 0, none⟩))]) (H' := [⟨1, b_2, [.string (bs r_1.s), .bool r_1.bad]⟩]) (ps := []) (by kernel_rfl) trivial ?_
  refine GoO.regionEnd ?_
  refine GoO.seq' c62_2e ?_
  refine GoO.region' (is := [0]) c62_3e (by kernel_rfl) ?_
  refine GoO.exec (is := [0]) (hs := [.p]) (rest := []) (ks := [0, 3]) (env' := [(0, .pointer (some ⟨b_2, 0, none⟩)), (3, .slice none ([] : List T_api_Step).length 0)]) (H' := [⟨1, b_2, [.string (bs r_1.s), .bool r_1.bad]⟩]) (ps := []) (by kernel_rfl) trivial ?_
  refine GoO.regionEnd ?_
  refine GoO.seq' c62_4e ?_
  refine GoO.seq' c62_5e ?_
  refine GoO.region' (is := [0, 1, 2]) c62_6e (by kernel_rfl) ?_
  refine GoO.exec (is := [0]) (hs := [.p]) (rest := [1, 2]) (ks := [0, 3, 8]) (env' := [(0, .pointer (some ⟨b_2, 0, none⟩)), (3, .slice none ([] : List T_api_Step).length 0), (8, .pointer (some ⟨b_2, 0, none⟩))]) (H' := [⟨1, b_2, [.string (bs r_1.s), .bool r_1.bad]⟩]) (ps := []) (by kernel_rfl) trivial ?_
  refine OpTo.go (GoO.call rfl (by kernel_rfl) (by kernel_rfl) (pack_Reader_Up_ok n r_1 64 b_2) [[0], [1]] [(1, 1)] [(1, 0)] [] (hks := []) (bks := []) (by kernel_rfl) (by kernel_rfl) (by kernel_rfl) (.inl rfl) rfl rfl (by kernel_rfl) (by kernel_rfl) _ (fun _ _ => rfl) _ _ (fun _ _ => rfl) (fun _ _ => rfl) (fun _ _ => by kernel_rfl) (fun _ _ => by kernel_rfl) (fun r_3 x_26 => ?_))
  refine GoO.shape (env' := [(0, .pointer (some ⟨b_2, 0, none⟩)), (3, .slice none ([] : List T_api_Step).length 0), (8, .pointer (some ⟨b_2, 0, none⟩)), (9, .int .i64 r_3.1)]) (H' := [⟨1, b_2, [.string (bs r_3.2.s), .bool r_3.2.bad]⟩]) (B' := []) (ks := [0, 3, 8, 9]) (by kernel_rfl) (by kernel_rfl) (by kernel_rfl) ?_
  refine GoO.exec (is := [2]) (hs := [.p]) (rest := []) (ks := [0, 3, 4]) (env' := [(0, .pointer (some ⟨b_2, 0, none⟩)), (3, .slice none ([] : List T_api_Step).length 0), (4, .int .i64 r_3.1)]) (H' := [⟨1, b_2, [.string (bs r_3.2.s), .bool r_3.2.bad]⟩]) (ps := []) (by kernel_rfl) trivial ?_
  refine GoO.regionEnd ?_
  refine GoO.block' c62_7e ?_
  refine GoO.loop' c62_8e ?_
  refine GoO.nilOwn kT_api_Step 42 ?_
  exact GoO.sub (ks := [0, 3, 4]) (hk := [0]) (bk := [0]) (by kernel_rfl) (by kernel_rfl) (by kernel_rfl) (plan_Read_l0_ok n b_2 w0 S0 n r_3.2.s r_3.2.bad ([] : List T_api_Step) r_3.1 none 0)

/-! (*tontine/pack.Reader).Bool -/
noncomputable def c63_0 : Code := bodyOf Try.f63
noncomputable def c63_1 : Code := cdL c63_0
noncomputable def c63_2 : Code := cdR c63_0
noncomputable def c63_3 : Code := cdL c63_2
noncomputable def c63_4 : Code := cdR c63_2
noncomputable def r63_1 : Array Oper := cdO c63_1
noncomputable def r63_3 : Array Oper := cdO c63_3
theorem c63_0e : c63_0 = .seq c63_1 c63_2 := by kernel_rfl
theorem c63_1e : c63_1 = .region 0 r63_1 false := by kernel_rfl
theorem c63_2e : c63_2 = .seq c63_3 c63_4 := by kernel_rfl
theorem c63_3e : c63_3 = .region 1 r63_3 false := by kernel_rfl
theorem c63_4e : c63_4 = .ret := by kernel_rfl
noncomputable def pack_Reader_Bool.R (b_2 : Nat) : Pst (Bool × T_pack_Reader) where
  ε := Unit
  v := fun r x => .bool r.1
  H := fun r x => [⟨1, b_2, [.string (bs r.2.s), .bool r.2.bad]⟩]
  B := fun r x => []
noncomputable def pack_Reader_Bool.cx (b_2 : Nat) (w0 : World) (S0 : Fam) : Cx (Bool × T_pack_Reader) := ⟨Try.prog, 63, Try.f63, 6, w0, S0, [1], 1, pack_Reader_Bool.R b_2⟩
theorem pack_Reader_Bool_ok (n : Nat) (r_1 : T_pack_Reader) (b_2 : Nat) :
    Meets Try.prog 63 [.pointer (some ⟨b_2, 0, none⟩)] 1 [1] [⟨1, b_2, [.string (bs r_1.s), .bool r_1.bad]⟩] [] (pack_Reader_Bool.f n r_1) (pack_Reader_Bool.R b_2) := by
  refine Meets.of (c := c63_0) (n := 6) Try.func63 (by kernel_rfl) (by kernel_rfl) (by kernel_rfl) fun w0 S0 => ?_
  unfold pack_Reader_Bool.f
  show GoO (pack_Reader_Bool.cx b_2 w0 S0) [(0, .pointer (some ⟨b_2, 0, none⟩))] [⟨1, b_2, [.string (bs r_1.s), .bool r_1.bad]⟩] [] [.code c63_0] _
  refine GoO.seq' c63_0e ?_
  refine GoO.region' (is := [0]) c63_1e (by kernel_rfl) ?_
  refine GoO.exec (is := [0]) (hs := [.p]) (rest := []) (ks := [0]) (env' := [(0, .pointer (some ⟨b_2, 0, none⟩))]) (H' := [⟨1, b_2, [.string (bs r_1.s), .bool r_1.bad]⟩]) (ps := []) (by kernel_rfl) trivial ?_
  refine GoO.regionEnd ?_
  refine GoO.seq' c63_2e ?_
  refine GoO.region' (is := [0, 1, 2, 3]) c63_3e (by kernel_rfl) ?_
  refine GoO.exec (is := [0]) (hs := [.p]) (rest := [1, 2, 3]) (ks := [3]) (env' := [(3, .pointer (some ⟨b_2, 0, none⟩))]) (H' := [⟨1, b_2, [.string (bs r_1.s), .bool r_1.bad]⟩]) (ps := []) (by kernel_rfl) trivial ?_
  refine OpTo.go (GoO.call rfl (by kernel_rfl) (by kernel_rfl) (pack_Reader_Up_ok n r_1 1 b_2) [[0], [1]] [(1, 1)] [(1, 0)] [] (hks := []) (bks := []) (by kernel_rfl) (by kernel_rfl) (by kernel_rfl) (.inl rfl) rfl rfl (by kernel_rfl) (by kernel_rfl) _ (fun _ _ => rfl) _ _ (fun _ _ => rfl) (fun _ _ => rfl) (fun _ _ => by kernel_rfl) (fun _ _ => by kernel_rfl) (fun r_3 x_4 => ?_))
  refine GoO.shape (env' := [(3, .pointer (some ⟨b_2, 0, none⟩)), (4, .int .i64 r_3.1)]) (H' := [⟨1, b_2, [.string (bs r_3.2.s), .bool r_3.2.bad]⟩]) (B' := []) (ks := [3, 4]) (by kernel_rfl) (by kernel_rfl) (by kernel_rfl) ?_
  refine GoO.exec (is := [2, 3]) (hs := [.p, .p]) (rest := []) (ks := [2]) (env' := [(2, .bool (r_3.1 == 1))]) (H' := [⟨1, b_2, [.string (bs r_3.2.s), .bool r_3.2.bad]⟩]) (ps := []) (by kernel_rfl) trivial ?_
  refine GoO.regionEnd ?_
  exact GoO.ret' (h := c63_4e) (hs := []) (ps := []) (hk := [0]) (bk := []) Try.func63 () (by kernel_rfl) trivial (by kernel_rfl) (by kernel_rfl)

/-! (*tontine/pack.Reader).Done -/
noncomputable def c46_0 : Code := bodyOf Try.f46
noncomputable def c46_1 : Code := cdL c46_0
noncomputable def c46_2 : Code := cdR c46_0
noncomputable def c46_3 : Code := cdL c46_2
noncomputable def c46_4 : Code := cdR c46_2
noncomputable def c46_5 : Code := cdL c46_4
noncomputable def c46_6 : Code := cdR c46_4
noncomputable def r46_1 : Array Oper := cdO c46_1
noncomputable def r46_3 : Array Oper := cdO c46_3
noncomputable def r46_5 : Array Oper := cdO c46_5
theorem c46_0e : c46_0 = .seq c46_1 c46_2 := by kernel_rfl
theorem c46_1e : c46_1 = .region 0 r46_1 false := by kernel_rfl
theorem c46_2e : c46_2 = .seq c46_3 c46_4 := by kernel_rfl
theorem c46_3e : c46_3 = .region 1 r46_3 false := by kernel_rfl
theorem c46_4e : c46_4 = .seq c46_5 c46_6 := by kernel_rfl
theorem c46_5e : c46_5 = .region 2 r46_5 false := by kernel_rfl
theorem c46_6e : c46_6 = .ret := by kernel_rfl
noncomputable def pack_Reader_Done.R (b_2 : Nat) : Pst Bool where
  ε := Unit
  v := fun r x => .bool r
  H := fun r x => []
  B := fun r x => []
noncomputable def pack_Reader_Done.cx (b_2 : Nat) (w0 : World) (S0 : Fam) : Cx Bool := ⟨Try.prog, 46, Try.f46, 15, w0, S0, [], 1, pack_Reader_Done.R b_2⟩
theorem pack_Reader_Done_ok (n : Nat) (r_1 : T_pack_Reader) (b_2 : Nat) :
    Meets Try.prog 46 [.pointer (some ⟨b_2, 0, none⟩)] 1 [] [⟨1, b_2, [.string (bs r_1.s), .bool r_1.bad]⟩] [] (pack_Reader_Done.f n r_1) (pack_Reader_Done.R b_2) := by
  refine Meets.of (c := c46_0) (n := 15) Try.func46 (by kernel_rfl) (by kernel_rfl) (by kernel_rfl) fun w0 S0 => ?_
  unfold pack_Reader_Done.f
  show GoO (pack_Reader_Done.cx b_2 w0 S0) [(0, .pointer (some ⟨b_2, 0, none⟩))] [⟨1, b_2, [.string (bs r_1.s), .bool r_1.bad]⟩] [] [.code c46_0] _
  refine GoO.seq' c46_0e ?_
  refine GoO.region' (is := [0]) c46_1e (by kernel_rfl) ?_
  refine GoO.exec (is := [0]) (hs := [.p]) (rest := []) (ks := [0]) (env' := [(0, .pointer (some ⟨b_2, 0, none⟩))]) (H' := [⟨1, b_2, [.string (bs r_1.s), .bool r_1.bad]⟩]) (ps := []) (by kernel_rfl) trivial ?_
  refine GoO.regionEnd ?_
  refine GoO.seq' c46_2e ?_
  refine GoO.region' (is := [0, 1, 2, 3, 4, 5, 6]) c46_3e (by kernel_rfl) ?_
  refine GoO.exec (is := [0]) (hs := [.p]) (rest := [1, 2, 3, 4, 5, 6]) (ks := [6]) (env' := [(6, .pointer (some ⟨b_2, 0, none⟩))]) (H' := [⟨1, b_2, [.string (bs r_1.s), .bool r_1.bad]⟩]) (ps := []) (by kernel_rfl) trivial ?_
  refine OpTo.go (GoO.call rfl (by kernel_rfl) (by kernel_rfl) (pack_Reader_Left_ok n r_1 b_2) [[0], [1]] [] [(1, 0)] [] (hks := [0]) (bks := []) (by kernel_rfl) (by kernel_rfl) (by kernel_rfl) (.inl rfl) rfl rfl (by kernel_rfl) (by kernel_rfl) _ (fun _ _ => rfl) _ _ (fun _ _ => rfl) (fun _ _ => rfl) (fun _ _ => by kernel_rfl) (fun _ _ => by kernel_rfl) (fun r_3 x_5 => ?_))
  refine GoO.shape (env' := [(6, .pointer (some ⟨b_2, 0, none⟩)), (7, .tuple ⟨[.int .i64 r_3.1, .bool r_3.2]⟩)]) (H' := [⟨1, b_2, [.string (bs r_1.s), .bool r_1.bad]⟩]) (B' := []) (ks := [6, 7]) (by kernel_rfl) (by kernel_rfl) (by kernel_rfl) ?_
  refine GoO.exec (is := [2, 3, 4, 5, 6]) (hs := [.p, .p, .p, .p, .p]) (rest := []) (ks := [3, 4]) (env' := [(3, .int .i64 r_3.1), (4, .bool r_3.2)]) (H' := [⟨1, b_2, [.string (bs r_1.s), .bool r_1.bad]⟩]) (ps := []) (by kernel_rfl) trivial ?_
  refine GoO.regionEnd ?_
  refine GoO.seq' c46_4e ?_
  refine GoO.region' (is := [0, 1, 2, 3, 4, 5]) c46_5e (by kernel_rfl) ?_
  refine GoO.exec (is := [0, 1, 2]) (hs := [.p, .p, .p]) (rest := [3, 4, 5]) (ks := [4, 12]) (env' := [(4, .bool r_3.2), (12, .bool (r_3.1 == 0))]) (H' := [⟨1, b_2, [.string (bs r_1.s), .bool r_1.bad]⟩]) (ps := []) (by kernel_rfl) trivial ?_
  refine GoO.bsplit (t := 12) (by kernel_rfl) (fun h4 => ?_) (fun h4 => ?_)
  · refine GoO.exec (is := [3, 4, 5]) (hs := [.p, .p, .p]) (rest := []) (ks := [2]) (env' := [(2, .bool r_3.2)]) (H' := [⟨1, b_2, [.string (bs r_1.s), .bool r_1.bad]⟩]) (ps := []) (by kernel_rfl) trivial ?_
    refine GoO.regionEnd ?_
    exact GoO.ret' (h := c46_6e) (hs := []) (ps := []) (hk := []) (bk := []) Try.func46 () (by kernel_rfl) trivial (by kernel_rfl) (by kernel_rfl)
  · refine GoO.exec (is := [3, 4, 5]) (hs := [.p, .p, .p]) (rest := []) (ks := [2]) (env' := [(2, .bool false)]) (H' := [⟨1, b_2, [.string (bs r_1.s), .bool r_1.bad]⟩]) (ps := []) (by kernel_rfl) trivial ?_
    refine GoO.regionEnd ?_
    exact GoO.ret' (h := c46_6e) (hs := []) (ps := []) (hk := []) (bk := []) Try.func46 () (by kernel_rfl) trivial (by kernel_rfl) (by kernel_rfl)

/-! tontine/command.Decode -/
noncomputable def c36_0 : Code := bodyOf Try.f36
noncomputable def c36_1 : Code := cdL c36_0
noncomputable def c36_2 : Code := cdR c36_0
noncomputable def c36_3 : Code := cdL c36_2
noncomputable def c36_4 : Code := cdR c36_2
noncomputable def c36_5 : Code := cdL c36_4
noncomputable def c36_6 : Code := cdR c36_4
noncomputable def c36_7 : Code := cdL c36_6
noncomputable def c36_8 : Code := cdR c36_6
noncomputable def c36_9 : Code := cdL c36_8
noncomputable def c36_10 : Code := cdR c36_8
noncomputable def c36_11 : Code := cdL c36_10
noncomputable def c36_12 : Code := cdR c36_10
noncomputable def c36_13 : Code := cdL c36_12
noncomputable def c36_14 : Code := cdR c36_12
noncomputable def c36_15 : Code := cdL c36_14
noncomputable def c36_16 : Code := cdL c36_15
noncomputable def c36_17 : Code := cdR c36_15
noncomputable def c36_18 : Code := cdL c36_17
noncomputable def c36_19 : Code := cdL c36_18
noncomputable def c36_20 : Code := cdR c36_18
noncomputable def c36_21 : Code := cdL c36_20
noncomputable def c36_22 : Code := cdR c36_20
noncomputable def c36_23 : Code := cdL c36_22
noncomputable def c36_24 : Code := cdR c36_22
noncomputable def c36_25 : Code := cdL c36_24
noncomputable def c36_26 : Code := cdL c36_25
noncomputable def c36_27 : Code := cdR c36_25
noncomputable def c36_28 : Code := cdL c36_27
noncomputable def c36_29 : Code := cdR c36_27
noncomputable def c36_30 : Code := cdL c36_29
noncomputable def c36_31 : Code := cdR c36_29
noncomputable def c36_32 : Code := cdR c36_24
noncomputable def c36_33 : Code := cdR c36_14
noncomputable def c36_34 : Code := cdL c36_33
noncomputable def c36_35 : Code := cdL c36_34
noncomputable def c36_36 : Code := cdR c36_34
noncomputable def c36_37 : Code := cdL c36_36
noncomputable def c36_38 : Code := cdL c36_37
noncomputable def c36_39 : Code := cdR c36_37
noncomputable def c36_40 : Code := cdR c36_36
noncomputable def c36_41 : Code := cdR c36_33
noncomputable def c36_42 : Code := cdL c36_41
noncomputable def c36_43 : Code := cdR c36_41
noncomputable def r36_1 : Array Oper := cdO c36_1
noncomputable def r36_3 : Array Oper := cdO c36_3
noncomputable def r36_5 : Array Oper := cdO c36_5
noncomputable def r36_7 : Array Oper := cdO c36_7
noncomputable def r36_9 : Array Oper := cdO c36_9
noncomputable def r36_11 : Array Oper := cdO c36_11
noncomputable def r36_13 : Array Oper := cdO c36_13
noncomputable def r36_16 : Array Oper := cdO c36_16
noncomputable def r36_19 : Array Oper := cdO c36_19
noncomputable def r36_21 : Array Oper := cdO c36_21
noncomputable def r36_23 : Array Oper := cdO c36_23
noncomputable def r36_26 : Array Oper := cdO c36_26
noncomputable def r36_28 : Array Oper := cdO c36_28
noncomputable def r36_30 : Array Oper := cdO c36_30
noncomputable def r36_31 : Array Oper := cdO c36_31
noncomputable def r36_35 : Array Oper := cdO c36_35
noncomputable def r36_38 : Array Oper := cdO c36_38
noncomputable def r36_42 : Array Oper := cdO c36_42
theorem c36_0e : c36_0 = .seq c36_1 c36_2 := by kernel_rfl
theorem c36_1e : c36_1 = .region 0 r36_1 false := by kernel_rfl
theorem c36_2e : c36_2 = .seq c36_3 c36_4 := by kernel_rfl
theorem c36_3e : c36_3 = .region 1 r36_3 false := by kernel_rfl
theorem c36_4e : c36_4 = .seq c36_5 c36_6 := by kernel_rfl
theorem c36_5e : c36_5 = .region 2 r36_5 false := by kernel_rfl
theorem c36_6e : c36_6 = .seq c36_7 c36_8 := by kernel_rfl
theorem c36_7e : c36_7 = .region 3 r36_7 false := by kernel_rfl
theorem c36_8e : c36_8 = .seq c36_9 c36_10 := by kernel_rfl
theorem c36_9e : c36_9 = .region 4 r36_9 false := by kernel_rfl
theorem c36_10e : c36_10 = .seq c36_11 c36_12 := by kernel_rfl
theorem c36_11e : c36_11 = .region 5 r36_11 false := by kernel_rfl
theorem c36_12e : c36_12 = .seq c36_13 c36_14 := by kernel_rfl
theorem c36_13e : c36_13 = .region 6 r36_13 false := by kernel_rfl
theorem c36_14e : c36_14 = .seq c36_15 c36_33 := by kernel_rfl
theorem c36_15e : c36_15 = .seq c36_16 c36_17 := by kernel_rfl
theorem c36_16e : c36_16 = .region 7 r36_16 false := by kernel_rfl
theorem c36_17e : c36_17 = .block 0 c36_18 := by kernel_rfl
theorem c36_18e : c36_18 = .seq c36_19 c36_20 := by kernel_rfl
theorem c36_19e : c36_19 = .region 8 r36_19 false := by kernel_rfl
theorem c36_20e : c36_20 = .cond (cdC c36_20) c36_21 c36_22 := by kernel_rfl
theorem c36_21e : c36_21 = .region 9 r36_21 false := by kernel_rfl
theorem c36_22e : c36_22 = .seq c36_23 c36_24 := by kernel_rfl
theorem c36_23e : c36_23 = .region 10 r36_23 false := by kernel_rfl
theorem c36_24e : c36_24 = .cond (cdC c36_24) c36_25 c36_32 := by kernel_rfl
theorem c36_25e : c36_25 = .seq c36_26 c36_27 := by kernel_rfl
theorem c36_26e : c36_26 = .region 11 r36_26 false := by kernel_rfl
theorem c36_27e : c36_27 = .seq c36_28 c36_29 := by kernel_rfl
theorem c36_28e : c36_28 = .region 12 r36_28 false := by kernel_rfl
theorem c36_29e : c36_29 = .seq c36_30 c36_31 := by kernel_rfl
theorem c36_30e : c36_30 = .region 13 r36_30 false := by kernel_rfl
theorem c36_31e : c36_31 = .region 14 r36_31 false := by kernel_rfl
theorem c36_32e : c36_32 = .skip := by kernel_rfl
theorem c36_33e : c36_33 = .seq c36_34 c36_41 := by kernel_rfl
theorem c36_34e : c36_34 = .seq c36_35 c36_36 := by kernel_rfl
theorem c36_35e : c36_35 = .region 15 r36_35 false := by kernel_rfl
theorem c36_36e : c36_36 = .cond (cdC c36_36) c36_37 c36_40 := by kernel_rfl
theorem c36_37e : c36_37 = .seq c36_38 c36_39 := by kernel_rfl
theorem c36_38e : c36_38 = .region 16 r36_38 false := by kernel_rfl
theorem c36_39e : c36_39 = .ret := by kernel_rfl
theorem c36_40e : c36_40 = .skip := by kernel_rfl
theorem c36_41e : c36_41 = .seq c36_42 c36_43 := by kernel_rfl
theorem c36_42e : c36_42 = .region 17 r36_42 false := by kernel_rfl
theorem c36_43e : c36_43 = .ret := by kernel_rfl
noncomputable def command_Decode.R : Pst (T_api_Command × Int) where
  ε := Option Addr × Nat
  v := fun r x => .tuple ⟨[.agg ⟨[.int .i64 r.1.Kind, .int .u64 r.1.Session, .int .u64 r.1.Seq, .int .u64 r.1.Saga, .slice x.1 r.1.Steps.length x.2, .int .i64 r.1.Step, .bool r.1.Back, .int .i64 r.1.Try, .bool r.1.Ok, .int .u64 r.1.Now]⟩, .int .i64 r.2]⟩
  H := fun r x => []
  B := fun r x => [Rd 0 kT_api_Step x.1 x.2 r.1.Steps]
noncomputable def command_Decode.cx (w0 : World) (S0 : Fam) : Cx (T_api_Command × Int) := ⟨Try.prog, 36, Try.f36, 54, w0, S0, [], 0, command_Decode.R⟩
theorem command_Decode_j0_ok (n : Nat) (r_5 : Int × T_pack_Reader) (r_7 : Int × T_pack_Reader) (r_8 : Int × T_pack_Reader) (r_9 : Int × T_pack_Reader) (r_10 : Int × T_pack_Reader) (b_2 : Nat) (b_4 : Nat) (b_6 : Nat) (w0 : World) (S0 : Fam) (f_20 : (List UInt8)) (f_21 : Bool) (f_22 : (List T_api_Step)) (f_25 : Int) (f_26 : Bool) (f_27 : Int) (f_28 : Bool) (A_23 : Option Addr) (c_24 : Nat) :
    GoO (command_Decode.cx w0 S0) [(2, .pointer (some ⟨b_2, 0, none⟩)), (4, .pointer (some ⟨b_4, 0, none⟩)), (5, .pointer (some ⟨b_6, 0, none⟩))] [⟨40, b_2, [.int .i64 0, .int .u64 0, .int .u64 0, .int .u64 0, .slice none ([] : List T_api_Step).length 0, .int .i64 0, .bool false, .int .i64 0, .bool false, .int .u64 0]⟩, ⟨41, b_4, [.string (bs f_20), .bool f_21]⟩, ⟨42, b_6, [.int .i64 r_5.1, .int .u64 r_7.1, .int .u64 r_8.1, .int .u64 r_9.1, .slice A_23 f_22.length c_24, .int .i64 f_25, .bool f_26, .int .i64 f_27, .bool f_28, .int .u64 r_10.1]⟩] [Ow 43 kT_api_Step A_23 c_24 f_22] [.inBlock 0, .code c36_33] (command_Decode.j0 n r_5 r_7 r_8 r_9 r_10 f_20 f_21 f_22 f_25 f_26 f_27 f_28) := by
  unfold command_Decode.j0
  refine GoO.inBlock ?_
  refine GoO.seq' c36_33e ?_
  refine GoO.seq' c36_34e ?_
  refine GoO.region' (is := [0, 1, 2, 3, 4, 5, 6, 7]) c36_35e (by kernel_rfl) ?_
  refine GoO.exec (is := [0]) (hs := [.p]) (rest := [1, 2, 3, 4, 5, 6, 7]) (ks := [2, 5, 44]) (env' := [(2, .pointer (some ⟨b_2, 0, none⟩)), (5, .pointer (some ⟨b_6, 0, none⟩)), (44, .pointer (some ⟨b_4, 0, none⟩))]) (H' := [⟨40, b_2, [.int .i64 0, .int .u64 0, .int .u64 0, .int .u64 0, .slice none ([] : List T_api_Step).length 0, .int .i64 0, .bool false, .int .i64 0, .bool false, .int .u64 0]⟩, ⟨41, b_4, [.string (bs f_20), .bool f_21]⟩, ⟨42, b_6, [.int .i64 r_5.1, .int .u64 r_7.1, .int .u64 r_8.1, .int .u64 r_9.1, .slice A_23 f_22.length c_24, .int .i64 f_25, .bool f_26, .int .i64 f_27, .bool f_28, .int .u64 r_10.1]⟩]) (ps := []) (by kernel_rfl) trivial ?_
  refine OpTo.go (GoO.call rfl (by kernel_rfl) (by kernel_rfl) (pack_Reader_Done_ok n (⟨f_20, f_21⟩ : T_pack_Reader) b_4) [[0], [41]] [] [(1, 1)] [] (hks := [0, 1, 2]) (bks := [0]) (by kernel_rfl) (by kernel_rfl) (by kernel_rfl) (.inl rfl) rfl rfl (by kernel_rfl) (by kernel_rfl) _ (fun _ _ => rfl) _ _ (fun _ _ => rfl) (fun _ _ => rfl) (fun _ _ => by kernel_rfl) (fun _ _ => by kernel_rfl) (fun r_29 x_34 => ?_))
  refine GoO.shape (env' := [(2, .pointer (some ⟨b_2, 0, none⟩)), (5, .pointer (some ⟨b_6, 0, none⟩)), (44, .pointer (some ⟨b_4, 0, none⟩)), (45, .bool r_29)]) (H' := [⟨40, b_2, [.int .i64 0, .int .u64 0, .int .u64 0, .int .u64 0, .slice none ([] : List T_api_Step).length 0, .int .i64 0, .bool false, .int .i64 0, .bool false, .int .u64 0]⟩, ⟨41, b_4, [.string (bs f_20), .bool f_21]⟩, ⟨42, b_6, [.int .i64 r_5.1, .int .u64 r_7.1, .int .u64 r_8.1, .int .u64 r_9.1, .slice A_23 f_22.length c_24, .int .i64 f_25, .bool f_26, .int .i64 f_27, .bool f_28, .int .u64 r_10.1]⟩]) (B' := [Ow 43 kT_api_Step A_23 c_24 f_22]) (ks := [2, 5, 44, 45]) (by kernel_rfl) (by kernel_rfl) (by kernel_rfl) ?_
  refine GoO.exec (is := [2, 3]) (hs := [.p, .p]) (rest := [4, 5, 6, 7]) (ks := [2, 5, 47]) (env' := [(2, .pointer (some ⟨b_2, 0, none⟩)), (5, .pointer (some ⟨b_6, 0, none⟩)), (47, .bool (!r_29))]) (H' := [⟨40, b_2, [.int .i64 0, .int .u64 0, .int .u64 0, .int .u64 0, .slice none ([] : List T_api_Step).length 0, .int .i64 0, .bool false, .int .i64 0, .bool false, .int .u64 0]⟩, ⟨41, b_4, [.string (bs f_20), .bool f_21]⟩, ⟨42, b_6, [.int .i64 r_5.1, .int .u64 r_7.1, .int .u64 r_8.1, .int .u64 r_9.1, .slice A_23 f_22.length c_24, .int .i64 f_25, .bool f_26, .int .i64 f_27, .bool f_28, .int .u64 r_10.1]⟩]) (ps := []) (by kernel_rfl) trivial ?_
  refine GoO.bsplit (t := 47) (by kernel_rfl) (fun h30 => ?_) (fun h30 => ?_)
  · refine GoO.exec (is := [4, 5, 6, 7]) (hs := [.p, .p, .p, .p]) (rest := []) (ks := [2, 5, 51]) (env' := [(2, .pointer (some ⟨b_2, 0, none⟩)), (5, .pointer (some ⟨b_6, 0, none⟩)), (51, .bool true)]) (H' := [⟨40, b_2, [.int .i64 0, .int .u64 0, .int .u64 0, .int .u64 0, .slice none ([] : List T_api_Step).length 0, .int .i64 0, .bool false, .int .i64 0, .bool false, .int .u64 0]⟩, ⟨41, b_4, [.string (bs f_20), .bool f_21]⟩, ⟨42, b_6, [.int .i64 r_5.1, .int .u64 r_7.1, .int .u64 r_8.1, .int .u64 r_9.1, .slice A_23 f_22.length c_24, .int .i64 f_25, .bool f_26, .int .i64 f_27, .bool f_28, .int .u64 r_10.1]⟩]) (ps := []) (by kernel_rfl) trivial ?_
    refine GoO.regionEnd ?_
    refine GoO.condT c36_36e (by kernel_rfl) ?_
    refine GoO.seq' c36_37e ?_
    refine GoO.region' (is := [0, 1, 2]) c36_38e (by kernel_rfl) ?_
    refine GoO.exec (is := [0, 1, 2]) (hs := [.p, .b 0, .p]) (rest := []) (ks := [2, 3]) (env' := [(2, .pointer (some ⟨b_2, 0, none⟩)), (3, .int .i64 2)]) (H' := [⟨40, b_2, [.int .i64 0, .int .u64 0, .int .u64 0, .int .u64 0, .slice none ([] : List T_api_Step).length 0, .int .i64 0, .bool false, .int .i64 0, .bool false, .int .u64 0]⟩, ⟨41, b_4, [.string (bs f_20), .bool f_21]⟩, ⟨42, b_6, [.int .i64 r_5.1, .int .u64 r_7.1, .int .u64 r_8.1, .int .u64 r_9.1, .slice A_23 f_22.length c_24, .int .i64 f_25, .bool f_26, .int .i64 f_27, .bool f_28, .int .u64 r_10.1]⟩]) (ps := [b_2 = b_2]) (by kernel_rfl) (And.intro rfl trivial) ?_
    refine GoO.regionEnd ?_
    refine GoO.nilRd kT_api_Step ?_
    exact GoO.ret' (h := c36_39e) (hs := [0]) (ps := [b_2 = b_2]) (hk := []) (bk := [0]) Try.func36 (⟨none, 0⟩ : Option Addr × Nat) (by kernel_rfl) (And.intro rfl trivial) (by kernel_rfl) (by kernel_rfl)
  · refine GoO.exec (is := [4]) (hs := [.b 2]) (rest := [5, 6, 7]) (ks := [2, 5, 47, 48]) (env' := [(2, .pointer (some ⟨b_2, 0, none⟩)), (5, .pointer (some ⟨b_6, 0, none⟩)), (47, .bool false), (48, .agg ⟨[.int .i64 r_5.1, .int .u64 r_7.1, .int .u64 r_8.1, .int .u64 r_9.1, .slice A_23 f_22.length c_24, .int .i64 f_25, .bool f_26, .int .i64 f_27, .bool f_28, .int .u64 r_10.1]⟩)]) (H' := [⟨40, b_2, [.int .i64 0, .int .u64 0, .int .u64 0, .int .u64 0, .slice none ([] : List T_api_Step).length 0, .int .i64 0, .bool false, .int .i64 0, .bool false, .int .u64 0]⟩, ⟨41, b_4, [.string (bs f_20), .bool f_21]⟩, ⟨42, b_6, [.int .i64 r_5.1, .int .u64 r_7.1, .int .u64 r_8.1, .int .u64 r_9.1, .slice A_23 f_22.length c_24, .int .i64 f_25, .bool f_26, .int .i64 f_27, .bool f_28, .int .u64 r_10.1]⟩]) (ps := [b_6 = b_6]) (by kernel_rfl) (And.intro rfl trivial) ?_
    refine GoO.view (j := 0) rfl ?_
    refine OpTo.go (GoO.call rfl (by kernel_rfl) (by kernel_rfl) (command_May_ok n (⟨r_5.1, r_7.1, r_8.1, r_9.1, f_22, f_25, f_26, f_27, f_28, r_10.1⟩ : T_api_Command) A_23 c_24) [[0, 43]] [] [] [(0, 1)] (hks := [0, 1, 2]) (bks := [0]) (by kernel_rfl) (by kernel_rfl) (by kernel_rfl) (.inr (fun _ _ => by simp [command_May.R])) rfl rfl (by kernel_rfl) (by kernel_rfl) _ (fun _ _ => rfl) _ _ (fun _ _ => rfl) (fun _ _ => rfl) (fun _ _ => by kernel_rfl) (fun _ _ => by kernel_rfl) (fun r_31 x_33 => ?_))
    refine GoO.shape (env' := [(2, .pointer (some ⟨b_2, 0, none⟩)), (5, .pointer (some ⟨b_6, 0, none⟩)), (47, .bool false), (48, .agg ⟨[.int .i64 r_5.1, .int .u64 r_7.1, .int .u64 r_8.1, .int .u64 r_9.1, .slice A_23 f_22.length c_24, .int .i64 f_25, .bool f_26, .int .i64 f_27, .bool f_28, .int .u64 r_10.1]⟩), (49, .bool r_31)]) (H' := [⟨40, b_2, [.int .i64 0, .int .u64 0, .int .u64 0, .int .u64 0, .slice none ([] : List T_api_Step).length 0, .int .i64 0, .bool false, .int .i64 0, .bool false, .int .u64 0]⟩, ⟨41, b_4, [.string (bs f_20), .bool f_21]⟩, ⟨42, b_6, [.int .i64 r_5.1, .int .u64 r_7.1, .int .u64 r_8.1, .int .u64 r_9.1, .slice A_23 f_22.length c_24, .int .i64 f_25, .bool f_26, .int .i64 f_27, .bool f_28, .int .u64 r_10.1]⟩]) (B' := [Ow 43 kT_api_Step A_23 c_24 f_22]) (ks := [2, 5, 47, 48, 49]) (by kernel_rfl) (by kernel_rfl) (by kernel_rfl) ?_
    refine GoO.exec (is := [6, 7]) (hs := [.p, .p]) (rest := []) (ks := [2, 5, 51]) (env' := [(2, .pointer (some ⟨b_2, 0, none⟩)), (5, .pointer (some ⟨b_6, 0, none⟩)), (51, .bool (!r_31))]) (H' := [⟨40, b_2, [.int .i64 0, .int .u64 0, .int .u64 0, .int .u64 0, .slice none ([] : List T_api_Step).length 0, .int .i64 0, .bool false, .int .i64 0, .bool false, .int .u64 0]⟩, ⟨41, b_4, [.string (bs f_20), .bool f_21]⟩, ⟨42, b_6, [.int .i64 r_5.1, .int .u64 r_7.1, .int .u64 r_8.1, .int .u64 r_9.1, .slice A_23 f_22.length c_24, .int .i64 f_25, .bool f_26, .int .i64 f_27, .bool f_28, .int .u64 r_10.1]⟩]) (ps := []) (by kernel_rfl) trivial ?_
    refine GoO.regionEnd ?_
    refine GoO.ite' c36_36e (by kernel_rfl) (fun h32 => ?_) (fun h32 => ?_)
    · refine GoO.seq' c36_37e ?_
      refine GoO.region' (is := [0, 1, 2]) c36_38e (by kernel_rfl) ?_
      refine GoO.exec (is := [0, 1, 2]) (hs := [.p, .b 0, .p]) (rest := []) (ks := [2, 3]) (env' := [(2, .pointer (some ⟨b_2, 0, none⟩)), (3, .int .i64 2)]) (H' := [⟨40, b_2, [.int .i64 0, .int .u64 0, .int .u64 0, .int .u64 0, .slice none ([] : List T_api_Step).length 0, .int .i64 0, .bool false, .int .i64 0, .bool false, .int .u64 0]⟩, ⟨41, b_4, [.string (bs f_20), .bool f_21]⟩, ⟨42, b_6, [.int .i64 r_5.1, .int .u64 r_7.1, .int .u64 r_8.1, .int .u64 r_9.1, .slice A_23 f_22.length c_24, .int .i64 f_25, .bool f_26, .int .i64 f_27, .bool f_28, .int .u64 r_10.1]⟩]) (ps := [b_2 = b_2]) (by kernel_rfl) (And.intro rfl trivial) ?_
      refine GoO.regionEnd ?_
      refine GoO.nilRd kT_api_Step ?_
      exact GoO.ret' (h := c36_39e) (hs := [0]) (ps := [b_2 = b_2]) (hk := []) (bk := [0]) Try.func36 (⟨none, 0⟩ : Option Addr × Nat) (by kernel_rfl) (And.intro rfl trivial) (by kernel_rfl) (by kernel_rfl)
    · refine GoO.skip' c36_40e ?_
      refine GoO.seq' c36_41e ?_
      refine GoO.region' (is := [0, 1, 2]) c36_42e (by kernel_rfl) ?_
      refine GoO.exec (is := [0, 1, 2]) (hs := [.b 2, .b 0, .p]) (rest := []) (ks := [2, 3]) (env' := [(2, .pointer (some ⟨b_2, 0, none⟩)), (3, .int .i64 0)]) (H' := [⟨40, b_2, [.int .i64 r_5.1, .int .u64 r_7.1, .int .u64 r_8.1, .int .u64 r_9.1, .slice A_23 f_22.length c_24, .int .i64 f_25, .bool f_26, .int .i64 f_27, .bool f_28, .int .u64 r_10.1]⟩, ⟨41, b_4, [.string (bs f_20), .bool f_21]⟩, ⟨42, b_6, [.int .i64 r_5.1, .int .u64 r_7.1, .int .u64 r_8.1, .int .u64 r_9.1, .slice A_23 f_22.length c_24, .int .i64 f_25, .bool f_26, .int .i64 f_27, .bool f_28, .int .u64 r_10.1]⟩]) (ps := [b_6 = b_6, b_2 = b_2]) (by kernel_rfl) (And.intro rfl (And.intro rfl trivial)) ?_
      refine GoO.regionEnd ?_
      refine GoO.retag (t := 43) (u := 0) (j := 0) (hk := [0, 1, 2]) (bk := []) rfl rfl rfl rfl rfl rfl (by kernel_rfl) (by kernel_rfl) ?_
      refine GoO.own2rd (j := 0) rfl ?_
      exact GoO.ret' (h := c36_43e) (hs := [0]) (ps := [b_2 = b_2]) (hk := []) (bk := [0]) Try.func36 (⟨A_23, c_24⟩ : Option Addr × Nat) (by kernel_rfl) (And.intro rfl trivial) (by kernel_rfl) (by kernel_rfl)
end Go.GL
