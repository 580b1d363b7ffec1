import Derived.Test.YtfeddlhkiomdaaaKindsT1
import Derived.Test.YtfeddlhkiomdaaaProg
set_option linter.unusedVariables false
set_option linter.unusedSimpArgs false
set_option maxRecDepth 100000
namespace Go.GL
open Go Go.Proofs

/-! tontine/plan.Check -/
noncomputable def c47_0 : Code := bodyOf Try.f47
noncomputable def c47_1 : Code := cdL c47_0
noncomputable def c47_2 : Code := cdR c47_0
noncomputable def c47_3 : Code := cdL c47_2
noncomputable def c47_4 : Code := cdL c47_3
noncomputable def c47_5 : Code := cdR c47_3
noncomputable def c47_6 : Code := cdL c47_5
noncomputable def c47_7 : Code := cdL c47_6
noncomputable def c47_8 : Code := cdR c47_6
noncomputable def c47_9 : Code := cdR c47_5
noncomputable def c47_10 : Code := cdR c47_2
noncomputable def c47_11 : Code := cdL c47_10
noncomputable def c47_12 : Code := cdL c47_11
noncomputable def c47_13 : Code := cdR c47_11
noncomputable def c47_14 : Code := cdL c47_13
noncomputable def c47_15 : Code := cdL c47_14
noncomputable def c47_16 : Code := cdL c47_15
noncomputable def c47_17 : Code := cdR c47_15
noncomputable def c47_18 : Code := cdL c47_17
noncomputable def c47_19 : Code := cdL c47_18
noncomputable def c47_20 : Code := cdR c47_18
noncomputable def c47_21 : Code := cdR c47_17
noncomputable def c47_22 : Code := cdL c47_21
noncomputable def c47_23 : Code := cdL c47_22
noncomputable def c47_24 : Code := cdL c47_23
noncomputable def c47_25 : Code := cdR c47_23
noncomputable def c47_26 : Code := cdL c47_25
noncomputable def c47_27 : Code := cdR c47_25
noncomputable def c47_28 : Code := cdL c47_27
noncomputable def c47_29 : Code := cdL c47_28
noncomputable def c47_30 : Code := cdR c47_28
noncomputable def c47_31 : Code := cdR c47_27
noncomputable def c47_32 : Code := cdR c47_21
noncomputable def c47_33 : Code := cdR c47_10
noncomputable def c47_34 : Code := cdL c47_33
noncomputable def c47_35 : Code := cdR c47_33
noncomputable def r47_1 : Array Oper := cdO c47_1
noncomputable def r47_4 : Array Oper := cdO c47_4
noncomputable def r47_7 : Array Oper := cdO c47_7
noncomputable def r47_12 : Array Oper := cdO c47_12
noncomputable def r47_16 : Array Oper := cdO c47_16
noncomputable def r47_24 : Array Oper := cdO c47_24
noncomputable def r47_26 : Array Oper := cdO c47_26
noncomputable def r47_29 : Array Oper := cdO c47_29
noncomputable def r47_32 : Array Oper := cdO c47_32
noncomputable def r47_34 : Array Oper := cdO c47_34
theorem c47_0e : c47_0 = .seq c47_1 c47_2 := by kernel_rfl
theorem c47_1e : c47_1 = .region 0 r47_1 false := by kernel_rfl
theorem c47_2e : c47_2 = .seq c47_3 c47_10 := by kernel_rfl
theorem c47_3e : c47_3 = .seq c47_4 c47_5 := by kernel_rfl
theorem c47_4e : c47_4 = .region 1 r47_4 false := by kernel_rfl
theorem c47_5e : c47_5 = .cond (cdC c47_5) c47_6 c47_9 := by kernel_rfl
theorem c47_6e : c47_6 = .seq c47_7 c47_8 := by kernel_rfl
theorem c47_7e : c47_7 = .region 2 r47_7 false := by kernel_rfl
theorem c47_8e : c47_8 = .ret := by kernel_rfl
theorem c47_9e : c47_9 = .skip := by kernel_rfl
theorem c47_10e : c47_10 = .seq c47_11 c47_33 := by kernel_rfl
theorem c47_11e : c47_11 = .seq c47_12 c47_13 := by kernel_rfl
theorem c47_12e : c47_12 = .region 3 r47_12 false := by kernel_rfl
theorem c47_13e : c47_13 = .block 0 c47_14 := by kernel_rfl
theorem c47_14e : c47_14 = .loop c47_15 := by kernel_rfl
theorem c47_15e : c47_15 = .seq c47_16 c47_17 := by kernel_rfl
theorem c47_16e : c47_16 = .region 4 r47_16 false := by kernel_rfl
theorem c47_17e : c47_17 = .seq c47_18 c47_21 := by kernel_rfl
theorem c47_18e : c47_18 = .cond (cdC c47_18) c47_19 c47_20 := by kernel_rfl
theorem c47_19e : c47_19 = .skip := by kernel_rfl
theorem c47_20e : c47_20 = .exit 0 := by kernel_rfl
theorem c47_21e : c47_21 = .seq c47_22 c47_32 := by kernel_rfl
theorem c47_22e : c47_22 = .block 1 c47_23 := by kernel_rfl
theorem c47_23e : c47_23 = .seq c47_24 c47_25 := by kernel_rfl
theorem c47_24e : c47_24 = .region 5 r47_24 false := by kernel_rfl
theorem c47_25e : c47_25 = .seq c47_26 c47_27 := by kernel_rfl
theorem c47_26e : c47_26 = .region 6 r47_26 false := by kernel_rfl
theorem c47_27e : c47_27 = .cond (cdC c47_27) c47_28 c47_31 := by kernel_rfl
theorem c47_28e : c47_28 = .seq c47_29 c47_30 := by kernel_rfl
theorem c47_29e : c47_29 = .region 7 r47_29 false := by kernel_rfl
theorem c47_30e : c47_30 = .ret := by kernel_rfl
theorem c47_31e : c47_31 = .skip := by kernel_rfl
theorem c47_32e : c47_32 = .region 8 r47_32 false := by kernel_rfl
theorem c47_33e : c47_33 = .seq c47_34 c47_35 := by kernel_rfl
theorem c47_34e : c47_34 = .region 9 r47_34 false := by kernel_rfl
theorem c47_35e : c47_35 = .ret := by kernel_rfl
noncomputable def plan_Check.R (A_2 : Option Addr) (c_3 : Nat) : Pst Int where
  ε := Unit
  v := fun r x => .int .i64 r
  H := fun r x => []
  B := fun r x => []
noncomputable def plan_Check.cx (A_2 : Option Addr) (c_3 : Nat) (w0 : World) (S0 : Fam) : Cx Int := ⟨Try.prog, 47, Try.f47, 49, w0, S0, [], 0, plan_Check.R A_2 c_3⟩
theorem plan_Check_j1_ok (n : Nat) (L0 : Int → Option Int) (l_1 : (List T_api_Step)) (x_7 : Int) (A_2 : Option Addr) (c_3 : Nat) (w0 : World) (S0 : Fam) (ih0 : ∀ (x_7 : Int), GoO (plan_Check.cx A_2 c_3 w0 S0) [(13, .slice A_2 l_1.length c_3), (14, .int .i64 (l_1.length : Int)), (15, .int .i64 x_7)] [] [Rd 0 kT_api_Step A_2 c_3 l_1] [.code c47_15, .inLoop c47_15, .inBlock 0, .code c47_33] (L0 x_7)) (b_16 : Bool) :
    GoO (plan_Check.cx A_2 c_3 w0 S0) [(13, .slice A_2 l_1.length c_3), (14, .int .i64 (l_1.length : Int)), (15, .int .i64 x_7), (47, .bool b_16)] [] [Rd 0 kT_api_Step A_2 c_3 l_1] [.code c47_27, .inBlock 1, .code c47_32, .inLoop c47_15, .inBlock 0, .code c47_33] (plan_Check.j1 n L0 x_7 b_16) := by
  unfold plan_Check.j1
  refine GoO.ite' c47_27e (by kernel_rfl) (fun h17 => ?_) (fun h17 => ?_)
  · refine GoO.seq' c47_28e ?_
    refine GoO.region' (is := [0]) c47_29e (by kernel_rfl) ?_
    refine GoO.exec (is := [0]) (hs := [.p]) (rest := []) (ks := [2]) (env' := [(2, .int .i64 44)]) (H' := []) (ps := []) (by kernel_rfl) trivial ?_
    refine GoO.regionEnd ?_
    exact GoO.ret' (h := c47_30e) (hs := []) (ps := []) (hk := []) (bk := []) Try.func47 () (by kernel_rfl) trivial (by kernel_rfl) (by kernel_rfl)
  · refine GoO.skip' c47_31e ?_
    refine GoO.inBlock ?_
    refine GoO.region' (is := [0, 1]) c47_32e (by kernel_rfl) ?_
    refine GoO.exec (is := [0, 1]) (hs := [.p, .p]) (rest := []) (ks := [13, 14, 15]) (env' := [(13, .slice A_2 l_1.length c_3), (14, .int .i64 (l_1.length : Int)), (15, .int .i64 (wi64 (x_7 + 1)))]) (H' := []) (ps := []) (by kernel_rfl) trivial ?_
    refine GoO.regionEnd ?_
    refine GoO.inLoop ?_
    exact GoO.sub (ks := [13, 14, 15]) (hk := []) (bk := [0]) (by kernel_rfl) (by kernel_rfl) (by kernel_rfl) (ih0 (wi64 (x_7 + 1)))
theorem plan_Check_l0_ok (n : Nat) (l_1 : (List T_api_Step)) (A_2 : Option Addr) (c_3 : Nat) (w0 : World) (S0 : Fam) :
    ∀ (k : Nat) (x_7 : Int), GoO (plan_Check.cx A_2 c_3 w0 S0) [(13, .slice A_2 l_1.length c_3), (14, .int .i64 (l_1.length : Int)), (15, .int .i64 x_7)] [] [Rd 0 kT_api_Step A_2 c_3 l_1] [.code c47_15, .inLoop c47_15, .inBlock 0, .code c47_33] (plan_Check.l0 n l_1 k x_7) := by
  intro k
  induction k with
  | zero => intros; rw [plan_Check.l0.eq_1]; exact GoO.stop
  | succ k ih0 =>
    intro x_7
    rw [plan_Check.l0.eq_2]
    refine GoO.seq' c47_15e ?_
    refine GoO.region' (is := [0]) c47_16e (by kernel_rfl) ?_
    refine GoO.exec (is := [0]) (hs := [.p]) (rest := []) (ks := [13, 14, 15, 16]) (env' := [(13, .slice A_2 l_1.length c_3), (14, .int .i64 (l_1.length : Int)), (15, .int .i64 x_7), (16, .bool (decide (x_7 < (l_1.length : Int))))]) (H' := []) (ps := []) (by kernel_rfl) trivial ?_
    refine GoO.regionEnd ?_
    refine GoO.seq' c47_17e ?_
    refine GoO.ite' c47_18e (by kernel_rfl) (fun h8 => ?_) (fun h8 => ?_)
    · refine GoO.skip' c47_19e ?_
      refine GoO.seq' c47_21e ?_
      refine GoO.block' c47_22e ?_
      refine GoO.seq' c47_23e ?_
      refine GoO.region' (is := [0, 1, 2, 3]) c47_24e (by kernel_rfl) ?_
      refine GoO.guard (fun h9 => ?_)
      refine OpTo.go (GoO.idx (kk := .i64) (e := 50) (K := kT_api_Step) (A := A_2) (c := c_3) (xs := l_1) (iv := x_7) (j := 0) rfl (by kernel_rfl) (by kernel_rfl) (by kernel_rfl) (by kernel_rfl) rfl Reads.rd rfl h9.1 h9.2 (by decide) rfl ?_)
      refine OpTo.go (GoO.ldE' (K := kT_api_Step) (A := A_2) (c := c_3) (xs := l_1) (iN := x_7.toNat) (off := 0) (j := 0) rfl (by kernel_rfl) rfl Reads.rd (idx_lt h9.1 h9.2) (by decide) (Opn.flat _ _ _ _ _) (v := fun _ => .agg ⟨[.int .i64 ((rdL l_1 x_7).Part), .string (bs ((rdL l_1 x_7).Name)), .int .i64 ((rdL l_1 x_7).Budget)]⟩) (fun _ => by kernel_rfl) _ (fun _ => rfl) (fun _ => ?_))
      refine OpTo.go (GoO.new rfl 40 (cs := [.int .i64 0, .string (bs []), .int .i64 0]) (by kernel_rfl) _ (fun _ => rfl) (fun b_10 => ?_))
      refine GoO.exec (is := [3]) (hs := [.b 0]) (rest := []) (ks := [4, 13, 14, 15]) (env' := [(4, .pointer (some ⟨b_10, 0, none⟩)), (13, .slice A_2 l_1.length c_3), (14, .int .i64 (l_1.length : Int)), (15, .int .i64 x_7)]) (H' := [⟨40, b_10, [.int .i64 ((rdL l_1 x_7).Part), .string (bs ((rdL l_1 x_7).Name)), .int .i64 ((rdL l_1 x_7).Budget)]⟩]) (ps := [b_10 = b_10]) (by kernel_rfl) (And.intro rfl trivial) ?_
      refine GoO.regionEnd ?_
      refine GoO.seq' c47_25e ?_
      refine GoO.region' (is := [0, 1, 2, 3, 4, 5, 6, 7, 8, 9, 10, 11, 12, 13, 14, 15, 16, 17, 18, 19, 20, 21, 22, 23, 24, 25, 26, 27, 28]) c47_26e (by kernel_rfl) ?_
      refine GoO.exec (is := [0, 1, 2, 3]) (hs := [.p, .b 0, .p, .p]) (rest := [4, 5, 6, 7, 8, 9, 10, 11, 12, 13, 14, 15, 16, 17, 18, 19, 20, 21, 22, 23, 24, 25, 26, 27, 28]) (ks := [4, 13, 14, 15, 22]) (env' := [(4, .pointer (some ⟨b_10, 0, none⟩)), (13, .slice A_2 l_1.length c_3), (14, .int .i64 (l_1.length : Int)), (15, .int .i64 x_7), (22, .bool (decide (((rdL l_1 x_7).Part) < 0)))]) (H' := [⟨40, b_10, [.int .i64 ((rdL l_1 x_7).Part), .string (bs ((rdL l_1 x_7).Name)), .int .i64 ((rdL l_1 x_7).Budget)]⟩]) (ps := [b_10 = b_10]) (by kernel_rfl) (And.intro rfl trivial) ?_
      refine GoO.bsplit (t := 22) (by kernel_rfl) (fun h11 => ?_) (fun h11 => ?_)
      · refine GoO.exec (is := [4, 5, 6, 7, 8, 9, 10, 11, 12, 13, 14, 15, 16, 17, 18, 19, 20, 21, 22, 23, 24, 25, 26, 27, 28]) (hs := [.p, .p, .p, .p, .p, .p, .p, .p, .p, .p, .p, .p, .p, .p, .p, .p, .p, .p, .p, .p, .p, .p, .p, .p, .p]) (rest := []) (ks := [13, 14, 15, 47]) (env' := [(13, .slice A_2 l_1.length c_3), (14, .int .i64 (l_1.length : Int)), (15, .int .i64 x_7), (47, .bool true)]) (H' := [⟨40, b_10, [.int .i64 ((rdL l_1 x_7).Part), .string (bs ((rdL l_1 x_7).Name)), .int .i64 ((rdL l_1 x_7).Budget)]⟩]) (ps := []) (by kernel_rfl) trivial ?_
        refine GoO.regionEnd ?_
        exact GoO.sub (ks := [13, 14, 15, 47]) (hk := []) (bk := [0]) (by kernel_rfl) (by kernel_rfl) (by kernel_rfl) (plan_Check_j1_ok n (plan_Check.l0 n l_1 k) l_1 x_7 A_2 c_3 w0 S0 ih0 true)
      · refine GoO.exec (is := [4, 5, 6, 7, 8]) (hs := [.p, .b 0, .p, .p, .p]) (rest := [9, 10, 11, 12, 13, 14, 15, 16, 17, 18, 19, 20, 21, 22, 23, 24, 25, 26, 27, 28]) (ks := [4, 13, 14, 15, 27]) (env' := [(4, .pointer (some ⟨b_10, 0, none⟩)), (13, .slice A_2 l_1.length c_3), (14, .int .i64 (l_1.length : Int)), (15, .int .i64 x_7), (27, .bool (decide (((rdL l_1 x_7).Part) ≥ 4)))]) (H' := [⟨40, b_10, [.int .i64 ((rdL l_1 x_7).Part), .string (bs ((rdL l_1 x_7).Name)), .int .i64 ((rdL l_1 x_7).Budget)]⟩]) (ps := [b_10 = b_10]) (by kernel_rfl) (And.intro rfl trivial) ?_
        refine GoO.bsplit (t := 27) (by kernel_rfl) (fun h12 => ?_) (fun h12 => ?_)
        · refine GoO.exec (is := [9, 10, 11, 12, 13, 14, 15, 16, 17, 18, 19, 20, 21, 22, 23, 24, 25, 26, 27, 28]) (hs := [.p, .p, .p, .p, .p, .p, .p, .p, .p, .p, .p, .p, .p, .p, .p, .p, .p, .p, .p, .p]) (rest := []) (ks := [13, 14, 15, 47]) (env' := [(13, .slice A_2 l_1.length c_3), (14, .int .i64 (l_1.length : Int)), (15, .int .i64 x_7), (47, .bool true)]) (H' := [⟨40, b_10, [.int .i64 ((rdL l_1 x_7).Part), .string (bs ((rdL l_1 x_7).Name)), .int .i64 ((rdL l_1 x_7).Budget)]⟩]) (ps := []) (by kernel_rfl) trivial ?_
          refine GoO.regionEnd ?_
          exact GoO.sub (ks := [13, 14, 15, 47]) (hk := []) (bk := [0]) (by kernel_rfl) (by kernel_rfl) (by kernel_rfl) (plan_Check_j1_ok n (plan_Check.l0 n l_1 k) l_1 x_7 A_2 c_3 w0 S0 ih0 true)
        · refine GoO.exec (is := [9, 10, 11, 12, 13]) (hs := [.p, .b 0, .p, .p, .p]) (rest := [14, 15, 16, 17, 18, 19, 20, 21, 22, 23, 24, 25, 26, 27, 28]) (ks := [4, 13, 14, 15, 32]) (env' := [(4, .pointer (some ⟨b_10, 0, none⟩)), (13, .slice A_2 l_1.length c_3), (14, .int .i64 (l_1.length : Int)), (15, .int .i64 x_7), (32, .bool (((rdL l_1 x_7).Name) == ([] : List UInt8)))]) (H' := [⟨40, b_10, [.int .i64 ((rdL l_1 x_7).Part), .string (bs ((rdL l_1 x_7).Name)), .int .i64 ((rdL l_1 x_7).Budget)]⟩]) (ps := [b_10 = b_10]) (by kernel_rfl) (And.intro rfl trivial) ?_
          refine GoO.bsplit (t := 32) (by kernel_rfl) (fun h13 => ?_) (fun h13 => ?_)
          · refine GoO.exec (is := [14, 15, 16, 17, 18, 19, 20, 21, 22, 23, 24, 25, 26, 27, 28]) (hs := [.p, .p, .p, .p, .p, .p, .p, .p, .p, .p, .p, .p, .p, .p, .p]) (rest := []) (ks := [13, 14, 15, 47]) (env' := [(13, .slice A_2 l_1.length c_3), (14, .int .i64 (l_1.length : Int)), (15, .int .i64 x_7), (47, .bool true)]) (H' := [⟨40, b_10, [.int .i64 ((rdL l_1 x_7).Part), .string (bs ((rdL l_1 x_7).Name)), .int .i64 ((rdL l_1 x_7).Budget)]⟩]) (ps := []) (by kernel_rfl) trivial ?_
            refine GoO.regionEnd ?_
            exact GoO.sub (ks := [13, 14, 15, 47]) (hk := []) (bk := [0]) (by kernel_rfl) (by kernel_rfl) (by kernel_rfl) (plan_Check_j1_ok n (plan_Check.l0 n l_1 k) l_1 x_7 A_2 c_3 w0 S0 ih0 true)
          · refine GoO.exec (is := [14, 15, 16, 17, 18, 19]) (hs := [.p, .b 0, .p, .p, .p, .p]) (rest := [20, 21, 22, 23, 24, 25, 26, 27, 28]) (ks := [4, 13, 14, 15, 38]) (env' := [(4, .pointer (some ⟨b_10, 0, none⟩)), (13, .slice A_2 l_1.length c_3), (14, .int .i64 (l_1.length : Int)), (15, .int .i64 x_7), (38, .bool (decide ((((rdL l_1 x_7).Name).length : Int) > 16)))]) (H' := [⟨40, b_10, [.int .i64 ((rdL l_1 x_7).Part), .string (bs ((rdL l_1 x_7).Name)), .int .i64 ((rdL l_1 x_7).Budget)]⟩]) (ps := [b_10 = b_10]) (by kernel_rfl) (And.intro rfl trivial) ?_
            refine GoO.bsplit (t := 38) (by kernel_rfl) (fun h14 => ?_) (fun h14 => ?_)
            · refine GoO.exec (is := [20, 21, 22, 23, 24, 25, 26, 27, 28]) (hs := [.p, .p, .p, .p, .p, .p, .p, .p, .p]) (rest := []) (ks := [13, 14, 15, 47]) (env' := [(13, .slice A_2 l_1.length c_3), (14, .int .i64 (l_1.length : Int)), (15, .int .i64 x_7), (47, .bool true)]) (H' := [⟨40, b_10, [.int .i64 ((rdL l_1 x_7).Part), .string (bs ((rdL l_1 x_7).Name)), .int .i64 ((rdL l_1 x_7).Budget)]⟩]) (ps := []) (by kernel_rfl) trivial ?_
              refine GoO.regionEnd ?_
              exact GoO.sub (ks := [13, 14, 15, 47]) (hk := []) (bk := [0]) (by kernel_rfl) (by kernel_rfl) (by kernel_rfl) (plan_Check_j1_ok n (plan_Check.l0 n l_1 k) l_1 x_7 A_2 c_3 w0 S0 ih0 true)
            · refine GoO.exec (is := [20, 21, 22, 23, 24]) (hs := [.p, .b 0, .p, .p, .p]) (rest := [25, 26, 27, 28]) (ks := [4, 13, 14, 15, 43]) (env' := [(4, .pointer (some ⟨b_10, 0, none⟩)), (13, .slice A_2 l_1.length c_3), (14, .int .i64 (l_1.length : Int)), (15, .int .i64 x_7), (43, .bool (decide (((rdL l_1 x_7).Budget) < 1)))]) (H' := [⟨40, b_10, [.int .i64 ((rdL l_1 x_7).Part), .string (bs ((rdL l_1 x_7).Name)), .int .i64 ((rdL l_1 x_7).Budget)]⟩]) (ps := [b_10 = b_10]) (by kernel_rfl) (And.intro rfl trivial) ?_
              refine GoO.bsplit (t := 43) (by kernel_rfl) (fun h15 => ?_) (fun h15 => ?_)
              · refine GoO.exec (is := [25, 26, 27, 28]) (hs := [.p, .p, .p, .p]) (rest := []) (ks := [13, 14, 15, 47]) (env' := [(13, .slice A_2 l_1.length c_3), (14, .int .i64 (l_1.length : Int)), (15, .int .i64 x_7), (47, .bool true)]) (H' := [⟨40, b_10, [.int .i64 ((rdL l_1 x_7).Part), .string (bs ((rdL l_1 x_7).Name)), .int .i64 ((rdL l_1 x_7).Budget)]⟩]) (ps := []) (by kernel_rfl) trivial ?_
                refine GoO.regionEnd ?_
                exact GoO.sub (ks := [13, 14, 15, 47]) (hk := []) (bk := [0]) (by kernel_rfl) (by kernel_rfl) (by kernel_rfl) (plan_Check_j1_ok n (plan_Check.l0 n l_1 k) l_1 x_7 A_2 c_3 w0 S0 ih0 true)
              · refine GoO.exec (is := [25, 26, 27, 28]) (hs := [.p, .b 0, .p, .p]) (rest := []) (ks := [13, 14, 15, 47]) (env' := [(13, .slice A_2 l_1.length c_3), (14, .int .i64 (l_1.length : Int)), (15, .int .i64 x_7), (47, .bool (decide (((rdL l_1 x_7).Budget) > 9)))]) (H' := [⟨40, b_10, [.int .i64 ((rdL l_1 x_7).Part), .string (bs ((rdL l_1 x_7).Name)), .int .i64 ((rdL l_1 x_7).Budget)]⟩]) (ps := [b_10 = b_10]) (by kernel_rfl) (And.intro rfl trivial) ?_
                refine GoO.regionEnd ?_
                exact GoO.sub (ks := [13, 14, 15, 47]) (hk := []) (bk := [0]) (by kernel_rfl) (by kernel_rfl) (by kernel_rfl) (plan_Check_j1_ok n (plan_Check.l0 n l_1 k) l_1 x_7 A_2 c_3 w0 S0 ih0 (decide (((rdL l_1 x_7).Budget) > 9)))
    · refine GoO.exit' c47_20e rfl ?_
      refine GoO.seq' c47_33e ?_
      refine GoO.region' (is := [0]) c47_34e (by kernel_rfl) ?_
      refine GoO.exec (is := [0]) (hs := [.p]) (rest := []) (ks := [2]) (env' := [(2, .int .i64 0)]) (H' := []) (ps := []) (by kernel_rfl) trivial ?_
      refine GoO.regionEnd ?_
      exact GoO.ret' (h := c47_35e) (hs := []) (ps := []) (hk := []) (bk := []) Try.func47 () (by kernel_rfl) trivial (by kernel_rfl) (by kernel_rfl)
theorem plan_Check_j0_ok (n : Nat) (l_1 : (List T_api_Step)) (A_2 : Option Addr) (c_3 : Nat) (w0 : World) (S0 : Fam) (b_5 : Bool) :
    GoO (plan_Check.cx A_2 c_3 w0 S0) [(0, .slice A_2 l_1.length c_3), (12, .bool b_5)] [] [Rd 0 kT_api_Step A_2 c_3 l_1] [.code c47_5, .code c47_10] (plan_Check.j0 n l_1 b_5) := by
  unfold plan_Check.j0
  refine GoO.ite' c47_5e (by kernel_rfl) (fun h6 => ?_) (fun h6 => ?_)
  · refine GoO.seq' c47_6e ?_
    refine GoO.region' (is := [0]) c47_7e (by kernel_rfl) ?_
    refine GoO.exec (is := [0]) (hs := [.p]) (rest := []) (ks := [2]) (env' := [(2, .int .i64 44)]) (H' := []) (ps := []) (by kernel_rfl) trivial ?_
    refine GoO.regionEnd ?_
    exact GoO.ret' (h := c47_8e) (hs := []) (ps := []) (hk := []) (bk := []) Try.func47 () (by kernel_rfl) trivial (by kernel_rfl) (by kernel_rfl)
  · refine GoO.skip' c47_9e ?_
    refine GoO.seq' c47_10e ?_
    refine GoO.seq' c47_11e ?_
    refine GoO.region' (is := [0, 1, 2]) c47_12e (by kernel_rfl) ?_
    refine GoO.exec (is := [0, 1, 2]) (hs := [.p, .p, .p]) (rest := []) (ks := [13, 14, 15]) (env' := [(13, .slice A_2 l_1.length c_3), (14, .int .i64 (l_1.length : Int)), (15, .int .i64 0)]) (H' := []) (ps := []) (by kernel_rfl) trivial ?_
    refine GoO.regionEnd ?_
    refine GoO.block' c47_13e ?_
    refine GoO.loop' c47_14e ?_
    exact GoO.sub (ks := [13, 14, 15]) (hk := []) (bk := [0]) (by kernel_rfl) (by kernel_rfl) (by kernel_rfl) (plan_Check_l0_ok n l_1 A_2 c_3 w0 S0 n 0)
theorem plan_Check_ok (n : Nat) (l_1 : (List T_api_Step)) (A_2 : Option Addr) (c_3 : Nat) :
    Meets Try.prog 47 [.slice A_2 l_1.length c_3] 0 [] [] [Rd 0 kT_api_Step A_2 c_3 l_1] (plan_Check.f n l_1) (plan_Check.R A_2 c_3) := by
  refine Meets.of (c := c47_0) (n := 49) Try.func47 (by kernel_rfl) (by kernel_rfl) (by kernel_rfl) fun w0 S0 => ?_
  unfold plan_Check.f
  show GoO (plan_Check.cx A_2 c_3 w0 S0) [(0, .slice A_2 l_1.length c_3)] [] [Rd 0 kT_api_Step A_2 c_3 l_1] [.code c47_0] _
  refine GoO.seq' c47_0e ?_
  refine GoO.region' (is := [0]) c47_1e (by kernel_rfl) ?_
  refine GoO.exec (is := [0]) (hs := [.p]) (rest := []) (ks := [0]) (env' := [(0, .slice A_2 l_1.length c_3)]) (H' := []) (ps := []) (by kernel_rfl) trivial ?_
  refine GoO.regionEnd ?_
  refine GoO.seq' c47_2e ?_
  refine GoO.seq' c47_3e ?_
  refine GoO.region' (is := [0, 1, 2, 3, 4, 5, 6, 7]) c47_4e (by kernel_rfl) ?_
  refine GoO.exec (is := [0, 1, 2, 3]) (hs := [.p, .p, .p, .p]) (rest := [4, 5, 6, 7]) (ks := [0, 8]) (env' := [(0, .slice A_2 l_1.length c_3), (8, .bool (decide ((l_1.length : Int) < 1)))]) (H' := []) (ps := []) (by kernel_rfl) trivial ?_
  refine GoO.bsplit (t := 8) (by kernel_rfl) (fun h4 => ?_) (fun h4 => ?_)
  · refine GoO.exec (is := [4, 5, 6, 7]) (hs := [.p, .p, .p, .p]) (rest := []) (ks := [0, 12]) (env' := [(0, .slice A_2 l_1.length c_3), (12, .bool true)]) (H' := []) (ps := []) (by kernel_rfl) trivial ?_
    refine GoO.regionEnd ?_
    exact GoO.sub (ks := [0, 12]) (hk := []) (bk := [0]) (by kernel_rfl) (by kernel_rfl) (by kernel_rfl) (plan_Check_j0_ok n l_1 A_2 c_3 w0 S0 true)
  · refine GoO.exec (is := [4, 5, 6, 7]) (hs := [.p, .p, .p, .p]) (rest := []) (ks := [0, 12]) (env' := [(0, .slice A_2 l_1.length c_3), (12, .bool (decide ((l_1.length : Int) > 64)))]) (H' := []) (ps := []) (by kernel_rfl) trivial ?_
    refine GoO.regionEnd ?_
    exact GoO.sub (ks := [0, 12]) (hk := []) (bk := [0]) (by kernel_rfl) (by kernel_rfl) (by kernel_rfl) (plan_Check_j0_ok n l_1 A_2 c_3 w0 S0 (decide ((l_1.length : Int) > 64)))

/-! tontine/command.May -/
noncomputable def c18_0 : Code := bodyOf Try.f18
noncomputable def c18_1 : Code := cdL c18_0
noncomputable def c18_2 : Code := cdR c18_0
noncomputable def c18_3 : Code := cdL c18_2
noncomputable def c18_4 : Code := cdL c18_3
noncomputable def c18_5 : Code := cdR c18_3
noncomputable def c18_6 : Code := cdL c18_5
noncomputable def c18_7 : Code := cdL c18_6
noncomputable def c18_8 : Code := cdL c18_7
noncomputable def c18_9 : Code := cdR c18_7
noncomputable def c18_10 : Code := cdL c18_9
noncomputable def c18_11 : Code := cdR c18_9
noncomputable def c18_12 : Code := cdL c18_11
noncomputable def c18_13 : Code := cdR c18_11
noncomputable def c18_14 : Code := cdL c18_13
noncomputable def c18_15 : Code := cdR c18_13
noncomputable def c18_16 : Code := cdR c18_6
noncomputable def c18_17 : Code := cdL c18_16
noncomputable def c18_18 : Code := cdL c18_17
noncomputable def c18_19 : Code := cdR c18_17
noncomputable def c18_20 : Code := cdR c18_16
noncomputable def c18_21 : Code := cdL c18_20
noncomputable def c18_22 : Code := cdR c18_20
noncomputable def c18_23 : Code := cdL c18_22
noncomputable def c18_24 : Code := cdL c18_23
noncomputable def c18_25 : Code := cdR c18_23
noncomputable def c18_26 : Code := cdR c18_22
noncomputable def c18_27 : Code := cdL c18_26
noncomputable def c18_28 : Code := cdR c18_26
noncomputable def c18_29 : Code := cdL c18_28
noncomputable def c18_30 : Code := cdL c18_29
noncomputable def c18_31 : Code := cdR c18_29
noncomputable def c18_32 : Code := cdR c18_28
noncomputable def c18_33 : Code := cdR c18_2
noncomputable def c18_34 : Code := cdL c18_33
noncomputable def c18_35 : Code := cdR c18_33
noncomputable def r18_1 : Array Oper := cdO c18_1
noncomputable def r18_4 : Array Oper := cdO c18_4
noncomputable def r18_8 : Array Oper := cdO c18_8
noncomputable def r18_12 : Array Oper := cdO c18_12
noncomputable def r18_15 : Array Oper := cdO c18_15
noncomputable def r18_18 : Array Oper := cdO c18_18
noncomputable def r18_21 : Array Oper := cdO c18_21
noncomputable def r18_24 : Array Oper := cdO c18_24
noncomputable def r18_27 : Array Oper := cdO c18_27
noncomputable def r18_30 : Array Oper := cdO c18_30
noncomputable def r18_34 : Array Oper := cdO c18_34
theorem c18_0e : c18_0 = .seq c18_1 c18_2 := by kernel_rfl
theorem c18_1e : c18_1 = .region 0 r18_1 false := by kernel_rfl
theorem c18_2e : c18_2 = .seq c18_3 c18_33 := by kernel_rfl
theorem c18_3e : c18_3 = .seq c18_4 c18_5 := by kernel_rfl
theorem c18_4e : c18_4 = .region 1 r18_4 false := by kernel_rfl
theorem c18_5e : c18_5 = .block 0 c18_6 := by kernel_rfl
theorem c18_6e : c18_6 = .seq c18_7 c18_16 := by kernel_rfl
theorem c18_7e : c18_7 = .seq c18_8 c18_9 := by kernel_rfl
theorem c18_8e : c18_8 = .region 2 r18_8 false := by kernel_rfl
theorem c18_9e : c18_9 = .cond (cdC c18_9) c18_10 c18_11 := by kernel_rfl
theorem c18_10e : c18_10 = .skip := by kernel_rfl
theorem c18_11e : c18_11 = .seq c18_12 c18_13 := by kernel_rfl
theorem c18_12e : c18_12 = .region 3 r18_12 false := by kernel_rfl
theorem c18_13e : c18_13 = .cond (cdC c18_13) c18_14 c18_15 := by kernel_rfl
theorem c18_14e : c18_14 = .skip := by kernel_rfl
theorem c18_15e : c18_15 = .region 4 r18_15 false := by kernel_rfl
theorem c18_16e : c18_16 = .cond (cdC c18_16) c18_17 c18_20 := by kernel_rfl
theorem c18_17e : c18_17 = .seq c18_18 c18_19 := by kernel_rfl
theorem c18_18e : c18_18 = .region 5 r18_18 false := by kernel_rfl
theorem c18_19e : c18_19 = .ret := by kernel_rfl
theorem c18_20e : c18_20 = .seq c18_21 c18_22 := by kernel_rfl
theorem c18_21e : c18_21 = .region 6 r18_21 false := by kernel_rfl
theorem c18_22e : c18_22 = .cond (cdC c18_22) c18_23 c18_26 := by kernel_rfl
theorem c18_23e : c18_23 = .seq c18_24 c18_25 := by kernel_rfl
theorem c18_24e : c18_24 = .region 7 r18_24 false := by kernel_rfl
theorem c18_25e : c18_25 = .ret := by kernel_rfl
theorem c18_26e : c18_26 = .seq c18_27 c18_28 := by kernel_rfl
theorem c18_27e : c18_27 = .region 8 r18_27 false := by kernel_rfl
theorem c18_28e : c18_28 = .cond (cdC c18_28) c18_29 c18_32 := by kernel_rfl
theorem c18_29e : c18_29 = .seq c18_30 c18_31 := by kernel_rfl
theorem c18_30e : c18_30 = .region 9 r18_30 false := by kernel_rfl
theorem c18_31e : c18_31 = .ret := by kernel_rfl
theorem c18_32e : c18_32 = .skip := by kernel_rfl
theorem c18_33e : c18_33 = .seq c18_34 c18_35 := by kernel_rfl
theorem c18_34e : c18_34 = .region 10 r18_34 false := by kernel_rfl
theorem c18_35e : c18_35 = .ret := by kernel_rfl
noncomputable def command_May.R (A_2 : Option Addr) (c_3 : Nat) : Pst Bool where
  ε := Unit
  v := fun r x => .bool r
  H := fun r x => []
  B := fun r x => []
noncomputable def command_May.cx (A_2 : Option Addr) (c_3 : Nat) (w0 : World) (S0 : Fam) : Cx Bool := ⟨Try.prog, 18, Try.f18, 95, w0, S0, [], 0, command_May.R A_2 c_3⟩
theorem command_May_j1_ok (n : Nat) (A_2 : Option Addr) (c_3 : Nat) (w0 : World) (S0 : Fam) (b_13 : Bool) :
    GoO (command_May.cx A_2 c_3 w0 S0) [(2, .bool b_13)] [] [] [.code c18_19, .inBlock 0, .code c18_33] (command_May.j1 n b_13) := by
  unfold command_May.j1
  exact GoO.ret' (h := c18_19e) (hs := []) (ps := []) (hk := []) (bk := []) Try.func18 () (by kernel_rfl) trivial (by kernel_rfl) (by kernel_rfl)
theorem command_May_j2_ok (n : Nat) (A_2 : Option Addr) (c_3 : Nat) (w0 : World) (S0 : Fam) (b_20 : Bool) :
    GoO (command_May.cx A_2 c_3 w0 S0) [(2, .bool b_20)] [] [] [.code c18_25, .inBlock 0, .code c18_33] (command_May.j2 n b_20) := by
  unfold command_May.j2
  exact GoO.ret' (h := c18_25e) (hs := []) (ps := []) (hk := []) (bk := []) Try.func18 () (by kernel_rfl) trivial (by kernel_rfl) (by kernel_rfl)
theorem command_May_j3_ok (n : Nat) (A_2 : Option Addr) (c_3 : Nat) (w0 : World) (S0 : Fam) (b_28 : Bool) :
    GoO (command_May.cx A_2 c_3 w0 S0) [(2, .bool b_28)] [] [] [.code c18_31, .inBlock 0, .code c18_33] (command_May.j3 n b_28) := by
  unfold command_May.j3
  exact GoO.ret' (h := c18_31e) (hs := []) (ps := []) (hk := []) (bk := []) Try.func18 () (by kernel_rfl) trivial (by kernel_rfl) (by kernel_rfl)
theorem command_May_j0_ok (n : Nat) (c_1 : T_api_Command) (A_2 : Option Addr) (c_3 : Nat) (b_4 : Nat) (w0 : World) (S0 : Fam) (b_7 : Bool) :
    GoO (command_May.cx A_2 c_3 w0 S0) [(1, .pointer (some ⟨b_4, 0, none⟩)), (4, .int .i64 c_1.Kind), (5, .bool b_7)] [⟨40, b_4, [.int .i64 c_1.Kind, .int .u64 c_1.Session, .int .u64 c_1.Seq, .int .u64 c_1.Saga, .slice A_2 c_1.Steps.length c_3, .int .i64 c_1.Step, .bool c_1.Back, .int .i64 c_1.Try, .bool c_1.Ok, .int .u64 c_1.Now]⟩] [Rd 0 kT_api_Step A_2 c_3 c_1.Steps] [.code c18_16, .inBlock 0, .code c18_33] (command_May.j0 n c_1 b_7) := by
  unfold command_May.j0
  refine GoO.ite' c18_16e (by kernel_rfl) (fun h8 => ?_) (fun h8 => ?_)
  · refine GoO.seq' c18_17e ?_
    refine GoO.region' (is := [0, 1, 2, 3, 4, 5, 6, 7, 8, 9, 10, 11, 12, 13, 14, 15, 16, 17, 18, 19, 20, 21, 22, 23, 24]) c18_18e (by kernel_rfl) ?_
    refine GoO.exec (is := [0, 1, 2, 3, 4]) (hs := [.p, .b 0, .p, .p, .p]) (rest := [5, 6, 7, 8, 9, 10, 11, 12, 13, 14, 15, 16, 17, 18, 19, 20, 21, 22, 23, 24]) (ks := [1, 13]) (env' := [(1, .pointer (some ⟨b_4, 0, none⟩)), (13, .bool ((c_1.Steps.length : Int) == 0))]) (H' := [⟨40, b_4, [.int .i64 c_1.Kind, .int .u64 c_1.Session, .int .u64 c_1.Seq, .int .u64 c_1.Saga, .slice A_2 c_1.Steps.length c_3, .int .i64 c_1.Step, .bool c_1.Back, .int .i64 c_1.Try, .bool c_1.Ok, .int .u64 c_1.Now]⟩]) (ps := [b_4 = b_4]) (by kernel_rfl) (And.intro rfl trivial) ?_
    refine GoO.bsplit (t := 13) (by kernel_rfl) (fun h9 => ?_) (fun h9 => ?_)
    · refine GoO.exec (is := [5, 6, 7, 8, 9]) (hs := [.p, .b 0, .p, .p, .p]) (rest := [10, 11, 12, 13, 14, 15, 16, 17, 18, 19, 20, 21, 22, 23, 24]) (ks := [1, 18]) (env' := [(1, .pointer (some ⟨b_4, 0, none⟩)), (18, .bool (c_1.Step == 0))]) (H' := [⟨40, b_4, [.int .i64 c_1.Kind, .int .u64 c_1.Session, .int .u64 c_1.Seq, .int .u64 c_1.Saga, .slice A_2 c_1.Steps.length c_3, .int .i64 c_1.Step, .bool c_1.Back, .int .i64 c_1.Try, .bool c_1.Ok, .int .u64 c_1.Now]⟩]) (ps := [b_4 = b_4]) (by kernel_rfl) (And.intro rfl trivial) ?_
      refine GoO.bsplit (t := 18) (by kernel_rfl) (fun h10 => ?_) (fun h10 => ?_)
      · refine GoO.exec (is := [10, 11, 12, 13, 14]) (hs := [.p, .b 0, .p, .p, .p]) (rest := [15, 16, 17, 18, 19, 20, 21, 22, 23, 24]) (ks := [1, 23]) (env' := [(1, .pointer (some ⟨b_4, 0, none⟩)), (23, .bool (!c_1.Back))]) (H' := [⟨40, b_4, [.int .i64 c_1.Kind, .int .u64 c_1.Session, .int .u64 c_1.Seq, .int .u64 c_1.Saga, .slice A_2 c_1.Steps.length c_3, .int .i64 c_1.Step, .bool c_1.Back, .int .i64 c_1.Try, .bool c_1.Ok, .int .u64 c_1.Now]⟩]) (ps := [b_4 = b_4]) (by kernel_rfl) (And.intro rfl trivial) ?_
        refine GoO.bsplit (t := 23) (by kernel_rfl) (fun h11 => ?_) (fun h11 => ?_)
        · refine GoO.exec (is := [15, 16, 17, 18, 19]) (hs := [.p, .b 0, .p, .p, .p]) (rest := [20, 21, 22, 23, 24]) (ks := [1, 28]) (env' := [(1, .pointer (some ⟨b_4, 0, none⟩)), (28, .bool (c_1.Try == 0))]) (H' := [⟨40, b_4, [.int .i64 c_1.Kind, .int .u64 c_1.Session, .int .u64 c_1.Seq, .int .u64 c_1.Saga, .slice A_2 c_1.Steps.length c_3, .int .i64 c_1.Step, .bool c_1.Back, .int .i64 c_1.Try, .bool c_1.Ok, .int .u64 c_1.Now]⟩]) (ps := [b_4 = b_4]) (by kernel_rfl) (And.intro rfl trivial) ?_
          refine GoO.bsplit (t := 28) (by kernel_rfl) (fun h12 => ?_) (fun h12 => ?_)
          · refine GoO.exec (is := [20, 21, 22, 23, 24]) (hs := [.p, .b 0, .p, .p, .p]) (rest := []) (ks := [2]) (env' := [(2, .bool (!c_1.Ok))]) (H' := [⟨40, b_4, [.int .i64 c_1.Kind, .int .u64 c_1.Session, .int .u64 c_1.Seq, .int .u64 c_1.Saga, .slice A_2 c_1.Steps.length c_3, .int .i64 c_1.Step, .bool c_1.Back, .int .i64 c_1.Try, .bool c_1.Ok, .int .u64 c_1.Now]⟩]) (ps := [b_4 = b_4]) (by kernel_rfl) (And.intro rfl trivial) ?_
            refine GoO.regionEnd ?_
            exact GoO.sub (ks := [2]) (hk := []) (bk := []) (by kernel_rfl) (by kernel_rfl) (by kernel_rfl) (command_May_j1_ok n A_2 c_3 w0 S0 (!c_1.Ok))
          · refine GoO.exec (is := [20, 21, 22, 23, 24]) (hs := [.p, .p, .p, .p, .p]) (rest := []) (ks := [2]) (env' := [(2, .bool false)]) (H' := [⟨40, b_4, [.int .i64 c_1.Kind, .int .u64 c_1.Session, .int .u64 c_1.Seq, .int .u64 c_1.Saga, .slice A_2 c_1.Steps.length c_3, .int .i64 c_1.Step, .bool c_1.Back, .int .i64 c_1.Try, .bool c_1.Ok, .int .u64 c_1.Now]⟩]) (ps := []) (by kernel_rfl) trivial ?_
            refine GoO.regionEnd ?_
            exact GoO.sub (ks := [2]) (hk := []) (bk := []) (by kernel_rfl) (by kernel_rfl) (by kernel_rfl) (command_May_j1_ok n A_2 c_3 w0 S0 false)
        · refine GoO.exec (is := [15, 16, 17, 18, 19, 20, 21, 22, 23, 24]) (hs := [.p, .p, .p, .p, .p, .p, .p, .p, .p, .p]) (rest := []) (ks := [2]) (env' := [(2, .bool false)]) (H' := [⟨40, b_4, [.int .i64 c_1.Kind, .int .u64 c_1.Session, .int .u64 c_1.Seq, .int .u64 c_1.Saga, .slice A_2 c_1.Steps.length c_3, .int .i64 c_1.Step, .bool c_1.Back, .int .i64 c_1.Try, .bool c_1.Ok, .int .u64 c_1.Now]⟩]) (ps := []) (by kernel_rfl) trivial ?_
          refine GoO.regionEnd ?_
          exact GoO.sub (ks := [2]) (hk := []) (bk := []) (by kernel_rfl) (by kernel_rfl) (by kernel_rfl) (command_May_j1_ok n A_2 c_3 w0 S0 false)
      · refine GoO.exec (is := [10, 11, 12, 13, 14, 15, 16, 17, 18, 19, 20, 21, 22, 23, 24]) (hs := [.p, .p, .p, .p, .p, .p, .p, .p, .p, .p, .p, .p, .p, .p, .p]) (rest := []) (ks := [2]) (env' := [(2, .bool false)]) (H' := [⟨40, b_4, [.int .i64 c_1.Kind, .int .u64 c_1.Session, .int .u64 c_1.Seq, .int .u64 c_1.Saga, .slice A_2 c_1.Steps.length c_3, .int .i64 c_1.Step, .bool c_1.Back, .int .i64 c_1.Try, .bool c_1.Ok, .int .u64 c_1.Now]⟩]) (ps := []) (by kernel_rfl) trivial ?_
        refine GoO.regionEnd ?_
        exact GoO.sub (ks := [2]) (hk := []) (bk := []) (by kernel_rfl) (by kernel_rfl) (by kernel_rfl) (command_May_j1_ok n A_2 c_3 w0 S0 false)
    · refine GoO.exec (is := [5, 6, 7, 8, 9, 10, 11, 12, 13, 14, 15, 16, 17, 18, 19, 20, 21, 22, 23, 24]) (hs := [.p, .p, .p, .p, .p, .p, .p, .p, .p, .p, .p, .p, .p, .p, .p, .p, .p, .p, .p, .p]) (rest := []) (ks := [2]) (env' := [(2, .bool false)]) (H' := [⟨40, b_4, [.int .i64 c_1.Kind, .int .u64 c_1.Session, .int .u64 c_1.Seq, .int .u64 c_1.Saga, .slice A_2 c_1.Steps.length c_3, .int .i64 c_1.Step, .bool c_1.Back, .int .i64 c_1.Try, .bool c_1.Ok, .int .u64 c_1.Now]⟩]) (ps := []) (by kernel_rfl) trivial ?_
      refine GoO.regionEnd ?_
      exact GoO.sub (ks := [2]) (hk := []) (bk := []) (by kernel_rfl) (by kernel_rfl) (by kernel_rfl) (command_May_j1_ok n A_2 c_3 w0 S0 false)
  · refine GoO.seq' c18_20e ?_
    refine GoO.region' (is := [0, 1]) c18_21e (by kernel_rfl) ?_
    refine GoO.exec (is := [0, 1]) (hs := [.p, .p]) (rest := []) (ks := [1, 4, 33]) (env' := [(1, .pointer (some ⟨b_4, 0, none⟩)), (4, .int .i64 c_1.Kind), (33, .bool (c_1.Kind == 2))]) (H' := [⟨40, b_4, [.int .i64 c_1.Kind, .int .u64 c_1.Session, .int .u64 c_1.Seq, .int .u64 c_1.Saga, .slice A_2 c_1.Steps.length c_3, .int .i64 c_1.Step, .bool c_1.Back, .int .i64 c_1.Try, .bool c_1.Ok, .int .u64 c_1.Now]⟩]) (ps := []) (by kernel_rfl) trivial ?_
    refine GoO.regionEnd ?_
    refine GoO.ite' c18_22e (by kernel_rfl) (fun h14 => ?_) (fun h14 => ?_)
    · refine GoO.seq' c18_23e ?_
      refine GoO.region' (is := [0, 1, 2, 3, 4, 5, 6, 7, 8, 9, 10, 11, 12, 13, 14, 15, 16, 17, 18, 19, 20, 21, 22, 23, 24]) c18_24e (by kernel_rfl) ?_
      refine GoO.exec (is := [0, 1]) (hs := [.p, .b 0]) (rest := [2, 3, 4, 5, 6, 7, 8, 9, 10, 11, 12, 13, 14, 15, 16, 17, 18, 19, 20, 21, 22, 23, 24]) (ks := [1, 36]) (env' := [(1, .pointer (some ⟨b_4, 0, none⟩)), (36, .slice A_2 c_1.Steps.length c_3)]) (H' := [⟨40, b_4, [.int .i64 c_1.Kind, .int .u64 c_1.Session, .int .u64 c_1.Seq, .int .u64 c_1.Saga, .slice A_2 c_1.Steps.length c_3, .int .i64 c_1.Step, .bool c_1.Back, .int .i64 c_1.Try, .bool c_1.Ok, .int .u64 c_1.Now]⟩]) (ps := [b_4 = b_4]) (by kernel_rfl) (And.intro rfl trivial) ?_
      refine OpTo.go (GoO.call rfl (by kernel_rfl) (by kernel_rfl) (plan_Check_ok n c_1.Steps A_2 c_3) [[0]] [] [] [(0, 0)] (hks := [0]) (bks := [0]) (by kernel_rfl) (by kernel_rfl) (by kernel_rfl) (.inl rfl) rfl rfl (by kernel_rfl) (by kernel_rfl) _ (fun _ _ => rfl) _ _ (fun _ _ => rfl) (fun _ _ => rfl) (fun _ _ => by kernel_rfl) (fun _ _ => by kernel_rfl) (fun r_15 x_20 => ?_))
      refine GoO.shape (env' := [(1, .pointer (some ⟨b_4, 0, none⟩)), (36, .slice A_2 c_1.Steps.length c_3), (37, .int .i64 r_15)]) (H' := [⟨40, b_4, [.int .i64 c_1.Kind, .int .u64 c_1.Session, .int .u64 c_1.Seq, .int .u64 c_1.Saga, .slice A_2 c_1.Steps.length c_3, .int .i64 c_1.Step, .bool c_1.Back, .int .i64 c_1.Try, .bool c_1.Ok, .int .u64 c_1.Now]⟩]) (B' := [Rd 0 kT_api_Step A_2 c_3 c_1.Steps]) (ks := [1, 36, 37]) (by kernel_rfl) (by kernel_rfl) (by kernel_rfl) ?_
      refine GoO.exec (is := [3, 4]) (hs := [.p, .p]) (rest := [5, 6, 7, 8, 9, 10, 11, 12, 13, 14, 15, 16, 17, 18, 19, 20, 21, 22, 23, 24]) (ks := [1, 39]) (env' := [(1, .pointer (some ⟨b_4, 0, none⟩)), (39, .bool (r_15 == 0))]) (H' := [⟨40, b_4, [.int .i64 c_1.Kind, .int .u64 c_1.Session, .int .u64 c_1.Seq, .int .u64 c_1.Saga, .slice A_2 c_1.Steps.length c_3, .int .i64 c_1.Step, .bool c_1.Back, .int .i64 c_1.Try, .bool c_1.Ok, .int .u64 c_1.Now]⟩]) (ps := []) (by kernel_rfl) trivial ?_
      refine GoO.bsplit (t := 39) (by kernel_rfl) (fun h16 => ?_) (fun h16 => ?_)
      · refine GoO.exec (is := [5, 6, 7, 8, 9]) (hs := [.p, .b 0, .p, .p, .p]) (rest := [10, 11, 12, 13, 14, 15, 16, 17, 18, 19, 20, 21, 22, 23, 24]) (ks := [1, 44]) (env' := [(1, .pointer (some ⟨b_4, 0, none⟩)), (44, .bool (c_1.Step == 0))]) (H' := [⟨40, b_4, [.int .i64 c_1.Kind, .int .u64 c_1.Session, .int .u64 c_1.Seq, .int .u64 c_1.Saga, .slice A_2 c_1.Steps.length c_3, .int .i64 c_1.Step, .bool c_1.Back, .int .i64 c_1.Try, .bool c_1.Ok, .int .u64 c_1.Now]⟩]) (ps := [b_4 = b_4]) (by kernel_rfl) (And.intro rfl trivial) ?_
        refine GoO.bsplit (t := 44) (by kernel_rfl) (fun h17 => ?_) (fun h17 => ?_)
        · refine GoO.exec (is := [10, 11, 12, 13, 14]) (hs := [.p, .b 0, .p, .p, .p]) (rest := [15, 16, 17, 18, 19, 20, 21, 22, 23, 24]) (ks := [1, 49]) (env' := [(1, .pointer (some ⟨b_4, 0, none⟩)), (49, .bool (!c_1.Back))]) (H' := [⟨40, b_4, [.int .i64 c_1.Kind, .int .u64 c_1.Session, .int .u64 c_1.Seq, .int .u64 c_1.Saga, .slice A_2 c_1.Steps.length c_3, .int .i64 c_1.Step, .bool c_1.Back, .int .i64 c_1.Try, .bool c_1.Ok, .int .u64 c_1.Now]⟩]) (ps := [b_4 = b_4]) (by kernel_rfl) (And.intro rfl trivial) ?_
          refine GoO.bsplit (t := 49) (by kernel_rfl) (fun h18 => ?_) (fun h18 => ?_)
          · refine GoO.exec (is := [15, 16, 17, 18, 19]) (hs := [.p, .b 0, .p, .p, .p]) (rest := [20, 21, 22, 23, 24]) (ks := [1, 54]) (env' := [(1, .pointer (some ⟨b_4, 0, none⟩)), (54, .bool (c_1.Try == 0))]) (H' := [⟨40, b_4, [.int .i64 c_1.Kind, .int .u64 c_1.Session, .int .u64 c_1.Seq, .int .u64 c_1.Saga, .slice A_2 c_1.Steps.length c_3, .int .i64 c_1.Step, .bool c_1.Back, .int .i64 c_1.Try, .bool c_1.Ok, .int .u64 c_1.Now]⟩]) (ps := [b_4 = b_4]) (by kernel_rfl) (And.intro rfl trivial) ?_
            refine GoO.bsplit (t := 54) (by kernel_rfl) (fun h19 => ?_) (fun h19 => ?_)
            · refine GoO.exec (is := [20, 21, 22, 23, 24]) (hs := [.p, .b 0, .p, .p, .p]) (rest := []) (ks := [2]) (env' := [(2, .bool (!c_1.Ok))]) (H' := [⟨40, b_4, [.int .i64 c_1.Kind, .int .u64 c_1.Session, .int .u64 c_1.Seq, .int .u64 c_1.Saga, .slice A_2 c_1.Steps.length c_3, .int .i64 c_1.Step, .bool c_1.Back, .int .i64 c_1.Try, .bool c_1.Ok, .int .u64 c_1.Now]⟩]) (ps := [b_4 = b_4]) (by kernel_rfl) (And.intro rfl trivial) ?_
              refine GoO.regionEnd ?_
              exact GoO.sub (ks := [2]) (hk := []) (bk := []) (by kernel_rfl) (by kernel_rfl) (by kernel_rfl) (command_May_j2_ok n A_2 c_3 w0 S0 (!c_1.Ok))
            · refine GoO.exec (is := [20, 21, 22, 23, 24]) (hs := [.p, .p, .p, .p, .p]) (rest := []) (ks := [2]) (env' := [(2, .bool false)]) (H' := [⟨40, b_4, [.int .i64 c_1.Kind, .int .u64 c_1.Session, .int .u64 c_1.Seq, .int .u64 c_1.Saga, .slice A_2 c_1.Steps.length c_3, .int .i64 c_1.Step, .bool c_1.Back, .int .i64 c_1.Try, .bool c_1.Ok, .int .u64 c_1.Now]⟩]) (ps := []) (by kernel_rfl) trivial ?_
              refine GoO.regionEnd ?_
              exact GoO.sub (ks := [2]) (hk := []) (bk := []) (by kernel_rfl) (by kernel_rfl) (by kernel_rfl) (command_May_j2_ok n A_2 c_3 w0 S0 false)
          · refine GoO.exec (is := [15, 16, 17, 18, 19, 20, 21, 22, 23, 24]) (hs := [.p, .p, .p, .p, .p, .p, .p, .p, .p, .p]) (rest := []) (ks := [2]) (env' := [(2, .bool false)]) (H' := [⟨40, b_4, [.int .i64 c_1.Kind, .int .u64 c_1.Session, .int .u64 c_1.Seq, .int .u64 c_1.Saga, .slice A_2 c_1.Steps.length c_3, .int .i64 c_1.Step, .bool c_1.Back, .int .i64 c_1.Try, .bool c_1.Ok, .int .u64 c_1.Now]⟩]) (ps := []) (by kernel_rfl) trivial ?_
            refine GoO.regionEnd ?_
            exact GoO.sub (ks := [2]) (hk := []) (bk := []) (by kernel_rfl) (by kernel_rfl) (by kernel_rfl) (command_May_j2_ok n A_2 c_3 w0 S0 false)
        · refine GoO.exec (is := [10, 11, 12, 13, 14, 15, 16, 17, 18, 19, 20, 21, 22, 23, 24]) (hs := [.p, .p, .p, .p, .p, .p, .p, .p, .p, .p, .p, .p, .p, .p, .p]) (rest := []) (ks := [2]) (env' := [(2, .bool false)]) (H' := [⟨40, b_4, [.int .i64 c_1.Kind, .int .u64 c_1.Session, .int .u64 c_1.Seq, .int .u64 c_1.Saga, .slice A_2 c_1.Steps.length c_3, .int .i64 c_1.Step, .bool c_1.Back, .int .i64 c_1.Try, .bool c_1.Ok, .int .u64 c_1.Now]⟩]) (ps := []) (by kernel_rfl) trivial ?_
          refine GoO.regionEnd ?_
          exact GoO.sub (ks := [2]) (hk := []) (bk := []) (by kernel_rfl) (by kernel_rfl) (by kernel_rfl) (command_May_j2_ok n A_2 c_3 w0 S0 false)
      · refine GoO.exec (is := [5, 6, 7, 8, 9, 10, 11, 12, 13, 14, 15, 16, 17, 18, 19, 20, 21, 22, 23, 24]) (hs := [.p, .p, .p, .p, .p, .p, .p, .p, .p, .p, .p, .p, .p, .p, .p, .p, .p, .p, .p, .p]) (rest := []) (ks := [2]) (env' := [(2, .bool false)]) (H' := [⟨40, b_4, [.int .i64 c_1.Kind, .int .u64 c_1.Session, .int .u64 c_1.Seq, .int .u64 c_1.Saga, .slice A_2 c_1.Steps.length c_3, .int .i64 c_1.Step, .bool c_1.Back, .int .i64 c_1.Try, .bool c_1.Ok, .int .u64 c_1.Now]⟩]) (ps := []) (by kernel_rfl) trivial ?_
        refine GoO.regionEnd ?_
        exact GoO.sub (ks := [2]) (hk := []) (bk := []) (by kernel_rfl) (by kernel_rfl) (by kernel_rfl) (command_May_j2_ok n A_2 c_3 w0 S0 false)
    · refine GoO.seq' c18_26e ?_
      refine GoO.region' (is := [0, 1]) c18_27e (by kernel_rfl) ?_
      refine GoO.exec (is := [0, 1]) (hs := [.p, .p]) (rest := []) (ks := [1, 59]) (env' := [(1, .pointer (some ⟨b_4, 0, none⟩)), (59, .bool (c_1.Kind == 4))]) (H' := [⟨40, b_4, [.int .i64 c_1.Kind, .int .u64 c_1.Session, .int .u64 c_1.Seq, .int .u64 c_1.Saga, .slice A_2 c_1.Steps.length c_3, .int .i64 c_1.Step, .bool c_1.Back, .int .i64 c_1.Try, .bool c_1.Ok, .int .u64 c_1.Now]⟩]) (ps := []) (by kernel_rfl) trivial ?_
      refine GoO.regionEnd ?_
      refine GoO.ite' c18_28e (by kernel_rfl) (fun h21 => ?_) (fun h21 => ?_)
      · refine GoO.seq' c18_29e ?_
        refine GoO.region' (is := [0, 1, 2, 3, 4, 5, 6, 7, 8, 9, 10, 11, 12, 13, 14, 15, 16, 17, 18, 19, 20, 21, 22, 23, 24, 25, 26, 27, 28, 29, 30, 31, 32, 33, 34]) c18_30e (by kernel_rfl) ?_
        refine GoO.exec (is := [0, 1, 2, 3, 4]) (hs := [.p, .b 0, .p, .p, .p]) (rest := [5, 6, 7, 8, 9, 10, 11, 12, 13, 14, 15, 16, 17, 18, 19, 20, 21, 22, 23, 24, 25, 26, 27, 28, 29, 30, 31, 32, 33, 34]) (ks := [1, 65]) (env' := [(1, .pointer (some ⟨b_4, 0, none⟩)), (65, .bool ((c_1.Steps.length : Int) == 0))]) (H' := [⟨40, b_4, [.int .i64 c_1.Kind, .int .u64 c_1.Session, .int .u64 c_1.Seq, .int .u64 c_1.Saga, .slice A_2 c_1.Steps.length c_3, .int .i64 c_1.Step, .bool c_1.Back, .int .i64 c_1.Try, .bool c_1.Ok, .int .u64 c_1.Now]⟩]) (ps := [b_4 = b_4]) (by kernel_rfl) (And.intro rfl trivial) ?_
        refine GoO.bsplit (t := 65) (by kernel_rfl) (fun h22 => ?_) (fun h22 => ?_)
        · refine GoO.exec (is := [5, 6, 7, 8, 9]) (hs := [.p, .b 0, .p, .p, .p]) (rest := [10, 11, 12, 13, 14, 15, 16, 17, 18, 19, 20, 21, 22, 23, 24, 25, 26, 27, 28, 29, 30, 31, 32, 33, 34]) (ks := [1, 70]) (env' := [(1, .pointer (some ⟨b_4, 0, none⟩)), (70, .bool (decide (c_1.Step ≥ 0)))]) (H' := [⟨40, b_4, [.int .i64 c_1.Kind, .int .u64 c_1.Session, .int .u64 c_1.Seq, .int .u64 c_1.Saga, .slice A_2 c_1.Steps.length c_3, .int .i64 c_1.Step, .bool c_1.Back, .int .i64 c_1.Try, .bool c_1.Ok, .int .u64 c_1.Now]⟩]) (ps := [b_4 = b_4]) (by kernel_rfl) (And.intro rfl trivial) ?_
          refine GoO.bsplit (t := 70) (by kernel_rfl) (fun h23 => ?_) (fun h23 => ?_)
          · refine GoO.exec (is := [10, 11, 12, 13, 14]) (hs := [.p, .b 0, .p, .p, .p]) (rest := [15, 16, 17, 18, 19, 20, 21, 22, 23, 24, 25, 26, 27, 28, 29, 30, 31, 32, 33, 34]) (ks := [1, 75]) (env' := [(1, .pointer (some ⟨b_4, 0, none⟩)), (75, .bool (decide (c_1.Step < 64)))]) (H' := [⟨40, b_4, [.int .i64 c_1.Kind, .int .u64 c_1.Session, .int .u64 c_1.Seq, .int .u64 c_1.Saga, .slice A_2 c_1.Steps.length c_3, .int .i64 c_1.Step, .bool c_1.Back, .int .i64 c_1.Try, .bool c_1.Ok, .int .u64 c_1.Now]⟩]) (ps := [b_4 = b_4]) (by kernel_rfl) (And.intro rfl trivial) ?_
            refine GoO.bsplit (t := 75) (by kernel_rfl) (fun h24 => ?_) (fun h24 => ?_)
            · refine GoO.exec (is := [15, 16, 17, 18, 19]) (hs := [.p, .b 0, .p, .p, .p]) (rest := [20, 21, 22, 23, 24, 25, 26, 27, 28, 29, 30, 31, 32, 33, 34]) (ks := [1, 80]) (env' := [(1, .pointer (some ⟨b_4, 0, none⟩)), (80, .bool (decide (c_1.Try ≥ 0)))]) (H' := [⟨40, b_4, [.int .i64 c_1.Kind, .int .u64 c_1.Session, .int .u64 c_1.Seq, .int .u64 c_1.Saga, .slice A_2 c_1.Steps.length c_3, .int .i64 c_1.Step, .bool c_1.Back, .int .i64 c_1.Try, .bool c_1.Ok, .int .u64 c_1.Now]⟩]) (ps := [b_4 = b_4]) (by kernel_rfl) (And.intro rfl trivial) ?_
              refine GoO.bsplit (t := 80) (by kernel_rfl) (fun h25 => ?_) (fun h25 => ?_)
              · refine GoO.exec (is := [20, 21, 22, 23, 24]) (hs := [.p, .b 0, .p, .p, .p]) (rest := [25, 26, 27, 28, 29, 30, 31, 32, 33, 34]) (ks := [1, 85]) (env' := [(1, .pointer (some ⟨b_4, 0, none⟩)), (85, .bool (decide (c_1.Try < 9)))]) (H' := [⟨40, b_4, [.int .i64 c_1.Kind, .int .u64 c_1.Session, .int .u64 c_1.Seq, .int .u64 c_1.Saga, .slice A_2 c_1.Steps.length c_3, .int .i64 c_1.Step, .bool c_1.Back, .int .i64 c_1.Try, .bool c_1.Ok, .int .u64 c_1.Now]⟩]) (ps := [b_4 = b_4]) (by kernel_rfl) (And.intro rfl trivial) ?_
                refine GoO.bsplit (t := 85) (by kernel_rfl) (fun h26 => ?_) (fun h26 => ?_)
                · refine GoO.exec (is := [25, 26, 27, 28, 29]) (hs := [.p, .b 0, .p, .p, .p]) (rest := [30, 31, 32, 33, 34]) (ks := [1, 90]) (env' := [(1, .pointer (some ⟨b_4, 0, none⟩)), (90, .bool (c_1.Session == 0))]) (H' := [⟨40, b_4, [.int .i64 c_1.Kind, .int .u64 c_1.Session, .int .u64 c_1.Seq, .int .u64 c_1.Saga, .slice A_2 c_1.Steps.length c_3, .int .i64 c_1.Step, .bool c_1.Back, .int .i64 c_1.Try, .bool c_1.Ok, .int .u64 c_1.Now]⟩]) (ps := [b_4 = b_4]) (by kernel_rfl) (And.intro rfl trivial) ?_
                  refine GoO.bsplit (t := 90) (by kernel_rfl) (fun h27 => ?_) (fun h27 => ?_)
                  · refine GoO.exec (is := [30, 31, 32, 33, 34]) (hs := [.p, .b 0, .p, .p, .p]) (rest := []) (ks := [2]) (env' := [(2, .bool (c_1.Seq == 0))]) (H' := [⟨40, b_4, [.int .i64 c_1.Kind, .int .u64 c_1.Session, .int .u64 c_1.Seq, .int .u64 c_1.Saga, .slice A_2 c_1.Steps.length c_3, .int .i64 c_1.Step, .bool c_1.Back, .int .i64 c_1.Try, .bool c_1.Ok, .int .u64 c_1.Now]⟩]) (ps := [b_4 = b_4]) (by kernel_rfl) (And.intro rfl trivial) ?_
                    refine GoO.regionEnd ?_
                    exact GoO.sub (ks := [2]) (hk := []) (bk := []) (by kernel_rfl) (by kernel_rfl) (by kernel_rfl) (command_May_j3_ok n A_2 c_3 w0 S0 (c_1.Seq == 0))
                  · refine GoO.exec (is := [30, 31, 32, 33, 34]) (hs := [.p, .p, .p, .p, .p]) (rest := []) (ks := [2]) (env' := [(2, .bool false)]) (H' := [⟨40, b_4, [.int .i64 c_1.Kind, .int .u64 c_1.Session, .int .u64 c_1.Seq, .int .u64 c_1.Saga, .slice A_2 c_1.Steps.length c_3, .int .i64 c_1.Step, .bool c_1.Back, .int .i64 c_1.Try, .bool c_1.Ok, .int .u64 c_1.Now]⟩]) (ps := []) (by kernel_rfl) trivial ?_
                    refine GoO.regionEnd ?_
                    exact GoO.sub (ks := [2]) (hk := []) (bk := []) (by kernel_rfl) (by kernel_rfl) (by kernel_rfl) (command_May_j3_ok n A_2 c_3 w0 S0 false)
                · refine GoO.exec (is := [25, 26, 27, 28, 29, 30, 31, 32, 33, 34]) (hs := [.p, .p, .p, .p, .p, .p, .p, .p, .p, .p]) (rest := []) (ks := [2]) (env' := [(2, .bool false)]) (H' := [⟨40, b_4, [.int .i64 c_1.Kind, .int .u64 c_1.Session, .int .u64 c_1.Seq, .int .u64 c_1.Saga, .slice A_2 c_1.Steps.length c_3, .int .i64 c_1.Step, .bool c_1.Back, .int .i64 c_1.Try, .bool c_1.Ok, .int .u64 c_1.Now]⟩]) (ps := []) (by kernel_rfl) trivial ?_
                  refine GoO.regionEnd ?_
                  exact GoO.sub (ks := [2]) (hk := []) (bk := []) (by kernel_rfl) (by kernel_rfl) (by kernel_rfl) (command_May_j3_ok n A_2 c_3 w0 S0 false)
              · refine GoO.exec (is := [20, 21, 22, 23, 24, 25, 26, 27, 28, 29, 30, 31, 32, 33, 34]) (hs := [.p, .p, .p, .p, .p, .p, .p, .p, .p, .p, .p, .p, .p, .p, .p]) (rest := []) (ks := [2]) (env' := [(2, .bool false)]) (H' := [⟨40, b_4, [.int .i64 c_1.Kind, .int .u64 c_1.Session, .int .u64 c_1.Seq, .int .u64 c_1.Saga, .slice A_2 c_1.Steps.length c_3, .int .i64 c_1.Step, .bool c_1.Back, .int .i64 c_1.Try, .bool c_1.Ok, .int .u64 c_1.Now]⟩]) (ps := []) (by kernel_rfl) trivial ?_
                refine GoO.regionEnd ?_
                exact GoO.sub (ks := [2]) (hk := []) (bk := []) (by kernel_rfl) (by kernel_rfl) (by kernel_rfl) (command_May_j3_ok n A_2 c_3 w0 S0 false)
            · refine GoO.exec (is := [15, 16, 17, 18, 19, 20, 21, 22, 23, 24, 25, 26, 27, 28, 29, 30, 31, 32, 33, 34]) (hs := [.p, .p, .p, .p, .p, .p, .p, .p, .p, .p, .p, .p, .p, .p, .p, .p, .p, .p, .p, .p]) (rest := []) (ks := [2]) (env' := [(2, .bool false)]) (H' := [⟨40, b_4, [.int .i64 c_1.Kind, .int .u64 c_1.Session, .int .u64 c_1.Seq, .int .u64 c_1.Saga, .slice A_2 c_1.Steps.length c_3, .int .i64 c_1.Step, .bool c_1.Back, .int .i64 c_1.Try, .bool c_1.Ok, .int .u64 c_1.Now]⟩]) (ps := []) (by kernel_rfl) trivial ?_
              refine GoO.regionEnd ?_
              exact GoO.sub (ks := [2]) (hk := []) (bk := []) (by kernel_rfl) (by kernel_rfl) (by kernel_rfl) (command_May_j3_ok n A_2 c_3 w0 S0 false)
          · refine GoO.exec (is := [10, 11, 12, 13, 14, 15, 16, 17, 18, 19, 20, 21, 22, 23, 24, 25, 26, 27, 28, 29, 30, 31, 32, 33, 34]) (hs := [.p, .p, .p, .p, .p, .p, .p, .p, .p, .p, .p, .p, .p, .p, .p, .p, .p, .p, .p, .p, .p, .p, .p, .p, .p]) (rest := []) (ks := [2]) (env' := [(2, .bool false)]) (H' := [⟨40, b_4, [.int .i64 c_1.Kind, .int .u64 c_1.Session, .int .u64 c_1.Seq, .int .u64 c_1.Saga, .slice A_2 c_1.Steps.length c_3, .int .i64 c_1.Step, .bool c_1.Back, .int .i64 c_1.Try, .bool c_1.Ok, .int .u64 c_1.Now]⟩]) (ps := []) (by kernel_rfl) trivial ?_
            refine GoO.regionEnd ?_
            exact GoO.sub (ks := [2]) (hk := []) (bk := []) (by kernel_rfl) (by kernel_rfl) (by kernel_rfl) (command_May_j3_ok n A_2 c_3 w0 S0 false)
        · refine GoO.exec (is := [5, 6, 7, 8, 9, 10, 11, 12, 13, 14, 15, 16, 17, 18, 19, 20, 21, 22, 23, 24, 25, 26, 27, 28, 29, 30, 31, 32, 33, 34]) (hs := [.p, .p, .p, .p, .p, .p, .p, .p, .p, .p, .p, .p, .p, .p, .p, .p, .p, .p, .p, .p, .p, .p, .p, .p, .p, .p, .p, .p, .p, .p]) (rest := []) (ks := [2]) (env' := [(2, .bool false)]) (H' := [⟨40, b_4, [.int .i64 c_1.Kind, .int .u64 c_1.Session, .int .u64 c_1.Seq, .int .u64 c_1.Saga, .slice A_2 c_1.Steps.length c_3, .int .i64 c_1.Step, .bool c_1.Back, .int .i64 c_1.Try, .bool c_1.Ok, .int .u64 c_1.Now]⟩]) (ps := []) (by kernel_rfl) trivial ?_
          refine GoO.regionEnd ?_
          exact GoO.sub (ks := [2]) (hk := []) (bk := []) (by kernel_rfl) (by kernel_rfl) (by kernel_rfl) (command_May_j3_ok n A_2 c_3 w0 S0 false)
      · refine GoO.skip' c18_32e ?_
        refine GoO.inBlock ?_
        refine GoO.seq' c18_33e ?_
        refine GoO.region' (is := [0]) c18_34e (by kernel_rfl) ?_
        refine GoO.exec (is := [0]) (hs := [.p]) (rest := []) (ks := [2]) (env' := [(2, .bool false)]) (H' := [⟨40, b_4, [.int .i64 c_1.Kind, .int .u64 c_1.Session, .int .u64 c_1.Seq, .int .u64 c_1.Saga, .slice A_2 c_1.Steps.length c_3, .int .i64 c_1.Step, .bool c_1.Back, .int .i64 c_1.Try, .bool c_1.Ok, .int .u64 c_1.Now]⟩]) (ps := []) (by kernel_rfl) trivial ?_
        refine GoO.regionEnd ?_
        exact GoO.ret' (h := c18_35e) (hs := []) (ps := []) (hk := []) (bk := []) Try.func18 () (by kernel_rfl) trivial (by kernel_rfl) (by kernel_rfl)
theorem command_May_ok (n : Nat) (c_1 : T_api_Command) (A_2 : Option Addr) (c_3 : Nat) :
    Meets Try.prog 18 [.agg ⟨[.int .i64 c_1.Kind, .int .u64 c_1.Session, .int .u64 c_1.Seq, .int .u64 c_1.Saga, .slice A_2 c_1.Steps.length c_3, .int .i64 c_1.Step, .bool c_1.Back, .int .i64 c_1.Try, .bool c_1.Ok, .int .u64 c_1.Now]⟩] 0 [] [] [Rd 0 kT_api_Step A_2 c_3 c_1.Steps] (command_May.f n c_1) (command_May.R A_2 c_3) := by
  refine Meets.of (c := c18_0) (n := 95) Try.func18 (by kernel_rfl) (by kernel_rfl) (by kernel_rfl) fun w0 S0 => ?_
  unfold command_May.f
  show GoO (command_May.cx A_2 c_3 w0 S0) [(0, .agg ⟨[.int .i64 c_1.Kind, .int .u64 c_1.Session, .int .u64 c_1.Seq, .int .u64 c_1.Saga, .slice A_2 c_1.Steps.length c_3, .int .i64 c_1.Step, .bool c_1.Back, .int .i64 c_1.Try, .bool c_1.Ok, .int .u64 c_1.Now]⟩)] [] [Rd 0 kT_api_Step A_2 c_3 c_1.Steps] [.code c18_0] _
  refine GoO.seq' c18_0e ?_
  refine GoO.region' (is := [0, 1]) c18_1e (by kernel_rfl) ?_
  refine OpTo.go (GoO.new rfl 40 (cs := [.int .i64 c_1.Kind, .int .u64 c_1.Session, .int .u64 c_1.Seq, .int .u64 c_1.Saga, .slice A_2 c_1.Steps.length c_3, .int .i64 c_1.Step, .bool c_1.Back, .int .i64 c_1.Try, .bool c_1.Ok, .int .u64 c_1.Now]) (by kernel_rfl) _ (fun _ => rfl) (fun b_4 => ?_))
  refine GoO.exec (is := [1]) (hs := [.p]) (rest := []) (ks := [1]) (env' := [(1, .pointer (some ⟨b_4, 0, none⟩))]) (H' := [⟨40, b_4, [.int .i64 c_1.Kind, .int .u64 c_1.Session, .int .u64 c_1.Seq, .int .u64 c_1.Saga, .slice A_2 c_1.Steps.length c_3, .int .i64 c_1.Step, .bool c_1.Back, .int .i64 c_1.Try, .bool c_1.Ok, .int .u64 c_1.Now]⟩]) (ps := []) (by kernel_rfl) trivial ?_
  refine GoO.regionEnd ?_
  refine GoO.seq' c18_2e ?_
  refine GoO.seq' c18_3e ?_
  refine GoO.region' (is := [0, 1]) c18_4e (by kernel_rfl) ?_
  refine GoO.exec (is := [0, 1]) (hs := [.p, .b 0]) (rest := []) (ks := [1, 4]) (env' := [(1, .pointer (some ⟨b_4, 0, none⟩)), (4, .int .i64 c_1.Kind)]) (H' := [⟨40, b_4, [.int .i64 c_1.Kind, .int .u64 c_1.Session, .int .u64 c_1.Seq, .int .u64 c_1.Saga, .slice A_2 c_1.Steps.length c_3, .int .i64 c_1.Step, .bool c_1.Back, .int .i64 c_1.Try, .bool c_1.Ok, .int .u64 c_1.Now]⟩]) (ps := [b_4 = b_4]) (by kernel_rfl) (And.intro rfl trivial) ?_
  refine GoO.regionEnd ?_
  refine GoO.block' c18_5e ?_
  refine GoO.seq' c18_6e ?_
  refine GoO.seq' c18_7e ?_
  refine GoO.region' (is := [0, 1]) c18_8e (by kernel_rfl) ?_
  refine GoO.exec (is := [0, 1]) (hs := [.p, .p]) (rest := []) (ks := [1, 4, 5]) (env' := [(1, .pointer (some ⟨b_4, 0, none⟩)), (4, .int .i64 c_1.Kind), (5, .bool (c_1.Kind == 1))]) (H' := [⟨40, b_4, [.int .i64 c_1.Kind, .int .u64 c_1.Session, .int .u64 c_1.Seq, .int .u64 c_1.Saga, .slice A_2 c_1.Steps.length c_3, .int .i64 c_1.Step, .bool c_1.Back, .int .i64 c_1.Try, .bool c_1.Ok, .int .u64 c_1.Now]⟩]) (ps := []) (by kernel_rfl) trivial ?_
  refine GoO.regionEnd ?_
  refine GoO.ite' c18_9e (by kernel_rfl) (fun h5 => ?_) (fun h5 => ?_)
  · refine GoO.skip' c18_10e ?_
    exact GoO.sub (ks := [1, 4, 5]) (hk := [0]) (bk := [0]) (by kernel_rfl) (by kernel_rfl) (by kernel_rfl) (command_May_j0_ok n c_1 A_2 c_3 b_4 w0 S0 (c_1.Kind == 1))
  · refine GoO.seq' c18_11e ?_
    refine GoO.region' (is := [0, 1]) c18_12e (by kernel_rfl) ?_
    refine GoO.exec (is := [0, 1]) (hs := [.p, .p]) (rest := []) (ks := [1, 4, 5]) (env' := [(1, .pointer (some ⟨b_4, 0, none⟩)), (4, .int .i64 c_1.Kind), (5, .bool (c_1.Kind == 3))]) (H' := [⟨40, b_4, [.int .i64 c_1.Kind, .int .u64 c_1.Session, .int .u64 c_1.Seq, .int .u64 c_1.Saga, .slice A_2 c_1.Steps.length c_3, .int .i64 c_1.Step, .bool c_1.Back, .int .i64 c_1.Try, .bool c_1.Ok, .int .u64 c_1.Now]⟩]) (ps := []) (by kernel_rfl) trivial ?_
    refine GoO.regionEnd ?_
    refine GoO.ite' c18_13e (by kernel_rfl) (fun h6 => ?_) (fun h6 => ?_)
    · refine GoO.skip' c18_14e ?_
      exact GoO.sub (ks := [1, 4, 5]) (hk := [0]) (bk := [0]) (by kernel_rfl) (by kernel_rfl) (by kernel_rfl) (command_May_j0_ok n c_1 A_2 c_3 b_4 w0 S0 (c_1.Kind == 3))
    · refine GoO.region' (is := [0, 1]) c18_15e (by kernel_rfl) ?_
      refine GoO.exec (is := [0, 1]) (hs := [.p, .p]) (rest := []) (ks := [1, 4, 5]) (env' := [(1, .pointer (some ⟨b_4, 0, none⟩)), (4, .int .i64 c_1.Kind), (5, .bool (c_1.Kind == 5))]) (H' := [⟨40, b_4, [.int .i64 c_1.Kind, .int .u64 c_1.Session, .int .u64 c_1.Seq, .int .u64 c_1.Saga, .slice A_2 c_1.Steps.length c_3, .int .i64 c_1.Step, .bool c_1.Back, .int .i64 c_1.Try, .bool c_1.Ok, .int .u64 c_1.Now]⟩]) (ps := []) (by kernel_rfl) trivial ?_
      refine GoO.regionEnd ?_
      exact GoO.sub (ks := [1, 4, 5]) (hk := [0]) (bk := [0]) (by kernel_rfl) (by kernel_rfl) (by kernel_rfl) (command_May_j0_ok n c_1 A_2 c_3 b_4 w0 S0 (c_1.Kind == 5))

/-! (*tontine/pack.Writer).Num -/
noncomputable def c48_0 : Code := bodyOf Try.f48
noncomputable def c48_1 : Code := cdL c48_0
noncomputable def c48_2 : Code := cdR c48_0
noncomputable def c48_3 : Code := cdL c48_2
noncomputable def c48_4 : Code := cdL c48_3
noncomputable def c48_5 : Code := cdR c48_3
noncomputable def c48_9 : Code := cdR c48_5
noncomputable def c48_10 : Code := cdR c48_2
noncomputable def c48_11 : Code := cdL c48_10
noncomputable def c48_12 : Code := cdR c48_10
noncomputable def c48_13 : Code := cdL c48_12
noncomputable def c48_14 : Code := cdL c48_13
noncomputable def c48_15 : Code := cdR c48_13
noncomputable def c48_16 : Code := cdL c48_15
noncomputable def c48_17 : Code := cdL c48_16
noncomputable def c48_18 : Code := cdL c48_17
noncomputable def c48_19 : Code := cdL c48_18
noncomputable def c48_20 : Code := cdR c48_18
noncomputable def c48_21 : Code := cdL c48_20
noncomputable def c48_22 : Code := cdR c48_20
noncomputable def c48_23 : Code := cdR c48_17
noncomputable def c48_24 : Code := cdL c48_23
noncomputable def c48_25 : Code := cdL c48_24
noncomputable def c48_26 : Code := cdR c48_23
noncomputable def c48_27 : Code := cdR c48_12
noncomputable def c48_28 : Code := cdL c48_27
noncomputable def c48_29 : Code := cdR c48_27
noncomputable def c48_30 : Code := cdL c48_29
noncomputable def c48_31 : Code := cdL c48_30
noncomputable def c48_32 : Code := cdR c48_30
noncomputable def c48_33 : Code := cdL c48_32
noncomputable def c48_34 : Code := cdL c48_33
noncomputable def c48_35 : Code := cdL c48_34
noncomputable def c48_36 : Code := cdL c48_35
noncomputable def c48_37 : Code := cdR c48_35
noncomputable def c48_38 : Code := cdL c48_37
noncomputable def c48_39 : Code := cdR c48_37
noncomputable def c48_40 : Code := cdR c48_34
noncomputable def c48_41 : Code := cdL c48_40
noncomputable def c48_42 : Code := cdL c48_41
noncomputable def c48_43 : Code := cdR c48_40
noncomputable def c48_44 : Code := cdR c48_29
noncomputable def c48_45 : Code := cdL c48_44
noncomputable def c48_46 : Code := cdR c48_44
noncomputable def c48_6 : Code := cdL c48_5
noncomputable def r48_1 : Array Oper := cdO c48_1
noncomputable def r48_4 : Array Oper := cdO c48_4
noncomputable def r48_11 : Array Oper := cdO c48_11
noncomputable def r48_14 : Array Oper := cdO c48_14
noncomputable def r48_19 : Array Oper := cdO c48_19
noncomputable def r48_25 : Array Oper := cdO c48_25
noncomputable def r48_26 : Array Oper := cdO c48_26
noncomputable def r48_28 : Array Oper := cdO c48_28
noncomputable def r48_31 : Array Oper := cdO c48_31
noncomputable def r48_36 : Array Oper := cdO c48_36
noncomputable def r48_42 : Array Oper := cdO c48_42
noncomputable def r48_43 : Array Oper := cdO c48_43
noncomputable def r48_45 : Array Oper := cdO c48_45
theorem c48_0e : c48_0 = .seq c48_1 c48_2 := by kernel_rfl
theorem c48_1e : c48_1 = .region 0 r48_1 false := by kernel_rfl
theorem c48_2e : c48_2 = .seq c48_3 c48_10 := by kernel_rfl
theorem c48_3e : c48_3 = .seq c48_4 c48_5 := by kernel_rfl
theorem c48_4e : c48_4 = .region 1 r48_4 false := by kernel_rfl
theorem c48_5e : c48_5 = .cond (cdC c48_5) c48_6 c48_9 := by kernel_rfl
theorem c48_9e : c48_9 = .skip := by kernel_rfl
theorem c48_10e : c48_10 = .seq c48_11 c48_12 := by kernel_rfl
theorem c48_11e : c48_11 = .region 3 r48_11 false := by kernel_rfl
theorem c48_12e : c48_12 = .seq c48_13 c48_27 := by kernel_rfl
theorem c48_13e : c48_13 = .seq c48_14 c48_15 := by kernel_rfl
theorem c48_14e : c48_14 = .region 4 r48_14 false := by kernel_rfl
theorem c48_15e : c48_15 = .block 0 c48_16 := by kernel_rfl
theorem c48_16e : c48_16 = .loop c48_17 := by kernel_rfl
theorem c48_17e : c48_17 = .seq c48_18 c48_23 := by kernel_rfl
theorem c48_18e : c48_18 = .seq c48_19 c48_20 := by kernel_rfl
theorem c48_19e : c48_19 = .region 5 r48_19 false := by kernel_rfl
theorem c48_20e : c48_20 = .cond (cdC c48_20) c48_21 c48_22 := by kernel_rfl
theorem c48_21e : c48_21 = .skip := by kernel_rfl
theorem c48_22e : c48_22 = .exit 0 := by kernel_rfl
theorem c48_23e : c48_23 = .seq c48_24 c48_26 := by kernel_rfl
theorem c48_24e : c48_24 = .block 1 c48_25 := by kernel_rfl
theorem c48_25e : c48_25 = .region 7 r48_25 false := by kernel_rfl
theorem c48_26e : c48_26 = .region 6 r48_26 false := by kernel_rfl
theorem c48_27e : c48_27 = .seq c48_28 c48_29 := by kernel_rfl
theorem c48_28e : c48_28 = .region 8 r48_28 false := by kernel_rfl
theorem c48_29e : c48_29 = .seq c48_30 c48_44 := by kernel_rfl
theorem c48_30e : c48_30 = .seq c48_31 c48_32 := by kernel_rfl
theorem c48_31e : c48_31 = .region 9 r48_31 false := by kernel_rfl
theorem c48_32e : c48_32 = .block 2 c48_33 := by kernel_rfl
theorem c48_33e : c48_33 = .loop c48_34 := by kernel_rfl
theorem c48_34e : c48_34 = .seq c48_35 c48_40 := by kernel_rfl
theorem c48_35e : c48_35 = .seq c48_36 c48_37 := by kernel_rfl
theorem c48_36e : c48_36 = .region 10 r48_36 false := by kernel_rfl
theorem c48_37e : c48_37 = .cond (cdC c48_37) c48_38 c48_39 := by kernel_rfl
theorem c48_38e : c48_38 = .skip := by kernel_rfl
theorem c48_39e : c48_39 = .exit 2 := by kernel_rfl
theorem c48_40e : c48_40 = .seq c48_41 c48_43 := by kernel_rfl
theorem c48_41e : c48_41 = .block 3 c48_42 := by kernel_rfl
theorem c48_42e : c48_42 = .region 12 r48_42 true := by kernel_rfl
theorem c48_43e : c48_43 = .region 11 r48_43 false := by kernel_rfl
theorem c48_44e : c48_44 = .seq c48_45 c48_46 := by kernel_rfl
theorem c48_45e : c48_45 = .region 13 r48_45 false := by kernel_rfl
theorem c48_46e : c48_46 = .ret := by kernel_rfl
noncomputable def pack_Writer_Num.R (b_2 : Nat) (A_3 : Option Addr) (c_4 : Nat) : Pst T_pack_Writer where
  ε := Option Addr × Nat
  v := fun r x => .pointer (some ⟨b_2, 0, none⟩)
  H := fun r x => [⟨1, b_2, [.slice x.1 r.b.length x.2]⟩]
  B := fun r x => [Ow 2 Kd.u8 x.1 x.2 r.b]
noncomputable def pack_Writer_Num.cx (b_2 : Nat) (A_3 : Option Addr) (c_4 : Nat) (w0 : World) (S0 : Fam) : Cx T_pack_Writer := ⟨Try.prog, 48, Try.f48, 49, w0, S0, [1, 2], 2, pack_Writer_Num.R b_2 A_3 c_4⟩
theorem pack_Writer_Num_l1_ok (n : Nat) (x_5 : Int) (b_2 : Nat) (A_3 : Option Addr) (c_4 : Nat) (w0 : World) (S0 : Fam) :
    ∀ (k : Nat) (f_14 : (List UInt8)) (i_17 : Int) (A_15 : Option Addr) (c_16 : Nat), GoO (pack_Writer_Num.cx b_2 A_3 c_4 w0 S0) [(0, .pointer (some ⟨b_2, 0, none⟩)), (1, .int .u64 x_5), (7, .int .i64 i_17)] [⟨1, b_2, [.slice A_15 f_14.length c_16]⟩] [Ow 2 Kd.u8 A_15 c_16 f_14] [.code c48_34, .inLoop c48_34, .inBlock 2, .code c48_44] (pack_Writer_Num.l1 n x_5 k f_14 i_17) := by
  intro k
  induction k with
  | zero => intros; rw [pack_Writer_Num.l1.eq_1]; exact GoO.stop
  | succ k ih1 =>
    intro f_14 i_17 A_15 c_16
    rw [pack_Writer_Num.l1.eq_2]
    refine GoO.seq' c48_34e ?_
    refine GoO.seq' c48_35e ?_
    refine GoO.region' (is := [0, 1]) c48_36e (by kernel_rfl) ?_
    refine GoO.exec (is := [0, 1]) (hs := [.p, .p]) (rest := []) (ks := [0, 1, 7, 31]) (env' := [(0, .pointer (some ⟨b_2, 0, none⟩)), (1, .int .u64 x_5), (7, .int .i64 i_17), (31, .bool (decide (i_17 ≥ 0)))]) (H' := [⟨1, b_2, [.slice A_15 f_14.length c_16]⟩]) (ps := []) (by kernel_rfl) trivial ?_
    refine GoO.regionEnd ?_
    refine GoO.ite' c48_37e (by kernel_rfl) (fun h18 => ?_) (fun h18 => ?_)
    · refine GoO.skip' c48_38e ?_
      refine GoO.seq' c48_40e ?_
      refine GoO.block' c48_41e ?_
      refine GoO.draw c48_42e (by kernel_rfl) [12, 13, 14] [⟨1, b_2, [.slice A_15 f_14.length c_16]⟩] [] (n := 15) (by kernel_rfl) ?_
      simp only [List.replicate]
      refine GoF.guard (fun h19 => ?_)
      refine GoF.take [0, 1, 2, 3, 4, 5, 6, 7, 8, 9] [.p, .p, .p, .p, .b 0, .p, .p, .p, .p, .p] (ks := [0, 1, 7, 34, 38, 43]) (fu := 5) (li := [true, true, true, true, true, true, true, true, true, true, false, false, false, false, false]) (env' := [(0, .pointer (some ⟨b_2, 0, none⟩)), (1, .int .u64 x_5), (7, .int .i64 i_17), (34, .pointer (some ⟨b_2, 0, none⟩)), (38, .slice A_15 f_14.length c_16), (43, .int .u8 (wu8 (shR .u64 x_5 (wi64 (8 * i_17)))))]) (ps := [b_2 = b_2, (0 : Int) ≤ (wi64 (8 * i_17))]) (hk := [0]) (bk := []) (by kernel_rfl) (And.intro rfl (And.intro h19 trivial)) rfl rfl ?_
      refine OpTo.goF (i := 10) (by kernel_rfl) (hk := [0]) (bk := []) (GoO.lit (e := 5) (K := Kd.u8) rfl (by kernel_rfl) (by kernel_rfl) (cs := [.int .u8 (wu8 (shR .u64 x_5 (wi64 (8 * i_17))))]) (by kernel_rfl) [u8of (shR .u64 x_5 (wi64 (8 * i_17)))] (by kernel_rfl) (by kernel_rfl) (fun w S hB => ⟨[.int .u8 (wu8 (shR .u64 x_5 (wi64 (8 * i_17))))], _, rfl, congrArg (fun v => [v]) (u8cell _), rfl⟩) 41 _ (fun _ _ => rfl) (fun A_20 c_21 => ⟨rfl, rfl, ?_⟩))
      refine GoF.guard (fun h22 => ?_)
      refine OpTo.goF (i := 11) (by kernel_rfl) (hk := [0]) (bk := []) (GoO.appW (e := 5) (K := Kd.u8) (A := A_15) (c := c_16) (tg := 2) (bytes := 1) (zs := [.int .u8 0]) (xs := f_14) (ys := [u8of (shR .u64 x_5 (wi64 (8 * i_17)))]) (xv := .slice A_20 [u8of (shR .u64 x_5 (wi64 (8 * i_17)))].length c_21) (j := 1) (bk := [0]) rfl (by kernel_rfl) (by kernel_rfl) (by kernel_rfl) (by kernel_rfl) rfl (by kernel_rfl) rfl (fun w S hB => SrcIs.row (Reads.own w S (hB _ (List.mem_of_getElem? (i := 0) rfl)))) h22 rfl rfl rfl rfl _ (fun _ _ => rfl) (fun A_23 c_24 => ⟨rfl, rfl, ?_⟩))
      refine GoF.fin1 (i := 12) (hint := .p) (ps := []) (hk := []) (bk := []) (by kernel_rfl) rfl trivial (.inl rfl) ?_
      refine GoF.fin1 (i := 13) (hint := .p) (ps := []) (hk := []) (bk := []) (by kernel_rfl) rfl trivial (.inl rfl) ?_
      refine GoF.fin1 (i := 14) (hint := .b 0) (ps := [b_2 = b_2]) (hk := []) (bk := []) (by kernel_rfl) rfl (And.intro rfl trivial) (.inl rfl) ?_
      refine GoF.done (by kernel_rfl) ?_
      refine GoO.inBlock ?_
      refine GoO.region' (is := [0, 1, 2]) c48_43e (by kernel_rfl) ?_
      refine GoO.exec (is := [0, 1, 2]) (hs := [.p, .p, .p]) (rest := []) (ks := [0, 1, 7]) (env' := [(0, .pointer (some ⟨b_2, 0, none⟩)), (1, .int .u64 x_5), (7, .int .i64 (wi64 (i_17 - 1)))]) (H' := [⟨1, b_2, [.slice A_23 (f_14 ++ [u8of (shR .u64 x_5 (wi64 (8 * i_17)))]).length c_24]⟩]) (ps := []) (by kernel_rfl) trivial ?_
      refine GoO.regionEnd ?_
      refine GoO.inLoop ?_
      exact GoO.sub (ks := [0, 1, 7]) (hk := [0]) (bk := [0]) (by kernel_rfl) (by kernel_rfl) (by kernel_rfl) (ih1 (f_14 ++ [u8of (shR .u64 x_5 (wi64 (8 * i_17)))]) (wi64 (i_17 - 1)) A_23 c_24)
    · refine GoO.exit' c48_39e rfl ?_
      refine GoO.seq' c48_44e ?_
      refine GoO.region' (is := [0, 1]) c48_45e (by kernel_rfl) ?_
      refine GoO.exec (is := [0, 1]) (hs := [.p, .p]) (rest := []) (ks := [4]) (env' := [(4, .pointer (some ⟨b_2, 0, none⟩))]) (H' := [⟨1, b_2, [.slice A_15 f_14.length c_16]⟩]) (ps := []) (by kernel_rfl) trivial ?_
      refine GoO.regionEnd ?_
      exact GoO.ret' (h := c48_46e) (hs := []) (ps := []) (hk := [0]) (bk := [0]) Try.func48 (⟨A_15, c_16⟩ : Option Addr × Nat) (by kernel_rfl) trivial (by kernel_rfl) (by kernel_rfl)
theorem pack_Writer_Num_l0_ok (n : Nat) (w_1 : T_pack_Writer) (x_5 : Int) (b_2 : Nat) (A_3 : Option Addr) (c_4 : Nat) (w0 : World) (S0 : Fam) :
    ∀ (k : Nat) (n_6 : Int) (y_7 : Int), GoO (pack_Writer_Num.cx b_2 A_3 c_4 w0 S0) [(0, .pointer (some ⟨b_2, 0, none⟩)), (1, .int .u64 x_5), (5, .int .i64 n_6), (6, .int .u64 y_7)] [⟨1, b_2, [.slice A_3 w_1.b.length c_4]⟩] [Ow 2 Kd.u8 A_3 c_4 w_1.b] [.code c48_17, .inLoop c48_17, .inBlock 0, .code c48_27] (pack_Writer_Num.l0 n w_1 x_5 k n_6 y_7) := by
  intro k
  induction k with
  | zero => intros; rw [pack_Writer_Num.l0.eq_1]; exact GoO.stop
  | succ k ih0 =>
    intro n_6 y_7
    rw [pack_Writer_Num.l0.eq_2]
    refine GoO.seq' c48_17e ?_
    refine GoO.seq' c48_18e ?_
    refine GoO.region' (is := [0, 1]) c48_19e (by kernel_rfl) ?_
    refine GoO.exec (is := [0, 1]) (hs := [.p, .p]) (rest := []) (ks := [0, 1, 5, 6, 12]) (env' := [(0, .pointer (some ⟨b_2, 0, none⟩)), (1, .int .u64 x_5), (5, .int .i64 n_6), (6, .int .u64 y_7), (12, .bool (decide (y_7 > 0)))]) (H' := [⟨1, b_2, [.slice A_3 w_1.b.length c_4]⟩]) (ps := []) (by kernel_rfl) trivial ?_
    refine GoO.regionEnd ?_
    refine GoO.ite' c48_20e (by kernel_rfl) (fun h8 => ?_) (fun h8 => ?_)
    · refine GoO.skip' c48_21e ?_
      refine GoO.seq' c48_23e ?_
      refine GoO.block' c48_24e ?_
      refine GoO.region' (is := [0, 1, 2]) c48_25e (by kernel_rfl) ?_
      refine GoO.exec (is := [0, 1, 2]) (hs := [.p, .p, .p]) (rest := []) (ks := [0, 1, 5, 6]) (env' := [(0, .pointer (some ⟨b_2, 0, none⟩)), (1, .int .u64 x_5), (5, .int .i64 (wi64 (n_6 + 1))), (6, .int .u64 y_7)]) (H' := [⟨1, b_2, [.slice A_3 w_1.b.length c_4]⟩]) (ps := []) (by kernel_rfl) trivial ?_
      refine GoO.regionEnd ?_
      refine GoO.inBlock ?_
      refine GoO.region' (is := [0, 1, 2]) c48_26e (by kernel_rfl) ?_
      refine GoO.exec (is := [0, 1, 2]) (hs := [.p, .p, .p]) (rest := []) (ks := [0, 1, 5, 6]) (env' := [(0, .pointer (some ⟨b_2, 0, none⟩)), (1, .int .u64 x_5), (5, .int .i64 (wi64 (n_6 + 1))), (6, .int .u64 (shR .u64 y_7 8))]) (H' := [⟨1, b_2, [.slice A_3 w_1.b.length c_4]⟩]) (ps := [(0 : Int) ≤ 8]) (by kernel_rfl) (And.intro (by decide) trivial) ?_
      refine GoO.regionEnd ?_
      refine GoO.inLoop ?_
      exact GoO.sub (ks := [0, 1, 5, 6]) (hk := [0]) (bk := [0]) (by kernel_rfl) (by kernel_rfl) (by kernel_rfl) (ih0 (wi64 (n_6 + 1)) (shR .u64 y_7 8))
    · refine GoO.exit' c48_22e rfl ?_
      refine GoO.seq' c48_27e ?_
      refine GoO.region' (is := [0, 1, 2, 3, 4, 5, 6, 7, 8, 9, 10, 11]) c48_28e (by kernel_rfl) ?_
      refine GoO.exec (is := [0, 1, 2, 3, 4, 5, 6]) (hs := [.p, .p, .p, .p, .b 0, .p, .p]) (rest := [7, 8, 9, 10, 11]) (ks := [0, 1, 5, 17, 21, 23]) (env' := [(0, .pointer (some ⟨b_2, 0, none⟩)), (1, .int .u64 x_5), (5, .int .i64 n_6), (17, .pointer (some ⟨b_2, 0, none⟩)), (21, .slice A_3 w_1.b.length c_4), (23, .int .u8 (wu8 n_6))]) (H' := [⟨1, b_2, [.slice A_3 w_1.b.length c_4]⟩]) (ps := [b_2 = b_2]) (by kernel_rfl) (And.intro rfl trivial) ?_
      refine OpTo.go (GoO.lit (e := 5) (K := Kd.u8) rfl (by kernel_rfl) (by kernel_rfl) (cs := [.int .u8 (wu8 n_6)]) (by kernel_rfl) [u8of n_6] (by kernel_rfl) (by kernel_rfl) (fun w S hB => ⟨[.int .u8 (wu8 n_6)], _, rfl, congrArg (fun v => [v]) (u8cell _), rfl⟩) 40 _ (fun _ _ => rfl) (fun A_9 c_10 => ?_))
      refine GoO.guard (fun h11 => ?_)
      refine OpTo.go (GoO.appW (e := 5) (K := Kd.u8) (A := A_3) (c := c_4) (tg := 2) (bytes := 1) (zs := [.int .u8 0]) (xs := w_1.b) (ys := [u8of n_6]) (xv := .slice A_9 [u8of n_6].length c_10) (j := 1) (bk := [0]) rfl (by kernel_rfl) (by kernel_rfl) (by kernel_rfl) (by kernel_rfl) rfl (by kernel_rfl) rfl (fun w S hB => SrcIs.row (Reads.own w S (hB _ (List.mem_of_getElem? (i := 0) rfl)))) h11 rfl rfl rfl rfl _ (fun _ _ => rfl) (fun A_12 c_13 => ?_))
      refine GoO.exec (is := [9, 10, 11]) (hs := [.p, .p, .b 0]) (rest := []) (ks := [0, 1, 5]) (env' := [(0, .pointer (some ⟨b_2, 0, none⟩)), (1, .int .u64 x_5), (5, .int .i64 n_6)]) (H' := [⟨1, b_2, [.slice A_12 (w_1.b ++ [u8of n_6]).length c_13]⟩]) (ps := [b_2 = b_2]) (by kernel_rfl) (And.intro rfl trivial) ?_
      refine GoO.regionEnd ?_
      refine GoO.seq' c48_29e ?_
      refine GoO.seq' c48_30e ?_
      refine GoO.region' (is := [0, 1, 2]) c48_31e (by kernel_rfl) ?_
      refine GoO.exec (is := [0, 1, 2]) (hs := [.p, .p, .p]) (rest := []) (ks := [0, 1, 7]) (env' := [(0, .pointer (some ⟨b_2, 0, none⟩)), (1, .int .u64 x_5), (7, .int .i64 (wi64 (n_6 - 1)))]) (H' := [⟨1, b_2, [.slice A_12 (w_1.b ++ [u8of n_6]).length c_13]⟩]) (ps := []) (by kernel_rfl) trivial ?_
      refine GoO.regionEnd ?_
      refine GoO.block' c48_32e ?_
      refine GoO.loop' c48_33e ?_
      exact GoO.sub (ks := [0, 1, 7]) (hk := [0]) (bk := [0]) (by kernel_rfl) (by kernel_rfl) (by kernel_rfl) (pack_Writer_Num_l1_ok n x_5 b_2 A_3 c_4 w0 S0 n (w_1.b ++ [u8of n_6]) (wi64 (n_6 - 1)) A_12 c_13)
theorem pack_Writer_Num_ok (n : Nat) (w_1 : T_pack_Writer) (x_5 : Int) (b_2 : Nat) (A_3 : Option Addr) (c_4 : Nat) :
    Meets Try.prog 48 [.pointer (some ⟨b_2, 0, none⟩), .int .u64 x_5] 2 [1, 2] [⟨1, b_2, [.slice A_3 w_1.b.length c_4]⟩] [Ow 2 Kd.u8 A_3 c_4 w_1.b] (pack_Writer_Num.f n w_1 x_5) (pack_Writer_Num.R b_2 A_3 c_4) := by
  refine Meets.of (c := c48_0) (n := 49) Try.func48 (by kernel_rfl) (by kernel_rfl) (by kernel_rfl) fun w0 S0 => ?_
  unfold pack_Writer_Num.f
  show GoO (pack_Writer_Num.cx b_2 A_3 c_4 w0 S0) [(0, .pointer (some ⟨b_2, 0, none⟩)), (1, .int .u64 x_5)] [⟨1, b_2, [.slice A_3 w_1.b.length c_4]⟩] [Ow 2 Kd.u8 A_3 c_4 w_1.b] [.code c48_0] _
  refine GoO.seq' c48_0e ?_
  refine GoO.region' (is := [0]) c48_1e (by kernel_rfl) ?_
  refine GoO.exec (is := [0]) (hs := [.p]) (rest := []) (ks := [0, 1]) (env' := [(0, .pointer (some ⟨b_2, 0, none⟩)), (1, .int .u64 x_5)]) (H' := [⟨1, b_2, [.slice A_3 w_1.b.length c_4]⟩]) (ps := []) (by kernel_rfl) trivial ?_
  refine GoO.regionEnd ?_
  refine GoO.seq' c48_2e ?_
  refine GoO.seq' c48_3e ?_
  refine GoO.region' (is := [0, 1]) c48_4e (by kernel_rfl) ?_
  refine GoO.exec (is := [0, 1]) (hs := [.p, .p]) (rest := []) (ks := [0, 1, 9]) (env' := [(0, .pointer (some ⟨b_2, 0, none⟩)), (1, .int .u64 x_5), (9, .bool false)]) (H' := [⟨1, b_2, [.slice A_3 w_1.b.length c_4]⟩]) (ps := []) (by kernel_rfl) trivial ?_
  refine GoO.regionEnd ?_
  refine GoO.condF c48_5e (by kernel_rfl) ?_
  refine GoO.skip' c48_9e ?_
  refine GoO.seq' c48_10e ?_
  refine GoO.region' (is := [0]) c48_11e (by kernel_rfl) ?_
  refine GoO.exec (is := [0]) (hs := [.p]) (rest := []) (ks := [0, 1, 5]) (env' := [(0, .pointer (some ⟨b_2, 0, none⟩)), (1, .int .u64 x_5), (5, .int .i64 0)]) (H' := [⟨1, b_2, [.slice A_3 w_1.b.length c_4]⟩]) (ps := []) (by kernel_rfl) trivial ?_
  refine GoO.regionEnd ?_
  refine GoO.seq' c48_12e ?_
  refine GoO.seq' c48_13e ?_
  refine GoO.region' (is := [0, 1]) c48_14e (by kernel_rfl) ?_
  refine GoO.exec (is := [0, 1]) (hs := [.p, .p]) (rest := []) (ks := [0, 1, 5, 6]) (env' := [(0, .pointer (some ⟨b_2, 0, none⟩)), (1, .int .u64 x_5), (5, .int .i64 0), (6, .int .u64 x_5)]) (H' := [⟨1, b_2, [.slice A_3 w_1.b.length c_4]⟩]) (ps := []) (by kernel_rfl) trivial ?_
  refine GoO.regionEnd ?_
  refine GoO.block' c48_15e ?_
  refine GoO.loop' c48_16e ?_
  exact GoO.sub (ks := [0, 1, 5, 6]) (hk := [0]) (bk := [0]) (by kernel_rfl) (by kernel_rfl) (by kernel_rfl) (pack_Writer_Num_l0_ok n w_1 x_5 b_2 A_3 c_4 w0 S0 n 0 x_5)

/-! (*tontine/pack.Writer).Text -/
noncomputable def c66_0 : Code := bodyOf Try.f66
noncomputable def c66_1 : Code := cdL c66_0
noncomputable def c66_2 : Code := cdR c66_0
noncomputable def c66_3 : Code := cdL c66_2
noncomputable def c66_4 : Code := cdL c66_3
noncomputable def c66_5 : Code := cdR c66_3
noncomputable def c66_9 : Code := cdR c66_5
noncomputable def c66_10 : Code := cdR c66_2
noncomputable def c66_11 : Code := cdL c66_10
noncomputable def c66_12 : Code := cdR c66_10
noncomputable def c66_13 : Code := cdL c66_12
noncomputable def c66_14 : Code := cdR c66_12
noncomputable def c66_15 : Code := cdL c66_14
noncomputable def c66_16 : Code := cdR c66_14
noncomputable def c66_6 : Code := cdL c66_5
noncomputable def r66_1 : Array Oper := cdO c66_1
noncomputable def r66_4 : Array Oper := cdO c66_4
noncomputable def r66_11 : Array Oper := cdO c66_11
noncomputable def r66_13 : Array Oper := cdO c66_13
noncomputable def r66_15 : Array Oper := cdO c66_15
theorem c66_0e : c66_0 = .seq c66_1 c66_2 := by kernel_rfl
theorem c66_1e : c66_1 = .region 0 r66_1 false := by kernel_rfl
theorem c66_2e : c66_2 = .seq c66_3 c66_10 := by kernel_rfl
theorem c66_3e : c66_3 = .seq c66_4 c66_5 := by kernel_rfl
theorem c66_4e : c66_4 = .region 1 r66_4 false := by kernel_rfl
theorem c66_5e : c66_5 = .cond (cdC c66_5) c66_6 c66_9 := by kernel_rfl
theorem c66_9e : c66_9 = .skip := by kernel_rfl
theorem c66_10e : c66_10 = .seq c66_11 c66_12 := by kernel_rfl
theorem c66_11e : c66_11 = .region 3 r66_11 false := by kernel_rfl
theorem c66_12e : c66_12 = .seq c66_13 c66_14 := by kernel_rfl
theorem c66_13e : c66_13 = .region 4 r66_13 false := by kernel_rfl
theorem c66_14e : c66_14 = .seq c66_15 c66_16 := by kernel_rfl
theorem c66_15e : c66_15 = .region 5 r66_15 false := by kernel_rfl
theorem c66_16e : c66_16 = .ret := by kernel_rfl
noncomputable def pack_Writer_Text.R (b_2 : Nat) (A_3 : Option Addr) (c_4 : Nat) : Pst T_pack_Writer where
  ε := Option Addr × Nat
  v := fun r x => .pointer (some ⟨b_2, 0, none⟩)
  H := fun r x => [⟨1, b_2, [.slice x.1 r.b.length x.2]⟩]
  B := fun r x => [Ow 2 Kd.u8 x.1 x.2 r.b]
noncomputable def pack_Writer_Text.cx (b_2 : Nat) (A_3 : Option Addr) (c_4 : Nat) (w0 : World) (S0 : Fam) : Cx T_pack_Writer := ⟨Try.prog, 66, Try.f66, 22, w0, S0, [1, 2], 2, pack_Writer_Text.R b_2 A_3 c_4⟩
theorem pack_Writer_Text_ok (n : Nat) (w_1 : T_pack_Writer) (s_5 : (List UInt8)) (b_2 : Nat) (A_3 : Option Addr) (c_4 : Nat) :
    Meets Try.prog 66 [.pointer (some ⟨b_2, 0, none⟩), .string (bs s_5)] 2 [1, 2] [⟨1, b_2, [.slice A_3 w_1.b.length c_4]⟩] [Ow 2 Kd.u8 A_3 c_4 w_1.b] (pack_Writer_Text.f n w_1 s_5) (pack_Writer_Text.R b_2 A_3 c_4) := by
  refine Meets.of (c := c66_0) (n := 22) Try.func66 (by kernel_rfl) (by kernel_rfl) (by kernel_rfl) fun w0 S0 => ?_
  unfold pack_Writer_Text.f
  show GoO (pack_Writer_Text.cx b_2 A_3 c_4 w0 S0) [(0, .pointer (some ⟨b_2, 0, none⟩)), (1, .string (bs s_5))] [⟨1, b_2, [.slice A_3 w_1.b.length c_4]⟩] [Ow 2 Kd.u8 A_3 c_4 w_1.b] [.code c66_0] _
  refine GoO.seq' c66_0e ?_
  refine GoO.region' (is := [0]) c66_1e (by kernel_rfl) ?_
  refine GoO.exec (is := [0]) (hs := [.p]) (rest := []) (ks := [0, 1]) (env' := [(0, .pointer (some ⟨b_2, 0, none⟩)), (1, .string (bs s_5))]) (H' := [⟨1, b_2, [.slice A_3 w_1.b.length c_4]⟩]) (ps := []) (by kernel_rfl) trivial ?_
  refine GoO.regionEnd ?_
  refine GoO.seq' c66_2e ?_
  refine GoO.seq' c66_3e ?_
  refine GoO.region' (is := [0, 1]) c66_4e (by kernel_rfl) ?_
  refine GoO.exec (is := [0, 1]) (hs := [.p, .p]) (rest := []) (ks := [0, 1, 6]) (env' := [(0, .pointer (some ⟨b_2, 0, none⟩)), (1, .string (bs s_5)), (6, .bool false)]) (H' := [⟨1, b_2, [.slice A_3 w_1.b.length c_4]⟩]) (ps := []) (by kernel_rfl) trivial ?_
  refine GoO.regionEnd ?_
  refine GoO.condF c66_5e (by kernel_rfl) ?_
  refine GoO.skip' c66_9e ?_
  refine GoO.seq' c66_10e ?_
  refine GoO.region' (is := [0, 1, 2, 3, 4]) c66_11e (by kernel_rfl) ?_
  refine GoO.exec (is := [0, 1, 2, 3]) (hs := [.p, .p, .p, .p]) (rest := [4]) (ks := [0, 1, 7, 10]) (env' := [(0, .pointer (some ⟨b_2, 0, none⟩)), (1, .string (bs s_5)), (7, .pointer (some ⟨b_2, 0, none⟩)), (10, .int .u64 (wu64 (s_5.length : Int)))]) (H' := [⟨1, b_2, [.slice A_3 w_1.b.length c_4]⟩]) (ps := []) (by kernel_rfl) trivial ?_
  refine OpTo.go (GoO.call rfl (by kernel_rfl) (by kernel_rfl) (pack_Writer_Num_ok n w_1 (wu64 (s_5.length : Int)) b_2 A_3 c_4) [[0], [1], [2]] [(1, 1), (2, 2)] [(1, 0)] [(2, 0)] (hks := []) (bks := []) (by kernel_rfl) (by kernel_rfl) (by kernel_rfl) (.inl rfl) rfl rfl (by kernel_rfl) (by kernel_rfl) _ (fun _ _ => rfl) _ _ (fun _ _ => rfl) (fun _ _ => rfl) (fun _ _ => by kernel_rfl) (fun _ _ => by kernel_rfl) (fun r_6 x_12 => ?_))
  obtain ⟨A_7, c_8⟩ := x_12
  refine GoO.shape (env' := [(0, .pointer (some ⟨b_2, 0, none⟩)), (1, .string (bs s_5)), (7, .pointer (some ⟨b_2, 0, none⟩)), (10, .int .u64 (wu64 (s_5.length : Int))), (11, .pointer (some ⟨b_2, 0, none⟩))]) (H' := [⟨1, b_2, [.slice A_7 r_6.b.length c_8]⟩]) (B' := [Ow 2 Kd.u8 A_7 c_8 r_6.b]) (ks := [0, 1, 7, 10, 11]) (by kernel_rfl) (by kernel_rfl) (by kernel_rfl) ?_
  refine GoO.regionEnd ?_
  refine GoO.seq' c66_12e ?_
  refine GoO.region' (is := [0, 1, 2, 3, 4, 5, 6, 7, 8, 9]) c66_13e (by kernel_rfl) ?_
  refine GoO.exec (is := [0, 1, 2, 3, 4, 5]) (hs := [.p, .p, .p, .p, .b 0, .p]) (rest := [6, 7, 8, 9]) (ks := [0, 12, 16, 17]) (env' := [(0, .pointer (some ⟨b_2, 0, none⟩)), (12, .pointer (some ⟨b_2, 0, none⟩)), (16, .slice A_7 r_6.b.length c_8), (17, .string (bs s_5))]) (H' := [⟨1, b_2, [.slice A_7 r_6.b.length c_8]⟩]) (ps := [b_2 = b_2]) (by kernel_rfl) (And.intro rfl trivial) ?_
  refine GoO.guard (fun h9 => ?_)
  refine OpTo.go (GoO.appW (e := 5) (K := Kd.u8) (A := A_7) (c := c_8) (tg := 2) (bytes := 1) (zs := [.int .u8 0]) (xs := r_6.b) (ys := s_5) (xv := .string (bs s_5)) (j := 0) (bk := []) rfl (by kernel_rfl) (by kernel_rfl) (by kernel_rfl) (by kernel_rfl) rfl (by kernel_rfl) rfl (fun _ _ _ => SrcIs.str _) h9 rfl rfl rfl rfl _ (fun _ _ => rfl) (fun A_10 c_11 => ?_))
  refine GoO.exec (is := [7, 8, 9]) (hs := [.p, .p, .b 0]) (rest := []) (ks := [0]) (env' := [(0, .pointer (some ⟨b_2, 0, none⟩))]) (H' := [⟨1, b_2, [.slice A_10 (r_6.b ++ s_5).length c_11]⟩]) (ps := [b_2 = b_2]) (by kernel_rfl) (And.intro rfl trivial) ?_
  refine GoO.regionEnd ?_
  refine GoO.seq' c66_14e ?_
  refine GoO.region' (is := [0, 1]) c66_15e (by kernel_rfl) ?_
  refine GoO.exec (is := [0, 1]) (hs := [.p, .p]) (rest := []) (ks := [4]) (env' := [(4, .pointer (some ⟨b_2, 0, none⟩))]) (H' := [⟨1, b_2, [.slice A_10 (r_6.b ++ s_5).length c_11]⟩]) (ps := []) (by kernel_rfl) trivial ?_
  refine GoO.regionEnd ?_
  exact GoO.ret' (h := c66_16e) (hs := []) (ps := []) (hk := [0]) (bk := [0]) Try.func66 (⟨A_10, c_11⟩ : Option Addr × Nat) (by kernel_rfl) trivial (by kernel_rfl) (by kernel_rfl)

/-! tontine/plan.Write -/
noncomputable def c49_0 : Code := bodyOf Try.f49
noncomputable def c49_1 : Code := cdL c49_0
noncomputable def c49_2 : Code := cdR c49_0
noncomputable def c49_3 : Code := cdL c49_2
noncomputable def c49_4 : Code := cdR c49_2
noncomputable def c49_5 : Code := cdL c49_4
noncomputable def c49_6 : Code := cdL c49_5
noncomputable def c49_7 : Code := cdL c49_6
noncomputable def c49_8 : Code := cdR c49_6
noncomputable def c49_9 : Code := cdL c49_8
noncomputable def c49_10 : Code := cdL c49_9
noncomputable def c49_11 : Code := cdR c49_9
noncomputable def c49_12 : Code := cdR c49_8
noncomputable def c49_13 : Code := cdL c49_12
noncomputable def c49_14 : Code := cdL c49_13
noncomputable def c49_15 : Code := cdL c49_14
noncomputable def c49_16 : Code := cdR c49_14
noncomputable def c49_17 : Code := cdR c49_12
noncomputable def r49_1 : Array Oper := cdO c49_1
noncomputable def r49_3 : Array Oper := cdO c49_3
noncomputable def r49_7 : Array Oper := cdO c49_7
noncomputable def r49_15 : Array Oper := cdO c49_15
noncomputable def r49_16 : Array Oper := cdO c49_16
noncomputable def r49_17 : Array Oper := cdO c49_17
theorem c49_0e : c49_0 = .seq c49_1 c49_2 := by kernel_rfl
theorem c49_1e : c49_1 = .region 0 r49_1 false := by kernel_rfl
theorem c49_2e : c49_2 = .seq c49_3 c49_4 := by kernel_rfl
theorem c49_3e : c49_3 = .region 1 r49_3 false := by kernel_rfl
theorem c49_4e : c49_4 = .block 0 c49_5 := by kernel_rfl
theorem c49_5e : c49_5 = .loop c49_6 := by kernel_rfl
theorem c49_6e : c49_6 = .seq c49_7 c49_8 := by kernel_rfl
theorem c49_7e : c49_7 = .region 2 r49_7 false := by kernel_rfl
theorem c49_8e : c49_8 = .seq c49_9 c49_12 := by kernel_rfl
theorem c49_9e : c49_9 = .cond (cdC c49_9) c49_10 c49_11 := by kernel_rfl
theorem c49_10e : c49_10 = .skip := by kernel_rfl
theorem c49_11e : c49_11 = .exit 0 := by kernel_rfl
theorem c49_12e : c49_12 = .seq c49_13 c49_17 := by kernel_rfl
theorem c49_13e : c49_13 = .block 1 c49_14 := by kernel_rfl
theorem c49_14e : c49_14 = .seq c49_15 c49_16 := by kernel_rfl
theorem c49_15e : c49_15 = .region 3 r49_15 false := by kernel_rfl
theorem c49_16e : c49_16 = .region 4 r49_16 true := by kernel_rfl
theorem c49_17e : c49_17 = .region 5 r49_17 false := by kernel_rfl
noncomputable def plan_Write.R (b_2 : Nat) (A_3 : Option Addr) (c_4 : Nat) (A_6 : Option Addr) (c_7 : Nat) : Pst T_pack_Writer where
  ε := Option Addr × Nat
  v := fun r x => .tuple ⟨[]⟩
  H := fun r x => [⟨1, b_2, [.slice x.1 r.b.length x.2]⟩]
  B := fun r x => [Ow 2 Kd.u8 x.1 x.2 r.b]
noncomputable def plan_Write.cx (b_2 : Nat) (A_3 : Option Addr) (c_4 : Nat) (A_6 : Option Addr) (c_7 : Nat) (w0 : World) (S0 : Fam) : Cx T_pack_Writer := ⟨Try.prog, 49, Try.f49, 30, w0, S0, [1, 2], 2, plan_Write.R b_2 A_3 c_4 A_6 c_7⟩
theorem plan_Write_l0_ok (n : Nat) (l_5 : (List T_api_Step)) (b_2 : Nat) (A_6 : Option Addr) (c_7 : Nat) (A_3 : Option Addr) (c_4 : Nat) (w0 : World) (S0 : Fam) :
    ∀ (k : Nat) (f_11 : (List UInt8)) (x_14 : Int) (A_12 : Option Addr) (c_13 : Nat), GoO (plan_Write.cx b_2 A_3 c_4 A_6 c_7 w0 S0) [(0, .pointer (some ⟨b_2, 0, none⟩)), (11, .slice A_6 l_5.length c_7), (12, .int .i64 (l_5.length : Int)), (13, .int .i64 x_14)] [⟨1, b_2, [.slice A_12 f_11.length c_13]⟩] [Ow 2 Kd.u8 A_12 c_13 f_11, Rd 0 kT_api_Step A_6 c_7 l_5] [.code c49_6, .inLoop c49_6, .inBlock 0] (plan_Write.l0 n l_5 k f_11 x_14) := by
  intro k
  induction k with
  | zero => intros; rw [plan_Write.l0.eq_1]; exact GoO.stop
  | succ k ih0 =>
    intro f_11 x_14 A_12 c_13
    rw [plan_Write.l0.eq_2]
    refine GoO.seq' c49_6e ?_
    refine GoO.region' (is := [0]) c49_7e (by kernel_rfl) ?_
    refine GoO.exec (is := [0]) (hs := [.p]) (rest := []) (ks := [0, 11, 12, 13, 14]) (env' := [(0, .pointer (some ⟨b_2, 0, none⟩)), (11, .slice A_6 l_5.length c_7), (12, .int .i64 (l_5.length : Int)), (13, .int .i64 x_14), (14, .bool (decide (x_14 < (l_5.length : Int))))]) (H' := [⟨1, b_2, [.slice A_12 f_11.length c_13]⟩]) (ps := []) (by kernel_rfl) trivial ?_
    refine GoO.regionEnd ?_
    refine GoO.seq' c49_8e ?_
    refine GoO.ite' c49_9e (by kernel_rfl) (fun h15 => ?_) (fun h15 => ?_)
    · refine GoO.skip' c49_10e ?_
      refine GoO.seq' c49_12e ?_
      refine GoO.block' c49_13e ?_
      refine GoO.seq' c49_14e ?_
      refine GoO.region' (is := [0, 1, 2, 3]) c49_15e (by kernel_rfl) ?_
      refine GoO.guard (fun h16 => ?_)
      refine OpTo.go (GoO.idx (kk := .i64) (e := 50) (K := kT_api_Step) (A := A_6) (c := c_7) (xs := l_5) (iv := x_14) (j := 1) rfl (by kernel_rfl) (by kernel_rfl) (by kernel_rfl) (by kernel_rfl) rfl Reads.rd rfl h16.1 h16.2 (by decide) rfl ?_)
      refine OpTo.go (GoO.ldE' (K := kT_api_Step) (A := A_6) (c := c_7) (xs := l_5) (iN := x_14.toNat) (off := 0) (j := 1) rfl (by kernel_rfl) rfl Reads.rd (idx_lt h16.1 h16.2) (by decide) (Opn.flat _ _ _ _ _) (v := fun _ => .agg ⟨[.int .i64 ((rdL l_5 x_14).Part), .string (bs ((rdL l_5 x_14).Name)), .int .i64 ((rdL l_5 x_14).Budget)]⟩) (fun _ => by kernel_rfl) _ (fun _ => rfl) (fun _ => ?_))
      refine OpTo.go (GoO.new rfl 40 (cs := [.int .i64 0, .string (bs []), .int .i64 0]) (by kernel_rfl) _ (fun _ => rfl) (fun b_17 => ?_))
      refine GoO.exec (is := [3]) (hs := [.b 0]) (rest := []) (ks := [0, 5, 11, 12, 13]) (env' := [(0, .pointer (some ⟨b_2, 0, none⟩)), (5, .pointer (some ⟨b_17, 0, none⟩)), (11, .slice A_6 l_5.length c_7), (12, .int .i64 (l_5.length : Int)), (13, .int .i64 x_14)]) (H' := [⟨40, b_17, [.int .i64 ((rdL l_5 x_14).Part), .string (bs ((rdL l_5 x_14).Name)), .int .i64 ((rdL l_5 x_14).Budget)]⟩, ⟨1, b_2, [.slice A_12 f_11.length c_13]⟩]) (ps := [b_17 = b_17]) (by kernel_rfl) (And.intro rfl trivial) ?_
      refine GoO.regionEnd ?_
      refine GoO.draw c49_16e (by kernel_rfl) [] [⟨40, b_17, [.int .i64 ((rdL l_5 x_14).Part), .string (bs ((rdL l_5 x_14).Name)), .int .i64 ((rdL l_5 x_14).Budget)]⟩] [] (n := 12) (by kernel_rfl) ?_
      simp only [List.replicate]
      refine GoF.take [0, 1, 2, 3, 5, 6, 8, 9, 10] [.p, .p, .b 0, .p, .p, .b 0, .p, .b 0, .p] (ks := [0, 11, 12, 13, 17, 20, 23, 27]) (fu := 3) (li := [true, true, true, true, false, true, true, false, true, true, true, false]) (env' := [(0, .pointer (some ⟨b_2, 0, none⟩)), (11, .slice A_6 l_5.length c_7), (12, .int .i64 (l_5.length : Int)), (13, .int .i64 x_14), (17, .pointer (some ⟨b_2, 0, none⟩)), (20, .int .u64 (wu64 ((rdL l_5 x_14).Part))), (23, .string (bs ((rdL l_5 x_14).Name))), (27, .int .u64 (wu64 ((rdL l_5 x_14).Budget)))]) (ps := [b_17 = b_17, b_17 = b_17, b_17 = b_17]) (hk := [0]) (bk := []) (by kernel_rfl) (And.intro rfl (And.intro rfl (And.intro rfl trivial))) rfl rfl ?_
      refine OpTo.goF (i := 4) (by kernel_rfl) (hk := [1]) (bk := []) (GoO.call rfl (by kernel_rfl) (by kernel_rfl) (pack_Writer_Num_ok n (⟨f_11⟩ : T_pack_Writer) (wu64 ((rdL l_5 x_14).Part)) b_2 A_12 c_13) [[0], [1], [2]] [(1, 1), (2, 2)] [(1, 1)] [(2, 0)] (hks := [0]) (bks := [1]) (by kernel_rfl) (by kernel_rfl) (by kernel_rfl) (.inl rfl) rfl rfl (by kernel_rfl) (by kernel_rfl) _ (fun _ _ => rfl) _ _ (fun _ _ => rfl) (fun _ _ => rfl) (fun _ _ => by kernel_rfl) (fun _ _ => by kernel_rfl) (fun r_18 x_29 => ⟨rfl, rfl, ?_⟩))
      obtain ⟨A_19, c_20⟩ := x_29
      refine GoF.shape (env' := [(0, .pointer (some ⟨b_2, 0, none⟩)), (11, .slice A_6 l_5.length c_7), (12, .int .i64 (l_5.length : Int)), (13, .int .i64 x_14), (17, .pointer (some ⟨b_2, 0, none⟩)), (20, .int .u64 (wu64 ((rdL l_5 x_14).Part))), (21, .pointer (some ⟨b_2, 0, none⟩)), (23, .string (bs ((rdL l_5 x_14).Name))), (27, .int .u64 (wu64 ((rdL l_5 x_14).Budget)))]) (H' := [⟨1, b_2, [.slice A_19 r_18.b.length c_20]⟩, ⟨40, b_17, [.int .i64 ((rdL l_5 x_14).Part), .string (bs ((rdL l_5 x_14).Name)), .int .i64 ((rdL l_5 x_14).Budget)]⟩]) (B' := [Ow 2 Kd.u8 A_19 c_20 r_18.b, Rd 0 kT_api_Step A_6 c_7 l_5]) (ks := [0, 11, 12, 13, 17, 20, 21, 23, 27]) (by kernel_rfl) (by kernel_rfl) (by kernel_rfl) ?_
      refine OpTo.goF (i := 7) (by kernel_rfl) (hk := [1]) (bk := []) (GoO.call rfl (by kernel_rfl) (by kernel_rfl) (pack_Writer_Text_ok n r_18 ((rdL l_5 x_14).Name) b_2 A_19 c_20) [[0], [1], [2]] [(1, 1), (2, 2)] [(1, 0)] [(2, 0)] (hks := [1]) (bks := [1]) (by kernel_rfl) (by kernel_rfl) (by kernel_rfl) (.inl rfl) rfl rfl (by kernel_rfl) (by kernel_rfl) _ (fun _ _ => rfl) _ _ (fun _ _ => rfl) (fun _ _ => rfl) (fun _ _ => by kernel_rfl) (fun _ _ => by kernel_rfl) (fun r_21 x_28 => ⟨rfl, rfl, ?_⟩))
      obtain ⟨A_22, c_23⟩ := x_28
      refine GoF.shape (env' := [(0, .pointer (some ⟨b_2, 0, none⟩)), (11, .slice A_6 l_5.length c_7), (12, .int .i64 (l_5.length : Int)), (13, .int .i64 x_14), (17, .pointer (some ⟨b_2, 0, none⟩)), (20, .int .u64 (wu64 ((rdL l_5 x_14).Part))), (21, .pointer (some ⟨b_2, 0, none⟩)), (23, .string (bs ((rdL l_5 x_14).Name))), (24, .pointer (some ⟨b_2, 0, none⟩)), (27, .int .u64 (wu64 ((rdL l_5 x_14).Budget)))]) (H' := [⟨1, b_2, [.slice A_22 r_21.b.length c_23]⟩, ⟨40, b_17, [.int .i64 ((rdL l_5 x_14).Part), .string (bs ((rdL l_5 x_14).Name)), .int .i64 ((rdL l_5 x_14).Budget)]⟩]) (B' := [Ow 2 Kd.u8 A_22 c_23 r_21.b, Rd 0 kT_api_Step A_6 c_7 l_5]) (ks := [0, 11, 12, 13, 17, 20, 21, 23, 24, 27]) (by kernel_rfl) (by kernel_rfl) (by kernel_rfl) ?_
      refine OpTo.goF (i := 11) (by kernel_rfl) (hk := [1]) (bk := []) (GoO.call rfl (by kernel_rfl) (by kernel_rfl) (pack_Writer_Num_ok n r_21 (wu64 ((rdL l_5 x_14).Budget)) b_2 A_22 c_23) [[0], [1], [2]] [(1, 1), (2, 2)] [(1, 0)] [(2, 0)] (hks := [1]) (bks := [1]) (by kernel_rfl) (by kernel_rfl) (by kernel_rfl) (.inl rfl) rfl rfl (by kernel_rfl) (by kernel_rfl) _ (fun _ _ => rfl) _ _ (fun _ _ => rfl) (fun _ _ => rfl) (fun _ _ => by kernel_rfl) (fun _ _ => by kernel_rfl) (fun r_24 x_27 => ⟨rfl, rfl, ?_⟩))
      obtain ⟨A_25, c_26⟩ := x_27
      refine GoF.shape (env' := [(0, .pointer (some ⟨b_2, 0, none⟩)), (11, .slice A_6 l_5.length c_7), (12, .int .i64 (l_5.length : Int)), (13, .int .i64 x_14), (17, .pointer (some ⟨b_2, 0, none⟩)), (20, .int .u64 (wu64 ((rdL l_5 x_14).Part))), (21, .pointer (some ⟨b_2, 0, none⟩)), (23, .string (bs ((rdL l_5 x_14).Name))), (24, .pointer (some ⟨b_2, 0, none⟩)), (27, .int .u64 (wu64 ((rdL l_5 x_14).Budget))), (28, .pointer (some ⟨b_2, 0, none⟩))]) (H' := [⟨1, b_2, [.slice A_25 r_24.b.length c_26]⟩, ⟨40, b_17, [.int .i64 ((rdL l_5 x_14).Part), .string (bs ((rdL l_5 x_14).Name)), .int .i64 ((rdL l_5 x_14).Budget)]⟩]) (B' := [Ow 2 Kd.u8 A_25 c_26 r_24.b, Rd 0 kT_api_Step A_6 c_7 l_5]) (ks := [0, 11, 12, 13, 17, 20, 21, 23, 24, 27, 28]) (by kernel_rfl) (by kernel_rfl) (by kernel_rfl) ?_
      refine GoF.done (by kernel_rfl) ?_
      refine GoO.inBlock ?_
      refine GoO.region' (is := [0, 1]) c49_17e (by kernel_rfl) ?_
      refine GoO.exec (is := [0, 1]) (hs := [.p, .p]) (rest := []) (ks := [0, 11, 12, 13]) (env' := [(0, .pointer (some ⟨b_2, 0, none⟩)), (11, .slice A_6 l_5.length c_7), (12, .int .i64 (l_5.length : Int)), (13, .int .i64 (wi64 (x_14 + 1)))]) (H' := [⟨1, b_2, [.slice A_25 r_24.b.length c_26]⟩, ⟨40, b_17, [.int .i64 ((rdL l_5 x_14).Part), .string (bs ((rdL l_5 x_14).Name)), .int .i64 ((rdL l_5 x_14).Budget)]⟩]) (ps := []) (by kernel_rfl) trivial ?_
      refine GoO.regionEnd ?_
      refine GoO.inLoop ?_
      exact GoO.sub (ks := [0, 11, 12, 13]) (hk := [0]) (bk := [0, 1]) (by kernel_rfl) (by kernel_rfl) (by kernel_rfl) (ih0 r_24.b (wi64 (x_14 + 1)) A_25 c_26)
    · refine GoO.exit' c49_11e rfl ?_
      exact GoO.fin (hs := []) (ps := []) (hk := [0]) (bk := [0]) Try.func49 (⟨A_12, c_13⟩ : Option Addr × Nat) (by kernel_rfl) trivial (by kernel_rfl) (by kernel_rfl)
theorem plan_Write_ok (n : Nat) (w_1 : T_pack_Writer) (l_5 : (List T_api_Step)) (b_2 : Nat) (A_3 : Option Addr) (c_4 : Nat) (A_6 : Option Addr) (c_7 : Nat) :
    Meets Try.prog 49 [.pointer (some ⟨b_2, 0, none⟩), .slice A_6 l_5.length c_7] 2 [1, 2] [⟨1, b_2, [.slice A_3 w_1.b.length c_4]⟩] [Ow 2 Kd.u8 A_3 c_4 w_1.b, Rd 0 kT_api_Step A_6 c_7 l_5] (plan_Write.f n w_1 l_5) (plan_Write.R b_2 A_3 c_4 A_6 c_7) := by
  refine Meets.of (c := c49_0) (n := 30) Try.func49 (by kernel_rfl) (by kernel_rfl) (by kernel_rfl) fun w0 S0 => ?_
  unfold plan_Write.f
  show GoO (plan_Write.cx b_2 A_3 c_4 A_6 c_7 w0 S0) [(0, .pointer (some ⟨b_2, 0, none⟩)), (1, .slice A_6 l_5.length c_7)] [⟨1, b_2, [.slice A_3 w_1.b.length c_4]⟩] [Ow 2 Kd.u8 A_3 c_4 w_1.b, Rd 0 kT_api_Step A_6 c_7 l_5] [.code c49_0] _
  refine GoO.seq' c49_0e ?_
  refine GoO.region' (is := [0, 1, 2, 3, 4]) c49_1e (by kernel_rfl) ?_
  refine GoO.exec (is := [0, 1, 2, 3]) (hs := [.p, .p, .p, .p]) (rest := [4]) (ks := [0, 1, 6, 9]) (env' := [(0, .pointer (some ⟨b_2, 0, none⟩)), (1, .slice A_6 l_5.length c_7), (6, .pointer (some ⟨b_2, 0, none⟩)), (9, .int .u64 (wu64 (l_5.length : Int)))]) (H' := [⟨1, b_2, [.slice A_3 w_1.b.length c_4]⟩]) (ps := []) (by kernel_rfl) trivial ?_
  refine OpTo.go (GoO.call rfl (by kernel_rfl) (by kernel_rfl) (pack_Writer_Num_ok n w_1 (wu64 (l_5.length : Int)) b_2 A_3 c_4) [[0], [1], [2]] [(1, 1), (2, 2)] [(1, 0)] [(2, 0)] (hks := []) (bks := [1]) (by kernel_rfl) (by kernel_rfl) (by kernel_rfl) (.inl rfl) rfl rfl (by kernel_rfl) (by kernel_rfl) _ (fun _ _ => rfl) _ _ (fun _ _ => rfl) (fun _ _ => rfl) (fun _ _ => by kernel_rfl) (fun _ _ => by kernel_rfl) (fun r_8 x_30 => ?_))
  obtain ⟨A_9, c_10⟩ := x_30
  refine GoO.shape (env' := [(0, .pointer (some ⟨b_2, 0, none⟩)), (1, .slice A_6 l_5.length c_7), (6, .pointer (some ⟨b_2, 0, none⟩)), (9, .int .u64 (wu64 (l_5.length : Int))), (10, .pointer (some ⟨b_2, 0, none⟩))]) (H' := [⟨1, b_2, [.slice A_9 r_8.b.length c_10]⟩]) (B' := [Ow 2 Kd.u8 A_9 c_10 r_8.b, Rd 0 kT_api_Step A_6 c_7 l_5]) (ks := [0, 1, 6, 9, 10]) (by kernel_rfl) (by kernel_rfl) (by kernel_rfl) ?_
  refine GoO.regionEnd ?_
  refine GoO.seq' c49_2e ?_
  refine GoO.region' (is := [0, 1, 2]) c49_3e (by kernel_rfl) ?_
  refine GoO.exec (is := [0, 1, 2]) (hs := [.p, .p, .p]) (rest := []) (ks := [0, 11, 12, 13]) (env' := [(0, .pointer (some ⟨b_2, 0, none⟩)), (11, .slice A_6 l_5.length c_7), (12, .int .i64 (l_5.length : Int)), (13, .int .i64 0)]) (H' := [⟨1, b_2, [.slice A_9 r_8.b.length c_10]⟩]) (ps := []) (by kernel_rfl) trivial ?_
  refine GoO.regionEnd ?_
  refine GoO.block' c49_4e ?_
  refine GoO.loop' c49_5e ?_
  exact GoO.sub (ks := [0, 11, 12, 13]) (hk := [0]) (bk := [0, 1]) (by kernel_rfl) (by kernel_rfl) (by kernel_rfl) (plan_Write_l0_ok n l_5 b_2 A_6 c_7 A_3 c_4 w0 S0 n r_8.b 0 A_9 c_10)

/-! (*tontine/pack.Writer).Bool -/
noncomputable def c50_0 : Code := bodyOf Try.f50
noncomputable def c50_1 : Code := cdL c50_0
noncomputable def c50_2 : Code := cdR c50_0
noncomputable def c50_3 : Code := cdL c50_2
noncomputable def c50_4 : Code := cdL c50_3
noncomputable def c50_5 : Code := cdR c50_3
noncomputable def c50_6 : Code := cdL c50_5
noncomputable def c50_7 : Code := cdL c50_6
noncomputable def c50_8 : Code := cdR c50_6
noncomputable def c50_9 : Code := cdR c50_5
noncomputable def c50_10 : Code := cdR c50_2
noncomputable def c50_11 : Code := cdL c50_10
noncomputable def c50_12 : Code := cdR c50_10
noncomputable def r50_1 : Array Oper := cdO c50_1
noncomputable def r50_4 : Array Oper := cdO c50_4
noncomputable def r50_7 : Array Oper := cdO c50_7
noncomputable def r50_11 : Array Oper := cdO c50_11
theorem c50_0e : c50_0 = .seq c50_1 c50_2 := by kernel_rfl
theorem c50_1e : c50_1 = .region 0 r50_1 false := by kernel_rfl
theorem c50_2e : c50_2 = .seq c50_3 c50_10 := by kernel_rfl
theorem c50_3e : c50_3 = .seq c50_4 c50_5 := by kernel_rfl
theorem c50_4e : c50_4 = .region 1 r50_4 false := by kernel_rfl
theorem c50_5e : c50_5 = .cond (cdC c50_5) c50_6 c50_9 := by kernel_rfl
theorem c50_6e : c50_6 = .seq c50_7 c50_8 := by kernel_rfl
theorem c50_7e : c50_7 = .region 2 r50_7 false := by kernel_rfl
theorem c50_8e : c50_8 = .ret := by kernel_rfl
theorem c50_9e : c50_9 = .skip := by kernel_rfl
theorem c50_10e : c50_10 = .seq c50_11 c50_12 := by kernel_rfl
theorem c50_11e : c50_11 = .region 3 r50_11 false := by kernel_rfl
theorem c50_12e : c50_12 = .ret := by kernel_rfl
noncomputable def pack_Writer_Bool.R (b_2 : Nat) (A_3 : Option Addr) (c_4 : Nat) : Pst T_pack_Writer where
  ε := Option Addr × Nat
  v := fun r x => .pointer (some ⟨b_2, 0, none⟩)
  H := fun r x => [⟨1, b_2, [.slice x.1 r.b.length x.2]⟩]
  B := fun r x => [Ow 2 Kd.u8 x.1 x.2 r.b]
noncomputable def pack_Writer_Bool.cx (b_2 : Nat) (A_3 : Option Addr) (c_4 : Nat) (w0 : World) (S0 : Fam) : Cx T_pack_Writer := ⟨Try.prog, 50, Try.f50, 10, w0, S0, [1, 2], 2, pack_Writer_Bool.R b_2 A_3 c_4⟩
theorem pack_Writer_Bool_ok (n : Nat) (w_1 : T_pack_Writer) (x_5 : Bool) (b_2 : Nat) (A_3 : Option Addr) (c_4 : Nat) :
    Meets Try.prog 50 [.pointer (some ⟨b_2, 0, none⟩), .bool x_5] 2 [1, 2] [⟨1, b_2, [.slice A_3 w_1.b.length c_4]⟩] [Ow 2 Kd.u8 A_3 c_4 w_1.b] (pack_Writer_Bool.f n w_1 x_5) (pack_Writer_Bool.R b_2 A_3 c_4) := by
  refine Meets.of (c := c50_0) (n := 10) Try.func50 (by kernel_rfl) (by kernel_rfl) (by kernel_rfl) fun w0 S0 => ?_
  unfold pack_Writer_Bool.f
  show GoO (pack_Writer_Bool.cx b_2 A_3 c_4 w0 S0) [(0, .pointer (some ⟨b_2, 0, none⟩)), (1, .bool x_5)] [⟨1, b_2, [.slice A_3 w_1.b.length c_4]⟩] [Ow 2 Kd.u8 A_3 c_4 w_1.b] [.code c50_0] _
  refine GoO.seq' c50_0e ?_
  refine GoO.region' (is := [0]) c50_1e (by kernel_rfl) ?_
  refine GoO.exec (is := [0]) (hs := [.p]) (rest := []) (ks := [0, 1]) (env' := [(0, .pointer (some ⟨b_2, 0, none⟩)), (1, .bool x_5)]) (H' := [⟨1, b_2, [.slice A_3 w_1.b.length c_4]⟩]) (ps := []) (by kernel_rfl) trivial ?_
  refine GoO.regionEnd ?_
  refine GoO.seq' c50_2e ?_
  refine GoO.seq' c50_3e ?_
  refine GoO.region' (is := [0]) c50_4e (by kernel_rfl) ?_
  refine GoO.exec (is := [0]) (hs := [.p]) (rest := []) (ks := [0, 5]) (env' := [(0, .pointer (some ⟨b_2, 0, none⟩)), (5, .bool x_5)]) (H' := [⟨1, b_2, [.slice A_3 w_1.b.length c_4]⟩]) (ps := []) (by kernel_rfl) trivial ?_
  refine GoO.regionEnd ?_
  refine GoO.ite' c50_5e (by kernel_rfl) (fun h6 => ?_) (fun h6 => ?_)
  · refine GoO.seq' c50_6e ?_
    refine GoO.region' (is := [0, 1, 2]) c50_7e (by kernel_rfl) ?_
    refine GoO.exec (is := [0]) (hs := [.p]) (rest := [1, 2]) (ks := [6]) (env' := [(6, .pointer (some ⟨b_2, 0, none⟩))]) (H' := [⟨1, b_2, [.slice A_3 w_1.b.length c_4]⟩]) (ps := []) (by kernel_rfl) trivial ?_
    refine OpTo.go (GoO.call rfl (by kernel_rfl) (by kernel_rfl) (pack_Writer_Num_ok n w_1 1 b_2 A_3 c_4) [[0], [1], [2]] [(1, 1), (2, 2)] [(1, 0)] [(2, 0)] (hks := []) (bks := []) (by kernel_rfl) (by kernel_rfl) (by kernel_rfl) (.inl rfl) rfl rfl (by kernel_rfl) (by kernel_rfl) _ (fun _ _ => rfl) _ _ (fun _ _ => rfl) (fun _ _ => rfl) (fun _ _ => by kernel_rfl) (fun _ _ => by kernel_rfl) (fun r_7 x_10 => ?_))
    obtain ⟨A_8, c_9⟩ := x_10
    refine GoO.shape (env' := [(6, .pointer (some ⟨b_2, 0, none⟩)), (7, .pointer (some ⟨b_2, 0, none⟩))]) (H' := [⟨1, b_2, [.slice A_8 r_7.b.length c_9]⟩]) (B' := [Ow 2 Kd.u8 A_8 c_9 r_7.b]) (ks := [6, 7]) (by kernel_rfl) (by kernel_rfl) (by kernel_rfl) ?_
    refine GoO.exec (is := [2]) (hs := [.p]) (rest := []) (ks := [4]) (env' := [(4, .pointer (some ⟨b_2, 0, none⟩))]) (H' := [⟨1, b_2, [.slice A_8 r_7.b.length c_9]⟩]) (ps := []) (by kernel_rfl) trivial ?_
    refine GoO.regionEnd ?_
    exact GoO.ret' (h := c50_8e) (hs := []) (ps := []) (hk := [0]) (bk := [0]) Try.func50 (⟨A_8, c_9⟩ : Option Addr × Nat) (by kernel_rfl) trivial (by kernel_rfl) (by kernel_rfl)
  · refine GoO.skip' c50_9e ?_
    refine GoO.seq' c50_10e ?_
    refine GoO.region' (is := [0, 1, 2]) c50_11e (by kernel_rfl) ?_
    refine GoO.exec (is := [0]) (hs := [.p]) (rest := [1, 2]) (ks := [8]) (env' := [(8, .pointer (some ⟨b_2, 0, none⟩))]) (H' := [⟨1, b_2, [.slice A_3 w_1.b.length c_4]⟩]) (ps := []) (by kernel_rfl) trivial ?_
    refine OpTo.go (GoO.call rfl (by kernel_rfl) (by kernel_rfl) (pack_Writer_Num_ok n w_1 0 b_2 A_3 c_4) [[0], [1], [2]] [(1, 1), (2, 2)] [(1, 0)] [(2, 0)] (hks := []) (bks := []) (by kernel_rfl) (by kernel_rfl) (by kernel_rfl) (.inl rfl) rfl rfl (by kernel_rfl) (by kernel_rfl) _ (fun _ _ => rfl) _ _ (fun _ _ => rfl) (fun _ _ => rfl) (fun _ _ => by kernel_rfl) (fun _ _ => by kernel_rfl) (fun r_11 x_14 => ?_))
    obtain ⟨A_12, c_13⟩ := x_14
    refine GoO.shape (env' := [(8, .pointer (some ⟨b_2, 0, none⟩)), (9, .pointer (some ⟨b_2, 0, none⟩))]) (H' := [⟨1, b_2, [.slice A_12 r_11.b.length c_13]⟩]) (B' := [Ow 2 Kd.u8 A_12 c_13 r_11.b]) (ks := [8, 9]) (by kernel_rfl) (by kernel_rfl) (by kernel_rfl) ?_
    refine GoO.exec (is := [2]) (hs := [.p]) (rest := []) (ks := [4]) (env' := [(4, .pointer (some ⟨b_2, 0, none⟩))]) (H' := [⟨1, b_2, [.slice A_12 r_11.b.length c_13]⟩]) (ps := []) (by kernel_rfl) trivial ?_
    refine GoO.regionEnd ?_
    exact GoO.ret' (h := c50_12e) (hs := []) (ps := []) (hk := [0]) (bk := [0]) Try.func50 (⟨A_12, c_13⟩ : Option Addr × Nat) (by kernel_rfl) trivial (by kernel_rfl) (by kernel_rfl)

/-! (*tontine/pack.Writer).Bytes -/
noncomputable def c40_0 : Code := bodyOf Try.f40
noncomputable def c40_1 : Code := cdL c40_0
noncomputable def c40_2 : Code := cdR c40_0
noncomputable def c40_3 : Code := cdL c40_2
noncomputable def c40_4 : Code := cdL c40_3
noncomputable def c40_5 : Code := cdR c40_3
noncomputable def c40_9 : Code := cdR c40_5
noncomputable def c40_10 : Code := cdR c40_2
noncomputable def c40_11 : Code := cdL c40_10
noncomputable def c40_12 : Code := cdR c40_10
noncomputable def c40_6 : Code := cdL c40_5
noncomputable def r40_1 : Array Oper := cdO c40_1
noncomputable def r40_4 : Array Oper := cdO c40_4
noncomputable def r40_11 : Array Oper := cdO c40_11
theorem c40_0e : c40_0 = .seq c40_1 c40_2 := by kernel_rfl
theorem c40_1e : c40_1 = .region 0 r40_1 false := by kernel_rfl
theorem c40_2e : c40_2 = .seq c40_3 c40_10 := by kernel_rfl
theorem c40_3e : c40_3 = .seq c40_4 c40_5 := by kernel_rfl
theorem c40_4e : c40_4 = .region 1 r40_4 false := by kernel_rfl
theorem c40_5e : c40_5 = .cond (cdC c40_5) c40_6 c40_9 := by kernel_rfl
theorem c40_9e : c40_9 = .skip := by kernel_rfl
theorem c40_10e : c40_10 = .seq c40_11 c40_12 := by kernel_rfl
theorem c40_11e : c40_11 = .region 3 r40_11 false := by kernel_rfl
theorem c40_12e : c40_12 = .ret := by kernel_rfl
noncomputable def pack_Writer_Bytes.R (b_2 : Nat) (A_3 : Option Addr) (c_4 : Nat) : Pst (List UInt8) where
  ε := Unit
  v := fun r x => .string (bs r)
  H := fun r x => []
  B := fun r x => []
noncomputable def pack_Writer_Bytes.cx (b_2 : Nat) (A_3 : Option Addr) (c_4 : Nat) (w0 : World) (S0 : Fam) : Cx (List UInt8) := ⟨Try.prog, 40, Try.f40, 10, w0, S0, [], 2, pack_Writer_Bytes.R b_2 A_3 c_4⟩
theorem pack_Writer_Bytes_ok (n : Nat) (w_1 : T_pack_Writer) (b_2 : Nat) (A_3 : Option Addr) (c_4 : Nat) :
    Meets Try.prog 40 [.pointer (some ⟨b_2, 0, none⟩)] 2 [] [⟨1, b_2, [.slice A_3 w_1.b.length c_4]⟩] [Ow 2 Kd.u8 A_3 c_4 w_1.b] (pack_Writer_Bytes.f n w_1) (pack_Writer_Bytes.R b_2 A_3 c_4) := by
  refine Meets.of (c := c40_0) (n := 10) Try.func40 (by kernel_rfl) (by kernel_rfl) (by kernel_rfl) fun w0 S0 => ?_
  unfold pack_Writer_Bytes.f
  show GoO (pack_Writer_Bytes.cx b_2 A_3 c_4 w0 S0) [(0, .pointer (some ⟨b_2, 0, none⟩))] [⟨1, b_2, [.slice A_3 w_1.b.length c_4]⟩] [Ow 2 Kd.u8 A_3 c_4 w_1.b] [.code c40_0] _
  refine GoO.seq' c40_0e ?_
  refine GoO.region' (is := [0]) c40_1e (by kernel_rfl) ?_
  refine GoO.exec (is := [0]) (hs := [.p]) (rest := []) (ks := [0]) (env' := [(0, .pointer (some ⟨b_2, 0, none⟩))]) (H' := [⟨1, b_2, [.slice A_3 w_1.b.length c_4]⟩]) (ps := []) (by kernel_rfl) trivial ?_
  refine GoO.regionEnd ?_
  refine GoO.seq' c40_2e ?_
  refine GoO.seq' c40_3e ?_
  refine GoO.region' (is := [0, 1]) c40_4e (by kernel_rfl) ?_
  refine GoO.exec (is := [0, 1]) (hs := [.p, .p]) (rest := []) (ks := [0, 4]) (env' := [(0, .pointer (some ⟨b_2, 0, none⟩)), (4, .bool false)]) (H' := [⟨1, b_2, [.slice A_3 w_1.b.length c_4]⟩]) (ps := []) (by kernel_rfl) trivial ?_
  refine GoO.regionEnd ?_
  refine GoO.condF c40_5e (by kernel_rfl) ?_
  refine GoO.skip' c40_9e ?_
  refine GoO.seq' c40_10e ?_
  refine GoO.region' (is := [0, 1, 2, 3, 4, 5]) c40_11e (by kernel_rfl) ?_
  refine GoO.exec (is := [0, 1, 2, 3]) (hs := [.p, .p, .p, .b 0]) (rest := [4, 5]) (ks := [8]) (env' := [(8, .slice A_3 w_1.b.length c_4)]) (H' := [⟨1, b_2, [.slice A_3 w_1.b.length c_4]⟩]) (ps := [b_2 = b_2]) (by kernel_rfl) (And.intro rfl trivial) ?_
  refine OpTo.go (GoO.toStr (e := 5) (A := A_3) (c := c_4) (xs := w_1.b) (j := 0) rfl (by kernel_rfl) (by kernel_rfl) (by kernel_rfl) (by kernel_rfl) rfl Reads.own rfl rfl ?_)
  refine GoO.exec (is := [5]) (hs := [.p]) (rest := []) (ks := [2]) (env' := [(2, .string (bs w_1.b))]) (H' := [⟨1, b_2, [.slice A_3 w_1.b.length c_4]⟩]) (ps := []) (by kernel_rfl) trivial ?_
  refine GoO.regionEnd ?_
  exact GoO.ret' (h := c40_12e) (hs := []) (ps := []) (hk := []) (bk := []) Try.func40 () (by kernel_rfl) trivial (by kernel_rfl) (by kernel_rfl)

/-! tontine/command.Encode -/
noncomputable def c16_0 : Code := bodyOf Try.f16
noncomputable def c16_1 : Code := cdL c16_0
noncomputable def c16_2 : Code := cdR c16_0
noncomputable def c16_3 : Code := cdL c16_2
noncomputable def c16_4 : Code := cdL c16_3
noncomputable def c16_5 : Code := cdR c16_3
noncomputable def c16_6 : Code := cdL c16_5
noncomputable def c16_7 : Code := cdL c16_6
noncomputable def c16_8 : Code := cdR c16_6
noncomputable def c16_9 : Code := cdR c16_5
noncomputable def c16_10 : Code := cdR c16_2
noncomputable def c16_11 : Code := cdL c16_10
noncomputable def c16_12 : Code := cdL c16_11
noncomputable def c16_13 : Code := cdR c16_11
noncomputable def c16_14 : Code := cdL c16_13
noncomputable def c16_15 : Code := cdL c16_14
noncomputable def c16_16 : Code := cdR c16_14
noncomputable def c16_17 : Code := cdR c16_13
noncomputable def c16_18 : Code := cdR c16_10
noncomputable def c16_19 : Code := cdL c16_18
noncomputable def c16_20 : Code := cdR c16_18
noncomputable def c16_21 : Code := cdL c16_20
noncomputable def c16_22 : Code := cdL c16_21
noncomputable def c16_23 : Code := cdR c16_21
noncomputable def c16_24 : Code := cdL c16_23
noncomputable def c16_25 : Code := cdL c16_24
noncomputable def c16_26 : Code := cdR c16_24
noncomputable def c16_27 : Code := cdL c16_26
noncomputable def c16_28 : Code := cdR c16_26
noncomputable def c16_29 : Code := cdL c16_28
noncomputable def c16_30 : Code := cdR c16_28
noncomputable def c16_31 : Code := cdL c16_30
noncomputable def c16_32 : Code := cdR c16_30
noncomputable def c16_33 : Code := cdR c16_20
noncomputable def c16_34 : Code := cdL c16_33
noncomputable def c16_35 : Code := cdR c16_33
noncomputable def r16_1 : Array Oper := cdO c16_1
noncomputable def r16_4 : Array Oper := cdO c16_4
noncomputable def r16_7 : Array Oper := cdO c16_7
noncomputable def r16_12 : Array Oper := cdO c16_12
noncomputable def r16_15 : Array Oper := cdO c16_15
noncomputable def r16_19 : Array Oper := cdO c16_19
noncomputable def r16_22 : Array Oper := cdO c16_22
noncomputable def r16_25 : Array Oper := cdO c16_25
noncomputable def r16_27 : Array Oper := cdO c16_27
noncomputable def r16_29 : Array Oper := cdO c16_29
noncomputable def r16_31 : Array Oper := cdO c16_31
noncomputable def r16_34 : Array Oper := cdO c16_34
theorem c16_0e : c16_0 = .seq c16_1 c16_2 := by kernel_rfl
theorem c16_1e : c16_1 = .region 0 r16_1 false := by kernel_rfl
theorem c16_2e : c16_2 = .seq c16_3 c16_10 := by kernel_rfl
theorem c16_3e : c16_3 = .seq c16_4 c16_5 := by kernel_rfl
theorem c16_4e : c16_4 = .region 1 r16_4 false := by kernel_rfl
theorem c16_5e : c16_5 = .cond (cdC c16_5) c16_6 c16_9 := by kernel_rfl
theorem c16_6e : c16_6 = .seq c16_7 c16_8 := by kernel_rfl
theorem c16_7e : c16_7 = .region 2 r16_7 false := by kernel_rfl
theorem c16_8e : c16_8 = .ret := by kernel_rfl
theorem c16_9e : c16_9 = .skip := by kernel_rfl
theorem c16_10e : c16_10 = .seq c16_11 c16_18 := by kernel_rfl
theorem c16_11e : c16_11 = .seq c16_12 c16_13 := by kernel_rfl
theorem c16_12e : c16_12 = .region 3 r16_12 false := by kernel_rfl
theorem c16_13e : c16_13 = .cond (cdC c16_13) c16_14 c16_17 := by kernel_rfl
theorem c16_14e : c16_14 = .seq c16_15 c16_16 := by kernel_rfl
theorem c16_15e : c16_15 = .region 4 r16_15 false := by kernel_rfl
theorem c16_16e : c16_16 = .ret := by kernel_rfl
theorem c16_17e : c16_17 = .skip := by kernel_rfl
theorem c16_18e : c16_18 = .seq c16_19 c16_20 := by kernel_rfl
theorem c16_19e : c16_19 = .region 5 r16_19 true := by kernel_rfl
theorem c16_20e : c16_20 = .seq c16_21 c16_33 := by kernel_rfl
theorem c16_21e : c16_21 = .seq c16_22 c16_23 := by kernel_rfl
theorem c16_22e : c16_22 = .region 6 r16_22 false := by kernel_rfl
theorem c16_23e : c16_23 = .block 0 c16_24 := by kernel_rfl
theorem c16_24e : c16_24 = .seq c16_25 c16_26 := by kernel_rfl
theorem c16_25e : c16_25 = .region 7 r16_25 false := by kernel_rfl
theorem c16_26e : c16_26 = .cond (cdC c16_26) c16_27 c16_28 := by kernel_rfl
theorem c16_27e : c16_27 = .region 8 r16_27 false := by kernel_rfl
theorem c16_28e : c16_28 = .seq c16_29 c16_30 := by kernel_rfl
theorem c16_29e : c16_29 = .region 9 r16_29 false := by kernel_rfl
theorem c16_30e : c16_30 = .cond (cdC c16_30) c16_31 c16_32 := by kernel_rfl
theorem c16_31e : c16_31 = .region 10 r16_31 true := by kernel_rfl
theorem c16_32e : c16_32 = .skip := by kernel_rfl
theorem c16_33e : c16_33 = .seq c16_34 c16_35 := by kernel_rfl
theorem c16_34e : c16_34 = .region 11 r16_34 false := by kernel_rfl
theorem c16_35e : c16_35 = .ret := by kernel_rfl
noncomputable def command_Encode.R (A_2 : Option Addr) (c_3 : Nat) : Pst ((List UInt8) × Int) where
  ε := Unit
  v := fun r x => .tuple ⟨[.string (bs r.1), .int .i64 r.2]⟩
  H := fun r x => []
  B := fun r x => []
noncomputable def command_Encode.cx (A_2 : Option Addr) (c_3 : Nat) (w0 : World) (S0 : Fam) : Cx ((List UInt8) × Int) := ⟨Try.prog, 16, Try.f16, 61, w0, S0, [], 0, command_Encode.R A_2 c_3⟩
theorem command_Encode_j1_ok (n : Nat) (b_11 : Nat) (A_2 : Option Addr) (c_3 : Nat) (w0 : World) (S0 : Fam) (f_44 : (List UInt8)) (A_45 : Option Addr) (c_46 : Nat) :
    GoO (command_Encode.cx A_2 c_3 w0 S0) [(4, .pointer (some ⟨b_11, 0, none⟩))] [⟨41, b_11, [.slice A_45 f_44.length c_46]⟩] [Ow 42 Kd.u8 A_45 c_46 f_44] [.inBlock 0, .code c16_33] (command_Encode.j1 n f_44) := by
  unfold command_Encode.j1
  refine GoO.inBlock ?_
  refine GoO.seq' c16_33e ?_
  refine GoO.region' (is := [0, 1, 2, 3]) c16_34e (by kernel_rfl) ?_
  refine GoO.exec (is := [0]) (hs := [.p]) (rest := [1, 2, 3]) (ks := [59]) (env' := [(59, .pointer (some ⟨b_11, 0, none⟩))]) (H' := [⟨41, b_11, [.slice A_45 f_44.length c_46]⟩]) (ps := []) (by kernel_rfl) trivial ?_
  refine OpTo.go (GoO.call rfl (by kernel_rfl) (by kernel_rfl) (pack_Writer_Bytes_ok n (⟨f_44⟩ : T_pack_Writer) b_11 A_45 c_46) [[0], [41], [42]] [] [(1, 0)] [(2, 0)] (hks := [0]) (bks := [0]) (by kernel_rfl) (by kernel_rfl) (by kernel_rfl) (.inl rfl) rfl rfl (by kernel_rfl) (by kernel_rfl) _ (fun _ _ => rfl) _ _ (fun _ _ => rfl) (fun _ _ => rfl) (fun _ _ => by kernel_rfl) (fun _ _ => by kernel_rfl) (fun r_47 x_48 => ?_))
  refine GoO.shape (env' := [(59, .pointer (some ⟨b_11, 0, none⟩)), (60, .string (bs r_47))]) (H' := [⟨41, b_11, [.slice A_45 f_44.length c_46]⟩]) (B' := [Ow 42 Kd.u8 A_45 c_46 f_44]) (ks := [59, 60]) (by kernel_rfl) (by kernel_rfl) (by kernel_rfl) ?_
  refine GoO.exec (is := [2, 3]) (hs := [.p, .p]) (rest := []) (ks := [2, 3]) (env' := [(2, .string (bs r_47)), (3, .int .i64 0)]) (H' := [⟨41, b_11, [.slice A_45 f_44.length c_46]⟩]) (ps := []) (by kernel_rfl) trivial ?_
  refine GoO.regionEnd ?_
  exact GoO.ret' (h := c16_35e) (hs := []) (ps := []) (hk := []) (bk := []) Try.func16 () (by kernel_rfl) trivial (by kernel_rfl) (by kernel_rfl)
theorem command_Encode_j0_ok (n : Nat) (c_1 : T_api_Command) (A_2 : Option Addr) (c_3 : Nat) (b_4 : Nat) (w0 : World) (S0 : Fam) (b_7 : Bool) :
    GoO (command_Encode.cx A_2 c_3 w0 S0) [(1, .pointer (some ⟨b_4, 0, none⟩)), (13, .bool b_7)] [⟨40, b_4, [.int .i64 c_1.Kind, .int .u64 c_1.Session, .int .u64 c_1.Seq, .int .u64 c_1.Saga, .slice A_2 c_1.Steps.length c_3, .int .i64 c_1.Step, .bool c_1.Back, .int .i64 c_1.Try, .bool c_1.Ok, .int .u64 c_1.Now]⟩] [Rd 0 kT_api_Step A_2 c_3 c_1.Steps] [.code c16_5, .code c16_10] (command_Encode.j0 n c_1 b_7) := by
  unfold command_Encode.j0
  refine GoO.ite' c16_5e (by kernel_rfl) (fun h8 => ?_) (fun h8 => ?_)
  · refine GoO.seq' c16_6e ?_
    refine GoO.region' (is := [0, 1]) c16_7e (by kernel_rfl) ?_
    refine GoO.exec (is := [0, 1]) (hs := [.p, .p]) (rest := []) (ks := [2, 3]) (env' := [(2, .string (bs [])), (3, .int .i64 44)]) (H' := [⟨40, b_4, [.int .i64 c_1.Kind, .int .u64 c_1.Session, .int .u64 c_1.Seq, .int .u64 c_1.Saga, .slice A_2 c_1.Steps.length c_3, .int .i64 c_1.Step, .bool c_1.Back, .int .i64 c_1.Try, .bool c_1.Ok, .int .u64 c_1.Now]⟩]) (ps := []) (by kernel_rfl) trivial ?_
    refine GoO.regionEnd ?_
    exact GoO.ret' (h := c16_8e) (hs := []) (ps := []) (hk := []) (bk := []) Try.func16 () (by kernel_rfl) trivial (by kernel_rfl) (by kernel_rfl)
  · refine GoO.skip' c16_9e ?_
    refine GoO.seq' c16_10e ?_
    refine GoO.seq' c16_11e ?_
    refine GoO.region' (is := [0, 1, 2]) c16_12e (by kernel_rfl) ?_
    refine GoO.exec (is := [0]) (hs := [.b 0]) (rest := [1, 2]) (ks := [1, 14]) (env' := [(1, .pointer (some ⟨b_4, 0, none⟩)), (14, .agg ⟨[.int .i64 c_1.Kind, .int .u64 c_1.Session, .int .u64 c_1.Seq, .int .u64 c_1.Saga, .slice A_2 c_1.Steps.length c_3, .int .i64 c_1.Step, .bool c_1.Back, .int .i64 c_1.Try, .bool c_1.Ok, .int .u64 c_1.Now]⟩)]) (H' := [⟨40, b_4, [.int .i64 c_1.Kind, .int .u64 c_1.Session, .int .u64 c_1.Seq, .int .u64 c_1.Saga, .slice A_2 c_1.Steps.length c_3, .int .i64 c_1.Step, .bool c_1.Back, .int .i64 c_1.Try, .bool c_1.Ok, .int .u64 c_1.Now]⟩]) (ps := [b_4 = b_4]) (by kernel_rfl) (And.intro rfl trivial) ?_
    refine OpTo.go (GoO.call rfl (by kernel_rfl) (by kernel_rfl) (command_May_ok n c_1 A_2 c_3) [[0]] [] [] [(0, 0)] (hks := [0]) (bks := [0]) (by kernel_rfl) (by kernel_rfl) (by kernel_rfl) (.inl rfl) rfl rfl (by kernel_rfl) (by kernel_rfl) _ (fun _ _ => rfl) _ _ (fun _ _ => rfl) (fun _ _ => rfl) (fun _ _ => by kernel_rfl) (fun _ _ => by kernel_rfl) (fun r_9 x_54 => ?_))
    refine GoO.shape (env' := [(1, .pointer (some ⟨b_4, 0, none⟩)), (14, .agg ⟨[.int .i64 c_1.Kind, .int .u64 c_1.Session, .int .u64 c_1.Seq, .int .u64 c_1.Saga, .slice A_2 c_1.Steps.length c_3, .int .i64 c_1.Step, .bool c_1.Back, .int .i64 c_1.Try, .bool c_1.Ok, .int .u64 c_1.Now]⟩), (15, .bool r_9)]) (H' := [⟨40, b_4, [.int .i64 c_1.Kind, .int .u64 c_1.Session, .int .u64 c_1.Seq, .int .u64 c_1.Saga, .slice A_2 c_1.Steps.length c_3, .int .i64 c_1.Step, .bool c_1.Back, .int .i64 c_1.Try, .bool c_1.Ok, .int .u64 c_1.Now]⟩]) (B' := [Rd 0 kT_api_Step A_2 c_3 c_1.Steps]) (ks := [1, 14, 15]) (by kernel_rfl) (by kernel_rfl) (by kernel_rfl) ?_
    refine GoO.exec (is := [2]) (hs := [.p]) (rest := []) (ks := [1, 16]) (env' := [(1, .pointer (some ⟨b_4, 0, none⟩)), (16, .bool (!r_9))]) (H' := [⟨40, b_4, [.int .i64 c_1.Kind, .int .u64 c_1.Session, .int .u64 c_1.Seq, .int .u64 c_1.Saga, .slice A_2 c_1.Steps.length c_3, .int .i64 c_1.Step, .bool c_1.Back, .int .i64 c_1.Try, .bool c_1.Ok, .int .u64 c_1.Now]⟩]) (ps := []) (by kernel_rfl) trivial ?_
    refine GoO.regionEnd ?_
    refine GoO.ite' c16_13e (by kernel_rfl) (fun h10 => ?_) (fun h10 => ?_)
    · refine GoO.seq' c16_14e ?_
      refine GoO.region' (is := [0, 1]) c16_15e (by kernel_rfl) ?_
      refine GoO.exec (is := [0, 1]) (hs := [.p, .p]) (rest := []) (ks := [2, 3]) (env' := [(2, .string (bs [])), (3, .int .i64 1)]) (H' := [⟨40, b_4, [.int .i64 c_1.Kind, .int .u64 c_1.Session, .int .u64 c_1.Seq, .int .u64 c_1.Saga, .slice A_2 c_1.Steps.length c_3, .int .i64 c_1.Step, .bool c_1.Back, .int .i64 c_1.Try, .bool c_1.Ok, .int .u64 c_1.Now]⟩]) (ps := []) (by kernel_rfl) trivial ?_
      refine GoO.regionEnd ?_
      exact GoO.ret' (h := c16_16e) (hs := []) (ps := []) (hk := []) (bk := []) Try.func16 () (by kernel_rfl) trivial (by kernel_rfl) (by kernel_rfl)
    · refine GoO.skip' c16_17e ?_
      refine GoO.seq' c16_18e ?_
      refine GoO.draw c16_19e (by kernel_rfl) [17] [⟨40, b_4, [.int .i64 c_1.Kind, .int .u64 c_1.Session, .int .u64 c_1.Seq, .int .u64 c_1.Saga, .slice A_2 c_1.Steps.length c_3, .int .i64 c_1.Step, .bool c_1.Back, .int .i64 c_1.Try, .bool c_1.Ok, .int .u64 c_1.Now]⟩] [] (n := 18) (by kernel_rfl) ?_
      simp only [List.replicate]
      refine GoF.take [1, 2, 3, 5, 6, 8, 9, 11, 12, 14, 15] [.p, .b 0, .p, .p, .b 0, .p, .b 0, .p, .b 0, .p, .b 0] (ks := [1, 20, 23, 26, 29, 32]) (fu := 7) (li := [false, true, true, true, false, true, true, false, true, true, false, true, true, false, true, true, false, false]) (env' := [(1, .pointer (some ⟨b_4, 0, none⟩)), (20, .int .u64 (wu64 c_1.Kind)), (23, .int .u64 c_1.Session), (26, .int .u64 c_1.Seq), (29, .int .u64 c_1.Saga), (32, .int .u64 c_1.Now)]) (ps := [b_4 = b_4, b_4 = b_4, b_4 = b_4, b_4 = b_4, b_4 = b_4]) (hk := [0]) (bk := []) (by kernel_rfl) (And.intro rfl (And.intro rfl (And.intro rfl (And.intro rfl (And.intro rfl trivial))))) rfl rfl ?_
      refine OpTo.goF (i := 0) (by kernel_rfl) (hk := [1]) (bk := []) (GoO.new rfl 41 (cs := [.slice none ([] : List UInt8).length 0]) (by kernel_rfl) _ (fun _ => rfl) (fun b_11 => ⟨rfl, rfl, ?_⟩))
      refine GoF.nilOwn Kd.u8 42 ?_
      refine OpTo.goF (i := 4) (by kernel_rfl) (hk := [1]) (bk := []) (GoO.call rfl (by kernel_rfl) (by kernel_rfl) (pack_Writer_Num_ok n (⟨[]⟩ : T_pack_Writer) (wu64 c_1.Kind) b_11 none 0) [[0], [41], [42]] [(41, 1), (42, 2)] [(1, 0)] [(2, 0)] (hks := [1]) (bks := [1]) (by kernel_rfl) (by kernel_rfl) (by kernel_rfl) (.inl rfl) rfl rfl (by kernel_rfl) (by kernel_rfl) _ (fun _ _ => rfl) _ _ (fun _ _ => rfl) (fun _ _ => rfl) (fun _ _ => by kernel_rfl) (fun _ _ => by kernel_rfl) (fun r_12 x_53 => ⟨rfl, rfl, ?_⟩))
      obtain ⟨A_13, c_14⟩ := x_53
      refine GoF.shape (env' := [(1, .pointer (some ⟨b_4, 0, none⟩)), (17, .pointer (some ⟨b_11, 0, none⟩)), (20, .int .u64 (wu64 c_1.Kind)), (21, .pointer (some ⟨b_11, 0, none⟩)), (23, .int .u64 c_1.Session), (26, .int .u64 c_1.Seq), (29, .int .u64 c_1.Saga), (32, .int .u64 c_1.Now)]) (H' := [⟨41, b_11, [.slice A_13 r_12.b.length c_14]⟩, ⟨40, b_4, [.int .i64 c_1.Kind, .int .u64 c_1.Session, .int .u64 c_1.Seq, .int .u64 c_1.Saga, .slice A_2 c_1.Steps.length c_3, .int .i64 c_1.Step, .bool c_1.Back, .int .i64 c_1.Try, .bool c_1.Ok, .int .u64 c_1.Now]⟩]) (B' := [Ow 42 Kd.u8 A_13 c_14 r_12.b, Rd 0 kT_api_Step A_2 c_3 c_1.Steps]) (ks := [1, 17, 20, 21, 23, 26, 29, 32]) (by kernel_rfl) (by kernel_rfl) (by kernel_rfl) ?_
      refine OpTo.goF (i := 7) (by kernel_rfl) (hk := [1]) (bk := []) (GoO.call rfl (by kernel_rfl) (by kernel_rfl) (pack_Writer_Num_ok n r_12 c_1.Session b_11 A_13 c_14) [[0], [41], [42]] [(41, 1), (42, 2)] [(1, 0)] [(2, 0)] (hks := [1]) (bks := [1]) (by kernel_rfl) (by kernel_rfl) (by kernel_rfl) (.inl rfl) rfl rfl (by kernel_rfl) (by kernel_rfl) _ (fun _ _ => rfl) _ _ (fun _ _ => rfl) (fun _ _ => rfl) (fun _ _ => by kernel_rfl) (fun _ _ => by kernel_rfl) (fun r_15 x_52 => ⟨rfl, rfl, ?_⟩))
      obtain ⟨A_16, c_17⟩ := x_52
      refine GoF.shape (env' := [(1, .pointer (some ⟨b_4, 0, none⟩)), (17, .pointer (some ⟨b_11, 0, none⟩)), (20, .int .u64 (wu64 c_1.Kind)), (21, .pointer (some ⟨b_11, 0, none⟩)), (23, .int .u64 c_1.Session), (24, .pointer (some ⟨b_11, 0, none⟩)), (26, .int .u64 c_1.Seq), (29, .int .u64 c_1.Saga), (32, .int .u64 c_1.Now)]) (H' := [⟨41, b_11, [.slice A_16 r_15.b.length c_17]⟩, ⟨40, b_4, [.int .i64 c_1.Kind, .int .u64 c_1.Session, .int .u64 c_1.Seq, .int .u64 c_1.Saga, .slice A_2 c_1.Steps.length c_3, .int .i64 c_1.Step, .bool c_1.Back, .int .i64 c_1.Try, .bool c_1.Ok, .int .u64 c_1.Now]⟩]) (B' := [Ow 42 Kd.u8 A_16 c_17 r_15.b, Rd 0 kT_api_Step A_2 c_3 c_1.Steps]) (ks := [1, 17, 20, 21, 23, 24, 26, 29, 32]) (by kernel_rfl) (by kernel_rfl) (by kernel_rfl) ?_
      refine OpTo.goF (i := 10) (by kernel_rfl) (hk := [1]) (bk := []) (GoO.call rfl (by kernel_rfl) (by kernel_rfl) (pack_Writer_Num_ok n r_15 c_1.Seq b_11 A_16 c_17) [[0], [41], [42]] [(41, 1), (42, 2)] [(1, 0)] [(2, 0)] (hks := [1]) (bks := [1]) (by kernel_rfl) (by kernel_rfl) (by kernel_rfl) (.inl rfl) rfl rfl (by kernel_rfl) (by kernel_rfl) _ (fun _ _ => rfl) _ _ (fun _ _ => rfl) (fun _ _ => rfl) (fun _ _ => by kernel_rfl) (fun _ _ => by kernel_rfl) (fun r_18 x_51 => ⟨rfl, rfl, ?_⟩))
      obtain ⟨A_19, c_20⟩ := x_51
      refine GoF.shape (env' := [(1, .pointer (some ⟨b_4, 0, none⟩)), (17, .pointer (some ⟨b_11, 0, none⟩)), (20, .int .u64 (wu64 c_1.Kind)), (21, .pointer (some ⟨b_11, 0, none⟩)), (23, .int .u64 c_1.Session), (24, .pointer (some ⟨b_11, 0, none⟩)), (26, .int .u64 c_1.Seq), (27, .pointer (some ⟨b_11, 0, none⟩)), (29, .int .u64 c_1.Saga), (32, .int .u64 c_1.Now)]) (H' := [⟨41, b_11, [.slice A_19 r_18.b.length c_20]⟩, ⟨40, b_4, [.int .i64 c_1.Kind, .int .u64 c_1.Session, .int .u64 c_1.Seq, .int .u64 c_1.Saga, .slice A_2 c_1.Steps.length c_3, .int .i64 c_1.Step, .bool c_1.Back, .int .i64 c_1.Try, .bool c_1.Ok, .int .u64 c_1.Now]⟩]) (B' := [Ow 42 Kd.u8 A_19 c_20 r_18.b, Rd 0 kT_api_Step A_2 c_3 c_1.Steps]) (ks := [1, 17, 20, 21, 23, 24, 26, 27, 29, 32]) (by kernel_rfl) (by kernel_rfl) (by kernel_rfl) ?_
      refine OpTo.goF (i := 13) (by kernel_rfl) (hk := [1]) (bk := []) (GoO.call rfl (by kernel_rfl) (by kernel_rfl) (pack_Writer_Num_ok n r_18 c_1.Saga b_11 A_19 c_20) [[0], [41], [42]] [(41, 1), (42, 2)] [(1, 0)] [(2, 0)] (hks := [1]) (bks := [1]) (by kernel_rfl) (by kernel_rfl) (by kernel_rfl) (.inl rfl) rfl rfl (by kernel_rfl) (by kernel_rfl) _ (fun _ _ => rfl) _ _ (fun _ _ => rfl) (fun _ _ => rfl) (fun _ _ => by kernel_rfl) (fun _ _ => by kernel_rfl) (fun r_21 x_50 => ⟨rfl, rfl, ?_⟩))
      obtain ⟨A_22, c_23⟩ := x_50
      refine GoF.shape (env' := [(1, .pointer (some ⟨b_4, 0, none⟩)), (17, .pointer (some ⟨b_11, 0, none⟩)), (20, .int .u64 (wu64 c_1.Kind)), (21, .pointer (some ⟨b_11, 0, none⟩)), (23, .int .u64 c_1.Session), (24, .pointer (some ⟨b_11, 0, none⟩)), (26, .int .u64 c_1.Seq), (27, .pointer (some ⟨b_11, 0, none⟩)), (29, .int .u64 c_1.Saga), (30, .pointer (some ⟨b_11, 0, none⟩)), (32, .int .u64 c_1.Now)]) (H' := [⟨41, b_11, [.slice A_22 r_21.b.length c_23]⟩, ⟨40, b_4, [.int .i64 c_1.Kind, .int .u64 c_1.Session, .int .u64 c_1.Seq, .int .u64 c_1.Saga, .slice A_2 c_1.Steps.length c_3, .int .i64 c_1.Step, .bool c_1.Back, .int .i64 c_1.Try, .bool c_1.Ok, .int .u64 c_1.Now]⟩]) (B' := [Ow 42 Kd.u8 A_22 c_23 r_21.b, Rd 0 kT_api_Step A_2 c_3 c_1.Steps]) (ks := [1, 17, 20, 21, 23, 24, 26, 27, 29, 30, 32]) (by kernel_rfl) (by kernel_rfl) (by kernel_rfl) ?_
      refine OpTo.goF (i := 16) (by kernel_rfl) (hk := [1]) (bk := []) (GoO.call rfl (by kernel_rfl) (by kernel_rfl) (pack_Writer_Num_ok n r_21 c_1.Now b_11 A_22 c_23) [[0], [41], [42]] [(41, 1), (42, 2)] [(1, 0)] [(2, 0)] (hks := [1]) (bks := [1]) (by kernel_rfl) (by kernel_rfl) (by kernel_rfl) (.inl rfl) rfl rfl (by kernel_rfl) (by kernel_rfl) _ (fun _ _ => rfl) _ _ (fun _ _ => rfl) (fun _ _ => rfl) (fun _ _ => by kernel_rfl) (fun _ _ => by kernel_rfl) (fun r_24 x_49 => ⟨rfl, rfl, ?_⟩))
      obtain ⟨A_25, c_26⟩ := x_49
      refine GoF.shape (env' := [(1, .pointer (some ⟨b_4, 0, none⟩)), (17, .pointer (some ⟨b_11, 0, none⟩)), (20, .int .u64 (wu64 c_1.Kind)), (21, .pointer (some ⟨b_11, 0, none⟩)), (23, .int .u64 c_1.Session), (24, .pointer (some ⟨b_11, 0, none⟩)), (26, .int .u64 c_1.Seq), (27, .pointer (some ⟨b_11, 0, none⟩)), (29, .int .u64 c_1.Saga), (30, .pointer (some ⟨b_11, 0, none⟩)), (32, .int .u64 c_1.Now), (33, .pointer (some ⟨b_11, 0, none⟩))]) (H' := [⟨41, b_11, [.slice A_25 r_24.b.length c_26]⟩, ⟨40, b_4, [.int .i64 c_1.Kind, .int .u64 c_1.Session, .int .u64 c_1.Seq, .int .u64 c_1.Saga, .slice A_2 c_1.Steps.length c_3, .int .i64 c_1.Step, .bool c_1.Back, .int .i64 c_1.Try, .bool c_1.Ok, .int .u64 c_1.Now]⟩]) (B' := [Ow 42 Kd.u8 A_25 c_26 r_24.b, Rd 0 kT_api_Step A_2 c_3 c_1.Steps]) (ks := [1, 17, 20, 21, 23, 24, 26, 27, 29, 30, 32, 33]) (by kernel_rfl) (by kernel_rfl) (by kernel_rfl) ?_
      refine GoF.fin1 (i := 17) (hint := .p) (ps := []) (hk := []) (bk := []) (by kernel_rfl) rfl trivial (.inl rfl) ?_
      refine GoF.done (by kernel_rfl) ?_
      refine GoO.seq' c16_20e ?_
      refine GoO.seq' c16_21e ?_
      refine GoO.region' (is := [0, 1]) c16_22e (by kernel_rfl) ?_
      refine GoO.exec (is := [0, 1]) (hs := [.p, .b 1]) (rest := []) (ks := [1, 4, 35]) (env' := [(1, .pointer (some ⟨b_4, 0, none⟩)), (4, .pointer (some ⟨b_11, 0, none⟩)), (35, .int .i64 c_1.Kind)]) (H' := [⟨41, b_11, [.slice A_25 r_24.b.length c_26]⟩, ⟨40, b_4, [.int .i64 c_1.Kind, .int .u64 c_1.Session, .int .u64 c_1.Seq, .int .u64 c_1.Saga, .slice A_2 c_1.Steps.length c_3, .int .i64 c_1.Step, .bool c_1.Back, .int .i64 c_1.Try, .bool c_1.Ok, .int .u64 c_1.Now]⟩]) (ps := [b_4 = b_4]) (by kernel_rfl) (And.intro rfl trivial) ?_
      refine GoO.regionEnd ?_
      refine GoO.block' c16_23e ?_
      refine GoO.seq' c16_24e ?_
      refine GoO.region' (is := [0, 1]) c16_25e (by kernel_rfl) ?_
      refine GoO.exec (is := [0, 1]) (hs := [.p, .p]) (rest := []) (ks := [1, 4, 35, 36]) (env' := [(1, .pointer (some ⟨b_4, 0, none⟩)), (4, .pointer (some ⟨b_11, 0, none⟩)), (35, .int .i64 c_1.Kind), (36, .bool (c_1.Kind == 2))]) (H' := [⟨41, b_11, [.slice A_25 r_24.b.length c_26]⟩, ⟨40, b_4, [.int .i64 c_1.Kind, .int .u64 c_1.Session, .int .u64 c_1.Seq, .int .u64 c_1.Saga, .slice A_2 c_1.Steps.length c_3, .int .i64 c_1.Step, .bool c_1.Back, .int .i64 c_1.Try, .bool c_1.Ok, .int .u64 c_1.Now]⟩]) (ps := []) (by kernel_rfl) trivial ?_
      refine GoO.regionEnd ?_
      refine GoO.ite' c16_26e (by kernel_rfl) (fun h27 => ?_) (fun h27 => ?_)
      · refine GoO.region' (is := [0, 1, 2, 3]) c16_27e (by kernel_rfl) ?_
        refine GoO.exec (is := [0, 1, 2]) (hs := [.p, .p, .b 1]) (rest := [3]) (ks := [4, 38, 40]) (env' := [(4, .pointer (some ⟨b_11, 0, none⟩)), (38, .pointer (some ⟨b_11, 0, none⟩)), (40, .slice A_2 c_1.Steps.length c_3)]) (H' := [⟨41, b_11, [.slice A_25 r_24.b.length c_26]⟩, ⟨40, b_4, [.int .i64 c_1.Kind, .int .u64 c_1.Session, .int .u64 c_1.Seq, .int .u64 c_1.Saga, .slice A_2 c_1.Steps.length c_3, .int .i64 c_1.Step, .bool c_1.Back, .int .i64 c_1.Try, .bool c_1.Ok, .int .u64 c_1.Now]⟩]) (ps := [b_4 = b_4]) (by kernel_rfl) (And.intro rfl trivial) ?_
        refine OpTo.go (GoO.call rfl (by kernel_rfl) (by kernel_rfl) (plan_Write_ok n r_24 c_1.Steps b_11 A_25 c_26 A_2 c_3) [[0], [41], [42]] [(41, 1), (42, 2)] [(1, 0)] [(2, 0), (0, 1)] (hks := [1]) (bks := [1]) (by kernel_rfl) (by kernel_rfl) (by kernel_rfl) (.inl rfl) rfl rfl (by kernel_rfl) (by kernel_rfl) _ (fun _ _ => rfl) _ _ (fun _ _ => rfl) (fun _ _ => rfl) (fun _ _ => by kernel_rfl) (fun _ _ => by kernel_rfl) (fun r_28 x_31 => ?_))
        obtain ⟨A_29, c_30⟩ := x_31
        refine GoO.shape (env' := [(4, .pointer (some ⟨b_11, 0, none⟩)), (38, .pointer (some ⟨b_11, 0, none⟩)), (40, .slice A_2 c_1.Steps.length c_3), (41, .tuple ⟨[]⟩)]) (H' := [⟨41, b_11, [.slice A_29 r_28.b.length c_30]⟩, ⟨40, b_4, [.int .i64 c_1.Kind, .int .u64 c_1.Session, .int .u64 c_1.Seq, .int .u64 c_1.Saga, .slice A_2 c_1.Steps.length c_3, .int .i64 c_1.Step, .bool c_1.Back, .int .i64 c_1.Try, .bool c_1.Ok, .int .u64 c_1.Now]⟩]) (B' := [Ow 42 Kd.u8 A_29 c_30 r_28.b, Rd 0 kT_api_Step A_2 c_3 c_1.Steps]) (ks := [4, 38, 40, 41]) (by kernel_rfl) (by kernel_rfl) (by kernel_rfl) ?_
        refine GoO.regionEnd ?_
        exact GoO.sub (ks := [4]) (hk := [0]) (bk := [0]) (by kernel_rfl) (by kernel_rfl) (by kernel_rfl) (command_Encode_j1_ok n b_11 A_2 c_3 w0 S0 r_28.b A_29 c_30)
      · refine GoO.seq' c16_28e ?_
        refine GoO.region' (is := [0, 1]) c16_29e (by kernel_rfl) ?_
        refine GoO.exec (is := [0, 1]) (hs := [.p, .p]) (rest := []) (ks := [1, 4, 42]) (env' := [(1, .pointer (some ⟨b_4, 0, none⟩)), (4, .pointer (some ⟨b_11, 0, none⟩)), (42, .bool (c_1.Kind == 4))]) (H' := [⟨41, b_11, [.slice A_25 r_24.b.length c_26]⟩, ⟨40, b_4, [.int .i64 c_1.Kind, .int .u64 c_1.Session, .int .u64 c_1.Seq, .int .u64 c_1.Saga, .slice A_2 c_1.Steps.length c_3, .int .i64 c_1.Step, .bool c_1.Back, .int .i64 c_1.Try, .bool c_1.Ok, .int .u64 c_1.Now]⟩]) (ps := []) (by kernel_rfl) trivial ?_
        refine GoO.regionEnd ?_
        refine GoO.ite' c16_30e (by kernel_rfl) (fun h32 => ?_) (fun h32 => ?_)
        · refine GoO.draw c16_31e (by kernel_rfl) [] [⟨40, b_4, [.int .i64 c_1.Kind, .int .u64 c_1.Session, .int .u64 c_1.Seq, .int .u64 c_1.Saga, .slice A_2 c_1.Steps.length c_3, .int .i64 c_1.Step, .bool c_1.Back, .int .i64 c_1.Try, .bool c_1.Ok, .int .u64 c_1.Now]⟩] [] (n := 15) (by kernel_rfl) ?_
          simp only [List.replicate]
          refine GoF.take [0, 1, 2, 3, 5, 6, 8, 9, 10, 12, 13] [.p, .p, .b 0, .p, .p, .b 0, .p, .b 0, .p, .p, .b 0] (ks := [4, 44, 47, 50, 54, 57]) (fu := 4) (li := [true, true, true, true, false, true, true, false, true, true, true, false, true, true, false]) (env' := [(4, .pointer (some ⟨b_11, 0, none⟩)), (44, .pointer (some ⟨b_11, 0, none⟩)), (47, .int .u64 (wu64 c_1.Step)), (50, .bool c_1.Back), (54, .int .u64 (wu64 c_1.Try)), (57, .bool c_1.Ok)]) (ps := [b_4 = b_4, b_4 = b_4, b_4 = b_4, b_4 = b_4]) (hk := [1]) (bk := []) (by kernel_rfl) (And.intro rfl (And.intro rfl (And.intro rfl (And.intro rfl trivial)))) rfl rfl ?_
          refine OpTo.goF (i := 4) (by kernel_rfl) (hk := [1]) (bk := []) (GoO.call rfl (by kernel_rfl) (by kernel_rfl) (pack_Writer_Num_ok n r_24 (wu64 c_1.Step) b_11 A_25 c_26) [[0], [41], [42]] [(41, 1), (42, 2)] [(1, 0)] [(2, 0)] (hks := [1]) (bks := [1]) (by kernel_rfl) (by kernel_rfl) (by kernel_rfl) (.inl rfl) rfl rfl (by kernel_rfl) (by kernel_rfl) _ (fun _ _ => rfl) _ _ (fun _ _ => rfl) (fun _ _ => rfl) (fun _ _ => by kernel_rfl) (fun _ _ => by kernel_rfl) (fun r_33 x_48 => ⟨rfl, rfl, ?_⟩))
          obtain ⟨A_34, c_35⟩ := x_48
          refine GoF.shape (env' := [(4, .pointer (some ⟨b_11, 0, none⟩)), (44, .pointer (some ⟨b_11, 0, none⟩)), (47, .int .u64 (wu64 c_1.Step)), (48, .pointer (some ⟨b_11, 0, none⟩)), (50, .bool c_1.Back), (54, .int .u64 (wu64 c_1.Try)), (57, .bool c_1.Ok)]) (H' := [⟨41, b_11, [.slice A_34 r_33.b.length c_35]⟩, ⟨40, b_4, [.int .i64 c_1.Kind, .int .u64 c_1.Session, .int .u64 c_1.Seq, .int .u64 c_1.Saga, .slice A_2 c_1.Steps.length c_3, .int .i64 c_1.Step, .bool c_1.Back, .int .i64 c_1.Try, .bool c_1.Ok, .int .u64 c_1.Now]⟩]) (B' := [Ow 42 Kd.u8 A_34 c_35 r_33.b, Rd 0 kT_api_Step A_2 c_3 c_1.Steps]) (ks := [4, 44, 47, 48, 50, 54, 57]) (by kernel_rfl) (by kernel_rfl) (by kernel_rfl) ?_
          refine OpTo.goF (i := 7) (by kernel_rfl) (hk := [1]) (bk := []) (GoO.call rfl (by kernel_rfl) (by kernel_rfl) (pack_Writer_Bool_ok n r_33 c_1.Back b_11 A_34 c_35) [[0], [41], [42]] [(41, 1), (42, 2)] [(1, 0)] [(2, 0)] (hks := [1]) (bks := [1]) (by kernel_rfl) (by kernel_rfl) (by kernel_rfl) (.inl rfl) rfl rfl (by kernel_rfl) (by kernel_rfl) _ (fun _ _ => rfl) _ _ (fun _ _ => rfl) (fun _ _ => rfl) (fun _ _ => by kernel_rfl) (fun _ _ => by kernel_rfl) (fun r_36 x_47 => ⟨rfl, rfl, ?_⟩))
          obtain ⟨A_37, c_38⟩ := x_47
          refine GoF.shape (env' := [(4, .pointer (some ⟨b_11, 0, none⟩)), (44, .pointer (some ⟨b_11, 0, none⟩)), (47, .int .u64 (wu64 c_1.Step)), (48, .pointer (some ⟨b_11, 0, none⟩)), (50, .bool c_1.Back), (51, .pointer (some ⟨b_11, 0, none⟩)), (54, .int .u64 (wu64 c_1.Try)), (57, .bool c_1.Ok)]) (H' := [⟨41, b_11, [.slice A_37 r_36.b.length c_38]⟩, ⟨40, b_4, [.int .i64 c_1.Kind, .int .u64 c_1.Session, .int .u64 c_1.Seq, .int .u64 c_1.Saga, .slice A_2 c_1.Steps.length c_3, .int .i64 c_1.Step, .bool c_1.Back, .int .i64 c_1.Try, .bool c_1.Ok, .int .u64 c_1.Now]⟩]) (B' := [Ow 42 Kd.u8 A_37 c_38 r_36.b, Rd 0 kT_api_Step A_2 c_3 c_1.Steps]) (ks := [4, 44, 47, 48, 50, 51, 54, 57]) (by kernel_rfl) (by kernel_rfl) (by kernel_rfl) ?_
          refine OpTo.goF (i := 11) (by kernel_rfl) (hk := [1]) (bk := []) (GoO.call rfl (by kernel_rfl) (by kernel_rfl) (pack_Writer_Num_ok n r_36 (wu64 c_1.Try) b_11 A_37 c_38) [[0], [41], [42]] [(41, 1), (42, 2)] [(1, 0)] [(2, 0)] (hks := [1]) (bks := [1]) (by kernel_rfl) (by kernel_rfl) (by kernel_rfl) (.inl rfl) rfl rfl (by kernel_rfl) (by kernel_rfl) _ (fun _ _ => rfl) _ _ (fun _ _ => rfl) (fun _ _ => rfl) (fun _ _ => by kernel_rfl) (fun _ _ => by kernel_rfl) (fun r_39 x_46 => ⟨rfl, rfl, ?_⟩))
          obtain ⟨A_40, c_41⟩ := x_46
          refine GoF.shape (env' := [(4, .pointer (some ⟨b_11, 0, none⟩)), (44, .pointer (some ⟨b_11, 0, none⟩)), (47, .int .u64 (wu64 c_1.Step)), (48, .pointer (some ⟨b_11, 0, none⟩)), (50, .bool c_1.Back), (51, .pointer (some ⟨b_11, 0, none⟩)), (54, .int .u64 (wu64 c_1.Try)), (55, .pointer (some ⟨b_11, 0, none⟩)), (57, .bool c_1.Ok)]) (H' := [⟨41, b_11, [.slice A_40 r_39.b.length c_41]⟩, ⟨40, b_4, [.int .i64 c_1.Kind, .int .u64 c_1.Session, .int .u64 c_1.Seq, .int .u64 c_1.Saga, .slice A_2 c_1.Steps.length c_3, .int .i64 c_1.Step, .bool c_1.Back, .int .i64 c_1.Try, .bool c_1.Ok, .int .u64 c_1.Now]⟩]) (B' := [Ow 42 Kd.u8 A_40 c_41 r_39.b, Rd 0 kT_api_Step A_2 c_3 c_1.Steps]) (ks := [4, 44, 47, 48, 50, 51, 54, 55, 57]) (by kernel_rfl) (by kernel_rfl) (by kernel_rfl) ?_
          refine OpTo.goF (i := 14) (by kernel_rfl) (hk := [1]) (bk := []) (GoO.call rfl (by kernel_rfl) (by kernel_rfl) (pack_Writer_Bool_ok n r_39 c_1.Ok b_11 A_40 c_41) [[0], [41], [42]] [(41, 1), (42, 2)] [(1, 0)] [(2, 0)] (hks := [1]) (bks := [1]) (by kernel_rfl) (by kernel_rfl) (by kernel_rfl) (.inl rfl) rfl rfl (by kernel_rfl) (by kernel_rfl) _ (fun _ _ => rfl) _ _ (fun _ _ => rfl) (fun _ _ => rfl) (fun _ _ => by kernel_rfl) (fun _ _ => by kernel_rfl) (fun r_42 x_45 => ⟨rfl, rfl, ?_⟩))
          obtain ⟨A_43, c_44⟩ := x_45
          refine GoF.shape (env' := [(4, .pointer (some ⟨b_11, 0, none⟩)), (44, .pointer (some ⟨b_11, 0, none⟩)), (47, .int .u64 (wu64 c_1.Step)), (48, .pointer (some ⟨b_11, 0, none⟩)), (50, .bool c_1.Back), (51, .pointer (some ⟨b_11, 0, none⟩)), (54, .int .u64 (wu64 c_1.Try)), (55, .pointer (some ⟨b_11, 0, none⟩)), (57, .bool c_1.Ok), (58, .pointer (some ⟨b_11, 0, none⟩))]) (H' := [⟨41, b_11, [.slice A_43 r_42.b.length c_44]⟩, ⟨40, b_4, [.int .i64 c_1.Kind, .int .u64 c_1.Session, .int .u64 c_1.Seq, .int .u64 c_1.Saga, .slice A_2 c_1.Steps.length c_3, .int .i64 c_1.Step, .bool c_1.Back, .int .i64 c_1.Try, .bool c_1.Ok, .int .u64 c_1.Now]⟩]) (B' := [Ow 42 Kd.u8 A_43 c_44 r_42.b, Rd 0 kT_api_Step A_2 c_3 c_1.Steps]) (ks := [4, 44, 47, 48, 50, 51, 54, 55, 57, 58]) (by kernel_rfl) (by kernel_rfl) (by kernel_rfl) ?_
          refine GoF.done (by kernel_rfl) ?_
          exact GoO.sub (ks := [4]) (hk := [0]) (bk := [0]) (by kernel_rfl) (by kernel_rfl) (by kernel_rfl) (command_Encode_j1_ok n b_11 A_2 c_3 w0 S0 r_42.b A_43 c_44)
        · refine GoO.skip' c16_32e ?_
          exact GoO.sub (ks := [4]) (hk := [0]) (bk := [0]) (by kernel_rfl) (by kernel_rfl) (by kernel_rfl) (command_Encode_j1_ok n b_11 A_2 c_3 w0 S0 r_24.b A_25 c_26)
theorem command_Encode_ok (n : Nat) (c_1 : T_api_Command) (A_2 : Option Addr) (c_3 : Nat) :
    Meets Try.prog 16 [.agg ⟨[.int .i64 c_1.Kind, .int .u64 c_1.Session, .int .u64 c_1.Seq, .int .u64 c_1.Saga, .slice A_2 c_1.Steps.length c_3, .int .i64 c_1.Step, .bool c_1.Back, .int .i64 c_1.Try, .bool c_1.Ok, .int .u64 c_1.Now]⟩] 0 [] [] [Rd 0 kT_api_Step A_2 c_3 c_1.Steps] (command_Encode.f n c_1) (command_Encode.R A_2 c_3) := by
  refine Meets.of (c := c16_0) (n := 61) Try.func16 (by kernel_rfl) (by kernel_rfl) (by kernel_rfl) fun w0 S0 => ?_
  unfold command_Encode.f
  show GoO (command_Encode.cx A_2 c_3 w0 S0) [(0, .agg ⟨[.int .i64 c_1.Kind, .int .u64 c_1.Session, .int .u64 c_1.Seq, .int .u64 c_1.Saga, .slice A_2 c_1.Steps.length c_3, .int .i64 c_1.Step, .bool c_1.Back, .int .i64 c_1.Try, .bool c_1.Ok, .int .u64 c_1.Now]⟩)] [] [Rd 0 kT_api_Step A_2 c_3 c_1.Steps] [.code c16_0] _
  refine GoO.seq' c16_0e ?_
  refine GoO.region' (is := [0, 1, 2]) c16_1e (by kernel_rfl) ?_
  refine OpTo.go (GoO.new rfl 40 (cs := [.int .i64 c_1.Kind, .int .u64 c_1.Session, .int .u64 c_1.Seq, .int .u64 c_1.Saga, .slice A_2 c_1.Steps.length c_3, .int .i64 c_1.Step, .bool c_1.Back, .int .i64 c_1.Try, .bool c_1.Ok, .int .u64 c_1.Now]) (by kernel_rfl) _ (fun _ => rfl) (fun b_4 => ?_))
  refine GoO.exec (is := [1, 2]) (hs := [.p, .p]) (rest := []) (ks := [1]) (env' := [(1, .pointer (some ⟨b_4, 0, none⟩))]) (H' := [⟨40, b_4, [.int .i64 c_1.Kind, .int .u64 c_1.Session, .int .u64 c_1.Seq, .int .u64 c_1.Saga, .slice A_2 c_1.Steps.length c_3, .int .i64 c_1.Step, .bool c_1.Back, .int .i64 c_1.Try, .bool c_1.Ok, .int .u64 c_1.Now]⟩]) (ps := []) (by kernel_rfl) trivial ?_
  refine GoO.regionEnd ?_
  refine GoO.seq' c16_2e ?_
  refine GoO.seq' c16_3e ?_
  refine GoO.region' (is := [0, 1, 2, 3, 4, 5, 6, 7, 8]) c16_4e (by kernel_rfl) ?_
  refine GoO.exec (is := [0, 1, 2, 3]) (hs := [.p, .b 0, .p, .p]) (rest := [4, 5, 6, 7, 8]) (ks := [1, 8]) (env' := [(1, .pointer (some ⟨b_4, 0, none⟩)), (8, .bool (c_1.Kind == 2))]) (H' := [⟨40, b_4, [.int .i64 c_1.Kind, .int .u64 c_1.Session, .int .u64 c_1.Seq, .int .u64 c_1.Saga, .slice A_2 c_1.Steps.length c_3, .int .i64 c_1.Step, .bool c_1.Back, .int .i64 c_1.Try, .bool c_1.Ok, .int .u64 c_1.Now]⟩]) (ps := [b_4 = b_4]) (by kernel_rfl) (And.intro rfl trivial) ?_
  refine GoO.bsplit (t := 8) (by kernel_rfl) (fun h5 => ?_) (fun h5 => ?_)
  · refine GoO.exec (is := [4, 5]) (hs := [.p, .b 0]) (rest := [6, 7, 8]) (ks := [1, 8, 10]) (env' := [(1, .pointer (some ⟨b_4, 0, none⟩)), (8, .bool true), (10, .slice A_2 c_1.Steps.length c_3)]) (H' := [⟨40, b_4, [.int .i64 c_1.Kind, .int .u64 c_1.Session, .int .u64 c_1.Seq, .int .u64 c_1.Saga, .slice A_2 c_1.Steps.length c_3, .int .i64 c_1.Step, .bool c_1.Back, .int .i64 c_1.Try, .bool c_1.Ok, .int .u64 c_1.Now]⟩]) (ps := [b_4 = b_4]) (by kernel_rfl) (And.intro rfl trivial) ?_
    refine OpTo.go (GoO.call rfl (by kernel_rfl) (by kernel_rfl) (plan_Check_ok n c_1.Steps A_2 c_3) [[0]] [] [] [(0, 0)] (hks := [0]) (bks := [0]) (by kernel_rfl) (by kernel_rfl) (by kernel_rfl) (.inl rfl) rfl rfl (by kernel_rfl) (by kernel_rfl) _ (fun _ _ => rfl) _ _ (fun _ _ => rfl) (fun _ _ => rfl) (fun _ _ => by kernel_rfl) (fun _ _ => by kernel_rfl) (fun r_6 x_7 => ?_))
    refine GoO.shape (env' := [(1, .pointer (some ⟨b_4, 0, none⟩)), (8, .bool true), (10, .slice A_2 c_1.Steps.length c_3), (11, .int .i64 r_6)]) (H' := [⟨40, b_4, [.int .i64 c_1.Kind, .int .u64 c_1.Session, .int .u64 c_1.Seq, .int .u64 c_1.Saga, .slice A_2 c_1.Steps.length c_3, .int .i64 c_1.Step, .bool c_1.Back, .int .i64 c_1.Try, .bool c_1.Ok, .int .u64 c_1.Now]⟩]) (B' := [Rd 0 kT_api_Step A_2 c_3 c_1.Steps]) (ks := [1, 8, 10, 11]) (by kernel_rfl) (by kernel_rfl) (by kernel_rfl) ?_
    refine GoO.exec (is := [7, 8]) (hs := [.p, .p]) (rest := []) (ks := [1, 13]) (env' := [(1, .pointer (some ⟨b_4, 0, none⟩)), (13, .bool (r_6 != 0))]) (H' := [⟨40, b_4, [.int .i64 c_1.Kind, .int .u64 c_1.Session, .int .u64 c_1.Seq, .int .u64 c_1.Saga, .slice A_2 c_1.Steps.length c_3, .int .i64 c_1.Step, .bool c_1.Back, .int .i64 c_1.Try, .bool c_1.Ok, .int .u64 c_1.Now]⟩]) (ps := []) (by kernel_rfl) trivial ?_
    refine GoO.regionEnd ?_
    exact GoO.sub (ks := [1, 13]) (hk := [0]) (bk := [0]) (by kernel_rfl) (by kernel_rfl) (by kernel_rfl) (command_Encode_j0_ok n c_1 A_2 c_3 b_4 w0 S0 (r_6 != 0))
  · refine GoO.exec (is := [4, 5, 6, 7, 8]) (hs := [.p, .p, .p, .p, .p]) (rest := []) (ks := [1, 13]) (env' := [(1, .pointer (some ⟨b_4, 0, none⟩)), (13, .bool false)]) (H' := [⟨40, b_4, [.int .i64 c_1.Kind, .int .u64 c_1.Session, .int .u64 c_1.Seq, .int .u64 c_1.Saga, .slice A_2 c_1.Steps.length c_3, .int .i64 c_1.Step, .bool c_1.Back, .int .i64 c_1.Try, .bool c_1.Ok, .int .u64 c_1.Now]⟩]) (ps := []) (by kernel_rfl) trivial ?_
    refine GoO.regionEnd ?_
    exact GoO.sub (ks := [1, 13]) (hk := [0]) (bk := [0]) (by kernel_rfl) (by kernel_rfl) (by kernel_rfl) (command_Encode_j0_ok n c_1 A_2 c_3 b_4 w0 S0 false)

/-! tontine/tontinelaw16.begun -/
noncomputable def c15_0 : Code := bodyOf Try.f15
noncomputable def c15_1 : Code := cdL c15_0
noncomputable def c15_2 : Code := cdR c15_0
noncomputable def c15_3 : Code := cdL c15_2
noncomputable def c15_4 : Code := cdR c15_2
noncomputable def c15_5 : Code := cdL c15_4
noncomputable def c15_6 : Code := cdR c15_4
noncomputable def r15_1 : Array Oper := cdO c15_1
noncomputable def r15_3 : Array Oper := cdO c15_3
noncomputable def r15_5 : Array Oper := cdO c15_5
theorem c15_0e : c15_0 = .seq c15_1 c15_2 := by kernel_rfl
theorem c15_1e : c15_1 = .region 0 r15_1 false := by kernel_rfl
theorem c15_2e : c15_2 = .seq c15_3 c15_4 := by kernel_rfl
theorem c15_3e : c15_3 = .region 1 r15_3 false := by kernel_rfl
theorem c15_4e : c15_4 = .seq c15_5 c15_6 := by kernel_rfl
theorem c15_5e : c15_5 = .region 2 r15_5 false := by kernel_rfl
theorem c15_6e : c15_6 = .ret := by kernel_rfl
noncomputable def tontinelaw16_begun.R : Pst Bool where
  ε := Unit
  v := fun r x => .bool r
  H := fun r x => []
  B := fun r x => []
noncomputable def tontinelaw16_begun.cx (w0 : World) (S0 : Fam) : Cx Bool := ⟨Try.prog, 15, Try.f15, 14, w0, S0, [], 0, tontinelaw16_begun.R⟩
theorem tontinelaw16_begun_ok (n : Nat) :
    Meets Try.prog 15 [] 0 [] [] [] (tontinelaw16_begun.f n) (tontinelaw16_begun.R) := by
  refine Meets.of (c := c15_0) (n := 14) Try.func15 (by kernel_rfl) (by kernel_rfl) (by kernel_rfl) fun w0 S0 => ?_
  unfold tontinelaw16_begun.f
  show GoO (tontinelaw16_begun.cx w0 S0) [] [] [] [.code c15_0] _
  refine GoO.seq' c15_0e ?_
  refine GoO.region' (is := [0]) c15_1e (by kernel_rfl) ?_
  refine GoO.exec (is := [0]) (hs := [.p]) (rest := []) (ks := []) (env' := []) (H' := []) (ps := []) (by kernel_rfl) trivial ?_
  refine GoO.regionEnd ?_
  refine GoO.seq' c15_2e ?_
  refine GoO.region' (is := [0, 1, 2, 3, 4, 5, 6]) c15_3e (by kernel_rfl) ?_
  refine GoO.exec (is := [0]) (hs := [.p]) (rest := [1, 2, 3, 4, 5, 6]) (ks := [4]) (env' := [(4, .agg ⟨[.int .i64 5, .int .u64 2, .int .u64 3, .int .u64 5, .slice none ([] : List T_api_Step).length 0, .int .i64 0, .bool false, .int .i64 0, .bool false, .int .u64 0]⟩)]) (H' := []) (ps := []) (by kernel_rfl) trivial ?_
  refine GoO.nilRd kT_api_Step ?_
  refine OpTo.go (GoO.call rfl (by kernel_rfl) (by kernel_rfl) (command_Encode_ok n (⟨5, 2, 3, 5, [], 0, false, 0, false, 0⟩ : T_api_Command) none 0) [[0]] [] [] [(0, 0)] (hks := []) (bks := [0]) (by kernel_rfl) (by kernel_rfl) (by kernel_rfl) (.inl rfl) rfl rfl (by kernel_rfl) (by kernel_rfl) _ (fun _ _ => rfl) _ _ (fun _ _ => rfl) (fun _ _ => rfl) (fun _ _ => by kernel_rfl) (fun _ _ => by kernel_rfl) (fun r_1 x_3 => ?_))
  refine GoO.shape (env' := [(4, .agg ⟨[.int .i64 5, .int .u64 2, .int .u64 3, .int .u64 5, .slice none ([] : List T_api_Step).length 0, .int .i64 0, .bool false, .int .i64 0, .bool false, .int .u64 0]⟩), (5, .tuple ⟨[.string (bs r_1.1), .int .i64 r_1.2]⟩)]) (H' := []) (B' := [Rd 0 kT_api_Step none 0 ([] : List T_api_Step)]) (ks := [4, 5]) (by kernel_rfl) (by kernel_rfl) (by kernel_rfl) ?_
  refine GoO.exec (is := [2, 3, 4, 5, 6]) (hs := [.p, .p, .p, .p, .p]) (rest := []) (ks := [1, 2]) (env' := [(1, .string (bs r_1.1)), (2, .int .i64 r_1.2)]) (H' := []) (ps := []) (by kernel_rfl) trivial ?_
  refine GoO.regionEnd ?_
  refine GoO.seq' c15_4e ?_
  refine GoO.region' (is := [0, 1, 2, 3, 4, 5, 6]) c15_5e (by kernel_rfl) ?_
  refine GoO.exec (is := [0, 1, 2]) (hs := [.p, .p, .p]) (rest := [3, 4, 5, 6]) (ks := [1, 10]) (env' := [(1, .string (bs r_1.1)), (10, .bool (r_1.2 == 0))]) (H' := []) (ps := []) (by kernel_rfl) trivial ?_
  refine GoO.bsplit (t := 10) (by kernel_rfl) (fun h2 => ?_) (fun h2 => ?_)
  · refine GoO.exec (is := [3, 4, 5, 6]) (hs := [.p, .p, .p, .p]) (rest := []) (ks := [0]) (env' := [(0, .bool (r_1.1 == ([1, 5, 1, 2, 1, 3, 1, 5, 0] : List UInt8)))]) (H' := []) (ps := []) (by kernel_rfl) trivial ?_
    refine GoO.regionEnd ?_
    exact GoO.ret' (h := c15_6e) (hs := []) (ps := []) (hk := []) (bk := []) Try.func15 () (by kernel_rfl) trivial (by kernel_rfl) (by kernel_rfl)
  · refine GoO.exec (is := [3, 4, 5, 6]) (hs := [.p, .p, .p, .p]) (rest := []) (ks := [0]) (env' := [(0, .bool false)]) (H' := []) (ps := []) (by kernel_rfl) trivial ?_
    refine GoO.regionEnd ?_
    exact GoO.ret' (h := c15_6e) (hs := []) (ps := []) (hk := []) (bk := []) Try.func15 () (by kernel_rfl) trivial (by kernel_rfl) (by kernel_rfl)

/-! tontine/tontineref13.Check -/
noncomputable def c31_0 : Code := bodyOf Try.f31
noncomputable def c31_1 : Code := cdL c31_0
noncomputable def c31_2 : Code := cdR c31_0
noncomputable def c31_3 : Code := cdL c31_2
noncomputable def c31_4 : Code := cdR c31_2
noncomputable def c31_5 : Code := cdL c31_4
noncomputable def c31_6 : Code := cdL c31_5
noncomputable def c31_7 : Code := cdR c31_5
noncomputable def c31_8 : Code := cdL c31_7
noncomputable def c31_9 : Code := cdL c31_8
noncomputable def c31_10 : Code := cdL c31_9
noncomputable def c31_11 : Code := cdL c31_10
noncomputable def c31_12 : Code := cdR c31_10
noncomputable def c31_13 : Code := cdL c31_12
noncomputable def c31_14 : Code := cdR c31_12
noncomputable def c31_15 : Code := cdR c31_9
noncomputable def c31_16 : Code := cdL c31_15
noncomputable def c31_17 : Code := cdL c31_16
noncomputable def c31_18 : Code := cdL c31_17
noncomputable def c31_19 : Code := cdR c31_17
noncomputable def c31_20 : Code := cdR c31_15
noncomputable def c31_21 : Code := cdR c31_4
noncomputable def c31_22 : Code := cdL c31_21
noncomputable def c31_23 : Code := cdL c31_22
noncomputable def c31_24 : Code := cdR c31_22
noncomputable def c31_25 : Code := cdL c31_24
noncomputable def c31_26 : Code := cdL c31_25
noncomputable def c31_27 : Code := cdR c31_25
noncomputable def c31_28 : Code := cdR c31_24
noncomputable def c31_29 : Code := cdR c31_21
noncomputable def c31_30 : Code := cdL c31_29
noncomputable def c31_31 : Code := cdR c31_29
noncomputable def r31_1 : Array Oper := cdO c31_1
noncomputable def r31_3 : Array Oper := cdO c31_3
noncomputable def r31_6 : Array Oper := cdO c31_6
noncomputable def r31_11 : Array Oper := cdO c31_11
noncomputable def r31_18 : Array Oper := cdO c31_18
noncomputable def r31_19 : Array Oper := cdO c31_19
noncomputable def r31_20 : Array Oper := cdO c31_20
noncomputable def r31_23 : Array Oper := cdO c31_23
noncomputable def r31_26 : Array Oper := cdO c31_26
noncomputable def r31_30 : Array Oper := cdO c31_30
theorem c31_0e : c31_0 = .seq c31_1 c31_2 := by kernel_rfl
theorem c31_1e : c31_1 = .region 0 r31_1 false := by kernel_rfl
theorem c31_2e : c31_2 = .seq c31_3 c31_4 := by kernel_rfl
theorem c31_3e : c31_3 = .region 1 r31_3 false := by kernel_rfl
theorem c31_4e : c31_4 = .seq c31_5 c31_21 := by kernel_rfl
theorem c31_5e : c31_5 = .seq c31_6 c31_7 := by kernel_rfl
theorem c31_6e : c31_6 = .region 2 r31_6 false := by kernel_rfl
theorem c31_7e : c31_7 = .block 0 c31_8 := by kernel_rfl
theorem c31_8e : c31_8 = .loop c31_9 := by kernel_rfl
theorem c31_9e : c31_9 = .seq c31_10 c31_15 := by kernel_rfl
theorem c31_10e : c31_10 = .seq c31_11 c31_12 := by kernel_rfl
theorem c31_11e : c31_11 = .region 3 r31_11 false := by kernel_rfl
theorem c31_12e : c31_12 = .cond (cdC c31_12) c31_13 c31_14 := by kernel_rfl
theorem c31_13e : c31_13 = .skip := by kernel_rfl
theorem c31_14e : c31_14 = .exit 0 := by kernel_rfl
theorem c31_15e : c31_15 = .seq c31_16 c31_20 := by kernel_rfl
theorem c31_16e : c31_16 = .block 1 c31_17 := by kernel_rfl
theorem c31_17e : c31_17 = .seq c31_18 c31_19 := by kernel_rfl
theorem c31_18e : c31_18 = .region 5 r31_18 false := by kernel_rfl
theorem c31_19e : c31_19 = .region 6 r31_19 false := by kernel_rfl
theorem c31_20e : c31_20 = .region 4 r31_20 false := by kernel_rfl
theorem c31_21e : c31_21 = .seq c31_22 c31_29 := by kernel_rfl
theorem c31_22e : c31_22 = .seq c31_23 c31_24 := by kernel_rfl
theorem c31_23e : c31_23 = .region 7 r31_23 false := by kernel_rfl
theorem c31_24e : c31_24 = .cond (cdC c31_24) c31_25 c31_28 := by kernel_rfl
theorem c31_25e : c31_25 = .seq c31_26 c31_27 := by kernel_rfl
theorem c31_26e : c31_26 = .region 8 r31_26 false := by kernel_rfl
theorem c31_27e : c31_27 = .ret := by kernel_rfl
theorem c31_28e : c31_28 = .skip := by kernel_rfl
theorem c31_29e : c31_29 = .seq c31_30 c31_31 := by kernel_rfl
theorem c31_30e : c31_30 = .region 9 r31_30 false := by kernel_rfl
theorem c31_31e : c31_31 = .ret := by kernel_rfl
noncomputable def tontineref13_Check.R (A_2 : Option Addr) (c_3 : Nat) : Pst Int where
  ε := Unit
  v := fun r x => .int .i64 r
  H := fun r x => []
  B := fun r x => []
noncomputable def tontineref13_Check.cx (A_2 : Option Addr) (c_3 : Nat) (w0 : World) (S0 : Fam) : Cx Int := ⟨Try.prog, 31, Try.f31, 59, w0, S0, [], 0, tontineref13_Check.R A_2 c_3⟩
theorem tontineref13_Check_j2_ok (n : Nat) (L0 : Bool → Int → Option Int) (l_1 : (List T_api_Step)) (bad_6 : Bool) (i_7 : Int) (A_2 : Option Addr) (c_3 : Nat) (w0 : World) (S0 : Fam) (ih0 : ∀ (bad_6 : Bool) (i_7 : Int), GoO (tontineref13_Check.cx A_2 c_3 w0 S0) [(0, .slice A_2 l_1.length c_3), (3, .bool bad_6), (4, .int .i64 i_7)] [] [Rd 0 kT_api_Step A_2 c_3 l_1] [.code c31_9, .inLoop c31_9, .inBlock 0, .code c31_21] (L0 bad_6 i_7)) (bad_18 : Bool) :
    GoO (tontineref13_Check.cx A_2 c_3 w0 S0) [(0, .slice A_2 l_1.length c_3), (3, .bool bad_18), (4, .int .i64 i_7)] [] [Rd 0 kT_api_Step A_2 c_3 l_1] [.inBlock 1, .code c31_20, .inLoop c31_9, .inBlock 0, .code c31_21] (tontineref13_Check.j2 n L0 i_7 bad_18) := by
  unfold tontineref13_Check.j2
  refine GoO.inBlock ?_
  refine GoO.region' (is := [0, 1, 2]) c31_20e (by kernel_rfl) ?_
  refine GoO.exec (is := [0, 1, 2]) (hs := [.p, .p, .p]) (rest := []) (ks := [0, 3, 4]) (env' := [(0, .slice A_2 l_1.length c_3), (3, .bool bad_18), (4, .int .i64 (wi64 (i_7 + 1)))]) (H' := []) (ps := []) (by kernel_rfl) trivial ?_
  refine GoO.regionEnd ?_
  refine GoO.inLoop ?_
  exact GoO.sub (ks := [0, 3, 4]) (hk := []) (bk := [0]) (by kernel_rfl) (by kernel_rfl) (by kernel_rfl) (ih0 bad_18 (wi64 (i_7 + 1)))
theorem tontineref13_Check_j1_ok (n : Nat) (L0 : Bool → Int → Option Int) (l_1 : (List T_api_Step)) (bad_6 : Bool) (i_7 : Int) (A_2 : Option Addr) (c_3 : Nat) (w0 : World) (S0 : Fam) (ih0 : ∀ (bad_6 : Bool) (i_7 : Int), GoO (tontineref13_Check.cx A_2 c_3 w0 S0) [(0, .slice A_2 l_1.length c_3), (3, .bool bad_6), (4, .int .i64 i_7)] [] [Rd 0 kT_api_Step A_2 c_3 l_1] [.code c31_9, .inLoop c31_9, .inBlock 0, .code c31_21] (L0 bad_6 i_7)) (b_9 : Bool) :
    GoO (tontineref13_Check.cx A_2 c_3 w0 S0) [(0, .slice A_2 l_1.length c_3), (3, .bool bad_6), (4, .int .i64 i_7), (21, .bool b_9)] [] [Rd 0 kT_api_Step A_2 c_3 l_1] [.code c31_12, .code c31_15, .inLoop c31_9, .inBlock 0, .code c31_21] (tontineref13_Check.j1 n L0 l_1 bad_6 i_7 b_9) := by
  unfold tontineref13_Check.j1
  refine GoO.ite' c31_12e (by kernel_rfl) (fun h10 => ?_) (fun h10 => ?_)
  · refine GoO.skip' c31_13e ?_
    refine GoO.seq' c31_15e ?_
    refine GoO.block' c31_16e ?_
    refine GoO.seq' c31_17e ?_
    refine GoO.region' (is := [0, 1, 2, 3, 4, 5]) c31_18e (by kernel_rfl) ?_
    refine GoO.exec (is := [0, 1]) (hs := [.p, .p]) (rest := [2, 3, 4, 5]) (ks := [0, 4, 24, 25]) (env' := [(0, .slice A_2 l_1.length c_3), (4, .int .i64 i_7), (24, .slice A_2 l_1.length c_3), (25, .int .i64 i_7)]) (H' := []) (ps := []) (by kernel_rfl) trivial ?_
    refine GoO.guard (fun h11 => ?_)
    refine OpTo.go (GoO.idx (kk := .i64) (e := 50) (K := kT_api_Step) (A := A_2) (c := c_3) (xs := l_1) (iv := i_7) (j := 0) rfl (by kernel_rfl) (by kernel_rfl) (by kernel_rfl) (by kernel_rfl) rfl Reads.rd rfl h11.1 h11.2 (by decide) rfl ?_)
    refine OpTo.go (GoO.ldE' (K := kT_api_Step) (A := A_2) (c := c_3) (xs := l_1) (iN := i_7.toNat) (off := 0) (j := 0) rfl (by kernel_rfl) rfl Reads.rd (idx_lt h11.1 h11.2) (by decide) (Opn.flat _ _ _ _ _) (v := fun _ => .agg ⟨[.int .i64 ((rdL l_1 i_7).Part), .string (bs ((rdL l_1 i_7).Name)), .int .i64 ((rdL l_1 i_7).Budget)]⟩) (fun _ => by kernel_rfl) _ (fun _ => rfl) (fun _ => ?_))
    refine OpTo.go (GoO.new rfl 40 (cs := [.int .i64 0, .string (bs []), .int .i64 0]) (by kernel_rfl) _ (fun _ => rfl) (fun b_12 => ?_))
    refine GoO.exec (is := [5]) (hs := [.b 0]) (rest := []) (ks := [0, 4, 5]) (env' := [(0, .slice A_2 l_1.length c_3), (4, .int .i64 i_7), (5, .pointer (some ⟨b_12, 0, none⟩))]) (H' := [⟨40, b_12, [.int .i64 ((rdL l_1 i_7).Part), .string (bs ((rdL l_1 i_7).Name)), .int .i64 ((rdL l_1 i_7).Budget)]⟩]) (ps := [b_12 = b_12]) (by kernel_rfl) (And.intro rfl trivial) ?_
    refine GoO.regionEnd ?_
    refine GoO.region' (is := [0, 1, 2, 3, 4, 5, 6, 7, 8, 9, 10, 11, 12, 13, 14, 15, 16, 17, 18, 19, 20, 21, 22, 23, 24, 25, 26, 27, 28, 29, 30]) c31_19e (by kernel_rfl) ?_
    refine GoO.exec (is := [0, 1, 2, 3]) (hs := [.p, .b 0, .p, .p]) (rest := [4, 5, 6, 7, 8, 9, 10, 11, 12, 13, 14, 15, 16, 17, 18, 19, 20, 21, 22, 23, 24, 25, 26, 27, 28, 29, 30]) (ks := [0, 4, 5, 31]) (env' := [(0, .slice A_2 l_1.length c_3), (4, .int .i64 i_7), (5, .pointer (some ⟨b_12, 0, none⟩)), (31, .bool (decide (((rdL l_1 i_7).Part) < 0)))]) (H' := [⟨40, b_12, [.int .i64 ((rdL l_1 i_7).Part), .string (bs ((rdL l_1 i_7).Name)), .int .i64 ((rdL l_1 i_7).Budget)]⟩]) (ps := [b_12 = b_12]) (by kernel_rfl) (And.intro rfl trivial) ?_
    refine GoO.bsplit (t := 31) (by kernel_rfl) (fun h13 => ?_) (fun h13 => ?_)
    · refine GoO.exec (is := [4, 5, 6, 7, 8, 9, 10, 11, 12, 13, 14, 15, 16, 17, 18, 19, 20, 21, 22, 23, 24, 25, 26, 27, 28, 29, 30]) (hs := [.p, .p, .p, .p, .p, .p, .p, .p, .p, .p, .p, .p, .p, .p, .p, .p, .p, .p, .p, .p, .p, .p, .p, .p, .p, .p, .p]) (rest := []) (ks := [0, 3, 4]) (env' := [(0, .slice A_2 l_1.length c_3), (3, .bool true), (4, .int .i64 i_7)]) (H' := [⟨40, b_12, [.int .i64 ((rdL l_1 i_7).Part), .string (bs ((rdL l_1 i_7).Name)), .int .i64 ((rdL l_1 i_7).Budget)]⟩]) (ps := []) (by kernel_rfl) trivial ?_
      refine GoO.regionEnd ?_
      exact GoO.sub (ks := [0, 3, 4]) (hk := []) (bk := [0]) (by kernel_rfl) (by kernel_rfl) (by kernel_rfl) (tontineref13_Check_j2_ok n L0 l_1 bad_6 i_7 A_2 c_3 w0 S0 ih0 true)
    · refine GoO.exec (is := [4, 5, 6, 7, 8]) (hs := [.p, .b 0, .p, .p, .p]) (rest := [9, 10, 11, 12, 13, 14, 15, 16, 17, 18, 19, 20, 21, 22, 23, 24, 25, 26, 27, 28, 29, 30]) (ks := [0, 4, 5, 36]) (env' := [(0, .slice A_2 l_1.length c_3), (4, .int .i64 i_7), (5, .pointer (some ⟨b_12, 0, none⟩)), (36, .bool (decide (((rdL l_1 i_7).Part) > 3)))]) (H' := [⟨40, b_12, [.int .i64 ((rdL l_1 i_7).Part), .string (bs ((rdL l_1 i_7).Name)), .int .i64 ((rdL l_1 i_7).Budget)]⟩]) (ps := [b_12 = b_12]) (by kernel_rfl) (And.intro rfl trivial) ?_
      refine GoO.bsplit (t := 36) (by kernel_rfl) (fun h14 => ?_) (fun h14 => ?_)
      · refine GoO.exec (is := [9, 10, 11, 12, 13, 14, 15, 16, 17, 18, 19, 20, 21, 22, 23, 24, 25, 26, 27, 28, 29, 30]) (hs := [.p, .p, .p, .p, .p, .p, .p, .p, .p, .p, .p, .p, .p, .p, .p, .p, .p, .p, .p, .p, .p, .p]) (rest := []) (ks := [0, 3, 4]) (env' := [(0, .slice A_2 l_1.length c_3), (3, .bool true), (4, .int .i64 i_7)]) (H' := [⟨40, b_12, [.int .i64 ((rdL l_1 i_7).Part), .string (bs ((rdL l_1 i_7).Name)), .int .i64 ((rdL l_1 i_7).Budget)]⟩]) (ps := []) (by kernel_rfl) trivial ?_
        refine GoO.regionEnd ?_
        exact GoO.sub (ks := [0, 3, 4]) (hk := []) (bk := [0]) (by kernel_rfl) (by kernel_rfl) (by kernel_rfl) (tontineref13_Check_j2_ok n L0 l_1 bad_6 i_7 A_2 c_3 w0 S0 ih0 true)
      · refine GoO.exec (is := [9, 10, 11, 12, 13, 14]) (hs := [.p, .b 0, .p, .p, .p, .p]) (rest := [15, 16, 17, 18, 19, 20, 21, 22, 23, 24, 25, 26, 27, 28, 29, 30]) (ks := [0, 4, 5, 42]) (env' := [(0, .slice A_2 l_1.length c_3), (4, .int .i64 i_7), (5, .pointer (some ⟨b_12, 0, none⟩)), (42, .bool (decide ((((rdL l_1 i_7).Name).length : Int) < 1)))]) (H' := [⟨40, b_12, [.int .i64 ((rdL l_1 i_7).Part), .string (bs ((rdL l_1 i_7).Name)), .int .i64 ((rdL l_1 i_7).Budget)]⟩]) (ps := [b_12 = b_12]) (by kernel_rfl) (And.intro rfl trivial) ?_
        refine GoO.bsplit (t := 42) (by kernel_rfl) (fun h15 => ?_) (fun h15 => ?_)
        · refine GoO.exec (is := [15, 16, 17, 18, 19, 20, 21, 22, 23, 24, 25, 26, 27, 28, 29, 30]) (hs := [.p, .p, .p, .p, .p, .p, .p, .p, .p, .p, .p, .p, .p, .p, .p, .p]) (rest := []) (ks := [0, 3, 4]) (env' := [(0, .slice A_2 l_1.length c_3), (3, .bool true), (4, .int .i64 i_7)]) (H' := [⟨40, b_12, [.int .i64 ((rdL l_1 i_7).Part), .string (bs ((rdL l_1 i_7).Name)), .int .i64 ((rdL l_1 i_7).Budget)]⟩]) (ps := []) (by kernel_rfl) trivial ?_
          refine GoO.regionEnd ?_
          exact GoO.sub (ks := [0, 3, 4]) (hk := []) (bk := [0]) (by kernel_rfl) (by kernel_rfl) (by kernel_rfl) (tontineref13_Check_j2_ok n L0 l_1 bad_6 i_7 A_2 c_3 w0 S0 ih0 true)
        · refine GoO.exec (is := [15, 16, 17, 18, 19, 20]) (hs := [.p, .b 0, .p, .p, .p, .p]) (rest := [21, 22, 23, 24, 25, 26, 27, 28, 29, 30]) (ks := [0, 4, 5, 48]) (env' := [(0, .slice A_2 l_1.length c_3), (4, .int .i64 i_7), (5, .pointer (some ⟨b_12, 0, none⟩)), (48, .bool (decide ((((rdL l_1 i_7).Name).length : Int) > 16)))]) (H' := [⟨40, b_12, [.int .i64 ((rdL l_1 i_7).Part), .string (bs ((rdL l_1 i_7).Name)), .int .i64 ((rdL l_1 i_7).Budget)]⟩]) (ps := [b_12 = b_12]) (by kernel_rfl) (And.intro rfl trivial) ?_
          refine GoO.bsplit (t := 48) (by kernel_rfl) (fun h16 => ?_) (fun h16 => ?_)
          · refine GoO.exec (is := [21, 22, 23, 24, 25, 26, 27, 28, 29, 30]) (hs := [.p, .p, .p, .p, .p, .p, .p, .p, .p, .p]) (rest := []) (ks := [0, 3, 4]) (env' := [(0, .slice A_2 l_1.length c_3), (3, .bool true), (4, .int .i64 i_7)]) (H' := [⟨40, b_12, [.int .i64 ((rdL l_1 i_7).Part), .string (bs ((rdL l_1 i_7).Name)), .int .i64 ((rdL l_1 i_7).Budget)]⟩]) (ps := []) (by kernel_rfl) trivial ?_
            refine GoO.regionEnd ?_
            exact GoO.sub (ks := [0, 3, 4]) (hk := []) (bk := [0]) (by kernel_rfl) (by kernel_rfl) (by kernel_rfl) (tontineref13_Check_j2_ok n L0 l_1 bad_6 i_7 A_2 c_3 w0 S0 ih0 true)
          · refine GoO.exec (is := [21, 22, 23, 24, 25]) (hs := [.p, .b 0, .p, .p, .p]) (rest := [26, 27, 28, 29, 30]) (ks := [0, 4, 5, 53]) (env' := [(0, .slice A_2 l_1.length c_3), (4, .int .i64 i_7), (5, .pointer (some ⟨b_12, 0, none⟩)), (53, .bool (decide (((rdL l_1 i_7).Budget) < 1)))]) (H' := [⟨40, b_12, [.int .i64 ((rdL l_1 i_7).Part), .string (bs ((rdL l_1 i_7).Name)), .int .i64 ((rdL l_1 i_7).Budget)]⟩]) (ps := [b_12 = b_12]) (by kernel_rfl) (And.intro rfl trivial) ?_
            refine GoO.bsplit (t := 53) (by kernel_rfl) (fun h17 => ?_) (fun h17 => ?_)
            · refine GoO.exec (is := [26, 27, 28, 29, 30]) (hs := [.p, .p, .p, .p, .p]) (rest := []) (ks := [0, 3, 4]) (env' := [(0, .slice A_2 l_1.length c_3), (3, .bool true), (4, .int .i64 i_7)]) (H' := [⟨40, b_12, [.int .i64 ((rdL l_1 i_7).Part), .string (bs ((rdL l_1 i_7).Name)), .int .i64 ((rdL l_1 i_7).Budget)]⟩]) (ps := []) (by kernel_rfl) trivial ?_
              refine GoO.regionEnd ?_
              exact GoO.sub (ks := [0, 3, 4]) (hk := []) (bk := [0]) (by kernel_rfl) (by kernel_rfl) (by kernel_rfl) (tontineref13_Check_j2_ok n L0 l_1 bad_6 i_7 A_2 c_3 w0 S0 ih0 true)
            · refine GoO.exec (is := [26, 27, 28, 29, 30]) (hs := [.p, .b 0, .p, .p, .p]) (rest := []) (ks := [0, 3, 4]) (env' := [(0, .slice A_2 l_1.length c_3), (3, .bool (decide (((rdL l_1 i_7).Budget) > 9))), (4, .int .i64 i_7)]) (H' := [⟨40, b_12, [.int .i64 ((rdL l_1 i_7).Part), .string (bs ((rdL l_1 i_7).Name)), .int .i64 ((rdL l_1 i_7).Budget)]⟩]) (ps := [b_12 = b_12]) (by kernel_rfl) (And.intro rfl trivial) ?_
              refine GoO.regionEnd ?_
              exact GoO.sub (ks := [0, 3, 4]) (hk := []) (bk := [0]) (by kernel_rfl) (by kernel_rfl) (by kernel_rfl) (tontineref13_Check_j2_ok n L0 l_1 bad_6 i_7 A_2 c_3 w0 S0 ih0 (decide (((rdL l_1 i_7).Budget) > 9)))
  · refine GoO.exit' c31_14e rfl ?_
    refine GoO.seq' c31_21e ?_
    refine GoO.seq' c31_22e ?_
    refine GoO.region' (is := [0]) c31_23e (by kernel_rfl) ?_
    refine GoO.exec (is := [0]) (hs := [.p]) (rest := []) (ks := [58]) (env' := [(58, .bool bad_6)]) (H' := []) (ps := []) (by kernel_rfl) trivial ?_
    refine GoO.regionEnd ?_
    refine GoO.ite' c31_24e (by kernel_rfl) (fun h19 => ?_) (fun h19 => ?_)
    · refine GoO.seq' c31_25e ?_
      refine GoO.region' (is := [0]) c31_26e (by kernel_rfl) ?_
      refine GoO.exec (is := [0]) (hs := [.p]) (rest := []) (ks := [2]) (env' := [(2, .int .i64 44)]) (H' := []) (ps := []) (by kernel_rfl) trivial ?_
      refine GoO.regionEnd ?_
      exact GoO.ret' (h := c31_27e) (hs := []) (ps := []) (hk := []) (bk := []) Try.func31 () (by kernel_rfl) trivial (by kernel_rfl) (by kernel_rfl)
    · refine GoO.skip' c31_28e ?_
      refine GoO.seq' c31_29e ?_
      refine GoO.region' (is := [0]) c31_30e (by kernel_rfl) ?_
      refine GoO.exec (is := [0]) (hs := [.p]) (rest := []) (ks := [2]) (env' := [(2, .int .i64 0)]) (H' := []) (ps := []) (by kernel_rfl) trivial ?_
      refine GoO.regionEnd ?_
      exact GoO.ret' (h := c31_31e) (hs := []) (ps := []) (hk := []) (bk := []) Try.func31 () (by kernel_rfl) trivial (by kernel_rfl) (by kernel_rfl)
theorem tontineref13_Check_l0_ok (n : Nat) (l_1 : (List T_api_Step)) (A_2 : Option Addr) (c_3 : Nat) (w0 : World) (S0 : Fam) :
    ∀ (k : Nat) (bad_6 : Bool) (i_7 : Int), GoO (tontineref13_Check.cx A_2 c_3 w0 S0) [(0, .slice A_2 l_1.length c_3), (3, .bool bad_6), (4, .int .i64 i_7)] [] [Rd 0 kT_api_Step A_2 c_3 l_1] [.code c31_9, .inLoop c31_9, .inBlock 0, .code c31_21] (tontineref13_Check.l0 n l_1 k bad_6 i_7) := by
  intro k
  induction k with
  | zero => intros; rw [tontineref13_Check.l0.eq_1]; exact GoO.stop
  | succ k ih0 =>
    intro bad_6 i_7
    rw [tontineref13_Check.l0.eq_2]
    refine GoO.seq' c31_9e ?_
    refine GoO.seq' c31_10e ?_
    refine GoO.region' (is := [0, 1, 2, 3, 4, 5, 6, 7]) c31_11e (by kernel_rfl) ?_
    refine GoO.exec (is := [0, 1, 2, 3, 4]) (hs := [.p, .p, .p, .p, .p]) (rest := [5, 6, 7]) (ks := [0, 3, 4, 18]) (env' := [(0, .slice A_2 l_1.length c_3), (3, .bool bad_6), (4, .int .i64 i_7), (18, .bool (decide (i_7 < (l_1.length : Int))))]) (H' := []) (ps := []) (by kernel_rfl) trivial ?_
    refine GoO.bsplit (t := 18) (by kernel_rfl) (fun h8 => ?_) (fun h8 => ?_)
    · refine GoO.exec (is := [5, 6, 7]) (hs := [.p, .p, .p]) (rest := []) (ks := [0, 3, 4, 21]) (env' := [(0, .slice A_2 l_1.length c_3), (3, .bool bad_6), (4, .int .i64 i_7), (21, .bool (!bad_6))]) (H' := []) (ps := []) (by kernel_rfl) trivial ?_
      refine GoO.regionEnd ?_
      exact GoO.sub (ks := [0, 3, 4, 21]) (hk := []) (bk := [0]) (by kernel_rfl) (by kernel_rfl) (by kernel_rfl) (tontineref13_Check_j1_ok n (tontineref13_Check.l0 n l_1 k) l_1 bad_6 i_7 A_2 c_3 w0 S0 ih0 (!bad_6))
    · refine GoO.exec (is := [5, 6, 7]) (hs := [.p, .p, .p]) (rest := []) (ks := [0, 3, 4, 21]) (env' := [(0, .slice A_2 l_1.length c_3), (3, .bool bad_6), (4, .int .i64 i_7), (21, .bool false)]) (H' := []) (ps := []) (by kernel_rfl) trivial ?_
      refine GoO.regionEnd ?_
      exact GoO.sub (ks := [0, 3, 4, 21]) (hk := []) (bk := [0]) (by kernel_rfl) (by kernel_rfl) (by kernel_rfl) (tontineref13_Check_j1_ok n (tontineref13_Check.l0 n l_1 k) l_1 bad_6 i_7 A_2 c_3 w0 S0 ih0 false)
theorem tontineref13_Check_j0_ok (n : Nat) (l_1 : (List T_api_Step)) (A_2 : Option Addr) (c_3 : Nat) (w0 : World) (S0 : Fam) (bad_5 : Bool) :
    GoO (tontineref13_Check.cx A_2 c_3 w0 S0) [(0, .slice A_2 l_1.length c_3), (3, .bool bad_5)] [] [Rd 0 kT_api_Step A_2 c_3 l_1] [.code c31_4] (tontineref13_Check.j0 n l_1 bad_5) := by
  unfold tontineref13_Check.j0
  refine GoO.seq' c31_4e ?_
  refine GoO.seq' c31_5e ?_
  refine GoO.region' (is := [0]) c31_6e (by kernel_rfl) ?_
  refine GoO.exec (is := [0]) (hs := [.p]) (rest := []) (ks := [0, 3, 4]) (env' := [(0, .slice A_2 l_1.length c_3), (3, .bool bad_5), (4, .int .i64 0)]) (H' := []) (ps := []) (by kernel_rfl) trivial ?_
  refine GoO.regionEnd ?_
  refine GoO.block' c31_7e ?_
  refine GoO.loop' c31_8e ?_
  exact GoO.sub (ks := [0, 3, 4]) (hk := []) (bk := [0]) (by kernel_rfl) (by kernel_rfl) (by kernel_rfl) (tontineref13_Check_l0_ok n l_1 A_2 c_3 w0 S0 n bad_5 0)
theorem tontineref13_Check_ok (n : Nat) (l_1 : (List T_api_Step)) (A_2 : Option Addr) (c_3 : Nat) :
    Meets Try.prog 31 [.slice A_2 l_1.length c_3] 0 [] [] [Rd 0 kT_api_Step A_2 c_3 l_1] (tontineref13_Check.f n l_1) (tontineref13_Check.R A_2 c_3) := by
  refine Meets.of (c := c31_0) (n := 59) Try.func31 (by kernel_rfl) (by kernel_rfl) (by kernel_rfl) fun w0 S0 => ?_
  unfold tontineref13_Check.f
  show GoO (tontineref13_Check.cx A_2 c_3 w0 S0) [(0, .slice A_2 l_1.length c_3)] [] [Rd 0 kT_api_Step A_2 c_3 l_1] [.code c31_0] _
  refine GoO.seq' c31_0e ?_
  refine GoO.region' (is := [0]) c31_1e (by kernel_rfl) ?_
  refine GoO.exec (is := [0]) (hs := [.p]) (rest := []) (ks := [0]) (env' := [(0, .slice A_2 l_1.length c_3)]) (H' := []) (ps := []) (by kernel_rfl) trivial ?_
  refine GoO.regionEnd ?_
  refine GoO.seq' c31_2e ?_
  refine GoO.region' (is := [0, 1, 2, 3, 4, 5, 6, 7, 8]) c31_3e (by kernel_rfl) ?_
  refine GoO.exec (is := [0, 1, 2, 3]) (hs := [.p, .p, .p, .p]) (rest := [4, 5, 6, 7, 8]) (ks := [0, 9]) (env' := [(0, .slice A_2 l_1.length c_3), (9, .bool ((l_1.length : Int) == 0))]) (H' := []) (ps := []) (by kernel_rfl) trivial ?_
  refine GoO.bsplit (t := 9) (by kernel_rfl) (fun h4 => ?_) (fun h4 => ?_)
  · refine GoO.exec (is := [4, 5, 6, 7, 8]) (hs := [.p, .p, .p, .p, .p]) (rest := []) (ks := [0, 3]) (env' := [(0, .slice A_2 l_1.length c_3), (3, .bool true)]) (H' := []) (ps := []) (by kernel_rfl) trivial ?_
    refine GoO.regionEnd ?_
    exact GoO.sub (ks := [0, 3]) (hk := []) (bk := [0]) (by kernel_rfl) (by kernel_rfl) (by kernel_rfl) (tontineref13_Check_j0_ok n l_1 A_2 c_3 w0 S0 true)
  · refine GoO.exec (is := [4, 5, 6, 7, 8]) (hs := [.p, .p, .p, .p, .p]) (rest := []) (ks := [0, 3]) (env' := [(0, .slice A_2 l_1.length c_3), (3, .bool (decide ((l_1.length : Int) > 64)))]) (H' := []) (ps := []) (by kernel_rfl) trivial ?_
    refine GoO.regionEnd ?_
    exact GoO.sub (ks := [0, 3]) (hk := []) (bk := [0]) (by kernel_rfl) (by kernel_rfl) (by kernel_rfl) (tontineref13_Check_j0_ok n l_1 A_2 c_3 w0 S0 (decide ((l_1.length : Int) > 64)))

/-! tontine/tontineref16.bare -/
noncomputable def c54_0 : Code := bodyOf Try.f54
noncomputable def c54_1 : Code := cdL c54_0
noncomputable def c54_2 : Code := cdR c54_0
noncomputable def c54_3 : Code := cdL c54_2
noncomputable def c54_4 : Code := cdR c54_2
noncomputable def r54_1 : Array Oper := cdO c54_1
noncomputable def r54_3 : Array Oper := cdO c54_3
theorem c54_0e : c54_0 = .seq c54_1 c54_2 := by kernel_rfl
theorem c54_1e : c54_1 = .region 0 r54_1 false := by kernel_rfl
theorem c54_2e : c54_2 = .seq c54_3 c54_4 := by kernel_rfl
theorem c54_3e : c54_3 = .region 1 r54_3 false := by kernel_rfl
theorem c54_4e : c54_4 = .ret := by kernel_rfl
noncomputable def tontineref16_bare.R (A_2 : Option Addr) (c_3 : Nat) : Pst Bool where
  ε := Unit
  v := fun r x => .bool r
  H := fun r x => []
  B := fun r x => []
noncomputable def tontineref16_bare.cx (A_2 : Option Addr) (c_3 : Nat) (w0 : World) (S0 : Fam) : Cx Bool := ⟨Try.prog, 54, Try.f54, 21, w0, S0, [], 0, tontineref16_bare.R A_2 c_3⟩
theorem tontineref16_bare_ok (n : Nat) (c_1 : T_api_Command) (A_2 : Option Addr) (c_3 : Nat) :
    Meets Try.prog 54 [.agg ⟨[.int .i64 c_1.Kind, .int .u64 c_1.Session, .int .u64 c_1.Seq, .int .u64 c_1.Saga, .slice A_2 c_1.Steps.length c_3, .int .i64 c_1.Step, .bool c_1.Back, .int .i64 c_1.Try, .bool c_1.Ok, .int .u64 c_1.Now]⟩] 0 [] [] [Rd 0 kT_api_Step A_2 c_3 c_1.Steps] (tontineref16_bare.f n c_1) (tontineref16_bare.R A_2 c_3) := by
  refine Meets.of (c := c54_0) (n := 21) Try.func54 (by kernel_rfl) (by kernel_rfl) (by kernel_rfl) fun w0 S0 => ?_
  unfold tontineref16_bare.f
  show GoO (tontineref16_bare.cx A_2 c_3 w0 S0) [(0, .agg ⟨[.int .i64 c_1.Kind, .int .u64 c_1.Session, .int .u64 c_1.Seq, .int .u64 c_1.Saga, .slice A_2 c_1.Steps.length c_3, .int .i64 c_1.Step, .bool c_1.Back, .int .i64 c_1.Try, .bool c_1.Ok, .int .u64 c_1.Now]⟩)] [] [Rd 0 kT_api_Step A_2 c_3 c_1.Steps] [.code c54_0] _
  refine GoO.seq' c54_0e ?_
  refine GoO.region' (is := [0, 1]) c54_1e (by kernel_rfl) ?_
  refine OpTo.go (GoO.new rfl 40 (cs := [.int .i64 c_1.Kind, .int .u64 c_1.Session, .int .u64 c_1.Seq, .int .u64 c_1.Saga, .slice A_2 c_1.Steps.length c_3, .int .i64 c_1.Step, .bool c_1.Back, .int .i64 c_1.Try, .bool c_1.Ok, .int .u64 c_1.Now]) (by kernel_rfl) _ (fun _ => rfl) (fun b_4 => ?_))
  refine GoO.exec (is := [1]) (hs := [.p]) (rest := []) (ks := [1]) (env' := [(1, .pointer (some ⟨b_4, 0, none⟩))]) (H' := [⟨40, b_4, [.int .i64 c_1.Kind, .int .u64 c_1.Session, .int .u64 c_1.Seq, .int .u64 c_1.Saga, .slice A_2 c_1.Steps.length c_3, .int .i64 c_1.Step, .bool c_1.Back, .int .i64 c_1.Try, .bool c_1.Ok, .int .u64 c_1.Now]⟩]) (ps := []) (by kernel_rfl) trivial ?_
  refine GoO.regionEnd ?_
  refine GoO.seq' c54_2e ?_
  refine GoO.region' (is := [0, 1, 2, 3, 4, 5, 6, 7, 8, 9, 10, 11, 12, 13, 14, 15, 16, 17, 18]) c54_3e (by kernel_rfl) ?_
  refine GoO.exec (is := [0, 1, 2, 3]) (hs := [.p, .b 0, .p, .p]) (rest := [4, 5, 6, 7, 8, 9, 10, 11, 12, 13, 14, 15, 16, 17, 18]) (ks := [1, 6]) (env' := [(1, .pointer (some ⟨b_4, 0, none⟩)), (6, .bool (c_1.Step == 0))]) (H' := [⟨40, b_4, [.int .i64 c_1.Kind, .int .u64 c_1.Session, .int .u64 c_1.Seq, .int .u64 c_1.Saga, .slice A_2 c_1.Steps.length c_3, .int .i64 c_1.Step, .bool c_1.Back, .int .i64 c_1.Try, .bool c_1.Ok, .int .u64 c_1.Now]⟩]) (ps := [b_4 = b_4]) (by kernel_rfl) (And.intro rfl trivial) ?_
  refine GoO.bsplit (t := 6) (by kernel_rfl) (fun h5 => ?_) (fun h5 => ?_)
  · refine GoO.exec (is := [4, 5, 6, 7, 8]) (hs := [.p, .b 0, .p, .p, .p]) (rest := [9, 10, 11, 12, 13, 14, 15, 16, 17, 18]) (ks := [1, 11]) (env' := [(1, .pointer (some ⟨b_4, 0, none⟩)), (11, .bool (!c_1.Back))]) (H' := [⟨40, b_4, [.int .i64 c_1.Kind, .int .u64 c_1.Session, .int .u64 c_1.Seq, .int .u64 c_1.Saga, .slice A_2 c_1.Steps.length c_3, .int .i64 c_1.Step, .bool c_1.Back, .int .i64 c_1.Try, .bool c_1.Ok, .int .u64 c_1.Now]⟩]) (ps := [b_4 = b_4]) (by kernel_rfl) (And.intro rfl trivial) ?_
    refine GoO.bsplit (t := 11) (by kernel_rfl) (fun h6 => ?_) (fun h6 => ?_)
    · refine GoO.exec (is := [9, 10, 11, 12, 13]) (hs := [.p, .b 0, .p, .p, .p]) (rest := [14, 15, 16, 17, 18]) (ks := [1, 16]) (env' := [(1, .pointer (some ⟨b_4, 0, none⟩)), (16, .bool (c_1.Try == 0))]) (H' := [⟨40, b_4, [.int .i64 c_1.Kind, .int .u64 c_1.Session, .int .u64 c_1.Seq, .int .u64 c_1.Saga, .slice A_2 c_1.Steps.length c_3, .int .i64 c_1.Step, .bool c_1.Back, .int .i64 c_1.Try, .bool c_1.Ok, .int .u64 c_1.Now]⟩]) (ps := [b_4 = b_4]) (by kernel_rfl) (And.intro rfl trivial) ?_
      refine GoO.bsplit (t := 16) (by kernel_rfl) (fun h7 => ?_) (fun h7 => ?_)
      · refine GoO.exec (is := [14, 15, 16, 17, 18]) (hs := [.p, .b 0, .p, .p, .p]) (rest := []) (ks := [2]) (env' := [(2, .bool (!c_1.Ok))]) (H' := [⟨40, b_4, [.int .i64 c_1.Kind, .int .u64 c_1.Session, .int .u64 c_1.Seq, .int .u64 c_1.Saga, .slice A_2 c_1.Steps.length c_3, .int .i64 c_1.Step, .bool c_1.Back, .int .i64 c_1.Try, .bool c_1.Ok, .int .u64 c_1.Now]⟩]) (ps := [b_4 = b_4]) (by kernel_rfl) (And.intro rfl trivial) ?_
        refine GoO.regionEnd ?_
        exact GoO.ret' (h := c54_4e) (hs := []) (ps := []) (hk := []) (bk := []) Try.func54 () (by kernel_rfl) trivial (by kernel_rfl) (by kernel_rfl)
      · refine GoO.exec (is := [14, 15, 16, 17, 18]) (hs := [.p, .p, .p, .p, .p]) (rest := []) (ks := [2]) (env' := [(2, .bool false)]) (H' := [⟨40, b_4, [.int .i64 c_1.Kind, .int .u64 c_1.Session, .int .u64 c_1.Seq, .int .u64 c_1.Saga, .slice A_2 c_1.Steps.length c_3, .int .i64 c_1.Step, .bool c_1.Back, .int .i64 c_1.Try, .bool c_1.Ok, .int .u64 c_1.Now]⟩]) (ps := []) (by kernel_rfl) trivial ?_
        refine GoO.regionEnd ?_
        exact GoO.ret' (h := c54_4e) (hs := []) (ps := []) (hk := []) (bk := []) Try.func54 () (by kernel_rfl) trivial (by kernel_rfl) (by kernel_rfl)
    · refine GoO.exec (is := [9, 10, 11, 12, 13, 14, 15, 16, 17, 18]) (hs := [.p, .p, .p, .p, .p, .p, .p, .p, .p, .p]) (rest := []) (ks := [2]) (env' := [(2, .bool false)]) (H' := [⟨40, b_4, [.int .i64 c_1.Kind, .int .u64 c_1.Session, .int .u64 c_1.Seq, .int .u64 c_1.Saga, .slice A_2 c_1.Steps.length c_3, .int .i64 c_1.Step, .bool c_1.Back, .int .i64 c_1.Try, .bool c_1.Ok, .int .u64 c_1.Now]⟩]) (ps := []) (by kernel_rfl) trivial ?_
      refine GoO.regionEnd ?_
      exact GoO.ret' (h := c54_4e) (hs := []) (ps := []) (hk := []) (bk := []) Try.func54 () (by kernel_rfl) trivial (by kernel_rfl) (by kernel_rfl)
  · refine GoO.exec (is := [4, 5, 6, 7, 8, 9, 10, 11, 12, 13, 14, 15, 16, 17, 18]) (hs := [.p, .p, .p, .p, .p, .p, .p, .p, .p, .p, .p, .p, .p, .p, .p]) (rest := []) (ks := [2]) (env' := [(2, .bool false)]) (H' := [⟨40, b_4, [.int .i64 c_1.Kind, .int .u64 c_1.Session, .int .u64 c_1.Seq, .int .u64 c_1.Saga, .slice A_2 c_1.Steps.length c_3, .int .i64 c_1.Step, .bool c_1.Back, .int .i64 c_1.Try, .bool c_1.Ok, .int .u64 c_1.Now]⟩]) (ps := []) (by kernel_rfl) trivial ?_
    refine GoO.regionEnd ?_
    exact GoO.ret' (h := c54_4e) (hs := []) (ps := []) (hk := []) (bk := []) Try.func54 () (by kernel_rfl) trivial (by kernel_rfl) (by kernel_rfl)

/-! tontine/tontineref16.May -/
noncomputable def c19_0 : Code := bodyOf Try.f19
noncomputable def c19_1 : Code := cdL c19_0
noncomputable def c19_2 : Code := cdR c19_0
noncomputable def c19_3 : Code := cdL c19_2
noncomputable def c19_4 : Code := cdL c19_3
noncomputable def c19_5 : Code := cdR c19_3
noncomputable def c19_6 : Code := cdL c19_5
noncomputable def c19_7 : Code := cdL c19_6
noncomputable def c19_8 : Code := cdL c19_7
noncomputable def c19_9 : Code := cdR c19_7
noncomputable def c19_10 : Code := cdL c19_9
noncomputable def c19_11 : Code := cdR c19_9
noncomputable def c19_12 : Code := cdL c19_11
noncomputable def c19_13 : Code := cdR c19_11
noncomputable def c19_14 : Code := cdL c19_13
noncomputable def c19_15 : Code := cdR c19_13
noncomputable def c19_16 : Code := cdR c19_6
noncomputable def c19_17 : Code := cdL c19_16
noncomputable def c19_18 : Code := cdL c19_17
noncomputable def c19_19 : Code := cdR c19_17
noncomputable def c19_20 : Code := cdR c19_16
noncomputable def c19_21 : Code := cdL c19_20
noncomputable def c19_22 : Code := cdR c19_20
noncomputable def c19_23 : Code := cdL c19_22
noncomputable def c19_24 : Code := cdL c19_23
noncomputable def c19_25 : Code := cdR c19_23
noncomputable def c19_26 : Code := cdR c19_22
noncomputable def c19_27 : Code := cdL c19_26
noncomputable def c19_28 : Code := cdR c19_26
noncomputable def c19_29 : Code := cdL c19_28
noncomputable def c19_30 : Code := cdL c19_29
noncomputable def c19_31 : Code := cdR c19_29
noncomputable def c19_32 : Code := cdR c19_28
noncomputable def c19_33 : Code := cdR c19_2
noncomputable def c19_34 : Code := cdL c19_33
noncomputable def c19_35 : Code := cdR c19_33
noncomputable def r19_1 : Array Oper := cdO c19_1
noncomputable def r19_4 : Array Oper := cdO c19_4
noncomputable def r19_8 : Array Oper := cdO c19_8
noncomputable def r19_12 : Array Oper := cdO c19_12
noncomputable def r19_15 : Array Oper := cdO c19_15
noncomputable def r19_18 : Array Oper := cdO c19_18
noncomputable def r19_21 : Array Oper := cdO c19_21
noncomputable def r19_24 : Array Oper := cdO c19_24
noncomputable def r19_27 : Array Oper := cdO c19_27
noncomputable def r19_30 : Array Oper := cdO c19_30
noncomputable def r19_34 : Array Oper := cdO c19_34
theorem c19_0e : c19_0 = .seq c19_1 c19_2 := by kernel_rfl
theorem c19_1e : c19_1 = .region 0 r19_1 false := by kernel_rfl
theorem c19_2e : c19_2 = .seq c19_3 c19_33 := by kernel_rfl
theorem c19_3e : c19_3 = .seq c19_4 c19_5 := by kernel_rfl
theorem c19_4e : c19_4 = .region 1 r19_4 false := by kernel_rfl
theorem c19_5e : c19_5 = .block 0 c19_6 := by kernel_rfl
theorem c19_6e : c19_6 = .seq c19_7 c19_16 := by kernel_rfl
theorem c19_7e : c19_7 = .seq c19_8 c19_9 := by kernel_rfl
theorem c19_8e : c19_8 = .region 2 r19_8 false := by kernel_rfl
theorem c19_9e : c19_9 = .cond (cdC c19_9) c19_10 c19_11 := by kernel_rfl
theorem c19_10e : c19_10 = .skip := by kernel_rfl
theorem c19_11e : c19_11 = .seq c19_12 c19_13 := by kernel_rfl
theorem c19_12e : c19_12 = .region 3 r19_12 false := by kernel_rfl
theorem c19_13e : c19_13 = .cond (cdC c19_13) c19_14 c19_15 := by kernel_rfl
theorem c19_14e : c19_14 = .skip := by kernel_rfl
theorem c19_15e : c19_15 = .region 4 r19_15 false := by kernel_rfl
theorem c19_16e : c19_16 = .cond (cdC c19_16) c19_17 c19_20 := by kernel_rfl
theorem c19_17e : c19_17 = .seq c19_18 c19_19 := by kernel_rfl
theorem c19_18e : c19_18 = .region 5 r19_18 false := by kernel_rfl
theorem c19_19e : c19_19 = .ret := by kernel_rfl
theorem c19_20e : c19_20 = .seq c19_21 c19_22 := by kernel_rfl
theorem c19_21e : c19_21 = .region 6 r19_21 false := by kernel_rfl
theorem c19_22e : c19_22 = .cond (cdC c19_22) c19_23 c19_26 := by kernel_rfl
theorem c19_23e : c19_23 = .seq c19_24 c19_25 := by kernel_rfl
theorem c19_24e : c19_24 = .region 7 r19_24 false := by kernel_rfl
theorem c19_25e : c19_25 = .ret := by kernel_rfl
theorem c19_26e : c19_26 = .seq c19_27 c19_28 := by kernel_rfl
theorem c19_27e : c19_27 = .region 8 r19_27 false := by kernel_rfl
theorem c19_28e : c19_28 = .cond (cdC c19_28) c19_29 c19_32 := by kernel_rfl
theorem c19_29e : c19_29 = .seq c19_30 c19_31 := by kernel_rfl
theorem c19_30e : c19_30 = .region 9 r19_30 false := by kernel_rfl
theorem c19_31e : c19_31 = .ret := by kernel_rfl
theorem c19_32e : c19_32 = .skip := by kernel_rfl
theorem c19_33e : c19_33 = .seq c19_34 c19_35 := by kernel_rfl
theorem c19_34e : c19_34 = .region 10 r19_34 false := by kernel_rfl
theorem c19_35e : c19_35 = .ret := by kernel_rfl
noncomputable def tontineref16_May.R (A_2 : Option Addr) (c_3 : Nat) : Pst Bool where
  ε := Unit
  v := fun r x => .bool r
  H := fun r x => []
  B := fun r x => []
noncomputable def tontineref16_May.cx (A_2 : Option Addr) (c_3 : Nat) (w0 : World) (S0 : Fam) : Cx Bool := ⟨Try.prog, 19, Try.f19, 63, w0, S0, [], 0, tontineref16_May.R A_2 c_3⟩
theorem tontineref16_May_j1_ok (n : Nat) (A_2 : Option Addr) (c_3 : Nat) (w0 : World) (S0 : Fam) (b_25 : Bool) :
    GoO (tontineref16_May.cx A_2 c_3 w0 S0) [(2, .bool b_25)] [] [] [.code c19_31, .inBlock 0, .code c19_33] (tontineref16_May.j1 n b_25) := by
  unfold tontineref16_May.j1
  exact GoO.ret' (h := c19_31e) (hs := []) (ps := []) (hk := []) (bk := []) Try.func19 () (by kernel_rfl) trivial (by kernel_rfl) (by kernel_rfl)
theorem tontineref16_May_j0_ok (n : Nat) (c_1 : T_api_Command) (A_2 : Option Addr) (c_3 : Nat) (b_4 : Nat) (w0 : World) (S0 : Fam) (b_7 : Bool) :
    GoO (tontineref16_May.cx A_2 c_3 w0 S0) [(1, .pointer (some ⟨b_4, 0, none⟩)), (4, .int .i64 c_1.Kind), (5, .bool b_7)] [⟨40, b_4, [.int .i64 c_1.Kind, .int .u64 c_1.Session, .int .u64 c_1.Seq, .int .u64 c_1.Saga, .slice A_2 c_1.Steps.length c_3, .int .i64 c_1.Step, .bool c_1.Back, .int .i64 c_1.Try, .bool c_1.Ok, .int .u64 c_1.Now]⟩] [Rd 0 kT_api_Step A_2 c_3 c_1.Steps] [.code c19_16, .inBlock 0, .code c19_33] (tontineref16_May.j0 n c_1 b_7) := by
  unfold tontineref16_May.j0
  refine GoO.ite' c19_16e (by kernel_rfl) (fun h8 => ?_) (fun h8 => ?_)
  · refine GoO.seq' c19_17e ?_
    refine GoO.region' (is := [0, 1, 2, 3, 4, 5, 6, 7, 8]) c19_18e (by kernel_rfl) ?_
    refine GoO.exec (is := [0, 1, 2, 3, 4]) (hs := [.p, .b 0, .p, .p, .p]) (rest := [5, 6, 7, 8]) (ks := [1, 13]) (env' := [(1, .pointer (some ⟨b_4, 0, none⟩)), (13, .bool ((c_1.Steps.length : Int) == 0))]) (H' := [⟨40, b_4, [.int .i64 c_1.Kind, .int .u64 c_1.Session, .int .u64 c_1.Seq, .int .u64 c_1.Saga, .slice A_2 c_1.Steps.length c_3, .int .i64 c_1.Step, .bool c_1.Back, .int .i64 c_1.Try, .bool c_1.Ok, .int .u64 c_1.Now]⟩]) (ps := [b_4 = b_4]) (by kernel_rfl) (And.intro rfl trivial) ?_
    refine GoO.bsplit (t := 13) (by kernel_rfl) (fun h9 => ?_) (fun h9 => ?_)
    · refine GoO.exec (is := [5]) (hs := [.b 0]) (rest := [6, 7, 8]) (ks := [13, 14]) (env' := [(13, .bool true), (14, .agg ⟨[.int .i64 c_1.Kind, .int .u64 c_1.Session, .int .u64 c_1.Seq, .int .u64 c_1.Saga, .slice A_2 c_1.Steps.length c_3, .int .i64 c_1.Step, .bool c_1.Back, .int .i64 c_1.Try, .bool c_1.Ok, .int .u64 c_1.Now]⟩)]) (H' := [⟨40, b_4, [.int .i64 c_1.Kind, .int .u64 c_1.Session, .int .u64 c_1.Seq, .int .u64 c_1.Saga, .slice A_2 c_1.Steps.length c_3, .int .i64 c_1.Step, .bool c_1.Back, .int .i64 c_1.Try, .bool c_1.Ok, .int .u64 c_1.Now]⟩]) (ps := [b_4 = b_4]) (by kernel_rfl) (And.intro rfl trivial) ?_
      refine OpTo.go (GoO.call rfl (by kernel_rfl) (by kernel_rfl) (tontineref16_bare_ok n c_1 A_2 c_3) [[0]] [] [] [(0, 0)] (hks := [0]) (bks := [0]) (by kernel_rfl) (by kernel_rfl) (by kernel_rfl) (.inl rfl) rfl rfl (by kernel_rfl) (by kernel_rfl) _ (fun _ _ => rfl) _ _ (fun _ _ => rfl) (fun _ _ => rfl) (fun _ _ => by kernel_rfl) (fun _ _ => by kernel_rfl) (fun r_10 x_11 => ?_))
      refine GoO.shape (env' := [(13, .bool true), (14, .agg ⟨[.int .i64 c_1.Kind, .int .u64 c_1.Session, .int .u64 c_1.Seq, .int .u64 c_1.Saga, .slice A_2 c_1.Steps.length c_3, .int .i64 c_1.Step, .bool c_1.Back, .int .i64 c_1.Try, .bool c_1.Ok, .int .u64 c_1.Now]⟩), (15, .bool r_10)]) (H' := [⟨40, b_4, [.int .i64 c_1.Kind, .int .u64 c_1.Session, .int .u64 c_1.Seq, .int .u64 c_1.Saga, .slice A_2 c_1.Steps.length c_3, .int .i64 c_1.Step, .bool c_1.Back, .int .i64 c_1.Try, .bool c_1.Ok, .int .u64 c_1.Now]⟩]) (B' := [Rd 0 kT_api_Step A_2 c_3 c_1.Steps]) (ks := [13, 14, 15]) (by kernel_rfl) (by kernel_rfl) (by kernel_rfl) ?_
      refine GoO.exec (is := [7, 8]) (hs := [.p, .p]) (rest := []) (ks := [2]) (env' := [(2, .bool r_10)]) (H' := [⟨40, b_4, [.int .i64 c_1.Kind, .int .u64 c_1.Session, .int .u64 c_1.Seq, .int .u64 c_1.Saga, .slice A_2 c_1.Steps.length c_3, .int .i64 c_1.Step, .bool c_1.Back, .int .i64 c_1.Try, .bool c_1.Ok, .int .u64 c_1.Now]⟩]) (ps := []) (by kernel_rfl) trivial ?_
      refine GoO.regionEnd ?_
      exact GoO.ret' (h := c19_19e) (hs := []) (ps := []) (hk := []) (bk := []) Try.func19 () (by kernel_rfl) trivial (by kernel_rfl) (by kernel_rfl)
    · refine GoO.exec (is := [5, 6, 7, 8]) (hs := [.p, .p, .p, .p]) (rest := []) (ks := [2]) (env' := [(2, .bool false)]) (H' := [⟨40, b_4, [.int .i64 c_1.Kind, .int .u64 c_1.Session, .int .u64 c_1.Seq, .int .u64 c_1.Saga, .slice A_2 c_1.Steps.length c_3, .int .i64 c_1.Step, .bool c_1.Back, .int .i64 c_1.Try, .bool c_1.Ok, .int .u64 c_1.Now]⟩]) (ps := []) (by kernel_rfl) trivial ?_
      refine GoO.regionEnd ?_
      exact GoO.ret' (h := c19_19e) (hs := []) (ps := []) (hk := []) (bk := []) Try.func19 () (by kernel_rfl) trivial (by kernel_rfl) (by kernel_rfl)
  · refine GoO.seq' c19_20e ?_
    refine GoO.region' (is := [0, 1]) c19_21e (by kernel_rfl) ?_
    refine GoO.exec (is := [0, 1]) (hs := [.p, .p]) (rest := []) (ks := [1, 4, 17]) (env' := [(1, .pointer (some ⟨b_4, 0, none⟩)), (4, .int .i64 c_1.Kind), (17, .bool (c_1.Kind == 2))]) (H' := [⟨40, b_4, [.int .i64 c_1.Kind, .int .u64 c_1.Session, .int .u64 c_1.Seq, .int .u64 c_1.Saga, .slice A_2 c_1.Steps.length c_3, .int .i64 c_1.Step, .bool c_1.Back, .int .i64 c_1.Try, .bool c_1.Ok, .int .u64 c_1.Now]⟩]) (ps := []) (by kernel_rfl) trivial ?_
    refine GoO.regionEnd ?_
    refine GoO.ite' c19_22e (by kernel_rfl) (fun h12 => ?_) (fun h12 => ?_)
    · refine GoO.seq' c19_23e ?_
      refine GoO.region' (is := [0, 1, 2, 3, 4, 5, 6, 7, 8]) c19_24e (by kernel_rfl) ?_
      refine GoO.exec (is := [0, 1]) (hs := [.p, .b 0]) (rest := [2, 3, 4, 5, 6, 7, 8]) (ks := [1, 20]) (env' := [(1, .pointer (some ⟨b_4, 0, none⟩)), (20, .slice A_2 c_1.Steps.length c_3)]) (H' := [⟨40, b_4, [.int .i64 c_1.Kind, .int .u64 c_1.Session, .int .u64 c_1.Seq, .int .u64 c_1.Saga, .slice A_2 c_1.Steps.length c_3, .int .i64 c_1.Step, .bool c_1.Back, .int .i64 c_1.Try, .bool c_1.Ok, .int .u64 c_1.Now]⟩]) (ps := [b_4 = b_4]) (by kernel_rfl) (And.intro rfl trivial) ?_
      refine OpTo.go (GoO.call rfl (by kernel_rfl) (by kernel_rfl) (tontineref13_Check_ok n c_1.Steps A_2 c_3) [[0]] [] [] [(0, 0)] (hks := [0]) (bks := [0]) (by kernel_rfl) (by kernel_rfl) (by kernel_rfl) (.inl rfl) rfl rfl (by kernel_rfl) (by kernel_rfl) _ (fun _ _ => rfl) _ _ (fun _ _ => rfl) (fun _ _ => rfl) (fun _ _ => by kernel_rfl) (fun _ _ => by kernel_rfl) (fun r_13 x_17 => ?_))
      refine GoO.shape (env' := [(1, .pointer (some ⟨b_4, 0, none⟩)), (20, .slice A_2 c_1.Steps.length c_3), (21, .int .i64 r_13)]) (H' := [⟨40, b_4, [.int .i64 c_1.Kind, .int .u64 c_1.Session, .int .u64 c_1.Seq, .int .u64 c_1.Saga, .slice A_2 c_1.Steps.length c_3, .int .i64 c_1.Step, .bool c_1.Back, .int .i64 c_1.Try, .bool c_1.Ok, .int .u64 c_1.Now]⟩]) (B' := [Rd 0 kT_api_Step A_2 c_3 c_1.Steps]) (ks := [1, 20, 21]) (by kernel_rfl) (by kernel_rfl) (by kernel_rfl) ?_
      refine GoO.exec (is := [3, 4]) (hs := [.p, .p]) (rest := [5, 6, 7, 8]) (ks := [1, 23]) (env' := [(1, .pointer (some ⟨b_4, 0, none⟩)), (23, .bool (r_13 == 0))]) (H' := [⟨40, b_4, [.int .i64 c_1.Kind, .int .u64 c_1.Session, .int .u64 c_1.Seq, .int .u64 c_1.Saga, .slice A_2 c_1.Steps.length c_3, .int .i64 c_1.Step, .bool c_1.Back, .int .i64 c_1.Try, .bool c_1.Ok, .int .u64 c_1.Now]⟩]) (ps := []) (by kernel_rfl) trivial ?_
      refine GoO.bsplit (t := 23) (by kernel_rfl) (fun h14 => ?_) (fun h14 => ?_)
      · refine GoO.exec (is := [5]) (hs := [.b 0]) (rest := [6, 7, 8]) (ks := [23, 24]) (env' := [(23, .bool true), (24, .agg ⟨[.int .i64 c_1.Kind, .int .u64 c_1.Session, .int .u64 c_1.Seq, .int .u64 c_1.Saga, .slice A_2 c_1.Steps.length c_3, .int .i64 c_1.Step, .bool c_1.Back, .int .i64 c_1.Try, .bool c_1.Ok, .int .u64 c_1.Now]⟩)]) (H' := [⟨40, b_4, [.int .i64 c_1.Kind, .int .u64 c_1.Session, .int .u64 c_1.Seq, .int .u64 c_1.Saga, .slice A_2 c_1.Steps.length c_3, .int .i64 c_1.Step, .bool c_1.Back, .int .i64 c_1.Try, .bool c_1.Ok, .int .u64 c_1.Now]⟩]) (ps := [b_4 = b_4]) (by kernel_rfl) (And.intro rfl trivial) ?_
        refine OpTo.go (GoO.call rfl (by kernel_rfl) (by kernel_rfl) (tontineref16_bare_ok n c_1 A_2 c_3) [[0]] [] [] [(0, 0)] (hks := [0]) (bks := [0]) (by kernel_rfl) (by kernel_rfl) (by kernel_rfl) (.inl rfl) rfl rfl (by kernel_rfl) (by kernel_rfl) _ (fun _ _ => rfl) _ _ (fun _ _ => rfl) (fun _ _ => rfl) (fun _ _ => by kernel_rfl) (fun _ _ => by kernel_rfl) (fun r_15 x_16 => ?_))
        refine GoO.shape (env' := [(23, .bool true), (24, .agg ⟨[.int .i64 c_1.Kind, .int .u64 c_1.Session, .int .u64 c_1.Seq, .int .u64 c_1.Saga, .slice A_2 c_1.Steps.length c_3, .int .i64 c_1.Step, .bool c_1.Back, .int .i64 c_1.Try, .bool c_1.Ok, .int .u64 c_1.Now]⟩), (25, .bool r_15)]) (H' := [⟨40, b_4, [.int .i64 c_1.Kind, .int .u64 c_1.Session, .int .u64 c_1.Seq, .int .u64 c_1.Saga, .slice A_2 c_1.Steps.length c_3, .int .i64 c_1.Step, .bool c_1.Back, .int .i64 c_1.Try, .bool c_1.Ok, .int .u64 c_1.Now]⟩]) (B' := [Rd 0 kT_api_Step A_2 c_3 c_1.Steps]) (ks := [23, 24, 25]) (by kernel_rfl) (by kernel_rfl) (by kernel_rfl) ?_
        refine GoO.exec (is := [7, 8]) (hs := [.p, .p]) (rest := []) (ks := [2]) (env' := [(2, .bool r_15)]) (H' := [⟨40, b_4, [.int .i64 c_1.Kind, .int .u64 c_1.Session, .int .u64 c_1.Seq, .int .u64 c_1.Saga, .slice A_2 c_1.Steps.length c_3, .int .i64 c_1.Step, .bool c_1.Back, .int .i64 c_1.Try, .bool c_1.Ok, .int .u64 c_1.Now]⟩]) (ps := []) (by kernel_rfl) trivial ?_
        refine GoO.regionEnd ?_
        exact GoO.ret' (h := c19_25e) (hs := []) (ps := []) (hk := []) (bk := []) Try.func19 () (by kernel_rfl) trivial (by kernel_rfl) (by kernel_rfl)
      · refine GoO.exec (is := [5, 6, 7, 8]) (hs := [.p, .p, .p, .p]) (rest := []) (ks := [2]) (env' := [(2, .bool false)]) (H' := [⟨40, b_4, [.int .i64 c_1.Kind, .int .u64 c_1.Session, .int .u64 c_1.Seq, .int .u64 c_1.Saga, .slice A_2 c_1.Steps.length c_3, .int .i64 c_1.Step, .bool c_1.Back, .int .i64 c_1.Try, .bool c_1.Ok, .int .u64 c_1.Now]⟩]) (ps := []) (by kernel_rfl) trivial ?_
        refine GoO.regionEnd ?_
        exact GoO.ret' (h := c19_25e) (hs := []) (ps := []) (hk := []) (bk := []) Try.func19 () (by kernel_rfl) trivial (by kernel_rfl) (by kernel_rfl)
    · refine GoO.seq' c19_26e ?_
      refine GoO.region' (is := [0, 1]) c19_27e (by kernel_rfl) ?_
      refine GoO.exec (is := [0, 1]) (hs := [.p, .p]) (rest := []) (ks := [1, 27]) (env' := [(1, .pointer (some ⟨b_4, 0, none⟩)), (27, .bool (c_1.Kind == 4))]) (H' := [⟨40, b_4, [.int .i64 c_1.Kind, .int .u64 c_1.Session, .int .u64 c_1.Seq, .int .u64 c_1.Saga, .slice A_2 c_1.Steps.length c_3, .int .i64 c_1.Step, .bool c_1.Back, .int .i64 c_1.Try, .bool c_1.Ok, .int .u64 c_1.Now]⟩]) (ps := []) (by kernel_rfl) trivial ?_
      refine GoO.regionEnd ?_
      refine GoO.ite' c19_28e (by kernel_rfl) (fun h18 => ?_) (fun h18 => ?_)
      · refine GoO.seq' c19_29e ?_
        refine GoO.region' (is := [0, 1, 2, 3, 4, 5, 6, 7, 8, 9, 10, 11, 12, 13, 14, 15, 16, 17, 18, 19, 20, 21, 22, 23, 24, 25, 26, 27, 28, 29, 30, 31, 32, 33, 34]) c19_30e (by kernel_rfl) ?_
        refine GoO.exec (is := [0, 1, 2, 3, 4]) (hs := [.p, .b 0, .p, .p, .p]) (rest := [5, 6, 7, 8, 9, 10, 11, 12, 13, 14, 15, 16, 17, 18, 19, 20, 21, 22, 23, 24, 25, 26, 27, 28, 29, 30, 31, 32, 33, 34]) (ks := [1, 33]) (env' := [(1, .pointer (some ⟨b_4, 0, none⟩)), (33, .bool ((c_1.Steps.length : Int) == 0))]) (H' := [⟨40, b_4, [.int .i64 c_1.Kind, .int .u64 c_1.Session, .int .u64 c_1.Seq, .int .u64 c_1.Saga, .slice A_2 c_1.Steps.length c_3, .int .i64 c_1.Step, .bool c_1.Back, .int .i64 c_1.Try, .bool c_1.Ok, .int .u64 c_1.Now]⟩]) (ps := [b_4 = b_4]) (by kernel_rfl) (And.intro rfl trivial) ?_
        refine GoO.bsplit (t := 33) (by kernel_rfl) (fun h19 => ?_) (fun h19 => ?_)
        · refine GoO.exec (is := [5, 6, 7, 8, 9]) (hs := [.p, .b 0, .p, .p, .p]) (rest := [10, 11, 12, 13, 14, 15, 16, 17, 18, 19, 20, 21, 22, 23, 24, 25, 26, 27, 28, 29, 30, 31, 32, 33, 34]) (ks := [1, 38]) (env' := [(1, .pointer (some ⟨b_4, 0, none⟩)), (38, .bool (decide (c_1.Step ≥ 0)))]) (H' := [⟨40, b_4, [.int .i64 c_1.Kind, .int .u64 c_1.Session, .int .u64 c_1.Seq, .int .u64 c_1.Saga, .slice A_2 c_1.Steps.length c_3, .int .i64 c_1.Step, .bool c_1.Back, .int .i64 c_1.Try, .bool c_1.Ok, .int .u64 c_1.Now]⟩]) (ps := [b_4 = b_4]) (by kernel_rfl) (And.intro rfl trivial) ?_
          refine GoO.bsplit (t := 38) (by kernel_rfl) (fun h20 => ?_) (fun h20 => ?_)
          · refine GoO.exec (is := [10, 11, 12, 13, 14]) (hs := [.p, .b 0, .p, .p, .p]) (rest := [15, 16, 17, 18, 19, 20, 21, 22, 23, 24, 25, 26, 27, 28, 29, 30, 31, 32, 33, 34]) (ks := [1, 43]) (env' := [(1, .pointer (some ⟨b_4, 0, none⟩)), (43, .bool (decide (c_1.Step ≤ 63)))]) (H' := [⟨40, b_4, [.int .i64 c_1.Kind, .int .u64 c_1.Session, .int .u64 c_1.Seq, .int .u64 c_1.Saga, .slice A_2 c_1.Steps.length c_3, .int .i64 c_1.Step, .bool c_1.Back, .int .i64 c_1.Try, .bool c_1.Ok, .int .u64 c_1.Now]⟩]) (ps := [b_4 = b_4]) (by kernel_rfl) (And.intro rfl trivial) ?_
            refine GoO.bsplit (t := 43) (by kernel_rfl) (fun h21 => ?_) (fun h21 => ?_)
            · refine GoO.exec (is := [15, 16, 17, 18, 19]) (hs := [.p, .b 0, .p, .p, .p]) (rest := [20, 21, 22, 23, 24, 25, 26, 27, 28, 29, 30, 31, 32, 33, 34]) (ks := [1, 48]) (env' := [(1, .pointer (some ⟨b_4, 0, none⟩)), (48, .bool (decide (c_1.Try ≥ 0)))]) (H' := [⟨40, b_4, [.int .i64 c_1.Kind, .int .u64 c_1.Session, .int .u64 c_1.Seq, .int .u64 c_1.Saga, .slice A_2 c_1.Steps.length c_3, .int .i64 c_1.Step, .bool c_1.Back, .int .i64 c_1.Try, .bool c_1.Ok, .int .u64 c_1.Now]⟩]) (ps := [b_4 = b_4]) (by kernel_rfl) (And.intro rfl trivial) ?_
              refine GoO.bsplit (t := 48) (by kernel_rfl) (fun h22 => ?_) (fun h22 => ?_)
              · refine GoO.exec (is := [20, 21, 22, 23, 24]) (hs := [.p, .b 0, .p, .p, .p]) (rest := [25, 26, 27, 28, 29, 30, 31, 32, 33, 34]) (ks := [1, 53]) (env' := [(1, .pointer (some ⟨b_4, 0, none⟩)), (53, .bool (decide (c_1.Try ≤ 8)))]) (H' := [⟨40, b_4, [.int .i64 c_1.Kind, .int .u64 c_1.Session, .int .u64 c_1.Seq, .int .u64 c_1.Saga, .slice A_2 c_1.Steps.length c_3, .int .i64 c_1.Step, .bool c_1.Back, .int .i64 c_1.Try, .bool c_1.Ok, .int .u64 c_1.Now]⟩]) (ps := [b_4 = b_4]) (by kernel_rfl) (And.intro rfl trivial) ?_
                refine GoO.bsplit (t := 53) (by kernel_rfl) (fun h23 => ?_) (fun h23 => ?_)
                · refine GoO.exec (is := [25, 26, 27, 28, 29]) (hs := [.p, .b 0, .p, .p, .p]) (rest := [30, 31, 32, 33, 34]) (ks := [1, 58]) (env' := [(1, .pointer (some ⟨b_4, 0, none⟩)), (58, .bool (c_1.Session == 0))]) (H' := [⟨40, b_4, [.int .i64 c_1.Kind, .int .u64 c_1.Session, .int .u64 c_1.Seq, .int .u64 c_1.Saga, .slice A_2 c_1.Steps.length c_3, .int .i64 c_1.Step, .bool c_1.Back, .int .i64 c_1.Try, .bool c_1.Ok, .int .u64 c_1.Now]⟩]) (ps := [b_4 = b_4]) (by kernel_rfl) (And.intro rfl trivial) ?_
                  refine GoO.bsplit (t := 58) (by kernel_rfl) (fun h24 => ?_) (fun h24 => ?_)
                  · refine GoO.exec (is := [30, 31, 32, 33, 34]) (hs := [.p, .b 0, .p, .p, .p]) (rest := []) (ks := [2]) (env' := [(2, .bool (c_1.Seq == 0))]) (H' := [⟨40, b_4, [.int .i64 c_1.Kind, .int .u64 c_1.Session, .int .u64 c_1.Seq, .int .u64 c_1.Saga, .slice A_2 c_1.Steps.length c_3, .int .i64 c_1.Step, .bool c_1.Back, .int .i64 c_1.Try, .bool c_1.Ok, .int .u64 c_1.Now]⟩]) (ps := [b_4 = b_4]) (by kernel_rfl) (And.intro rfl trivial) ?_
                    refine GoO.regionEnd ?_
                    exact GoO.sub (ks := [2]) (hk := []) (bk := []) (by kernel_rfl) (by kernel_rfl) (by kernel_rfl) (tontineref16_May_j1_ok n A_2 c_3 w0 S0 (c_1.Seq == 0))
                  · refine GoO.exec (is := [30, 31, 32, 33, 34]) (hs := [.p, .p, .p, .p, .p]) (rest := []) (ks := [2]) (env' := [(2, .bool false)]) (H' := [⟨40, b_4, [.int .i64 c_1.Kind, .int .u64 c_1.Session, .int .u64 c_1.Seq, .int .u64 c_1.Saga, .slice A_2 c_1.Steps.length c_3, .int .i64 c_1.Step, .bool c_1.Back, .int .i64 c_1.Try, .bool c_1.Ok, .int .u64 c_1.Now]⟩]) (ps := []) (by kernel_rfl) trivial ?_
                    refine GoO.regionEnd ?_
                    exact GoO.sub (ks := [2]) (hk := []) (bk := []) (by kernel_rfl) (by kernel_rfl) (by kernel_rfl) (tontineref16_May_j1_ok n A_2 c_3 w0 S0 false)
                · refine GoO.exec (is := [25, 26, 27, 28, 29, 30, 31, 32, 33, 34]) (hs := [.p, .p, .p, .p, .p, .p, .p, .p, .p, .p]) (rest := []) (ks := [2]) (env' := [(2, .bool false)]) (H' := [⟨40, b_4, [.int .i64 c_1.Kind, .int .u64 c_1.Session, .int .u64 c_1.Seq, .int .u64 c_1.Saga, .slice A_2 c_1.Steps.length c_3, .int .i64 c_1.Step, .bool c_1.Back, .int .i64 c_1.Try, .bool c_1.Ok, .int .u64 c_1.Now]⟩]) (ps := []) (by kernel_rfl) trivial ?_
                  refine GoO.regionEnd ?_
                  exact GoO.sub (ks := [2]) (hk := []) (bk := []) (by kernel_rfl) (by kernel_rfl) (by kernel_rfl) (tontineref16_May_j1_ok n A_2 c_3 w0 S0 false)
              · refine GoO.exec (is := [20, 21, 22, 23, 24, 25, 26, 27, 28, 29, 30, 31, 32, 33, 34]) (hs := [.p, .p, .p, .p, .p, .p, .p, .p, .p, .p, .p, .p, .p, .p, .p]) (rest := []) (ks := [2]) (env' := [(2, .bool false)]) (H' := [⟨40, b_4, [.int .i64 c_1.Kind, .int .u64 c_1.Session, .int .u64 c_1.Seq, .int .u64 c_1.Saga, .slice A_2 c_1.Steps.length c_3, .int .i64 c_1.Step, .bool c_1.Back, .int .i64 c_1.Try, .bool c_1.Ok, .int .u64 c_1.Now]⟩]) (ps := []) (by kernel_rfl) trivial ?_
                refine GoO.regionEnd ?_
                exact GoO.sub (ks := [2]) (hk := []) (bk := []) (by kernel_rfl) (by kernel_rfl) (by kernel_rfl) (tontineref16_May_j1_ok n A_2 c_3 w0 S0 false)
            · refine GoO.exec (is := [15, 16, 17, 18, 19, 20, 21, 22, 23, 24, 25, 26, 27, 28, 29, 30, 31, 32, 33, 34]) (hs := [.p, .p, .p, .p, .p, .p, .p, .p, .p, .p, .p, .p, .p, .p, .p, .p, .p, .p, .p, .p]) (rest := []) (ks := [2]) (env' := [(2, .bool false)]) (H' := [⟨40, b_4, [.int .i64 c_1.Kind, .int .u64 c_1.Session, .int .u64 c_1.Seq, .int .u64 c_1.Saga, .slice A_2 c_1.Steps.length c_3, .int .i64 c_1.Step, .bool c_1.Back, .int .i64 c_1.Try, .bool c_1.Ok, .int .u64 c_1.Now]⟩]) (ps := []) (by kernel_rfl) trivial ?_
              refine GoO.regionEnd ?_
              exact GoO.sub (ks := [2]) (hk := []) (bk := []) (by kernel_rfl) (by kernel_rfl) (by kernel_rfl) (tontineref16_May_j1_ok n A_2 c_3 w0 S0 false)
          · refine GoO.exec (is := [10, 11, 12, 13, 14, 15, 16, 17, 18, 19, 20, 21, 22, 23, 24, 25, 26, 27, 28, 29, 30, 31, 32, 33, 34]) (hs := [.p, .p, .p, .p, .p, .p, .p, .p, .p, .p, .p, .p, .p, .p, .p, .p, .p, .p, .p, .p, .p, .p, .p, .p, .p]) (rest := []) (ks := [2]) (env' := [(2, .bool false)]) (H' := [⟨40, b_4, [.int .i64 c_1.Kind, .int .u64 c_1.Session, .int .u64 c_1.Seq, .int .u64 c_1.Saga, .slice A_2 c_1.Steps.length c_3, .int .i64 c_1.Step, .bool c_1.Back, .int .i64 c_1.Try, .bool c_1.Ok, .int .u64 c_1.Now]⟩]) (ps := []) (by kernel_rfl) trivial ?_
            refine GoO.regionEnd ?_
            exact GoO.sub (ks := [2]) (hk := []) (bk := []) (by kernel_rfl) (by kernel_rfl) (by kernel_rfl) (tontineref16_May_j1_ok n A_2 c_3 w0 S0 false)
        · refine GoO.exec (is := [5, 6, 7, 8, 9, 10, 11, 12, 13, 14, 15, 16, 17, 18, 19, 20, 21, 22, 23, 24, 25, 26, 27, 28, 29, 30, 31, 32, 33, 34]) (hs := [.p, .p, .p, .p, .p, .p, .p, .p, .p, .p, .p, .p, .p, .p, .p, .p, .p, .p, .p, .p, .p, .p, .p, .p, .p, .p, .p, .p, .p, .p]) (rest := []) (ks := [2]) (env' := [(2, .bool false)]) (H' := [⟨40, b_4, [.int .i64 c_1.Kind, .int .u64 c_1.Session, .int .u64 c_1.Seq, .int .u64 c_1.Saga, .slice A_2 c_1.Steps.length c_3, .int .i64 c_1.Step, .bool c_1.Back, .int .i64 c_1.Try, .bool c_1.Ok, .int .u64 c_1.Now]⟩]) (ps := []) (by kernel_rfl) trivial ?_
          refine GoO.regionEnd ?_
          exact GoO.sub (ks := [2]) (hk := []) (bk := []) (by kernel_rfl) (by kernel_rfl) (by kernel_rfl) (tontineref16_May_j1_ok n A_2 c_3 w0 S0 false)
      · refine GoO.skip' c19_32e ?_
        refine GoO.inBlock ?_
        refine GoO.seq' c19_33e ?_
        refine GoO.region' (is := [0]) c19_34e (by kernel_rfl) ?_
        refine GoO.exec (is := [0]) (hs := [.p]) (rest := []) (ks := [2]) (env' := [(2, .bool false)]) (H' := [⟨40, b_4, [.int .i64 c_1.Kind, .int .u64 c_1.Session, .int .u64 c_1.Seq, .int .u64 c_1.Saga, .slice A_2 c_1.Steps.length c_3, .int .i64 c_1.Step, .bool c_1.Back, .int .i64 c_1.Try, .bool c_1.Ok, .int .u64 c_1.Now]⟩]) (ps := []) (by kernel_rfl) trivial ?_
        refine GoO.regionEnd ?_
        exact GoO.ret' (h := c19_35e) (hs := []) (ps := []) (hk := []) (bk := []) Try.func19 () (by kernel_rfl) trivial (by kernel_rfl) (by kernel_rfl)
theorem tontineref16_May_ok (n : Nat) (c_1 : T_api_Command) (A_2 : Option Addr) (c_3 : Nat) :
    Meets Try.prog 19 [.agg ⟨[.int .i64 c_1.Kind, .int .u64 c_1.Session, .int .u64 c_1.Seq, .int .u64 c_1.Saga, .slice A_2 c_1.Steps.length c_3, .int .i64 c_1.Step, .bool c_1.Back, .int .i64 c_1.Try, .bool c_1.Ok, .int .u64 c_1.Now]⟩] 0 [] [] [Rd 0 kT_api_Step A_2 c_3 c_1.Steps] (tontineref16_May.f n c_1) (tontineref16_May.R A_2 c_3) := by
  refine Meets.of (c := c19_0) (n := 63) Try.func19 (by kernel_rfl) (by kernel_rfl) (by kernel_rfl) fun w0 S0 => ?_
  unfold tontineref16_May.f
  show GoO (tontineref16_May.cx A_2 c_3 w0 S0) [(0, .agg ⟨[.int .i64 c_1.Kind, .int .u64 c_1.Session, .int .u64 c_1.Seq, .int .u64 c_1.Saga, .slice A_2 c_1.Steps.length c_3, .int .i64 c_1.Step, .bool c_1.Back, .int .i64 c_1.Try, .bool c_1.Ok, .int .u64 c_1.Now]⟩)] [] [Rd 0 kT_api_Step A_2 c_3 c_1.Steps] [.code c19_0] _
  refine GoO.seq' c19_0e ?_
  refine GoO.region' (is := [0, 1]) c19_1e (by kernel_rfl) ?_
  refine OpTo.go (GoO.new rfl 40 (cs := [.int .i64 c_1.Kind, .int .u64 c_1.Session, .int .u64 c_1.Seq, .int .u64 c_1.Saga, .slice A_2 c_1.Steps.length c_3, .int .i64 c_1.Step, .bool c_1.Back, .int .i64 c_1.Try, .bool c_1.Ok, .int .u64 c_1.Now]) (by kernel_rfl) _ (fun _ => rfl) (fun b_4 => ?_))
  refine GoO.exec (is := [1]) (hs := [.p]) (rest := []) (ks := [1]) (env' := [(1, .pointer (some ⟨b_4, 0, none⟩))]) (H' := [⟨40, b_4, [.int .i64 c_1.Kind, .int .u64 c_1.Session, .int .u64 c_1.Seq, .int .u64 c_1.Saga, .slice A_2 c_1.Steps.length c_3, .int .i64 c_1.Step, .bool c_1.Back, .int .i64 c_1.Try, .bool c_1.Ok, .int .u64 c_1.Now]⟩]) (ps := []) (by kernel_rfl) trivial ?_
  refine GoO.regionEnd ?_
  refine GoO.seq' c19_2e ?_
  refine GoO.seq' c19_3e ?_
  refine GoO.region' (is := [0, 1]) c19_4e (by kernel_rfl) ?_
  refine GoO.exec (is := [0, 1]) (hs := [.p, .b 0]) (rest := []) (ks := [1, 4]) (env' := [(1, .pointer (some ⟨b_4, 0, none⟩)), (4, .int .i64 c_1.Kind)]) (H' := [⟨40, b_4, [.int .i64 c_1.Kind, .int .u64 c_1.Session, .int .u64 c_1.Seq, .int .u64 c_1.Saga, .slice A_2 c_1.Steps.length c_3, .int .i64 c_1.Step, .bool c_1.Back, .int .i64 c_1.Try, .bool c_1.Ok, .int .u64 c_1.Now]⟩]) (ps := [b_4 = b_4]) (by kernel_rfl) (And.intro rfl trivial) ?_
  refine GoO.regionEnd ?_
  refine GoO.block' c19_5e ?_
  refine GoO.seq' c19_6e ?_
  refine GoO.seq' c19_7e ?_
  refine GoO.region' (is := [0, 1]) c19_8e (by kernel_rfl) ?_
  refine GoO.exec (is := [0, 1]) (hs := [.p, .p]) (rest := []) (ks := [1, 4, 5]) (env' := [(1, .pointer (some ⟨b_4, 0, none⟩)), (4, .int .i64 c_1.Kind), (5, .bool (c_1.Kind == 1))]) (H' := [⟨40, b_4, [.int .i64 c_1.Kind, .int .u64 c_1.Session, .int .u64 c_1.Seq, .int .u64 c_1.Saga, .slice A_2 c_1.Steps.length c_3, .int .i64 c_1.Step, .bool c_1.Back, .int .i64 c_1.Try, .bool c_1.Ok, .int .u64 c_1.Now]⟩]) (ps := []) (by kernel_rfl) trivial ?_
  refine GoO.regionEnd ?_
  refine GoO.ite' c19_9e (by kernel_rfl) (fun h5 => ?_) (fun h5 => ?_)
  · refine GoO.skip' c19_10e ?_
    exact GoO.sub (ks := [1, 4, 5]) (hk := [0]) (bk := [0]) (by kernel_rfl) (by kernel_rfl) (by kernel_rfl) (tontineref16_May_j0_ok n c_1 A_2 c_3 b_4 w0 S0 (c_1.Kind == 1))
  · refine GoO.seq' c19_11e ?_
    refine GoO.region' (is := [0, 1]) c19_12e (by kernel_rfl) ?_
    refine GoO.exec (is := [0, 1]) (hs := [.p, .p]) (rest := []) (ks := [1, 4, 5]) (env' := [(1, .pointer (some ⟨b_4, 0, none⟩)), (4, .int .i64 c_1.Kind), (5, .bool (c_1.Kind == 3))]) (H' := [⟨40, b_4, [.int .i64 c_1.Kind, .int .u64 c_1.Session, .int .u64 c_1.Seq, .int .u64 c_1.Saga, .slice A_2 c_1.Steps.length c_3, .int .i64 c_1.Step, .bool c_1.Back, .int .i64 c_1.Try, .bool c_1.Ok, .int .u64 c_1.Now]⟩]) (ps := []) (by kernel_rfl) trivial ?_
    refine GoO.regionEnd ?_
    refine GoO.ite' c19_13e (by kernel_rfl) (fun h6 => ?_) (fun h6 => ?_)
    · refine GoO.skip' c19_14e ?_
      exact GoO.sub (ks := [1, 4, 5]) (hk := [0]) (bk := [0]) (by kernel_rfl) (by kernel_rfl) (by kernel_rfl) (tontineref16_May_j0_ok n c_1 A_2 c_3 b_4 w0 S0 (c_1.Kind == 3))
    · refine GoO.region' (is := [0, 1]) c19_15e (by kernel_rfl) ?_
      refine GoO.exec (is := [0, 1]) (hs := [.p, .p]) (rest := []) (ks := [1, 4, 5]) (env' := [(1, .pointer (some ⟨b_4, 0, none⟩)), (4, .int .i64 c_1.Kind), (5, .bool (c_1.Kind == 5))]) (H' := [⟨40, b_4, [.int .i64 c_1.Kind, .int .u64 c_1.Session, .int .u64 c_1.Seq, .int .u64 c_1.Saga, .slice A_2 c_1.Steps.length c_3, .int .i64 c_1.Step, .bool c_1.Back, .int .i64 c_1.Try, .bool c_1.Ok, .int .u64 c_1.Now]⟩]) (ps := []) (by kernel_rfl) trivial ?_
      refine GoO.regionEnd ?_
      exact GoO.sub (ks := [1, 4, 5]) (hk := [0]) (bk := [0]) (by kernel_rfl) (by kernel_rfl) (by kernel_rfl) (tontineref16_May_j0_ok n c_1 A_2 c_3 b_4 w0 S0 (c_1.Kind == 5))

/-! tontine/tontineref03.Num -/
noncomputable def c65_0 : Code := bodyOf Try.f65
noncomputable def c65_1 : Code := cdL c65_0
noncomputable def c65_2 : Code := cdR c65_0
noncomputable def c65_3 : Code := cdL c65_2
noncomputable def c65_4 : Code := cdR c65_2
noncomputable def c65_5 : Code := cdL c65_4
noncomputable def c65_6 : Code := cdR c65_4
noncomputable def c65_7 : Code := cdL c65_6
noncomputable def c65_8 : Code := cdL c65_7
noncomputable def c65_9 : Code := cdL c65_8
noncomputable def c65_10 : Code := cdL c65_9
noncomputable def c65_11 : Code := cdL c65_10
noncomputable def c65_12 : Code := cdR c65_10
noncomputable def c65_13 : Code := cdL c65_12
noncomputable def c65_14 : Code := cdR c65_12
noncomputable def c65_15 : Code := cdR c65_9
noncomputable def c65_16 : Code := cdL c65_15
noncomputable def c65_17 : Code := cdL c65_16
noncomputable def c65_18 : Code := cdR c65_16
noncomputable def c65_19 : Code := cdL c65_18
noncomputable def c65_20 : Code := cdR c65_18
noncomputable def c65_21 : Code := cdR c65_6
noncomputable def c65_22 : Code := cdL c65_21
noncomputable def c65_23 : Code := cdR c65_21
noncomputable def r65_1 : Array Oper := cdO c65_1
noncomputable def r65_3 : Array Oper := cdO c65_3
noncomputable def r65_5 : Array Oper := cdO c65_5
noncomputable def r65_11 : Array Oper := cdO c65_11
noncomputable def r65_17 : Array Oper := cdO c65_17
noncomputable def r65_19 : Array Oper := cdO c65_19
noncomputable def r65_20 : Array Oper := cdO c65_20
noncomputable def r65_22 : Array Oper := cdO c65_22
theorem c65_0e : c65_0 = .seq c65_1 c65_2 := by kernel_rfl
theorem c65_1e : c65_1 = .region 0 r65_1 false := by kernel_rfl
theorem c65_2e : c65_2 = .seq c65_3 c65_4 := by kernel_rfl
theorem c65_3e : c65_3 = .region 1 r65_3 false := by kernel_rfl
theorem c65_4e : c65_4 = .seq c65_5 c65_6 := by kernel_rfl
theorem c65_5e : c65_5 = .region 2 r65_5 false := by kernel_rfl
theorem c65_6e : c65_6 = .seq c65_7 c65_21 := by kernel_rfl
theorem c65_7e : c65_7 = .block 0 c65_8 := by kernel_rfl
theorem c65_8e : c65_8 = .loop c65_9 := by kernel_rfl
theorem c65_9e : c65_9 = .seq c65_10 c65_15 := by kernel_rfl
theorem c65_10e : c65_10 = .seq c65_11 c65_12 := by kernel_rfl
theorem c65_11e : c65_11 = .region 3 r65_11 false := by kernel_rfl
theorem c65_12e : c65_12 = .cond (cdC c65_12) c65_13 c65_14 := by kernel_rfl
theorem c65_13e : c65_13 = .skip := by kernel_rfl
theorem c65_14e : c65_14 = .exit 0 := by kernel_rfl
theorem c65_15e : c65_15 = .block 1 c65_16 := by kernel_rfl
theorem c65_16e : c65_16 = .seq c65_17 c65_18 := by kernel_rfl
theorem c65_17e : c65_17 = .region 4 r65_17 false := by kernel_rfl
theorem c65_18e : c65_18 = .seq c65_19 c65_20 := by kernel_rfl
theorem c65_19e : c65_19 = .region 5 r65_19 false := by kernel_rfl
theorem c65_20e : c65_20 = .region 6 r65_20 false := by kernel_rfl
theorem c65_21e : c65_21 = .seq c65_22 c65_23 := by kernel_rfl
theorem c65_22e : c65_22 = .region 7 r65_22 false := by kernel_rfl
theorem c65_23e : c65_23 = .ret := by kernel_rfl
noncomputable def tontineref03_Num.R : Pst (List UInt8) where
  ε := Unit
  v := fun r x => .string (bs r)
  H := fun r x => []
  B := fun r x => []
noncomputable def tontineref03_Num.cx (w0 : World) (S0 : Fam) : Cx (List UInt8) := ⟨Try.prog, 65, Try.f65, 24, w0, S0, [], 0, tontineref03_Num.R⟩
theorem tontineref03_Num_l0_ok (n : Nat) (w0 : World) (S0 : Fam) :
    ∀ (k : Nat) (x_2 : Int) (s_3 : (List UInt8)) (n_4 : Int), GoO (tontineref03_Num.cx w0 S0) [(0, .int .u64 x_2), (3, .string (bs s_3)), (4, .int .i64 n_4)] [] [] [.code c65_9, .inLoop c65_9, .inBlock 0, .code c65_21] (tontineref03_Num.l0 n k x_2 s_3 n_4) := by
  intro k
  induction k with
  | zero => intros; rw [tontineref03_Num.l0.eq_1]; exact GoO.stop
  | succ k ih0 =>
    intro x_2 s_3 n_4
    rw [tontineref03_Num.l0.eq_2]
    refine GoO.seq' c65_9e ?_
    refine GoO.seq' c65_10e ?_
    refine GoO.region' (is := [0, 1]) c65_11e (by kernel_rfl) ?_
    refine GoO.exec (is := [0, 1]) (hs := [.p, .p]) (rest := []) (ks := [0, 3, 4, 6]) (env' := [(0, .int .u64 x_2), (3, .string (bs s_3)), (4, .int .i64 n_4), (6, .bool (decide (x_2 > 0)))]) (H' := []) (ps := []) (by kernel_rfl) trivial ?_
    refine GoO.regionEnd ?_
    refine GoO.ite' c65_12e (by kernel_rfl) (fun h5 => ?_) (fun h5 => ?_)
    · refine GoO.skip' c65_13e ?_
      refine GoO.block' c65_15e ?_
      refine GoO.seq' c65_16e ?_
      refine GoO.region' (is := [0, 1, 2, 3, 4, 5, 6, 7]) c65_17e (by kernel_rfl) ?_
      refine GoO.exec (is := [0, 1, 2]) (hs := [.p, .p, .p]) (rest := [3, 4, 5, 6, 7]) (ks := [0, 3, 4, 9]) (env' := [(0, .int .u64 x_2), (3, .string (bs s_3)), (4, .int .i64 n_4), (9, .int .u8 (wu8 (x_2.tmod 256)))]) (H' := []) (ps := [(256 : Int) ≠ 0]) (by kernel_rfl) (And.intro (by decide) trivial) ?_
      refine OpTo.go (GoO.lit (e := 5) (K := Kd.u8) rfl (by kernel_rfl) (by kernel_rfl) (cs := [.int .u8 (wu8 (x_2.tmod 256))]) (by kernel_rfl) [u8of (x_2.tmod 256)] (by kernel_rfl) (by kernel_rfl) (fun w S hB => ⟨[.int .u8 (wu8 (x_2.tmod 256))], _, rfl, congrArg (fun v => [v]) (u8cell _), rfl⟩) 40 _ (fun _ _ => rfl) (fun A_6 c_7 => ?_))
      refine OpTo.go (GoO.toStr (e := 5) (A := A_6) (c := c_7) (xs := [u8of (x_2.tmod 256)]) (j := 0) rfl (by kernel_rfl) (by kernel_rfl) (by kernel_rfl) (by kernel_rfl) rfl Reads.own rfl rfl ?_)
      refine GoO.guard (fun h8 => ?_)
      refine GoO.exec (is := [5, 6, 7]) (hs := [.p, .p, .p]) (rest := []) (ks := [0, 3, 4]) (env' := [(0, .int .u64 x_2), (3, .string (bs ([u8of (x_2.tmod 256)] ++ s_3))), (4, .int .i64 n_4)]) (H' := []) (ps := [([u8of (x_2.tmod 256)] : List UInt8).length + s_3.length ≤ i64max]) (by kernel_rfl) (And.intro h8 trivial) ?_
      refine GoO.regionEnd ?_
      refine GoO.seq' c65_18e ?_
      refine GoO.region' (is := [0, 1, 2]) c65_19e (by kernel_rfl) ?_
      refine GoO.exec (is := [0, 1, 2]) (hs := [.p, .p, .p]) (rest := []) (ks := [0, 3, 4]) (env' := [(0, .int .u64 (wu64 (x_2.tdiv 256))), (3, .string (bs ([u8of (x_2.tmod 256)] ++ s_3))), (4, .int .i64 n_4)]) (H' := []) (ps := [(256 : Int) ≠ 0]) (by kernel_rfl) (And.intro (by decide) trivial) ?_
      refine GoO.regionEnd ?_
      refine GoO.region' (is := [0, 1, 2]) c65_20e (by kernel_rfl) ?_
      refine GoO.exec (is := [0, 1, 2]) (hs := [.p, .p, .p]) (rest := []) (ks := [0, 3, 4]) (env' := [(0, .int .u64 (wu64 (x_2.tdiv 256))), (3, .string (bs ([u8of (x_2.tmod 256)] ++ s_3))), (4, .int .i64 (wi64 (n_4 + 1)))]) (H' := []) (ps := []) (by kernel_rfl) trivial ?_
      refine GoO.regionEnd ?_
      refine GoO.inBlock ?_
      refine GoO.inLoop ?_
      exact GoO.sub (ks := [0, 3, 4]) (hk := []) (bk := []) (by kernel_rfl) (by kernel_rfl) (by kernel_rfl) (ih0 (wu64 (x_2.tdiv 256)) ([u8of (x_2.tmod 256)] ++ s_3) (wi64 (n_4 + 1)))
    · refine GoO.exit' c65_14e rfl ?_
      refine GoO.seq' c65_21e ?_
      refine GoO.region' (is := [0, 1, 2, 3, 4, 5, 6]) c65_22e (by kernel_rfl) ?_
      refine GoO.exec (is := [0, 1]) (hs := [.p, .p]) (rest := [2, 3, 4, 5, 6]) (ks := [3, 19]) (env' := [(3, .string (bs s_3)), (19, .int .u8 (wu8 n_4))]) (H' := []) (ps := []) (by kernel_rfl) trivial ?_
      refine OpTo.go (GoO.lit (e := 5) (K := Kd.u8) rfl (by kernel_rfl) (by kernel_rfl) (cs := [.int .u8 (wu8 n_4)]) (by kernel_rfl) [u8of n_4] (by kernel_rfl) (by kernel_rfl) (fun w S hB => ⟨[.int .u8 (wu8 n_4)], _, rfl, congrArg (fun v => [v]) (u8cell _), rfl⟩) 41 _ (fun _ _ => rfl) (fun A_9 c_10 => ?_))
      refine OpTo.go (GoO.toStr (e := 5) (A := A_9) (c := c_10) (xs := [u8of n_4]) (j := 0) rfl (by kernel_rfl) (by kernel_rfl) (by kernel_rfl) (by kernel_rfl) rfl Reads.own rfl rfl ?_)
      refine GoO.guard (fun h11 => ?_)
      refine GoO.exec (is := [4, 5, 6]) (hs := [.p, .p, .p]) (rest := []) (ks := [2]) (env' := [(2, .string (bs ([u8of n_4] ++ s_3)))]) (H' := []) (ps := [([u8of n_4] : List UInt8).length + s_3.length ≤ i64max]) (by kernel_rfl) (And.intro h11 trivial) ?_
      refine GoO.regionEnd ?_
      exact GoO.ret' (h := c65_23e) (hs := []) (ps := []) (hk := []) (bk := []) Try.func65 () (by kernel_rfl) trivial (by kernel_rfl) (by kernel_rfl)
theorem tontineref03_Num_ok (n : Nat) (x_1 : Int) :
    Meets Try.prog 65 [.int .u64 x_1] 0 [] [] [] (tontineref03_Num.f n x_1) (tontineref03_Num.R) := by
  refine Meets.of (c := c65_0) (n := 24) Try.func65 (by kernel_rfl) (by kernel_rfl) (by kernel_rfl) fun w0 S0 => ?_
  unfold tontineref03_Num.f
  show GoO (tontineref03_Num.cx w0 S0) [(0, .int .u64 x_1)] [] [] [.code c65_0] _
  refine GoO.seq' c65_0e ?_
  refine GoO.region' (is := [0]) c65_1e (by kernel_rfl) ?_
  refine GoO.exec (is := [0]) (hs := [.p]) (rest := []) (ks := [0]) (env' := [(0, .int .u64 x_1)]) (H' := []) (ps := []) (by kernel_rfl) trivial ?_
  refine GoO.regionEnd ?_
  refine GoO.seq' c65_2e ?_
  refine GoO.region' (is := [0]) c65_3e (by kernel_rfl) ?_
  refine GoO.exec (is := [0]) (hs := [.p]) (rest := []) (ks := [0, 3]) (env' := [(0, .int .u64 x_1), (3, .string (bs []))]) (H' := []) (ps := []) (by kernel_rfl) trivial ?_
  refine GoO.regionEnd ?_
  refine GoO.seq' c65_4e ?_
  refine GoO.region' (is := [0]) c65_5e (by kernel_rfl) ?_
  refine GoO.exec (is := [0]) (hs := [.p]) (rest := []) (ks := [0, 3, 4]) (env' := [(0, .int .u64 x_1), (3, .string (bs [])), (4, .int .i64 0)]) (H' := []) (ps := []) (by kernel_rfl) trivial ?_
  refine GoO.regionEnd ?_
  refine GoO.seq' c65_6e ?_
  refine GoO.block' c65_7e ?_
  refine GoO.loop' c65_8e ?_
  exact GoO.sub (ks := [0, 3, 4]) (hk := []) (bk := []) (by kernel_rfl) (by kernel_rfl) (by kernel_rfl) (tontineref03_Num_l0_ok n w0 S0 n x_1 [] 0)

/-! tontine/tontineref16.nums -/
noncomputable def c51_0 : Code := bodyOf Try.f51
noncomputable def c51_1 : Code := cdL c51_0
noncomputable def c51_2 : Code := cdR c51_0
noncomputable def c51_3 : Code := cdL c51_2
noncomputable def c51_4 : Code := cdR c51_2
noncomputable def c51_5 : Code := cdL c51_4
noncomputable def c51_6 : Code := cdL c51_5
noncomputable def c51_7 : Code := cdR c51_5
noncomputable def c51_8 : Code := cdL c51_7
noncomputable def c51_9 : Code := cdL c51_8
noncomputable def c51_10 : Code := cdL c51_9
noncomputable def c51_11 : Code := cdL c51_10
noncomputable def c51_12 : Code := cdR c51_10
noncomputable def c51_13 : Code := cdL c51_12
noncomputable def c51_14 : Code := cdR c51_12
noncomputable def c51_15 : Code := cdR c51_9
noncomputable def c51_16 : Code := cdL c51_15
noncomputable def c51_17 : Code := cdL c51_16
noncomputable def c51_18 : Code := cdR c51_15
noncomputable def c51_19 : Code := cdR c51_4
noncomputable def c51_20 : Code := cdL c51_19
noncomputable def c51_21 : Code := cdR c51_19
noncomputable def r51_1 : Array Oper := cdO c51_1
noncomputable def r51_3 : Array Oper := cdO c51_3
noncomputable def r51_6 : Array Oper := cdO c51_6
noncomputable def r51_11 : Array Oper := cdO c51_11
noncomputable def r51_17 : Array Oper := cdO c51_17
noncomputable def r51_18 : Array Oper := cdO c51_18
noncomputable def r51_20 : Array Oper := cdO c51_20
theorem c51_0e : c51_0 = .seq c51_1 c51_2 := by kernel_rfl
theorem c51_1e : c51_1 = .region 0 r51_1 false := by kernel_rfl
theorem c51_2e : c51_2 = .seq c51_3 c51_4 := by kernel_rfl
theorem c51_3e : c51_3 = .region 1 r51_3 false := by kernel_rfl
theorem c51_4e : c51_4 = .seq c51_5 c51_19 := by kernel_rfl
theorem c51_5e : c51_5 = .seq c51_6 c51_7 := by kernel_rfl
theorem c51_6e : c51_6 = .region 2 r51_6 false := by kernel_rfl
theorem c51_7e : c51_7 = .block 0 c51_8 := by kernel_rfl
theorem c51_8e : c51_8 = .loop c51_9 := by kernel_rfl
theorem c51_9e : c51_9 = .seq c51_10 c51_15 := by kernel_rfl
theorem c51_10e : c51_10 = .seq c51_11 c51_12 := by kernel_rfl
theorem c51_11e : c51_11 = .region 3 r51_11 false := by kernel_rfl
theorem c51_12e : c51_12 = .cond (cdC c51_12) c51_13 c51_14 := by kernel_rfl
theorem c51_13e : c51_13 = .skip := by kernel_rfl
theorem c51_14e : c51_14 = .exit 0 := by kernel_rfl
theorem c51_15e : c51_15 = .seq c51_16 c51_18 := by kernel_rfl
theorem c51_16e : c51_16 = .block 1 c51_17 := by kernel_rfl
theorem c51_17e : c51_17 = .region 5 r51_17 false := by kernel_rfl
theorem c51_18e : c51_18 = .region 4 r51_18 false := by kernel_rfl
theorem c51_19e : c51_19 = .seq c51_20 c51_21 := by kernel_rfl
theorem c51_20e : c51_20 = .region 6 r51_20 false := by kernel_rfl
theorem c51_21e : c51_21 = .ret := by kernel_rfl
noncomputable def tontineref16_nums.R (A_2 : Option Addr) (c_3 : Nat) : Pst (List UInt8) where
  ε := Unit
  v := fun r x => .string (bs r)
  H := fun r x => []
  B := fun r x => []
noncomputable def tontineref16_nums.cx (A_2 : Option Addr) (c_3 : Nat) (w0 : World) (S0 : Fam) : Cx (List UInt8) := ⟨Try.prog, 51, Try.f51, 19, w0, S0, [], 0, tontineref16_nums.R A_2 c_3⟩
theorem tontineref16_nums_l0_ok (n : Nat) (l_1 : (List Int)) (A_2 : Option Addr) (c_3 : Nat) (w0 : World) (S0 : Fam) :
    ∀ (k : Nat) (s_4 : (List UInt8)) (i_5 : Int), GoO (tontineref16_nums.cx A_2 c_3 w0 S0) [(0, .slice A_2 l_1.length c_3), (3, .string (bs s_4)), (4, .int .i64 i_5)] [] [Rd 0 (Kd.int .u64) A_2 c_3 l_1] [.code c51_9, .inLoop c51_9, .inBlock 0, .code c51_19] (tontineref16_nums.l0 n l_1 k s_4 i_5) := by
  intro k
  induction k with
  | zero => intros; rw [tontineref16_nums.l0.eq_1]; exact GoO.stop
  | succ k ih0 =>
    intro s_4 i_5
    rw [tontineref16_nums.l0.eq_2]
    refine GoO.seq' c51_9e ?_
    refine GoO.seq' c51_10e ?_
    refine GoO.region' (is := [0, 1, 2, 3]) c51_11e (by kernel_rfl) ?_
    refine GoO.exec (is := [0, 1, 2, 3]) (hs := [.p, .p, .p, .p]) (rest := []) (ks := [0, 3, 4, 8]) (env' := [(0, .slice A_2 l_1.length c_3), (3, .string (bs s_4)), (4, .int .i64 i_5), (8, .bool (decide (i_5 < (l_1.length : Int))))]) (H' := []) (ps := []) (by kernel_rfl) trivial ?_
    refine GoO.regionEnd ?_
    refine GoO.ite' c51_12e (by kernel_rfl) (fun h6 => ?_) (fun h6 => ?_)
    · refine GoO.skip' c51_13e ?_
      refine GoO.seq' c51_15e ?_
      refine GoO.block' c51_16e ?_
      refine GoO.region' (is := [0, 1, 2, 3, 4, 5, 6, 7]) c51_17e (by kernel_rfl) ?_
      refine GoO.exec (is := [0, 1, 2]) (hs := [.p, .p, .p]) (rest := [3, 4, 5, 6, 7]) (ks := [0, 4, 11, 12, 13]) (env' := [(0, .slice A_2 l_1.length c_3), (4, .int .i64 i_5), (11, .string (bs s_4)), (12, .slice A_2 l_1.length c_3), (13, .int .i64 i_5)]) (H' := []) (ps := []) (by kernel_rfl) trivial ?_
      refine GoO.guard (fun h7 => ?_)
      refine OpTo.go (GoO.idx (kk := .i64) (e := 22) (K := (Kd.int .u64)) (A := A_2) (c := c_3) (xs := l_1) (iv := i_5) (j := 0) rfl (by kernel_rfl) (by kernel_rfl) (by kernel_rfl) (by kernel_rfl) rfl Reads.rd rfl h7.1 h7.2 (by decide) rfl ?_)
      refine OpTo.go (GoO.ldE' (K := (Kd.int .u64)) (A := A_2) (c := c_3) (xs := l_1) (iN := i_5.toNat) (off := 0) (j := 0) rfl (by kernel_rfl) rfl Reads.rd (idx_lt h7.1 h7.2) (by decide) (Opn.flat _ _ _ _ _) (v := fun _ => .int .u64 (rdL l_1 i_5)) (fun _ => by kernel_rfl) _ (fun _ => rfl) (fun _ => ?_))
      refine OpTo.go (GoO.call rfl (by kernel_rfl) (by kernel_rfl) (tontineref03_Num_ok n (rdL l_1 i_5)) [[0]] [] [] [] (hks := []) (bks := [0]) (by kernel_rfl) (by kernel_rfl) (by kernel_rfl) (.inl rfl) rfl rfl (by kernel_rfl) (by kernel_rfl) _ (fun _ _ => rfl) _ _ (fun _ _ => rfl) (fun _ _ => rfl) (fun _ _ => by kernel_rfl) (fun _ _ => by kernel_rfl) (fun r_8 x_10 => ?_))
      refine GoO.shape (env' := [(0, .slice A_2 l_1.length c_3), (4, .int .i64 i_5), (11, .string (bs s_4)), (12, .slice A_2 l_1.length c_3), (13, .int .i64 i_5), (14, elemP A_2 i_5.toNat 1 0), (15, .int .u64 (rdL l_1 i_5)), (16, .string (bs r_8))]) (H' := []) (B' := [Rd 0 (Kd.int .u64) A_2 c_3 l_1]) (ks := [0, 4, 11, 12, 13, 14, 15, 16]) (by kernel_rfl) (by kernel_rfl) (by kernel_rfl) ?_
      refine GoO.guard (fun h9 => ?_)
      refine GoO.exec (is := [6, 7]) (hs := [.p, .p]) (rest := []) (ks := [0, 3, 4]) (env' := [(0, .slice A_2 l_1.length c_3), (3, .string (bs (s_4 ++ r_8))), (4, .int .i64 i_5)]) (H' := []) (ps := [s_4.length + r_8.length ≤ i64max]) (by kernel_rfl) (And.intro h9 trivial) ?_
      refine GoO.regionEnd ?_
      refine GoO.inBlock ?_
      refine GoO.region' (is := [0, 1, 2]) c51_18e (by kernel_rfl) ?_
      refine GoO.exec (is := [0, 1, 2]) (hs := [.p, .p, .p]) (rest := []) (ks := [0, 3, 4]) (env' := [(0, .slice A_2 l_1.length c_3), (3, .string (bs (s_4 ++ r_8))), (4, .int .i64 (wi64 (i_5 + 1)))]) (H' := []) (ps := []) (by kernel_rfl) trivial ?_
      refine GoO.regionEnd ?_
      refine GoO.inLoop ?_
      exact GoO.sub (ks := [0, 3, 4]) (hk := []) (bk := [0]) (by kernel_rfl) (by kernel_rfl) (by kernel_rfl) (ih0 (s_4 ++ r_8) (wi64 (i_5 + 1)))
    · refine GoO.exit' c51_14e rfl ?_
      refine GoO.seq' c51_19e ?_
      refine GoO.region' (is := [0, 1]) c51_20e (by kernel_rfl) ?_
      refine GoO.exec (is := [0, 1]) (hs := [.p, .p]) (rest := []) (ks := [2]) (env' := [(2, .string (bs s_4))]) (H' := []) (ps := []) (by kernel_rfl) trivial ?_
      refine GoO.regionEnd ?_
      exact GoO.ret' (h := c51_21e) (hs := []) (ps := []) (hk := []) (bk := []) Try.func51 () (by kernel_rfl) trivial (by kernel_rfl) (by kernel_rfl)
theorem tontineref16_nums_ok (n : Nat) (l_1 : (List Int)) (A_2 : Option Addr) (c_3 : Nat) :
    Meets Try.prog 51 [.slice A_2 l_1.length c_3] 0 [] [] [Rd 0 (Kd.int .u64) A_2 c_3 l_1] (tontineref16_nums.f n l_1) (tontineref16_nums.R A_2 c_3) := by
  refine Meets.of (c := c51_0) (n := 19) Try.func51 (by kernel_rfl) (by kernel_rfl) (by kernel_rfl) fun w0 S0 => ?_
  unfold tontineref16_nums.f
  show GoO (tontineref16_nums.cx A_2 c_3 w0 S0) [(0, .slice A_2 l_1.length c_3)] [] [Rd 0 (Kd.int .u64) A_2 c_3 l_1] [.code c51_0] _
  refine GoO.seq' c51_0e ?_
  refine GoO.region' (is := [0]) c51_1e (by kernel_rfl) ?_
  refine GoO.exec (is := [0]) (hs := [.p]) (rest := []) (ks := [0]) (env' := [(0, .slice A_2 l_1.length c_3)]) (H' := []) (ps := []) (by kernel_rfl) trivial ?_
  refine GoO.regionEnd ?_
  refine GoO.seq' c51_2e ?_
  refine GoO.region' (is := [0]) c51_3e (by kernel_rfl) ?_
  refine GoO.exec (is := [0]) (hs := [.p]) (rest := []) (ks := [0, 3]) (env' := [(0, .slice A_2 l_1.length c_3), (3, .string (bs []))]) (H' := []) (ps := []) (by kernel_rfl) trivial ?_
  refine GoO.regionEnd ?_
  refine GoO.seq' c51_4e ?_
  refine GoO.seq' c51_5e ?_
  refine GoO.region' (is := [0]) c51_6e (by kernel_rfl) ?_
  refine GoO.exec (is := [0]) (hs := [.p]) (rest := []) (ks := [0, 3, 4]) (env' := [(0, .slice A_2 l_1.length c_3), (3, .string (bs [])), (4, .int .i64 0)]) (H' := []) (ps := []) (by kernel_rfl) trivial ?_
  refine GoO.regionEnd ?_
  refine GoO.block' c51_7e ?_
  refine GoO.loop' c51_8e ?_
  exact GoO.sub (ks := [0, 3, 4]) (hk := []) (bk := [0]) (by kernel_rfl) (by kernel_rfl) (by kernel_rfl) (tontineref16_nums_l0_ok n l_1 A_2 c_3 w0 S0 n [] 0)

/-! tontine/tontineref03.Text -/
noncomputable def c67_0 : Code := bodyOf Try.f67
noncomputable def c67_1 : Code := cdL c67_0
noncomputable def c67_2 : Code := cdR c67_0
noncomputable def c67_3 : Code := cdL c67_2
noncomputable def c67_4 : Code := cdR c67_2
noncomputable def r67_1 : Array Oper := cdO c67_1
noncomputable def r67_3 : Array Oper := cdO c67_3
theorem c67_0e : c67_0 = .seq c67_1 c67_2 := by kernel_rfl
theorem c67_1e : c67_1 = .region 0 r67_1 false := by kernel_rfl
theorem c67_2e : c67_2 = .seq c67_3 c67_4 := by kernel_rfl
theorem c67_3e : c67_3 = .region 1 r67_3 false := by kernel_rfl
theorem c67_4e : c67_4 = .ret := by kernel_rfl
noncomputable def tontineref03_Text.R : Pst (List UInt8) where
  ε := Unit
  v := fun r x => .string (bs r)
  H := fun r x => []
  B := fun r x => []
noncomputable def tontineref03_Text.cx (w0 : World) (S0 : Fam) : Cx (List UInt8) := ⟨Try.prog, 67, Try.f67, 9, w0, S0, [], 0, tontineref03_Text.R⟩
theorem tontineref03_Text_ok (n : Nat) (s_1 : (List UInt8)) :
    Meets Try.prog 67 [.string (bs s_1)] 0 [] [] [] (tontineref03_Text.f n s_1) (tontineref03_Text.R) := by
  refine Meets.of (c := c67_0) (n := 9) Try.func67 (by kernel_rfl) (by kernel_rfl) (by kernel_rfl) fun w0 S0 => ?_
  unfold tontineref03_Text.f
  show GoO (tontineref03_Text.cx w0 S0) [(0, .string (bs s_1))] [] [] [.code c67_0] _
  refine GoO.seq' c67_0e ?_
  refine GoO.region' (is := [0]) c67_1e (by kernel_rfl) ?_
  refine GoO.exec (is := [0]) (hs := [.p]) (rest := []) (ks := [0]) (env' := [(0, .string (bs s_1))]) (H' := []) (ps := []) (by kernel_rfl) trivial ?_
  refine GoO.regionEnd ?_
  refine GoO.seq' c67_2e ?_
  refine GoO.region' (is := [0, 1, 2, 3, 4, 5, 6]) c67_3e (by kernel_rfl) ?_
  refine GoO.exec (is := [0, 1, 2]) (hs := [.p, .p, .p]) (rest := [3, 4, 5, 6]) (ks := [0, 5]) (env' := [(0, .string (bs s_1)), (5, .int .u64 (wu64 (s_1.length : Int)))]) (H' := []) (ps := []) (by kernel_rfl) trivial ?_
  refine OpTo.go (GoO.call rfl (by kernel_rfl) (by kernel_rfl) (tontineref03_Num_ok n (wu64 (s_1.length : Int))) [[0]] [] [] [] (hks := []) (bks := []) (by kernel_rfl) (by kernel_rfl) (by kernel_rfl) (.inl rfl) rfl rfl (by kernel_rfl) (by kernel_rfl) _ (fun _ _ => rfl) _ _ (fun _ _ => rfl) (fun _ _ => rfl) (fun _ _ => by kernel_rfl) (fun _ _ => by kernel_rfl) (fun r_2 x_4 => ?_))
  refine GoO.shape (env' := [(0, .string (bs s_1)), (5, .int .u64 (wu64 (s_1.length : Int))), (6, .string (bs r_2))]) (H' := []) (B' := []) (ks := [0, 5, 6]) (by kernel_rfl) (by kernel_rfl) (by kernel_rfl) ?_
  refine GoO.guard (fun h3 => ?_)
  refine GoO.exec (is := [4, 5, 6]) (hs := [.p, .p, .p]) (rest := []) (ks := [2]) (env' := [(2, .string (bs (r_2 ++ s_1)))]) (H' := []) (ps := [r_2.length + s_1.length ≤ i64max]) (by kernel_rfl) (And.intro h3 trivial) ?_
  refine GoO.regionEnd ?_
  exact GoO.ret' (h := c67_4e) (hs := []) (ps := []) (hk := []) (bk := []) Try.func67 () (by kernel_rfl) trivial (by kernel_rfl) (by kernel_rfl)

/-! tontine/tontineref13.Bytes -/
noncomputable def c52_0 : Code := bodyOf Try.f52
noncomputable def c52_1 : Code := cdL c52_0
noncomputable def c52_2 : Code := cdR c52_0
noncomputable def c52_3 : Code := cdL c52_2
noncomputable def c52_4 : Code := cdR c52_2
noncomputable def c52_5 : Code := cdL c52_4
noncomputable def c52_6 : Code := cdL c52_5
noncomputable def c52_7 : Code := cdR c52_5
noncomputable def c52_8 : Code := cdL c52_7
noncomputable def c52_9 : Code := cdL c52_8
noncomputable def c52_10 : Code := cdL c52_9
noncomputable def c52_11 : Code := cdL c52_10
noncomputable def c52_12 : Code := cdR c52_10
noncomputable def c52_13 : Code := cdL c52_12
noncomputable def c52_14 : Code := cdR c52_12
noncomputable def c52_15 : Code := cdR c52_9
noncomputable def c52_16 : Code := cdL c52_15
noncomputable def c52_17 : Code := cdL c52_16
noncomputable def c52_18 : Code := cdR c52_15
noncomputable def c52_19 : Code := cdR c52_4
noncomputable def c52_20 : Code := cdL c52_19
noncomputable def c52_21 : Code := cdR c52_19
noncomputable def r52_1 : Array Oper := cdO c52_1
noncomputable def r52_3 : Array Oper := cdO c52_3
noncomputable def r52_6 : Array Oper := cdO c52_6
noncomputable def r52_11 : Array Oper := cdO c52_11
noncomputable def r52_17 : Array Oper := cdO c52_17
noncomputable def r52_18 : Array Oper := cdO c52_18
noncomputable def r52_20 : Array Oper := cdO c52_20
theorem c52_0e : c52_0 = .seq c52_1 c52_2 := by kernel_rfl
theorem c52_1e : c52_1 = .region 0 r52_1 false := by kernel_rfl
theorem c52_2e : c52_2 = .seq c52_3 c52_4 := by kernel_rfl
theorem c52_3e : c52_3 = .region 1 r52_3 false := by kernel_rfl
theorem c52_4e : c52_4 = .seq c52_5 c52_19 := by kernel_rfl
theorem c52_5e : c52_5 = .seq c52_6 c52_7 := by kernel_rfl
theorem c52_6e : c52_6 = .region 2 r52_6 false := by kernel_rfl
theorem c52_7e : c52_7 = .block 0 c52_8 := by kernel_rfl
theorem c52_8e : c52_8 = .loop c52_9 := by kernel_rfl
theorem c52_9e : c52_9 = .seq c52_10 c52_15 := by kernel_rfl
theorem c52_10e : c52_10 = .seq c52_11 c52_12 := by kernel_rfl
theorem c52_11e : c52_11 = .region 3 r52_11 false := by kernel_rfl
theorem c52_12e : c52_12 = .cond (cdC c52_12) c52_13 c52_14 := by kernel_rfl
theorem c52_13e : c52_13 = .skip := by kernel_rfl
theorem c52_14e : c52_14 = .exit 0 := by kernel_rfl
theorem c52_15e : c52_15 = .seq c52_16 c52_18 := by kernel_rfl
theorem c52_16e : c52_16 = .block 1 c52_17 := by kernel_rfl
theorem c52_17e : c52_17 = .region 5 r52_17 true := by kernel_rfl
theorem c52_18e : c52_18 = .region 4 r52_18 false := by kernel_rfl
theorem c52_19e : c52_19 = .seq c52_20 c52_21 := by kernel_rfl
theorem c52_20e : c52_20 = .region 6 r52_20 false := by kernel_rfl
theorem c52_21e : c52_21 = .ret := by kernel_rfl
noncomputable def tontineref13_Bytes.R (A_2 : Option Addr) (c_3 : Nat) : Pst (List UInt8) where
  ε := Unit
  v := fun r x => .string (bs r)
  H := fun r x => []
  B := fun r x => []
noncomputable def tontineref13_Bytes.cx (A_2 : Option Addr) (c_3 : Nat) (w0 : World) (S0 : Fam) : Cx (List UInt8) := ⟨Try.prog, 52, Try.f52, 40, w0, S0, [], 0, tontineref13_Bytes.R A_2 c_3⟩
theorem tontineref13_Bytes_l0_ok (n : Nat) (l_1 : (List T_api_Step)) (A_2 : Option Addr) (c_3 : Nat) (w0 : World) (S0 : Fam) :
    ∀ (k : Nat) (s_5 : (List UInt8)) (i_6 : Int), GoO (tontineref13_Bytes.cx A_2 c_3 w0 S0) [(0, .slice A_2 l_1.length c_3), (3, .string (bs s_5)), (4, .int .i64 i_6)] [] [Rd 0 kT_api_Step A_2 c_3 l_1] [.code c52_9, .inLoop c52_9, .inBlock 0, .code c52_19] (tontineref13_Bytes.l0 n l_1 k s_5 i_6) := by
  intro k
  induction k with
  | zero => intros; rw [tontineref13_Bytes.l0.eq_1]; exact GoO.stop
  | succ k ih0 =>
    intro s_5 i_6
    rw [tontineref13_Bytes.l0.eq_2]
    refine GoO.seq' c52_9e ?_
    refine GoO.seq' c52_10e ?_
    refine GoO.region' (is := [0, 1, 2, 3]) c52_11e (by kernel_rfl) ?_
    refine GoO.exec (is := [0, 1, 2, 3]) (hs := [.p, .p, .p, .p]) (rest := []) (ks := [0, 3, 4, 12]) (env' := [(0, .slice A_2 l_1.length c_3), (3, .string (bs s_5)), (4, .int .i64 i_6), (12, .bool (decide (i_6 < (l_1.length : Int))))]) (H' := []) (ps := []) (by kernel_rfl) trivial ?_
    refine GoO.regionEnd ?_
    refine GoO.ite' c52_12e (by kernel_rfl) (fun h7 => ?_) (fun h7 => ?_)
    · refine GoO.skip' c52_13e ?_
      refine GoO.seq' c52_15e ?_
      refine GoO.block' c52_16e ?_
      refine GoO.draw c52_17e (by kernel_rfl) [24] [] [Rd 0 kT_api_Step A_2 c_3 l_1] (n := 25) (by kernel_rfl) ?_
      simp only [List.replicate]
      refine GoF.take [0, 1, 2, 8, 9, 15, 16] [.p, .p, .p, .p, .p, .p, .p] (ks := [0, 4, 15, 16, 17, 23, 24, 30, 31]) (fu := 18) (li := [true, true, true, false, false, false, false, false, true, true, false, false, false, false, false, true, true, false, false, false, false, false, false, false, false]) (env' := [(0, .slice A_2 l_1.length c_3), (4, .int .i64 i_6), (15, .string (bs s_5)), (16, .slice A_2 l_1.length c_3), (17, .int .i64 i_6), (23, .slice A_2 l_1.length c_3), (24, .int .i64 i_6), (30, .slice A_2 l_1.length c_3), (31, .int .i64 i_6)]) (ps := []) (hk := []) (bk := [0]) (by kernel_rfl) trivial rfl rfl ?_
      refine GoF.guard (fun h8 => ?_)
      refine GoF.idx (i := 3) (hk := []) (bk := [0]) (kk := .i64) (e := 50) (K := kT_api_Step) (A := A_2) (c := c_3) (xs := l_1) (iv := i_6) (j := 0) (by kernel_rfl) rfl rfl rfl (by kernel_rfl) (by kernel_rfl) (by kernel_rfl) (by kernel_rfl) rfl Reads.rd rfl h8.1 h8.2 (by decide) rfl ?_
      refine GoF.fldE (i := 4) (hk := []) (bk := [0]) (K := kT_api_Step) (A := A_2) (c := c_3) (xs := l_1) (iN := i_6.toNat) (off := 0) (n := 0) (j := 0) (by kernel_rfl) rfl rfl rfl (by kernel_rfl) (by kernel_rfl) rfl Reads.rd (idx_lt h8.1 h8.2) (by decide) rfl ?_
      refine GoF.ldE (i := 5) (hk := []) (bk := [0]) (K := kT_api_Step) (A := A_2) (c := c_3) (xs := l_1) (iN := i_6.toNat) (off := 0) (j := 0) (v := .int .i64 ((rdL l_1 i_6).Part)) (by kernel_rfl) rfl rfl rfl (hK := rfl) (by kernel_rfl) rfl Reads.rd (idx_lt h8.1 h8.2) (by decide) (by kernel_rfl) rfl ?_
      refine GoF.take [6] [.p] (ks := [0, 4, 15, 21, 23, 24, 30, 31]) (fu := 14) (li := [true, true, true, true, true, true, true, false, true, true, false, false, false, false, false, true, true, false, false, false, false, false, false, false, false]) (env' := [(0, .slice A_2 l_1.length c_3), (4, .int .i64 i_6), (15, .string (bs s_5)), (21, .int .u64 (wu64 ((rdL l_1 i_6).Part))), (23, .slice A_2 l_1.length c_3), (24, .int .i64 i_6), (30, .slice A_2 l_1.length c_3), (31, .int .i64 i_6)]) (ps := []) (hk := []) (bk := [0]) (by kernel_rfl) trivial rfl rfl ?_
      refine GoF.guard (fun h9 => ?_)
      refine GoF.idx (i := 10) (hk := []) (bk := [0]) (kk := .i64) (e := 50) (K := kT_api_Step) (A := A_2) (c := c_3) (xs := l_1) (iv := i_6) (j := 0) (by kernel_rfl) rfl rfl rfl (by kernel_rfl) (by kernel_rfl) (by kernel_rfl) (by kernel_rfl) rfl Reads.rd rfl h9.1 h9.2 (by decide) rfl ?_
      refine GoF.fldE (i := 11) (hk := []) (bk := [0]) (K := kT_api_Step) (A := A_2) (c := c_3) (xs := l_1) (iN := i_6.toNat) (off := 0) (n := 1) (j := 0) (by kernel_rfl) rfl rfl rfl (by kernel_rfl) (by kernel_rfl) rfl Reads.rd (idx_lt h9.1 h9.2) (by decide) rfl ?_
      refine GoF.ldE (i := 12) (hk := []) (bk := [0]) (K := kT_api_Step) (A := A_2) (c := c_3) (xs := l_1) (iN := i_6.toNat) (off := 1) (j := 0) (v := .string (bs ((rdL l_1 i_6).Name))) (by kernel_rfl) rfl rfl rfl (hK := rfl) (by kernel_rfl) rfl Reads.rd (idx_lt h9.1 h9.2) (by decide) (by kernel_rfl) rfl ?_
      refine GoF.guard (fun h10 => ?_)
      refine GoF.idx (i := 17) (hk := []) (bk := [0]) (kk := .i64) (e := 50) (K := kT_api_Step) (A := A_2) (c := c_3) (xs := l_1) (iv := i_6) (j := 0) (by kernel_rfl) rfl rfl rfl (by kernel_rfl) (by kernel_rfl) (by kernel_rfl) (by kernel_rfl) rfl Reads.rd rfl h10.1 h10.2 (by decide) rfl ?_
      refine GoF.fldE (i := 18) (hk := []) (bk := [0]) (K := kT_api_Step) (A := A_2) (c := c_3) (xs := l_1) (iN := i_6.toNat) (off := 0) (n := 2) (j := 0) (by kernel_rfl) rfl rfl rfl (by kernel_rfl) (by kernel_rfl) rfl Reads.rd (idx_lt h10.1 h10.2) (by decide) rfl ?_
      refine GoF.ldE (i := 19) (hk := []) (bk := [0]) (K := kT_api_Step) (A := A_2) (c := c_3) (xs := l_1) (iN := i_6.toNat) (off := 2) (j := 0) (v := .int .i64 ((rdL l_1 i_6).Budget)) (by kernel_rfl) rfl rfl rfl (hK := rfl) (by kernel_rfl) rfl Reads.rd (idx_lt h10.1 h10.2) (by decide) (by kernel_rfl) rfl ?_
      refine GoF.take [20] [.p] (ks := [0, 4, 15, 21, 27, 35]) (fu := 7) (li := [true, true, true, true, true, true, true, false, true, true, true, true, true, false, false, true, true, true, true, true, true, false, false, false, false]) (env' := [(0, .slice A_2 l_1.length c_3), (4, .int .i64 i_6), (15, .string (bs s_5)), (21, .int .u64 (wu64 ((rdL l_1 i_6).Part))), (27, .string (bs ((rdL l_1 i_6).Name))), (35, .int .u64 (wu64 ((rdL l_1 i_6).Budget)))]) (ps := []) (hk := []) (bk := [0]) (by kernel_rfl) trivial rfl rfl ?_
      refine OpTo.goF (i := 7) (by kernel_rfl) (hk := []) (bk := [0]) (GoO.call rfl (by kernel_rfl) (by kernel_rfl) (tontineref03_Num_ok n (wu64 ((rdL l_1 i_6).Part))) [[0]] [] [] [] (hks := []) (bks := [0]) (by kernel_rfl) (by kernel_rfl) (by kernel_rfl) (.inl rfl) rfl rfl (by kernel_rfl) (by kernel_rfl) _ (fun _ _ => rfl) _ _ (fun _ _ => rfl) (fun _ _ => rfl) (fun _ _ => by kernel_rfl) (fun _ _ => by kernel_rfl) (fun r_11 x_19 => ⟨rfl, rfl, ?_⟩))
      refine GoF.shape (env' := [(0, .slice A_2 l_1.length c_3), (4, .int .i64 i_6), (15, .string (bs s_5)), (21, .int .u64 (wu64 ((rdL l_1 i_6).Part))), (22, .string (bs r_11)), (27, .string (bs ((rdL l_1 i_6).Name))), (35, .int .u64 (wu64 ((rdL l_1 i_6).Budget)))]) (H' := []) (B' := [Rd 0 kT_api_Step A_2 c_3 l_1]) (ks := [0, 4, 15, 21, 22, 27, 35]) (by kernel_rfl) (by kernel_rfl) (by kernel_rfl) ?_
      refine OpTo.goF (i := 13) (by kernel_rfl) (hk := []) (bk := [0]) (GoO.call rfl (by kernel_rfl) (by kernel_rfl) (tontineref03_Text_ok n ((rdL l_1 i_6).Name)) [[0]] [] [] [] (hks := []) (bks := [0]) (by kernel_rfl) (by kernel_rfl) (by kernel_rfl) (.inl rfl) rfl rfl (by kernel_rfl) (by kernel_rfl) _ (fun _ _ => rfl) _ _ (fun _ _ => rfl) (fun _ _ => rfl) (fun _ _ => by kernel_rfl) (fun _ _ => by kernel_rfl) (fun r_12 x_18 => ⟨rfl, rfl, ?_⟩))
      refine GoF.shape (env' := [(0, .slice A_2 l_1.length c_3), (4, .int .i64 i_6), (15, .string (bs s_5)), (21, .int .u64 (wu64 ((rdL l_1 i_6).Part))), (22, .string (bs r_11)), (27, .string (bs ((rdL l_1 i_6).Name))), (28, .string (bs r_12)), (35, .int .u64 (wu64 ((rdL l_1 i_6).Budget)))]) (H' := []) (B' := [Rd 0 kT_api_Step A_2 c_3 l_1]) (ks := [0, 4, 15, 21, 22, 27, 28, 35]) (by kernel_rfl) (by kernel_rfl) (by kernel_rfl) ?_
      refine GoF.guard (fun h13 => ?_)
      refine GoF.take [14] [.p] (ks := [0, 4, 15, 29, 35]) (fu := 4) (li := [true, true, true, true, true, true, true, true, true, true, true, true, true, true, true, true, true, true, true, true, true, false, false, false, false]) (env' := [(0, .slice A_2 l_1.length c_3), (4, .int .i64 i_6), (15, .string (bs s_5)), (29, .string (bs (r_11 ++ r_12))), (35, .int .u64 (wu64 ((rdL l_1 i_6).Budget)))]) (ps := [r_11.length + r_12.length ≤ i64max]) (hk := []) (bk := [0]) (by kernel_rfl) (And.intro h13 trivial) rfl rfl ?_
      refine OpTo.goF (i := 21) (by kernel_rfl) (hk := []) (bk := [0]) (GoO.call rfl (by kernel_rfl) (by kernel_rfl) (tontineref03_Num_ok n (wu64 ((rdL l_1 i_6).Budget))) [[0]] [] [] [] (hks := []) (bks := [0]) (by kernel_rfl) (by kernel_rfl) (by kernel_rfl) (.inl rfl) rfl rfl (by kernel_rfl) (by kernel_rfl) _ (fun _ _ => rfl) _ _ (fun _ _ => rfl) (fun _ _ => rfl) (fun _ _ => by kernel_rfl) (fun _ _ => by kernel_rfl) (fun r_14 x_17 => ⟨rfl, rfl, ?_⟩))
      refine GoF.shape (env' := [(0, .slice A_2 l_1.length c_3), (4, .int .i64 i_6), (15, .string (bs s_5)), (29, .string (bs (r_11 ++ r_12))), (35, .int .u64 (wu64 ((rdL l_1 i_6).Budget))), (36, .string (bs r_14))]) (H' := []) (B' := [Rd 0 kT_api_Step A_2 c_3 l_1]) (ks := [0, 4, 15, 29, 35, 36]) (by kernel_rfl) (by kernel_rfl) (by kernel_rfl) ?_
      refine GoF.guard (fun h15 => ?_)
      refine GoF.guard (fun h16 => ?_)
      refine GoF.take [22, 23] [.p, .p] (ks := [0, 4, 38]) (fu := 1) (li := [true, true, true, true, true, true, true, true, true, true, true, true, true, true, true, true, true, true, true, true, true, true, true, true, false]) (env' := [(0, .slice A_2 l_1.length c_3), (4, .int .i64 i_6), (38, .string (bs (s_5 ++ ((r_11 ++ r_12) ++ r_14))))]) (ps := [(r_11 ++ r_12).length + r_14.length ≤ i64max, s_5.length + ((r_11 ++ r_12) ++ r_14).length ≤ i64max]) (hk := []) (bk := [0]) (by kernel_rfl) (And.intro h15 (And.intro h16 trivial)) rfl rfl ?_
      refine GoF.fin1 (i := 24) (hint := .p) (ps := []) (hk := []) (bk := []) (by kernel_rfl) rfl trivial (.inl rfl) ?_
      refine GoF.done (by kernel_rfl) ?_
      refine GoO.inBlock ?_
      refine GoO.region' (is := [0, 1, 2]) c52_18e (by kernel_rfl) ?_
      refine GoO.exec (is := [0, 1, 2]) (hs := [.p, .p, .p]) (rest := []) (ks := [0, 3, 4]) (env' := [(0, .slice A_2 l_1.length c_3), (3, .string (bs (s_5 ++ ((r_11 ++ r_12) ++ r_14)))), (4, .int .i64 (wi64 (i_6 + 1)))]) (H' := []) (ps := []) (by kernel_rfl) trivial ?_
      refine GoO.regionEnd ?_
      refine GoO.inLoop ?_
      exact GoO.sub (ks := [0, 3, 4]) (hk := []) (bk := [0]) (by kernel_rfl) (by kernel_rfl) (by kernel_rfl) (ih0 (s_5 ++ ((r_11 ++ r_12) ++ r_14)) (wi64 (i_6 + 1)))
    · refine GoO.exit' c52_14e rfl ?_
      refine GoO.seq' c52_19e ?_
      refine GoO.region' (is := [0, 1]) c52_20e (by kernel_rfl) ?_
      refine GoO.exec (is := [0, 1]) (hs := [.p, .p]) (rest := []) (ks := [2]) (env' := [(2, .string (bs s_5))]) (H' := []) (ps := []) (by kernel_rfl) trivial ?_
      refine GoO.regionEnd ?_
      exact GoO.ret' (h := c52_21e) (hs := []) (ps := []) (hk := []) (bk := []) Try.func52 () (by kernel_rfl) trivial (by kernel_rfl) (by kernel_rfl)
theorem tontineref13_Bytes_ok (n : Nat) (l_1 : (List T_api_Step)) (A_2 : Option Addr) (c_3 : Nat) :
    Meets Try.prog 52 [.slice A_2 l_1.length c_3] 0 [] [] [Rd 0 kT_api_Step A_2 c_3 l_1] (tontineref13_Bytes.f n l_1) (tontineref13_Bytes.R A_2 c_3) := by
  refine Meets.of (c := c52_0) (n := 40) Try.func52 (by kernel_rfl) (by kernel_rfl) (by kernel_rfl) fun w0 S0 => ?_
  unfold tontineref13_Bytes.f
  show GoO (tontineref13_Bytes.cx A_2 c_3 w0 S0) [(0, .slice A_2 l_1.length c_3)] [] [Rd 0 kT_api_Step A_2 c_3 l_1] [.code c52_0] _
  refine GoO.seq' c52_0e ?_
  refine GoO.region' (is := [0]) c52_1e (by kernel_rfl) ?_
  refine GoO.exec (is := [0]) (hs := [.p]) (rest := []) (ks := [0]) (env' := [(0, .slice A_2 l_1.length c_3)]) (H' := []) (ps := []) (by kernel_rfl) trivial ?_
  refine GoO.regionEnd ?_
  refine GoO.seq' c52_2e ?_
  refine GoO.region' (is := [0, 1, 2, 3, 4]) c52_3e (by kernel_rfl) ?_
  refine GoO.exec (is := [0, 1, 2]) (hs := [.p, .p, .p]) (rest := [3, 4]) (ks := [0, 7]) (env' := [(0, .slice A_2 l_1.length c_3), (7, .int .u64 (wu64 (l_1.length : Int)))]) (H' := []) (ps := []) (by kernel_rfl) trivial ?_
  refine OpTo.go (GoO.call rfl (by kernel_rfl) (by kernel_rfl) (tontineref03_Num_ok n (wu64 (l_1.length : Int))) [[0]] [] [] [] (hks := []) (bks := [0]) (by kernel_rfl) (by kernel_rfl) (by kernel_rfl) (.inl rfl) rfl rfl (by kernel_rfl) (by kernel_rfl) _ (fun _ _ => rfl) _ _ (fun _ _ => rfl) (fun _ _ => rfl) (fun _ _ => by kernel_rfl) (fun _ _ => by kernel_rfl) (fun r_4 x_20 => ?_))
  refine GoO.shape (env' := [(0, .slice A_2 l_1.length c_3), (7, .int .u64 (wu64 (l_1.length : Int))), (8, .string (bs r_4))]) (H' := []) (B' := [Rd 0 kT_api_Step A_2 c_3 l_1]) (ks := [0, 7, 8]) (by kernel_rfl) (by kernel_rfl) (by kernel_rfl) ?_
  refine GoO.exec (is := [4]) (hs := [.p]) (rest := []) (ks := [0, 3]) (env' := [(0, .slice A_2 l_1.length c_3), (3, .string (bs r_4))]) (H' := []) (ps := []) (by kernel_rfl) trivial ?_
  refine GoO.regionEnd ?_
  refine GoO.seq' c52_4e ?_
  refine GoO.seq' c52_5e ?_
  refine GoO.region' (is := [0]) c52_6e (by kernel_rfl) ?_
  refine GoO.exec (is := [0]) (hs := [.p]) (rest := []) (ks := [0, 3, 4]) (env' := [(0, .slice A_2 l_1.length c_3), (3, .string (bs r_4)), (4, .int .i64 0)]) (H' := []) (ps := []) (by kernel_rfl) trivial ?_
  refine GoO.regionEnd ?_
  refine GoO.block' c52_7e ?_
  refine GoO.loop' c52_8e ?_
  exact GoO.sub (ks := [0, 3, 4]) (hk := []) (bk := [0]) (by kernel_rfl) (by kernel_rfl) (by kernel_rfl) (tontineref13_Bytes_l0_ok n l_1 A_2 c_3 w0 S0 n r_4 0)

/-! tontine/tontineref16.truth -/
noncomputable def c53_0 : Code := bodyOf Try.f53
noncomputable def c53_1 : Code := cdL c53_0
noncomputable def c53_2 : Code := cdR c53_0
noncomputable def c53_3 : Code := cdL c53_2
noncomputable def c53_4 : Code := cdL c53_3
noncomputable def c53_5 : Code := cdR c53_3
noncomputable def c53_6 : Code := cdL c53_5
noncomputable def c53_7 : Code := cdL c53_6
noncomputable def c53_8 : Code := cdR c53_6
noncomputable def c53_9 : Code := cdR c53_5
noncomputable def c53_10 : Code := cdR c53_2
noncomputable def c53_11 : Code := cdL c53_10
noncomputable def c53_12 : Code := cdR c53_10
noncomputable def r53_1 : Array Oper := cdO c53_1
noncomputable def r53_4 : Array Oper := cdO c53_4
noncomputable def r53_7 : Array Oper := cdO c53_7
noncomputable def r53_11 : Array Oper := cdO c53_11
theorem c53_0e : c53_0 = .seq c53_1 c53_2 := by kernel_rfl
theorem c53_1e : c53_1 = .region 0 r53_1 false := by kernel_rfl
theorem c53_2e : c53_2 = .seq c53_3 c53_10 := by kernel_rfl
theorem c53_3e : c53_3 = .seq c53_4 c53_5 := by kernel_rfl
theorem c53_4e : c53_4 = .region 1 r53_4 false := by kernel_rfl
theorem c53_5e : c53_5 = .cond (cdC c53_5) c53_6 c53_9 := by kernel_rfl
theorem c53_6e : c53_6 = .seq c53_7 c53_8 := by kernel_rfl
theorem c53_7e : c53_7 = .region 2 r53_7 false := by kernel_rfl
theorem c53_8e : c53_8 = .ret := by kernel_rfl
theorem c53_9e : c53_9 = .skip := by kernel_rfl
theorem c53_10e : c53_10 = .seq c53_11 c53_12 := by kernel_rfl
theorem c53_11e : c53_11 = .region 3 r53_11 false := by kernel_rfl
theorem c53_12e : c53_12 = .ret := by kernel_rfl
noncomputable def tontineref16_truth.R : Pst Int where
  ε := Unit
  v := fun r x => .int .u64 r
  H := fun r x => []
  B := fun r x => []
noncomputable def tontineref16_truth.cx (w0 : World) (S0 : Fam) : Cx Int := ⟨Try.prog, 53, Try.f53, 4, w0, S0, [], 0, tontineref16_truth.R⟩
theorem tontineref16_truth_ok (n : Nat) (x_1 : Bool) :
    Meets Try.prog 53 [.bool x_1] 0 [] [] [] (tontineref16_truth.f n x_1) (tontineref16_truth.R) := by
  refine Meets.of (c := c53_0) (n := 4) Try.func53 (by kernel_rfl) (by kernel_rfl) (by kernel_rfl) fun w0 S0 => ?_
  unfold tontineref16_truth.f
  show GoO (tontineref16_truth.cx w0 S0) [(0, .bool x_1)] [] [] [.code c53_0] _
  refine GoO.seq' c53_0e ?_
  refine GoO.region' (is := [0]) c53_1e (by kernel_rfl) ?_
  refine GoO.exec (is := [0]) (hs := [.p]) (rest := []) (ks := [0]) (env' := [(0, .bool x_1)]) (H' := []) (ps := []) (by kernel_rfl) trivial ?_
  refine GoO.regionEnd ?_
  refine GoO.seq' c53_2e ?_
  refine GoO.seq' c53_3e ?_
  refine GoO.region' (is := [0]) c53_4e (by kernel_rfl) ?_
  refine GoO.exec (is := [0]) (hs := [.p]) (rest := []) (ks := [3]) (env' := [(3, .bool x_1)]) (H' := []) (ps := []) (by kernel_rfl) trivial ?_
  refine GoO.regionEnd ?_
  refine GoO.ite' c53_5e (by kernel_rfl) (fun h2 => ?_) (fun h2 => ?_)
  · refine GoO.seq' c53_6e ?_
    refine GoO.region' (is := [0]) c53_7e (by kernel_rfl) ?_
    refine GoO.exec (is := [0]) (hs := [.p]) (rest := []) (ks := [2]) (env' := [(2, .int .u64 1)]) (H' := []) (ps := []) (by kernel_rfl) trivial ?_
    refine GoO.regionEnd ?_
    exact GoO.ret' (h := c53_8e) (hs := []) (ps := []) (hk := []) (bk := []) Try.func53 () (by kernel_rfl) trivial (by kernel_rfl) (by kernel_rfl)
  · refine GoO.skip' c53_9e ?_
    refine GoO.seq' c53_10e ?_
    refine GoO.region' (is := [0]) c53_11e (by kernel_rfl) ?_
    refine GoO.exec (is := [0]) (hs := [.p]) (rest := []) (ks := [2]) (env' := [(2, .int .u64 0)]) (H' := []) (ps := []) (by kernel_rfl) trivial ?_
    refine GoO.regionEnd ?_
    exact GoO.ret' (h := c53_12e) (hs := []) (ps := []) (hk := []) (bk := []) Try.func53 () (by kernel_rfl) trivial (by kernel_rfl) (by kernel_rfl)

/-! tontine/tontineref16.Encode -/
noncomputable def c17_0 : Code := bodyOf Try.f17
noncomputable def c17_1 : Code := cdL c17_0
noncomputable def c17_2 : Code := cdR c17_0
noncomputable def c17_3 : Code := cdL c17_2
noncomputable def c17_4 : Code := cdL c17_3
noncomputable def c17_5 : Code := cdR c17_3
noncomputable def c17_6 : Code := cdL c17_5
noncomputable def c17_7 : Code := cdL c17_6
noncomputable def c17_8 : Code := cdR c17_6
noncomputable def c17_9 : Code := cdR c17_5
noncomputable def c17_10 : Code := cdR c17_2
noncomputable def c17_11 : Code := cdL c17_10
noncomputable def c17_12 : Code := cdL c17_11
noncomputable def c17_13 : Code := cdR c17_11
noncomputable def c17_14 : Code := cdL c17_13
noncomputable def c17_15 : Code := cdL c17_14
noncomputable def c17_16 : Code := cdR c17_14
noncomputable def c17_17 : Code := cdR c17_13
noncomputable def c17_18 : Code := cdR c17_10
noncomputable def c17_19 : Code := cdL c17_18
noncomputable def c17_20 : Code := cdR c17_18
noncomputable def c17_21 : Code := cdL c17_20
noncomputable def c17_22 : Code := cdL c17_21
noncomputable def c17_23 : Code := cdR c17_21
noncomputable def c17_24 : Code := cdL c17_23
noncomputable def c17_25 : Code := cdR c17_23
noncomputable def c17_26 : Code := cdR c17_20
noncomputable def c17_27 : Code := cdL c17_26
noncomputable def c17_28 : Code := cdL c17_27
noncomputable def c17_29 : Code := cdR c17_27
noncomputable def c17_30 : Code := cdL c17_29
noncomputable def c17_31 : Code := cdR c17_29
noncomputable def c17_32 : Code := cdR c17_26
noncomputable def c17_33 : Code := cdL c17_32
noncomputable def c17_34 : Code := cdR c17_32
noncomputable def r17_1 : Array Oper := cdO c17_1
noncomputable def r17_4 : Array Oper := cdO c17_4
noncomputable def r17_7 : Array Oper := cdO c17_7
noncomputable def r17_12 : Array Oper := cdO c17_12
noncomputable def r17_15 : Array Oper := cdO c17_15
noncomputable def r17_19 : Array Oper := cdO c17_19
noncomputable def r17_22 : Array Oper := cdO c17_22
noncomputable def r17_24 : Array Oper := cdO c17_24
noncomputable def r17_28 : Array Oper := cdO c17_28
noncomputable def r17_30 : Array Oper := cdO c17_30
noncomputable def r17_33 : Array Oper := cdO c17_33
theorem c17_0e : c17_0 = .seq c17_1 c17_2 := by kernel_rfl
theorem c17_1e : c17_1 = .region 0 r17_1 false := by kernel_rfl
theorem c17_2e : c17_2 = .seq c17_3 c17_10 := by kernel_rfl
theorem c17_3e : c17_3 = .seq c17_4 c17_5 := by kernel_rfl
theorem c17_4e : c17_4 = .region 1 r17_4 false := by kernel_rfl
theorem c17_5e : c17_5 = .cond (cdC c17_5) c17_6 c17_9 := by kernel_rfl
theorem c17_6e : c17_6 = .seq c17_7 c17_8 := by kernel_rfl
theorem c17_7e : c17_7 = .region 2 r17_7 false := by kernel_rfl
theorem c17_8e : c17_8 = .ret := by kernel_rfl
theorem c17_9e : c17_9 = .skip := by kernel_rfl
theorem c17_10e : c17_10 = .seq c17_11 c17_18 := by kernel_rfl
theorem c17_11e : c17_11 = .seq c17_12 c17_13 := by kernel_rfl
theorem c17_12e : c17_12 = .region 3 r17_12 false := by kernel_rfl
theorem c17_13e : c17_13 = .cond (cdC c17_13) c17_14 c17_17 := by kernel_rfl
theorem c17_14e : c17_14 = .seq c17_15 c17_16 := by kernel_rfl
theorem c17_15e : c17_15 = .region 4 r17_15 false := by kernel_rfl
theorem c17_16e : c17_16 = .ret := by kernel_rfl
theorem c17_17e : c17_17 = .skip := by kernel_rfl
theorem c17_18e : c17_18 = .seq c17_19 c17_20 := by kernel_rfl
theorem c17_19e : c17_19 = .region 5 r17_19 false := by kernel_rfl
theorem c17_20e : c17_20 = .seq c17_21 c17_26 := by kernel_rfl
theorem c17_21e : c17_21 = .seq c17_22 c17_23 := by kernel_rfl
theorem c17_22e : c17_22 = .region 6 r17_22 false := by kernel_rfl
theorem c17_23e : c17_23 = .cond (cdC c17_23) c17_24 c17_25 := by kernel_rfl
theorem c17_24e : c17_24 = .region 7 r17_24 false := by kernel_rfl
theorem c17_25e : c17_25 = .skip := by kernel_rfl
theorem c17_26e : c17_26 = .seq c17_27 c17_32 := by kernel_rfl
theorem c17_27e : c17_27 = .seq c17_28 c17_29 := by kernel_rfl
theorem c17_28e : c17_28 = .region 8 r17_28 false := by kernel_rfl
theorem c17_29e : c17_29 = .cond (cdC c17_29) c17_30 c17_31 := by kernel_rfl
theorem c17_30e : c17_30 = .region 9 r17_30 true := by kernel_rfl
theorem c17_31e : c17_31 = .skip := by kernel_rfl
theorem c17_32e : c17_32 = .seq c17_33 c17_34 := by kernel_rfl
theorem c17_33e : c17_33 = .region 10 r17_33 false := by kernel_rfl
theorem c17_34e : c17_34 = .ret := by kernel_rfl
noncomputable def tontineref16_Encode.R (A_2 : Option Addr) (c_3 : Nat) : Pst ((List UInt8) × Int) where
  ε := Unit
  v := fun r x => .tuple ⟨[.string (bs r.1), .int .i64 r.2]⟩
  H := fun r x => []
  B := fun r x => []
noncomputable def tontineref16_Encode.cx (A_2 : Option Addr) (c_3 : Nat) (w0 : World) (S0 : Fam) : Cx ((List UInt8) × Int) := ⟨Try.prog, 17, Try.f17, 58, w0, S0, [], 0, tontineref16_Encode.R A_2 c_3⟩
theorem tontineref16_Encode_j1_ok (n : Nat) (c_1 : T_api_Command) (A_2 : Option Addr) (c_3 : Nat) (b_4 : Nat) (w0 : World) (S0 : Fam) (s_17 : (List UInt8)) :
    GoO (tontineref16_Encode.cx A_2 c_3 w0 S0) [(1, .pointer (some ⟨b_4, 0, none⟩)), (4, .string (bs s_17))] [⟨40, b_4, [.int .i64 c_1.Kind, .int .u64 c_1.Session, .int .u64 c_1.Seq, .int .u64 c_1.Saga, .slice A_2 c_1.Steps.length c_3, .int .i64 c_1.Step, .bool c_1.Back, .int .i64 c_1.Try, .bool c_1.Ok, .int .u64 c_1.Now]⟩] [Rd 0 kT_api_Step A_2 c_3 c_1.Steps] [.code c17_26] (tontineref16_Encode.j1 n c_1 s_17) := by
  unfold tontineref16_Encode.j1
  refine GoO.seq' c17_26e ?_
  refine GoO.seq' c17_27e ?_
  refine GoO.region' (is := [0, 1, 2]) c17_28e (by kernel_rfl) ?_
  refine GoO.exec (is := [0, 1, 2]) (hs := [.p, .b 0, .p]) (rest := []) (ks := [1, 4, 40]) (env' := [(1, .pointer (some ⟨b_4, 0, none⟩)), (4, .string (bs s_17)), (40, .bool (c_1.Kind == 4))]) (H' := [⟨40, b_4, [.int .i64 c_1.Kind, .int .u64 c_1.Session, .int .u64 c_1.Seq, .int .u64 c_1.Saga, .slice A_2 c_1.Steps.length c_3, .int .i64 c_1.Step, .bool c_1.Back, .int .i64 c_1.Try, .bool c_1.Ok, .int .u64 c_1.Now]⟩]) (ps := [b_4 = b_4]) (by kernel_rfl) (And.intro rfl trivial) ?_
  refine GoO.regionEnd ?_
  refine GoO.ite' c17_29e (by kernel_rfl) (fun h18 => ?_) (fun h18 => ?_)
  · refine GoO.draw c17_30e (by kernel_rfl) [16] [⟨40, b_4, [.int .i64 c_1.Kind, .int .u64 c_1.Session, .int .u64 c_1.Seq, .int .u64 c_1.Saga, .slice A_2 c_1.Steps.length c_3, .int .i64 c_1.Step, .bool c_1.Back, .int .i64 c_1.Try, .bool c_1.Ok, .int .u64 c_1.Now]⟩] [] (n := 17) (by kernel_rfl) ?_
    simp only [List.replicate]
    refine GoF.take [0, 1, 2, 3, 4, 5, 7, 8, 9, 10, 11] [.p, .p, .b 0, .p, .p, .b 0, .p, .b 0, .p, .p, .b 0] (ks := [41, 44, 46, 50, 52]) (fu := 6) (li := [true, true, true, true, true, true, false, true, true, true, true, true, false, false, false, false, false]) (env' := [(41, .string (bs s_17)), (44, .int .u64 (wu64 c_1.Step)), (46, .bool c_1.Back), (50, .int .u64 (wu64 c_1.Try)), (52, .bool c_1.Ok)]) (ps := [b_4 = b_4, b_4 = b_4, b_4 = b_4, b_4 = b_4]) (hk := [0]) (bk := []) (by kernel_rfl) (And.intro rfl (And.intro rfl (And.intro rfl (And.intro rfl trivial)))) rfl rfl ?_
    refine OpTo.goF (i := 6) (by kernel_rfl) (hk := [0]) (bk := []) (GoO.call rfl (by kernel_rfl) (by kernel_rfl) (tontineref16_truth_ok n c_1.Back) [[0]] [] [] [] (hks := [0]) (bks := [0]) (by kernel_rfl) (by kernel_rfl) (by kernel_rfl) (.inl rfl) rfl rfl (by kernel_rfl) (by kernel_rfl) _ (fun _ _ => rfl) _ _ (fun _ _ => rfl) (fun _ _ => rfl) (fun _ _ => by kernel_rfl) (fun _ _ => by kernel_rfl) (fun r_19 x_27 => ⟨rfl, rfl, ?_⟩))
    refine GoF.shape (env' := [(41, .string (bs s_17)), (44, .int .u64 (wu64 c_1.Step)), (46, .bool c_1.Back), (47, .int .u64 r_19), (50, .int .u64 (wu64 c_1.Try)), (52, .bool c_1.Ok)]) (H' := [⟨40, b_4, [.int .i64 c_1.Kind, .int .u64 c_1.Session, .int .u64 c_1.Seq, .int .u64 c_1.Saga, .slice A_2 c_1.Steps.length c_3, .int .i64 c_1.Step, .bool c_1.Back, .int .i64 c_1.Try, .bool c_1.Ok, .int .u64 c_1.Now]⟩]) (B' := [Rd 0 kT_api_Step A_2 c_3 c_1.Steps]) (ks := [41, 44, 46, 47, 50, 52]) (by kernel_rfl) (by kernel_rfl) (by kernel_rfl) ?_
    refine OpTo.goF (i := 12) (by kernel_rfl) (hk := [0]) (bk := []) (GoO.call rfl (by kernel_rfl) (by kernel_rfl) (tontineref16_truth_ok n c_1.Ok) [[0]] [] [] [] (hks := [0]) (bks := [0]) (by kernel_rfl) (by kernel_rfl) (by kernel_rfl) (.inl rfl) rfl rfl (by kernel_rfl) (by kernel_rfl) _ (fun _ _ => rfl) _ _ (fun _ _ => rfl) (fun _ _ => rfl) (fun _ _ => by kernel_rfl) (fun _ _ => by kernel_rfl) (fun r_20 x_26 => ⟨rfl, rfl, ?_⟩))
    refine GoF.shape (env' := [(41, .string (bs s_17)), (44, .int .u64 (wu64 c_1.Step)), (46, .bool c_1.Back), (47, .int .u64 r_19), (50, .int .u64 (wu64 c_1.Try)), (52, .bool c_1.Ok), (53, .int .u64 r_20)]) (H' := [⟨40, b_4, [.int .i64 c_1.Kind, .int .u64 c_1.Session, .int .u64 c_1.Seq, .int .u64 c_1.Saga, .slice A_2 c_1.Steps.length c_3, .int .i64 c_1.Step, .bool c_1.Back, .int .i64 c_1.Try, .bool c_1.Ok, .int .u64 c_1.Now]⟩]) (B' := [Rd 0 kT_api_Step A_2 c_3 c_1.Steps]) (ks := [41, 44, 46, 47, 50, 52, 53]) (by kernel_rfl) (by kernel_rfl) (by kernel_rfl) ?_
    refine OpTo.goF (i := 13) (by kernel_rfl) (hk := [0]) (bk := []) (GoO.lit (e := 22) (K := (Kd.int .u64)) rfl (by kernel_rfl) (by kernel_rfl) (cs := [.int .u64 (wu64 c_1.Step), .int .u64 r_19, .int .u64 (wu64 c_1.Try), .int .u64 r_20]) (by kernel_rfl) [wu64 c_1.Step, r_19, wu64 c_1.Try, r_20] (by kernel_rfl) (by kernel_rfl) (fun w S hB => ⟨[.int .u64 (wu64 c_1.Step)], _, rfl, rfl, ⟨[.int .u64 r_19], _, rfl, rfl, ⟨[.int .u64 (wu64 c_1.Try)], _, rfl, rfl, ⟨[.int .u64 r_20], _, rfl, rfl, rfl⟩⟩⟩⟩) 42 _ (fun _ _ => rfl) (fun A_21 c_22 => ⟨rfl, rfl, ?_⟩))
    refine GoF.view (j := 0) rfl ?_
    refine OpTo.goF (i := 14) (by kernel_rfl) (hk := [0]) (bk := []) (GoO.call rfl (by kernel_rfl) (by kernel_rfl) (tontineref16_nums_ok n [wu64 c_1.Step, r_19, wu64 c_1.Try, r_20] A_21 c_22) [[0, 42]] [] [] [(0, 2)] (hks := [0]) (bks := [0, 1]) (by kernel_rfl) (by kernel_rfl) (by kernel_rfl) (.inr (fun _ _ => by simp [tontineref16_nums.R])) rfl rfl (by kernel_rfl) (by kernel_rfl) _ (fun _ _ => rfl) _ _ (fun _ _ => rfl) (fun _ _ => rfl) (fun _ _ => by kernel_rfl) (fun _ _ => by kernel_rfl) (fun r_23 x_25 => ⟨rfl, rfl, ?_⟩))
    refine GoF.shape (env' := [(41, .string (bs s_17)), (44, .int .u64 (wu64 c_1.Step)), (46, .bool c_1.Back), (47, .int .u64 r_19), (50, .int .u64 (wu64 c_1.Try)), (52, .bool c_1.Ok), (53, .int .u64 r_20), (54, .slice A_21 [wu64 c_1.Step, r_19, wu64 c_1.Try, r_20].length c_22), (55, .string (bs r_23))]) (H' := [⟨40, b_4, [.int .i64 c_1.Kind, .int .u64 c_1.Session, .int .u64 c_1.Seq, .int .u64 c_1.Saga, .slice A_2 c_1.Steps.length c_3, .int .i64 c_1.Step, .bool c_1.Back, .int .i64 c_1.Try, .bool c_1.Ok, .int .u64 c_1.Now]⟩]) (B' := [Ow 42 (Kd.int .u64) A_21 c_22 [wu64 c_1.Step, r_19, wu64 c_1.Try, r_20], Rd 0 kT_api_Step A_2 c_3 c_1.Steps]) (ks := [41, 44, 46, 47, 50, 52, 53, 54, 55]) (by kernel_rfl) (by kernel_rfl) (by kernel_rfl) ?_
    refine GoF.guard (fun h24 => ?_)
    refine GoF.take [15] [.p] (ks := [56]) (fu := 1) (li := [true, true, true, true, true, true, true, true, true, true, true, true, true, true, true, true, false]) (env' := [(56, .string (bs (s_17 ++ r_23)))]) (ps := [s_17.length + r_23.length ≤ i64max]) (hk := [0]) (bk := []) (by kernel_rfl) (And.intro h24 trivial) rfl rfl ?_
    refine GoF.fin1 (i := 16) (hint := .p) (ps := []) (hk := []) (bk := []) (by kernel_rfl) rfl trivial (.inl rfl) ?_
    refine GoF.done (by kernel_rfl) ?_
    refine GoO.seq' c17_32e ?_
    refine GoO.region' (is := [0, 1, 2]) c17_33e (by kernel_rfl) ?_
    refine GoO.exec (is := [0, 1, 2]) (hs := [.p, .p, .p]) (rest := []) (ks := [2, 3]) (env' := [(2, .string (bs (s_17 ++ r_23))), (3, .int .i64 0)]) (H' := [⟨40, b_4, [.int .i64 c_1.Kind, .int .u64 c_1.Session, .int .u64 c_1.Seq, .int .u64 c_1.Saga, .slice A_2 c_1.Steps.length c_3, .int .i64 c_1.Step, .bool c_1.Back, .int .i64 c_1.Try, .bool c_1.Ok, .int .u64 c_1.Now]⟩]) (ps := []) (by kernel_rfl) trivial ?_
    refine GoO.regionEnd ?_
    exact GoO.ret' (h := c17_34e) (hs := []) (ps := []) (hk := []) (bk := []) Try.func17 () (by kernel_rfl) trivial (by kernel_rfl) (by kernel_rfl)
  · refine GoO.skip' c17_31e ?_
    refine GoO.seq' c17_32e ?_
    refine GoO.region' (is := [0, 1, 2]) c17_33e (by kernel_rfl) ?_
    refine GoO.exec (is := [0, 1, 2]) (hs := [.p, .p, .p]) (rest := []) (ks := [2, 3]) (env' := [(2, .string (bs s_17)), (3, .int .i64 0)]) (H' := [⟨40, b_4, [.int .i64 c_1.Kind, .int .u64 c_1.Session, .int .u64 c_1.Seq, .int .u64 c_1.Saga, .slice A_2 c_1.Steps.length c_3, .int .i64 c_1.Step, .bool c_1.Back, .int .i64 c_1.Try, .bool c_1.Ok, .int .u64 c_1.Now]⟩]) (ps := []) (by kernel_rfl) trivial ?_
    refine GoO.regionEnd ?_
    exact GoO.ret' (h := c17_34e) (hs := []) (ps := []) (hk := []) (bk := []) Try.func17 () (by kernel_rfl) trivial (by kernel_rfl) (by kernel_rfl)
theorem tontineref16_Encode_j0_ok (n : Nat) (c_1 : T_api_Command) (A_2 : Option Addr) (c_3 : Nat) (b_4 : Nat) (w0 : World) (S0 : Fam) (b_7 : Bool) :
    GoO (tontineref16_Encode.cx A_2 c_3 w0 S0) [(1, .pointer (some ⟨b_4, 0, none⟩)), (13, .bool b_7)] [⟨40, b_4, [.int .i64 c_1.Kind, .int .u64 c_1.Session, .int .u64 c_1.Seq, .int .u64 c_1.Saga, .slice A_2 c_1.Steps.length c_3, .int .i64 c_1.Step, .bool c_1.Back, .int .i64 c_1.Try, .bool c_1.Ok, .int .u64 c_1.Now]⟩] [Rd 0 kT_api_Step A_2 c_3 c_1.Steps] [.code c17_5, .code c17_10] (tontineref16_Encode.j0 n c_1 b_7) := by
  unfold tontineref16_Encode.j0
  refine GoO.ite' c17_5e (by kernel_rfl) (fun h8 => ?_) (fun h8 => ?_)
  · refine GoO.seq' c17_6e ?_
    refine GoO.region' (is := [0, 1]) c17_7e (by kernel_rfl) ?_
    refine GoO.exec (is := [0, 1]) (hs := [.p, .p]) (rest := []) (ks := [2, 3]) (env' := [(2, .string (bs [])), (3, .int .i64 44)]) (H' := [⟨40, b_4, [.int .i64 c_1.Kind, .int .u64 c_1.Session, .int .u64 c_1.Seq, .int .u64 c_1.Saga, .slice A_2 c_1.Steps.length c_3, .int .i64 c_1.Step, .bool c_1.Back, .int .i64 c_1.Try, .bool c_1.Ok, .int .u64 c_1.Now]⟩]) (ps := []) (by kernel_rfl) trivial ?_
    refine GoO.regionEnd ?_
    exact GoO.ret' (h := c17_8e) (hs := []) (ps := []) (hk := []) (bk := []) Try.func17 () (by kernel_rfl) trivial (by kernel_rfl) (by kernel_rfl)
  · refine GoO.skip' c17_9e ?_
    refine GoO.seq' c17_10e ?_
    refine GoO.seq' c17_11e ?_
    refine GoO.region' (is := [0, 1, 2]) c17_12e (by kernel_rfl) ?_
    refine GoO.exec (is := [0]) (hs := [.b 0]) (rest := [1, 2]) (ks := [1, 14]) (env' := [(1, .pointer (some ⟨b_4, 0, none⟩)), (14, .agg ⟨[.int .i64 c_1.Kind, .int .u64 c_1.Session, .int .u64 c_1.Seq, .int .u64 c_1.Saga, .slice A_2 c_1.Steps.length c_3, .int .i64 c_1.Step, .bool c_1.Back, .int .i64 c_1.Try, .bool c_1.Ok, .int .u64 c_1.Now]⟩)]) (H' := [⟨40, b_4, [.int .i64 c_1.Kind, .int .u64 c_1.Session, .int .u64 c_1.Seq, .int .u64 c_1.Saga, .slice A_2 c_1.Steps.length c_3, .int .i64 c_1.Step, .bool c_1.Back, .int .i64 c_1.Try, .bool c_1.Ok, .int .u64 c_1.Now]⟩]) (ps := [b_4 = b_4]) (by kernel_rfl) (And.intro rfl trivial) ?_
    refine OpTo.go (GoO.call rfl (by kernel_rfl) (by kernel_rfl) (tontineref16_May_ok n c_1 A_2 c_3) [[0]] [] [] [(0, 0)] (hks := [0]) (bks := [0]) (by kernel_rfl) (by kernel_rfl) (by kernel_rfl) (.inl rfl) rfl rfl (by kernel_rfl) (by kernel_rfl) _ (fun _ _ => rfl) _ _ (fun _ _ => rfl) (fun _ _ => rfl) (fun _ _ => by kernel_rfl) (fun _ _ => by kernel_rfl) (fun r_9 x_29 => ?_))
    refine GoO.shape (env' := [(1, .pointer (some ⟨b_4, 0, none⟩)), (14, .agg ⟨[.int .i64 c_1.Kind, .int .u64 c_1.Session, .int .u64 c_1.Seq, .int .u64 c_1.Saga, .slice A_2 c_1.Steps.length c_3, .int .i64 c_1.Step, .bool c_1.Back, .int .i64 c_1.Try, .bool c_1.Ok, .int .u64 c_1.Now]⟩), (15, .bool r_9)]) (H' := [⟨40, b_4, [.int .i64 c_1.Kind, .int .u64 c_1.Session, .int .u64 c_1.Seq, .int .u64 c_1.Saga, .slice A_2 c_1.Steps.length c_3, .int .i64 c_1.Step, .bool c_1.Back, .int .i64 c_1.Try, .bool c_1.Ok, .int .u64 c_1.Now]⟩]) (B' := [Rd 0 kT_api_Step A_2 c_3 c_1.Steps]) (ks := [1, 14, 15]) (by kernel_rfl) (by kernel_rfl) (by kernel_rfl) ?_
    refine GoO.exec (is := [2]) (hs := [.p]) (rest := []) (ks := [1, 16]) (env' := [(1, .pointer (some ⟨b_4, 0, none⟩)), (16, .bool (!r_9))]) (H' := [⟨40, b_4, [.int .i64 c_1.Kind, .int .u64 c_1.Session, .int .u64 c_1.Seq, .int .u64 c_1.Saga, .slice A_2 c_1.Steps.length c_3, .int .i64 c_1.Step, .bool c_1.Back, .int .i64 c_1.Try, .bool c_1.Ok, .int .u64 c_1.Now]⟩]) (ps := []) (by kernel_rfl) trivial ?_
    refine GoO.regionEnd ?_
    refine GoO.ite' c17_13e (by kernel_rfl) (fun h10 => ?_) (fun h10 => ?_)
    · refine GoO.seq' c17_14e ?_
      refine GoO.region' (is := [0, 1]) c17_15e (by kernel_rfl) ?_
      refine GoO.exec (is := [0, 1]) (hs := [.p, .p]) (rest := []) (ks := [2, 3]) (env' := [(2, .string (bs [])), (3, .int .i64 1)]) (H' := [⟨40, b_4, [.int .i64 c_1.Kind, .int .u64 c_1.Session, .int .u64 c_1.Seq, .int .u64 c_1.Saga, .slice A_2 c_1.Steps.length c_3, .int .i64 c_1.Step, .bool c_1.Back, .int .i64 c_1.Try, .bool c_1.Ok, .int .u64 c_1.Now]⟩]) (ps := []) (by kernel_rfl) trivial ?_
      refine GoO.regionEnd ?_
      exact GoO.ret' (h := c17_16e) (hs := []) (ps := []) (hk := []) (bk := []) Try.func17 () (by kernel_rfl) trivial (by kernel_rfl) (by kernel_rfl)
    · refine GoO.skip' c17_17e ?_
      refine GoO.seq' c17_18e ?_
      refine GoO.region' (is := [0, 1, 2, 3, 4, 5, 6, 7, 8, 9, 10, 11, 12, 13]) c17_19e (by kernel_rfl) ?_
      refine GoO.exec (is := [0, 1, 2, 3, 4, 5, 6, 7, 8, 9, 10]) (hs := [.p, .b 0, .p, .p, .b 0, .p, .b 0, .p, .b 0, .p, .b 0]) (rest := [11, 12, 13]) (ks := [1, 19, 21, 23, 25, 27]) (env' := [(1, .pointer (some ⟨b_4, 0, none⟩)), (19, .int .u64 (wu64 c_1.Kind)), (21, .int .u64 c_1.Session), (23, .int .u64 c_1.Seq), (25, .int .u64 c_1.Saga), (27, .int .u64 c_1.Now)]) (H' := [⟨40, b_4, [.int .i64 c_1.Kind, .int .u64 c_1.Session, .int .u64 c_1.Seq, .int .u64 c_1.Saga, .slice A_2 c_1.Steps.length c_3, .int .i64 c_1.Step, .bool c_1.Back, .int .i64 c_1.Try, .bool c_1.Ok, .int .u64 c_1.Now]⟩]) (ps := [b_4 = b_4, b_4 = b_4, b_4 = b_4, b_4 = b_4, b_4 = b_4]) (by kernel_rfl) (And.intro rfl (And.intro rfl (And.intro rfl (And.intro rfl (And.intro rfl trivial))))) ?_
      refine OpTo.go (GoO.lit (e := 22) (K := (Kd.int .u64)) rfl (by kernel_rfl) (by kernel_rfl) (cs := [.int .u64 (wu64 c_1.Kind), .int .u64 c_1.Session, .int .u64 c_1.Seq, .int .u64 c_1.Saga, .int .u64 c_1.Now]) (by kernel_rfl) [wu64 c_1.Kind, c_1.Session, c_1.Seq, c_1.Saga, c_1.Now] (by kernel_rfl) (by kernel_rfl) (fun w S hB => ⟨[.int .u64 (wu64 c_1.Kind)], _, rfl, rfl, ⟨[.int .u64 c_1.Session], _, rfl, rfl, ⟨[.int .u64 c_1.Seq], _, rfl, rfl, ⟨[.int .u64 c_1.Saga], _, rfl, rfl, ⟨[.int .u64 c_1.Now], _, rfl, rfl, rfl⟩⟩⟩⟩⟩) 41 _ (fun _ _ => rfl) (fun A_11 c_12 => ?_))
      refine GoO.view (j := 0) rfl ?_
      refine OpTo.go (GoO.call rfl (by kernel_rfl) (by kernel_rfl) (tontineref16_nums_ok n [wu64 c_1.Kind, c_1.Session, c_1.Seq, c_1.Saga, c_1.Now] A_11 c_12) [[0, 41]] [] [] [(0, 2)] (hks := [0]) (bks := [0, 1]) (by kernel_rfl) (by kernel_rfl) (by kernel_rfl) (.inr (fun _ _ => by simp [tontineref16_nums.R])) rfl rfl (by kernel_rfl) (by kernel_rfl) _ (fun _ _ => rfl) _ _ (fun _ _ => rfl) (fun _ _ => rfl) (fun _ _ => by kernel_rfl) (fun _ _ => by kernel_rfl) (fun r_13 x_28 => ?_))
      refine GoO.shape (env' := [(1, .pointer (some ⟨b_4, 0, none⟩)), (19, .int .u64 (wu64 c_1.Kind)), (21, .int .u64 c_1.Session), (23, .int .u64 c_1.Seq), (25, .int .u64 c_1.Saga), (27, .int .u64 c_1.Now), (28, .slice A_11 [wu64 c_1.Kind, c_1.Session, c_1.Seq, c_1.Saga, c_1.Now].length c_12), (29, .string (bs r_13))]) (H' := [⟨40, b_4, [.int .i64 c_1.Kind, .int .u64 c_1.Session, .int .u64 c_1.Seq, .int .u64 c_1.Saga, .slice A_2 c_1.Steps.length c_3, .int .i64 c_1.Step, .bool c_1.Back, .int .i64 c_1.Try, .bool c_1.Ok, .int .u64 c_1.Now]⟩]) (B' := [Ow 41 (Kd.int .u64) A_11 c_12 [wu64 c_1.Kind, c_1.Session, c_1.Seq, c_1.Saga, c_1.Now], Rd 0 kT_api_Step A_2 c_3 c_1.Steps]) (ks := [1, 19, 21, 23, 25, 27, 28, 29]) (by kernel_rfl) (by kernel_rfl) (by kernel_rfl) ?_
      refine GoO.exec (is := [13]) (hs := [.p]) (rest := []) (ks := [1, 4]) (env' := [(1, .pointer (some ⟨b_4, 0, none⟩)), (4, .string (bs r_13))]) (H' := [⟨40, b_4, [.int .i64 c_1.Kind, .int .u64 c_1.Session, .int .u64 c_1.Seq, .int .u64 c_1.Saga, .slice A_2 c_1.Steps.length c_3, .int .i64 c_1.Step, .bool c_1.Back, .int .i64 c_1.Try, .bool c_1.Ok, .int .u64 c_1.Now]⟩]) (ps := []) (by kernel_rfl) trivial ?_
      refine GoO.regionEnd ?_
      refine GoO.seq' c17_20e ?_
      refine GoO.seq' c17_21e ?_
      refine GoO.region' (is := [0, 1, 2]) c17_22e (by kernel_rfl) ?_
      refine GoO.exec (is := [0, 1, 2]) (hs := [.p, .b 0, .p]) (rest := []) (ks := [1, 4, 32]) (env' := [(1, .pointer (some ⟨b_4, 0, none⟩)), (4, .string (bs r_13)), (32, .bool (c_1.Kind == 2))]) (H' := [⟨40, b_4, [.int .i64 c_1.Kind, .int .u64 c_1.Session, .int .u64 c_1.Seq, .int .u64 c_1.Saga, .slice A_2 c_1.Steps.length c_3, .int .i64 c_1.Step, .bool c_1.Back, .int .i64 c_1.Try, .bool c_1.Ok, .int .u64 c_1.Now]⟩]) (ps := [b_4 = b_4]) (by kernel_rfl) (And.intro rfl trivial) ?_
      refine GoO.regionEnd ?_
      refine GoO.ite' c17_23e (by kernel_rfl) (fun h14 => ?_) (fun h14 => ?_)
      · refine GoO.region' (is := [0, 1, 2, 3, 4, 5]) c17_24e (by kernel_rfl) ?_
        refine GoO.exec (is := [0, 1, 2]) (hs := [.p, .p, .b 0]) (rest := [3, 4, 5]) (ks := [1, 33, 35]) (env' := [(1, .pointer (some ⟨b_4, 0, none⟩)), (33, .string (bs r_13)), (35, .slice A_2 c_1.Steps.length c_3)]) (H' := [⟨40, b_4, [.int .i64 c_1.Kind, .int .u64 c_1.Session, .int .u64 c_1.Seq, .int .u64 c_1.Saga, .slice A_2 c_1.Steps.length c_3, .int .i64 c_1.Step, .bool c_1.Back, .int .i64 c_1.Try, .bool c_1.Ok, .int .u64 c_1.Now]⟩]) (ps := [b_4 = b_4]) (by kernel_rfl) (And.intro rfl trivial) ?_
        refine OpTo.go (GoO.call rfl (by kernel_rfl) (by kernel_rfl) (tontineref13_Bytes_ok n c_1.Steps A_2 c_3) [[0]] [] [] [(0, 1)] (hks := [0]) (bks := [0, 1]) (by kernel_rfl) (by kernel_rfl) (by kernel_rfl) (.inl rfl) rfl rfl (by kernel_rfl) (by kernel_rfl) _ (fun _ _ => rfl) _ _ (fun _ _ => rfl) (fun _ _ => rfl) (fun _ _ => by kernel_rfl) (fun _ _ => by kernel_rfl) (fun r_15 x_17 => ?_))
        refine GoO.shape (env' := [(1, .pointer (some ⟨b_4, 0, none⟩)), (33, .string (bs r_13)), (35, .slice A_2 c_1.Steps.length c_3), (36, .string (bs r_15))]) (H' := [⟨40, b_4, [.int .i64 c_1.Kind, .int .u64 c_1.Session, .int .u64 c_1.Seq, .int .u64 c_1.Saga, .slice A_2 c_1.Steps.length c_3, .int .i64 c_1.Step, .bool c_1.Back, .int .i64 c_1.Try, .bool c_1.Ok, .int .u64 c_1.Now]⟩]) (B' := [Ow 41 (Kd.int .u64) A_11 c_12 [wu64 c_1.Kind, c_1.Session, c_1.Seq, c_1.Saga, c_1.Now], Rd 0 kT_api_Step A_2 c_3 c_1.Steps]) (ks := [1, 33, 35, 36]) (by kernel_rfl) (by kernel_rfl) (by kernel_rfl) ?_
        refine GoO.guard (fun h16 => ?_)
        refine GoO.exec (is := [4, 5]) (hs := [.p, .p]) (rest := []) (ks := [1, 4]) (env' := [(1, .pointer (some ⟨b_4, 0, none⟩)), (4, .string (bs (r_13 ++ r_15)))]) (H' := [⟨40, b_4, [.int .i64 c_1.Kind, .int .u64 c_1.Session, .int .u64 c_1.Seq, .int .u64 c_1.Saga, .slice A_2 c_1.Steps.length c_3, .int .i64 c_1.Step, .bool c_1.Back, .int .i64 c_1.Try, .bool c_1.Ok, .int .u64 c_1.Now]⟩]) (ps := [r_13.length + r_15.length ≤ i64max]) (by kernel_rfl) (And.intro h16 trivial) ?_
        refine GoO.regionEnd ?_
        exact GoO.sub (ks := [1, 4]) (hk := [0]) (bk := [1]) (by kernel_rfl) (by kernel_rfl) (by kernel_rfl) (tontineref16_Encode_j1_ok n c_1 A_2 c_3 b_4 w0 S0 (r_13 ++ r_15))
      · refine GoO.skip' c17_25e ?_
        exact GoO.sub (ks := [1, 4]) (hk := [0]) (bk := [1]) (by kernel_rfl) (by kernel_rfl) (by kernel_rfl) (tontineref16_Encode_j1_ok n c_1 A_2 c_3 b_4 w0 S0 r_13)
theorem tontineref16_Encode_ok (n : Nat) (c_1 : T_api_Command) (A_2 : Option Addr) (c_3 : Nat) :
    Meets Try.prog 17 [.agg ⟨[.int .i64 c_1.Kind, .int .u64 c_1.Session, .int .u64 c_1.Seq, .int .u64 c_1.Saga, .slice A_2 c_1.Steps.length c_3, .int .i64 c_1.Step, .bool c_1.Back, .int .i64 c_1.Try, .bool c_1.Ok, .int .u64 c_1.Now]⟩] 0 [] [] [Rd 0 kT_api_Step A_2 c_3 c_1.Steps] (tontineref16_Encode.f n c_1) (tontineref16_Encode.R A_2 c_3) := by
  refine Meets.of (c := c17_0) (n := 58) Try.func17 (by kernel_rfl) (by kernel_rfl) (by kernel_rfl) fun w0 S0 => ?_
  unfold tontineref16_Encode.f
  show GoO (tontineref16_Encode.cx A_2 c_3 w0 S0) [(0, .agg ⟨[.int .i64 c_1.Kind, .int .u64 c_1.Session, .int .u64 c_1.Seq, .int .u64 c_1.Saga, .slice A_2 c_1.Steps.length c_3, .int .i64 c_1.Step, .bool c_1.Back, .int .i64 c_1.Try, .bool c_1.Ok, .int .u64 c_1.Now]⟩)] [] [Rd 0 kT_api_Step A_2 c_3 c_1.Steps] [.code c17_0] _
  refine GoO.seq' c17_0e ?_
  refine GoO.region' (is := [0, 1, 2]) c17_1e (by kernel_rfl) ?_
  refine OpTo.go (GoO.new rfl 40 (cs := [.int .i64 c_1.Kind, .int .u64 c_1.Session, .int .u64 c_1.Seq, .int .u64 c_1.Saga, .slice A_2 c_1.Steps.length c_3, .int .i64 c_1.Step, .bool c_1.Back, .int .i64 c_1.Try, .bool c_1.Ok, .int .u64 c_1.Now]) (by kernel_rfl) _ (fun _ => rfl) (fun b_4 => ?_))
  refine GoO.exec (is := [1, 2]) (hs := [.p, .p]) (rest := []) (ks := [1]) (env' := [(1, .pointer (some ⟨b_4, 0, none⟩))]) (H' := [⟨40, b_4, [.int .i64 c_1.Kind, .int .u64 c_1.Session, .int .u64 c_1.Seq, .int .u64 c_1.Saga, .slice A_2 c_1.Steps.length c_3, .int .i64 c_1.Step, .bool c_1.Back, .int .i64 c_1.Try, .bool c_1.Ok, .int .u64 c_1.Now]⟩]) (ps := []) (by kernel_rfl) trivial ?_
  refine GoO.regionEnd ?_
  refine GoO.seq' c17_2e ?_
  refine GoO.seq' c17_3e ?_
  refine GoO.region' (is := [0, 1, 2, 3, 4, 5, 6, 7, 8]) c17_4e (by kernel_rfl) ?_
  refine GoO.exec (is := [0, 1, 2, 3]) (hs := [.p, .b 0, .p, .p]) (rest := [4, 5, 6, 7, 8]) (ks := [1, 8]) (env' := [(1, .pointer (some ⟨b_4, 0, none⟩)), (8, .bool (c_1.Kind == 2))]) (H' := [⟨40, b_4, [.int .i64 c_1.Kind, .int .u64 c_1.Session, .int .u64 c_1.Seq, .int .u64 c_1.Saga, .slice A_2 c_1.Steps.length c_3, .int .i64 c_1.Step, .bool c_1.Back, .int .i64 c_1.Try, .bool c_1.Ok, .int .u64 c_1.Now]⟩]) (ps := [b_4 = b_4]) (by kernel_rfl) (And.intro rfl trivial) ?_
  refine GoO.bsplit (t := 8) (by kernel_rfl) (fun h5 => ?_) (fun h5 => ?_)
  · refine GoO.exec (is := [4, 5]) (hs := [.p, .b 0]) (rest := [6, 7, 8]) (ks := [1, 8, 10]) (env' := [(1, .pointer (some ⟨b_4, 0, none⟩)), (8, .bool true), (10, .slice A_2 c_1.Steps.length c_3)]) (H' := [⟨40, b_4, [.int .i64 c_1.Kind, .int .u64 c_1.Session, .int .u64 c_1.Seq, .int .u64 c_1.Saga, .slice A_2 c_1.Steps.length c_3, .int .i64 c_1.Step, .bool c_1.Back, .int .i64 c_1.Try, .bool c_1.Ok, .int .u64 c_1.Now]⟩]) (ps := [b_4 = b_4]) (by kernel_rfl) (And.intro rfl trivial) ?_
    refine OpTo.go (GoO.call rfl (by kernel_rfl) (by kernel_rfl) (tontineref13_Check_ok n c_1.Steps A_2 c_3) [[0]] [] [] [(0, 0)] (hks := [0]) (bks := [0]) (by kernel_rfl) (by kernel_rfl) (by kernel_rfl) (.inl rfl) rfl rfl (by kernel_rfl) (by kernel_rfl) _ (fun _ _ => rfl) _ _ (fun _ _ => rfl) (fun _ _ => rfl) (fun _ _ => by kernel_rfl) (fun _ _ => by kernel_rfl) (fun r_6 x_7 => ?_))
    refine GoO.shape (env' := [(1, .pointer (some ⟨b_4, 0, none⟩)), (8, .bool true), (10, .slice A_2 c_1.Steps.length c_3), (11, .int .i64 r_6)]) (H' := [⟨40, b_4, [.int .i64 c_1.Kind, .int .u64 c_1.Session, .int .u64 c_1.Seq, .int .u64 c_1.Saga, .slice A_2 c_1.Steps.length c_3, .int .i64 c_1.Step, .bool c_1.Back, .int .i64 c_1.Try, .bool c_1.Ok, .int .u64 c_1.Now]⟩]) (B' := [Rd 0 kT_api_Step A_2 c_3 c_1.Steps]) (ks := [1, 8, 10, 11]) (by kernel_rfl) (by kernel_rfl) (by kernel_rfl) ?_
    refine GoO.exec (is := [7, 8]) (hs := [.p, .p]) (rest := []) (ks := [1, 13]) (env' := [(1, .pointer (some ⟨b_4, 0, none⟩)), (13, .bool (r_6 != 0))]) (H' := [⟨40, b_4, [.int .i64 c_1.Kind, .int .u64 c_1.Session, .int .u64 c_1.Seq, .int .u64 c_1.Saga, .slice A_2 c_1.Steps.length c_3, .int .i64 c_1.Step, .bool c_1.Back, .int .i64 c_1.Try, .bool c_1.Ok, .int .u64 c_1.Now]⟩]) (ps := []) (by kernel_rfl) trivial ?_
    refine GoO.regionEnd ?_
    exact GoO.sub (ks := [1, 13]) (hk := [0]) (bk := [0]) (by kernel_rfl) (by kernel_rfl) (by kernel_rfl) (tontineref16_Encode_j0_ok n c_1 A_2 c_3 b_4 w0 S0 (r_6 != 0))
  · refine GoO.exec (is := [4, 5, 6, 7, 8]) (hs := [.p, .p, .p, .p, .p]) (rest := []) (ks := [1, 13]) (env' := [(1, .pointer (some ⟨b_4, 0, none⟩)), (13, .bool false)]) (H' := [⟨40, b_4, [.int .i64 c_1.Kind, .int .u64 c_1.Session, .int .u64 c_1.Seq, .int .u64 c_1.Saga, .slice A_2 c_1.Steps.length c_3, .int .i64 c_1.Step, .bool c_1.Back, .int .i64 c_1.Try, .bool c_1.Ok, .int .u64 c_1.Now]⟩]) (ps := []) (by kernel_rfl) trivial ?_
    refine GoO.regionEnd ?_
    exact GoO.sub (ks := [1, 13]) (hk := [0]) (bk := [0]) (by kernel_rfl) (by kernel_rfl) (by kernel_rfl) (tontineref16_Encode_j0_ok n c_1 A_2 c_3 b_4 w0 S0 false)

/-! tontine/tontinelaw16.CommandEncodes -/
noncomputable def c3_0 : Code := bodyOf Try.f3
noncomputable def c3_1 : Code := cdL c3_0
noncomputable def c3_2 : Code := cdR c3_0
noncomputable def c3_3 : Code := cdL c3_2
noncomputable def c3_4 : Code := cdL c3_3
noncomputable def c3_5 : Code := cdR c3_3
noncomputable def c3_6 : Code := cdL c3_5
noncomputable def c3_7 : Code := cdL c3_6
noncomputable def c3_8 : Code := cdR c3_6
noncomputable def c3_9 : Code := cdR c3_5
noncomputable def c3_10 : Code := cdR c3_2
noncomputable def c3_11 : Code := cdL c3_10
noncomputable def c3_12 : Code := cdR c3_10
noncomputable def c3_13 : Code := cdL c3_12
noncomputable def c3_14 : Code := cdR c3_12
noncomputable def c3_15 : Code := cdL c3_14
noncomputable def c3_16 : Code := cdR c3_14
noncomputable def r3_1 : Array Oper := cdO c3_1
noncomputable def r3_4 : Array Oper := cdO c3_4
noncomputable def r3_7 : Array Oper := cdO c3_7
noncomputable def r3_11 : Array Oper := cdO c3_11
noncomputable def r3_13 : Array Oper := cdO c3_13
noncomputable def r3_15 : Array Oper := cdO c3_15
theorem c3_0e : c3_0 = .seq c3_1 c3_2 := by kernel_rfl
theorem c3_1e : c3_1 = .region 0 r3_1 false := by kernel_rfl
theorem c3_2e : c3_2 = .seq c3_3 c3_10 := by kernel_rfl
theorem c3_3e : c3_3 = .seq c3_4 c3_5 := by kernel_rfl
theorem c3_4e : c3_4 = .region 1 r3_4 false := by kernel_rfl
theorem c3_5e : c3_5 = .cond (cdC c3_5) c3_6 c3_9 := by kernel_rfl
theorem c3_6e : c3_6 = .seq c3_7 c3_8 := by kernel_rfl
theorem c3_7e : c3_7 = .region 2 r3_7 false := by kernel_rfl
theorem c3_8e : c3_8 = .ret := by kernel_rfl
theorem c3_9e : c3_9 = .skip := by kernel_rfl
theorem c3_10e : c3_10 = .seq c3_11 c3_12 := by kernel_rfl
theorem c3_11e : c3_11 = .region 3 r3_11 false := by kernel_rfl
theorem c3_12e : c3_12 = .seq c3_13 c3_14 := by kernel_rfl
theorem c3_13e : c3_13 = .region 4 r3_13 false := by kernel_rfl
theorem c3_14e : c3_14 = .seq c3_15 c3_16 := by kernel_rfl
theorem c3_15e : c3_15 = .region 5 r3_15 true := by kernel_rfl
theorem c3_16e : c3_16 = .ret := by kernel_rfl
noncomputable def tontinelaw16_CommandEncodes.R (A_2 : Option Addr) (c_3 : Nat) : Pst Bool where
  ε := Unit
  v := fun r x => .bool r
  H := fun r x => []
  B := fun r x => []
noncomputable def tontinelaw16_CommandEncodes.cx (A_2 : Option Addr) (c_3 : Nat) (w0 : World) (S0 : Fam) : Cx Bool := ⟨Try.prog, 3, Try.f3, 34, w0, S0, [], 0, tontinelaw16_CommandEncodes.R A_2 c_3⟩
theorem tontinelaw16_CommandEncodes_ok (n : Nat) (c_1 : T_api_Command) (A_2 : Option Addr) (c_3 : Nat) :
    Meets Try.prog 3 [.agg ⟨[.int .i64 c_1.Kind, .int .u64 c_1.Session, .int .u64 c_1.Seq, .int .u64 c_1.Saga, .slice A_2 c_1.Steps.length c_3, .int .i64 c_1.Step, .bool c_1.Back, .int .i64 c_1.Try, .bool c_1.Ok, .int .u64 c_1.Now]⟩] 0 [] [] [Rd 0 kT_api_Step A_2 c_3 c_1.Steps] (tontinelaw16_CommandEncodes.f n c_1) (tontinelaw16_CommandEncodes.R A_2 c_3) := by
  refine Meets.of (c := c3_0) (n := 34) Try.func3 (by kernel_rfl) (by kernel_rfl) (by kernel_rfl) fun w0 S0 => ?_
  unfold tontinelaw16_CommandEncodes.f
  show GoO (tontinelaw16_CommandEncodes.cx A_2 c_3 w0 S0) [(0, .agg ⟨[.int .i64 c_1.Kind, .int .u64 c_1.Session, .int .u64 c_1.Seq, .int .u64 c_1.Saga, .slice A_2 c_1.Steps.length c_3, .int .i64 c_1.Step, .bool c_1.Back, .int .i64 c_1.Try, .bool c_1.Ok, .int .u64 c_1.Now]⟩)] [] [Rd 0 kT_api_Step A_2 c_3 c_1.Steps] [.code c3_0] _
  refine GoO.seq' c3_0e ?_
  refine GoO.region' (is := [0, 1]) c3_1e (by kernel_rfl) ?_
  refine OpTo.go (GoO.new rfl 40 (cs := [.int .i64 c_1.Kind, .int .u64 c_1.Session, .int .u64 c_1.Seq, .int .u64 c_1.Saga, .slice A_2 c_1.Steps.length c_3, .int .i64 c_1.Step, .bool c_1.Back, .int .i64 c_1.Try, .bool c_1.Ok, .int .u64 c_1.Now]) (by kernel_rfl) _ (fun _ => rfl) (fun b_4 => ?_))
  refine GoO.exec (is := [1]) (hs := [.p]) (rest := []) (ks := [1]) (env' := [(1, .pointer (some ⟨b_4, 0, none⟩))]) (H' := [⟨40, b_4, [.int .i64 c_1.Kind, .int .u64 c_1.Session, .int .u64 c_1.Seq, .int .u64 c_1.Saga, .slice A_2 c_1.Steps.length c_3, .int .i64 c_1.Step, .bool c_1.Back, .int .i64 c_1.Try, .bool c_1.Ok, .int .u64 c_1.Now]⟩]) (ps := []) (by kernel_rfl) trivial ?_
  refine GoO.regionEnd ?_
  refine GoO.seq' c3_2e ?_
  refine GoO.seq' c3_3e ?_
  refine GoO.region' (is := [0, 1]) c3_4e (by kernel_rfl) ?_
  refine OpTo.go (GoO.call rfl (by kernel_rfl) (by kernel_rfl) (tontinelaw16_begun_ok n) [[0]] [] [] [] (hks := [0]) (bks := [0]) (by kernel_rfl) (by kernel_rfl) (by kernel_rfl) (.inl rfl) rfl rfl (by kernel_rfl) (by kernel_rfl) _ (fun _ _ => rfl) _ _ (fun _ _ => rfl) (fun _ _ => rfl) (fun _ _ => by kernel_rfl) (fun _ _ => by kernel_rfl) (fun r_5 x_17 => ?_))
  refine GoO.shape (env' := [(1, .pointer (some ⟨b_4, 0, none⟩)), (7, .bool r_5)]) (H' := [⟨40, b_4, [.int .i64 c_1.Kind, .int .u64 c_1.Session, .int .u64 c_1.Seq, .int .u64 c_1.Saga, .slice A_2 c_1.Steps.length c_3, .int .i64 c_1.Step, .bool c_1.Back, .int .i64 c_1.Try, .bool c_1.Ok, .int .u64 c_1.Now]⟩]) (B' := [Rd 0 kT_api_Step A_2 c_3 c_1.Steps]) (ks := [1, 7]) (by kernel_rfl) (by kernel_rfl) (by kernel_rfl) ?_
  refine GoO.exec (is := [1]) (hs := [.p]) (rest := []) (ks := [1, 8]) (env' := [(1, .pointer (some ⟨b_4, 0, none⟩)), (8, .bool (!r_5))]) (H' := [⟨40, b_4, [.int .i64 c_1.Kind, .int .u64 c_1.Session, .int .u64 c_1.Seq, .int .u64 c_1.Saga, .slice A_2 c_1.Steps.length c_3, .int .i64 c_1.Step, .bool c_1.Back, .int .i64 c_1.Try, .bool c_1.Ok, .int .u64 c_1.Now]⟩]) (ps := []) (by kernel_rfl) trivial ?_
  refine GoO.regionEnd ?_
  refine GoO.ite' c3_5e (by kernel_rfl) (fun h6 => ?_) (fun h6 => ?_)
  · refine GoO.seq' c3_6e ?_
    refine GoO.region' (is := [0]) c3_7e (by kernel_rfl) ?_
    refine GoO.exec (is := [0]) (hs := [.p]) (rest := []) (ks := [2]) (env' := [(2, .bool false)]) (H' := [⟨40, b_4, [.int .i64 c_1.Kind, .int .u64 c_1.Session, .int .u64 c_1.Seq, .int .u64 c_1.Saga, .slice A_2 c_1.Steps.length c_3, .int .i64 c_1.Step, .bool c_1.Back, .int .i64 c_1.Try, .bool c_1.Ok, .int .u64 c_1.Now]⟩]) (ps := []) (by kernel_rfl) trivial ?_
    refine GoO.regionEnd ?_
    exact GoO.ret' (h := c3_8e) (hs := []) (ps := []) (hk := []) (bk := []) Try.func3 () (by kernel_rfl) trivial (by kernel_rfl) (by kernel_rfl)
  · refine GoO.skip' c3_9e ?_
    refine GoO.seq' c3_10e ?_
    refine GoO.region' (is := [0, 1, 2, 3, 4, 5, 6]) c3_11e (by kernel_rfl) ?_
    refine GoO.exec (is := [0]) (hs := [.b 0]) (rest := [1, 2, 3, 4, 5, 6]) (ks := [1, 10]) (env' := [(1, .pointer (some ⟨b_4, 0, none⟩)), (10, .agg ⟨[.int .i64 c_1.Kind, .int .u64 c_1.Session, .int .u64 c_1.Seq, .int .u64 c_1.Saga, .slice A_2 c_1.Steps.length c_3, .int .i64 c_1.Step, .bool c_1.Back, .int .i64 c_1.Try, .bool c_1.Ok, .int .u64 c_1.Now]⟩)]) (H' := [⟨40, b_4, [.int .i64 c_1.Kind, .int .u64 c_1.Session, .int .u64 c_1.Seq, .int .u64 c_1.Saga, .slice A_2 c_1.Steps.length c_3, .int .i64 c_1.Step, .bool c_1.Back, .int .i64 c_1.Try, .bool c_1.Ok, .int .u64 c_1.Now]⟩]) (ps := [b_4 = b_4]) (by kernel_rfl) (And.intro rfl trivial) ?_
    refine OpTo.go (GoO.call rfl (by kernel_rfl) (by kernel_rfl) (command_Encode_ok n c_1 A_2 c_3) [[0]] [] [] [(0, 0)] (hks := [0]) (bks := [0]) (by kernel_rfl) (by kernel_rfl) (by kernel_rfl) (.inl rfl) rfl rfl (by kernel_rfl) (by kernel_rfl) _ (fun _ _ => rfl) _ _ (fun _ _ => rfl) (fun _ _ => rfl) (fun _ _ => by kernel_rfl) (fun _ _ => by kernel_rfl) (fun r_7 x_16 => ?_))
    refine GoO.shape (env' := [(1, .pointer (some ⟨b_4, 0, none⟩)), (10, .agg ⟨[.int .i64 c_1.Kind, .int .u64 c_1.Session, .int .u64 c_1.Seq, .int .u64 c_1.Saga, .slice A_2 c_1.Steps.length c_3, .int .i64 c_1.Step, .bool c_1.Back, .int .i64 c_1.Try, .bool c_1.Ok, .int .u64 c_1.Now]⟩), (11, .tuple ⟨[.string (bs r_7.1), .int .i64 r_7.2]⟩)]) (H' := [⟨40, b_4, [.int .i64 c_1.Kind, .int .u64 c_1.Session, .int .u64 c_1.Seq, .int .u64 c_1.Saga, .slice A_2 c_1.Steps.length c_3, .int .i64 c_1.Step, .bool c_1.Back, .int .i64 c_1.Try, .bool c_1.Ok, .int .u64 c_1.Now]⟩]) (B' := [Rd 0 kT_api_Step A_2 c_3 c_1.Steps]) (ks := [1, 10, 11]) (by kernel_rfl) (by kernel_rfl) (by kernel_rfl) ?_
    refine GoO.exec (is := [2, 3, 4, 5, 6]) (hs := [.p, .p, .p, .p, .p]) (rest := []) (ks := [1, 3, 4]) (env' := [(1, .pointer (some ⟨b_4, 0, none⟩)), (3, .string (bs r_7.1)), (4, .int .i64 r_7.2)]) (H' := [⟨40, b_4, [.int .i64 c_1.Kind, .int .u64 c_1.Session, .int .u64 c_1.Seq, .int .u64 c_1.Saga, .slice A_2 c_1.Steps.length c_3, .int .i64 c_1.Step, .bool c_1.Back, .int .i64 c_1.Try, .bool c_1.Ok, .int .u64 c_1.Now]⟩]) (ps := []) (by kernel_rfl) trivial ?_
    refine GoO.regionEnd ?_
    refine GoO.seq' c3_12e ?_
    refine GoO.region' (is := [0, 1, 2, 3, 4, 5, 6]) c3_13e (by kernel_rfl) ?_
    refine GoO.exec (is := [0]) (hs := [.b 0]) (rest := [1, 2, 3, 4, 5, 6]) (ks := [1, 3, 4, 15]) (env' := [(1, .pointer (some ⟨b_4, 0, none⟩)), (3, .string (bs r_7.1)), (4, .int .i64 r_7.2), (15, .agg ⟨[.int .i64 c_1.Kind, .int .u64 c_1.Session, .int .u64 c_1.Seq, .int .u64 c_1.Saga, .slice A_2 c_1.Steps.length c_3, .int .i64 c_1.Step, .bool c_1.Back, .int .i64 c_1.Try, .bool c_1.Ok, .int .u64 c_1.Now]⟩)]) (H' := [⟨40, b_4, [.int .i64 c_1.Kind, .int .u64 c_1.Session, .int .u64 c_1.Seq, .int .u64 c_1.Saga, .slice A_2 c_1.Steps.length c_3, .int .i64 c_1.Step, .bool c_1.Back, .int .i64 c_1.Try, .bool c_1.Ok, .int .u64 c_1.Now]⟩]) (ps := [b_4 = b_4]) (by kernel_rfl) (And.intro rfl trivial) ?_
    refine OpTo.go (GoO.call rfl (by kernel_rfl) (by kernel_rfl) (tontineref16_Encode_ok n c_1 A_2 c_3) [[0]] [] [] [(0, 0)] (hks := [0]) (bks := [0]) (by kernel_rfl) (by kernel_rfl) (by kernel_rfl) (.inl rfl) rfl rfl (by kernel_rfl) (by kernel_rfl) _ (fun _ _ => rfl) _ _ (fun _ _ => rfl) (fun _ _ => rfl) (fun _ _ => by kernel_rfl) (fun _ _ => by kernel_rfl) (fun r_8 x_15 => ?_))
    refine GoO.shape (env' := [(1, .pointer (some ⟨b_4, 0, none⟩)), (3, .string (bs r_7.1)), (4, .int .i64 r_7.2), (15, .agg ⟨[.int .i64 c_1.Kind, .int .u64 c_1.Session, .int .u64 c_1.Seq, .int .u64 c_1.Saga, .slice A_2 c_1.Steps.length c_3, .int .i64 c_1.Step, .bool c_1.Back, .int .i64 c_1.Try, .bool c_1.Ok, .int .u64 c_1.Now]⟩), (16, .tuple ⟨[.string (bs r_8.1), .int .i64 r_8.2]⟩)]) (H' := [⟨40, b_4, [.int .i64 c_1.Kind, .int .u64 c_1.Session, .int .u64 c_1.Seq, .int .u64 c_1.Saga, .slice A_2 c_1.Steps.length c_3, .int .i64 c_1.Step, .bool c_1.Back, .int .i64 c_1.Try, .bool c_1.Ok, .int .u64 c_1.Now]⟩]) (B' := [Rd 0 kT_api_Step A_2 c_3 c_1.Steps]) (ks := [1, 3, 4, 15, 16]) (by kernel_rfl) (by kernel_rfl) (by kernel_rfl) ?_
    refine GoO.exec (is := [2, 3, 4, 5, 6]) (hs := [.p, .p, .p, .p, .p]) (rest := []) (ks := [1, 3, 4, 5, 6]) (env' := [(1, .pointer (some ⟨b_4, 0, none⟩)), (3, .string (bs r_7.1)), (4, .int .i64 r_7.2), (5, .string (bs r_8.1)), (6, .int .i64 r_8.2)]) (H' := [⟨40, b_4, [.int .i64 c_1.Kind, .int .u64 c_1.Session, .int .u64 c_1.Seq, .int .u64 c_1.Saga, .slice A_2 c_1.Steps.length c_3, .int .i64 c_1.Step, .bool c_1.Back, .int .i64 c_1.Try, .bool c_1.Ok, .int .u64 c_1.Now]⟩]) (ps := []) (by kernel_rfl) trivial ?_
    refine GoO.regionEnd ?_
    refine GoO.seq' c3_14e ?_
    refine GoO.draw c3_15e (by kernel_rfl) [15] [⟨40, b_4, [.int .i64 c_1.Kind, .int .u64 c_1.Session, .int .u64 c_1.Seq, .int .u64 c_1.Saga, .slice A_2 c_1.Steps.length c_3, .int .i64 c_1.Step, .bool c_1.Back, .int .i64 c_1.Try, .bool c_1.Ok, .int .u64 c_1.Now]⟩] [] (n := 16) (by kernel_rfl) ?_
    simp only [List.replicate]
    refine GoF.take [0, 1, 2, 3] [.p, .p, .p, .p] (ks := [1, 4, 6, 22]) (fu := 12) (li := [true, true, true, true, false, false, false, false, false, false, false, false, false, false, false, false]) (env' := [(1, .pointer (some ⟨b_4, 0, none⟩)), (4, .int .i64 r_7.2), (6, .int .i64 r_8.2), (22, .bool (r_7.1 == r_8.1))]) (ps := []) (hk := [0]) (bk := []) (by kernel_rfl) trivial rfl rfl ?_
    refine GoF.bsplit (t := 22) (by kernel_rfl) (fun h9 => ?_) (fun h9 => ?_)
    · refine GoF.take [4, 5, 6, 7, 8] [.p, .p, .p, .p, .p] (ks := [1, 27]) (fu := 7) (li := [true, true, true, true, true, true, true, true, true, false, false, false, false, false, false, false]) (env' := [(1, .pointer (some ⟨b_4, 0, none⟩)), (27, .bool (r_7.2 == r_8.2))]) (ps := []) (hk := [0]) (bk := []) (by kernel_rfl) trivial rfl rfl ?_
      refine GoF.bsplit (t := 27) (by kernel_rfl) (fun h10 => ?_) (fun h10 => ?_)
      · refine GoF.take [9, 11] [.b 0, .b 0] (ks := [27, 28, 30]) (fu := 5) (li := [true, true, true, true, true, true, true, true, true, true, false, true, false, false, false, false]) (env' := [(27, .bool true), (28, .agg ⟨[.int .i64 c_1.Kind, .int .u64 c_1.Session, .int .u64 c_1.Seq, .int .u64 c_1.Saga, .slice A_2 c_1.Steps.length c_3, .int .i64 c_1.Step, .bool c_1.Back, .int .i64 c_1.Try, .bool c_1.Ok, .int .u64 c_1.Now]⟩), (30, .agg ⟨[.int .i64 c_1.Kind, .int .u64 c_1.Session, .int .u64 c_1.Seq, .int .u64 c_1.Saga, .slice A_2 c_1.Steps.length c_3, .int .i64 c_1.Step, .bool c_1.Back, .int .i64 c_1.Try, .bool c_1.Ok, .int .u64 c_1.Now]⟩)]) (ps := [b_4 = b_4, b_4 = b_4]) (hk := [0]) (bk := []) (by kernel_rfl) (And.intro rfl (And.intro rfl trivial)) rfl rfl ?_
        refine OpTo.goF (i := 10) (by kernel_rfl) (hk := [0]) (bk := []) (GoO.call rfl (by kernel_rfl) (by kernel_rfl) (command_May_ok n c_1 A_2 c_3) [[0]] [] [] [(0, 0)] (hks := [0]) (bks := [0]) (by kernel_rfl) (by kernel_rfl) (by kernel_rfl) (.inl rfl) rfl rfl (by kernel_rfl) (by kernel_rfl) _ (fun _ _ => rfl) _ _ (fun _ _ => rfl) (fun _ _ => rfl) (fun _ _ => by kernel_rfl) (fun _ _ => by kernel_rfl) (fun r_11 x_14 => ⟨rfl, rfl, ?_⟩))
        refine GoF.shape (env' := [(27, .bool true), (28, .agg ⟨[.int .i64 c_1.Kind, .int .u64 c_1.Session, .int .u64 c_1.Seq, .int .u64 c_1.Saga, .slice A_2 c_1.Steps.length c_3, .int .i64 c_1.Step, .bool c_1.Back, .int .i64 c_1.Try, .bool c_1.Ok, .int .u64 c_1.Now]⟩), (29, .bool r_11), (30, .agg ⟨[.int .i64 c_1.Kind, .int .u64 c_1.Session, .int .u64 c_1.Seq, .int .u64 c_1.Saga, .slice A_2 c_1.Steps.length c_3, .int .i64 c_1.Step, .bool c_1.Back, .int .i64 c_1.Try, .bool c_1.Ok, .int .u64 c_1.Now]⟩)]) (H' := [⟨40, b_4, [.int .i64 c_1.Kind, .int .u64 c_1.Session, .int .u64 c_1.Seq, .int .u64 c_1.Saga, .slice A_2 c_1.Steps.length c_3, .int .i64 c_1.Step, .bool c_1.Back, .int .i64 c_1.Try, .bool c_1.Ok, .int .u64 c_1.Now]⟩]) (B' := [Rd 0 kT_api_Step A_2 c_3 c_1.Steps]) (ks := [27, 28, 29, 30]) (by kernel_rfl) (by kernel_rfl) (by kernel_rfl) ?_
        refine OpTo.goF (i := 12) (by kernel_rfl) (hk := [0]) (bk := []) (GoO.call rfl (by kernel_rfl) (by kernel_rfl) (tontineref16_May_ok n c_1 A_2 c_3) [[0]] [] [] [(0, 0)] (hks := [0]) (bks := [0]) (by kernel_rfl) (by kernel_rfl) (by kernel_rfl) (.inl rfl) rfl rfl (by kernel_rfl) (by kernel_rfl) _ (fun _ _ => rfl) _ _ (fun _ _ => rfl) (fun _ _ => rfl) (fun _ _ => by kernel_rfl) (fun _ _ => by kernel_rfl) (fun r_12 x_13 => ⟨rfl, rfl, ?_⟩))
        refine GoF.shape (env' := [(27, .bool true), (28, .agg ⟨[.int .i64 c_1.Kind, .int .u64 c_1.Session, .int .u64 c_1.Seq, .int .u64 c_1.Saga, .slice A_2 c_1.Steps.length c_3, .int .i64 c_1.Step, .bool c_1.Back, .int .i64 c_1.Try, .bool c_1.Ok, .int .u64 c_1.Now]⟩), (29, .bool r_11), (30, .agg ⟨[.int .i64 c_1.Kind, .int .u64 c_1.Session, .int .u64 c_1.Seq, .int .u64 c_1.Saga, .slice A_2 c_1.Steps.length c_3, .int .i64 c_1.Step, .bool c_1.Back, .int .i64 c_1.Try, .bool c_1.Ok, .int .u64 c_1.Now]⟩), (31, .bool r_12)]) (H' := [⟨40, b_4, [.int .i64 c_1.Kind, .int .u64 c_1.Session, .int .u64 c_1.Seq, .int .u64 c_1.Saga, .slice A_2 c_1.Steps.length c_3, .int .i64 c_1.Step, .bool c_1.Back, .int .i64 c_1.Try, .bool c_1.Ok, .int .u64 c_1.Now]⟩]) (B' := [Rd 0 kT_api_Step A_2 c_3 c_1.Steps]) (ks := [27, 28, 29, 30, 31]) (by kernel_rfl) (by kernel_rfl) (by kernel_rfl) ?_
        refine GoF.take [13, 14] [.p, .p] (ks := [33]) (fu := 1) (li := [true, true, true, true, true, true, true, true, true, true, true, true, true, true, true, false]) (env' := [(33, .bool (r_11 == r_12))]) (ps := []) (hk := [0]) (bk := []) (by kernel_rfl) trivial rfl rfl ?_
        refine GoF.fin1 (i := 15) (hint := .p) (ps := []) (hk := []) (bk := []) (by kernel_rfl) rfl trivial (.inl rfl) ?_
        refine GoF.done (by kernel_rfl) ?_
        exact GoO.ret' (h := c3_16e) (hs := []) (ps := []) (hk := []) (bk := []) Try.func3 () (by kernel_rfl) trivial (by kernel_rfl) (by kernel_rfl)
      · refine GoF.take [9, 10, 11, 12, 13, 14] [.p, .p, .p, .p, .p, .p] (ks := [33]) (fu := 1) (li := [true, true, true, true, true, true, true, true, true, true, true, true, true, true, true, false]) (env' := [(33, .bool false)]) (ps := []) (hk := [0]) (bk := []) (by kernel_rfl) trivial rfl rfl ?_
        refine GoF.fin1 (i := 15) (hint := .p) (ps := []) (hk := []) (bk := []) (by kernel_rfl) rfl trivial (.inl rfl) ?_
        refine GoF.done (by kernel_rfl) ?_
        exact GoO.ret' (h := c3_16e) (hs := []) (ps := []) (hk := []) (bk := []) Try.func3 () (by kernel_rfl) trivial (by kernel_rfl) (by kernel_rfl)
    · refine GoF.take [4, 5, 6, 7, 8, 9, 10, 11, 12, 13, 14] [.p, .p, .p, .p, .p, .p, .p, .p, .p, .p, .p] (ks := [33]) (fu := 1) (li := [true, true, true, true, true, true, true, true, true, true, true, true, true, true, true, false]) (env' := [(33, .bool false)]) (ps := []) (hk := [0]) (bk := []) (by kernel_rfl) trivial rfl rfl ?_
      refine GoF.fin1 (i := 15) (hint := .p) (ps := []) (hk := []) (bk := []) (by kernel_rfl) rfl trivial (.inl rfl) ?_
      refine GoF.done (by kernel_rfl) ?_
      exact GoO.ret' (h := c3_16e) (hs := []) (ps := []) (hk := []) (bk := []) Try.func3 () (by kernel_rfl) trivial (by kernel_rfl) (by kernel_rfl)
end Go.GL
