import Derived.Test.YtfeddlhkiomdaaaKindsT1
import Derived.Test.YtfeddlhkiomdaaaProg
set_option linter.unusedVariables false
set_option linter.unusedSimpArgs false
set_option maxRecDepth 100000
namespace Go.GL
open Go Go.Proofs

/-! tontine/plan.Check -/
noncomputable def c47_0 : Code := bodyOf Try.f47
noncomputable def c47_1 : Code := cdL c47_0
noncomputable def c47_2 : Code := cdR c47_0
noncomputable def c47_3 : Code := cdL c47_2
noncomputable def c47_4 : Code := cdL c47_3
noncomputable def c47_5 : Code := cdR c47_3
noncomputable def c47_6 : Code := cdL c47_5
noncomputable def c47_7 : Code := cdL c47_6
noncomputable def c47_8 : Code := cdR c47_6
noncomputable def c47_9 : Code := cdR c47_5
noncomputable def c47_10 : Code := cdR c47_2
noncomputable def c47_11 : Code := cdL c47_10
noncomputable def c47_12 : Code := cdL c47_11
noncomputable def c47_13 : Code := cdR c47_11
noncomputable def c47_14 : Code := cdL c47_13
noncomputable def c47_15 : Code := cdL c47_14
noncomputable def c47_16 : Code := cdL c47_15
noncomputable def c47_17 : Code := cdR c47_15
noncomputable def c47_18 : Code := cdL c47_17
noncomputable def c47_19 : Code := cdL c47_18
noncomputable def c47_20 : Code := cdR c47_18
noncomputable def c47_21 : Code := cdR c47_17
noncomputable def c47_22 : Code := cdL c47_21
noncomputable def c47_23 : Code := cdL c47_22
noncomputable def c47_24 : Code := cdL c47_23
noncomputable def c47_25 : Code := cdR c47_23
noncomputable def c47_26 : Code := cdL c47_25
noncomputable def c47_27 : Code := cdR c47_25
noncomputable def c47_28 : Code := cdL c47_27
noncomputable def c47_29 : Code := cdL c47_28
noncomputable def c47_30 : Code := cdR c47_28
noncomputable def c47_31 : Code := cdR c47_27
noncomputable def c47_32 : Code := cdR c47_21
noncomputable def c47_33 : Code := cdR c47_10
noncomputable def c47_34 : Code := cdL c47_33
noncomputable def c47_35 : Code := cdR c47_33
noncomputable def r47_1 : Array Oper := cdO c47_1
noncomputable def r47_4 : Array Oper := cdO c47_4
noncomputable def r47_7 : Array Oper := cdO c47_7
noncomputable def r47_12 : Array Oper := cdO c47_12
noncomputable def r47_16 : Array Oper := cdO c47_16
noncomputable def r47_24 : Array Oper := cdO c47_24
noncomputable def r47_26 : Array Oper := cdO c47_26
noncomputable def r47_29 : Array Oper := cdO c47_29
noncomputable def r47_32 : Array Oper := cdO c47_32
noncomputable def r47_34 : Array Oper := cdO c47_34
theorem c47_0e : c47_0 = .seq c47_1 c47_2 := by kernel_rfl
theorem c47_1e : c47_1 = .region 0 r47_1 false := by kernel_rfl
theorem c47_2e : c47_2 = .seq c47_3 c47_10 := by kernel_rfl
theorem c47_3e : c47_3 = .seq c47_4 c47_5 := by kernel_rfl
theorem c47_4e : c47_4 = .region 1 r47_4 false := by kernel_rfl
theorem c47_5e : c47_5 = .cond (cdC c47_5) c47_6 c47_9 := by kernel_rfl
theorem c47_6e : c47_6 = .seq c47_7 c47_8 := by kernel_rfl
theorem c47_7e : c47_7 = .region 2 r47_7 false := by kernel_rfl
theorem c47_8e : c47_8 = .ret := by kernel_rfl
theorem c47_9e : c47_9 = .skip := by kernel_rfl
theorem c47_10e : c47_10 = .seq c47_11 c47_33 := by kernel_rfl
theorem c47_11e : c47_11 = .seq c47_12 c47_13 := by kernel_rfl
theorem c47_12e : c47_12 = .region 3 r47_12 false := by kernel_rfl
theorem c47_13e : c47_13 = .block 0 c47_14 := by kernel_rfl
theorem c47_14e : c47_14 = .loop c47_15 := by kernel_rfl
theorem c47_15e : c47_15 = .seq c47_16 c47_17 := by kernel_rfl
theorem c47_16e : c47_16 = .region 4 r47_16 false := by kernel_rfl
theorem c47_17e : c47_17 = .seq c47_18 c47_21 := by kernel_rfl
theorem c47_18e : c47_18 = .cond (cdC c47_18) c47_19 c47_20 := by kernel_rfl
theorem c47_19e : c47_19 = .skip := by kernel_rfl
theorem c47_20e : c47_20 = .exit 0 := by kernel_rfl
theorem c47_21e : c47_21 = .seq c47_22 c47_32 := by kernel_rfl
theorem c47_22e : c47_22 = .block 1 c47_23 := by kernel_rfl
theorem c47_23e : c47_23 = .seq c47_24 c47_25 := by kernel_rfl
theorem c47_24e : c47_24 = .region 5 r47_24 false := by kernel_rfl
theorem c47_25e : c47_25 = .seq c47_26 c47_27 := by kernel_rfl
theorem c47_26e : c47_26 = .region 6 r47_26 false := by kernel_rfl
theorem c47_27e : c47_27 = .cond (cdC c47_27) c47_28 c47_31 := by kernel_rfl
theorem c47_28e : c47_28 = .seq c47_29 c47_30 := by kernel_rfl
theorem c47_29e : c47_29 = .region 7 r47_29 false := by kernel_rfl
theorem c47_30e : c47_30 = .ret := by kernel_rfl
theorem c47_31e : c47_31 = .skip := by kernel_rfl
theorem c47_32e : c47_32 = .region 8 r47_32 false := by kernel_rfl
theorem c47_33e : c47_33 = .seq c47_34 c47_35 := by kernel_rfl
theorem c47_34e : c47_34 = .region 9 r47_34 false := by kernel_rfl
theorem c47_35e : c47_35 = .ret := by kernel_rfl
noncomputable def plan_Check.R (A_2 : Option Addr) (c_3 : Nat) : Pst Int where
  ε := Unit
  v := fun r x => .int .i64 r
  H := fun r x => []
  B := fun r x => []
noncomputable def plan_Check.cx (A_2 : Option Addr) (c_3 : Nat) (w0 : World) (S0 : Fam) : Cx Int := ⟨Try.prog, 47, Try.f47, 49, w0, S0, [], 0, plan_Check.R A_2 c_3⟩
theorem plan_Check_j1_ok (n : Nat) (L0 : Int → Option Int) (l_1 : (List T_api_Step)) (x_7 : Int) (A_2 : Option Addr) (c_3 : Nat) (w0 : World) (S0 : Fam) (ih0 : ∀ (x_7 : Int), GoO (plan_Check.cx A_2 c_3 w0 S0) [(13, .slice A_2 l_1.length c_3), (14, .int .i64 (l_1.length : Int)), (15, .int .i64 x_7)] [] [Rd 0 kT_api_Step A_2 c_3 l_1] [.code c47_15, .inLoop c47_15, .inBlock 0, .code c47_33] (L0 x_7)) (b_16 : Bool) :
    GoO (plan_Check.cx A_2 c_3 w0 S0) [(13, .slice A_2 l_1.length c_3), (14, .int .i64 (l_1.length : Int)), (15, .int .i64 x_7), (47, .bool b_16)] [] [Rd 0 kT_api_Step A_2 c_3 l_1] [.code c47_27, .inBlock 1, .code c47_32, .inLoop c47_15, .inBlock 0, .code c47_33] (plan_Check.j1 n L0 x_7 b_16) := by
  unfold plan_Check.j1
  refine GoO.ite' c47_27e (by kernel_rfl) (fun h17 => ?_) (fun h17 => ?_)
  · refine GoO.seq' c47_28e ?_
    refine GoO.region' (is := [0]) c47_29e (by kernel_rfl) ?_
    refine GoO.exec (is := [0]) (hs := [.p]) (rest := []) (ks := [2]) (env' := [(2, .int .i64 44)]) (H' := []) (ps := []) (by kernel_rfl) trivial ?_
    refine GoO.regionEnd ?_
    exact GoO.ret' (h := c47_30e) (hs := []) (ps := []) (hk := []) (bk := []) Try.func47 () (by kernel_rfl) trivial (by kernel_rfl) (by kernel_rfl)
  · refine GoO.skip' c47_31e ?_
    refine GoO.inBlock ?_
    refine GoO.region' (is := [0, 1]) c47_32e (by kernel_rfl) ?_
    refine GoO.exec (is := [0, 1]) (hs := [.p, .p]) (rest := []) (ks := [13, 14, 15]) (env' := [(13, .slice A_2 l_1.length c_3), (14, .int .i64 (l_1.length : Int)), (15, .int .i64 (wi64 (x_7 + 1)))]) (H' := []) (ps := []) (by kernel_rfl) trivial ?_
    refine GoO.regionEnd ?_
    refine GoO.inLoop ?_
    exact GoO.sub (ks := [13, 14, 15]) (hk := []) (bk := [0]) (by kernel_rfl) (by kernel_rfl) (by kernel_rfl) (ih0 (wi64 (x_7 + 1)))
theorem plan_Check_l0_ok (n : Nat) (l_1 : (List T_api_Step)) (A_2 : Option Addr) (c_3 : Nat) (w0 : World) (S0 : Fam) :
    ∀ (k : Nat) (x_7 : Int), GoO (plan_Check.cx A_2 c_3 w0 S0) [(13, .slice A_2 l_1.length c_3), (14, .int .i64 (l_1.length : Int)), (15, .int .i64 x_7)] [] [Rd 0 kT_api_Step A_2 c_3 l_1] [.code c47_15, .inLoop c47_15, .inBlock 0, .code c47_33] (plan_Check.l0 n l_1 k x_7) := by
  intro k
  induction k with
  | zero => intros; rw [plan_Check.l0.eq_1]; exact GoO.stop
  | succ k ih0 =>
    intro x_7
    rw [plan_Check.l0.eq_2]
    refine GoO.seq' c47_15e ?_
    refine GoO.region' (is := [0]) c47_16e (by kernel_rfl) ?_
    refine GoO.exec (is := [0]) (hs := [.p]) (rest := []) (ks := [13, 14, 15, 16]) (env' := [(13, .slice A_2 l_1.length c_3), (14, .int .i64 (l_1.length : Int)), (15, .int .i64 x_7), (16, .bool (decide (x_7 < (l_1.length : Int))))]) (H' := []) (ps := []) (by kernel_rfl) trivial ?_
    refine GoO.regionEnd ?_
    refine GoO.seq' c47_17e ?_
    refine GoO.ite' c47_18e (by kernel_rfl) (fun h8 => ?_) (fun h8 => ?_)
    · refine GoO.skip' c47_19e ?_
      refine GoO.seq' c47_21e ?_
      refine GoO.block' c47_22e ?_
      refine GoO.seq' c47_23e ?_
      refine GoO.region' (is := [0, 1, 2, 3]) c47_24e (by kernel_rfl) ?_
      refine GoO.guard (fun h9 => ?_)
      refine OpTo.go (GoO.idx (kk := .i64) (e := 50) (K := kT_api_Step) (A := A_2) (c := c_3) (xs := l_1) (iv := x_7) (j := 0) rfl (by kernel_rfl) (by kernel_rfl) (by kernel_rfl) (by kernel_rfl) rfl Reads.rd rfl h9.1 h9.2 (by decide) rfl ?_)
      refine OpTo.go (GoO.ldE' (K := kT_api_Step) (A := A_2) (c := c_3) (xs := l_1) (iN := x_7.toNat) (off := 0) (j := 0) rfl (by kernel_rfl) rfl Reads.rd (idx_lt h9.1 h9.2) (by decide) (Opn.flat _ _ _ _ _) (v := fun _ => .agg ⟨[.int .i64 ((rdL l_1 x_7).Part), .string (bs ((rdL l_1 x_7).Name)), .int .i64 ((rdL l_1 x_7).Budget)]⟩) (fun _ => by kernel_rfl) _ (fun _ => rfl) (fun _ => ?_))
      refine OpTo.go (GoO.new rfl 40 (cs := [.int .i64 0, .string (bs []), .int .i64 0]) (by kernel_rfl) _ (fun _ => rfl) (fun b_10 => ?_))
      refine GoO.exec (is := [3]) (hs := [.b 0]) (rest := []) (ks := [4, 13, 14, 15]) (env' := [(4, .pointer (some ⟨b_10, 0, none⟩)), (13, .slice A_2 l_1.length c_3), (14, .int .i64 (l_1.length : Int)), (15, .int .i64 x_7)]) (H' := [⟨40, b_10, [.int .i64 ((rdL l_1 x_7).Part), .string (bs ((rdL l_1 x_7).Name)), .int .i64 ((rdL l_1 x_7).Budget)]⟩]) (ps := [b_10 = b_10]) (by kernel_rfl) (And.intro rfl trivial) ?_
      refine GoO.regionEnd ?_
      refine GoO.seq' c47_25e ?_
      refine GoO.region' (is := [0, 1, 2, 3, 4, 5, 6, 7, 8, 9, 10, 11, 12, 13, 14, 15, 16, 17, 18, 19, 20, 21, 22, 23, 24, 25, 26, 27, 28]) c47_26e (by kernel_rfl) ?_
      refine GoO.exec (is := [0, 1, 2, 3]) (hs := [.p, .b 0, .p, .p]) (rest := [4, 5, 6, 7, 8, 9, 10, 11, 12, 13, 14, 15, 16, 17, 18, 19, 20, 21, 22, 23, 24, 25, 26, 27, 28]) (ks := [4, 13, 14, 15, 22]) (env' := [(4, .pointer (some ⟨b_10, 0, none⟩)), (13, .slice A_2 l_1.length c_3), (14, .int .i64 (l_1.length : Int)), (15, .int .i64 x_7), (22, .bool (decide (((rdL l_1 x_7).Part) < 0)))]) (H' := [⟨40, b_10, [.int .i64 ((rdL l_1 x_7).Part), .string (bs ((rdL l_1 x_7).Name)), .int .i64 ((rdL l_1 x_7).Budget)]⟩]) (ps := [b_10 = b_10]) (by kernel_rfl) (And.intro rfl trivial) ?_
      refine GoO.bsplit (t := 22) (by kernel_rfl) (fun h11 => ?_) (fun h11 => ?_)
      · refine GoO.exec (is := [4, 5, 6, 7, 8, 9, 10, 11, 12, 13, 14, 15, 16, 17, 18, 19, 20, 21, 22, 23, 24, 25, 26, 27, 28]) (hs := [.p, .p, .p, .p, .p, .p, .p, .p, .p, .p, .p, .p, .p, .p, .p, .p, .p, .p, .p, .p, .p, .p, .p, .p, .p]) (rest := []) (ks := [13, 14, 15, 47]) (env' := [(13, .slice A_2 l_1.length c_3), (14, .int .i64 (l_1.length : Int)), (15, .int .i64 x_7), (47, .bool true)]) (H' := [⟨40, b_10, [.int .i64 ((rdL l_1 x_7).Part), .string (bs ((rdL l_1 x_7).Name)), .int .i64 ((rdL l_1 x_7).Budget)]⟩]) (ps := []) (by kernel_rfl) trivial ?_
        refine GoO.regionEnd ?_
        exact GoO.sub (ks := [13, 14, 15, 47]) (hk := []) (bk := [0]) (by kernel_rfl) (by kernel_rfl) (by kernel_rfl) (plan_Check_j1_ok n (plan_Check.l0 n l_1 k) l_1 x_7 A_2 c_3 w0 S0 ih0 true)
      · refine GoO.exec (is := [4, 5, 6, 7, 8]) (hs := [.p, .b 0, .p, .p, .p]) (rest := [9, 10, 11, 12, 13, 14, 15, 16, 17, 18, 19, 20, 21, 22, 23, 24, 25, 26, 27, 28]) (ks := [4, 13, 14, 15, 27]) (env' := [(4, .pointer (some ⟨b_10, 0, none⟩)), (13, .slice A_2 l_1.length c_3), (14, .int .i64 (l_1.length : Int)), (15, .int .i64 x_7), (27, .bool (decide (((rdL l_1 x_7).Part) ≥ 4)))]) (H' := [⟨40, b_10, [.int .i64 ((rdL l_1 x_7).Part), .string (bs ((rdL l_1 x_7).Name)), .int .i64 ((rdL l_1 x_7).Budget)]⟩]) (ps := [b_10 = b_10]) (by kernel_rfl) (And.intro rfl trivial) ?_
        refine GoO.bsplit (t := 27) (by kernel_rfl) (fun h12 => ?_) (fun h12 => ?_)
        · refine GoO.exec (is := [9, 10, 11, 12, 13, 14, 15, 16, 17, 18, 19, 20, 21, 22, 23, 24, 25, 26, 27, 28]) (hs := [.p, .p, .p, .p, .p, .p, .p, .p, .p, .p, .p, .p, .p, .p, .p, .p, .p, .p, .p, .p]) (rest := []) (ks := [13, 14, 15, 47]) (env' := [(13, .slice A_2 l_1.length c_3), (14, .int .i64 (l_1.length : Int)), (15, .int .i64 x_7), (47, .bool true)]) (H' := [⟨40, b_10, [.int .i64 ((rdL l_1 x_7).Part), .string (bs ((rdL l_1 x_7).Name)), .int .i64 ((rdL l_1 x_7).Budget)]⟩]) (ps := []) (by kernel_rfl) trivial ?_
          refine GoO.regionEnd ?_
          exact GoO.sub (ks := [13, 14, 15, 47]) (hk := []) (bk := [0]) (by kernel_rfl) (by kernel_rfl) (by kernel_rfl) (plan_Check_j1_ok n (plan_Check.l0 n l_1 k) l_1 x_7 A_2 c_3 w0 S0 ih0 true)
        · refine GoO.exec (is := [9, 10, 11, 12, 13]) (hs := [.p, .b 0, .p, .p, .p]) (rest := [14, 15, 16, 17, 18, 19, 20, 21, 22, 23, 24, 25, 26, 27, 28]) (ks := [4, 13, 14, 15, 32]) (env' := [(4, .pointer (some ⟨b_10, 0, none⟩)), (13, .slice A_2 l_1.length c_3), (14, .int .i64 (l_1.length : Int)), (15, .int .i64 x_7), (32, .bool (((rdL l_1 x_7).Name) == ([] : List UInt8)))]) (H' := [⟨40, b_10, [.int .i64 ((rdL l_1 x_7).Part), .string (bs ((rdL l_1 x_7).Name)), .int .i64 ((rdL l_1 x_7).Budget)]⟩]) (ps := [b_10 = b_10]) (by kernel_rfl) (And.intro rfl trivial) ?_
          refine GoO.bsplit (t := 32) (by kernel_rfl) (fun h13 => ?_) (fun h13 => ?_)
          · refine GoO.exec (is := [14, 15, 16, 17, 18, 19, 20, 21, 22, 23, 24, 25, 26, 27, 28]) (hs := [.p, .p, .p, .p, .p, .p, .p, .p, .p, .p, .p, .p, .p, .p, .p]) (rest := []) (ks := [13, 14, 15, 47]) (env' := [(13, .slice A_2 l_1.length c_3), (14, .int .i64 (l_1.length : Int)), (15, .int .i64 x_7), (47, .bool true)]) (H' := [⟨40, b_10, [.int .i64 ((rdL l_1 x_7).Part), .string (bs ((rdL l_1 x_7).Name)), .int .i64 ((rdL l_1 x_7).Budget)]⟩]) (ps := []) (by kernel_rfl) trivial ?_
            refine GoO.regionEnd ?_
            exact GoO.sub (ks := [13, 14, 15, 47]) (hk := []) (bk := [0]) (by kernel_rfl) (by kernel_rfl) (by kernel_rfl) (plan_Check_j1_ok n (plan_Check.l0 n l_1 k) l_1 x_7 A_2 c_3 w0 S0 ih0 true)
          · refine GoO.exec (is := [14, 15, 16, 17, 18, 19]) (hs := [.p, .b 0, .p, .p, .p, .p]) (rest := [20, 21, 22, 23, 24, 25, 26, 27, 28]) (ks := [4, 13, 14, 15, 38]) (env' := [(4, .pointer (some ⟨b_10, 0, none⟩)), (13, .slice A_2 l_1.length c_3), (14, .int .i64 (l_1.length : Int)), (15, .int .i64 x_7), (38, .bool (decide ((((rdL l_1 x_7).Name).length : Int) > 16)))]) (H' := [⟨40, b_10, [.int .i64 ((rdL l_1 x_7).Part), .string (bs ((rdL l_1 x_7).Name)), .int .i64 ((rdL l_1 x_7).Budget)]⟩]) (ps := [b_10 = b_10]) (by kernel_rfl) (And.intro rfl trivial) ?_
            refine GoO.bsplit (t := 38) (by kernel_rfl) (fun h14 => ?_) (fun h14 => ?_)
            · refine GoO.exec (is := [20, 21, 22, 23, 24, 25, 26, 27, 28]) (hs := [.p, .p, .p, .p, .p, .p, .p, .p, .p]) (rest := []) (ks := [13, 14, 15, 47]) (env' := [(13, .slice A_2 l_1.length c_3), (14, .int .i64 (l_1.length : Int)), (15, .int .i64 x_7), (47, .bool true)]) (H' := [⟨40, b_10, [.int .i64 ((rdL l_1 x_7).Part), .string (bs ((rdL l_1 x_7).Name)), .int .i64 ((rdL l_1 x_7).Budget)]⟩]) (ps := []) (by kernel_rfl) trivial ?_
              refine GoO.regionEnd ?_
              exact GoO.sub (ks := [13, 14, 15, 47]) (hk := []) (bk := [0]) (by kernel_rfl) (by kernel_rfl) (by kernel_rfl) (plan_Check_j1_ok n (plan_Check.l0 n l_1 k) l_1 x_7 A_2 c_3 w0 S0 ih0 true)
            · refine GoO.exec (is := [20, 21, 22, 23, 24]) (hs := [.p, .b 0, .p, .p, .p]) (rest := [25, 26, 27, 28]) (ks := [4, 13, 14, 15, 43]) (env' := [(4, .pointer (some ⟨b_10, 0, none⟩)), (13, .slice A_2 l_1.length c_3), (14, .int .i64 (l_1.length : Int)), (15, .int .i64 x_7), (43, .bool (decide (((rdL l_1 x_7).Budget) < 1)))]) (H' := [⟨40, b_10, [.int .i64 ((rdL l_1 x_7).Part), .string (bs ((rdL l_1 x_7).Name)), .int .i64 ((rdL l_1 x_7).Budget)]⟩]) (ps := [b_10 = b_10]) (by kernel_rfl) (And.intro rfl trivial) ?_
              refine GoO.bsplit (t := 43) (by kernel_rfl) (fun h15 => ?_) (fun h15 => ?_)
              · refine GoO.exec (is := [25, 26, 27, 28]) (hs := [.p, .p, .p, .p]) (rest := []) (ks := [13, 14, 15, 47]) (env' := [(13, .slice A_2 l_1.length c_3), (14, .int .i64 (l_1.length : Int)), (15, .int .i64 x_7), (47, .bool true)]) (H' := [⟨40, b_10, [.int .i64 ((rdL l_1 x_7).Part), .string (bs ((rdL l_1 x_7).Name)), .int .i64 ((rdL l_1 x_7).Budget)]⟩]) (ps := []) (by kernel_rfl) trivial ?_
                refine GoO.regionEnd ?_
                exact GoO.sub (ks := [13, 14, 15, 47]) (hk := []) (bk := [0]) (by kernel_rfl) (by kernel_rfl) (by kernel_rfl) (plan_Check_j1_ok n (plan_Check.l0 n l_1 k) l_1 x_7 A_2 c_3 w0 S0 ih0 true)
              · refine GoO.exec (is := [25, 26, 27, 28]) (hs := [.p, .b 0, .p, .p]) (rest := []) (ks := [13, 14, 15, 47]) (env' := [(13, .slice A_2 l_1.length c_3), (14, .int .i64 (l_1.length : Int)), (15, .int .i64 x_7), (47, .bool (decide (((rdL l_1 x_7).Budget) > 9)))]) (H' := [⟨40, b_10, [.int .i64 ((rdL l_1 x_7).Part), .string (bs ((rdL l_1 x_7).Name)), .int .i64 ((rdL l_1 x_7).Budget)]⟩]) (ps := [b_10 = b_10]) (by kernel_rfl) (And.intro rfl trivial) ?_
                refine GoO.regionEnd ?_
                exact GoO.sub (ks := [13, 14, 15, 47]) (hk := []) (bk := [0]) (by kernel_rfl) (by kernel_rfl) (by kernel_rfl) (plan_Check_j1_ok n (plan_Check.l0 n l_1 k) l_1 x_7 A_2 c_3 w0 S0 ih0 (decide (((rdL l_1 x_7).Budget) > 9)))
    · refine GoO.exit' c47_20e rfl ?_
      refine GoO.seq' c47_33e ?_
      refine GoO.region' (is := [0]) c47_34e (by kernel_rfl) ?_
      refine GoO.exec (is := [0]) (hs := [.p]) (rest := []) (ks := [2]) (env' := [(2, .int .i64 0)]) (H' := []) (ps := []) (by kernel_rfl) trivial ?_
      refine GoO.regionEnd ?_
      exact GoO.ret' (h := c47_35e) (hs := []) (ps := []) (hk := []) (bk := []) Try.func47 () (by kernel_rfl) trivial (by kernel_rfl) (by kernel_rfl)
theorem plan_Check_j0_ok (n : Nat) (l_1 : (List T_api_Step)) (A_2 : Option Addr) (c_3 : Nat) (w0 : World) (S0 : Fam) (b_5 : Bool) :
    GoO (plan_Check.cx A_2 c_3 w0 S0) [(0, .slice A_2 l_1.length c_3), (12, .bool b_5)] [] [Rd 0 kT_api_Step A_2 c_3 l_1] [.code c47_5, .code c47_10] (plan_Check.j0 n l_1 b_5) := by
  unfold plan_Check.j0
  refine GoO.ite' c47_5e (by kernel_rfl) (fun h6 => ?_) (fun h6 => ?_)
  · refine GoO.seq' c47_6e ?_
    refine GoO.region' (is := [0]) c47_7e (by kernel_rfl) ?_
    refine GoO.exec (is := [0]) (hs := [.p]) (rest := []) (ks := [2]) (env' := [(2, .int .i64 44)]) (H' := []) (ps := []) (by kernel_rfl) trivial ?_
    refine GoO.regionEnd ?_
    exact GoO.ret' (h := c47_8e) (hs := []) (ps := []) (hk := []) (bk := []) Try.func47 () (by kernel_rfl) trivial (by kernel_rfl) (by kernel_rfl)
  · refine GoO.skip' c47_9e ?_
    refine GoO.seq' c47_10e ?_
    refine GoO.seq' c47_11e ?_
    refine GoO.region' (is := [0, 1, 2]) c47_12e (by kernel_rfl) ?_
    refine GoO.exec (is := [0, 1, 2]) (hs := [.p, .p, .p]) (rest := []) (ks := [13, 14, 15]) (env' := [(13, .slice A_2 l_1.length c_3), (14, .int .i64 (l_1.length : Int)), (15, .int .i64 0)]) (H' := []) (ps := []) (by kernel_rfl) trivial ?_
    refine GoO.regionEnd ?_
    refine GoO.block' c47_13e ?_
    refine GoO.loop' c47_14e ?_
    exact GoO.sub (ks := [13, 14, 15]) (hk := []) (bk := [0]) (by kernel_rfl) (by kernel_rfl) (by kernel_rfl) (plan_Check_l0_ok n l_1 A_2 c_3 w0 S0 n 0)
theorem plan_Check_ok (n : Nat) (l_1 : (List T_api_Step)) (A_2 : Option Addr) (c_3 : Nat) :
    Meets Try.prog 47 [.slice A_2 l_1.length c_3] 0 [] [] [Rd 0 kT_api_Step A_2 c_3 l_1] (plan_Check.f n l_1) (plan_Check.R A_2 c_3) := by
  refine Meets.of (c := c47_0) (n := 49) Try.func47 (by kernel_rfl) (by kernel_rfl) (by kernel_rfl) fun w0 S0 => ?_
  unfold plan_Check.f
  show GoO (plan_Check.cx A_2 c_3 w0 S0) [(0, .slice A_2 l_1.length c_3)] [] [Rd 0 kT_api_Step A_2 c_3 l_1] [.code c47_0] _
  refine GoO.seq' c47_0e ?_
  refine GoO.region' (is := [0]) c47_1e (by kernel_rfl) ?_
  refine GoO.exec (is := [0]) (hs := [.p]) (rest := []) (ks := [0]) (env' := [(0, .slice A_2 l_1.length c_3)]) (H' := []) (ps := []) (by kernel_rfl) trivial ?_
  refine GoO.regionEnd ?_
  refine GoO.seq' c47_2e ?_
  refine GoO.seq' c47_3e ?_
  refine GoO.region' (is := [0, 1, 2, 3, 4, 5, 6, 7]) c47_4e (by kernel_rfl) ?_
  refine GoO.exec (is := [0, 1, 2, 3]) (hs := [.p, .p, .p, .p]) (rest := [4, 5, 6, 7]) (ks := [0, 8]) (env' := [(0, .slice A_2 l_1.length c_3), (8, .bool (decide ((l_1.length : Int) < 1)))]) (H' := []) (ps := []) (by kernel_rfl) trivial ?_
  refine GoO.bsplit (t := 8) (by kernel_rfl) (fun h4 => ?_) (fun h4 => ?_)
  · refine GoO.exec (is := [4, 5, 6, 7]) (hs := [.p, .p, .p, .p]) (rest := []) (ks := [0, 12]) (env' := [(0, .slice A_2 l_1.length c_3), (12, .bool true)]) (H' := []) (ps := []) (by kernel_rfl) trivial ?_
    refine GoO.regionEnd ?_
    exact GoO.sub (ks := [0, 12]) (hk := []) (bk := [0]) (by kernel_rfl) (by kernel_rfl) (by kernel_rfl) (plan_Check_j0_ok n l_1 A_2 c_3 w0 S0 true)
  · refine GoO.exec (is := [4, 5, 6, 7]) (hs := [.p, .p, .p, .p]) (rest := []) (ks := [0, 12]) (env' := [(0, .slice A_2 l_1.length c_3), (12, .bool (decide ((l_1.length : Int) > 64)))]) (H' := []) (ps := []) (by kernel_rfl) trivial ?_
    refine GoO.regionEnd ?_
    exact GoO.sub (ks := [0, 12]) (hk := []) (bk := [0]) (by kernel_rfl) (by kernel_rfl) (by kernel_rfl) (plan_Check_j0_ok n l_1 A_2 c_3 w0 S0 (decide ((l_1.length : Int) > 64)))

/-! tontine/saga.New -/
noncomputable def c30_0 : Code := bodyOf Try.f30
noncomputable def c30_1 : Code := cdL c30_0
noncomputable def c30_2 : Code := cdR c30_0
noncomputable def c30_3 : Code := cdL c30_2
noncomputable def c30_4 : Code := cdL c30_3
noncomputable def c30_5 : Code := cdR c30_3
noncomputable def c30_6 : Code := cdL c30_5
noncomputable def c30_7 : Code := cdR c30_5
noncomputable def c30_8 : Code := cdL c30_7
noncomputable def c30_9 : Code := cdL c30_8
noncomputable def c30_10 : Code := cdR c30_8
noncomputable def c30_11 : Code := cdR c30_7
noncomputable def c30_12 : Code := cdR c30_2
noncomputable def c30_13 : Code := cdL c30_12
noncomputable def c30_14 : Code := cdR c30_12
noncomputable def r30_1 : Array Oper := cdO c30_1
noncomputable def r30_4 : Array Oper := cdO c30_4
noncomputable def r30_6 : Array Oper := cdO c30_6
noncomputable def r30_9 : Array Oper := cdO c30_9
noncomputable def r30_13 : Array Oper := cdO c30_13
theorem c30_0e : c30_0 = .seq c30_1 c30_2 := by kernel_rfl
theorem c30_1e : c30_1 = .region 0 r30_1 false := by kernel_rfl
theorem c30_2e : c30_2 = .seq c30_3 c30_12 := by kernel_rfl
theorem c30_3e : c30_3 = .seq c30_4 c30_5 := by kernel_rfl
theorem c30_4e : c30_4 = .region 1 r30_4 false := by kernel_rfl
theorem c30_5e : c30_5 = .seq c30_6 c30_7 := by kernel_rfl
theorem c30_6e : c30_6 = .region 2 r30_6 false := by kernel_rfl
theorem c30_7e : c30_7 = .cond (cdC c30_7) c30_8 c30_11 := by kernel_rfl
theorem c30_8e : c30_8 = .seq c30_9 c30_10 := by kernel_rfl
theorem c30_9e : c30_9 = .region 3 r30_9 false := by kernel_rfl
theorem c30_10e : c30_10 = .ret := by kernel_rfl
theorem c30_11e : c30_11 = .skip := by kernel_rfl
theorem c30_12e : c30_12 = .seq c30_13 c30_14 := by kernel_rfl
theorem c30_13e : c30_13 = .region 4 r30_13 false := by kernel_rfl
theorem c30_14e : c30_14 = .ret := by kernel_rfl
noncomputable def saga_New.R (A_2 : Option Addr) (c_3 : Nat) : Pst (T_api_Saga × Int) where
  ε := Option Addr × Nat
  v := fun r x => .tuple ⟨[.agg ⟨[.slice x.1 r.1.Steps.length x.2, .int .i64 r.1.State, .int .i64 r.1.Cursor, .int .i64 r.1.Failed]⟩, .int .i64 r.2]⟩
  H := fun r x => []
  B := fun r x => [Rd 0 kT_api_Step x.1 x.2 r.1.Steps]
noncomputable def saga_New.cx (A_2 : Option Addr) (c_3 : Nat) (w0 : World) (S0 : Fam) : Cx (T_api_Saga × Int) := ⟨Try.prog, 30, Try.f30, 14, w0, S0, [], 0, saga_New.R A_2 c_3⟩
theorem saga_New_ok (n : Nat) (l_1 : (List T_api_Step)) (A_2 : Option Addr) (c_3 : Nat) :
    Meets Try.prog 30 [.slice A_2 l_1.length c_3] 0 [] [] [Rd 0 kT_api_Step A_2 c_3 l_1] (saga_New.f n l_1) (saga_New.R A_2 c_3) := by
  refine Meets.of (c := c30_0) (n := 14) Try.func30 (by kernel_rfl) (by kernel_rfl) (by kernel_rfl) fun w0 S0 => ?_
  unfold saga_New.f
  show GoO (saga_New.cx A_2 c_3 w0 S0) [(0, .slice A_2 l_1.length c_3)] [] [Rd 0 kT_api_Step A_2 c_3 l_1] [.code c30_0] _
  refine GoO.seq' c30_0e ?_
  refine GoO.region' (is := [0, 1]) c30_1e (by kernel_rfl) ?_
  refine OpTo.go (GoO.new rfl 40 (cs := [.slice none ([] : List T_api_Step).length 0, .int .i64 0, .int .i64 0, .int .i64 0]) (by kernel_rfl) _ (fun _ => rfl) (fun b_4 => ?_))
  refine GoO.exec (is := [1]) (hs := [.p]) (rest := []) (ks := [0, 2]) (env' := [(0, .slice A_2 l_1.length c_3), (2, .pointer (some ⟨b_4, 0, none⟩))]) (H' := [⟨40, b_4, [.slice none ([] : List T_api_Step).length 0, .int .i64 0, .int .i64 0, .int .i64 0]⟩]) (ps := []) (by kernel_rfl) trivial ?_
  refine GoO.regionEnd ?_
  refine GoO.seq' c30_2e ?_
  refine GoO.seq' c30_3e ?_
  refine GoO.region' (is := [0, 1, 2]) c30_4e (by kernel_rfl) ?_
  refine GoO.exec (is := [0]) (hs := [.p]) (rest := [1, 2]) (ks := [0, 2, 5]) (env' := [(0, .slice A_2 l_1.length c_3), (2, .pointer (some ⟨b_4, 0, none⟩)), (5, .slice A_2 l_1.length c_3)]) (H' := [⟨40, b_4, [.slice none ([] : List T_api_Step).length 0, .int .i64 0, .int .i64 0, .int .i64 0]⟩]) (ps := []) (by kernel_rfl) trivial ?_
  refine OpTo.go (GoO.call rfl (by kernel_rfl) (by kernel_rfl) (plan_Check_ok n l_1 A_2 c_3) [[0]] [] [] [(0, 0)] (hks := [0]) (bks := [0]) (by kernel_rfl) (by kernel_rfl) (by kernel_rfl) (.inl rfl) rfl rfl (by kernel_rfl) (by kernel_rfl) _ (fun _ _ => rfl) _ _ (fun _ _ => rfl) (fun _ _ => rfl) (fun _ _ => by kernel_rfl) (fun _ _ => by kernel_rfl) (fun r_5 x_10 => ?_))
  refine GoO.shape (env' := [(0, .slice A_2 l_1.length c_3), (2, .pointer (some ⟨b_4, 0, none⟩)), (5, .slice A_2 l_1.length c_3), (6, .int .i64 r_5)]) (H' := [⟨40, b_4, [.slice none ([] : List T_api_Step).length 0, .int .i64 0, .int .i64 0, .int .i64 0]⟩]) (B' := [Rd 0 kT_api_Step A_2 c_3 l_1]) (ks := [0, 2, 5, 6]) (by kernel_rfl) (by kernel_rfl) (by kernel_rfl) ?_
  refine GoO.exec (is := [2]) (hs := [.p]) (rest := []) (ks := [0, 2, 4]) (env' := [(0, .slice A_2 l_1.length c_3), (2, .pointer (some ⟨b_4, 0, none⟩)), (4, .int .i64 r_5)]) (H' := [⟨40, b_4, [.slice none ([] : List T_api_Step).length 0, .int .i64 0, .int .i64 0, .int .i64 0]⟩]) (ps := []) (by kernel_rfl) trivial ?_
  refine GoO.regionEnd ?_
  refine GoO.seq' c30_5e ?_
  refine GoO.region' (is := [0, 1]) c30_6e (by kernel_rfl) ?_
  refine GoO.exec (is := [0, 1]) (hs := [.p, .p]) (rest := []) (ks := [0, 2, 4, 8]) (env' := [(0, .slice A_2 l_1.length c_3), (2, .pointer (some ⟨b_4, 0, none⟩)), (4, .int .i64 r_5), (8, .bool (r_5 != 0))]) (H' := [⟨40, b_4, [.slice none ([] : List T_api_Step).length 0, .int .i64 0, .int .i64 0, .int .i64 0]⟩]) (ps := []) (by kernel_rfl) trivial ?_
  refine GoO.regionEnd ?_
  refine GoO.ite' c30_7e (by kernel_rfl) (fun h6 => ?_) (fun h6 => ?_)
  · refine GoO.seq' c30_8e ?_
    refine GoO.region' (is := [0, 1, 2, 3]) c30_9e (by kernel_rfl) ?_
    refine GoO.exec (is := [0, 1, 2, 3]) (hs := [.p, .p, .b 0, .p]) (rest := []) (ks := [2, 3]) (env' := [(2, .pointer (some ⟨b_4, 0, none⟩)), (3, .int .i64 r_5)]) (H' := [⟨40, b_4, [.slice none ([] : List T_api_Step).length 0, .int .i64 0, .int .i64 0, .int .i64 0]⟩]) (ps := [b_4 = b_4]) (by kernel_rfl) (And.intro rfl trivial) ?_
    refine GoO.regionEnd ?_
    refine GoO.nilRd kT_api_Step ?_
    exact GoO.ret' (h := c30_10e) (hs := [0]) (ps := [b_4 = b_4]) (hk := []) (bk := [0]) Try.func30 (⟨none, 0⟩ : Option Addr × Nat) (by kernel_rfl) (And.intro rfl trivial) (by kernel_rfl) (by kernel_rfl)
  · refine GoO.skip' c30_11e ?_
    refine GoO.seq' c30_12e ?_
    refine GoO.region' (is := [0, 1, 2, 3, 4]) c30_13e (by kernel_rfl) ?_
    refine GoO.exec (is := [0]) (hs := [.p]) (rest := [1, 2, 3, 4]) (ks := [2, 11]) (env' := [(2, .pointer (some ⟨b_4, 0, none⟩)), (11, .slice A_2 l_1.length c_3)]) (H' := [⟨40, b_4, [.slice none ([] : List T_api_Step).length 0, .int .i64 0, .int .i64 0, .int .i64 0]⟩]) (ps := []) (by kernel_rfl) trivial ?_
    refine GoO.nilOwn kT_api_Step 41 ?_
    refine GoO.guard (fun h7 => ?_)
    refine OpTo.go (GoO.appW (e := 50) (K := kT_api_Step) (A := none) (c := 0) (tg := 41) (bytes := 32) (zs := [.int .i64 0, .string (bs []), .int .i64 0]) (xs := ([] : List T_api_Step)) (ys := l_1) (xv := .slice A_2 l_1.length c_3) (j := 0) (bk := [1]) rfl (by kernel_rfl) (by kernel_rfl) (by kernel_rfl) (by kernel_rfl) rfl (by kernel_rfl) rfl (fun w S hB => SrcIs.row (Reads.rd w S (hB _ (List.mem_of_getElem? (i := 1) rfl)))) h7 rfl rfl rfl rfl _ (fun _ _ => rfl) (fun A_8 c_9 => ?_))
    refine GoO.exec (is := [2, 3, 4]) (hs := [.p, .b 0, .p]) (rest := []) (ks := [2, 3]) (env' := [(2, .pointer (some ⟨b_4, 0, none⟩)), (3, .int .i64 0)]) (H' := [⟨40, b_4, [.slice A_8 (([] : List T_api_Step) ++ l_1).length c_9, .int .i64 1, .int .i64 0, .int .i64 0]⟩]) (ps := [b_4 = b_4]) (by kernel_rfl) (And.intro rfl trivial) ?_
    refine GoO.regionEnd ?_
    refine GoO.retag (t := 41) (u := 0) (j := 0) (hk := [0]) (bk := [1]) rfl rfl rfl rfl rfl rfl (by kernel_rfl) (by kernel_rfl) ?_
    refine GoO.own2rd (j := 0) rfl ?_
    exact GoO.ret' (h := c30_14e) (hs := [0]) (ps := [b_4 = b_4]) (hk := []) (bk := [0]) Try.func30 (⟨A_8, c_9⟩ : Option Addr × Nat) (by kernel_rfl) (And.intro rfl trivial) (by kernel_rfl) (by kernel_rfl)

/-! tontine/saga.Sound -/
noncomputable def c28_0 : Code := bodyOf Try.f28
noncomputable def c28_1 : Code := cdL c28_0
noncomputable def c28_2 : Code := cdR c28_0
noncomputable def c28_3 : Code := cdL c28_2
noncomputable def c28_4 : Code := cdL c28_3
noncomputable def c28_5 : Code := cdR c28_3
noncomputable def c28_6 : Code := cdL c28_5
noncomputable def c28_7 : Code := cdL c28_6
noncomputable def c28_8 : Code := cdR c28_6
noncomputable def c28_9 : Code := cdR c28_5
noncomputable def c28_10 : Code := cdR c28_2
noncomputable def c28_11 : Code := cdL c28_10
noncomputable def c28_12 : Code := cdR c28_10
noncomputable def c28_13 : Code := cdL c28_12
noncomputable def c28_14 : Code := cdL c28_13
noncomputable def c28_15 : Code := cdR c28_13
noncomputable def c28_16 : Code := cdL c28_15
noncomputable def c28_17 : Code := cdL c28_16
noncomputable def c28_18 : Code := cdR c28_16
noncomputable def c28_19 : Code := cdL c28_18
noncomputable def c28_20 : Code := cdL c28_19
noncomputable def c28_21 : Code := cdR c28_19
noncomputable def c28_22 : Code := cdR c28_18
noncomputable def c28_23 : Code := cdL c28_22
noncomputable def c28_24 : Code := cdR c28_22
noncomputable def c28_25 : Code := cdL c28_24
noncomputable def c28_26 : Code := cdL c28_25
noncomputable def c28_27 : Code := cdR c28_25
noncomputable def c28_28 : Code := cdR c28_24
noncomputable def c28_29 : Code := cdL c28_28
noncomputable def c28_30 : Code := cdR c28_28
noncomputable def c28_31 : Code := cdL c28_30
noncomputable def c28_32 : Code := cdL c28_31
noncomputable def c28_33 : Code := cdR c28_31
noncomputable def c28_34 : Code := cdR c28_30
noncomputable def c28_35 : Code := cdL c28_34
noncomputable def c28_36 : Code := cdR c28_34
noncomputable def c28_37 : Code := cdL c28_36
noncomputable def c28_38 : Code := cdL c28_37
noncomputable def c28_39 : Code := cdR c28_37
noncomputable def c28_40 : Code := cdR c28_36
noncomputable def c28_41 : Code := cdL c28_40
noncomputable def c28_42 : Code := cdR c28_40
noncomputable def c28_43 : Code := cdL c28_42
noncomputable def c28_44 : Code := cdL c28_43
noncomputable def c28_45 : Code := cdR c28_43
noncomputable def c28_46 : Code := cdR c28_42
noncomputable def c28_47 : Code := cdR c28_12
noncomputable def c28_48 : Code := cdL c28_47
noncomputable def c28_49 : Code := cdR c28_47
noncomputable def r28_1 : Array Oper := cdO c28_1
noncomputable def r28_4 : Array Oper := cdO c28_4
noncomputable def r28_7 : Array Oper := cdO c28_7
noncomputable def r28_11 : Array Oper := cdO c28_11
noncomputable def r28_14 : Array Oper := cdO c28_14
noncomputable def r28_17 : Array Oper := cdO c28_17
noncomputable def r28_20 : Array Oper := cdO c28_20
noncomputable def r28_23 : Array Oper := cdO c28_23
noncomputable def r28_26 : Array Oper := cdO c28_26
noncomputable def r28_29 : Array Oper := cdO c28_29
noncomputable def r28_32 : Array Oper := cdO c28_32
noncomputable def r28_35 : Array Oper := cdO c28_35
noncomputable def r28_38 : Array Oper := cdO c28_38
noncomputable def r28_41 : Array Oper := cdO c28_41
noncomputable def r28_44 : Array Oper := cdO c28_44
noncomputable def r28_48 : Array Oper := cdO c28_48
theorem c28_0e : c28_0 = .seq c28_1 c28_2 := by kernel_rfl
theorem c28_1e : c28_1 = .region 0 r28_1 false := by kernel_rfl
theorem c28_2e : c28_2 = .seq c28_3 c28_10 := by kernel_rfl
theorem c28_3e : c28_3 = .seq c28_4 c28_5 := by kernel_rfl
theorem c28_4e : c28_4 = .region 1 r28_4 false := by kernel_rfl
theorem c28_5e : c28_5 = .cond (cdC c28_5) c28_6 c28_9 := by kernel_rfl
theorem c28_6e : c28_6 = .seq c28_7 c28_8 := by kernel_rfl
theorem c28_7e : c28_7 = .region 2 r28_7 false := by kernel_rfl
theorem c28_8e : c28_8 = .ret := by kernel_rfl
theorem c28_9e : c28_9 = .skip := by kernel_rfl
theorem c28_10e : c28_10 = .seq c28_11 c28_12 := by kernel_rfl
theorem c28_11e : c28_11 = .region 3 r28_11 false := by kernel_rfl
theorem c28_12e : c28_12 = .seq c28_13 c28_47 := by kernel_rfl
theorem c28_13e : c28_13 = .seq c28_14 c28_15 := by kernel_rfl
theorem c28_14e : c28_14 = .region 4 r28_14 false := by kernel_rfl
theorem c28_15e : c28_15 = .block 0 c28_16 := by kernel_rfl
theorem c28_16e : c28_16 = .seq c28_17 c28_18 := by kernel_rfl
theorem c28_17e : c28_17 = .region 5 r28_17 false := by kernel_rfl
theorem c28_18e : c28_18 = .cond (cdC c28_18) c28_19 c28_22 := by kernel_rfl
theorem c28_19e : c28_19 = .seq c28_20 c28_21 := by kernel_rfl
theorem c28_20e : c28_20 = .region 6 r28_20 false := by kernel_rfl
theorem c28_21e : c28_21 = .ret := by kernel_rfl
theorem c28_22e : c28_22 = .seq c28_23 c28_24 := by kernel_rfl
theorem c28_23e : c28_23 = .region 7 r28_23 false := by kernel_rfl
theorem c28_24e : c28_24 = .cond (cdC c28_24) c28_25 c28_28 := by kernel_rfl
theorem c28_25e : c28_25 = .seq c28_26 c28_27 := by kernel_rfl
theorem c28_26e : c28_26 = .region 8 r28_26 true := by kernel_rfl
theorem c28_27e : c28_27 = .ret := by kernel_rfl
theorem c28_28e : c28_28 = .seq c28_29 c28_30 := by kernel_rfl
theorem c28_29e : c28_29 = .region 9 r28_29 false := by kernel_rfl
theorem c28_30e : c28_30 = .cond (cdC c28_30) c28_31 c28_34 := by kernel_rfl
theorem c28_31e : c28_31 = .seq c28_32 c28_33 := by kernel_rfl
theorem c28_32e : c28_32 = .region 10 r28_32 false := by kernel_rfl
theorem c28_33e : c28_33 = .ret := by kernel_rfl
theorem c28_34e : c28_34 = .seq c28_35 c28_36 := by kernel_rfl
theorem c28_35e : c28_35 = .region 11 r28_35 false := by kernel_rfl
theorem c28_36e : c28_36 = .cond (cdC c28_36) c28_37 c28_40 := by kernel_rfl
theorem c28_37e : c28_37 = .seq c28_38 c28_39 := by kernel_rfl
theorem c28_38e : c28_38 = .region 12 r28_38 false := by kernel_rfl
theorem c28_39e : c28_39 = .ret := by kernel_rfl
theorem c28_40e : c28_40 = .seq c28_41 c28_42 := by kernel_rfl
theorem c28_41e : c28_41 = .region 13 r28_41 false := by kernel_rfl
theorem c28_42e : c28_42 = .cond (cdC c28_42) c28_43 c28_46 := by kernel_rfl
theorem c28_43e : c28_43 = .seq c28_44 c28_45 := by kernel_rfl
theorem c28_44e : c28_44 = .region 14 r28_44 true := by kernel_rfl
theorem c28_45e : c28_45 = .ret := by kernel_rfl
theorem c28_46e : c28_46 = .skip := by kernel_rfl
theorem c28_47e : c28_47 = .seq c28_48 c28_49 := by kernel_rfl
theorem c28_48e : c28_48 = .region 15 r28_48 false := by kernel_rfl
theorem c28_49e : c28_49 = .ret := by kernel_rfl
noncomputable def saga_Sound.R (A_2 : Option Addr) (c_3 : Nat) : Pst Bool where
  ε := Unit
  v := fun r x => .bool r
  H := fun r x => []
  B := fun r x => []
noncomputable def saga_Sound.cx (A_2 : Option Addr) (c_3 : Nat) (w0 : World) (S0 : Fam) : Cx Bool := ⟨Try.prog, 28, Try.f28, 101, w0, S0, [], 0, saga_Sound.R A_2 c_3⟩
theorem saga_Sound_j0_ok (n : Nat) (s_1 : T_api_Saga) (A_2 : Option Addr) (c_3 : Nat) (b_4 : Nat) (w0 : World) (S0 : Fam) (b_7 : Bool) :
    GoO (saga_Sound.cx A_2 c_3 w0 S0) [(1, .pointer (some ⟨b_4, 0, none⟩)), (12, .bool b_7)] [⟨40, b_4, [.slice A_2 s_1.Steps.length c_3, .int .i64 s_1.State, .int .i64 s_1.Cursor, .int .i64 s_1.Failed]⟩] [Rd 0 kT_api_Step A_2 c_3 s_1.Steps] [.code c28_5, .code c28_10] (saga_Sound.j0 n s_1 b_7) := by
  unfold saga_Sound.j0
  refine GoO.ite' c28_5e (by kernel_rfl) (fun h8 => ?_) (fun h8 => ?_)
  · refine GoO.seq' c28_6e ?_
    refine GoO.region' (is := [0]) c28_7e (by kernel_rfl) ?_
    refine GoO.exec (is := [0]) (hs := [.p]) (rest := []) (ks := [2]) (env' := [(2, .bool false)]) (H' := [⟨40, b_4, [.slice A_2 s_1.Steps.length c_3, .int .i64 s_1.State, .int .i64 s_1.Cursor, .int .i64 s_1.Failed]⟩]) (ps := []) (by kernel_rfl) trivial ?_
    refine GoO.regionEnd ?_
    exact GoO.ret' (h := c28_8e) (hs := []) (ps := []) (hk := []) (bk := []) Try.func28 () (by kernel_rfl) trivial (by kernel_rfl) (by kernel_rfl)
  · refine GoO.skip' c28_9e ?_
    refine GoO.seq' c28_10e ?_
    refine GoO.region' (is := [0, 1, 2, 3]) c28_11e (by kernel_rfl) ?_
    refine GoO.exec (is := [0, 1, 2, 3]) (hs := [.p, .b 0, .p, .p]) (rest := []) (ks := [1, 3]) (env' := [(1, .pointer (some ⟨b_4, 0, none⟩)), (3, .int .i64 (s_1.Steps.length : Int))]) (H' := [⟨40, b_4, [.slice A_2 s_1.Steps.length c_3, .int .i64 s_1.State, .int .i64 s_1.Cursor, .int .i64 s_1.Failed]⟩]) (ps := [b_4 = b_4]) (by kernel_rfl) (And.intro rfl trivial) ?_
    refine GoO.regionEnd ?_
    refine GoO.seq' c28_12e ?_
    refine GoO.seq' c28_13e ?_
    refine GoO.region' (is := [0, 1]) c28_14e (by kernel_rfl) ?_
    refine GoO.exec (is := [0, 1]) (hs := [.p, .b 0]) (rest := []) (ks := [1, 3, 17]) (env' := [(1, .pointer (some ⟨b_4, 0, none⟩)), (3, .int .i64 (s_1.Steps.length : Int)), (17, .int .i64 s_1.State)]) (H' := [⟨40, b_4, [.slice A_2 s_1.Steps.length c_3, .int .i64 s_1.State, .int .i64 s_1.Cursor, .int .i64 s_1.Failed]⟩]) (ps := [b_4 = b_4]) (by kernel_rfl) (And.intro rfl trivial) ?_
    refine GoO.regionEnd ?_
    refine GoO.block' c28_15e ?_
    refine GoO.seq' c28_16e ?_
    refine GoO.region' (is := [0, 1]) c28_17e (by kernel_rfl) ?_
    refine GoO.exec (is := [0, 1]) (hs := [.p, .p]) (rest := []) (ks := [1, 3, 17, 18]) (env' := [(1, .pointer (some ⟨b_4, 0, none⟩)), (3, .int .i64 (s_1.Steps.length : Int)), (17, .int .i64 s_1.State), (18, .bool (s_1.State == 1))]) (H' := [⟨40, b_4, [.slice A_2 s_1.Steps.length c_3, .int .i64 s_1.State, .int .i64 s_1.Cursor, .int .i64 s_1.Failed]⟩]) (ps := []) (by kernel_rfl) trivial ?_
    refine GoO.regionEnd ?_
    refine GoO.ite' c28_18e (by kernel_rfl) (fun h9 => ?_) (fun h9 => ?_)
    · refine GoO.seq' c28_19e ?_
      refine GoO.region' (is := [0, 1, 2, 3, 4, 5, 6, 7, 8, 9, 10, 11, 12, 13, 14]) c28_20e (by kernel_rfl) ?_
      refine GoO.exec (is := [0, 1, 2, 3]) (hs := [.p, .b 0, .p, .p]) (rest := [4, 5, 6, 7, 8, 9, 10, 11, 12, 13, 14]) (ks := [1, 3, 23]) (env' := [(1, .pointer (some ⟨b_4, 0, none⟩)), (3, .int .i64 (s_1.Steps.length : Int)), (23, .bool (decide (s_1.Cursor ≥ 0)))]) (H' := [⟨40, b_4, [.slice A_2 s_1.Steps.length c_3, .int .i64 s_1.State, .int .i64 s_1.Cursor, .int .i64 s_1.Failed]⟩]) (ps := [b_4 = b_4]) (by kernel_rfl) (And.intro rfl trivial) ?_
      refine GoO.bsplit (t := 23) (by kernel_rfl) (fun h10 => ?_) (fun h10 => ?_)
      · refine GoO.exec (is := [4, 5, 6, 7, 8, 9]) (hs := [.p, .b 0, .p, .p, .p, .p]) (rest := [10, 11, 12, 13, 14]) (ks := [1, 29]) (env' := [(1, .pointer (some ⟨b_4, 0, none⟩)), (29, .bool (decide (s_1.Cursor < (s_1.Steps.length : Int))))]) (H' := [⟨40, b_4, [.slice A_2 s_1.Steps.length c_3, .int .i64 s_1.State, .int .i64 s_1.Cursor, .int .i64 s_1.Failed]⟩]) (ps := [b_4 = b_4]) (by kernel_rfl) (And.intro rfl trivial) ?_
        refine GoO.bsplit (t := 29) (by kernel_rfl) (fun h11 => ?_) (fun h11 => ?_)
        · refine GoO.exec (is := [10, 11, 12, 13, 14]) (hs := [.p, .b 0, .p, .p, .p]) (rest := []) (ks := [2]) (env' := [(2, .bool (s_1.Failed == 0))]) (H' := [⟨40, b_4, [.slice A_2 s_1.Steps.length c_3, .int .i64 s_1.State, .int .i64 s_1.Cursor, .int .i64 s_1.Failed]⟩]) (ps := [b_4 = b_4]) (by kernel_rfl) (And.intro rfl trivial) ?_
          refine GoO.regionEnd ?_
          exact GoO.ret' (h := c28_21e) (hs := []) (ps := []) (hk := []) (bk := []) Try.func28 () (by kernel_rfl) trivial (by kernel_rfl) (by kernel_rfl)
        · refine GoO.exec (is := [10, 11, 12, 13, 14]) (hs := [.p, .p, .p, .p, .p]) (rest := []) (ks := [2]) (env' := [(2, .bool false)]) (H' := [⟨40, b_4, [.slice A_2 s_1.Steps.length c_3, .int .i64 s_1.State, .int .i64 s_1.Cursor, .int .i64 s_1.Failed]⟩]) (ps := []) (by kernel_rfl) trivial ?_
          refine GoO.regionEnd ?_
          exact GoO.ret' (h := c28_21e) (hs := []) (ps := []) (hk := []) (bk := []) Try.func28 () (by kernel_rfl) trivial (by kernel_rfl) (by kernel_rfl)
      · refine GoO.exec (is := [4, 5, 6, 7, 8, 9, 10, 11, 12, 13, 14]) (hs := [.p, .p, .p, .p, .p, .p, .p, .p, .p, .p, .p]) (rest := []) (ks := [2]) (env' := [(2, .bool false)]) (H' := [⟨40, b_4, [.slice A_2 s_1.Steps.length c_3, .int .i64 s_1.State, .int .i64 s_1.Cursor, .int .i64 s_1.Failed]⟩]) (ps := []) (by kernel_rfl) trivial ?_
        refine GoO.regionEnd ?_
        exact GoO.ret' (h := c28_21e) (hs := []) (ps := []) (hk := []) (bk := []) Try.func28 () (by kernel_rfl) trivial (by kernel_rfl) (by kernel_rfl)
    · refine GoO.seq' c28_22e ?_
      refine GoO.region' (is := [0, 1]) c28_23e (by kernel_rfl) ?_
      refine GoO.exec (is := [0, 1]) (hs := [.p, .p]) (rest := []) (ks := [1, 3, 17, 34]) (env' := [(1, .pointer (some ⟨b_4, 0, none⟩)), (3, .int .i64 (s_1.Steps.length : Int)), (17, .int .i64 s_1.State), (34, .bool (s_1.State == 2))]) (H' := [⟨40, b_4, [.slice A_2 s_1.Steps.length c_3, .int .i64 s_1.State, .int .i64 s_1.Cursor, .int .i64 s_1.Failed]⟩]) (ps := []) (by kernel_rfl) trivial ?_
      refine GoO.regionEnd ?_
      refine GoO.ite' c28_24e (by kernel_rfl) (fun h12 => ?_) (fun h12 => ?_)
      · refine GoO.seq' c28_25e ?_
        refine GoO.draw c28_26e (by kernel_rfl) [21] [⟨40, b_4, [.slice A_2 s_1.Steps.length c_3, .int .i64 s_1.State, .int .i64 s_1.Cursor, .int .i64 s_1.Failed]⟩] [Rd 0 kT_api_Step A_2 c_3 s_1.Steps] (n := 22) (by kernel_rfl) ?_
        simp only [List.replicate]
        refine GoF.take [0, 1, 2, 3] [.p, .b 0, .p, .p] (ks := [1, 3, 39]) (fu := 18) (li := [true, true, true, true, false, false, false, false, false, false, false, false, false, false, false, false, false, false, false, false, false, false]) (env' := [(1, .pointer (some ⟨b_4, 0, none⟩)), (3, .int .i64 (s_1.Steps.length : Int)), (39, .bool (decide (s_1.Cursor ≥ 0)))]) (ps := [b_4 = b_4]) (hk := [0]) (bk := [0]) (by kernel_rfl) (And.intro rfl trivial) rfl rfl ?_
        refine GoF.bsplit (t := 39) (by kernel_rfl) (fun h13 => ?_) (fun h13 => ?_)
        · refine GoF.take [4, 5, 6, 7, 8, 9] [.p, .b 0, .p, .p, .p, .p] (ks := [1, 45]) (fu := 12) (li := [true, true, true, true, true, true, true, true, true, true, false, false, false, false, false, false, false, false, false, false, false, false]) (env' := [(1, .pointer (some ⟨b_4, 0, none⟩)), (45, .bool (decide (s_1.Cursor < (s_1.Steps.length : Int))))]) (ps := [b_4 = b_4]) (hk := [0]) (bk := [0]) (by kernel_rfl) (And.intro rfl trivial) rfl rfl ?_
          refine GoF.bsplit (t := 45) (by kernel_rfl) (fun h14 => ?_) (fun h14 => ?_)
          · refine GoF.take [10, 11, 12, 13, 14, 15] [.p, .b 0, .p, .b 0, .p, .b 0] (ks := [45, 47, 49, 51]) (fu := 6) (li := [true, true, true, true, true, true, true, true, true, true, true, true, true, true, true, true, false, false, false, false, false, false]) (env' := [(45, .bool true), (47, .int .i64 s_1.Failed), (49, .slice A_2 s_1.Steps.length c_3), (51, .int .i64 s_1.Cursor)]) (ps := [b_4 = b_4, b_4 = b_4, b_4 = b_4]) (hk := [0]) (bk := [0]) (by kernel_rfl) (And.intro rfl (And.intro rfl (And.intro rfl trivial))) rfl rfl ?_
            refine GoF.guard (fun h15 => ?_)
            refine GoF.idx (i := 16) (hk := [0]) (bk := [0]) (kk := .i64) (e := 50) (K := kT_api_Step) (A := A_2) (c := c_3) (xs := s_1.Steps) (iv := s_1.Cursor) (j := 0) (by kernel_rfl) rfl rfl rfl (by kernel_rfl) (by kernel_rfl) (by kernel_rfl) (by kernel_rfl) rfl Reads.rd rfl h15.1 h15.2 (by decide) rfl ?_
            refine GoF.fldE (i := 17) (hk := [0]) (bk := [0]) (K := kT_api_Step) (A := A_2) (c := c_3) (xs := s_1.Steps) (iN := s_1.Cursor.toNat) (off := 0) (n := 2) (j := 0) (by kernel_rfl) rfl rfl rfl (by kernel_rfl) (by kernel_rfl) rfl Reads.rd (idx_lt h15.1 h15.2) (by decide) rfl ?_
            refine GoF.ldE (i := 18) (hk := [0]) (bk := [0]) (K := kT_api_Step) (A := A_2) (c := c_3) (xs := s_1.Steps) (iN := s_1.Cursor.toNat) (off := 2) (j := 0) (v := .int .i64 ((rdL s_1.Steps s_1.Cursor).Budget)) (by kernel_rfl) rfl rfl rfl (hK := rfl) (by kernel_rfl) rfl Reads.rd (idx_lt h15.1 h15.2) (by decide) (by kernel_rfl) rfl ?_
            refine GoF.take [19, 20] [.p, .p] (ks := [56]) (fu := 1) (li := [true, true, true, true, true, true, true, true, true, true, true, true, true, true, true, true, true, true, true, true, true, false]) (env' := [(56, .bool (decide (s_1.Failed < ((rdL s_1.Steps s_1.Cursor).Budget))))]) (ps := []) (hk := [0]) (bk := [0]) (by kernel_rfl) trivial rfl rfl ?_
            refine GoF.fin1 (i := 21) (hint := .p) (ps := []) (hk := []) (bk := []) (by kernel_rfl) rfl trivial (.inl rfl) ?_
            refine GoF.done (by kernel_rfl) ?_
            exact GoO.ret' (h := c28_27e) (hs := []) (ps := []) (hk := []) (bk := []) Try.func28 () (by kernel_rfl) trivial (by kernel_rfl) (by kernel_rfl)
          · refine GoF.take [10, 11, 12, 13, 14, 15, 16, 17, 18, 19, 20] [.p, .p, .p, .p, .p, .p, .p, .p, .p, .p, .p] (ks := [56]) (fu := 1) (li := [true, true, true, true, true, true, true, true, true, true, true, true, true, true, true, true, true, true, true, true, true, false]) (env' := [(56, .bool false)]) (ps := []) (hk := [0]) (bk := [0]) (by kernel_rfl) trivial rfl rfl ?_
            refine GoF.fin1 (i := 21) (hint := .p) (ps := []) (hk := []) (bk := []) (by kernel_rfl) rfl trivial (.inl rfl) ?_
            refine GoF.done (by kernel_rfl) ?_
            exact GoO.ret' (h := c28_27e) (hs := []) (ps := []) (hk := []) (bk := []) Try.func28 () (by kernel_rfl) trivial (by kernel_rfl) (by kernel_rfl)
        · refine GoF.take [4, 5, 6, 7, 8, 9, 10, 11, 12, 13, 14, 15, 16, 17, 18, 19, 20] [.p, .p, .p, .p, .p, .p, .p, .p, .p, .p, .p, .p, .p, .p, .p, .p, .p] (ks := [56]) (fu := 1) (li := [true, true, true, true, true, true, true, true, true, true, true, true, true, true, true, true, true, true, true, true, true, false]) (env' := [(56, .bool false)]) (ps := []) (hk := [0]) (bk := [0]) (by kernel_rfl) trivial rfl rfl ?_
          refine GoF.fin1 (i := 21) (hint := .p) (ps := []) (hk := []) (bk := []) (by kernel_rfl) rfl trivial (.inl rfl) ?_
          refine GoF.done (by kernel_rfl) ?_
          exact GoO.ret' (h := c28_27e) (hs := []) (ps := []) (hk := []) (bk := []) Try.func28 () (by kernel_rfl) trivial (by kernel_rfl) (by kernel_rfl)
      · refine GoO.seq' c28_28e ?_
        refine GoO.region' (is := [0, 1]) c28_29e (by kernel_rfl) ?_
        refine GoO.exec (is := [0, 1]) (hs := [.p, .p]) (rest := []) (ks := [1, 3, 17, 57]) (env' := [(1, .pointer (some ⟨b_4, 0, none⟩)), (3, .int .i64 (s_1.Steps.length : Int)), (17, .int .i64 s_1.State), (57, .bool (s_1.State == 3))]) (H' := [⟨40, b_4, [.slice A_2 s_1.Steps.length c_3, .int .i64 s_1.State, .int .i64 s_1.Cursor, .int .i64 s_1.Failed]⟩]) (ps := []) (by kernel_rfl) trivial ?_
        refine GoO.regionEnd ?_
        refine GoO.ite' c28_30e (by kernel_rfl) (fun h16 => ?_) (fun h16 => ?_)
        · refine GoO.seq' c28_31e ?_
          refine GoO.region' (is := [0, 1, 2, 3, 4, 5, 6, 7, 8, 9]) c28_32e (by kernel_rfl) ?_
          refine GoO.exec (is := [0, 1, 2, 3, 4]) (hs := [.p, .b 0, .p, .p, .p]) (rest := [5, 6, 7, 8, 9]) (ks := [1, 63]) (env' := [(1, .pointer (some ⟨b_4, 0, none⟩)), (63, .bool (s_1.Cursor == (s_1.Steps.length : Int)))]) (H' := [⟨40, b_4, [.slice A_2 s_1.Steps.length c_3, .int .i64 s_1.State, .int .i64 s_1.Cursor, .int .i64 s_1.Failed]⟩]) (ps := [b_4 = b_4]) (by kernel_rfl) (And.intro rfl trivial) ?_
          refine GoO.bsplit (t := 63) (by kernel_rfl) (fun h17 => ?_) (fun h17 => ?_)
          · refine GoO.exec (is := [5, 6, 7, 8, 9]) (hs := [.p, .b 0, .p, .p, .p]) (rest := []) (ks := [2]) (env' := [(2, .bool (s_1.Failed == 0))]) (H' := [⟨40, b_4, [.slice A_2 s_1.Steps.length c_3, .int .i64 s_1.State, .int .i64 s_1.Cursor, .int .i64 s_1.Failed]⟩]) (ps := [b_4 = b_4]) (by kernel_rfl) (And.intro rfl trivial) ?_
            refine GoO.regionEnd ?_
            exact GoO.ret' (h := c28_33e) (hs := []) (ps := []) (hk := []) (bk := []) Try.func28 () (by kernel_rfl) trivial (by kernel_rfl) (by kernel_rfl)
          · refine GoO.exec (is := [5, 6, 7, 8, 9]) (hs := [.p, .p, .p, .p, .p]) (rest := []) (ks := [2]) (env' := [(2, .bool false)]) (H' := [⟨40, b_4, [.slice A_2 s_1.Steps.length c_3, .int .i64 s_1.State, .int .i64 s_1.Cursor, .int .i64 s_1.Failed]⟩]) (ps := []) (by kernel_rfl) trivial ?_
            refine GoO.regionEnd ?_
            exact GoO.ret' (h := c28_33e) (hs := []) (ps := []) (hk := []) (bk := []) Try.func28 () (by kernel_rfl) trivial (by kernel_rfl) (by kernel_rfl)
        · refine GoO.seq' c28_34e ?_
          refine GoO.region' (is := [0, 1]) c28_35e (by kernel_rfl) ?_
          refine GoO.exec (is := [0, 1]) (hs := [.p, .p]) (rest := []) (ks := [1, 3, 17, 68]) (env' := [(1, .pointer (some ⟨b_4, 0, none⟩)), (3, .int .i64 (s_1.Steps.length : Int)), (17, .int .i64 s_1.State), (68, .bool (s_1.State == 4))]) (H' := [⟨40, b_4, [.slice A_2 s_1.Steps.length c_3, .int .i64 s_1.State, .int .i64 s_1.Cursor, .int .i64 s_1.Failed]⟩]) (ps := []) (by kernel_rfl) trivial ?_
          refine GoO.regionEnd ?_
          refine GoO.ite' c28_36e (by kernel_rfl) (fun h18 => ?_) (fun h18 => ?_)
          · refine GoO.seq' c28_37e ?_
            refine GoO.region' (is := [0, 1, 2, 3, 4, 5, 6, 7, 8]) c28_38e (by kernel_rfl) ?_
            refine GoO.exec (is := [0, 1, 2, 3]) (hs := [.p, .b 0, .p, .p]) (rest := [4, 5, 6, 7, 8]) (ks := [1, 73]) (env' := [(1, .pointer (some ⟨b_4, 0, none⟩)), (73, .bool (s_1.Cursor == 0))]) (H' := [⟨40, b_4, [.slice A_2 s_1.Steps.length c_3, .int .i64 s_1.State, .int .i64 s_1.Cursor, .int .i64 s_1.Failed]⟩]) (ps := [b_4 = b_4]) (by kernel_rfl) (And.intro rfl trivial) ?_
            refine GoO.bsplit (t := 73) (by kernel_rfl) (fun h19 => ?_) (fun h19 => ?_)
            · refine GoO.exec (is := [4, 5, 6, 7, 8]) (hs := [.p, .b 0, .p, .p, .p]) (rest := []) (ks := [2]) (env' := [(2, .bool (s_1.Failed == 0))]) (H' := [⟨40, b_4, [.slice A_2 s_1.Steps.length c_3, .int .i64 s_1.State, .int .i64 s_1.Cursor, .int .i64 s_1.Failed]⟩]) (ps := [b_4 = b_4]) (by kernel_rfl) (And.intro rfl trivial) ?_
              refine GoO.regionEnd ?_
              exact GoO.ret' (h := c28_39e) (hs := []) (ps := []) (hk := []) (bk := []) Try.func28 () (by kernel_rfl) trivial (by kernel_rfl) (by kernel_rfl)
            · refine GoO.exec (is := [4, 5, 6, 7, 8]) (hs := [.p, .p, .p, .p, .p]) (rest := []) (ks := [2]) (env' := [(2, .bool false)]) (H' := [⟨40, b_4, [.slice A_2 s_1.Steps.length c_3, .int .i64 s_1.State, .int .i64 s_1.Cursor, .int .i64 s_1.Failed]⟩]) (ps := []) (by kernel_rfl) trivial ?_
              refine GoO.regionEnd ?_
              exact GoO.ret' (h := c28_39e) (hs := []) (ps := []) (hk := []) (bk := []) Try.func28 () (by kernel_rfl) trivial (by kernel_rfl) (by kernel_rfl)
          · refine GoO.seq' c28_40e ?_
            refine GoO.region' (is := [0, 1]) c28_41e (by kernel_rfl) ?_
            refine GoO.exec (is := [0, 1]) (hs := [.p, .p]) (rest := []) (ks := [1, 3, 78]) (env' := [(1, .pointer (some ⟨b_4, 0, none⟩)), (3, .int .i64 (s_1.Steps.length : Int)), (78, .bool (s_1.State == 5))]) (H' := [⟨40, b_4, [.slice A_2 s_1.Steps.length c_3, .int .i64 s_1.State, .int .i64 s_1.Cursor, .int .i64 s_1.Failed]⟩]) (ps := []) (by kernel_rfl) trivial ?_
            refine GoO.regionEnd ?_
            refine GoO.ite' c28_42e (by kernel_rfl) (fun h20 => ?_) (fun h20 => ?_)
            · refine GoO.seq' c28_43e ?_
              refine GoO.draw c28_44e (by kernel_rfl) [21] [⟨40, b_4, [.slice A_2 s_1.Steps.length c_3, .int .i64 s_1.State, .int .i64 s_1.Cursor, .int .i64 s_1.Failed]⟩] [Rd 0 kT_api_Step A_2 c_3 s_1.Steps] (n := 22) (by kernel_rfl) ?_
              simp only [List.replicate]
              refine GoF.take [0, 1, 2, 3] [.p, .b 0, .p, .p] (ks := [1, 3, 83]) (fu := 18) (li := [true, true, true, true, false, false, false, false, false, false, false, false, false, false, false, false, false, false, false, false, false, false]) (env' := [(1, .pointer (some ⟨b_4, 0, none⟩)), (3, .int .i64 (s_1.Steps.length : Int)), (83, .bool (decide (s_1.Cursor ≥ 0)))]) (ps := [b_4 = b_4]) (hk := [0]) (bk := [0]) (by kernel_rfl) (And.intro rfl trivial) rfl rfl ?_
              refine GoF.bsplit (t := 83) (by kernel_rfl) (fun h21 => ?_) (fun h21 => ?_)
              · refine GoF.take [4, 5, 6, 7, 8, 9] [.p, .b 0, .p, .p, .p, .p] (ks := [1, 89]) (fu := 12) (li := [true, true, true, true, true, true, true, true, true, true, false, false, false, false, false, false, false, false, false, false, false, false]) (env' := [(1, .pointer (some ⟨b_4, 0, none⟩)), (89, .bool (decide (s_1.Cursor < (s_1.Steps.length : Int))))]) (ps := [b_4 = b_4]) (hk := [0]) (bk := [0]) (by kernel_rfl) (And.intro rfl trivial) rfl rfl ?_
                refine GoF.bsplit (t := 89) (by kernel_rfl) (fun h22 => ?_) (fun h22 => ?_)
                · refine GoF.take [10, 11, 12, 13, 14, 15] [.p, .b 0, .p, .b 0, .p, .b 0] (ks := [89, 91, 93, 95]) (fu := 6) (li := [true, true, true, true, true, true, true, true, true, true, true, true, true, true, true, true, false, false, false, false, false, false]) (env' := [(89, .bool true), (91, .int .i64 s_1.Failed), (93, .slice A_2 s_1.Steps.length c_3), (95, .int .i64 s_1.Cursor)]) (ps := [b_4 = b_4, b_4 = b_4, b_4 = b_4]) (hk := [0]) (bk := [0]) (by kernel_rfl) (And.intro rfl (And.intro rfl (And.intro rfl trivial))) rfl rfl ?_
                  refine GoF.guard (fun h23 => ?_)
                  refine GoF.idx (i := 16) (hk := [0]) (bk := [0]) (kk := .i64) (e := 50) (K := kT_api_Step) (A := A_2) (c := c_3) (xs := s_1.Steps) (iv := s_1.Cursor) (j := 0) (by kernel_rfl) rfl rfl rfl (by kernel_rfl) (by kernel_rfl) (by kernel_rfl) (by kernel_rfl) rfl Reads.rd rfl h23.1 h23.2 (by decide) rfl ?_
                  refine GoF.fldE (i := 17) (hk := [0]) (bk := [0]) (K := kT_api_Step) (A := A_2) (c := c_3) (xs := s_1.Steps) (iN := s_1.Cursor.toNat) (off := 0) (n := 2) (j := 0) (by kernel_rfl) rfl rfl rfl (by kernel_rfl) (by kernel_rfl) rfl Reads.rd (idx_lt h23.1 h23.2) (by decide) rfl ?_
                  refine GoF.ldE (i := 18) (hk := [0]) (bk := [0]) (K := kT_api_Step) (A := A_2) (c := c_3) (xs := s_1.Steps) (iN := s_1.Cursor.toNat) (off := 2) (j := 0) (v := .int .i64 ((rdL s_1.Steps s_1.Cursor).Budget)) (by kernel_rfl) rfl rfl rfl (hK := rfl) (by kernel_rfl) rfl Reads.rd (idx_lt h23.1 h23.2) (by decide) (by kernel_rfl) rfl ?_
                  refine GoF.take [19, 20] [.p, .p] (ks := [100]) (fu := 1) (li := [true, true, true, true, true, true, true, true, true, true, true, true, true, true, true, true, true, true, true, true, true, false]) (env' := [(100, .bool (s_1.Failed == ((rdL s_1.Steps s_1.Cursor).Budget)))]) (ps := []) (hk := [0]) (bk := [0]) (by kernel_rfl) trivial rfl rfl ?_
                  refine GoF.fin1 (i := 21) (hint := .p) (ps := []) (hk := []) (bk := []) (by kernel_rfl) rfl trivial (.inl rfl) ?_
                  refine GoF.done (by kernel_rfl) ?_
                  exact GoO.ret' (h := c28_45e) (hs := []) (ps := []) (hk := []) (bk := []) Try.func28 () (by kernel_rfl) trivial (by kernel_rfl) (by kernel_rfl)
                · refine GoF.take [10, 11, 12, 13, 14, 15, 16, 17, 18, 19, 20] [.p, .p, .p, .p, .p, .p, .p, .p, .p, .p, .p] (ks := [100]) (fu := 1) (li := [true, true, true, true, true, true, true, true, true, true, true, true, true, true, true, true, true, true, true, true, true, false]) (env' := [(100, .bool false)]) (ps := []) (hk := [0]) (bk := [0]) (by kernel_rfl) trivial rfl rfl ?_
                  refine GoF.fin1 (i := 21) (hint := .p) (ps := []) (hk := []) (bk := []) (by kernel_rfl) rfl trivial (.inl rfl) ?_
                  refine GoF.done (by kernel_rfl) ?_
                  exact GoO.ret' (h := c28_45e) (hs := []) (ps := []) (hk := []) (bk := []) Try.func28 () (by kernel_rfl) trivial (by kernel_rfl) (by kernel_rfl)
              · refine GoF.take [4, 5, 6, 7, 8, 9, 10, 11, 12, 13, 14, 15, 16, 17, 18, 19, 20] [.p, .p, .p, .p, .p, .p, .p, .p, .p, .p, .p, .p, .p, .p, .p, .p, .p] (ks := [100]) (fu := 1) (li := [true, true, true, true, true, true, true, true, true, true, true, true, true, true, true, true, true, true, true, true, true, false]) (env' := [(100, .bool false)]) (ps := []) (hk := [0]) (bk := [0]) (by kernel_rfl) trivial rfl rfl ?_
                refine GoF.fin1 (i := 21) (hint := .p) (ps := []) (hk := []) (bk := []) (by kernel_rfl) rfl trivial (.inl rfl) ?_
                refine GoF.done (by kernel_rfl) ?_
                exact GoO.ret' (h := c28_45e) (hs := []) (ps := []) (hk := []) (bk := []) Try.func28 () (by kernel_rfl) trivial (by kernel_rfl) (by kernel_rfl)
            · refine GoO.skip' c28_46e ?_
              refine GoO.inBlock ?_
              refine GoO.seq' c28_47e ?_
              refine GoO.region' (is := [0]) c28_48e (by kernel_rfl) ?_
              refine GoO.exec (is := [0]) (hs := [.p]) (rest := []) (ks := [2]) (env' := [(2, .bool false)]) (H' := [⟨40, b_4, [.slice A_2 s_1.Steps.length c_3, .int .i64 s_1.State, .int .i64 s_1.Cursor, .int .i64 s_1.Failed]⟩]) (ps := []) (by kernel_rfl) trivial ?_
              refine GoO.regionEnd ?_
              exact GoO.ret' (h := c28_49e) (hs := []) (ps := []) (hk := []) (bk := []) Try.func28 () (by kernel_rfl) trivial (by kernel_rfl) (by kernel_rfl)
theorem saga_Sound_ok (n : Nat) (s_1 : T_api_Saga) (A_2 : Option Addr) (c_3 : Nat) :
    Meets Try.prog 28 [.agg ⟨[.slice A_2 s_1.Steps.length c_3, .int .i64 s_1.State, .int .i64 s_1.Cursor, .int .i64 s_1.Failed]⟩] 0 [] [] [Rd 0 kT_api_Step A_2 c_3 s_1.Steps] (saga_Sound.f n s_1) (saga_Sound.R A_2 c_3) := by
  refine Meets.of (c := c28_0) (n := 101) Try.func28 (by kernel_rfl) (by kernel_rfl) (by kernel_rfl) fun w0 S0 => ?_
  unfold saga_Sound.f
  show GoO (saga_Sound.cx A_2 c_3 w0 S0) [(0, .agg ⟨[.slice A_2 s_1.Steps.length c_3, .int .i64 s_1.State, .int .i64 s_1.Cursor, .int .i64 s_1.Failed]⟩)] [] [Rd 0 kT_api_Step A_2 c_3 s_1.Steps] [.code c28_0] _
  refine GoO.seq' c28_0e ?_
  refine GoO.region' (is := [0, 1]) c28_1e (by kernel_rfl) ?_
  refine OpTo.go (GoO.new rfl 40 (cs := [.slice A_2 s_1.Steps.length c_3, .int .i64 s_1.State, .int .i64 s_1.Cursor, .int .i64 s_1.Failed]) (by kernel_rfl) _ (fun _ => rfl) (fun b_4 => ?_))
  refine GoO.exec (is := [1]) (hs := [.p]) (rest := []) (ks := [1]) (env' := [(1, .pointer (some ⟨b_4, 0, none⟩))]) (H' := [⟨40, b_4, [.slice A_2 s_1.Steps.length c_3, .int .i64 s_1.State, .int .i64 s_1.Cursor, .int .i64 s_1.Failed]⟩]) (ps := []) (by kernel_rfl) trivial ?_
  refine GoO.regionEnd ?_
  refine GoO.seq' c28_2e ?_
  refine GoO.seq' c28_3e ?_
  refine GoO.region' (is := [0, 1, 2, 3, 4, 5, 6, 7, 8]) c28_4e (by kernel_rfl) ?_
  refine GoO.exec (is := [0, 1]) (hs := [.p, .b 0]) (rest := [2, 3, 4, 5, 6, 7, 8]) (ks := [1, 5]) (env' := [(1, .pointer (some ⟨b_4, 0, none⟩)), (5, .slice A_2 s_1.Steps.length c_3)]) (H' := [⟨40, b_4, [.slice A_2 s_1.Steps.length c_3, .int .i64 s_1.State, .int .i64 s_1.Cursor, .int .i64 s_1.Failed]⟩]) (ps := [b_4 = b_4]) (by kernel_rfl) (And.intro rfl trivial) ?_
  refine OpTo.go (GoO.call rfl (by kernel_rfl) (by kernel_rfl) (plan_Check_ok n s_1.Steps A_2 c_3) [[0]] [] [] [(0, 0)] (hks := [0]) (bks := [0]) (by kernel_rfl) (by kernel_rfl) (by kernel_rfl) (.inl rfl) rfl rfl (by kernel_rfl) (by kernel_rfl) _ (fun _ _ => rfl) _ _ (fun _ _ => rfl) (fun _ _ => rfl) (fun _ _ => by kernel_rfl) (fun _ _ => by kernel_rfl) (fun r_5 x_7 => ?_))
  refine GoO.shape (env' := [(1, .pointer (some ⟨b_4, 0, none⟩)), (5, .slice A_2 s_1.Steps.length c_3), (6, .int .i64 r_5)]) (H' := [⟨40, b_4, [.slice A_2 s_1.Steps.length c_3, .int .i64 s_1.State, .int .i64 s_1.Cursor, .int .i64 s_1.Failed]⟩]) (B' := [Rd 0 kT_api_Step A_2 c_3 s_1.Steps]) (ks := [1, 5, 6]) (by kernel_rfl) (by kernel_rfl) (by kernel_rfl) ?_
  refine GoO.exec (is := [3, 4]) (hs := [.p, .p]) (rest := [5, 6, 7, 8]) (ks := [1, 8]) (env' := [(1, .pointer (some ⟨b_4, 0, none⟩)), (8, .bool (r_5 != 0))]) (H' := [⟨40, b_4, [.slice A_2 s_1.Steps.length c_3, .int .i64 s_1.State, .int .i64 s_1.Cursor, .int .i64 s_1.Failed]⟩]) (ps := []) (by kernel_rfl) trivial ?_
  refine GoO.bsplit (t := 8) (by kernel_rfl) (fun h6 => ?_) (fun h6 => ?_)
  · refine GoO.exec (is := [5, 6, 7, 8]) (hs := [.p, .p, .p, .p]) (rest := []) (ks := [1, 12]) (env' := [(1, .pointer (some ⟨b_4, 0, none⟩)), (12, .bool true)]) (H' := [⟨40, b_4, [.slice A_2 s_1.Steps.length c_3, .int .i64 s_1.State, .int .i64 s_1.Cursor, .int .i64 s_1.Failed]⟩]) (ps := []) (by kernel_rfl) trivial ?_
    refine GoO.regionEnd ?_
    exact GoO.sub (ks := [1, 12]) (hk := [0]) (bk := [0]) (by kernel_rfl) (by kernel_rfl) (by kernel_rfl) (saga_Sound_j0_ok n s_1 A_2 c_3 b_4 w0 S0 true)
  · refine GoO.exec (is := [5, 6, 7, 8]) (hs := [.p, .b 0, .p, .p]) (rest := []) (ks := [1, 12]) (env' := [(1, .pointer (some ⟨b_4, 0, none⟩)), (12, .bool (decide (s_1.Failed < 0)))]) (H' := [⟨40, b_4, [.slice A_2 s_1.Steps.length c_3, .int .i64 s_1.State, .int .i64 s_1.Cursor, .int .i64 s_1.Failed]⟩]) (ps := [b_4 = b_4]) (by kernel_rfl) (And.intro rfl trivial) ?_
    refine GoO.regionEnd ?_
    exact GoO.sub (ks := [1, 12]) (hk := [0]) (bk := [0]) (by kernel_rfl) (by kernel_rfl) (by kernel_rfl) (saga_Sound_j0_ok n s_1 A_2 c_3 b_4 w0 S0 (decide (s_1.Failed < 0)))

/-! tontine/saga.Ended -/
noncomputable def c29_0 : Code := bodyOf Try.f29
noncomputable def c29_1 : Code := cdL c29_0
noncomputable def c29_2 : Code := cdR c29_0
noncomputable def c29_3 : Code := cdL c29_2
noncomputable def c29_4 : Code := cdR c29_2
noncomputable def r29_1 : Array Oper := cdO c29_1
noncomputable def r29_3 : Array Oper := cdO c29_3
theorem c29_0e : c29_0 = .seq c29_1 c29_2 := by kernel_rfl
theorem c29_1e : c29_1 = .region 0 r29_1 false := by kernel_rfl
theorem c29_2e : c29_2 = .seq c29_3 c29_4 := by kernel_rfl
theorem c29_3e : c29_3 = .region 1 r29_3 false := by kernel_rfl
theorem c29_4e : c29_4 = .ret := by kernel_rfl
noncomputable def saga_Ended.R (A_2 : Option Addr) (c_3 : Nat) : Pst Bool where
  ε := Unit
  v := fun r x => .bool r
  H := fun r x => []
  B := fun r x => []
noncomputable def saga_Ended.cx (A_2 : Option Addr) (c_3 : Nat) (w0 : World) (S0 : Fam) : Cx Bool := ⟨Try.prog, 29, Try.f29, 11, w0, S0, [], 0, saga_Ended.R A_2 c_3⟩
theorem saga_Ended_ok (n : Nat) (s_1 : T_api_Saga) (A_2 : Option Addr) (c_3 : Nat) :
    Meets Try.prog 29 [.agg ⟨[.slice A_2 s_1.Steps.length c_3, .int .i64 s_1.State, .int .i64 s_1.Cursor, .int .i64 s_1.Failed]⟩] 0 [] [] [Rd 0 kT_api_Step A_2 c_3 s_1.Steps] (saga_Ended.f n s_1) (saga_Ended.R A_2 c_3) := by
  refine Meets.of (c := c29_0) (n := 11) Try.func29 (by kernel_rfl) (by kernel_rfl) (by kernel_rfl) fun w0 S0 => ?_
  unfold saga_Ended.f
  show GoO (saga_Ended.cx A_2 c_3 w0 S0) [(0, .agg ⟨[.slice A_2 s_1.Steps.length c_3, .int .i64 s_1.State, .int .i64 s_1.Cursor, .int .i64 s_1.Failed]⟩)] [] [Rd 0 kT_api_Step A_2 c_3 s_1.Steps] [.code c29_0] _
  refine GoO.seq' c29_0e ?_
  refine GoO.region' (is := [0, 1]) c29_1e (by kernel_rfl) ?_
  refine OpTo.go (GoO.new rfl 40 (cs := [.slice A_2 s_1.Steps.length c_3, .int .i64 s_1.State, .int .i64 s_1.Cursor, .int .i64 s_1.Failed]) (by kernel_rfl) _ (fun _ => rfl) (fun b_4 => ?_))
  refine GoO.exec (is := [1]) (hs := [.p]) (rest := []) (ks := [1]) (env' := [(1, .pointer (some ⟨b_4, 0, none⟩))]) (H' := [⟨40, b_4, [.slice A_2 s_1.Steps.length c_3, .int .i64 s_1.State, .int .i64 s_1.Cursor, .int .i64 s_1.Failed]⟩]) (ps := []) (by kernel_rfl) trivial ?_
  refine GoO.regionEnd ?_
  refine GoO.seq' c29_2e ?_
  refine GoO.region' (is := [0, 1, 2, 3, 4, 5, 6, 7, 8]) c29_3e (by kernel_rfl) ?_
  refine GoO.exec (is := [0, 1, 2, 3]) (hs := [.p, .b 0, .p, .p]) (rest := [4, 5, 6, 7, 8]) (ks := [1, 6]) (env' := [(1, .pointer (some ⟨b_4, 0, none⟩)), (6, .bool (decide (s_1.State ≥ 3)))]) (H' := [⟨40, b_4, [.slice A_2 s_1.Steps.length c_3, .int .i64 s_1.State, .int .i64 s_1.Cursor, .int .i64 s_1.Failed]⟩]) (ps := [b_4 = b_4]) (by kernel_rfl) (And.intro rfl trivial) ?_
  refine GoO.bsplit (t := 6) (by kernel_rfl) (fun h5 => ?_) (fun h5 => ?_)
  · refine GoO.exec (is := [4, 5, 6, 7, 8]) (hs := [.p, .b 0, .p, .p, .p]) (rest := []) (ks := [2]) (env' := [(2, .bool (decide (s_1.State ≤ 5)))]) (H' := [⟨40, b_4, [.slice A_2 s_1.Steps.length c_3, .int .i64 s_1.State, .int .i64 s_1.Cursor, .int .i64 s_1.Failed]⟩]) (ps := [b_4 = b_4]) (by kernel_rfl) (And.intro rfl trivial) ?_
    refine GoO.regionEnd ?_
    exact GoO.ret' (h := c29_4e) (hs := []) (ps := []) (hk := []) (bk := []) Try.func29 () (by kernel_rfl) trivial (by kernel_rfl) (by kernel_rfl)
  · refine GoO.exec (is := [4, 5, 6, 7, 8]) (hs := [.p, .p, .p, .p, .p]) (rest := []) (ks := [2]) (env' := [(2, .bool false)]) (H' := [⟨40, b_4, [.slice A_2 s_1.Steps.length c_3, .int .i64 s_1.State, .int .i64 s_1.Cursor, .int .i64 s_1.Failed]⟩]) (ps := []) (by kernel_rfl) trivial ?_
    refine GoO.regionEnd ?_
    exact GoO.ret' (h := c29_4e) (hs := []) (ps := []) (hk := []) (bk := []) Try.func29 () (by kernel_rfl) trivial (by kernel_rfl) (by kernel_rfl)

/-! tontine/saga.Wants -/
noncomputable def c25_0 : Code := bodyOf Try.f25
noncomputable def c25_1 : Code := cdL c25_0
noncomputable def c25_2 : Code := cdR c25_0
noncomputable def c25_3 : Code := cdL c25_2
noncomputable def c25_4 : Code := cdL c25_3
noncomputable def c25_5 : Code := cdR c25_3
noncomputable def c25_6 : Code := cdL c25_5
noncomputable def c25_7 : Code := cdL c25_6
noncomputable def c25_8 : Code := cdR c25_6
noncomputable def c25_9 : Code := cdR c25_5
noncomputable def c25_10 : Code := cdR c25_2
noncomputable def c25_11 : Code := cdL c25_10
noncomputable def c25_12 : Code := cdR c25_10
noncomputable def r25_1 : Array Oper := cdO c25_1
noncomputable def r25_4 : Array Oper := cdO c25_4
noncomputable def r25_7 : Array Oper := cdO c25_7
noncomputable def r25_11 : Array Oper := cdO c25_11
theorem c25_0e : c25_0 = .seq c25_1 c25_2 := by kernel_rfl
theorem c25_1e : c25_1 = .region 0 r25_1 false := by kernel_rfl
theorem c25_2e : c25_2 = .seq c25_3 c25_10 := by kernel_rfl
theorem c25_3e : c25_3 = .seq c25_4 c25_5 := by kernel_rfl
theorem c25_4e : c25_4 = .region 1 r25_4 false := by kernel_rfl
theorem c25_5e : c25_5 = .cond (cdC c25_5) c25_6 c25_9 := by kernel_rfl
theorem c25_6e : c25_6 = .seq c25_7 c25_8 := by kernel_rfl
theorem c25_7e : c25_7 = .region 2 r25_7 false := by kernel_rfl
theorem c25_8e : c25_8 = .ret := by kernel_rfl
theorem c25_9e : c25_9 = .skip := by kernel_rfl
theorem c25_10e : c25_10 = .seq c25_11 c25_12 := by kernel_rfl
theorem c25_11e : c25_11 = .region 3 r25_11 true := by kernel_rfl
theorem c25_12e : c25_12 = .ret := by kernel_rfl
noncomputable def saga_Wants.R (A_2 : Option Addr) (c_3 : Nat) : Pst (Int × Bool × Bool) where
  ε := Unit
  v := fun r x => .tuple ⟨[.int .i64 r.1, .bool r.2.1, .bool r.2.2]⟩
  H := fun r x => []
  B := fun r x => []
noncomputable def saga_Wants.cx (A_2 : Option Addr) (c_3 : Nat) (w0 : World) (S0 : Fam) : Cx (Int × Bool × Bool) := ⟨Try.prog, 25, Try.f25, 17, w0, S0, [], 0, saga_Wants.R A_2 c_3⟩
theorem saga_Wants_j0_ok (n : Nat) (s_1 : T_api_Saga) (A_2 : Option Addr) (c_3 : Nat) (b_4 : Nat) (w0 : World) (S0 : Fam) (b_8 : Bool) :
    GoO (saga_Wants.cx A_2 c_3 w0 S0) [(1, .pointer (some ⟨b_4, 0, none⟩)), (11, .bool b_8)] [⟨40, b_4, [.slice A_2 s_1.Steps.length c_3, .int .i64 s_1.State, .int .i64 s_1.Cursor, .int .i64 s_1.Failed]⟩] [Rd 0 kT_api_Step A_2 c_3 s_1.Steps] [.code c25_5, .code c25_10] (saga_Wants.j0 n s_1 b_8) := by
  unfold saga_Wants.j0
  refine GoO.ite' c25_5e (by kernel_rfl) (fun h9 => ?_) (fun h9 => ?_)
  · refine GoO.seq' c25_6e ?_
    refine GoO.region' (is := [0, 1, 2]) c25_7e (by kernel_rfl) ?_
    refine GoO.exec (is := [0, 1, 2]) (hs := [.p, .p, .p]) (rest := []) (ks := [2, 3, 4]) (env' := [(2, .int .i64 0), (3, .bool false), (4, .bool false)]) (H' := [⟨40, b_4, [.slice A_2 s_1.Steps.length c_3, .int .i64 s_1.State, .int .i64 s_1.Cursor, .int .i64 s_1.Failed]⟩]) (ps := []) (by kernel_rfl) trivial ?_
    refine GoO.regionEnd ?_
    exact GoO.ret' (h := c25_8e) (hs := []) (ps := []) (hk := []) (bk := []) Try.func25 () (by kernel_rfl) trivial (by kernel_rfl) (by kernel_rfl)
  · refine GoO.skip' c25_9e ?_
    refine GoO.seq' c25_10e ?_
    refine GoO.draw c25_11e (by kernel_rfl) [6, 7] [⟨40, b_4, [.slice A_2 s_1.Steps.length c_3, .int .i64 s_1.State, .int .i64 s_1.Cursor, .int .i64 s_1.Failed]⟩] [] (n := 8) (by kernel_rfl) ?_
    simp only [List.replicate]
    refine GoF.take [0, 1, 2, 3, 4, 5] [.p, .b 0, .p, .b 0, .p, .p] (ks := [2, 16]) (fu := 2) (li := [true, true, true, true, true, true, false, false]) (env' := [(2, .int .i64 s_1.Cursor), (16, .bool (s_1.State == 2))]) (ps := [b_4 = b_4, b_4 = b_4]) (hk := [0]) (bk := []) (by kernel_rfl) (And.intro rfl (And.intro rfl trivial)) rfl rfl ?_
    refine GoF.fin1 (i := 6) (hint := .p) (ps := []) (hk := []) (bk := []) (by kernel_rfl) rfl trivial (.inl rfl) ?_
    refine GoF.fin1 (i := 7) (hint := .p) (ps := []) (hk := []) (bk := []) (by kernel_rfl) rfl trivial (.inl rfl) ?_
    refine GoF.done (by kernel_rfl) ?_
    exact GoO.ret' (h := c25_12e) (hs := []) (ps := []) (hk := []) (bk := []) Try.func25 () (by kernel_rfl) trivial (by kernel_rfl) (by kernel_rfl)
theorem saga_Wants_ok (n : Nat) (s_1 : T_api_Saga) (A_2 : Option Addr) (c_3 : Nat) :
    Meets Try.prog 25 [.agg ⟨[.slice A_2 s_1.Steps.length c_3, .int .i64 s_1.State, .int .i64 s_1.Cursor, .int .i64 s_1.Failed]⟩] 0 [] [] [Rd 0 kT_api_Step A_2 c_3 s_1.Steps] (saga_Wants.f n s_1) (saga_Wants.R A_2 c_3) := by
  refine Meets.of (c := c25_0) (n := 17) Try.func25 (by kernel_rfl) (by kernel_rfl) (by kernel_rfl) fun w0 S0 => ?_
  unfold saga_Wants.f
  show GoO (saga_Wants.cx A_2 c_3 w0 S0) [(0, .agg ⟨[.slice A_2 s_1.Steps.length c_3, .int .i64 s_1.State, .int .i64 s_1.Cursor, .int .i64 s_1.Failed]⟩)] [] [Rd 0 kT_api_Step A_2 c_3 s_1.Steps] [.code c25_0] _
  refine GoO.seq' c25_0e ?_
  refine GoO.region' (is := [0, 1, 2, 3]) c25_1e (by kernel_rfl) ?_
  refine OpTo.go (GoO.new rfl 40 (cs := [.slice A_2 s_1.Steps.length c_3, .int .i64 s_1.State, .int .i64 s_1.Cursor, .int .i64 s_1.Failed]) (by kernel_rfl) _ (fun _ => rfl) (fun b_4 => ?_))
  refine GoO.exec (is := [1, 2, 3]) (hs := [.p, .p, .p]) (rest := []) (ks := [1]) (env' := [(1, .pointer (some ⟨b_4, 0, none⟩))]) (H' := [⟨40, b_4, [.slice A_2 s_1.Steps.length c_3, .int .i64 s_1.State, .int .i64 s_1.Cursor, .int .i64 s_1.Failed]⟩]) (ps := []) (by kernel_rfl) trivial ?_
  refine GoO.regionEnd ?_
  refine GoO.seq' c25_2e ?_
  refine GoO.seq' c25_3e ?_
  refine GoO.region' (is := [0, 1, 2, 3, 4, 5, 6]) c25_4e (by kernel_rfl) ?_
  refine GoO.exec (is := [0]) (hs := [.b 0]) (rest := [1, 2, 3, 4, 5, 6]) (ks := [1, 5]) (env' := [(1, .pointer (some ⟨b_4, 0, none⟩)), (5, .agg ⟨[.slice A_2 s_1.Steps.length c_3, .int .i64 s_1.State, .int .i64 s_1.Cursor, .int .i64 s_1.Failed]⟩)]) (H' := [⟨40, b_4, [.slice A_2 s_1.Steps.length c_3, .int .i64 s_1.State, .int .i64 s_1.Cursor, .int .i64 s_1.Failed]⟩]) (ps := [b_4 = b_4]) (by kernel_rfl) (And.intro rfl trivial) ?_
  refine OpTo.go (GoO.call rfl (by kernel_rfl) (by kernel_rfl) (saga_Sound_ok n s_1 A_2 c_3) [[0]] [] [] [(0, 0)] (hks := [0]) (bks := [0]) (by kernel_rfl) (by kernel_rfl) (by kernel_rfl) (.inl rfl) rfl rfl (by kernel_rfl) (by kernel_rfl) _ (fun _ _ => rfl) _ _ (fun _ _ => rfl) (fun _ _ => rfl) (fun _ _ => by kernel_rfl) (fun _ _ => by kernel_rfl) (fun r_5 x_9 => ?_))
  refine GoO.shape (env' := [(1, .pointer (some ⟨b_4, 0, none⟩)), (5, .agg ⟨[.slice A_2 s_1.Steps.length c_3, .int .i64 s_1.State, .int .i64 s_1.Cursor, .int .i64 s_1.Failed]⟩), (6, .bool r_5)]) (H' := [⟨40, b_4, [.slice A_2 s_1.Steps.length c_3, .int .i64 s_1.State, .int .i64 s_1.Cursor, .int .i64 s_1.Failed]⟩]) (B' := [Rd 0 kT_api_Step A_2 c_3 s_1.Steps]) (ks := [1, 5, 6]) (by kernel_rfl) (by kernel_rfl) (by kernel_rfl) ?_
  refine GoO.exec (is := [2, 3]) (hs := [.p, .p]) (rest := [4, 5, 6]) (ks := [1, 8]) (env' := [(1, .pointer (some ⟨b_4, 0, none⟩)), (8, .bool (!r_5))]) (H' := [⟨40, b_4, [.slice A_2 s_1.Steps.length c_3, .int .i64 s_1.State, .int .i64 s_1.Cursor, .int .i64 s_1.Failed]⟩]) (ps := []) (by kernel_rfl) trivial ?_
  refine GoO.bsplit (t := 8) (by kernel_rfl) (fun h6 => ?_) (fun h6 => ?_)
  · refine GoO.exec (is := [4, 5, 6]) (hs := [.p, .p, .p]) (rest := []) (ks := [1, 11]) (env' := [(1, .pointer (some ⟨b_4, 0, none⟩)), (11, .bool true)]) (H' := [⟨40, b_4, [.slice A_2 s_1.Steps.length c_3, .int .i64 s_1.State, .int .i64 s_1.Cursor, .int .i64 s_1.Failed]⟩]) (ps := []) (by kernel_rfl) trivial ?_
    refine GoO.regionEnd ?_
    exact GoO.sub (ks := [1, 11]) (hk := [0]) (bk := [0]) (by kernel_rfl) (by kernel_rfl) (by kernel_rfl) (saga_Wants_j0_ok n s_1 A_2 c_3 b_4 w0 S0 true)
  · refine GoO.exec (is := [4]) (hs := [.b 0]) (rest := [5, 6]) (ks := [1, 8, 9]) (env' := [(1, .pointer (some ⟨b_4, 0, none⟩)), (8, .bool false), (9, .agg ⟨[.slice A_2 s_1.Steps.length c_3, .int .i64 s_1.State, .int .i64 s_1.Cursor, .int .i64 s_1.Failed]⟩)]) (H' := [⟨40, b_4, [.slice A_2 s_1.Steps.length c_3, .int .i64 s_1.State, .int .i64 s_1.Cursor, .int .i64 s_1.Failed]⟩]) (ps := [b_4 = b_4]) (by kernel_rfl) (And.intro rfl trivial) ?_
    refine OpTo.go (GoO.call rfl (by kernel_rfl) (by kernel_rfl) (saga_Ended_ok n s_1 A_2 c_3) [[0]] [] [] [(0, 0)] (hks := [0]) (bks := [0]) (by kernel_rfl) (by kernel_rfl) (by kernel_rfl) (.inl rfl) rfl rfl (by kernel_rfl) (by kernel_rfl) _ (fun _ _ => rfl) _ _ (fun _ _ => rfl) (fun _ _ => rfl) (fun _ _ => by kernel_rfl) (fun _ _ => by kernel_rfl) (fun r_7 x_8 => ?_))
    refine GoO.shape (env' := [(1, .pointer (some ⟨b_4, 0, none⟩)), (8, .bool false), (9, .agg ⟨[.slice A_2 s_1.Steps.length c_3, .int .i64 s_1.State, .int .i64 s_1.Cursor, .int .i64 s_1.Failed]⟩), (10, .bool r_7)]) (H' := [⟨40, b_4, [.slice A_2 s_1.Steps.length c_3, .int .i64 s_1.State, .int .i64 s_1.Cursor, .int .i64 s_1.Failed]⟩]) (B' := [Rd 0 kT_api_Step A_2 c_3 s_1.Steps]) (ks := [1, 8, 9, 10]) (by kernel_rfl) (by kernel_rfl) (by kernel_rfl) ?_
    refine GoO.exec (is := [6]) (hs := [.p]) (rest := []) (ks := [1, 11]) (env' := [(1, .pointer (some ⟨b_4, 0, none⟩)), (11, .bool r_7)]) (H' := [⟨40, b_4, [.slice A_2 s_1.Steps.length c_3, .int .i64 s_1.State, .int .i64 s_1.Cursor, .int .i64 s_1.Failed]⟩]) (ps := []) (by kernel_rfl) trivial ?_
    refine GoO.regionEnd ?_
    exact GoO.sub (ks := [1, 11]) (hk := [0]) (bk := [0]) (by kernel_rfl) (by kernel_rfl) (by kernel_rfl) (saga_Wants_j0_ok n s_1 A_2 c_3 b_4 w0 S0 r_7)

/-! tontine/saga.back -/
noncomputable def c55_0 : Code := bodyOf Try.f55
noncomputable def c55_1 : Code := cdL c55_0
noncomputable def c55_2 : Code := cdR c55_0
noncomputable def c55_3 : Code := cdL c55_2
noncomputable def c55_4 : Code := cdL c55_3
noncomputable def c55_5 : Code := cdR c55_3
noncomputable def c55_6 : Code := cdL c55_5
noncomputable def c55_7 : Code := cdL c55_6
noncomputable def c55_8 : Code := cdR c55_6
noncomputable def c55_9 : Code := cdL c55_8
noncomputable def c55_10 : Code := cdR c55_8
noncomputable def c55_11 : Code := cdR c55_5
noncomputable def c55_12 : Code := cdR c55_2
noncomputable def c55_13 : Code := cdL c55_12
noncomputable def c55_14 : Code := cdR c55_12
noncomputable def c55_15 : Code := cdL c55_14
noncomputable def c55_16 : Code := cdR c55_14
noncomputable def r55_1 : Array Oper := cdO c55_1
noncomputable def r55_4 : Array Oper := cdO c55_4
noncomputable def r55_7 : Array Oper := cdO c55_7
noncomputable def r55_9 : Array Oper := cdO c55_9
noncomputable def r55_13 : Array Oper := cdO c55_13
noncomputable def r55_15 : Array Oper := cdO c55_15
theorem c55_0e : c55_0 = .seq c55_1 c55_2 := by kernel_rfl
theorem c55_1e : c55_1 = .region 0 r55_1 false := by kernel_rfl
theorem c55_2e : c55_2 = .seq c55_3 c55_12 := by kernel_rfl
theorem c55_3e : c55_3 = .seq c55_4 c55_5 := by kernel_rfl
theorem c55_4e : c55_4 = .region 1 r55_4 false := by kernel_rfl
theorem c55_5e : c55_5 = .cond (cdC c55_5) c55_6 c55_11 := by kernel_rfl
theorem c55_6e : c55_6 = .seq c55_7 c55_8 := by kernel_rfl
theorem c55_7e : c55_7 = .region 2 r55_7 false := by kernel_rfl
theorem c55_8e : c55_8 = .seq c55_9 c55_10 := by kernel_rfl
theorem c55_9e : c55_9 = .region 3 r55_9 false := by kernel_rfl
theorem c55_10e : c55_10 = .ret := by kernel_rfl
theorem c55_11e : c55_11 = .skip := by kernel_rfl
theorem c55_12e : c55_12 = .seq c55_13 c55_14 := by kernel_rfl
theorem c55_13e : c55_13 = .region 4 r55_13 false := by kernel_rfl
theorem c55_14e : c55_14 = .seq c55_15 c55_16 := by kernel_rfl
theorem c55_15e : c55_15 = .region 5 r55_15 false := by kernel_rfl
theorem c55_16e : c55_16 = .ret := by kernel_rfl
noncomputable def saga_back.R (A_2 : Option Addr) (c_3 : Nat) : Pst T_api_Saga where
  ε := Option Addr × Nat
  v := fun r x => .agg ⟨[.slice x.1 r.Steps.length x.2, .int .i64 r.State, .int .i64 r.Cursor, .int .i64 r.Failed]⟩
  H := fun r x => []
  B := fun r x => [Rd 0 kT_api_Step x.1 x.2 r.Steps]
noncomputable def saga_back.cx (A_2 : Option Addr) (c_3 : Nat) (w0 : World) (S0 : Fam) : Cx T_api_Saga := ⟨Try.prog, 55, Try.f55, 16, w0, S0, [], 0, saga_back.R A_2 c_3⟩
theorem saga_back_ok (n : Nat) (s_1 : T_api_Saga) (step_4 : Int) (A_2 : Option Addr) (c_3 : Nat) :
    Meets Try.prog 55 [.agg ⟨[.slice A_2 s_1.Steps.length c_3, .int .i64 s_1.State, .int .i64 s_1.Cursor, .int .i64 s_1.Failed]⟩, .int .i64 step_4] 0 [] [] [Rd 0 kT_api_Step A_2 c_3 s_1.Steps] (saga_back.f n s_1 step_4) (saga_back.R A_2 c_3) := by
  refine Meets.of (c := c55_0) (n := 16) Try.func55 (by kernel_rfl) (by kernel_rfl) (by kernel_rfl) fun w0 S0 => ?_
  unfold saga_back.f
  show GoO (saga_back.cx A_2 c_3 w0 S0) [(0, .agg ⟨[.slice A_2 s_1.Steps.length c_3, .int .i64 s_1.State, .int .i64 s_1.Cursor, .int .i64 s_1.Failed]⟩), (1, .int .i64 step_4)] [] [Rd 0 kT_api_Step A_2 c_3 s_1.Steps] [.code c55_0] _
  refine GoO.seq' c55_0e ?_
  refine GoO.region' (is := [0, 1]) c55_1e (by kernel_rfl) ?_
  refine OpTo.go (GoO.new rfl 40 (cs := [.slice A_2 s_1.Steps.length c_3, .int .i64 s_1.State, .int .i64 s_1.Cursor, .int .i64 s_1.Failed]) (by kernel_rfl) _ (fun _ => rfl) (fun b_5 => ?_))
  refine OpTo.go (GoO.new rfl 41 (cs := [.slice none ([] : List T_api_Step).length 0, .int .i64 0, .int .i64 0, .int .i64 0]) (by kernel_rfl) _ (fun _ => rfl) (fun b_6 => ?_))
  refine GoO.regionEnd ?_
  refine GoO.seq' c55_2e ?_
  refine GoO.seq' c55_3e ?_
  refine GoO.region' (is := [0, 1]) c55_4e (by kernel_rfl) ?_
  refine GoO.exec (is := [0, 1]) (hs := [.p, .p]) (rest := []) (ks := [1, 2, 4, 6]) (env' := [(1, .int .i64 step_4), (2, .pointer (some ⟨b_5, 0, none⟩)), (4, .pointer (some ⟨b_6, 0, none⟩)), (6, .bool (decide (step_4 < 0)))]) (H' := [⟨41, b_6, [.slice none ([] : List T_api_Step).length 0, .int .i64 0, .int .i64 0, .int .i64 0]⟩, ⟨40, b_5, [.slice A_2 s_1.Steps.length c_3, .int .i64 s_1.State, .int .i64 s_1.Cursor, .int .i64 s_1.Failed]⟩]) (ps := []) (by kernel_rfl) trivial ?_
  refine GoO.regionEnd ?_
  refine GoO.ite' c55_5e (by kernel_rfl) (fun h7 => ?_) (fun h7 => ?_)
  · refine GoO.seq' c55_6e ?_
    refine GoO.region' (is := [0, 1, 2, 3, 4, 5]) c55_7e (by kernel_rfl) ?_
    refine GoO.exec (is := [0, 1, 2, 3, 4, 5]) (hs := [.p, .b 1, .p, .b 1, .p, .b 1]) (rest := []) (ks := [2, 4]) (env' := [(2, .pointer (some ⟨b_5, 0, none⟩)), (4, .pointer (some ⟨b_6, 0, none⟩))]) (H' := [⟨41, b_6, [.slice none ([] : List T_api_Step).length 0, .int .i64 0, .int .i64 0, .int .i64 0]⟩, ⟨40, b_5, [.slice A_2 s_1.Steps.length c_3, .int .i64 4, .int .i64 0, .int .i64 0]⟩]) (ps := [b_5 = b_5, b_5 = b_5, b_5 = b_5]) (by kernel_rfl) (And.intro rfl (And.intro rfl (And.intro rfl trivial))) ?_
    refine GoO.regionEnd ?_
    refine GoO.seq' c55_8e ?_
    refine GoO.region' (is := [0, 1]) c55_9e (by kernel_rfl) ?_
    refine GoO.exec (is := [0, 1]) (hs := [.b 1, .b 0]) (rest := []) (ks := [4]) (env' := [(4, .pointer (some ⟨b_6, 0, none⟩))]) (H' := [⟨41, b_6, [.slice A_2 s_1.Steps.length c_3, .int .i64 4, .int .i64 0, .int .i64 0]⟩, ⟨40, b_5, [.slice A_2 s_1.Steps.length c_3, .int .i64 4, .int .i64 0, .int .i64 0]⟩]) (ps := [b_5 = b_5, b_6 = b_6]) (by kernel_rfl) (And.intro rfl (And.intro rfl trivial)) ?_
    refine GoO.regionEnd ?_
    exact GoO.ret' (h := c55_10e) (hs := [0]) (ps := [b_6 = b_6]) (hk := []) (bk := [0]) Try.func55 (⟨A_2, c_3⟩ : Option Addr × Nat) (by kernel_rfl) (And.intro rfl trivial) (by kernel_rfl) (by kernel_rfl)
  · refine GoO.skip' c55_11e ?_
    refine GoO.seq' c55_12e ?_
    refine GoO.region' (is := [0, 1, 2, 3, 4, 5, 6]) c55_13e (by kernel_rfl) ?_
    refine GoO.exec (is := [0, 1, 2, 3, 4, 5, 6]) (hs := [.p, .p, .b 1, .p, .b 1, .p, .b 1]) (rest := []) (ks := [2, 4]) (env' := [(2, .pointer (some ⟨b_5, 0, none⟩)), (4, .pointer (some ⟨b_6, 0, none⟩))]) (H' := [⟨41, b_6, [.slice none ([] : List T_api_Step).length 0, .int .i64 0, .int .i64 0, .int .i64 0]⟩, ⟨40, b_5, [.slice A_2 s_1.Steps.length c_3, .int .i64 2, .int .i64 step_4, .int .i64 0]⟩]) (ps := [b_5 = b_5, b_5 = b_5, b_5 = b_5]) (by kernel_rfl) (And.intro rfl (And.intro rfl (And.intro rfl trivial))) ?_
    refine GoO.regionEnd ?_
    refine GoO.seq' c55_14e ?_
    refine GoO.region' (is := [0, 1]) c55_15e (by kernel_rfl) ?_
    refine GoO.exec (is := [0, 1]) (hs := [.b 1, .b 0]) (rest := []) (ks := [4]) (env' := [(4, .pointer (some ⟨b_6, 0, none⟩))]) (H' := [⟨41, b_6, [.slice A_2 s_1.Steps.length c_3, .int .i64 2, .int .i64 step_4, .int .i64 0]⟩, ⟨40, b_5, [.slice A_2 s_1.Steps.length c_3, .int .i64 2, .int .i64 step_4, .int .i64 0]⟩]) (ps := [b_5 = b_5, b_6 = b_6]) (by kernel_rfl) (And.intro rfl (And.intro rfl trivial)) ?_
    refine GoO.regionEnd ?_
    exact GoO.ret' (h := c55_16e) (hs := [0]) (ps := [b_6 = b_6]) (hk := []) (bk := [0]) Try.func55 (⟨A_2, c_3⟩ : Option Addr × Nat) (by kernel_rfl) (And.intro rfl trivial) (by kernel_rfl) (by kernel_rfl)

/-! tontine/saga.Outcome -/
noncomputable def c21_0 : Code := bodyOf Try.f21
noncomputable def c21_1 : Code := cdL c21_0
noncomputable def c21_2 : Code := cdR c21_0
noncomputable def c21_3 : Code := cdL c21_2
noncomputable def c21_4 : Code := cdR c21_2
noncomputable def c21_5 : Code := cdL c21_4
noncomputable def c21_6 : Code := cdL c21_5
noncomputable def c21_7 : Code := cdR c21_5
noncomputable def c21_8 : Code := cdL c21_7
noncomputable def c21_9 : Code := cdL c21_8
noncomputable def c21_10 : Code := cdR c21_8
noncomputable def c21_11 : Code := cdR c21_7
noncomputable def c21_12 : Code := cdR c21_4
noncomputable def c21_13 : Code := cdL c21_12
noncomputable def c21_14 : Code := cdL c21_13
noncomputable def c21_15 : Code := cdL c21_14
noncomputable def c21_16 : Code := cdL c21_15
noncomputable def c21_17 : Code := cdL c21_16
noncomputable def c21_18 : Code := cdL c21_17
noncomputable def c21_19 : Code := cdL c21_18
noncomputable def c21_20 : Code := cdL c21_19
noncomputable def c21_21 : Code := cdL c21_20
noncomputable def c21_22 : Code := cdL c21_21
noncomputable def c21_23 : Code := cdL c21_22
noncomputable def c21_24 : Code := cdL c21_23
noncomputable def c21_25 : Code := cdR c21_23
noncomputable def c21_26 : Code := cdL c21_25
noncomputable def c21_27 : Code := cdR c21_25
noncomputable def c21_28 : Code := cdR c21_22
noncomputable def c21_29 : Code := cdL c21_28
noncomputable def c21_30 : Code := cdL c21_29
noncomputable def c21_31 : Code := cdR c21_29
noncomputable def c21_32 : Code := cdL c21_31
noncomputable def c21_33 : Code := cdR c21_31
noncomputable def c21_34 : Code := cdR c21_28
noncomputable def c21_35 : Code := cdL c21_34
noncomputable def c21_36 : Code := cdR c21_34
noncomputable def c21_37 : Code := cdL c21_36
noncomputable def c21_38 : Code := cdR c21_36
noncomputable def c21_39 : Code := cdR c21_21
noncomputable def c21_40 : Code := cdR c21_19
noncomputable def c21_41 : Code := cdL c21_40
noncomputable def c21_42 : Code := cdL c21_41
noncomputable def c21_43 : Code := cdR c21_41
noncomputable def c21_44 : Code := cdL c21_43
noncomputable def c21_45 : Code := cdR c21_43
noncomputable def c21_46 : Code := cdL c21_45
noncomputable def c21_47 : Code := cdR c21_45
noncomputable def c21_48 : Code := cdR c21_40
noncomputable def c21_49 : Code := cdR c21_16
noncomputable def c21_50 : Code := cdL c21_49
noncomputable def c21_51 : Code := cdR c21_49
noncomputable def c21_52 : Code := cdR c21_14
noncomputable def c21_53 : Code := cdL c21_52
noncomputable def c21_54 : Code := cdL c21_53
noncomputable def c21_55 : Code := cdR c21_53
noncomputable def c21_56 : Code := cdL c21_55
noncomputable def c21_57 : Code := cdR c21_55
noncomputable def c21_58 : Code := cdL c21_57
noncomputable def c21_59 : Code := cdR c21_57
noncomputable def c21_60 : Code := cdR c21_52
noncomputable def c21_61 : Code := cdR c21_12
noncomputable def c21_62 : Code := cdL c21_61
noncomputable def c21_63 : Code := cdR c21_61
noncomputable def r21_1 : Array Oper := cdO c21_1
noncomputable def r21_3 : Array Oper := cdO c21_3
noncomputable def r21_6 : Array Oper := cdO c21_6
noncomputable def r21_9 : Array Oper := cdO c21_9
noncomputable def r21_24 : Array Oper := cdO c21_24
noncomputable def r21_30 : Array Oper := cdO c21_30
noncomputable def r21_35 : Array Oper := cdO c21_35
noncomputable def r21_42 : Array Oper := cdO c21_42
noncomputable def r21_44 : Array Oper := cdO c21_44
noncomputable def r21_46 : Array Oper := cdO c21_46
noncomputable def r21_50 : Array Oper := cdO c21_50
noncomputable def r21_54 : Array Oper := cdO c21_54
noncomputable def r21_56 : Array Oper := cdO c21_56
noncomputable def r21_58 : Array Oper := cdO c21_58
noncomputable def r21_62 : Array Oper := cdO c21_62
theorem c21_0e : c21_0 = .seq c21_1 c21_2 := by kernel_rfl
theorem c21_1e : c21_1 = .region 0 r21_1 false := by kernel_rfl
theorem c21_2e : c21_2 = .seq c21_3 c21_4 := by kernel_rfl
theorem c21_3e : c21_3 = .region 1 r21_3 false := by kernel_rfl
theorem c21_4e : c21_4 = .seq c21_5 c21_12 := by kernel_rfl
theorem c21_5e : c21_5 = .seq c21_6 c21_7 := by kernel_rfl
theorem c21_6e : c21_6 = .region 2 r21_6 false := by kernel_rfl
theorem c21_7e : c21_7 = .cond (cdC c21_7) c21_8 c21_11 := by kernel_rfl
theorem c21_8e : c21_8 = .seq c21_9 c21_10 := by kernel_rfl
theorem c21_9e : c21_9 = .region 3 r21_9 false := by kernel_rfl
theorem c21_10e : c21_10 = .ret := by kernel_rfl
theorem c21_11e : c21_11 = .skip := by kernel_rfl
theorem c21_12e : c21_12 = .seq c21_13 c21_61 := by kernel_rfl
theorem c21_13e : c21_13 = .block 0 c21_14 := by kernel_rfl
theorem c21_14e : c21_14 = .seq c21_15 c21_52 := by kernel_rfl
theorem c21_15e : c21_15 = .block 4 c21_16 := by kernel_rfl
theorem c21_16e : c21_16 = .seq c21_17 c21_49 := by kernel_rfl
theorem c21_17e : c21_17 = .block 3 c21_18 := by kernel_rfl
theorem c21_18e : c21_18 = .block 2 c21_19 := by kernel_rfl
theorem c21_19e : c21_19 = .seq c21_20 c21_40 := by kernel_rfl
theorem c21_20e : c21_20 = .block 1 c21_21 := by kernel_rfl
theorem c21_21e : c21_21 = .seq c21_22 c21_39 := by kernel_rfl
theorem c21_22e : c21_22 = .seq c21_23 c21_28 := by kernel_rfl
theorem c21_23e : c21_23 = .seq c21_24 c21_25 := by kernel_rfl
theorem c21_24e : c21_24 = .region 4 r21_24 false := by kernel_rfl
theorem c21_25e : c21_25 = .cond (cdC c21_25) c21_26 c21_27 := by kernel_rfl
theorem c21_26e : c21_26 = .exit 1 := by kernel_rfl
theorem c21_27e : c21_27 = .skip := by kernel_rfl
theorem c21_28e : c21_28 = .seq c21_29 c21_34 := by kernel_rfl
theorem c21_29e : c21_29 = .seq c21_30 c21_31 := by kernel_rfl
theorem c21_30e : c21_30 = .region 5 r21_30 false := by kernel_rfl
theorem c21_31e : c21_31 = .cond (cdC c21_31) c21_32 c21_33 := by kernel_rfl
theorem c21_32e : c21_32 = .exit 2 := by kernel_rfl
theorem c21_33e : c21_33 = .skip := by kernel_rfl
theorem c21_34e : c21_34 = .seq c21_35 c21_36 := by kernel_rfl
theorem c21_35e : c21_35 = .region 6 r21_35 false := by kernel_rfl
theorem c21_36e : c21_36 = .cond (cdC c21_36) c21_37 c21_38 := by kernel_rfl
theorem c21_37e : c21_37 = .exit 3 := by kernel_rfl
theorem c21_38e : c21_38 = .skip := by kernel_rfl
theorem c21_39e : c21_39 = .exit 4 := by kernel_rfl
theorem c21_40e : c21_40 = .seq c21_41 c21_48 := by kernel_rfl
theorem c21_41e : c21_41 = .seq c21_42 c21_43 := by kernel_rfl
theorem c21_42e : c21_42 = .region 7 r21_42 false := by kernel_rfl
theorem c21_43e : c21_43 = .seq c21_44 c21_45 := by kernel_rfl
theorem c21_44e : c21_44 = .region 8 r21_44 false := by kernel_rfl
theorem c21_45e : c21_45 = .cond (cdC c21_45) c21_46 c21_47 := by kernel_rfl
theorem c21_46e : c21_46 = .region 9 r21_46 false := by kernel_rfl
theorem c21_47e : c21_47 = .skip := by kernel_rfl
theorem c21_48e : c21_48 = .exit 0 := by kernel_rfl
theorem c21_49e : c21_49 = .seq c21_50 c21_51 := by kernel_rfl
theorem c21_50e : c21_50 = .region 10 r21_50 false := by kernel_rfl
theorem c21_51e : c21_51 = .exit 0 := by kernel_rfl
theorem c21_52e : c21_52 = .seq c21_53 c21_60 := by kernel_rfl
theorem c21_53e : c21_53 = .seq c21_54 c21_55 := by kernel_rfl
theorem c21_54e : c21_54 = .region 11 r21_54 false := by kernel_rfl
theorem c21_55e : c21_55 = .seq c21_56 c21_57 := by kernel_rfl
theorem c21_56e : c21_56 = .region 12 r21_56 true := by kernel_rfl
theorem c21_57e : c21_57 = .cond (cdC c21_57) c21_58 c21_59 := by kernel_rfl
theorem c21_58e : c21_58 = .region 13 r21_58 false := by kernel_rfl
theorem c21_59e : c21_59 = .skip := by kernel_rfl
theorem c21_60e : c21_60 = .exit 0 := by kernel_rfl
theorem c21_61e : c21_61 = .seq c21_62 c21_63 := by kernel_rfl
theorem c21_62e : c21_62 = .region 14 r21_62 false := by kernel_rfl
theorem c21_63e : c21_63 = .ret := by kernel_rfl
noncomputable def saga_Outcome.R (A_2 : Option Addr) (c_3 : Nat) : Pst (T_api_Saga × Bool) where
  ε := Option Addr × Nat
  v := fun r x => .tuple ⟨[.agg ⟨[.slice x.1 r.1.Steps.length x.2, .int .i64 r.1.State, .int .i64 r.1.Cursor, .int .i64 r.1.Failed]⟩, .bool r.2]⟩
  H := fun r x => []
  B := fun r x => [Rd 0 kT_api_Step x.1 x.2 r.1.Steps]
noncomputable def saga_Outcome.cx (A_2 : Option Addr) (c_3 : Nat) (w0 : World) (S0 : Fam) : Cx (T_api_Saga × Bool) := ⟨Try.prog, 21, Try.f21, 85, w0, S0, [], 0, saga_Outcome.R A_2 c_3⟩
theorem saga_Outcome_j1_ok (n : Nat) (s_1 : T_api_Saga) (step_4 : Int) (A_2 : Option Addr) (c_3 : Nat) (b_8 : Nat) (b_9 : Nat) (w0 : World) (S0 : Fam) :
    GoO (saga_Outcome.cx A_2 c_3 w0 S0) [(1, .int .i64 step_4), (5, .pointer (some ⟨b_8, 0, none⟩)), (10, .pointer (some ⟨b_9, 0, none⟩))] [⟨40, b_8, [.slice A_2 s_1.Steps.length c_3, .int .i64 s_1.State, .int .i64 s_1.Cursor, .int .i64 s_1.Failed]⟩, ⟨41, b_9, [.slice none ([] : List T_api_Step).length 0, .int .i64 0, .int .i64 0, .int .i64 0]⟩] [Rd 0 kT_api_Step A_2 c_3 s_1.Steps] [.code c21_49, .inBlock 4, .code c21_52, .inBlock 0, .code c21_61] (saga_Outcome.j1 n s_1 step_4) := by
  unfold saga_Outcome.j1
  refine GoO.seq' c21_49e ?_
  refine GoO.region' (is := [0, 1, 2, 3, 4]) c21_50e (by kernel_rfl) ?_
  refine GoO.exec (is := [0, 1, 2]) (hs := [.b 0, .p, .p]) (rest := [3, 4]) (ks := [5, 10, 66, 68]) (env' := [(5, .pointer (some ⟨b_8, 0, none⟩)), (10, .pointer (some ⟨b_9, 0, none⟩)), (66, .agg ⟨[.slice A_2 s_1.Steps.length c_3, .int .i64 s_1.State, .int .i64 s_1.Cursor, .int .i64 s_1.Failed]⟩), (68, .int .i64 (wi64 (step_4 - 1)))]) (H' := [⟨40, b_8, [.slice A_2 s_1.Steps.length c_3, .int .i64 s_1.State, .int .i64 s_1.Cursor, .int .i64 s_1.Failed]⟩, ⟨41, b_9, [.slice none ([] : List T_api_Step).length 0, .int .i64 0, .int .i64 0, .int .i64 0]⟩]) (ps := [b_8 = b_8]) (by kernel_rfl) (And.intro rfl trivial) ?_
  refine OpTo.go (GoO.call rfl (by kernel_rfl) (by kernel_rfl) (saga_back_ok n s_1 (wi64 (step_4 - 1)) A_2 c_3) [[0]] [] [] [(0, 0)] (hks := [0, 1]) (bks := [0]) (by kernel_rfl) (by kernel_rfl) (by kernel_rfl) (.inl rfl) rfl rfl (by kernel_rfl) (by kernel_rfl) _ (fun _ _ => rfl) _ _ (fun _ _ => rfl) (fun _ _ => rfl) (fun _ _ => by kernel_rfl) (fun _ _ => by kernel_rfl) (fun r_24 x_27 => ?_))
  obtain ⟨A_25, c_26⟩ := x_27
  refine GoO.shape (env' := [(5, .pointer (some ⟨b_8, 0, none⟩)), (10, .pointer (some ⟨b_9, 0, none⟩)), (66, .agg ⟨[.slice A_2 s_1.Steps.length c_3, .int .i64 s_1.State, .int .i64 s_1.Cursor, .int .i64 s_1.Failed]⟩), (68, .int .i64 (wi64 (step_4 - 1))), (69, .agg ⟨[.slice A_25 r_24.Steps.length c_26, .int .i64 r_24.State, .int .i64 r_24.Cursor, .int .i64 r_24.Failed]⟩)]) (H' := [⟨40, b_8, [.slice A_2 s_1.Steps.length c_3, .int .i64 s_1.State, .int .i64 s_1.Cursor, .int .i64 s_1.Failed]⟩, ⟨41, b_9, [.slice none ([] : List T_api_Step).length 0, .int .i64 0, .int .i64 0, .int .i64 0]⟩]) (B' := [Rd 0 kT_api_Step A_25 c_26 r_24.Steps, Rd 0 kT_api_Step A_2 c_3 s_1.Steps]) (ks := [5, 10, 66, 68, 69]) (by kernel_rfl) (by kernel_rfl) (by kernel_rfl) ?_
  refine GoO.exec (is := [4]) (hs := [.b 0]) (rest := []) (ks := [5, 10]) (env' := [(5, .pointer (some ⟨b_8, 0, none⟩)), (10, .pointer (some ⟨b_9, 0, none⟩))]) (H' := [⟨40, b_8, [.slice A_25 r_24.Steps.length c_26, .int .i64 r_24.State, .int .i64 r_24.Cursor, .int .i64 r_24.Failed]⟩, ⟨41, b_9, [.slice none ([] : List T_api_Step).length 0, .int .i64 0, .int .i64 0, .int .i64 0]⟩]) (ps := [b_8 = b_8]) (by kernel_rfl) (And.intro rfl trivial) ?_
  refine GoO.regionEnd ?_
  refine GoO.exit' c21_51e rfl ?_
  refine GoO.seq' c21_61e ?_
  refine GoO.region' (is := [0, 1, 2]) c21_62e (by kernel_rfl) ?_
  refine GoO.exec (is := [0, 1, 2]) (hs := [.b 0, .b 1, .p]) (rest := []) (ks := [10, 11]) (env' := [(10, .pointer (some ⟨b_9, 0, none⟩)), (11, .bool true)]) (H' := [⟨40, b_8, [.slice A_25 r_24.Steps.length c_26, .int .i64 r_24.State, .int .i64 r_24.Cursor, .int .i64 r_24.Failed]⟩, ⟨41, b_9, [.slice A_25 r_24.Steps.length c_26, .int .i64 r_24.State, .int .i64 r_24.Cursor, .int .i64 r_24.Failed]⟩]) (ps := [b_8 = b_8, b_9 = b_9]) (by kernel_rfl) (And.intro rfl (And.intro rfl trivial)) ?_
  refine GoO.regionEnd ?_
  exact GoO.ret' (h := c21_63e) (hs := [1]) (ps := [b_9 = b_9]) (hk := []) (bk := [0]) Try.func21 (⟨A_25, c_26⟩ : Option Addr × Nat) (by kernel_rfl) (And.intro rfl trivial) (by kernel_rfl) (by kernel_rfl)
theorem saga_Outcome_j3_ok (n : Nat) (s_1 : T_api_Saga) (A_2 : Option Addr) (c_3 : Nat) (b_8 : Nat) (b_9 : Nat) (w0 : World) (S0 : Fam) (f_21 : Int) :
    GoO (saga_Outcome.cx A_2 c_3 w0 S0) [(5, .pointer (some ⟨b_8, 0, none⟩)), (10, .pointer (some ⟨b_9, 0, none⟩))] [⟨40, b_8, [.slice A_2 s_1.Steps.length c_3, .int .i64 f_21, .int .i64 (wi64 (s_1.Cursor + 1)), .int .i64 s_1.Failed]⟩, ⟨41, b_9, [.slice none ([] : List T_api_Step).length 0, .int .i64 0, .int .i64 0, .int .i64 0]⟩] [Rd 0 kT_api_Step A_2 c_3 s_1.Steps] [.code c21_48, .inBlock 2, .inBlock 3, .code c21_49, .inBlock 4, .code c21_52, .inBlock 0, .code c21_61] (saga_Outcome.j3 n s_1 f_21) := by
  unfold saga_Outcome.j3
  refine GoO.exit' c21_48e rfl ?_
  refine GoO.seq' c21_61e ?_
  refine GoO.region' (is := [0, 1, 2]) c21_62e (by kernel_rfl) ?_
  refine GoO.exec (is := [0, 1, 2]) (hs := [.b 0, .b 1, .p]) (rest := []) (ks := [10, 11]) (env' := [(10, .pointer (some ⟨b_9, 0, none⟩)), (11, .bool true)]) (H' := [⟨40, b_8, [.slice A_2 s_1.Steps.length c_3, .int .i64 f_21, .int .i64 (wi64 (s_1.Cursor + 1)), .int .i64 s_1.Failed]⟩, ⟨41, b_9, [.slice A_2 s_1.Steps.length c_3, .int .i64 f_21, .int .i64 (wi64 (s_1.Cursor + 1)), .int .i64 s_1.Failed]⟩]) (ps := [b_8 = b_8, b_9 = b_9]) (by kernel_rfl) (And.intro rfl (And.intro rfl trivial)) ?_
  refine GoO.regionEnd ?_
  exact GoO.ret' (h := c21_63e) (hs := [1]) (ps := [b_9 = b_9]) (hk := []) (bk := [0]) Try.func21 (⟨A_2, c_3⟩ : Option Addr × Nat) (by kernel_rfl) (And.intro rfl trivial) (by kernel_rfl) (by kernel_rfl)
theorem saga_Outcome_j2_ok (n : Nat) (s_1 : T_api_Saga) (step_4 : Int) (taken_5 : Bool) (ok_7 : Bool) (A_2 : Option Addr) (c_3 : Nat) (b_8 : Nat) (b_9 : Nat) (w0 : World) (S0 : Fam) (b_18 : Bool) :
    GoO (saga_Outcome.cx A_2 c_3 w0 S0) [(1, .int .i64 step_4), (2, .bool taken_5), (4, .bool ok_7), (5, .pointer (some ⟨b_8, 0, none⟩)), (10, .pointer (some ⟨b_9, 0, none⟩)), (44, .bool b_18)] [⟨40, b_8, [.slice A_2 s_1.Steps.length c_3, .int .i64 s_1.State, .int .i64 s_1.Cursor, .int .i64 s_1.Failed]⟩, ⟨41, b_9, [.slice none ([] : List T_api_Step).length 0, .int .i64 0, .int .i64 0, .int .i64 0]⟩] [Rd 0 kT_api_Step A_2 c_3 s_1.Steps] [.code c21_25, .code c21_28, .code c21_39, .inBlock 1, .code c21_40, .inBlock 2, .inBlock 3, .code c21_49, .inBlock 4, .code c21_52, .inBlock 0, .code c21_61] (saga_Outcome.j2 n s_1 step_4 taken_5 ok_7 b_18) := by
  unfold saga_Outcome.j2
  refine GoO.ite' c21_25e (by kernel_rfl) (fun h19 => ?_) (fun h19 => ?_)
  · refine GoO.exit' c21_26e rfl ?_
    refine GoO.seq' c21_40e ?_
    refine GoO.seq' c21_41e ?_
    refine GoO.region' (is := [0, 1, 2, 3, 4]) c21_42e (by kernel_rfl) ?_
    refine GoO.exec (is := [0, 1, 2, 3, 4]) (hs := [.p, .b 0, .p, .p, .b 0]) (rest := []) (ks := [5, 10]) (env' := [(5, .pointer (some ⟨b_8, 0, none⟩)), (10, .pointer (some ⟨b_9, 0, none⟩))]) (H' := [⟨40, b_8, [.slice A_2 s_1.Steps.length c_3, .int .i64 s_1.State, .int .i64 (wi64 (s_1.Cursor + 1)), .int .i64 s_1.Failed]⟩, ⟨41, b_9, [.slice none ([] : List T_api_Step).length 0, .int .i64 0, .int .i64 0, .int .i64 0]⟩]) (ps := [b_8 = b_8, b_8 = b_8]) (by kernel_rfl) (And.intro rfl (And.intro rfl trivial)) ?_
    refine GoO.regionEnd ?_
    refine GoO.seq' c21_43e ?_
    refine GoO.region' (is := [0, 1, 2, 3, 4, 5]) c21_44e (by kernel_rfl) ?_
    refine GoO.exec (is := [0, 1, 2, 3, 4, 5]) (hs := [.p, .b 0, .p, .b 0, .p, .p]) (rest := []) (ks := [5, 10, 64]) (env' := [(5, .pointer (some ⟨b_8, 0, none⟩)), (10, .pointer (some ⟨b_9, 0, none⟩)), (64, .bool ((wi64 (s_1.Cursor + 1)) == (s_1.Steps.length : Int)))]) (H' := [⟨40, b_8, [.slice A_2 s_1.Steps.length c_3, .int .i64 s_1.State, .int .i64 (wi64 (s_1.Cursor + 1)), .int .i64 s_1.Failed]⟩, ⟨41, b_9, [.slice none ([] : List T_api_Step).length 0, .int .i64 0, .int .i64 0, .int .i64 0]⟩]) (ps := [b_8 = b_8, b_8 = b_8]) (by kernel_rfl) (And.intro rfl (And.intro rfl trivial)) ?_
    refine GoO.regionEnd ?_
    refine GoO.ite' c21_45e (by kernel_rfl) (fun h20 => ?_) (fun h20 => ?_)
    · refine GoO.region' (is := [0, 1]) c21_46e (by kernel_rfl) ?_
      refine GoO.exec (is := [0, 1]) (hs := [.p, .b 0]) (rest := []) (ks := [5, 10]) (env' := [(5, .pointer (some ⟨b_8, 0, none⟩)), (10, .pointer (some ⟨b_9, 0, none⟩))]) (H' := [⟨40, b_8, [.slice A_2 s_1.Steps.length c_3, .int .i64 3, .int .i64 (wi64 (s_1.Cursor + 1)), .int .i64 s_1.Failed]⟩, ⟨41, b_9, [.slice none ([] : List T_api_Step).length 0, .int .i64 0, .int .i64 0, .int .i64 0]⟩]) (ps := [b_8 = b_8]) (by kernel_rfl) (And.intro rfl trivial) ?_
      refine GoO.regionEnd ?_
      exact GoO.sub (ks := [5, 10]) (hk := [0, 1]) (bk := [0]) (by kernel_rfl) (by kernel_rfl) (by kernel_rfl) (saga_Outcome_j3_ok n s_1 A_2 c_3 b_8 b_9 w0 S0 3)
    · refine GoO.skip' c21_47e ?_
      exact GoO.sub (ks := [5, 10]) (hk := [0, 1]) (bk := [0]) (by kernel_rfl) (by kernel_rfl) (by kernel_rfl) (saga_Outcome_j3_ok n s_1 A_2 c_3 b_8 b_9 w0 S0 s_1.State)
  · refine GoO.skip' c21_27e ?_
    refine GoO.seq' c21_28e ?_
    refine GoO.seq' c21_29e ?_
    refine GoO.region' (is := [0, 1, 2]) c21_30e (by kernel_rfl) ?_
    refine GoO.exec (is := [0, 1, 2]) (hs := [.p, .p, .p]) (rest := []) (ks := [1, 4, 5, 10, 50]) (env' := [(1, .int .i64 step_4), (4, .bool ok_7), (5, .pointer (some ⟨b_8, 0, none⟩)), (10, .pointer (some ⟨b_9, 0, none⟩)), (50, .bool (!taken_5))]) (H' := [⟨40, b_8, [.slice A_2 s_1.Steps.length c_3, .int .i64 s_1.State, .int .i64 s_1.Cursor, .int .i64 s_1.Failed]⟩, ⟨41, b_9, [.slice none ([] : List T_api_Step).length 0, .int .i64 0, .int .i64 0, .int .i64 0]⟩]) (ps := []) (by kernel_rfl) trivial ?_
    refine GoO.regionEnd ?_
    refine GoO.ite' c21_31e (by kernel_rfl) (fun h22 => ?_) (fun h22 => ?_)
    · refine GoO.exit' c21_32e rfl ?_
      refine GoO.inBlock ?_
      exact GoO.sub (ks := [1, 5, 10]) (hk := [0, 1]) (bk := [0]) (by kernel_rfl) (by kernel_rfl) (by kernel_rfl) (saga_Outcome_j1_ok n s_1 step_4 A_2 c_3 b_8 b_9 w0 S0)
    · refine GoO.skip' c21_33e ?_
      refine GoO.seq' c21_34e ?_
      refine GoO.region' (is := [0, 1]) c21_35e (by kernel_rfl) ?_
      refine GoO.exec (is := [0, 1]) (hs := [.p, .p]) (rest := []) (ks := [1, 5, 10, 53]) (env' := [(1, .int .i64 step_4), (5, .pointer (some ⟨b_8, 0, none⟩)), (10, .pointer (some ⟨b_9, 0, none⟩)), (53, .bool ok_7)]) (H' := [⟨40, b_8, [.slice A_2 s_1.Steps.length c_3, .int .i64 s_1.State, .int .i64 s_1.Cursor, .int .i64 s_1.Failed]⟩, ⟨41, b_9, [.slice none ([] : List T_api_Step).length 0, .int .i64 0, .int .i64 0, .int .i64 0]⟩]) (ps := []) (by kernel_rfl) trivial ?_
      refine GoO.regionEnd ?_
      refine GoO.ite' c21_36e (by kernel_rfl) (fun h23 => ?_) (fun h23 => ?_)
      · refine GoO.exit' c21_37e rfl ?_
        exact GoO.sub (ks := [1, 5, 10]) (hk := [0, 1]) (bk := [0]) (by kernel_rfl) (by kernel_rfl) (by kernel_rfl) (saga_Outcome_j1_ok n s_1 step_4 A_2 c_3 b_8 b_9 w0 S0)
      · refine GoO.skip' c21_38e ?_
        refine GoO.exit' c21_39e rfl ?_
        refine GoO.seq' c21_52e ?_
        refine GoO.seq' c21_53e ?_
        refine GoO.region' (is := [0, 1, 2, 3, 4]) c21_54e (by kernel_rfl) ?_
        refine GoO.exec (is := [0, 1, 2, 3, 4]) (hs := [.p, .b 0, .p, .p, .b 0]) (rest := []) (ks := [1, 5, 10]) (env' := [(1, .int .i64 step_4), (5, .pointer (some ⟨b_8, 0, none⟩)), (10, .pointer (some ⟨b_9, 0, none⟩))]) (H' := [⟨40, b_8, [.slice A_2 s_1.Steps.length c_3, .int .i64 s_1.State, .int .i64 s_1.Cursor, .int .i64 (wi64 (s_1.Failed + 1))]⟩, ⟨41, b_9, [.slice none ([] : List T_api_Step).length 0, .int .i64 0, .int .i64 0, .int .i64 0]⟩]) (ps := [b_8 = b_8, b_8 = b_8]) (by kernel_rfl) (And.intro rfl (And.intro rfl trivial)) ?_
        refine GoO.regionEnd ?_
        refine GoO.seq' c21_55e ?_
        refine GoO.draw c21_56e (by kernel_rfl) [] [⟨40, b_8, [.slice A_2 s_1.Steps.length c_3, .int .i64 s_1.State, .int .i64 s_1.Cursor, .int .i64 (wi64 (s_1.Failed + 1))]⟩] [Rd 0 kT_api_Step A_2 c_3 s_1.Steps] (n := 9) (by kernel_rfl) ?_
        simp only [List.replicate]
        refine GoF.take [0, 1, 2, 3, 4] [.p, .b 0, .p, .b 0, .p] (ks := [5, 10, 75, 77, 78]) (fu := 4) (li := [true, true, true, true, true, false, false, false, false]) (env' := [(5, .pointer (some ⟨b_8, 0, none⟩)), (10, .pointer (some ⟨b_9, 0, none⟩)), (75, .int .i64 (wi64 (s_1.Failed + 1))), (77, .slice A_2 s_1.Steps.length c_3), (78, .int .i64 step_4)]) (ps := [b_8 = b_8, b_8 = b_8]) (hk := [0]) (bk := [0]) (by kernel_rfl) (And.intro rfl (And.intro rfl trivial)) rfl rfl ?_
        refine GoF.guard (fun h24 => ?_)
        refine GoF.idx (i := 5) (hk := [0]) (bk := [0]) (kk := .i64) (e := 50) (K := kT_api_Step) (A := A_2) (c := c_3) (xs := s_1.Steps) (iv := step_4) (j := 0) (by kernel_rfl) rfl rfl rfl (by kernel_rfl) (by kernel_rfl) (by kernel_rfl) (by kernel_rfl) rfl Reads.rd rfl h24.1 h24.2 (by decide) rfl ?_
        refine GoF.fldE (i := 6) (hk := [0]) (bk := [0]) (K := kT_api_Step) (A := A_2) (c := c_3) (xs := s_1.Steps) (iN := step_4.toNat) (off := 0) (n := 2) (j := 0) (by kernel_rfl) rfl rfl rfl (by kernel_rfl) (by kernel_rfl) rfl Reads.rd (idx_lt h24.1 h24.2) (by decide) rfl ?_
        refine GoF.ldE (i := 7) (hk := [0]) (bk := [0]) (K := kT_api_Step) (A := A_2) (c := c_3) (xs := s_1.Steps) (iN := step_4.toNat) (off := 2) (j := 0) (v := .int .i64 ((rdL s_1.Steps step_4).Budget)) (by kernel_rfl) rfl rfl rfl (hK := rfl) (by kernel_rfl) rfl Reads.rd (idx_lt h24.1 h24.2) (by decide) (by kernel_rfl) rfl ?_
        refine GoF.take [8] [.p] (ks := [5, 10, 82]) (fu := 0) (li := [true, true, true, true, true, true, true, true, true]) (env' := [(5, .pointer (some ⟨b_8, 0, none⟩)), (10, .pointer (some ⟨b_9, 0, none⟩)), (82, .bool ((wi64 (s_1.Failed + 1)) == ((rdL s_1.Steps step_4).Budget)))]) (ps := []) (hk := [0]) (bk := [0]) (by kernel_rfl) trivial rfl rfl ?_
        refine GoF.done (by kernel_rfl) ?_
        refine GoO.ite' c21_57e (by kernel_rfl) (fun h25 => ?_) (fun h25 => ?_)
        · refine GoO.region' (is := [0, 1]) c21_58e (by kernel_rfl) ?_
          refine GoO.exec (is := [0, 1]) (hs := [.p, .b 0]) (rest := []) (ks := [5, 10]) (env' := [(5, .pointer (some ⟨b_8, 0, none⟩)), (10, .pointer (some ⟨b_9, 0, none⟩))]) (H' := [⟨40, b_8, [.slice A_2 s_1.Steps.length c_3, .int .i64 5, .int .i64 s_1.Cursor, .int .i64 (wi64 (s_1.Failed + 1))]⟩, ⟨41, b_9, [.slice none ([] : List T_api_Step).length 0, .int .i64 0, .int .i64 0, .int .i64 0]⟩]) (ps := [b_8 = b_8]) (by kernel_rfl) (And.intro rfl trivial) ?_
          refine GoO.regionEnd ?_
          refine GoO.exit' c21_60e rfl ?_
          refine GoO.seq' c21_61e ?_
          refine GoO.region' (is := [0, 1, 2]) c21_62e (by kernel_rfl) ?_
          refine GoO.exec (is := [0, 1, 2]) (hs := [.b 0, .b 1, .p]) (rest := []) (ks := [10, 11]) (env' := [(10, .pointer (some ⟨b_9, 0, none⟩)), (11, .bool true)]) (H' := [⟨40, b_8, [.slice A_2 s_1.Steps.length c_3, .int .i64 5, .int .i64 s_1.Cursor, .int .i64 (wi64 (s_1.Failed + 1))]⟩, ⟨41, b_9, [.slice A_2 s_1.Steps.length c_3, .int .i64 5, .int .i64 s_1.Cursor, .int .i64 (wi64 (s_1.Failed + 1))]⟩]) (ps := [b_8 = b_8, b_9 = b_9]) (by kernel_rfl) (And.intro rfl (And.intro rfl trivial)) ?_
          refine GoO.regionEnd ?_
          exact GoO.ret' (h := c21_63e) (hs := [1]) (ps := [b_9 = b_9]) (hk := []) (bk := [0]) Try.func21 (⟨A_2, c_3⟩ : Option Addr × Nat) (by kernel_rfl) (And.intro rfl trivial) (by kernel_rfl) (by kernel_rfl)
        · refine GoO.skip' c21_59e ?_
          refine GoO.exit' c21_60e rfl ?_
          refine GoO.seq' c21_61e ?_
          refine GoO.region' (is := [0, 1, 2]) c21_62e (by kernel_rfl) ?_
          refine GoO.exec (is := [0, 1, 2]) (hs := [.b 0, .b 1, .p]) (rest := []) (ks := [10, 11]) (env' := [(10, .pointer (some ⟨b_9, 0, none⟩)), (11, .bool true)]) (H' := [⟨40, b_8, [.slice A_2 s_1.Steps.length c_3, .int .i64 s_1.State, .int .i64 s_1.Cursor, .int .i64 (wi64 (s_1.Failed + 1))]⟩, ⟨41, b_9, [.slice A_2 s_1.Steps.length c_3, .int .i64 s_1.State, .int .i64 s_1.Cursor, .int .i64 (wi64 (s_1.Failed + 1))]⟩]) (ps := [b_8 = b_8, b_9 = b_9]) (by kernel_rfl) (And.intro rfl (And.intro rfl trivial)) ?_
          refine GoO.regionEnd ?_
          exact GoO.ret' (h := c21_63e) (hs := [1]) (ps := [b_9 = b_9]) (hk := []) (bk := [0]) Try.func21 (⟨A_2, c_3⟩ : Option Addr × Nat) (by kernel_rfl) (And.intro rfl trivial) (by kernel_rfl) (by kernel_rfl)
theorem saga_Outcome_j0_ok (n : Nat) (s_1 : T_api_Saga) (step_4 : Int) (taken_5 : Bool) (ok_7 : Bool) (A_2 : Option Addr) (c_3 : Nat) (b_8 : Nat) (b_9 : Nat) (w0 : World) (S0 : Fam) (b_15 : Bool) :
    GoO (saga_Outcome.cx A_2 c_3 w0 S0) [(1, .int .i64 step_4), (2, .bool taken_5), (4, .bool ok_7), (5, .pointer (some ⟨b_8, 0, none⟩)), (10, .pointer (some ⟨b_9, 0, none⟩)), (42, .bool b_15)] [⟨40, b_8, [.slice A_2 s_1.Steps.length c_3, .int .i64 s_1.State, .int .i64 s_1.Cursor, .int .i64 s_1.Failed]⟩, ⟨41, b_9, [.slice none ([] : List T_api_Step).length 0, .int .i64 0, .int .i64 0, .int .i64 0]⟩] [Rd 0 kT_api_Step A_2 c_3 s_1.Steps] [.code c21_7, .code c21_12] (saga_Outcome.j0 n s_1 step_4 taken_5 ok_7 b_15) := by
  unfold saga_Outcome.j0
  refine GoO.ite' c21_7e (by kernel_rfl) (fun h16 => ?_) (fun h16 => ?_)
  · refine GoO.seq' c21_8e ?_
    refine GoO.region' (is := [0, 1, 2]) c21_9e (by kernel_rfl) ?_
    refine GoO.exec (is := [0, 1, 2]) (hs := [.b 0, .b 1, .p]) (rest := []) (ks := [10, 11]) (env' := [(10, .pointer (some ⟨b_9, 0, none⟩)), (11, .bool false)]) (H' := [⟨40, b_8, [.slice A_2 s_1.Steps.length c_3, .int .i64 s_1.State, .int .i64 s_1.Cursor, .int .i64 s_1.Failed]⟩, ⟨41, b_9, [.slice A_2 s_1.Steps.length c_3, .int .i64 s_1.State, .int .i64 s_1.Cursor, .int .i64 s_1.Failed]⟩]) (ps := [b_8 = b_8, b_9 = b_9]) (by kernel_rfl) (And.intro rfl (And.intro rfl trivial)) ?_
    refine GoO.regionEnd ?_
    exact GoO.ret' (h := c21_10e) (hs := [1]) (ps := [b_9 = b_9]) (hk := []) (bk := [0]) Try.func21 (⟨A_2, c_3⟩ : Option Addr × Nat) (by kernel_rfl) (And.intro rfl trivial) (by kernel_rfl) (by kernel_rfl)
  · refine GoO.skip' c21_11e ?_
    refine GoO.seq' c21_12e ?_
    refine GoO.block' c21_13e ?_
    refine GoO.seq' c21_14e ?_
    refine GoO.block' c21_15e ?_
    refine GoO.seq' c21_16e ?_
    refine GoO.block' c21_17e ?_
    refine GoO.block' c21_18e ?_
    refine GoO.seq' c21_19e ?_
    refine GoO.block' c21_20e ?_
    refine GoO.seq' c21_21e ?_
    refine GoO.seq' c21_22e ?_
    refine GoO.seq' c21_23e ?_
    refine GoO.region' (is := [0, 1, 2, 3, 4, 5]) c21_24e (by kernel_rfl) ?_
    refine GoO.exec (is := [0, 1, 2]) (hs := [.p, .p, .p]) (rest := [3, 4, 5]) (ks := [1, 2, 4, 5, 10, 47]) (env' := [(1, .int .i64 step_4), (2, .bool taken_5), (4, .bool ok_7), (5, .pointer (some ⟨b_8, 0, none⟩)), (10, .pointer (some ⟨b_9, 0, none⟩)), (47, .bool (!taken_5))]) (H' := [⟨40, b_8, [.slice A_2 s_1.Steps.length c_3, .int .i64 s_1.State, .int .i64 s_1.Cursor, .int .i64 s_1.Failed]⟩, ⟨41, b_9, [.slice none ([] : List T_api_Step).length 0, .int .i64 0, .int .i64 0, .int .i64 0]⟩]) (ps := []) (by kernel_rfl) trivial ?_
    refine GoO.bsplit (t := 47) (by kernel_rfl) (fun h17 => ?_) (fun h17 => ?_)
    · refine GoO.exec (is := [3, 4, 5]) (hs := [.p, .p, .p]) (rest := []) (ks := [1, 2, 4, 5, 10, 44]) (env' := [(1, .int .i64 step_4), (2, .bool taken_5), (4, .bool ok_7), (5, .pointer (some ⟨b_8, 0, none⟩)), (10, .pointer (some ⟨b_9, 0, none⟩)), (44, .bool ok_7)]) (H' := [⟨40, b_8, [.slice A_2 s_1.Steps.length c_3, .int .i64 s_1.State, .int .i64 s_1.Cursor, .int .i64 s_1.Failed]⟩, ⟨41, b_9, [.slice none ([] : List T_api_Step).length 0, .int .i64 0, .int .i64 0, .int .i64 0]⟩]) (ps := []) (by kernel_rfl) trivial ?_
      refine GoO.regionEnd ?_
      exact GoO.sub (ks := [1, 2, 4, 5, 10, 44]) (hk := [0, 1]) (bk := [0]) (by kernel_rfl) (by kernel_rfl) (by kernel_rfl) (saga_Outcome_j2_ok n s_1 step_4 taken_5 ok_7 A_2 c_3 b_8 b_9 w0 S0 ok_7)
    · refine GoO.exec (is := [3, 4, 5]) (hs := [.p, .p, .p]) (rest := []) (ks := [1, 2, 4, 5, 10, 44]) (env' := [(1, .int .i64 step_4), (2, .bool taken_5), (4, .bool ok_7), (5, .pointer (some ⟨b_8, 0, none⟩)), (10, .pointer (some ⟨b_9, 0, none⟩)), (44, .bool false)]) (H' := [⟨40, b_8, [.slice A_2 s_1.Steps.length c_3, .int .i64 s_1.State, .int .i64 s_1.Cursor, .int .i64 s_1.Failed]⟩, ⟨41, b_9, [.slice none ([] : List T_api_Step).length 0, .int .i64 0, .int .i64 0, .int .i64 0]⟩]) (ps := []) (by kernel_rfl) trivial ?_
      refine GoO.regionEnd ?_
      exact GoO.sub (ks := [1, 2, 4, 5, 10, 44]) (hk := [0, 1]) (bk := [0]) (by kernel_rfl) (by kernel_rfl) (by kernel_rfl) (saga_Outcome_j2_ok n s_1 step_4 taken_5 ok_7 A_2 c_3 b_8 b_9 w0 S0 false)
theorem saga_Outcome_ok (n : Nat) (s_1 : T_api_Saga) (step_4 : Int) (taken_5 : Bool) (try_6 : Int) (ok_7 : Bool) (A_2 : Option Addr) (c_3 : Nat) :
    Meets Try.prog 21 [.agg ⟨[.slice A_2 s_1.Steps.length c_3, .int .i64 s_1.State, .int .i64 s_1.Cursor, .int .i64 s_1.Failed]⟩, .int .i64 step_4, .bool taken_5, .int .i64 try_6, .bool ok_7] 0 [] [] [Rd 0 kT_api_Step A_2 c_3 s_1.Steps] (saga_Outcome.f n s_1 step_4 taken_5 try_6 ok_7) (saga_Outcome.R A_2 c_3) := by
  refine Meets.of (c := c21_0) (n := 85) Try.func21 (by kernel_rfl) (by kernel_rfl) (by kernel_rfl) fun w0 S0 => ?_
  unfold saga_Outcome.f
  show GoO (saga_Outcome.cx A_2 c_3 w0 S0) [(0, .agg ⟨[.slice A_2 s_1.Steps.length c_3, .int .i64 s_1.State, .int .i64 s_1.Cursor, .int .i64 s_1.Failed]⟩), (1, .int .i64 step_4), (2, .bool taken_5), (3, .int .i64 try_6), (4, .bool ok_7)] [] [Rd 0 kT_api_Step A_2 c_3 s_1.Steps] [.code c21_0] _
  refine GoO.seq' c21_0e ?_
  refine GoO.region' (is := [0, 1, 2]) c21_1e (by kernel_rfl) ?_
  refine OpTo.go (GoO.new rfl 40 (cs := [.slice A_2 s_1.Steps.length c_3, .int .i64 s_1.State, .int .i64 s_1.Cursor, .int .i64 s_1.Failed]) (by kernel_rfl) _ (fun _ => rfl) (fun b_8 => ?_))
  refine OpTo.go (GoO.new rfl 41 (cs := [.slice none ([] : List T_api_Step).length 0, .int .i64 0, .int .i64 0, .int .i64 0]) (by kernel_rfl) _ (fun _ => rfl) (fun b_9 => ?_))
  refine GoO.exec (is := [2]) (hs := [.p]) (rest := []) (ks := [1, 2, 3, 4, 5, 10]) (env' := [(1, .int .i64 step_4), (2, .bool taken_5), (3, .int .i64 try_6), (4, .bool ok_7), (5, .pointer (some ⟨b_8, 0, none⟩)), (10, .pointer (some ⟨b_9, 0, none⟩))]) (H' := [⟨41, b_9, [.slice none ([] : List T_api_Step).length 0, .int .i64 0, .int .i64 0, .int .i64 0]⟩, ⟨40, b_8, [.slice A_2 s_1.Steps.length c_3, .int .i64 s_1.State, .int .i64 s_1.Cursor, .int .i64 s_1.Failed]⟩]) (ps := []) (by kernel_rfl) trivial ?_
  refine GoO.regionEnd ?_
  refine GoO.seq' c21_2e ?_
  refine GoO.region' (is := [0, 1, 2, 3, 4, 5, 6, 7, 8]) c21_3e (by kernel_rfl) ?_
  refine GoO.exec (is := [0]) (hs := [.b 1]) (rest := [1, 2, 3, 4, 5, 6, 7, 8]) (ks := [1, 2, 3, 4, 5, 10, 16]) (env' := [(1, .int .i64 step_4), (2, .bool taken_5), (3, .int .i64 try_6), (4, .bool ok_7), (5, .pointer (some ⟨b_8, 0, none⟩)), (10, .pointer (some ⟨b_9, 0, none⟩)), (16, .agg ⟨[.slice A_2 s_1.Steps.length c_3, .int .i64 s_1.State, .int .i64 s_1.Cursor, .int .i64 s_1.Failed]⟩)]) (H' := [⟨41, b_9, [.slice none ([] : List T_api_Step).length 0, .int .i64 0, .int .i64 0, .int .i64 0]⟩, ⟨40, b_8, [.slice A_2 s_1.Steps.length c_3, .int .i64 s_1.State, .int .i64 s_1.Cursor, .int .i64 s_1.Failed]⟩]) (ps := [b_8 = b_8]) (by kernel_rfl) (And.intro rfl trivial) ?_
  refine OpTo.go (GoO.call rfl (by kernel_rfl) (by kernel_rfl) (saga_Wants_ok n s_1 A_2 c_3) [[0]] [] [] [(0, 0)] (hks := [0, 1]) (bks := [0]) (by kernel_rfl) (by kernel_rfl) (by kernel_rfl) (.inl rfl) rfl rfl (by kernel_rfl) (by kernel_rfl) _ (fun _ _ => rfl) _ _ (fun _ _ => rfl) (fun _ _ => rfl) (fun _ _ => by kernel_rfl) (fun _ _ => by kernel_rfl) (fun r_10 x_28 => ?_))
  refine GoO.shape (env' := [(1, .int .i64 step_4), (2, .bool taken_5), (3, .int .i64 try_6), (4, .bool ok_7), (5, .pointer (some ⟨b_8, 0, none⟩)), (10, .pointer (some ⟨b_9, 0, none⟩)), (16, .agg ⟨[.slice A_2 s_1.Steps.length c_3, .int .i64 s_1.State, .int .i64 s_1.Cursor, .int .i64 s_1.Failed]⟩), (17, .tuple ⟨[.int .i64 r_10.1, .bool r_10.2.1, .bool r_10.2.2]⟩)]) (H' := [⟨41, b_9, [.slice none ([] : List T_api_Step).length 0, .int .i64 0, .int .i64 0, .int .i64 0]⟩, ⟨40, b_8, [.slice A_2 s_1.Steps.length c_3, .int .i64 s_1.State, .int .i64 s_1.Cursor, .int .i64 s_1.Failed]⟩]) (B' := [Rd 0 kT_api_Step A_2 c_3 s_1.Steps]) (ks := [1, 2, 3, 4, 5, 10, 16, 17]) (by kernel_rfl) (by kernel_rfl) (by kernel_rfl) ?_
  refine GoO.exec (is := [2, 3, 4, 5, 6, 7, 8]) (hs := [.p, .p, .p, .p, .p, .p, .p]) (rest := []) (ks := [1, 2, 3, 4, 5, 10, 12, 13, 14]) (env' := [(1, .int .i64 step_4), (2, .bool taken_5), (3, .int .i64 try_6), (4, .bool ok_7), (5, .pointer (some ⟨b_8, 0, none⟩)), (10, .pointer (some ⟨b_9, 0, none⟩)), (12, .int .i64 r_10.1), (13, .bool r_10.2.1), (14, .bool r_10.2.2)]) (H' := [⟨41, b_9, [.slice none ([] : List T_api_Step).length 0, .int .i64 0, .int .i64 0, .int .i64 0]⟩, ⟨40, b_8, [.slice A_2 s_1.Steps.length c_3, .int .i64 s_1.State, .int .i64 s_1.Cursor, .int .i64 s_1.Failed]⟩]) (ps := []) (by kernel_rfl) trivial ?_
  refine GoO.regionEnd ?_
  refine GoO.seq' c21_4e ?_
  refine GoO.seq' c21_5e ?_
  refine GoO.region' (is := [0, 1, 2, 3, 4, 5, 6, 7, 8, 9, 10, 11, 12, 13, 14, 15, 16, 17, 18, 19, 20, 21]) c21_6e (by kernel_rfl) ?_
  refine GoO.exec (is := [0, 1, 2]) (hs := [.p, .p, .p]) (rest := [3, 4, 5, 6, 7, 8, 9, 10, 11, 12, 13, 14, 15, 16, 17, 18, 19, 20, 21]) (ks := [1, 2, 3, 4, 5, 10, 12, 13, 23]) (env' := [(1, .int .i64 step_4), (2, .bool taken_5), (3, .int .i64 try_6), (4, .bool ok_7), (5, .pointer (some ⟨b_8, 0, none⟩)), (10, .pointer (some ⟨b_9, 0, none⟩)), (12, .int .i64 r_10.1), (13, .bool r_10.2.1), (23, .bool (!r_10.2.2))]) (H' := [⟨41, b_9, [.slice none ([] : List T_api_Step).length 0, .int .i64 0, .int .i64 0, .int .i64 0]⟩, ⟨40, b_8, [.slice A_2 s_1.Steps.length c_3, .int .i64 s_1.State, .int .i64 s_1.Cursor, .int .i64 s_1.Failed]⟩]) (ps := []) (by kernel_rfl) trivial ?_
  refine GoO.bsplit (t := 23) (by kernel_rfl) (fun h11 => ?_) (fun h11 => ?_)
  · refine GoO.exec (is := [3, 4, 5, 6, 7, 8, 9, 10, 11, 12, 13, 14, 15, 16, 17, 18, 19, 20, 21]) (hs := [.p, .p, .p, .p, .p, .p, .p, .p, .p, .p, .p, .p, .p, .p, .p, .p, .p, .p, .p]) (rest := []) (ks := [1, 2, 4, 5, 10, 42]) (env' := [(1, .int .i64 step_4), (2, .bool taken_5), (4, .bool ok_7), (5, .pointer (some ⟨b_8, 0, none⟩)), (10, .pointer (some ⟨b_9, 0, none⟩)), (42, .bool true)]) (H' := [⟨41, b_9, [.slice none ([] : List T_api_Step).length 0, .int .i64 0, .int .i64 0, .int .i64 0]⟩, ⟨40, b_8, [.slice A_2 s_1.Steps.length c_3, .int .i64 s_1.State, .int .i64 s_1.Cursor, .int .i64 s_1.Failed]⟩]) (ps := []) (by kernel_rfl) trivial ?_
    refine GoO.regionEnd ?_
    exact GoO.sub (ks := [1, 2, 4, 5, 10, 42]) (hk := [1, 0]) (bk := [0]) (by kernel_rfl) (by kernel_rfl) (by kernel_rfl) (saga_Outcome_j0_ok n s_1 step_4 taken_5 ok_7 A_2 c_3 b_8 b_9 w0 S0 true)
  · refine GoO.exec (is := [3, 4, 5, 6, 7]) (hs := [.p, .p, .p, .p, .p]) (rest := [8, 9, 10, 11, 12, 13, 14, 15, 16, 17, 18, 19, 20, 21]) (ks := [1, 2, 3, 4, 5, 10, 13, 28]) (env' := [(1, .int .i64 step_4), (2, .bool taken_5), (3, .int .i64 try_6), (4, .bool ok_7), (5, .pointer (some ⟨b_8, 0, none⟩)), (10, .pointer (some ⟨b_9, 0, none⟩)), (13, .bool r_10.2.1), (28, .bool (r_10.1 != step_4))]) (H' := [⟨41, b_9, [.slice none ([] : List T_api_Step).length 0, .int .i64 0, .int .i64 0, .int .i64 0]⟩, ⟨40, b_8, [.slice A_2 s_1.Steps.length c_3, .int .i64 s_1.State, .int .i64 s_1.Cursor, .int .i64 s_1.Failed]⟩]) (ps := []) (by kernel_rfl) trivial ?_
    refine GoO.bsplit (t := 28) (by kernel_rfl) (fun h12 => ?_) (fun h12 => ?_)
    · refine GoO.exec (is := [8, 9, 10, 11, 12, 13, 14, 15, 16, 17, 18, 19, 20, 21]) (hs := [.p, .p, .p, .p, .p, .p, .p, .p, .p, .p, .p, .p, .p, .p]) (rest := []) (ks := [1, 2, 4, 5, 10, 42]) (env' := [(1, .int .i64 step_4), (2, .bool taken_5), (4, .bool ok_7), (5, .pointer (some ⟨b_8, 0, none⟩)), (10, .pointer (some ⟨b_9, 0, none⟩)), (42, .bool true)]) (H' := [⟨41, b_9, [.slice none ([] : List T_api_Step).length 0, .int .i64 0, .int .i64 0, .int .i64 0]⟩, ⟨40, b_8, [.slice A_2 s_1.Steps.length c_3, .int .i64 s_1.State, .int .i64 s_1.Cursor, .int .i64 s_1.Failed]⟩]) (ps := []) (by kernel_rfl) trivial ?_
      refine GoO.regionEnd ?_
      exact GoO.sub (ks := [1, 2, 4, 5, 10, 42]) (hk := [1, 0]) (bk := [0]) (by kernel_rfl) (by kernel_rfl) (by kernel_rfl) (saga_Outcome_j0_ok n s_1 step_4 taken_5 ok_7 A_2 c_3 b_8 b_9 w0 S0 true)
    · refine GoO.exec (is := [8, 9, 10, 11, 12]) (hs := [.p, .p, .p, .p, .p]) (rest := [13, 14, 15, 16, 17, 18, 19, 20, 21]) (ks := [1, 2, 3, 4, 5, 10, 33]) (env' := [(1, .int .i64 step_4), (2, .bool taken_5), (3, .int .i64 try_6), (4, .bool ok_7), (5, .pointer (some ⟨b_8, 0, none⟩)), (10, .pointer (some ⟨b_9, 0, none⟩)), (33, .bool (!(r_10.2.1 == taken_5)))]) (H' := [⟨41, b_9, [.slice none ([] : List T_api_Step).length 0, .int .i64 0, .int .i64 0, .int .i64 0]⟩, ⟨40, b_8, [.slice A_2 s_1.Steps.length c_3, .int .i64 s_1.State, .int .i64 s_1.Cursor, .int .i64 s_1.Failed]⟩]) (ps := []) (by kernel_rfl) trivial ?_
      refine GoO.bsplit (t := 33) (by kernel_rfl) (fun h13 => ?_) (fun h13 => ?_)
      · refine GoO.exec (is := [13, 14, 15, 16, 17, 18, 19, 20, 21]) (hs := [.p, .p, .p, .p, .p, .p, .p, .p, .p]) (rest := []) (ks := [1, 2, 4, 5, 10, 42]) (env' := [(1, .int .i64 step_4), (2, .bool taken_5), (4, .bool ok_7), (5, .pointer (some ⟨b_8, 0, none⟩)), (10, .pointer (some ⟨b_9, 0, none⟩)), (42, .bool true)]) (H' := [⟨41, b_9, [.slice none ([] : List T_api_Step).length 0, .int .i64 0, .int .i64 0, .int .i64 0]⟩, ⟨40, b_8, [.slice A_2 s_1.Steps.length c_3, .int .i64 s_1.State, .int .i64 s_1.Cursor, .int .i64 s_1.Failed]⟩]) (ps := []) (by kernel_rfl) trivial ?_
        refine GoO.regionEnd ?_
        exact GoO.sub (ks := [1, 2, 4, 5, 10, 42]) (hk := [1, 0]) (bk := [0]) (by kernel_rfl) (by kernel_rfl) (by kernel_rfl) (saga_Outcome_j0_ok n s_1 step_4 taken_5 ok_7 A_2 c_3 b_8 b_9 w0 S0 true)
      · refine GoO.exec (is := [13, 14, 15]) (hs := [.p, .p, .p]) (rest := [16, 17, 18, 19, 20, 21]) (ks := [1, 2, 3, 4, 5, 10, 33, 36]) (env' := [(1, .int .i64 step_4), (2, .bool taken_5), (3, .int .i64 try_6), (4, .bool ok_7), (5, .pointer (some ⟨b_8, 0, none⟩)), (10, .pointer (some ⟨b_9, 0, none⟩)), (33, .bool false), (36, .bool (!ok_7))]) (H' := [⟨41, b_9, [.slice none ([] : List T_api_Step).length 0, .int .i64 0, .int .i64 0, .int .i64 0]⟩, ⟨40, b_8, [.slice A_2 s_1.Steps.length c_3, .int .i64 s_1.State, .int .i64 s_1.Cursor, .int .i64 s_1.Failed]⟩]) (ps := []) (by kernel_rfl) trivial ?_
        refine GoO.bsplit (t := 36) (by kernel_rfl) (fun h14 => ?_) (fun h14 => ?_)
        · refine GoO.exec (is := [16, 17, 18, 19, 20, 21]) (hs := [.p, .p, .b 1, .p, .p, .p]) (rest := []) (ks := [1, 2, 4, 5, 10, 42]) (env' := [(1, .int .i64 step_4), (2, .bool taken_5), (4, .bool ok_7), (5, .pointer (some ⟨b_8, 0, none⟩)), (10, .pointer (some ⟨b_9, 0, none⟩)), (42, .bool (try_6 != s_1.Failed))]) (H' := [⟨41, b_9, [.slice none ([] : List T_api_Step).length 0, .int .i64 0, .int .i64 0, .int .i64 0]⟩, ⟨40, b_8, [.slice A_2 s_1.Steps.length c_3, .int .i64 s_1.State, .int .i64 s_1.Cursor, .int .i64 s_1.Failed]⟩]) (ps := [b_8 = b_8]) (by kernel_rfl) (And.intro rfl trivial) ?_
          refine GoO.regionEnd ?_
          exact GoO.sub (ks := [1, 2, 4, 5, 10, 42]) (hk := [1, 0]) (bk := [0]) (by kernel_rfl) (by kernel_rfl) (by kernel_rfl) (saga_Outcome_j0_ok n s_1 step_4 taken_5 ok_7 A_2 c_3 b_8 b_9 w0 S0 (try_6 != s_1.Failed))
        · refine GoO.exec (is := [16, 17, 18, 19, 20, 21]) (hs := [.p, .p, .p, .p, .p, .p]) (rest := []) (ks := [1, 2, 4, 5, 10, 42]) (env' := [(1, .int .i64 step_4), (2, .bool taken_5), (4, .bool ok_7), (5, .pointer (some ⟨b_8, 0, none⟩)), (10, .pointer (some ⟨b_9, 0, none⟩)), (42, .bool false)]) (H' := [⟨41, b_9, [.slice none ([] : List T_api_Step).length 0, .int .i64 0, .int .i64 0, .int .i64 0]⟩, ⟨40, b_8, [.slice A_2 s_1.Steps.length c_3, .int .i64 s_1.State, .int .i64 s_1.Cursor, .int .i64 s_1.Failed]⟩]) (ps := []) (by kernel_rfl) trivial ?_
          refine GoO.regionEnd ?_
          exact GoO.sub (ks := [1, 2, 4, 5, 10, 42]) (hk := [1, 0]) (bk := [0]) (by kernel_rfl) (by kernel_rfl) (by kernel_rfl) (saga_Outcome_j0_ok n s_1 step_4 taken_5 ok_7 A_2 c_3 b_8 b_9 w0 S0 false)

/-! tontine/tontinelaw14.begun -/
noncomputable def c20_0 : Code := bodyOf Try.f20
noncomputable def c20_1 : Code := cdL c20_0
noncomputable def c20_2 : Code := cdR c20_0
noncomputable def c20_3 : Code := cdL c20_2
noncomputable def c20_4 : Code := cdR c20_2
noncomputable def c20_5 : Code := cdL c20_4
noncomputable def c20_6 : Code := cdR c20_4
noncomputable def c20_7 : Code := cdL c20_6
noncomputable def c20_8 : Code := cdR c20_6
noncomputable def c20_9 : Code := cdL c20_8
noncomputable def c20_10 : Code := cdR c20_8
noncomputable def c20_11 : Code := cdL c20_10
noncomputable def c20_12 : Code := cdR c20_10
noncomputable def r20_1 : Array Oper := cdO c20_1
noncomputable def r20_3 : Array Oper := cdO c20_3
noncomputable def r20_5 : Array Oper := cdO c20_5
noncomputable def r20_7 : Array Oper := cdO c20_7
noncomputable def r20_9 : Array Oper := cdO c20_9
noncomputable def r20_11 : Array Oper := cdO c20_11
theorem c20_0e : c20_0 = .seq c20_1 c20_2 := by kernel_rfl
theorem c20_1e : c20_1 = .region 0 r20_1 false := by kernel_rfl
theorem c20_2e : c20_2 = .seq c20_3 c20_4 := by kernel_rfl
theorem c20_3e : c20_3 = .region 1 r20_3 false := by kernel_rfl
theorem c20_4e : c20_4 = .seq c20_5 c20_6 := by kernel_rfl
theorem c20_5e : c20_5 = .region 2 r20_5 false := by kernel_rfl
theorem c20_6e : c20_6 = .seq c20_7 c20_8 := by kernel_rfl
theorem c20_7e : c20_7 = .region 3 r20_7 false := by kernel_rfl
theorem c20_8e : c20_8 = .seq c20_9 c20_10 := by kernel_rfl
theorem c20_9e : c20_9 = .region 4 r20_9 false := by kernel_rfl
theorem c20_10e : c20_10 = .seq c20_11 c20_12 := by kernel_rfl
theorem c20_11e : c20_11 = .region 5 r20_11 false := by kernel_rfl
theorem c20_12e : c20_12 = .ret := by kernel_rfl
noncomputable def tontinelaw14_begun.R : Pst Bool where
  ε := Unit
  v := fun r x => .bool r
  H := fun r x => []
  B := fun r x => []
noncomputable def tontinelaw14_begun.cx (w0 : World) (S0 : Fam) : Cx Bool := ⟨Try.prog, 20, Try.f20, 55, w0, S0, [], 0, tontinelaw14_begun.R⟩
theorem tontinelaw14_begun_ok (n : Nat) :
    Meets Try.prog 20 [] 0 [] [] [] (tontinelaw14_begun.f n) (tontinelaw14_begun.R) := by
  refine Meets.of (c := c20_0) (n := 55) Try.func20 (by kernel_rfl) (by kernel_rfl) (by kernel_rfl) fun w0 S0 => ?_
  unfold tontinelaw14_begun.f
  show GoO (tontinelaw14_begun.cx w0 S0) [] [] [] [.code c20_0] _
  refine GoO.seq' c20_0e ?_
  refine GoO.region' (is := [0]) c20_1e (by kernel_rfl) ?_
  refine GoO.exec (is := [0]) (hs := [.p]) (rest := []) (ks := []) (env' := []) (H' := []) (ps := []) (by kernel_rfl) trivial ?_
  refine GoO.regionEnd ?_
  refine GoO.seq' c20_2e ?_
  refine GoO.region' (is := [0, 1, 2, 3, 4, 5, 6, 7, 8, 9]) c20_3e (by kernel_rfl) ?_
  refine GoO.exec (is := [0, 1]) (hs := [.p, .p]) (rest := [2, 3, 4, 5, 6, 7, 8, 9]) (ks := [8, 9]) (env' := [(8, .agg ⟨[.int .i64 0, .string (bs [97]), .int .i64 1]⟩), (9, .agg ⟨[.int .i64 0, .string (bs [98]), .int .i64 1]⟩)]) (H' := []) (ps := []) (by kernel_rfl) trivial ?_
  refine OpTo.go (GoO.lit (e := 50) (K := kT_api_Step) rfl (by kernel_rfl) (by kernel_rfl) (cs := [.int .i64 0, .string (bs [97]), .int .i64 1, .int .i64 0, .string (bs [98]), .int .i64 1]) (by kernel_rfl) [(⟨0, [97], 1⟩ : T_api_Step), (⟨0, [98], 1⟩ : T_api_Step)] (by kernel_rfl) (by kernel_rfl) (fun w S hB => ⟨[.int .i64 0, .string (bs [97]), .int .i64 1], _, rfl, rfl, ⟨[.int .i64 0, .string (bs [98]), .int .i64 1], _, rfl, rfl, rfl⟩⟩) 40 _ (fun _ _ => rfl) (fun A_1 c_2 => ?_))
  refine GoO.retag (t := 40) (u := 0) (j := 0) (hk := []) (bk := []) rfl rfl rfl rfl rfl rfl (by kernel_rfl) (by kernel_rfl) ?_
  refine GoO.own2rd (j := 0) rfl ?_
  refine OpTo.go (GoO.call rfl (by kernel_rfl) (by kernel_rfl) (saga_New_ok n [(⟨0, [97], 1⟩ : T_api_Step), (⟨0, [98], 1⟩ : T_api_Step)] A_1 c_2) [[0]] [] [] [(0, 0)] (hks := []) (bks := [0]) (by kernel_rfl) (by kernel_rfl) (by kernel_rfl) (.inl rfl) rfl rfl (by kernel_rfl) (by kernel_rfl) _ (fun _ _ => rfl) _ _ (fun _ _ => rfl) (fun _ _ => rfl) (fun _ _ => by kernel_rfl) (fun _ _ => by kernel_rfl) (fun r_3 x_26 => ?_))
  obtain ⟨A_4, c_5⟩ := x_26
  refine GoO.shape (env' := [(8, .agg ⟨[.int .i64 0, .string (bs [97]), .int .i64 1]⟩), (9, .agg ⟨[.int .i64 0, .string (bs [98]), .int .i64 1]⟩), (10, .slice A_1 [(⟨0, [97], 1⟩ : T_api_Step), (⟨0, [98], 1⟩ : T_api_Step)].length c_2), (11, .tuple ⟨[.agg ⟨[.slice A_4 r_3.1.Steps.length c_5, .int .i64 r_3.1.State, .int .i64 r_3.1.Cursor, .int .i64 r_3.1.Failed]⟩, .int .i64 r_3.2]⟩)]) (H' := []) (B' := [Rd 0 kT_api_Step A_4 c_5 r_3.1.Steps, Rd 0 kT_api_Step A_1 c_2 [(⟨0, [97], 1⟩ : T_api_Step), (⟨0, [98], 1⟩ : T_api_Step)]]) (ks := [8, 9, 10, 11]) (by kernel_rfl) (by kernel_rfl) (by kernel_rfl) ?_
  refine GoO.exec (is := [4, 5, 6]) (hs := [.p, .p, .p]) (rest := [7, 8, 9]) (ks := [12, 13]) (env' := [(12, .agg ⟨[.slice A_4 r_3.1.Steps.length c_5, .int .i64 r_3.1.State, .int .i64 r_3.1.Cursor, .int .i64 r_3.1.Failed]⟩), (13, .int .i64 r_3.2)]) (H' := []) (ps := []) (by kernel_rfl) trivial ?_
  refine OpTo.go (GoO.new rfl 41 (cs := [.slice none ([] : List T_api_Step).length 0, .int .i64 0, .int .i64 0, .int .i64 0]) (by kernel_rfl) _ (fun _ => rfl) (fun b_6 => ?_))
  refine GoO.exec (is := [8, 9]) (hs := [.b 0, .p]) (rest := []) (ks := [1, 2]) (env' := [(1, .pointer (some ⟨b_6, 0, none⟩)), (2, .int .i64 r_3.2)]) (H' := [⟨41, b_6, [.slice A_4 r_3.1.Steps.length c_5, .int .i64 r_3.1.State, .int .i64 r_3.1.Cursor, .int .i64 r_3.1.Failed]⟩]) (ps := [b_6 = b_6]) (by kernel_rfl) (And.intro rfl trivial) ?_
  refine GoO.regionEnd ?_
  refine GoO.seq' c20_4e ?_
  refine GoO.region' (is := [0, 1, 2, 3, 4, 5, 6]) c20_5e (by kernel_rfl) ?_
  refine GoO.exec (is := [0]) (hs := [.b 0]) (rest := [1, 2, 3, 4, 5, 6]) (ks := [1, 2, 15]) (env' := [(1, .pointer (some ⟨b_6, 0, none⟩)), (2, .int .i64 r_3.2), (15, .agg ⟨[.slice A_4 r_3.1.Steps.length c_5, .int .i64 r_3.1.State, .int .i64 r_3.1.Cursor, .int .i64 r_3.1.Failed]⟩)]) (H' := [⟨41, b_6, [.slice A_4 r_3.1.Steps.length c_5, .int .i64 r_3.1.State, .int .i64 r_3.1.Cursor, .int .i64 r_3.1.Failed]⟩]) (ps := [b_6 = b_6]) (by kernel_rfl) (And.intro rfl trivial) ?_
  refine OpTo.go (GoO.call rfl (by kernel_rfl) (by kernel_rfl) (saga_Outcome_ok n r_3.1 0 false 0 true A_4 c_5) [[0]] [] [] [(0, 0)] (hks := [0]) (bks := [0, 1]) (by kernel_rfl) (by kernel_rfl) (by kernel_rfl) (.inl rfl) rfl rfl (by kernel_rfl) (by kernel_rfl) _ (fun _ _ => rfl) _ _ (fun _ _ => rfl) (fun _ _ => rfl) (fun _ _ => by kernel_rfl) (fun _ _ => by kernel_rfl) (fun r_7 x_25 => ?_))
  obtain ⟨A_8, c_9⟩ := x_25
  refine GoO.shape (env' := [(1, .pointer (some ⟨b_6, 0, none⟩)), (2, .int .i64 r_3.2), (15, .agg ⟨[.slice A_4 r_3.1.Steps.length c_5, .int .i64 r_3.1.State, .int .i64 r_3.1.Cursor, .int .i64 r_3.1.Failed]⟩), (16, .tuple ⟨[.agg ⟨[.slice A_8 r_7.1.Steps.length c_9, .int .i64 r_7.1.State, .int .i64 r_7.1.Cursor, .int .i64 r_7.1.Failed]⟩, .bool r_7.2]⟩)]) (H' := [⟨41, b_6, [.slice A_4 r_3.1.Steps.length c_5, .int .i64 r_3.1.State, .int .i64 r_3.1.Cursor, .int .i64 r_3.1.Failed]⟩]) (B' := [Rd 0 kT_api_Step A_8 c_9 r_7.1.Steps, Rd 0 kT_api_Step A_4 c_5 r_3.1.Steps, Rd 0 kT_api_Step A_1 c_2 [(⟨0, [97], 1⟩ : T_api_Step), (⟨0, [98], 1⟩ : T_api_Step)]]) (ks := [1, 2, 15, 16]) (by kernel_rfl) (by kernel_rfl) (by kernel_rfl) ?_
  refine GoO.exec (is := [2, 3, 4, 5, 6]) (hs := [.p, .p, .p, .b 0, .p]) (rest := []) (ks := [1, 2, 3]) (env' := [(1, .pointer (some ⟨b_6, 0, none⟩)), (2, .int .i64 r_3.2), (3, .bool r_7.2)]) (H' := [⟨41, b_6, [.slice A_8 r_7.1.Steps.length c_9, .int .i64 r_7.1.State, .int .i64 r_7.1.Cursor, .int .i64 r_7.1.Failed]⟩]) (ps := [b_6 = b_6]) (by kernel_rfl) (And.intro rfl trivial) ?_
  refine GoO.regionEnd ?_
  refine GoO.seq' c20_6e ?_
  refine GoO.region' (is := [0, 1, 2, 3, 4, 5, 6]) c20_7e (by kernel_rfl) ?_
  refine GoO.exec (is := [0]) (hs := [.b 0]) (rest := [1, 2, 3, 4, 5, 6]) (ks := [1, 2, 3, 20]) (env' := [(1, .pointer (some ⟨b_6, 0, none⟩)), (2, .int .i64 r_3.2), (3, .bool r_7.2), (20, .agg ⟨[.slice A_8 r_7.1.Steps.length c_9, .int .i64 r_7.1.State, .int .i64 r_7.1.Cursor, .int .i64 r_7.1.Failed]⟩)]) (H' := [⟨41, b_6, [.slice A_8 r_7.1.Steps.length c_9, .int .i64 r_7.1.State, .int .i64 r_7.1.Cursor, .int .i64 r_7.1.Failed]⟩]) (ps := [b_6 = b_6]) (by kernel_rfl) (And.intro rfl trivial) ?_
  refine OpTo.go (GoO.call rfl (by kernel_rfl) (by kernel_rfl) (saga_Outcome_ok n r_7.1 1 false 0 false A_8 c_9) [[0]] [] [] [(0, 0)] (hks := [0]) (bks := [0, 1, 2]) (by kernel_rfl) (by kernel_rfl) (by kernel_rfl) (.inl rfl) rfl rfl (by kernel_rfl) (by kernel_rfl) _ (fun _ _ => rfl) _ _ (fun _ _ => rfl) (fun _ _ => rfl) (fun _ _ => by kernel_rfl) (fun _ _ => by kernel_rfl) (fun r_10 x_24 => ?_))
  obtain ⟨A_11, c_12⟩ := x_24
  refine GoO.shape (env' := [(1, .pointer (some ⟨b_6, 0, none⟩)), (2, .int .i64 r_3.2), (3, .bool r_7.2), (20, .agg ⟨[.slice A_8 r_7.1.Steps.length c_9, .int .i64 r_7.1.State, .int .i64 r_7.1.Cursor, .int .i64 r_7.1.Failed]⟩), (21, .tuple ⟨[.agg ⟨[.slice A_11 r_10.1.Steps.length c_12, .int .i64 r_10.1.State, .int .i64 r_10.1.Cursor, .int .i64 r_10.1.Failed]⟩, .bool r_10.2]⟩)]) (H' := [⟨41, b_6, [.slice A_8 r_7.1.Steps.length c_9, .int .i64 r_7.1.State, .int .i64 r_7.1.Cursor, .int .i64 r_7.1.Failed]⟩]) (B' := [Rd 0 kT_api_Step A_11 c_12 r_10.1.Steps, Rd 0 kT_api_Step A_8 c_9 r_7.1.Steps, Rd 0 kT_api_Step A_4 c_5 r_3.1.Steps, Rd 0 kT_api_Step A_1 c_2 [(⟨0, [97], 1⟩ : T_api_Step), (⟨0, [98], 1⟩ : T_api_Step)]]) (ks := [1, 2, 3, 20, 21]) (by kernel_rfl) (by kernel_rfl) (by kernel_rfl) ?_
  refine GoO.exec (is := [2, 3, 4, 5, 6]) (hs := [.p, .p, .p, .b 0, .p]) (rest := []) (ks := [1, 2, 3, 4]) (env' := [(1, .pointer (some ⟨b_6, 0, none⟩)), (2, .int .i64 r_3.2), (3, .bool r_7.2), (4, .bool r_10.2)]) (H' := [⟨41, b_6, [.slice A_11 r_10.1.Steps.length c_12, .int .i64 r_10.1.State, .int .i64 r_10.1.Cursor, .int .i64 r_10.1.Failed]⟩]) (ps := [b_6 = b_6]) (by kernel_rfl) (And.intro rfl trivial) ?_
  refine GoO.regionEnd ?_
  refine GoO.seq' c20_8e ?_
  refine GoO.region' (is := [0, 1, 2, 3, 4, 5, 6, 7]) c20_9e (by kernel_rfl) ?_
  refine GoO.exec (is := [0]) (hs := [.b 0]) (rest := [1, 2, 3, 4, 5, 6, 7]) (ks := [1, 2, 3, 4, 25]) (env' := [(1, .pointer (some ⟨b_6, 0, none⟩)), (2, .int .i64 r_3.2), (3, .bool r_7.2), (4, .bool r_10.2), (25, .agg ⟨[.slice A_11 r_10.1.Steps.length c_12, .int .i64 r_10.1.State, .int .i64 r_10.1.Cursor, .int .i64 r_10.1.Failed]⟩)]) (H' := [⟨41, b_6, [.slice A_11 r_10.1.Steps.length c_12, .int .i64 r_10.1.State, .int .i64 r_10.1.Cursor, .int .i64 r_10.1.Failed]⟩]) (ps := [b_6 = b_6]) (by kernel_rfl) (And.intro rfl trivial) ?_
  refine OpTo.go (GoO.call rfl (by kernel_rfl) (by kernel_rfl) (saga_Outcome_ok n r_10.1 0 true 0 true A_11 c_12) [[0]] [] [] [(0, 0)] (hks := [0]) (bks := [0, 1, 2, 3]) (by kernel_rfl) (by kernel_rfl) (by kernel_rfl) (.inl rfl) rfl rfl (by kernel_rfl) (by kernel_rfl) _ (fun _ _ => rfl) _ _ (fun _ _ => rfl) (fun _ _ => rfl) (fun _ _ => by kernel_rfl) (fun _ _ => by kernel_rfl) (fun r_13 x_23 => ?_))
  obtain ⟨A_14, c_15⟩ := x_23
  refine GoO.shape (env' := [(1, .pointer (some ⟨b_6, 0, none⟩)), (2, .int .i64 r_3.2), (3, .bool r_7.2), (4, .bool r_10.2), (25, .agg ⟨[.slice A_11 r_10.1.Steps.length c_12, .int .i64 r_10.1.State, .int .i64 r_10.1.Cursor, .int .i64 r_10.1.Failed]⟩), (26, .tuple ⟨[.agg ⟨[.slice A_14 r_13.1.Steps.length c_15, .int .i64 r_13.1.State, .int .i64 r_13.1.Cursor, .int .i64 r_13.1.Failed]⟩, .bool r_13.2]⟩)]) (H' := [⟨41, b_6, [.slice A_11 r_10.1.Steps.length c_12, .int .i64 r_10.1.State, .int .i64 r_10.1.Cursor, .int .i64 r_10.1.Failed]⟩]) (B' := [Rd 0 kT_api_Step A_14 c_15 r_13.1.Steps, Rd 0 kT_api_Step A_11 c_12 r_10.1.Steps, Rd 0 kT_api_Step A_8 c_9 r_7.1.Steps, Rd 0 kT_api_Step A_4 c_5 r_3.1.Steps, Rd 0 kT_api_Step A_1 c_2 [(⟨0, [97], 1⟩ : T_api_Step), (⟨0, [98], 1⟩ : T_api_Step)]]) (ks := [1, 2, 3, 4, 25, 26]) (by kernel_rfl) (by kernel_rfl) (by kernel_rfl) ?_
  refine GoO.exec (is := [2, 3, 4]) (hs := [.p, .p, .p]) (rest := [5, 6, 7]) (ks := [1, 2, 3, 4, 27, 28]) (env' := [(1, .pointer (some ⟨b_6, 0, none⟩)), (2, .int .i64 r_3.2), (3, .bool r_7.2), (4, .bool r_10.2), (27, .agg ⟨[.slice A_14 r_13.1.Steps.length c_15, .int .i64 r_13.1.State, .int .i64 r_13.1.Cursor, .int .i64 r_13.1.Failed]⟩), (28, .bool r_13.2)]) (H' := [⟨41, b_6, [.slice A_11 r_10.1.Steps.length c_12, .int .i64 r_10.1.State, .int .i64 r_10.1.Cursor, .int .i64 r_10.1.Failed]⟩]) (ps := []) (by kernel_rfl) trivial ?_
  refine OpTo.go (GoO.new rfl 42 (cs := [.slice none ([] : List T_api_Step).length 0, .int .i64 0, .int .i64 0, .int .i64 0]) (by kernel_rfl) _ (fun _ => rfl) (fun b_16 => ?_))
  refine GoO.exec (is := [6, 7]) (hs := [.b 0, .p]) (rest := []) (ks := [1, 2, 3, 4, 5, 6]) (env' := [(1, .pointer (some ⟨b_6, 0, none⟩)), (2, .int .i64 r_3.2), (3, .bool r_7.2), (4, .bool r_10.2), (5, .pointer (some ⟨b_16, 0, none⟩)), (6, .bool r_13.2)]) (H' := [⟨42, b_16, [.slice A_14 r_13.1.Steps.length c_15, .int .i64 r_13.1.State, .int .i64 r_13.1.Cursor, .int .i64 r_13.1.Failed]⟩, ⟨41, b_6, [.slice A_11 r_10.1.Steps.length c_12, .int .i64 r_10.1.State, .int .i64 r_10.1.Cursor, .int .i64 r_10.1.Failed]⟩]) (ps := [b_16 = b_16]) (by kernel_rfl) (And.intro rfl trivial) ?_
  refine GoO.regionEnd ?_
  refine GoO.seq' c20_10e ?_
  refine GoO.region' (is := [0, 1, 2, 3, 4, 5, 6, 7, 8, 9, 10, 11, 12, 13, 14, 15, 16, 17, 18, 19, 20, 21, 22, 23, 24, 25, 26]) c20_11e (by kernel_rfl) ?_
  refine GoO.exec (is := [0, 1, 2]) (hs := [.p, .p, .p]) (rest := [3, 4, 5, 6, 7, 8, 9, 10, 11, 12, 13, 14, 15, 16, 17, 18, 19, 20, 21, 22, 23, 24, 25, 26]) (ks := [1, 3, 4, 5, 6, 31]) (env' := [(1, .pointer (some ⟨b_6, 0, none⟩)), (3, .bool r_7.2), (4, .bool r_10.2), (5, .pointer (some ⟨b_16, 0, none⟩)), (6, .bool r_13.2), (31, .bool (r_3.2 == 0))]) (H' := [⟨42, b_16, [.slice A_14 r_13.1.Steps.length c_15, .int .i64 r_13.1.State, .int .i64 r_13.1.Cursor, .int .i64 r_13.1.Failed]⟩, ⟨41, b_6, [.slice A_11 r_10.1.Steps.length c_12, .int .i64 r_10.1.State, .int .i64 r_10.1.Cursor, .int .i64 r_10.1.Failed]⟩]) (ps := []) (by kernel_rfl) trivial ?_
  refine GoO.bsplit (t := 31) (by kernel_rfl) (fun h17 => ?_) (fun h17 => ?_)
  · refine GoO.exec (is := [3, 4, 5]) (hs := [.p, .p, .p]) (rest := [6, 7, 8, 9, 10, 11, 12, 13, 14, 15, 16, 17, 18, 19, 20, 21, 22, 23, 24, 25, 26]) (ks := [1, 4, 5, 6, 34]) (env' := [(1, .pointer (some ⟨b_6, 0, none⟩)), (4, .bool r_10.2), (5, .pointer (some ⟨b_16, 0, none⟩)), (6, .bool r_13.2), (34, .bool r_7.2)]) (H' := [⟨42, b_16, [.slice A_14 r_13.1.Steps.length c_15, .int .i64 r_13.1.State, .int .i64 r_13.1.Cursor, .int .i64 r_13.1.Failed]⟩, ⟨41, b_6, [.slice A_11 r_10.1.Steps.length c_12, .int .i64 r_10.1.State, .int .i64 r_10.1.Cursor, .int .i64 r_10.1.Failed]⟩]) (ps := []) (by kernel_rfl) trivial ?_
    refine GoO.bsplit (t := 34) (by kernel_rfl) (fun h18 => ?_) (fun h18 => ?_)
    · refine GoO.exec (is := [6, 7, 8]) (hs := [.p, .p, .p]) (rest := [9, 10, 11, 12, 13, 14, 15, 16, 17, 18, 19, 20, 21, 22, 23, 24, 25, 26]) (ks := [1, 5, 6, 37]) (env' := [(1, .pointer (some ⟨b_6, 0, none⟩)), (5, .pointer (some ⟨b_16, 0, none⟩)), (6, .bool r_13.2), (37, .bool r_10.2)]) (H' := [⟨42, b_16, [.slice A_14 r_13.1.Steps.length c_15, .int .i64 r_13.1.State, .int .i64 r_13.1.Cursor, .int .i64 r_13.1.Failed]⟩, ⟨41, b_6, [.slice A_11 r_10.1.Steps.length c_12, .int .i64 r_10.1.State, .int .i64 r_10.1.Cursor, .int .i64 r_10.1.Failed]⟩]) (ps := []) (by kernel_rfl) trivial ?_
      refine GoO.bsplit (t := 37) (by kernel_rfl) (fun h19 => ?_) (fun h19 => ?_)
      · refine GoO.exec (is := [9, 10, 11]) (hs := [.p, .p, .p]) (rest := [12, 13, 14, 15, 16, 17, 18, 19, 20, 21, 22, 23, 24, 25, 26]) (ks := [1, 5, 40]) (env' := [(1, .pointer (some ⟨b_6, 0, none⟩)), (5, .pointer (some ⟨b_16, 0, none⟩)), (40, .bool r_13.2)]) (H' := [⟨42, b_16, [.slice A_14 r_13.1.Steps.length c_15, .int .i64 r_13.1.State, .int .i64 r_13.1.Cursor, .int .i64 r_13.1.Failed]⟩, ⟨41, b_6, [.slice A_11 r_10.1.Steps.length c_12, .int .i64 r_10.1.State, .int .i64 r_10.1.Cursor, .int .i64 r_10.1.Failed]⟩]) (ps := []) (by kernel_rfl) trivial ?_
        refine GoO.bsplit (t := 40) (by kernel_rfl) (fun h20 => ?_) (fun h20 => ?_)
        · refine GoO.exec (is := [12, 13, 14, 15, 16]) (hs := [.p, .b 1, .p, .p, .p]) (rest := [17, 18, 19, 20, 21, 22, 23, 24, 25, 26]) (ks := [1, 5, 45]) (env' := [(1, .pointer (some ⟨b_6, 0, none⟩)), (5, .pointer (some ⟨b_16, 0, none⟩)), (45, .bool (r_10.1.State == 2))]) (H' := [⟨42, b_16, [.slice A_14 r_13.1.Steps.length c_15, .int .i64 r_13.1.State, .int .i64 r_13.1.Cursor, .int .i64 r_13.1.Failed]⟩, ⟨41, b_6, [.slice A_11 r_10.1.Steps.length c_12, .int .i64 r_10.1.State, .int .i64 r_10.1.Cursor, .int .i64 r_10.1.Failed]⟩]) (ps := [b_6 = b_6]) (by kernel_rfl) (And.intro rfl trivial) ?_
          refine GoO.bsplit (t := 45) (by kernel_rfl) (fun h21 => ?_) (fun h21 => ?_)
          · refine GoO.exec (is := [17, 18, 19, 20, 21]) (hs := [.p, .b 1, .p, .p, .p]) (rest := [22, 23, 24, 25, 26]) (ks := [5, 50]) (env' := [(5, .pointer (some ⟨b_16, 0, none⟩)), (50, .bool (r_10.1.Cursor == 0))]) (H' := [⟨42, b_16, [.slice A_14 r_13.1.Steps.length c_15, .int .i64 r_13.1.State, .int .i64 r_13.1.Cursor, .int .i64 r_13.1.Failed]⟩, ⟨41, b_6, [.slice A_11 r_10.1.Steps.length c_12, .int .i64 r_10.1.State, .int .i64 r_10.1.Cursor, .int .i64 r_10.1.Failed]⟩]) (ps := [b_6 = b_6]) (by kernel_rfl) (And.intro rfl trivial) ?_
            refine GoO.bsplit (t := 50) (by kernel_rfl) (fun h22 => ?_) (fun h22 => ?_)
            · refine GoO.exec (is := [22, 23, 24, 25, 26]) (hs := [.p, .b 0, .p, .p, .p]) (rest := []) (ks := [0]) (env' := [(0, .bool (r_13.1.State == 4))]) (H' := [⟨42, b_16, [.slice A_14 r_13.1.Steps.length c_15, .int .i64 r_13.1.State, .int .i64 r_13.1.Cursor, .int .i64 r_13.1.Failed]⟩, ⟨41, b_6, [.slice A_11 r_10.1.Steps.length c_12, .int .i64 r_10.1.State, .int .i64 r_10.1.Cursor, .int .i64 r_10.1.Failed]⟩]) (ps := [b_16 = b_16]) (by kernel_rfl) (And.intro rfl trivial) ?_
              refine GoO.regionEnd ?_
              exact GoO.ret' (h := c20_12e) (hs := []) (ps := []) (hk := []) (bk := []) Try.func20 () (by kernel_rfl) trivial (by kernel_rfl) (by kernel_rfl)
            · refine GoO.exec (is := [22, 23, 24, 25, 26]) (hs := [.p, .p, .p, .p, .p]) (rest := []) (ks := [0]) (env' := [(0, .bool false)]) (H' := [⟨42, b_16, [.slice A_14 r_13.1.Steps.length c_15, .int .i64 r_13.1.State, .int .i64 r_13.1.Cursor, .int .i64 r_13.1.Failed]⟩, ⟨41, b_6, [.slice A_11 r_10.1.Steps.length c_12, .int .i64 r_10.1.State, .int .i64 r_10.1.Cursor, .int .i64 r_10.1.Failed]⟩]) (ps := []) (by kernel_rfl) trivial ?_
              refine GoO.regionEnd ?_
              exact GoO.ret' (h := c20_12e) (hs := []) (ps := []) (hk := []) (bk := []) Try.func20 () (by kernel_rfl) trivial (by kernel_rfl) (by kernel_rfl)
          · refine GoO.exec (is := [17, 18, 19, 20, 21, 22, 23, 24, 25, 26]) (hs := [.p, .p, .p, .p, .p, .p, .p, .p, .p, .p]) (rest := []) (ks := [0]) (env' := [(0, .bool false)]) (H' := [⟨42, b_16, [.slice A_14 r_13.1.Steps.length c_15, .int .i64 r_13.1.State, .int .i64 r_13.1.Cursor, .int .i64 r_13.1.Failed]⟩, ⟨41, b_6, [.slice A_11 r_10.1.Steps.length c_12, .int .i64 r_10.1.State, .int .i64 r_10.1.Cursor, .int .i64 r_10.1.Failed]⟩]) (ps := []) (by kernel_rfl) trivial ?_
            refine GoO.regionEnd ?_
            exact GoO.ret' (h := c20_12e) (hs := []) (ps := []) (hk := []) (bk := []) Try.func20 () (by kernel_rfl) trivial (by kernel_rfl) (by kernel_rfl)
        · refine GoO.exec (is := [12, 13, 14, 15, 16, 17, 18, 19, 20, 21, 22, 23, 24, 25, 26]) (hs := [.p, .p, .p, .p, .p, .p, .p, .p, .p, .p, .p, .p, .p, .p, .p]) (rest := []) (ks := [0]) (env' := [(0, .bool false)]) (H' := [⟨42, b_16, [.slice A_14 r_13.1.Steps.length c_15, .int .i64 r_13.1.State, .int .i64 r_13.1.Cursor, .int .i64 r_13.1.Failed]⟩, ⟨41, b_6, [.slice A_11 r_10.1.Steps.length c_12, .int .i64 r_10.1.State, .int .i64 r_10.1.Cursor, .int .i64 r_10.1.Failed]⟩]) (ps := []) (by kernel_rfl) trivial ?_
          refine GoO.regionEnd ?_
          exact GoO.ret' (h := c20_12e) (hs := []) (ps := []) (hk := []) (bk := []) Try.func20 () (by kernel_rfl) trivial (by kernel_rfl) (by kernel_rfl)
      · refine GoO.exec (is := [9, 10, 11, 12, 13, 14, 15, 16, 17, 18, 19, 20, 21, 22, 23, 24, 25, 26]) (hs := [.p, .p, .p, .p, .p, .p, .p, .p, .p, .p, .p, .p, .p, .p, .p, .p, .p, .p]) (rest := []) (ks := [0]) (env' := [(0, .bool false)]) (H' := [⟨42, b_16, [.slice A_14 r_13.1.Steps.length c_15, .int .i64 r_13.1.State, .int .i64 r_13.1.Cursor, .int .i64 r_13.1.Failed]⟩, ⟨41, b_6, [.slice A_11 r_10.1.Steps.length c_12, .int .i64 r_10.1.State, .int .i64 r_10.1.Cursor, .int .i64 r_10.1.Failed]⟩]) (ps := []) (by kernel_rfl) trivial ?_
        refine GoO.regionEnd ?_
        exact GoO.ret' (h := c20_12e) (hs := []) (ps := []) (hk := []) (bk := []) Try.func20 () (by kernel_rfl) trivial (by kernel_rfl) (by kernel_rfl)
    · refine GoO.exec (is := [6, 7, 8, 9, 10, 11, 12, 13, 14, 15, 16, 17, 18, 19, 20, 21, 22, 23, 24, 25, 26]) (hs := [.p, .p, .p, .p, .p, .p, .p, .p, .p, .p, .p, .p, .p, .p, .p, .p, .p, .p, .p, .p, .p]) (rest := []) (ks := [0]) (env' := [(0, .bool false)]) (H' := [⟨42, b_16, [.slice A_14 r_13.1.Steps.length c_15, .int .i64 r_13.1.State, .int .i64 r_13.1.Cursor, .int .i64 r_13.1.Failed]⟩, ⟨41, b_6, [.slice A_11 r_10.1.Steps.length c_12, .int .i64 r_10.1.State, .int .i64 r_10.1.Cursor, .int .i64 r_10.1.Failed]⟩]) (ps := []) (by kernel_rfl) trivial ?_
      refine GoO.regionEnd ?_
      exact GoO.ret' (h := c20_12e) (hs := []) (ps := []) (hk := []) (bk := []) Try.func20 () (by kernel_rfl) trivial (by kernel_rfl) (by kernel_rfl)
  · refine GoO.exec (is := [3, 4, 5, 6, 7, 8, 9, 10, 11, 12, 13, 14, 15, 16, 17, 18, 19, 20, 21, 22, 23, 24, 25, 26]) (hs := [.p, .p, .p, .p, .p, .p, .p, .p, .p, .p, .p, .p, .p, .p, .p, .p, .p, .p, .p, .p, .p, .p, .p, .p]) (rest := []) (ks := [0]) (env' := [(0, .bool false)]) (H' := [⟨42, b_16, [.slice A_14 r_13.1.Steps.length c_15, .int .i64 r_13.1.State, .int .i64 r_13.1.Cursor, .int .i64 r_13.1.Failed]⟩, ⟨41, b_6, [.slice A_11 r_10.1.Steps.length c_12, .int .i64 r_10.1.State, .int .i64 r_10.1.Cursor, .int .i64 r_10.1.Failed]⟩]) (ps := []) (by kernel_rfl) trivial ?_
    refine GoO.regionEnd ?_
    exact GoO.ret' (h := c20_12e) (hs := []) (ps := []) (hk := []) (bk := []) Try.func20 () (by kernel_rfl) trivial (by kernel_rfl) (by kernel_rfl)

/-! (*tontine/pack.Writer).Num -/
noncomputable def c48_0 : Code := bodyOf Try.f48
noncomputable def c48_1 : Code := cdL c48_0
noncomputable def c48_2 : Code := cdR c48_0
noncomputable def c48_3 : Code := cdL c48_2
noncomputable def c48_4 : Code := cdL c48_3
noncomputable def c48_5 : Code := cdR c48_3
noncomputable def c48_9 : Code := cdR c48_5
noncomputable def c48_10 : Code := cdR c48_2
noncomputable def c48_11 : Code := cdL c48_10
noncomputable def c48_12 : Code := cdR c48_10
noncomputable def c48_13 : Code := cdL c48_12
noncomputable def c48_14 : Code := cdL c48_13
noncomputable def c48_15 : Code := cdR c48_13
noncomputable def c48_16 : Code := cdL c48_15
noncomputable def c48_17 : Code := cdL c48_16
noncomputable def c48_18 : Code := cdL c48_17
noncomputable def c48_19 : Code := cdL c48_18
noncomputable def c48_20 : Code := cdR c48_18
noncomputable def c48_21 : Code := cdL c48_20
noncomputable def c48_22 : Code := cdR c48_20
noncomputable def c48_23 : Code := cdR c48_17
noncomputable def c48_24 : Code := cdL c48_23
noncomputable def c48_25 : Code := cdL c48_24
noncomputable def c48_26 : Code := cdR c48_23
noncomputable def c48_27 : Code := cdR c48_12
noncomputable def c48_28 : Code := cdL c48_27
noncomputable def c48_29 : Code := cdR c48_27
noncomputable def c48_30 : Code := cdL c48_29
noncomputable def c48_31 : Code := cdL c48_30
noncomputable def c48_32 : Code := cdR c48_30
noncomputable def c48_33 : Code := cdL c48_32
noncomputable def c48_34 : Code := cdL c48_33
noncomputable def c48_35 : Code := cdL c48_34
noncomputable def c48_36 : Code := cdL c48_35
noncomputable def c48_37 : Code := cdR c48_35
noncomputable def c48_38 : Code := cdL c48_37
noncomputable def c48_39 : Code := cdR c48_37
noncomputable def c48_40 : Code := cdR c48_34
noncomputable def c48_41 : Code := cdL c48_40
noncomputable def c48_42 : Code := cdL c48_41
noncomputable def c48_43 : Code := cdR c48_40
noncomputable def c48_44 : Code := cdR c48_29
noncomputable def c48_45 : Code := cdL c48_44
noncomputable def c48_46 : Code := cdR c48_44
noncomputable def c48_6 : Code := cdL c48_5
noncomputable def r48_1 : Array Oper := cdO c48_1
noncomputable def r48_4 : Array Oper := cdO c48_4
noncomputable def r48_11 : Array Oper := cdO c48_11
noncomputable def r48_14 : Array Oper := cdO c48_14
noncomputable def r48_19 : Array Oper := cdO c48_19
noncomputable def r48_25 : Array Oper := cdO c48_25
noncomputable def r48_26 : Array Oper := cdO c48_26
noncomputable def r48_28 : Array Oper := cdO c48_28
noncomputable def r48_31 : Array Oper := cdO c48_31
noncomputable def r48_36 : Array Oper := cdO c48_36
noncomputable def r48_42 : Array Oper := cdO c48_42
noncomputable def r48_43 : Array Oper := cdO c48_43
noncomputable def r48_45 : Array Oper := cdO c48_45
theorem c48_0e : c48_0 = .seq c48_1 c48_2 := by kernel_rfl
theorem c48_1e : c48_1 = .region 0 r48_1 false := by kernel_rfl
theorem c48_2e : c48_2 = .seq c48_3 c48_10 := by kernel_rfl
theorem c48_3e : c48_3 = .seq c48_4 c48_5 := by kernel_rfl
theorem c48_4e : c48_4 = .region 1 r48_4 false := by kernel_rfl
theorem c48_5e : c48_5 = .cond (cdC c48_5) c48_6 c48_9 := by kernel_rfl
theorem c48_9e : c48_9 = .skip := by kernel_rfl
theorem c48_10e : c48_10 = .seq c48_11 c48_12 := by kernel_rfl
theorem c48_11e : c48_11 = .region 3 r48_11 false := by kernel_rfl
theorem c48_12e : c48_12 = .seq c48_13 c48_27 := by kernel_rfl
theorem c48_13e : c48_13 = .seq c48_14 c48_15 := by kernel_rfl
theorem c48_14e : c48_14 = .region 4 r48_14 false := by kernel_rfl
theorem c48_15e : c48_15 = .block 0 c48_16 := by kernel_rfl
theorem c48_16e : c48_16 = .loop c48_17 := by kernel_rfl
theorem c48_17e : c48_17 = .seq c48_18 c48_23 := by kernel_rfl
theorem c48_18e : c48_18 = .seq c48_19 c48_20 := by kernel_rfl
theorem c48_19e : c48_19 = .region 5 r48_19 false := by kernel_rfl
theorem c48_20e : c48_20 = .cond (cdC c48_20) c48_21 c48_22 := by kernel_rfl
theorem c48_21e : c48_21 = .skip := by kernel_rfl
theorem c48_22e : c48_22 = .exit 0 := by kernel_rfl
theorem c48_23e : c48_23 = .seq c48_24 c48_26 := by kernel_rfl
theorem c48_24e : c48_24 = .block 1 c48_25 := by kernel_rfl
theorem c48_25e : c48_25 = .region 7 r48_25 false := by kernel_rfl
theorem c48_26e : c48_26 = .region 6 r48_26 false := by kernel_rfl
theorem c48_27e : c48_27 = .seq c48_28 c48_29 := by kernel_rfl
theorem c48_28e : c48_28 = .region 8 r48_28 false := by kernel_rfl
theorem c48_29e : c48_29 = .seq c48_30 c48_44 := by kernel_rfl
theorem c48_30e : c48_30 = .seq c48_31 c48_32 := by kernel_rfl
theorem c48_31e : c48_31 = .region 9 r48_31 false := by kernel_rfl
theorem c48_32e : c48_32 = .block 2 c48_33 := by kernel_rfl
theorem c48_33e : c48_33 = .loop c48_34 := by kernel_rfl
theorem c48_34e : c48_34 = .seq c48_35 c48_40 := by kernel_rfl
theorem c48_35e : c48_35 = .seq c48_36 c48_37 := by kernel_rfl
theorem c48_36e : c48_36 = .region 10 r48_36 false := by kernel_rfl
theorem c48_37e : c48_37 = .cond (cdC c48_37) c48_38 c48_39 := by kernel_rfl
theorem c48_38e : c48_38 = .skip := by kernel_rfl
theorem c48_39e : c48_39 = .exit 2 := by kernel_rfl
theorem c48_40e : c48_40 = .seq c48_41 c48_43 := by kernel_rfl
theorem c48_41e : c48_41 = .block 3 c48_42 := by kernel_rfl
theorem c48_42e : c48_42 = .region 12 r48_42 true := by kernel_rfl
theorem c48_43e : c48_43 = .region 11 r48_43 false := by kernel_rfl
theorem c48_44e : c48_44 = .seq c48_45 c48_46 := by kernel_rfl
theorem c48_45e : c48_45 = .region 13 r48_45 false := by kernel_rfl
theorem c48_46e : c48_46 = .ret := by kernel_rfl
noncomputable def pack_Writer_Num.R (b_2 : Nat) (A_3 : Option Addr) (c_4 : Nat) : Pst T_pack_Writer where
  ε := Option Addr × Nat
  v := fun r x => .pointer (some ⟨b_2, 0, none⟩)
  H := fun r x => [⟨1, b_2, [.slice x.1 r.b.length x.2]⟩]
  B := fun r x => [Ow 2 Kd.u8 x.1 x.2 r.b]
noncomputable def pack_Writer_Num.cx (b_2 : Nat) (A_3 : Option Addr) (c_4 : Nat) (w0 : World) (S0 : Fam) : Cx T_pack_Writer := ⟨Try.prog, 48, Try.f48, 49, w0, S0, [1, 2], 2, pack_Writer_Num.R b_2 A_3 c_4⟩
theorem pack_Writer_Num_l1_ok (n : Nat) (x_5 : Int) (b_2 : Nat) (A_3 : Option Addr) (c_4 : Nat) (w0 : World) (S0 : Fam) :
    ∀ (k : Nat) (f_14 : (List UInt8)) (i_17 : Int) (A_15 : Option Addr) (c_16 : Nat), GoO (pack_Writer_Num.cx b_2 A_3 c_4 w0 S0) [(0, .pointer (some ⟨b_2, 0, none⟩)), (1, .int .u64 x_5), (7, .int .i64 i_17)] [⟨1, b_2, [.slice A_15 f_14.length c_16]⟩] [Ow 2 Kd.u8 A_15 c_16 f_14] [.code c48_34, .inLoop c48_34, .inBlock 2, .code c48_44] (pack_Writer_Num.l1 n x_5 k f_14 i_17) := by
  intro k
  induction k with
  | zero => intros; rw [pack_Writer_Num.l1.eq_1]; exact GoO.stop
  | succ k ih1 =>
    intro f_14 i_17 A_15 c_16
    rw [pack_Writer_Num.l1.eq_2]
    refine GoO.seq' c48_34e ?_
    refine GoO.seq' c48_35e ?_
    refine GoO.region' (is := [0, 1]) c48_36e (by kernel_rfl) ?_
    refine GoO.exec (is := [0, 1]) (hs := [.p, .p]) (rest := []) (ks := [0, 1, 7, 31]) (env' := [(0, .pointer (some ⟨b_2, 0, none⟩)), (1, .int .u64 x_5), (7, .int .i64 i_17), (31, .bool (decide (i_17 ≥ 0)))]) (H' := [⟨1, b_2, [.slice A_15 f_14.length c_16]⟩]) (ps := []) (by kernel_rfl) trivial ?_
    refine GoO.regionEnd ?_
    refine GoO.ite' c48_37e (by kernel_rfl) (fun h18 => ?_) (fun h18 => ?_)
    · refine GoO.skip' c48_38e ?_
      refine GoO.seq' c48_40e ?_
      refine GoO.block' c48_41e ?_
      refine GoO.draw c48_42e (by kernel_rfl) [12, 13, 14] [⟨1, b_2, [.slice A_15 f_14.length c_16]⟩] [] (n := 15) (by kernel_rfl) ?_
      simp only [List.replicate]
      refine GoF.guard (fun h19 => ?_)
      refine GoF.take [0, 1, 2, 3, 4, 5, 6, 7, 8, 9] [.p, .p, .p, .p, .b 0, .p, .p, .p, .p, .p] (ks := [0, 1, 7, 34, 38, 43]) (fu := 5) (li := [true, true, true, true, true, true, true, true, true, true, false, false, false, false, false]) (env' := [(0, .pointer (some ⟨b_2, 0, none⟩)), (1, .int .u64 x_5), (7, .int .i64 i_17), (34, .pointer (some ⟨b_2, 0, none⟩)), (38, .slice A_15 f_14.length c_16), (43, .int .u8 (wu8 (shR .u64 x_5 (wi64 (8 * i_17)))))]) (ps := [b_2 = b_2, (0 : Int) ≤ (wi64 (8 * i_17))]) (hk := [0]) (bk := []) (by kernel_rfl) (And.intro rfl (And.intro h19 trivial)) rfl rfl ?_
      refine OpTo.goF (i := 10) (by kernel_rfl) (hk := [0]) (bk := []) (GoO.lit (e := 5) (K := Kd.u8) rfl (by kernel_rfl) (by kernel_rfl) (cs := [.int .u8 (wu8 (shR .u64 x_5 (wi64 (8 * i_17))))]) (by kernel_rfl) [u8of (shR .u64 x_5 (wi64 (8 * i_17)))] (by kernel_rfl) (by kernel_rfl) (fun w S hB => ⟨[.int .u8 (wu8 (shR .u64 x_5 (wi64 (8 * i_17))))], _, rfl, (congrArg (fun v => [v]) (u8cell _)), rfl⟩) 41 _ (fun _ _ => rfl) (fun A_20 c_21 => ⟨rfl, rfl, ?_⟩))
      refine GoF.guard (fun h22 => ?_)
      refine OpTo.goF (i := 11) (by kernel_rfl) (hk := [0]) (bk := []) (GoO.appW (e := 5) (K := Kd.u8) (A := A_15) (c := c_16) (tg := 2) (bytes := 1) (zs := [.int .u8 0]) (xs := f_14) (ys := [u8of (shR .u64 x_5 (wi64 (8 * i_17)))]) (xv := .slice A_20 [u8of (shR .u64 x_5 (wi64 (8 * i_17)))].length c_21) (j := 1) (bk := [0]) rfl (by kernel_rfl) (by kernel_rfl) (by kernel_rfl) (by kernel_rfl) rfl (by kernel_rfl) rfl (fun w S hB => SrcIs.row (Reads.own w S (hB _ (List.mem_of_getElem? (i := 0) rfl)))) h22 rfl rfl rfl rfl _ (fun _ _ => rfl) (fun A_23 c_24 => ⟨rfl, rfl, ?_⟩))
      refine GoF.fin1 (i := 12) (hint := .p) (ps := []) (hk := []) (bk := []) (by kernel_rfl) rfl trivial (.inl rfl) ?_
      refine GoF.fin1 (i := 13) (hint := .p) (ps := []) (hk := []) (bk := []) (by kernel_rfl) rfl trivial (.inl rfl) ?_
      refine GoF.fin1 (i := 14) (hint := .b 0) (ps := [b_2 = b_2]) (hk := []) (bk := []) (by kernel_rfl) rfl (And.intro rfl trivial) (.inl rfl) ?_
      refine GoF.done (by kernel_rfl) ?_
      refine GoO.inBlock ?_
      refine GoO.region' (is := [0, 1, 2]) c48_43e (by kernel_rfl) ?_
      refine GoO.exec (is := [0, 1, 2]) (hs := [.p, .p, .p]) (rest := []) (ks := [0, 1, 7]) (env' := [(0, .pointer (some ⟨b_2, 0, none⟩)), (1, .int .u64 x_5), (7, .int .i64 (wi64 (i_17 - 1)))]) (H' := [⟨1, b_2, [.slice A_23 (f_14 ++ [u8of (shR .u64 x_5 (wi64 (8 * i_17)))]).length c_24]⟩]) (ps := []) (by kernel_rfl) trivial ?_
      refine GoO.regionEnd ?_
      refine GoO.inLoop ?_
      exact GoO.sub (ks := [0, 1, 7]) (hk := [0]) (bk := [0]) (by kernel_rfl) (by kernel_rfl) (by kernel_rfl) (ih1 (f_14 ++ [u8of (shR .u64 x_5 (wi64 (8 * i_17)))]) (wi64 (i_17 - 1)) A_23 c_24)
    · refine GoO.exit' c48_39e rfl ?_
      refine GoO.seq' c48_44e ?_
      refine GoO.region' (is := [0, 1]) c48_45e (by kernel_rfl) ?_
      refine GoO.exec (is := [0, 1]) (hs := [.p, .p]) (rest := []) (ks := [4]) (env' := [(4, .pointer (some ⟨b_2, 0, none⟩))]) (H' := [⟨1, b_2, [.slice A_15 f_14.length c_16]⟩]) (ps := []) (by kernel_rfl) trivial ?_
      refine GoO.regionEnd ?_
      exact GoO.ret' (h := c48_46e) (hs := []) (ps := []) (hk := [0]) (bk := [0]) Try.func48 (⟨A_15, c_16⟩ : Option Addr × Nat) (by kernel_rfl) trivial (by kernel_rfl) (by kernel_rfl)
theorem pack_Writer_Num_l0_ok (n : Nat) (w_1 : T_pack_Writer) (x_5 : Int) (b_2 : Nat) (A_3 : Option Addr) (c_4 : Nat) (w0 : World) (S0 : Fam) :
    ∀ (k : Nat) (n_6 : Int) (y_7 : Int), GoO (pack_Writer_Num.cx b_2 A_3 c_4 w0 S0) [(0, .pointer (some ⟨b_2, 0, none⟩)), (1, .int .u64 x_5), (5, .int .i64 n_6), (6, .int .u64 y_7)] [⟨1, b_2, [.slice A_3 w_1.b.length c_4]⟩] [Ow 2 Kd.u8 A_3 c_4 w_1.b] [.code c48_17, .inLoop c48_17, .inBlock 0, .code c48_27] (pack_Writer_Num.l0 n w_1 x_5 k n_6 y_7) := by
  intro k
  induction k with
  | zero => intros; rw [pack_Writer_Num.l0.eq_1]; exact GoO.stop
  | succ k ih0 =>
    intro n_6 y_7
    rw [pack_Writer_Num.l0.eq_2]
    refine GoO.seq' c48_17e ?_
    refine GoO.seq' c48_18e ?_
    refine GoO.region' (is := [0, 1]) c48_19e (by kernel_rfl) ?_
    refine GoO.exec (is := [0, 1]) (hs := [.p, .p]) (rest := []) (ks := [0, 1, 5, 6, 12]) (env' := [(0, .pointer (some ⟨b_2, 0, none⟩)), (1, .int .u64 x_5), (5, .int .i64 n_6), (6, .int .u64 y_7), (12, .bool (decide (y_7 > 0)))]) (H' := [⟨1, b_2, [.slice A_3 w_1.b.length c_4]⟩]) (ps := []) (by kernel_rfl) trivial ?_
    refine GoO.regionEnd ?_
    refine GoO.ite' c48_20e (by kernel_rfl) (fun h8 => ?_) (fun h8 => ?_)
    · refine GoO.skip' c48_21e ?_
      refine GoO.seq' c48_23e ?_
      refine GoO.block' c48_24e ?_
      refine GoO.region' (is := [0, 1, 2]) c48_25e (by kernel_rfl) ?_
      refine GoO.exec (is := [0, 1, 2]) (hs := [.p, .p, .p]) (rest := []) (ks := [0, 1, 5, 6]) (env' := [(0, .pointer (some ⟨b_2, 0, none⟩)), (1, .int .u64 x_5), (5, .int .i64 (wi64 (n_6 + 1))), (6, .int .u64 y_7)]) (H' := [⟨1, b_2, [.slice A_3 w_1.b.length c_4]⟩]) (ps := []) (by kernel_rfl) trivial ?_
      refine GoO.regionEnd ?_
      refine GoO.inBlock ?_
      refine GoO.region' (is := [0, 1, 2]) c48_26e (by kernel_rfl) ?_
      refine GoO.exec (is := [0, 1, 2]) (hs := [.p, .p, .p]) (rest := []) (ks := [0, 1, 5, 6]) (env' := [(0, .pointer (some ⟨b_2, 0, none⟩)), (1, .int .u64 x_5), (5, .int .i64 (wi64 (n_6 + 1))), (6, .int .u64 (shR .u64 y_7 8))]) (H' := [⟨1, b_2, [.slice A_3 w_1.b.length c_4]⟩]) (ps := [(0 : Int) ≤ 8]) (by kernel_rfl) (And.intro (by decide) trivial) ?_
      refine GoO.regionEnd ?_
      refine GoO.inLoop ?_
      exact GoO.sub (ks := [0, 1, 5, 6]) (hk := [0]) (bk := [0]) (by kernel_rfl) (by kernel_rfl) (by kernel_rfl) (ih0 (wi64 (n_6 + 1)) (shR .u64 y_7 8))
    · refine GoO.exit' c48_22e rfl ?_
      refine GoO.seq' c48_27e ?_
      refine GoO.region' (is := [0, 1, 2, 3, 4, 5, 6, 7, 8, 9, 10, 11]) c48_28e (by kernel_rfl) ?_
      refine GoO.exec (is := [0, 1, 2, 3, 4, 5, 6]) (hs := [.p, .p, .p, .p, .b 0, .p, .p]) (rest := [7, 8, 9, 10, 11]) (ks := [0, 1, 5, 17, 21, 23]) (env' := [(0, .pointer (some ⟨b_2, 0, none⟩)), (1, .int .u64 x_5), (5, .int .i64 n_6), (17, .pointer (some ⟨b_2, 0, none⟩)), (21, .slice A_3 w_1.b.length c_4), (23, .int .u8 (wu8 n_6))]) (H' := [⟨1, b_2, [.slice A_3 w_1.b.length c_4]⟩]) (ps := [b_2 = b_2]) (by kernel_rfl) (And.intro rfl trivial) ?_
      refine OpTo.go (GoO.lit (e := 5) (K := Kd.u8) rfl (by kernel_rfl) (by kernel_rfl) (cs := [.int .u8 (wu8 n_6)]) (by kernel_rfl) [u8of n_6] (by kernel_rfl) (by kernel_rfl) (fun w S hB => ⟨[.int .u8 (wu8 n_6)], _, rfl, (congrArg (fun v => [v]) (u8cell _)), rfl⟩) 40 _ (fun _ _ => rfl) (fun A_9 c_10 => ?_))
      refine GoO.guard (fun h11 => ?_)
      refine OpTo.go (GoO.appW (e := 5) (K := Kd.u8) (A := A_3) (c := c_4) (tg := 2) (bytes := 1) (zs := [.int .u8 0]) (xs := w_1.b) (ys := [u8of n_6]) (xv := .slice A_9 [u8of n_6].length c_10) (j := 1) (bk := [0]) rfl (by kernel_rfl) (by kernel_rfl) (by kernel_rfl) (by kernel_rfl) rfl (by kernel_rfl) rfl (fun w S hB => SrcIs.row (Reads.own w S (hB _ (List.mem_of_getElem? (i := 0) rfl)))) h11 rfl rfl rfl rfl _ (fun _ _ => rfl) (fun A_12 c_13 => ?_))
      refine GoO.exec (is := [9, 10, 11]) (hs := [.p, .p, .b 0]) (rest := []) (ks := [0, 1, 5]) (env' := [(0, .pointer (some ⟨b_2, 0, none⟩)), (1, .int .u64 x_5), (5, .int .i64 n_6)]) (H' := [⟨1, b_2, [.slice A_12 (w_1.b ++ [u8of n_6]).length c_13]⟩]) (ps := [b_2 = b_2]) (by kernel_rfl) (And.intro rfl trivial) ?_
      refine GoO.regionEnd ?_
      refine GoO.seq' c48_29e ?_
      refine GoO.seq' c48_30e ?_
      refine GoO.region' (is := [0, 1, 2]) c48_31e (by kernel_rfl) ?_
      refine GoO.exec (is := [0, 1, 2]) (hs := [.p, .p, .p]) (rest := []) (ks := [0, 1, 7]) (env' := [(0, .pointer (some ⟨b_2, 0, none⟩)), (1, .int .u64 x_5), (7, .int .i64 (wi64 (n_6 - 1)))]) (H' := [⟨1, b_2, [.slice A_12 (w_1.b ++ [u8of n_6]).length c_13]⟩]) (ps := []) (by kernel_rfl) trivial ?_
      refine GoO.regionEnd ?_
      refine GoO.block' c48_32e ?_
      refine GoO.loop' c48_33e ?_
      exact GoO.sub (ks := [0, 1, 7]) (hk := [0]) (bk := [0]) (by kernel_rfl) (by kernel_rfl) (by kernel_rfl) (pack_Writer_Num_l1_ok n x_5 b_2 A_3 c_4 w0 S0 n (w_1.b ++ [u8of n_6]) (wi64 (n_6 - 1)) A_12 c_13)
theorem pack_Writer_Num_ok (n : Nat) (w_1 : T_pack_Writer) (x_5 : Int) (b_2 : Nat) (A_3 : Option Addr) (c_4 : Nat) :
    Meets Try.prog 48 [.pointer (some ⟨b_2, 0, none⟩), .int .u64 x_5] 2 [1, 2] [⟨1, b_2, [.slice A_3 w_1.b.length c_4]⟩] [Ow 2 Kd.u8 A_3 c_4 w_1.b] (pack_Writer_Num.f n w_1 x_5) (pack_Writer_Num.R b_2 A_3 c_4) := by
  refine Meets.of (c := c48_0) (n := 49) Try.func48 (by kernel_rfl) (by kernel_rfl) (by kernel_rfl) fun w0 S0 => ?_
  unfold pack_Writer_Num.f
  show GoO (pack_Writer_Num.cx b_2 A_3 c_4 w0 S0) [(0, .pointer (some ⟨b_2, 0, none⟩)), (1, .int .u64 x_5)] [⟨1, b_2, [.slice A_3 w_1.b.length c_4]⟩] [Ow 2 Kd.u8 A_3 c_4 w_1.b] [.code c48_0] _
  refine GoO.seq' c48_0e ?_
  refine GoO.region' (is := [0]) c48_1e (by kernel_rfl) ?_
  refine GoO.exec (is := [0]) (hs := [.p]) (rest := []) (ks := [0, 1]) (env' := [(0, .pointer (some ⟨b_2, 0, none⟩)), (1, .int .u64 x_5)]) (H' := [⟨1, b_2, [.slice A_3 w_1.b.length c_4]⟩]) (ps := []) (by kernel_rfl) trivial ?_
  refine GoO.regionEnd ?_
  refine GoO.seq' c48_2e ?_
  refine GoO.seq' c48_3e ?_
  refine GoO.region' (is := [0, 1]) c48_4e (by kernel_rfl) ?_
  refine GoO.exec (is := [0, 1]) (hs := [.p, .p]) (rest := []) (ks := [0, 1, 9]) (env' := [(0, .pointer (some ⟨b_2, 0, none⟩)), (1, .int .u64 x_5), (9, .bool false)]) (H' := [⟨1, b_2, [.slice A_3 w_1.b.length c_4]⟩]) (ps := []) (by kernel_rfl) trivial ?_
  refine GoO.regionEnd ?_
  refine GoO.condF c48_5e (by kernel_rfl) ?_
  refine GoO.skip' c48_9e ?_
  refine GoO.seq' c48_10e ?_
  refine GoO.region' (is := [0]) c48_11e (by kernel_rfl) ?_
  refine GoO.exec (is := [0]) (hs := [.p]) (rest := []) (ks := [0, 1, 5]) (env' := [(0, .pointer (some ⟨b_2, 0, none⟩)), (1, .int .u64 x_5), (5, .int .i64 0)]) (H' := [⟨1, b_2, [.slice A_3 w_1.b.length c_4]⟩]) (ps := []) (by kernel_rfl) trivial ?_
  refine GoO.regionEnd ?_
  refine GoO.seq' c48_12e ?_
  refine GoO.seq' c48_13e ?_
  refine GoO.region' (is := [0, 1]) c48_14e (by kernel_rfl) ?_
  refine GoO.exec (is := [0, 1]) (hs := [.p, .p]) (rest := []) (ks := [0, 1, 5, 6]) (env' := [(0, .pointer (some ⟨b_2, 0, none⟩)), (1, .int .u64 x_5), (5, .int .i64 0), (6, .int .u64 x_5)]) (H' := [⟨1, b_2, [.slice A_3 w_1.b.length c_4]⟩]) (ps := []) (by kernel_rfl) trivial ?_
  refine GoO.regionEnd ?_
  refine GoO.block' c48_15e ?_
  refine GoO.loop' c48_16e ?_
  exact GoO.sub (ks := [0, 1, 5, 6]) (hk := [0]) (bk := [0]) (by kernel_rfl) (by kernel_rfl) (by kernel_rfl) (pack_Writer_Num_l0_ok n w_1 x_5 b_2 A_3 c_4 w0 S0 n 0 x_5)

/-! (*tontine/pack.Writer).Text -/
noncomputable def c66_0 : Code := bodyOf Try.f66
noncomputable def c66_1 : Code := cdL c66_0
noncomputable def c66_2 : Code := cdR c66_0
noncomputable def c66_3 : Code := cdL c66_2
noncomputable def c66_4 : Code := cdL c66_3
noncomputable def c66_5 : Code := cdR c66_3
noncomputable def c66_9 : Code := cdR c66_5
noncomputable def c66_10 : Code := cdR c66_2
noncomputable def c66_11 : Code := cdL c66_10
noncomputable def c66_12 : Code := cdR c66_10
noncomputable def c66_13 : Code := cdL c66_12
noncomputable def c66_14 : Code := cdR c66_12
noncomputable def c66_15 : Code := cdL c66_14
noncomputable def c66_16 : Code := cdR c66_14
noncomputable def c66_6 : Code := cdL c66_5
noncomputable def r66_1 : Array Oper := cdO c66_1
noncomputable def r66_4 : Array Oper := cdO c66_4
noncomputable def r66_11 : Array Oper := cdO c66_11
noncomputable def r66_13 : Array Oper := cdO c66_13
noncomputable def r66_15 : Array Oper := cdO c66_15
theorem c66_0e : c66_0 = .seq c66_1 c66_2 := by kernel_rfl
theorem c66_1e : c66_1 = .region 0 r66_1 false := by kernel_rfl
theorem c66_2e : c66_2 = .seq c66_3 c66_10 := by kernel_rfl
theorem c66_3e : c66_3 = .seq c66_4 c66_5 := by kernel_rfl
theorem c66_4e : c66_4 = .region 1 r66_4 false := by kernel_rfl
theorem c66_5e : c66_5 = .cond (cdC c66_5) c66_6 c66_9 := by kernel_rfl
theorem c66_9e : c66_9 = .skip := by kernel_rfl
theorem c66_10e : c66_10 = .seq c66_11 c66_12 := by kernel_rfl
theorem c66_11e : c66_11 = .region 3 r66_11 false := by kernel_rfl
theorem c66_12e : c66_12 = .seq c66_13 c66_14 := by kernel_rfl
theorem c66_13e : c66_13 = .region 4 r66_13 false := by kernel_rfl
theorem c66_14e : c66_14 = .seq c66_15 c66_16 := by kernel_rfl
theorem c66_15e : c66_15 = .region 5 r66_15 false := by kernel_rfl
theorem c66_16e : c66_16 = .ret := by kernel_rfl
noncomputable def pack_Writer_Text.R (b_2 : Nat) (A_3 : Option Addr) (c_4 : Nat) : Pst T_pack_Writer where
  ε := Option Addr × Nat
  v := fun r x => .pointer (some ⟨b_2, 0, none⟩)
  H := fun r x => [⟨1, b_2, [.slice x.1 r.b.length x.2]⟩]
  B := fun r x => [Ow 2 Kd.u8 x.1 x.2 r.b]
noncomputable def pack_Writer_Text.cx (b_2 : Nat) (A_3 : Option Addr) (c_4 : Nat) (w0 : World) (S0 : Fam) : Cx T_pack_Writer := ⟨Try.prog, 66, Try.f66, 22, w0, S0, [1, 2], 2, pack_Writer_Text.R b_2 A_3 c_4⟩
theorem pack_Writer_Text_ok (n : Nat) (w_1 : T_pack_Writer) (s_5 : (List UInt8)) (b_2 : Nat) (A_3 : Option Addr) (c_4 : Nat) :
    Meets Try.prog 66 [.pointer (some ⟨b_2, 0, none⟩), .string (bs s_5)] 2 [1, 2] [⟨1, b_2, [.slice A_3 w_1.b.length c_4]⟩] [Ow 2 Kd.u8 A_3 c_4 w_1.b] (pack_Writer_Text.f n w_1 s_5) (pack_Writer_Text.R b_2 A_3 c_4) := by
  refine Meets.of (c := c66_0) (n := 22) Try.func66 (by kernel_rfl) (by kernel_rfl) (by kernel_rfl) fun w0 S0 => ?_
  unfold pack_Writer_Text.f
  show GoO (pack_Writer_Text.cx b_2 A_3 c_4 w0 S0) [(0, .pointer (some ⟨b_2, 0, none⟩)), (1, .string (bs s_5))] [⟨1, b_2, [.slice A_3 w_1.b.length c_4]⟩] [Ow 2 Kd.u8 A_3 c_4 w_1.b] [.code c66_0] _
  refine GoO.seq' c66_0e ?_
  refine GoO.region' (is := [0]) c66_1e (by kernel_rfl) ?_
  refine GoO.exec (is := [0]) (hs := [.p]) (rest := []) (ks := [0, 1]) (env' := [(0, .pointer (some ⟨b_2, 0, none⟩)), (1, .string (bs s_5))]) (H' := [⟨1, b_2, [.slice A_3 w_1.b.length c_4]⟩]) (ps := []) (by kernel_rfl) trivial ?_
  refine GoO.regionEnd ?_
  refine GoO.seq' c66_2e ?_
  refine GoO.seq' c66_3e ?_
  refine GoO.region' (is := [0, 1]) c66_4e (by kernel_rfl) ?_
  refine GoO.exec (is := [0, 1]) (hs := [.p, .p]) (rest := []) (ks := [0, 1, 6]) (env' := [(0, .pointer (some ⟨b_2, 0, none⟩)), (1, .string (bs s_5)), (6, .bool false)]) (H' := [⟨1, b_2, [.slice A_3 w_1.b.length c_4]⟩]) (ps := []) (by kernel_rfl) trivial ?_
  refine GoO.regionEnd ?_
  refine GoO.condF c66_5e (by kernel_rfl) ?_
  refine GoO.skip' c66_9e ?_
  refine GoO.seq' c66_10e ?_
  refine GoO.region' (is := [0, 1, 2, 3, 4]) c66_11e (by kernel_rfl) ?_
  refine GoO.exec (is := [0, 1, 2, 3]) (hs := [.p, .p, .p, .p]) (rest := [4]) (ks := [0, 1, 7, 10]) (env' := [(0, .pointer (some ⟨b_2, 0, none⟩)), (1, .string (bs s_5)), (7, .pointer (some ⟨b_2, 0, none⟩)), (10, .int .u64 (wu64 (s_5.length : Int)))]) (H' := [⟨1, b_2, [.slice A_3 w_1.b.length c_4]⟩]) (ps := []) (by kernel_rfl) trivial ?_
  refine OpTo.go (GoO.call rfl (by kernel_rfl) (by kernel_rfl) (pack_Writer_Num_ok n w_1 (wu64 (s_5.length : Int)) b_2 A_3 c_4) [[0], [1], [2]] [(1, 1), (2, 2)] [(1, 0)] [(2, 0)] (hks := []) (bks := []) (by kernel_rfl) (by kernel_rfl) (by kernel_rfl) (.inl rfl) rfl rfl (by kernel_rfl) (by kernel_rfl) _ (fun _ _ => rfl) _ _ (fun _ _ => rfl) (fun _ _ => rfl) (fun _ _ => by kernel_rfl) (fun _ _ => by kernel_rfl) (fun r_6 x_12 => ?_))
  obtain ⟨A_7, c_8⟩ := x_12
  refine GoO.shape (env' := [(0, .pointer (some ⟨b_2, 0, none⟩)), (1, .string (bs s_5)), (7, .pointer (some ⟨b_2, 0, none⟩)), (10, .int .u64 (wu64 (s_5.length : Int))), (11, .pointer (some ⟨b_2, 0, none⟩))]) (H' := [⟨1, b_2, [.slice A_7 r_6.b.length c_8]⟩]) (B' := [Ow 2 Kd.u8 A_7 c_8 r_6.b]) (ks := [0, 1, 7, 10, 11]) (by kernel_rfl) (by kernel_rfl) (by kernel_rfl) ?_
  refine GoO.regionEnd ?_
  refine GoO.seq' c66_12e ?_
  refine GoO.region' (is := [0, 1, 2, 3, 4, 5, 6, 7, 8, 9]) c66_13e (by kernel_rfl) ?_
  refine GoO.exec (is := [0, 1, 2, 3, 4, 5]) (hs := [.p, .p, .p, .p, .b 0, .p]) (rest := [6, 7, 8, 9]) (ks := [0, 12, 16, 17]) (env' := [(0, .pointer (some ⟨b_2, 0, none⟩)), (12, .pointer (some ⟨b_2, 0, none⟩)), (16, .slice A_7 r_6.b.length c_8), (17, .string (bs s_5))]) (H' := [⟨1, b_2, [.slice A_7 r_6.b.length c_8]⟩]) (ps := [b_2 = b_2]) (by kernel_rfl) (And.intro rfl trivial) ?_
  refine GoO.guard (fun h9 => ?_)
  refine OpTo.go (GoO.appW (e := 5) (K := Kd.u8) (A := A_7) (c := c_8) (tg := 2) (bytes := 1) (zs := [.int .u8 0]) (xs := r_6.b) (ys := s_5) (xv := .string (bs s_5)) (j := 0) (bk := []) rfl (by kernel_rfl) (by kernel_rfl) (by kernel_rfl) (by kernel_rfl) rfl (by kernel_rfl) rfl (fun _ _ _ => SrcIs.str _) h9 rfl rfl rfl rfl _ (fun _ _ => rfl) (fun A_10 c_11 => ?_))
  refine GoO.exec (is := [7, 8, 9]) (hs := [.p, .p, .b 0]) (rest := []) (ks := [0]) (env' := [(0, .pointer (some ⟨b_2, 0, none⟩))]) (H' := [⟨1, b_2, [.slice A_10 (r_6.b ++ s_5).length c_11]⟩]) (ps := [b_2 = b_2]) (by kernel_rfl) (And.intro rfl trivial) ?_
  refine GoO.regionEnd ?_
  refine GoO.seq' c66_14e ?_
  refine GoO.region' (is := [0, 1]) c66_15e (by kernel_rfl) ?_
  refine GoO.exec (is := [0, 1]) (hs := [.p, .p]) (rest := []) (ks := [4]) (env' := [(4, .pointer (some ⟨b_2, 0, none⟩))]) (H' := [⟨1, b_2, [.slice A_10 (r_6.b ++ s_5).length c_11]⟩]) (ps := []) (by kernel_rfl) trivial ?_
  refine GoO.regionEnd ?_
  exact GoO.ret' (h := c66_16e) (hs := []) (ps := []) (hk := [0]) (bk := [0]) Try.func66 (⟨A_10, c_11⟩ : Option Addr × Nat) (by kernel_rfl) trivial (by kernel_rfl) (by kernel_rfl)

/-! tontine/plan.Write -/
noncomputable def c49_0 : Code := bodyOf Try.f49
noncomputable def c49_1 : Code := cdL c49_0
noncomputable def c49_2 : Code := cdR c49_0
noncomputable def c49_3 : Code := cdL c49_2
noncomputable def c49_4 : Code := cdR c49_2
noncomputable def c49_5 : Code := cdL c49_4
noncomputable def c49_6 : Code := cdL c49_5
noncomputable def c49_7 : Code := cdL c49_6
noncomputable def c49_8 : Code := cdR c49_6
noncomputable def c49_9 : Code := cdL c49_8
noncomputable def c49_10 : Code := cdL c49_9
noncomputable def c49_11 : Code := cdR c49_9
noncomputable def c49_12 : Code := cdR c49_8
noncomputable def c49_13 : Code := cdL c49_12
noncomputable def c49_14 : Code := cdL c49_13
noncomputable def c49_15 : Code := cdL c49_14
noncomputable def c49_16 : Code := cdR c49_14
noncomputable def c49_17 : Code := cdR c49_12
noncomputable def r49_1 : Array Oper := cdO c49_1
noncomputable def r49_3 : Array Oper := cdO c49_3
noncomputable def r49_7 : Array Oper := cdO c49_7
noncomputable def r49_15 : Array Oper := cdO c49_15
noncomputable def r49_16 : Array Oper := cdO c49_16
noncomputable def r49_17 : Array Oper := cdO c49_17
theorem c49_0e : c49_0 = .seq c49_1 c49_2 := by kernel_rfl
theorem c49_1e : c49_1 = .region 0 r49_1 false := by kernel_rfl
theorem c49_2e : c49_2 = .seq c49_3 c49_4 := by kernel_rfl
theorem c49_3e : c49_3 = .region 1 r49_3 false := by kernel_rfl
theorem c49_4e : c49_4 = .block 0 c49_5 := by kernel_rfl
theorem c49_5e : c49_5 = .loop c49_6 := by kernel_rfl
theorem c49_6e : c49_6 = .seq c49_7 c49_8 := by kernel_rfl
theorem c49_7e : c49_7 = .region 2 r49_7 false := by kernel_rfl
theorem c49_8e : c49_8 = .seq c49_9 c49_12 := by kernel_rfl
theorem c49_9e : c49_9 = .cond (cdC c49_9) c49_10 c49_11 := by kernel_rfl
theorem c49_10e : c49_10 = .skip := by kernel_rfl
theorem c49_11e : c49_11 = .exit 0 := by kernel_rfl
theorem c49_12e : c49_12 = .seq c49_13 c49_17 := by kernel_rfl
theorem c49_13e : c49_13 = .block 1 c49_14 := by kernel_rfl
theorem c49_14e : c49_14 = .seq c49_15 c49_16 := by kernel_rfl
theorem c49_15e : c49_15 = .region 3 r49_15 false := by kernel_rfl
theorem c49_16e : c49_16 = .region 4 r49_16 true := by kernel_rfl
theorem c49_17e : c49_17 = .region 5 r49_17 false := by kernel_rfl
noncomputable def plan_Write.R (b_2 : Nat) (A_3 : Option Addr) (c_4 : Nat) (A_6 : Option Addr) (c_7 : Nat) : Pst T_pack_Writer where
  ε := Option Addr × Nat
  v := fun r x => .tuple ⟨[]⟩
  H := fun r x => [⟨1, b_2, [.slice x.1 r.b.length x.2]⟩]
  B := fun r x => [Ow 2 Kd.u8 x.1 x.2 r.b]
noncomputable def plan_Write.cx (b_2 : Nat) (A_3 : Option Addr) (c_4 : Nat) (A_6 : Option Addr) (c_7 : Nat) (w0 : World) (S0 : Fam) : Cx T_pack_Writer := ⟨Try.prog, 49, Try.f49, 30, w0, S0, [1, 2], 2, plan_Write.R b_2 A_3 c_4 A_6 c_7⟩
theorem plan_Write_l0_ok (n : Nat) (l_5 : (List T_api_Step)) (b_2 : Nat) (A_6 : Option Addr) (c_7 : Nat) (A_3 : Option Addr) (c_4 : Nat) (w0 : World) (S0 : Fam) :
    ∀ (k : Nat) (f_11 : (List UInt8)) (x_14 : Int) (A_12 : Option Addr) (c_13 : Nat), GoO (plan_Write.cx b_2 A_3 c_4 A_6 c_7 w0 S0) [(0, .pointer (some ⟨b_2, 0, none⟩)), (11, .slice A_6 l_5.length c_7), (12, .int .i64 (l_5.length : Int)), (13, .int .i64 x_14)] [⟨1, b_2, [.slice A_12 f_11.length c_13]⟩] [Ow 2 Kd.u8 A_12 c_13 f_11, Rd 0 kT_api_Step A_6 c_7 l_5] [.code c49_6, .inLoop c49_6, .inBlock 0] (plan_Write.l0 n l_5 k f_11 x_14) := by
  intro k
  induction k with
  | zero => intros; rw [plan_Write.l0.eq_1]; exact GoO.stop
  | succ k ih0 =>
    intro f_11 x_14 A_12 c_13
    rw [plan_Write.l0.eq_2]
    refine GoO.seq' c49_6e ?_
    refine GoO.region' (is := [0]) c49_7e (by kernel_rfl) ?_
    refine GoO.exec (is := [0]) (hs := [.p]) (rest := []) (ks := [0, 11, 12, 13, 14]) (env' := [(0, .pointer (some ⟨b_2, 0, none⟩)), (11, .slice A_6 l_5.length c_7), (12, .int .i64 (l_5.length : Int)), (13, .int .i64 x_14), (14, .bool (decide (x_14 < (l_5.length : Int))))]) (H' := [⟨1, b_2, [.slice A_12 f_11.length c_13]⟩]) (ps := []) (by kernel_rfl) trivial ?_
    refine GoO.regionEnd ?_
    refine GoO.seq' c49_8e ?_
    refine GoO.ite' c49_9e (by kernel_rfl) (fun h15 => ?_) (fun h15 => ?_)
    · refine GoO.skip' c49_10e ?_
      refine GoO.seq' c49_12e ?_
      refine GoO.block' c49_13e ?_
      refine GoO.seq' c49_14e ?_
      refine GoO.region' (is := [0, 1, 2, 3]) c49_15e (by kernel_rfl) ?_
      refine GoO.guard (fun h16 => ?_)
      refine OpTo.go (GoO.idx (kk := .i64) (e := 50) (K := kT_api_Step) (A := A_6) (c := c_7) (xs := l_5) (iv := x_14) (j := 1) rfl (by kernel_rfl) (by kernel_rfl) (by kernel_rfl) (by kernel_rfl) rfl Reads.rd rfl h16.1 h16.2 (by decide) rfl ?_)
      refine OpTo.go (GoO.ldE' (K := kT_api_Step) (A := A_6) (c := c_7) (xs := l_5) (iN := x_14.toNat) (off := 0) (j := 1) rfl (by kernel_rfl) rfl Reads.rd (idx_lt h16.1 h16.2) (by decide) (Opn.flat _ _ _ _ _) (v := fun _ => .agg ⟨[.int .i64 ((rdL l_5 x_14).Part), .string (bs ((rdL l_5 x_14).Name)), .int .i64 ((rdL l_5 x_14).Budget)]⟩) (fun _ => by kernel_rfl) _ (fun _ => rfl) (fun _ => ?_))
      refine OpTo.go (GoO.new rfl 40 (cs := [.int .i64 0, .string (bs []), .int .i64 0]) (by kernel_rfl) _ (fun _ => rfl) (fun b_17 => ?_))
      refine GoO.exec (is := [3]) (hs := [.b 0]) (rest := []) (ks := [0, 5, 11, 12, 13]) (env' := [(0, .pointer (some ⟨b_2, 0, none⟩)), (5, .pointer (some ⟨b_17, 0, none⟩)), (11, .slice A_6 l_5.length c_7), (12, .int .i64 (l_5.length : Int)), (13, .int .i64 x_14)]) (H' := [⟨40, b_17, [.int .i64 ((rdL l_5 x_14).Part), .string (bs ((rdL l_5 x_14).Name)), .int .i64 ((rdL l_5 x_14).Budget)]⟩, ⟨1, b_2, [.slice A_12 f_11.length c_13]⟩]) (ps := [b_17 = b_17]) (by kernel_rfl) (And.intro rfl trivial) ?_
      refine GoO.regionEnd ?_
      refine GoO.draw c49_16e (by kernel_rfl) [] [⟨40, b_17, [.int .i64 ((rdL l_5 x_14).Part), .string (bs ((rdL l_5 x_14).Name)), .int .i64 ((rdL l_5 x_14).Budget)]⟩] [] (n := 12) (by kernel_rfl) ?_
      simp only [List.replicate]
      refine GoF.take [0, 1, 2, 3, 5, 6, 8, 9, 10] [.p, .p, .b 0, .p, .p, .b 0, .p, .b 0, .p] (ks := [0, 11, 12, 13, 17, 20, 23, 27]) (fu := 3) (li := [true, true, true, true, false, true, true, false, true, true, true, false]) (env' := [(0, .pointer (some ⟨b_2, 0, none⟩)), (11, .slice A_6 l_5.length c_7), (12, .int .i64 (l_5.length : Int)), (13, .int .i64 x_14), (17, .pointer (some ⟨b_2, 0, none⟩)), (20, .int .u64 (wu64 ((rdL l_5 x_14).Part))), (23, .string (bs ((rdL l_5 x_14).Name))), (27, .int .u64 (wu64 ((rdL l_5 x_14).Budget)))]) (ps := [b_17 = b_17, b_17 = b_17, b_17 = b_17]) (hk := [0]) (bk := []) (by kernel_rfl) (And.intro rfl (And.intro rfl (And.intro rfl trivial))) rfl rfl ?_
      refine OpTo.goF (i := 4) (by kernel_rfl) (hk := [1]) (bk := []) (GoO.call rfl (by kernel_rfl) (by kernel_rfl) (pack_Writer_Num_ok n (⟨f_11⟩ : T_pack_Writer) (wu64 ((rdL l_5 x_14).Part)) b_2 A_12 c_13) [[0], [1], [2]] [(1, 1), (2, 2)] [(1, 1)] [(2, 0)] (hks := [0]) (bks := [1]) (by kernel_rfl) (by kernel_rfl) (by kernel_rfl) (.inl rfl) rfl rfl (by kernel_rfl) (by kernel_rfl) _ (fun _ _ => rfl) _ _ (fun _ _ => rfl) (fun _ _ => rfl) (fun _ _ => by kernel_rfl) (fun _ _ => by kernel_rfl) (fun r_18 x_29 => ⟨rfl, rfl, ?_⟩))
      obtain ⟨A_19, c_20⟩ := x_29
      refine GoF.shape (env' := [(0, .pointer (some ⟨b_2, 0, none⟩)), (11, .slice A_6 l_5.length c_7), (12, .int .i64 (l_5.length : Int)), (13, .int .i64 x_14), (17, .pointer (some ⟨b_2, 0, none⟩)), (20, .int .u64 (wu64 ((rdL l_5 x_14).Part))), (21, .pointer (some ⟨b_2, 0, none⟩)), (23, .string (bs ((rdL l_5 x_14).Name))), (27, .int .u64 (wu64 ((rdL l_5 x_14).Budget)))]) (H' := [⟨1, b_2, [.slice A_19 r_18.b.length c_20]⟩, ⟨40, b_17, [.int .i64 ((rdL l_5 x_14).Part), .string (bs ((rdL l_5 x_14).Name)), .int .i64 ((rdL l_5 x_14).Budget)]⟩]) (B' := [Ow 2 Kd.u8 A_19 c_20 r_18.b, Rd 0 kT_api_Step A_6 c_7 l_5]) (ks := [0, 11, 12, 13, 17, 20, 21, 23, 27]) (by kernel_rfl) (by kernel_rfl) (by kernel_rfl) ?_
      refine OpTo.goF (i := 7) (by kernel_rfl) (hk := [1]) (bk := []) (GoO.call rfl (by kernel_rfl) (by kernel_rfl) (pack_Writer_Text_ok n r_18 ((rdL l_5 x_14).Name) b_2 A_19 c_20) [[0], [1], [2]] [(1, 1), (2, 2)] [(1, 0)] [(2, 0)] (hks := [1]) (bks := [1]) (by kernel_rfl) (by kernel_rfl) (by kernel_rfl) (.inl rfl) rfl rfl (by kernel_rfl) (by kernel_rfl) _ (fun _ _ => rfl) _ _ (fun _ _ => rfl) (fun _ _ => rfl) (fun _ _ => by kernel_rfl) (fun _ _ => by kernel_rfl) (fun r_21 x_28 => ⟨rfl, rfl, ?_⟩))
      obtain ⟨A_22, c_23⟩ := x_28
      refine GoF.shape (env' := [(0, .pointer (some ⟨b_2, 0, none⟩)), (11, .slice A_6 l_5.length c_7), (12, .int .i64 (l_5.length : Int)), (13, .int .i64 x_14), (17, .pointer (some ⟨b_2, 0, none⟩)), (20, .int .u64 (wu64 ((rdL l_5 x_14).Part))), (21, .pointer (some ⟨b_2, 0, none⟩)), (23, .string (bs ((rdL l_5 x_14).Name))), (24, .pointer (some ⟨b_2, 0, none⟩)), (27, .int .u64 (wu64 ((rdL l_5 x_14).Budget)))]) (H' := [⟨1, b_2, [.slice A_22 r_21.b.length c_23]⟩, ⟨40, b_17, [.int .i64 ((rdL l_5 x_14).Part), .string (bs ((rdL l_5 x_14).Name)), .int .i64 ((rdL l_5 x_14).Budget)]⟩]) (B' := [Ow 2 Kd.u8 A_22 c_23 r_21.b, Rd 0 kT_api_Step A_6 c_7 l_5]) (ks := [0, 11, 12, 13, 17, 20, 21, 23, 24, 27]) (by kernel_rfl) (by kernel_rfl) (by kernel_rfl) ?_
      refine OpTo.goF (i := 11) (by kernel_rfl) (hk := [1]) (bk := []) (GoO.call rfl (by kernel_rfl) (by kernel_rfl) (pack_Writer_Num_ok n r_21 (wu64 ((rdL l_5 x_14).Budget)) b_2 A_22 c_23) [[0], [1], [2]] [(1, 1), (2, 2)] [(1, 0)] [(2, 0)] (hks := [1]) (bks := [1]) (by kernel_rfl) (by kernel_rfl) (by kernel_rfl) (.inl rfl) rfl rfl (by kernel_rfl) (by kernel_rfl) _ (fun _ _ => rfl) _ _ (fun _ _ => rfl) (fun _ _ => rfl) (fun _ _ => by kernel_rfl) (fun _ _ => by kernel_rfl) (fun r_24 x_27 => ⟨rfl, rfl, ?_⟩))
      obtain ⟨A_25, c_26⟩ := x_27
      refine GoF.shape (env' := [(0, .pointer (some ⟨b_2, 0, none⟩)), (11, .slice A_6 l_5.length c_7), (12, .int .i64 (l_5.length : Int)), (13, .int .i64 x_14), (17, .pointer (some ⟨b_2, 0, none⟩)), (20, .int .u64 (wu64 ((rdL l_5 x_14).Part))), (21, .pointer (some ⟨b_2, 0, none⟩)), (23, .string (bs ((rdL l_5 x_14).Name))), (24, .pointer (some ⟨b_2, 0, none⟩)), (27, .int .u64 (wu64 ((rdL l_5 x_14).Budget))), (28, .pointer (some ⟨b_2, 0, none⟩))]) (H' := [⟨1, b_2, [.slice A_25 r_24.b.length c_26]⟩, ⟨40, b_17, [.int .i64 ((rdL l_5 x_14).Part), .string (bs ((rdL l_5 x_14).Name)), .int .i64 ((rdL l_5 x_14).Budget)]⟩]) (B' := [Ow 2 Kd.u8 A_25 c_26 r_24.b, Rd 0 kT_api_Step A_6 c_7 l_5]) (ks := [0, 11, 12, 13, 17, 20, 21, 23, 24, 27, 28]) (by kernel_rfl) (by kernel_rfl) (by kernel_rfl) ?_
      refine GoF.done (by kernel_rfl) ?_
      refine GoO.inBlock ?_
      refine GoO.region' (is := [0, 1]) c49_17e (by kernel_rfl) ?_
      refine GoO.exec (is := [0, 1]) (hs := [.p, .p]) (rest := []) (ks := [0, 11, 12, 13]) (env' := [(0, .pointer (some ⟨b_2, 0, none⟩)), (11, .slice A_6 l_5.length c_7), (12, .int .i64 (l_5.length : Int)), (13, .int .i64 (wi64 (x_14 + 1)))]) (H' := [⟨1, b_2, [.slice A_25 r_24.b.length c_26]⟩, ⟨40, b_17, [.int .i64 ((rdL l_5 x_14).Part), .string (bs ((rdL l_5 x_14).Name)), .int .i64 ((rdL l_5 x_14).Budget)]⟩]) (ps := []) (by kernel_rfl) trivial ?_
      refine GoO.regionEnd ?_
      refine GoO.inLoop ?_
      exact GoO.sub (ks := [0, 11, 12, 13]) (hk := [0]) (bk := [0, 1]) (by kernel_rfl) (by kernel_rfl) (by kernel_rfl) (ih0 r_24.b (wi64 (x_14 + 1)) A_25 c_26)
    · refine GoO.exit' c49_11e rfl ?_
      exact GoO.fin (hs := []) (ps := []) (hk := [0]) (bk := [0]) Try.func49 (⟨A_12, c_13⟩ : Option Addr × Nat) (by kernel_rfl) trivial (by kernel_rfl) (by kernel_rfl)
theorem plan_Write_ok (n : Nat) (w_1 : T_pack_Writer) (l_5 : (List T_api_Step)) (b_2 : Nat) (A_3 : Option Addr) (c_4 : Nat) (A_6 : Option Addr) (c_7 : Nat) :
    Meets Try.prog 49 [.pointer (some ⟨b_2, 0, none⟩), .slice A_6 l_5.length c_7] 2 [1, 2] [⟨1, b_2, [.slice A_3 w_1.b.length c_4]⟩] [Ow 2 Kd.u8 A_3 c_4 w_1.b, Rd 0 kT_api_Step A_6 c_7 l_5] (plan_Write.f n w_1 l_5) (plan_Write.R b_2 A_3 c_4 A_6 c_7) := by
  refine Meets.of (c := c49_0) (n := 30) Try.func49 (by kernel_rfl) (by kernel_rfl) (by kernel_rfl) fun w0 S0 => ?_
  unfold plan_Write.f
  show GoO (plan_Write.cx b_2 A_3 c_4 A_6 c_7 w0 S0) [(0, .pointer (some ⟨b_2, 0, none⟩)), (1, .slice A_6 l_5.length c_7)] [⟨1, b_2, [.slice A_3 w_1.b.length c_4]⟩] [Ow 2 Kd.u8 A_3 c_4 w_1.b, Rd 0 kT_api_Step A_6 c_7 l_5] [.code c49_0] _
  refine GoO.seq' c49_0e ?_
  refine GoO.region' (is := [0, 1, 2, 3, 4]) c49_1e (by kernel_rfl) ?_
  refine GoO.exec (is := [0, 1, 2, 3]) (hs := [.p, .p, .p, .p]) (rest := [4]) (ks := [0, 1, 6, 9]) (env' := [(0, .pointer (some ⟨b_2, 0, none⟩)), (1, .slice A_6 l_5.length c_7), (6, .pointer (some ⟨b_2, 0, none⟩)), (9, .int .u64 (wu64 (l_5.length : Int)))]) (H' := [⟨1, b_2, [.slice A_3 w_1.b.length c_4]⟩]) (ps := []) (by kernel_rfl) trivial ?_
  refine OpTo.go (GoO.call rfl (by kernel_rfl) (by kernel_rfl) (pack_Writer_Num_ok n w_1 (wu64 (l_5.length : Int)) b_2 A_3 c_4) [[0], [1], [2]] [(1, 1), (2, 2)] [(1, 0)] [(2, 0)] (hks := []) (bks := [1]) (by kernel_rfl) (by kernel_rfl) (by kernel_rfl) (.inl rfl) rfl rfl (by kernel_rfl) (by kernel_rfl) _ (fun _ _ => rfl) _ _ (fun _ _ => rfl) (fun _ _ => rfl) (fun _ _ => by kernel_rfl) (fun _ _ => by kernel_rfl) (fun r_8 x_30 => ?_))
  obtain ⟨A_9, c_10⟩ := x_30
  refine GoO.shape (env' := [(0, .pointer (some ⟨b_2, 0, none⟩)), (1, .slice A_6 l_5.length c_7), (6, .pointer (some ⟨b_2, 0, none⟩)), (9, .int .u64 (wu64 (l_5.length : Int))), (10, .pointer (some ⟨b_2, 0, none⟩))]) (H' := [⟨1, b_2, [.slice A_9 r_8.b.length c_10]⟩]) (B' := [Ow 2 Kd.u8 A_9 c_10 r_8.b, Rd 0 kT_api_Step A_6 c_7 l_5]) (ks := [0, 1, 6, 9, 10]) (by kernel_rfl) (by kernel_rfl) (by kernel_rfl) ?_
  refine GoO.regionEnd ?_
  refine GoO.seq' c49_2e ?_
  refine GoO.region' (is := [0, 1, 2]) c49_3e (by kernel_rfl) ?_
  refine GoO.exec (is := [0, 1, 2]) (hs := [.p, .p, .p]) (rest := []) (ks := [0, 11, 12, 13]) (env' := [(0, .pointer (some ⟨b_2, 0, none⟩)), (11, .slice A_6 l_5.length c_7), (12, .int .i64 (l_5.length : Int)), (13, .int .i64 0)]) (H' := [⟨1, b_2, [.slice A_9 r_8.b.length c_10]⟩]) (ps := []) (by kernel_rfl) trivial ?_
  refine GoO.regionEnd ?_
  refine GoO.block' c49_4e ?_
  refine GoO.loop' c49_5e ?_
  exact GoO.sub (ks := [0, 11, 12, 13]) (hk := [0]) (bk := [0, 1]) (by kernel_rfl) (by kernel_rfl) (by kernel_rfl) (plan_Write_l0_ok n l_5 b_2 A_6 c_7 A_3 c_4 w0 S0 n r_8.b 0 A_9 c_10)

/-! tontine/saga.Write -/
noncomputable def c39_0 : Code := bodyOf Try.f39
noncomputable def c39_1 : Code := cdL c39_0
noncomputable def c39_2 : Code := cdR c39_0
noncomputable def c39_3 : Code := cdL c39_2
noncomputable def c39_4 : Code := cdR c39_2
noncomputable def r39_1 : Array Oper := cdO c39_1
noncomputable def r39_3 : Array Oper := cdO c39_3
noncomputable def r39_4 : Array Oper := cdO c39_4
theorem c39_0e : c39_0 = .seq c39_1 c39_2 := by kernel_rfl
theorem c39_1e : c39_1 = .region 0 r39_1 false := by kernel_rfl
theorem c39_2e : c39_2 = .seq c39_3 c39_4 := by kernel_rfl
theorem c39_3e : c39_3 = .region 1 r39_3 false := by kernel_rfl
theorem c39_4e : c39_4 = .region 2 r39_4 true := by kernel_rfl
noncomputable def saga_Write.R (b_2 : Nat) (A_3 : Option Addr) (c_4 : Nat) (A_6 : Option Addr) (c_7 : Nat) : Pst T_pack_Writer where
  ε := Option Addr × Nat
  v := fun r x => .tuple ⟨[]⟩
  H := fun r x => [⟨1, b_2, [.slice x.1 r.b.length x.2]⟩]
  B := fun r x => [Ow 2 Kd.u8 x.1 x.2 r.b]
noncomputable def saga_Write.cx (b_2 : Nat) (A_3 : Option Addr) (c_4 : Nat) (A_6 : Option Addr) (c_7 : Nat) (w0 : World) (S0 : Fam) : Cx T_pack_Writer := ⟨Try.prog, 39, Try.f39, 21, w0, S0, [1, 2], 2, saga_Write.R b_2 A_3 c_4 A_6 c_7⟩
theorem saga_Write_ok (n : Nat) (w_1 : T_pack_Writer) (s_5 : T_api_Saga) (b_2 : Nat) (A_3 : Option Addr) (c_4 : Nat) (A_6 : Option Addr) (c_7 : Nat) :
    Meets Try.prog 39 [.pointer (some ⟨b_2, 0, none⟩), .agg ⟨[.slice A_6 s_5.Steps.length c_7, .int .i64 s_5.State, .int .i64 s_5.Cursor, .int .i64 s_5.Failed]⟩] 2 [1, 2] [⟨1, b_2, [.slice A_3 w_1.b.length c_4]⟩] [Ow 2 Kd.u8 A_3 c_4 w_1.b, Rd 0 kT_api_Step A_6 c_7 s_5.Steps] (saga_Write.f n w_1 s_5) (saga_Write.R b_2 A_3 c_4 A_6 c_7) := by
  refine Meets.of (c := c39_0) (n := 21) Try.func39 (by kernel_rfl) (by kernel_rfl) (by kernel_rfl) fun w0 S0 => ?_
  unfold saga_Write.f
  show GoO (saga_Write.cx b_2 A_3 c_4 A_6 c_7 w0 S0) [(0, .pointer (some ⟨b_2, 0, none⟩)), (1, .agg ⟨[.slice A_6 s_5.Steps.length c_7, .int .i64 s_5.State, .int .i64 s_5.Cursor, .int .i64 s_5.Failed]⟩)] [⟨1, b_2, [.slice A_3 w_1.b.length c_4]⟩] [Ow 2 Kd.u8 A_3 c_4 w_1.b, Rd 0 kT_api_Step A_6 c_7 s_5.Steps] [.code c39_0] _
  refine GoO.seq' c39_0e ?_
  refine GoO.region' (is := [0]) c39_1e (by kernel_rfl) ?_
  refine OpTo.go (GoO.new rfl 40 (cs := [.slice A_6 s_5.Steps.length c_7, .int .i64 s_5.State, .int .i64 s_5.Cursor, .int .i64 s_5.Failed]) (by kernel_rfl) _ (fun _ => rfl) (fun b_8 => ?_))
  refine GoO.regionEnd ?_
  refine GoO.seq' c39_2e ?_
  refine GoO.region' (is := [0, 1, 2, 3]) c39_3e (by kernel_rfl) ?_
  refine GoO.exec (is := [0, 1, 2]) (hs := [.p, .p, .b 0]) (rest := [3]) (ks := [0, 3, 4, 6]) (env' := [(0, .pointer (some ⟨b_2, 0, none⟩)), (3, .pointer (some ⟨b_8, 0, none⟩)), (4, .pointer (some ⟨b_2, 0, none⟩)), (6, .slice A_6 s_5.Steps.length c_7)]) (H' := [⟨40, b_8, [.slice A_6 s_5.Steps.length c_7, .int .i64 s_5.State, .int .i64 s_5.Cursor, .int .i64 s_5.Failed]⟩, ⟨1, b_2, [.slice A_3 w_1.b.length c_4]⟩]) (ps := [b_8 = b_8]) (by kernel_rfl) (And.intro rfl trivial) ?_
  refine OpTo.go (GoO.call rfl (by kernel_rfl) (by kernel_rfl) (plan_Write_ok n w_1 s_5.Steps b_2 A_3 c_4 A_6 c_7) [[0], [1], [2]] [(1, 1), (2, 2)] [(1, 1)] [(2, 0), (0, 1)] (hks := [0]) (bks := [1]) (by kernel_rfl) (by kernel_rfl) (by kernel_rfl) (.inl rfl) rfl rfl (by kernel_rfl) (by kernel_rfl) _ (fun _ _ => rfl) _ _ (fun _ _ => rfl) (fun _ _ => rfl) (fun _ _ => by kernel_rfl) (fun _ _ => by kernel_rfl) (fun r_9 x_24 => ?_))
  obtain ⟨A_10, c_11⟩ := x_24
  refine GoO.shape (env' := [(0, .pointer (some ⟨b_2, 0, none⟩)), (3, .pointer (some ⟨b_8, 0, none⟩)), (4, .pointer (some ⟨b_2, 0, none⟩)), (6, .slice A_6 s_5.Steps.length c_7), (7, .tuple ⟨[]⟩)]) (H' := [⟨1, b_2, [.slice A_10 r_9.b.length c_11]⟩, ⟨40, b_8, [.slice A_6 s_5.Steps.length c_7, .int .i64 s_5.State, .int .i64 s_5.Cursor, .int .i64 s_5.Failed]⟩]) (B' := [Ow 2 Kd.u8 A_10 c_11 r_9.b, Rd 0 kT_api_Step A_6 c_7 s_5.Steps]) (ks := [0, 3, 4, 6, 7]) (by kernel_rfl) (by kernel_rfl) (by kernel_rfl) ?_
  refine GoO.regionEnd ?_
  refine GoO.draw c39_4e (by kernel_rfl) [] [⟨40, b_8, [.slice A_6 s_5.Steps.length c_7, .int .i64 s_5.State, .int .i64 s_5.Cursor, .int .i64 s_5.Failed]⟩] [] (n := 13) (by kernel_rfl) ?_
  simp only [List.replicate]
  refine GoF.take [0, 1, 2, 3, 5, 6, 7, 9, 10, 11] [.p, .p, .b 0, .p, .p, .b 0, .p, .p, .b 0, .p] (ks := [8, 11, 15, 19]) (fu := 3) (li := [true, true, true, true, false, true, true, true, false, true, true, true, false]) (env' := [(8, .pointer (some ⟨b_2, 0, none⟩)), (11, .int .u64 (wu64 s_5.State)), (15, .int .u64 (wu64 s_5.Cursor)), (19, .int .u64 (wu64 s_5.Failed))]) (ps := [b_8 = b_8, b_8 = b_8, b_8 = b_8]) (hk := [1]) (bk := []) (by kernel_rfl) (And.intro rfl (And.intro rfl (And.intro rfl trivial))) rfl rfl ?_
  refine OpTo.goF (i := 4) (by kernel_rfl) (hk := [1]) (bk := []) (GoO.call rfl (by kernel_rfl) (by kernel_rfl) (pack_Writer_Num_ok n r_9 (wu64 s_5.State) b_2 A_10 c_11) [[0], [1], [2]] [(1, 1), (2, 2)] [(1, 0)] [(2, 0)] (hks := [1]) (bks := [1]) (by kernel_rfl) (by kernel_rfl) (by kernel_rfl) (.inl rfl) rfl rfl (by kernel_rfl) (by kernel_rfl) _ (fun _ _ => rfl) _ _ (fun _ _ => rfl) (fun _ _ => rfl) (fun _ _ => by kernel_rfl) (fun _ _ => by kernel_rfl) (fun r_12 x_23 => ⟨rfl, rfl, ?_⟩))
  obtain ⟨A_13, c_14⟩ := x_23
  refine GoF.shape (env' := [(8, .pointer (some ⟨b_2, 0, none⟩)), (11, .int .u64 (wu64 s_5.State)), (12, .pointer (some ⟨b_2, 0, none⟩)), (15, .int .u64 (wu64 s_5.Cursor)), (19, .int .u64 (wu64 s_5.Failed))]) (H' := [⟨1, b_2, [.slice A_13 r_12.b.length c_14]⟩, ⟨40, b_8, [.slice A_6 s_5.Steps.length c_7, .int .i64 s_5.State, .int .i64 s_5.Cursor, .int .i64 s_5.Failed]⟩]) (B' := [Ow 2 Kd.u8 A_13 c_14 r_12.b, Rd 0 kT_api_Step A_6 c_7 s_5.Steps]) (ks := [8, 11, 12, 15, 19]) (by kernel_rfl) (by kernel_rfl) (by kernel_rfl) ?_
  refine OpTo.goF (i := 8) (by kernel_rfl) (hk := [1]) (bk := []) (GoO.call rfl (by kernel_rfl) (by kernel_rfl) (pack_Writer_Num_ok n r_12 (wu64 s_5.Cursor) b_2 A_13 c_14) [[0], [1], [2]] [(1, 1), (2, 2)] [(1, 0)] [(2, 0)] (hks := [1]) (bks := [1]) (by kernel_rfl) (by kernel_rfl) (by kernel_rfl) (.inl rfl) rfl rfl (by kernel_rfl) (by kernel_rfl) _ (fun _ _ => rfl) _ _ (fun _ _ => rfl) (fun _ _ => rfl) (fun _ _ => by kernel_rfl) (fun _ _ => by kernel_rfl) (fun r_15 x_22 => ⟨rfl, rfl, ?_⟩))
  obtain ⟨A_16, c_17⟩ := x_22
  refine GoF.shape (env' := [(8, .pointer (some ⟨b_2, 0, none⟩)), (11, .int .u64 (wu64 s_5.State)), (12, .pointer (some ⟨b_2, 0, none⟩)), (15, .int .u64 (wu64 s_5.Cursor)), (16, .pointer (some ⟨b_2, 0, none⟩)), (19, .int .u64 (wu64 s_5.Failed))]) (H' := [⟨1, b_2, [.slice A_16 r_15.b.length c_17]⟩, ⟨40, b_8, [.slice A_6 s_5.Steps.length c_7, .int .i64 s_5.State, .int .i64 s_5.Cursor, .int .i64 s_5.Failed]⟩]) (B' := [Ow 2 Kd.u8 A_16 c_17 r_15.b, Rd 0 kT_api_Step A_6 c_7 s_5.Steps]) (ks := [8, 11, 12, 15, 16, 19]) (by kernel_rfl) (by kernel_rfl) (by kernel_rfl) ?_
  refine OpTo.goF (i := 12) (by kernel_rfl) (hk := [1]) (bk := []) (GoO.call rfl (by kernel_rfl) (by kernel_rfl) (pack_Writer_Num_ok n r_15 (wu64 s_5.Failed) b_2 A_16 c_17) [[0], [1], [2]] [(1, 1), (2, 2)] [(1, 0)] [(2, 0)] (hks := [1]) (bks := [1]) (by kernel_rfl) (by kernel_rfl) (by kernel_rfl) (.inl rfl) rfl rfl (by kernel_rfl) (by kernel_rfl) _ (fun _ _ => rfl) _ _ (fun _ _ => rfl) (fun _ _ => rfl) (fun _ _ => by kernel_rfl) (fun _ _ => by kernel_rfl) (fun r_18 x_21 => ⟨rfl, rfl, ?_⟩))
  obtain ⟨A_19, c_20⟩ := x_21
  refine GoF.shape (env' := [(8, .pointer (some ⟨b_2, 0, none⟩)), (11, .int .u64 (wu64 s_5.State)), (12, .pointer (some ⟨b_2, 0, none⟩)), (15, .int .u64 (wu64 s_5.Cursor)), (16, .pointer (some ⟨b_2, 0, none⟩)), (19, .int .u64 (wu64 s_5.Failed)), (20, .pointer (some ⟨b_2, 0, none⟩))]) (H' := [⟨1, b_2, [.slice A_19 r_18.b.length c_20]⟩, ⟨40, b_8, [.slice A_6 s_5.Steps.length c_7, .int .i64 s_5.State, .int .i64 s_5.Cursor, .int .i64 s_5.Failed]⟩]) (B' := [Ow 2 Kd.u8 A_19 c_20 r_18.b, Rd 0 kT_api_Step A_6 c_7 s_5.Steps]) (ks := [8, 11, 12, 15, 16, 19, 20]) (by kernel_rfl) (by kernel_rfl) (by kernel_rfl) ?_
  refine GoF.done (by kernel_rfl) ?_
  exact GoO.fin (hs := []) (ps := []) (hk := [0]) (bk := [0]) Try.func39 (⟨A_19, c_20⟩ : Option Addr × Nat) (by kernel_rfl) trivial (by kernel_rfl) (by kernel_rfl)

/-! (*tontine/pack.Writer).Bytes -/
noncomputable def c40_0 : Code := bodyOf Try.f40
noncomputable def c40_1 : Code := cdL c40_0
noncomputable def c40_2 : Code := cdR c40_0
noncomputable def c40_3 : Code := cdL c40_2
noncomputable def c40_4 : Code := cdL c40_3
noncomputable def c40_5 : Code := cdR c40_3
noncomputable def c40_9 : Code := cdR c40_5
noncomputable def c40_10 : Code := cdR c40_2
noncomputable def c40_11 : Code := cdL c40_10
noncomputable def c40_12 : Code := cdR c40_10
noncomputable def c40_6 : Code := cdL c40_5
noncomputable def r40_1 : Array Oper := cdO c40_1
noncomputable def r40_4 : Array Oper := cdO c40_4
noncomputable def r40_11 : Array Oper := cdO c40_11
theorem c40_0e : c40_0 = .seq c40_1 c40_2 := by kernel_rfl
theorem c40_1e : c40_1 = .region 0 r40_1 false := by kernel_rfl
theorem c40_2e : c40_2 = .seq c40_3 c40_10 := by kernel_rfl
theorem c40_3e : c40_3 = .seq c40_4 c40_5 := by kernel_rfl
theorem c40_4e : c40_4 = .region 1 r40_4 false := by kernel_rfl
theorem c40_5e : c40_5 = .cond (cdC c40_5) c40_6 c40_9 := by kernel_rfl
theorem c40_9e : c40_9 = .skip := by kernel_rfl
theorem c40_10e : c40_10 = .seq c40_11 c40_12 := by kernel_rfl
theorem c40_11e : c40_11 = .region 3 r40_11 false := by kernel_rfl
theorem c40_12e : c40_12 = .ret := by kernel_rfl
noncomputable def pack_Writer_Bytes.R (b_2 : Nat) (A_3 : Option Addr) (c_4 : Nat) : Pst (List UInt8) where
  ε := Unit
  v := fun r x => .string (bs r)
  H := fun r x => []
  B := fun r x => []
noncomputable def pack_Writer_Bytes.cx (b_2 : Nat) (A_3 : Option Addr) (c_4 : Nat) (w0 : World) (S0 : Fam) : Cx (List UInt8) := ⟨Try.prog, 40, Try.f40, 10, w0, S0, [], 2, pack_Writer_Bytes.R b_2 A_3 c_4⟩
theorem pack_Writer_Bytes_ok (n : Nat) (w_1 : T_pack_Writer) (b_2 : Nat) (A_3 : Option Addr) (c_4 : Nat) :
    Meets Try.prog 40 [.pointer (some ⟨b_2, 0, none⟩)] 2 [] [⟨1, b_2, [.slice A_3 w_1.b.length c_4]⟩] [Ow 2 Kd.u8 A_3 c_4 w_1.b] (pack_Writer_Bytes.f n w_1) (pack_Writer_Bytes.R b_2 A_3 c_4) := by
  refine Meets.of (c := c40_0) (n := 10) Try.func40 (by kernel_rfl) (by kernel_rfl) (by kernel_rfl) fun w0 S0 => ?_
  unfold pack_Writer_Bytes.f
  show GoO (pack_Writer_Bytes.cx b_2 A_3 c_4 w0 S0) [(0, .pointer (some ⟨b_2, 0, none⟩))] [⟨1, b_2, [.slice A_3 w_1.b.length c_4]⟩] [Ow 2 Kd.u8 A_3 c_4 w_1.b] [.code c40_0] _
  refine GoO.seq' c40_0e ?_
  refine GoO.region' (is := [0]) c40_1e (by kernel_rfl) ?_
  refine GoO.exec (is := [0]) (hs := [.p]) (rest := []) (ks := [0]) (env' := [(0, .pointer (some ⟨b_2, 0, none⟩))]) (H' := [⟨1, b_2, [.slice A_3 w_1.b.length c_4]⟩]) (ps := []) (by kernel_rfl) trivial ?_
  refine GoO.regionEnd ?_
  refine GoO.seq' c40_2e ?_
  refine GoO.seq' c40_3e ?_
  refine GoO.region' (is := [0, 1]) c40_4e (by kernel_rfl) ?_
  refine GoO.exec (is := [0, 1]) (hs := [.p, .p]) (rest := []) (ks := [0, 4]) (env' := [(0, .pointer (some ⟨b_2, 0, none⟩)), (4, .bool false)]) (H' := [⟨1, b_2, [.slice A_3 w_1.b.length c_4]⟩]) (ps := []) (by kernel_rfl) trivial ?_
  refine GoO.regionEnd ?_
  refine GoO.condF c40_5e (by kernel_rfl) ?_
  refine GoO.skip' c40_9e ?_
  refine GoO.seq' c40_10e ?_
  refine GoO.region' (is := [0, 1, 2, 3, 4, 5]) c40_11e (by kernel_rfl) ?_
  refine GoO.exec (is := [0, 1, 2, 3]) (hs := [.p, .p, .p, .b 0]) (rest := [4, 5]) (ks := [8]) (env' := [(8, .slice A_3 w_1.b.length c_4)]) (H' := [⟨1, b_2, [.slice A_3 w_1.b.length c_4]⟩]) (ps := [b_2 = b_2]) (by kernel_rfl) (And.intro rfl trivial) ?_
  refine OpTo.go (GoO.toStr (e := 5) (A := A_3) (c := c_4) (xs := w_1.b) (j := 0) rfl (by kernel_rfl) (by kernel_rfl) (by kernel_rfl) (by kernel_rfl) rfl Reads.own rfl rfl ?_)
  refine GoO.exec (is := [5]) (hs := [.p]) (rest := []) (ks := [2]) (env' := [(2, .string (bs w_1.b))]) (H' := [⟨1, b_2, [.slice A_3 w_1.b.length c_4]⟩]) (ps := []) (by kernel_rfl) trivial ?_
  refine GoO.regionEnd ?_
  exact GoO.ret' (h := c40_12e) (hs := []) (ps := []) (hk := []) (bk := []) Try.func40 () (by kernel_rfl) trivial (by kernel_rfl) (by kernel_rfl)

/-! tontine/tontineref03.Num -/
noncomputable def c65_0 : Code := bodyOf Try.f65
noncomputable def c65_1 : Code := cdL c65_0
noncomputable def c65_2 : Code := cdR c65_0
noncomputable def c65_3 : Code := cdL c65_2
noncomputable def c65_4 : Code := cdR c65_2
noncomputable def c65_5 : Code := cdL c65_4
noncomputable def c65_6 : Code := cdR c65_4
noncomputable def c65_7 : Code := cdL c65_6
noncomputable def c65_8 : Code := cdL c65_7
noncomputable def c65_9 : Code := cdL c65_8
noncomputable def c65_10 : Code := cdL c65_9
noncomputable def c65_11 : Code := cdL c65_10
noncomputable def c65_12 : Code := cdR c65_10
noncomputable def c65_13 : Code := cdL c65_12
noncomputable def c65_14 : Code := cdR c65_12
noncomputable def c65_15 : Code := cdR c65_9
noncomputable def c65_16 : Code := cdL c65_15
noncomputable def c65_17 : Code := cdL c65_16
noncomputable def c65_18 : Code := cdR c65_16
noncomputable def c65_19 : Code := cdL c65_18
noncomputable def c65_20 : Code := cdR c65_18
noncomputable def c65_21 : Code := cdR c65_6
noncomputable def c65_22 : Code := cdL c65_21
noncomputable def c65_23 : Code := cdR c65_21
noncomputable def r65_1 : Array Oper := cdO c65_1
noncomputable def r65_3 : Array Oper := cdO c65_3
noncomputable def r65_5 : Array Oper := cdO c65_5
noncomputable def r65_11 : Array Oper := cdO c65_11
noncomputable def r65_17 : Array Oper := cdO c65_17
noncomputable def r65_19 : Array Oper := cdO c65_19
noncomputable def r65_20 : Array Oper := cdO c65_20
noncomputable def r65_22 : Array Oper := cdO c65_22
theorem c65_0e : c65_0 = .seq c65_1 c65_2 := by kernel_rfl
theorem c65_1e : c65_1 = .region 0 r65_1 false := by kernel_rfl
theorem c65_2e : c65_2 = .seq c65_3 c65_4 := by kernel_rfl
theorem c65_3e : c65_3 = .region 1 r65_3 false := by kernel_rfl
theorem c65_4e : c65_4 = .seq c65_5 c65_6 := by kernel_rfl
theorem c65_5e : c65_5 = .region 2 r65_5 false := by kernel_rfl
theorem c65_6e : c65_6 = .seq c65_7 c65_21 := by kernel_rfl
theorem c65_7e : c65_7 = .block 0 c65_8 := by kernel_rfl
theorem c65_8e : c65_8 = .loop c65_9 := by kernel_rfl
theorem c65_9e : c65_9 = .seq c65_10 c65_15 := by kernel_rfl
theorem c65_10e : c65_10 = .seq c65_11 c65_12 := by kernel_rfl
theorem c65_11e : c65_11 = .region 3 r65_11 false := by kernel_rfl
theorem c65_12e : c65_12 = .cond (cdC c65_12) c65_13 c65_14 := by kernel_rfl
theorem c65_13e : c65_13 = .skip := by kernel_rfl
theorem c65_14e : c65_14 = .exit 0 := by kernel_rfl
theorem c65_15e : c65_15 = .block 1 c65_16 := by kernel_rfl
theorem c65_16e : c65_16 = .seq c65_17 c65_18 := by kernel_rfl
theorem c65_17e : c65_17 = .region 4 r65_17 false := by kernel_rfl
theorem c65_18e : c65_18 = .seq c65_19 c65_20 := by kernel_rfl
theorem c65_19e : c65_19 = .region 5 r65_19 false := by kernel_rfl
theorem c65_20e : c65_20 = .region 6 r65_20 false := by kernel_rfl
theorem c65_21e : c65_21 = .seq c65_22 c65_23 := by kernel_rfl
theorem c65_22e : c65_22 = .region 7 r65_22 false := by kernel_rfl
theorem c65_23e : c65_23 = .ret := by kernel_rfl
noncomputable def tontineref03_Num.R : Pst (List UInt8) where
  ε := Unit
  v := fun r x => .string (bs r)
  H := fun r x => []
  B := fun r x => []
noncomputable def tontineref03_Num.cx (w0 : World) (S0 : Fam) : Cx (List UInt8) := ⟨Try.prog, 65, Try.f65, 24, w0, S0, [], 0, tontineref03_Num.R⟩
theorem tontineref03_Num_l0_ok (n : Nat) (w0 : World) (S0 : Fam) :
    ∀ (k : Nat) (x_2 : Int) (s_3 : (List UInt8)) (n_4 : Int), GoO (tontineref03_Num.cx w0 S0) [(0, .int .u64 x_2), (3, .string (bs s_3)), (4, .int .i64 n_4)] [] [] [.code c65_9, .inLoop c65_9, .inBlock 0, .code c65_21] (tontineref03_Num.l0 n k x_2 s_3 n_4) := by
  intro k
  induction k with
  | zero => intros; rw [tontineref03_Num.l0.eq_1]; exact GoO.stop
  | succ k ih0 =>
    intro x_2 s_3 n_4
    rw [tontineref03_Num.l0.eq_2]
    refine GoO.seq' c65_9e ?_
    refine GoO.seq' c65_10e ?_
    refine GoO.region' (is := [0, 1]) c65_11e (by kernel_rfl) ?_
    refine GoO.exec (is := [0, 1]) (hs := [.p, .p]) (rest := []) (ks := [0, 3, 4, 6]) (env' := [(0, .int .u64 x_2), (3, .string (bs s_3)), (4, .int .i64 n_4), (6, .bool (decide (x_2 > 0)))]) (H' := []) (ps := []) (by kernel_rfl) trivial ?_
    refine GoO.regionEnd ?_
    refine GoO.ite' c65_12e (by kernel_rfl) (fun h5 => ?_) (fun h5 => ?_)
    · refine GoO.skip' c65_13e ?_
      refine GoO.block' c65_15e ?_
      refine GoO.seq' c65_16e ?_
      refine GoO.region' (is := [0, 1, 2, 3, 4, 5, 6, 7]) c65_17e (by kernel_rfl) ?_
      refine GoO.exec (is := [0, 1, 2]) (hs := [.p, .p, .p]) (rest := [3, 4, 5, 6, 7]) (ks := [0, 3, 4, 9]) (env' := [(0, .int .u64 x_2), (3, .string (bs s_3)), (4, .int .i64 n_4), (9, .int .u8 (wu8 (x_2.tmod 256)))]) (H' := []) (ps := [(256 : Int) ≠ 0]) (by kernel_rfl) (And.intro (by decide) trivial) ?_
      refine OpTo.go (GoO.lit (e := 5) (K := Kd.u8) rfl (by kernel_rfl) (by kernel_rfl) (cs := [.int .u8 (wu8 (x_2.tmod 256))]) (by kernel_rfl) [u8of (x_2.tmod 256)] (by kernel_rfl) (by kernel_rfl) (fun w S hB => ⟨[.int .u8 (wu8 (x_2.tmod 256))], _, rfl, (congrArg (fun v => [v]) (u8cell _)), rfl⟩) 40 _ (fun _ _ => rfl) (fun A_6 c_7 => ?_))
      refine OpTo.go (GoO.toStr (e := 5) (A := A_6) (c := c_7) (xs := [u8of (x_2.tmod 256)]) (j := 0) rfl (by kernel_rfl) (by kernel_rfl) (by kernel_rfl) (by kernel_rfl) rfl Reads.own rfl rfl ?_)
      refine GoO.guard (fun h8 => ?_)
      refine GoO.exec (is := [5, 6, 7]) (hs := [.p, .p, .p]) (rest := []) (ks := [0, 3, 4]) (env' := [(0, .int .u64 x_2), (3, .string (bs ([u8of (x_2.tmod 256)] ++ s_3))), (4, .int .i64 n_4)]) (H' := []) (ps := [([u8of (x_2.tmod 256)] : List UInt8).length + s_3.length ≤ i64max]) (by kernel_rfl) (And.intro h8 trivial) ?_
      refine GoO.regionEnd ?_
      refine GoO.seq' c65_18e ?_
      refine GoO.region' (is := [0, 1, 2]) c65_19e (by kernel_rfl) ?_
      refine GoO.exec (is := [0, 1, 2]) (hs := [.p, .p, .p]) (rest := []) (ks := [0, 3, 4]) (env' := [(0, .int .u64 (wu64 (x_2.tdiv 256))), (3, .string (bs ([u8of (x_2.tmod 256)] ++ s_3))), (4, .int .i64 n_4)]) (H' := []) (ps := [(256 : Int) ≠ 0]) (by kernel_rfl) (And.intro (by decide) trivial) ?_
      refine GoO.regionEnd ?_
      refine GoO.region' (is := [0, 1, 2]) c65_20e (by kernel_rfl) ?_
      refine GoO.exec (is := [0, 1, 2]) (hs := [.p, .p, .p]) (rest := []) (ks := [0, 3, 4]) (env' := [(0, .int .u64 (wu64 (x_2.tdiv 256))), (3, .string (bs ([u8of (x_2.tmod 256)] ++ s_3))), (4, .int .i64 (wi64 (n_4 + 1)))]) (H' := []) (ps := []) (by kernel_rfl) trivial ?_
      refine GoO.regionEnd ?_
      refine GoO.inBlock ?_
      refine GoO.inLoop ?_
      exact GoO.sub (ks := [0, 3, 4]) (hk := []) (bk := []) (by kernel_rfl) (by kernel_rfl) (by kernel_rfl) (ih0 (wu64 (x_2.tdiv 256)) ([u8of (x_2.tmod 256)] ++ s_3) (wi64 (n_4 + 1)))
    · refine GoO.exit' c65_14e rfl ?_
      refine GoO.seq' c65_21e ?_
      refine GoO.region' (is := [0, 1, 2, 3, 4, 5, 6]) c65_22e (by kernel_rfl) ?_
      refine GoO.exec (is := [0, 1]) (hs := [.p, .p]) (rest := [2, 3, 4, 5, 6]) (ks := [3, 19]) (env' := [(3, .string (bs s_3)), (19, .int .u8 (wu8 n_4))]) (H' := []) (ps := []) (by kernel_rfl) trivial ?_
      refine OpTo.go (GoO.lit (e := 5) (K := Kd.u8) rfl (by kernel_rfl) (by kernel_rfl) (cs := [.int .u8 (wu8 n_4)]) (by kernel_rfl) [u8of n_4] (by kernel_rfl) (by kernel_rfl) (fun w S hB => ⟨[.int .u8 (wu8 n_4)], _, rfl, (congrArg (fun v => [v]) (u8cell _)), rfl⟩) 41 _ (fun _ _ => rfl) (fun A_9 c_10 => ?_))
      refine OpTo.go (GoO.toStr (e := 5) (A := A_9) (c := c_10) (xs := [u8of n_4]) (j := 0) rfl (by kernel_rfl) (by kernel_rfl) (by kernel_rfl) (by kernel_rfl) rfl Reads.own rfl rfl ?_)
      refine GoO.guard (fun h11 => ?_)
      refine GoO.exec (is := [4, 5, 6]) (hs := [.p, .p, .p]) (rest := []) (ks := [2]) (env' := [(2, .string (bs ([u8of n_4] ++ s_3)))]) (H' := []) (ps := [([u8of n_4] : List UInt8).length + s_3.length ≤ i64max]) (by kernel_rfl) (And.intro h11 trivial) ?_
      refine GoO.regionEnd ?_
      exact GoO.ret' (h := c65_23e) (hs := []) (ps := []) (hk := []) (bk := []) Try.func65 () (by kernel_rfl) trivial (by kernel_rfl) (by kernel_rfl)
theorem tontineref03_Num_ok (n : Nat) (x_1 : Int) :
    Meets Try.prog 65 [.int .u64 x_1] 0 [] [] [] (tontineref03_Num.f n x_1) (tontineref03_Num.R) := by
  refine Meets.of (c := c65_0) (n := 24) Try.func65 (by kernel_rfl) (by kernel_rfl) (by kernel_rfl) fun w0 S0 => ?_
  unfold tontineref03_Num.f
  show GoO (tontineref03_Num.cx w0 S0) [(0, .int .u64 x_1)] [] [] [.code c65_0] _
  refine GoO.seq' c65_0e ?_
  refine GoO.region' (is := [0]) c65_1e (by kernel_rfl) ?_
  refine GoO.exec (is := [0]) (hs := [.p]) (rest := []) (ks := [0]) (env' := [(0, .int .u64 x_1)]) (H' := []) (ps := []) (by kernel_rfl) trivial ?_
  refine GoO.regionEnd ?_
  refine GoO.seq' c65_2e ?_
  refine GoO.region' (is := [0]) c65_3e (by kernel_rfl) ?_
  refine GoO.exec (is := [0]) (hs := [.p]) (rest := []) (ks := [0, 3]) (env' := [(0, .int .u64 x_1), (3, .string (bs []))]) (H' := []) (ps := []) (by kernel_rfl) trivial ?_
  refine GoO.regionEnd ?_
  refine GoO.seq' c65_4e ?_
  refine GoO.region' (is := [0]) c65_5e (by kernel_rfl) ?_
  refine GoO.exec (is := [0]) (hs := [.p]) (rest := []) (ks := [0, 3, 4]) (env' := [(0, .int .u64 x_1), (3, .string (bs [])), (4, .int .i64 0)]) (H' := []) (ps := []) (by kernel_rfl) trivial ?_
  refine GoO.regionEnd ?_
  refine GoO.seq' c65_6e ?_
  refine GoO.block' c65_7e ?_
  refine GoO.loop' c65_8e ?_
  exact GoO.sub (ks := [0, 3, 4]) (hk := []) (bk := []) (by kernel_rfl) (by kernel_rfl) (by kernel_rfl) (tontineref03_Num_l0_ok n w0 S0 n x_1 [] 0)

/-! tontine/tontineref03.Text -/
noncomputable def c67_0 : Code := bodyOf Try.f67
noncomputable def c67_1 : Code := cdL c67_0
noncomputable def c67_2 : Code := cdR c67_0
noncomputable def c67_3 : Code := cdL c67_2
noncomputable def c67_4 : Code := cdR c67_2
noncomputable def r67_1 : Array Oper := cdO c67_1
noncomputable def r67_3 : Array Oper := cdO c67_3
theorem c67_0e : c67_0 = .seq c67_1 c67_2 := by kernel_rfl
theorem c67_1e : c67_1 = .region 0 r67_1 false := by kernel_rfl
theorem c67_2e : c67_2 = .seq c67_3 c67_4 := by kernel_rfl
theorem c67_3e : c67_3 = .region 1 r67_3 false := by kernel_rfl
theorem c67_4e : c67_4 = .ret := by kernel_rfl
noncomputable def tontineref03_Text.R : Pst (List UInt8) where
  ε := Unit
  v := fun r x => .string (bs r)
  H := fun r x => []
  B := fun r x => []
noncomputable def tontineref03_Text.cx (w0 : World) (S0 : Fam) : Cx (List UInt8) := ⟨Try.prog, 67, Try.f67, 9, w0, S0, [], 0, tontineref03_Text.R⟩
theorem tontineref03_Text_ok (n : Nat) (s_1 : (List UInt8)) :
    Meets Try.prog 67 [.string (bs s_1)] 0 [] [] [] (tontineref03_Text.f n s_1) (tontineref03_Text.R) := by
  refine Meets.of (c := c67_0) (n := 9) Try.func67 (by kernel_rfl) (by kernel_rfl) (by kernel_rfl) fun w0 S0 => ?_
  unfold tontineref03_Text.f
  show GoO (tontineref03_Text.cx w0 S0) [(0, .string (bs s_1))] [] [] [.code c67_0] _
  refine GoO.seq' c67_0e ?_
  refine GoO.region' (is := [0]) c67_1e (by kernel_rfl) ?_
  refine GoO.exec (is := [0]) (hs := [.p]) (rest := []) (ks := [0]) (env' := [(0, .string (bs s_1))]) (H' := []) (ps := []) (by kernel_rfl) trivial ?_
  refine GoO.regionEnd ?_
  refine GoO.seq' c67_2e ?_
  refine GoO.region' (is := [0, 1, 2, 3, 4, 5, 6]) c67_3e (by kernel_rfl) ?_
  refine GoO.exec (is := [0, 1, 2]) (hs := [.p, .p, .p]) (rest := [3, 4, 5, 6]) (ks := [0, 5]) (env' := [(0, .string (bs s_1)), (5, .int .u64 (wu64 (s_1.length : Int)))]) (H' := []) (ps := []) (by kernel_rfl) trivial ?_
  refine OpTo.go (GoO.call rfl (by kernel_rfl) (by kernel_rfl) (tontineref03_Num_ok n (wu64 (s_1.length : Int))) [[0]] [] [] [] (hks := []) (bks := []) (by kernel_rfl) (by kernel_rfl) (by kernel_rfl) (.inl rfl) rfl rfl (by kernel_rfl) (by kernel_rfl) _ (fun _ _ => rfl) _ _ (fun _ _ => rfl) (fun _ _ => rfl) (fun _ _ => by kernel_rfl) (fun _ _ => by kernel_rfl) (fun r_2 x_4 => ?_))
  refine GoO.shape (env' := [(0, .string (bs s_1)), (5, .int .u64 (wu64 (s_1.length : Int))), (6, .string (bs r_2))]) (H' := []) (B' := []) (ks := [0, 5, 6]) (by kernel_rfl) (by kernel_rfl) (by kernel_rfl) ?_
  refine GoO.guard (fun h3 => ?_)
  refine GoO.exec (is := [4, 5, 6]) (hs := [.p, .p, .p]) (rest := []) (ks := [2]) (env' := [(2, .string (bs (r_2 ++ s_1)))]) (H' := []) (ps := [r_2.length + s_1.length ≤ i64max]) (by kernel_rfl) (And.intro h3 trivial) ?_
  refine GoO.regionEnd ?_
  exact GoO.ret' (h := c67_4e) (hs := []) (ps := []) (hk := []) (bk := []) Try.func67 () (by kernel_rfl) trivial (by kernel_rfl) (by kernel_rfl)

/-! tontine/tontineref13.Bytes -/
noncomputable def c52_0 : Code := bodyOf Try.f52
noncomputable def c52_1 : Code := cdL c52_0
noncomputable def c52_2 : Code := cdR c52_0
noncomputable def c52_3 : Code := cdL c52_2
noncomputable def c52_4 : Code := cdR c52_2
noncomputable def c52_5 : Code := cdL c52_4
noncomputable def c52_6 : Code := cdL c52_5
noncomputable def c52_7 : Code := cdR c52_5
noncomputable def c52_8 : Code := cdL c52_7
noncomputable def c52_9 : Code := cdL c52_8
noncomputable def c52_10 : Code := cdL c52_9
noncomputable def c52_11 : Code := cdL c52_10
noncomputable def c52_12 : Code := cdR c52_10
noncomputable def c52_13 : Code := cdL c52_12
noncomputable def c52_14 : Code := cdR c52_12
noncomputable def c52_15 : Code := cdR c52_9
noncomputable def c52_16 : Code := cdL c52_15
noncomputable def c52_17 : Code := cdL c52_16
noncomputable def c52_18 : Code := cdR c52_15
noncomputable def c52_19 : Code := cdR c52_4
noncomputable def c52_20 : Code := cdL c52_19
noncomputable def c52_21 : Code := cdR c52_19
noncomputable def r52_1 : Array Oper := cdO c52_1
noncomputable def r52_3 : Array Oper := cdO c52_3
noncomputable def r52_6 : Array Oper := cdO c52_6
noncomputable def r52_11 : Array Oper := cdO c52_11
noncomputable def r52_17 : Array Oper := cdO c52_17
noncomputable def r52_18 : Array Oper := cdO c52_18
noncomputable def r52_20 : Array Oper := cdO c52_20
theorem c52_0e : c52_0 = .seq c52_1 c52_2 := by kernel_rfl
theorem c52_1e : c52_1 = .region 0 r52_1 false := by kernel_rfl
theorem c52_2e : c52_2 = .seq c52_3 c52_4 := by kernel_rfl
theorem c52_3e : c52_3 = .region 1 r52_3 false := by kernel_rfl
theorem c52_4e : c52_4 = .seq c52_5 c52_19 := by kernel_rfl
theorem c52_5e : c52_5 = .seq c52_6 c52_7 := by kernel_rfl
theorem c52_6e : c52_6 = .region 2 r52_6 false := by kernel_rfl
theorem c52_7e : c52_7 = .block 0 c52_8 := by kernel_rfl
theorem c52_8e : c52_8 = .loop c52_9 := by kernel_rfl
theorem c52_9e : c52_9 = .seq c52_10 c52_15 := by kernel_rfl
theorem c52_10e : c52_10 = .seq c52_11 c52_12 := by kernel_rfl
theorem c52_11e : c52_11 = .region 3 r52_11 false := by kernel_rfl
theorem c52_12e : c52_12 = .cond (cdC c52_12) c52_13 c52_14 := by kernel_rfl
theorem c52_13e : c52_13 = .skip := by kernel_rfl
theorem c52_14e : c52_14 = .exit 0 := by kernel_rfl
theorem c52_15e : c52_15 = .seq c52_16 c52_18 := by kernel_rfl
theorem c52_16e : c52_16 = .block 1 c52_17 := by kernel_rfl
theorem c52_17e : c52_17 = .region 5 r52_17 true := by kernel_rfl
theorem c52_18e : c52_18 = .region 4 r52_18 false := by kernel_rfl
theorem c52_19e : c52_19 = .seq c52_20 c52_21 := by kernel_rfl
theorem c52_20e : c52_20 = .region 6 r52_20 false := by kernel_rfl
theorem c52_21e : c52_21 = .ret := by kernel_rfl
noncomputable def tontineref13_Bytes.R (A_2 : Option Addr) (c_3 : Nat) : Pst (List UInt8) where
  ε := Unit
  v := fun r x => .string (bs r)
  H := fun r x => []
  B := fun r x => []
noncomputable def tontineref13_Bytes.cx (A_2 : Option Addr) (c_3 : Nat) (w0 : World) (S0 : Fam) : Cx (List UInt8) := ⟨Try.prog, 52, Try.f52, 40, w0, S0, [], 0, tontineref13_Bytes.R A_2 c_3⟩
theorem tontineref13_Bytes_l0_ok (n : Nat) (l_1 : (List T_api_Step)) (A_2 : Option Addr) (c_3 : Nat) (w0 : World) (S0 : Fam) :
    ∀ (k : Nat) (s_5 : (List UInt8)) (i_6 : Int), GoO (tontineref13_Bytes.cx A_2 c_3 w0 S0) [(0, .slice A_2 l_1.length c_3), (3, .string (bs s_5)), (4, .int .i64 i_6)] [] [Rd 0 kT_api_Step A_2 c_3 l_1] [.code c52_9, .inLoop c52_9, .inBlock 0, .code c52_19] (tontineref13_Bytes.l0 n l_1 k s_5 i_6) := by
  intro k
  induction k with
  | zero => intros; rw [tontineref13_Bytes.l0.eq_1]; exact GoO.stop
  | succ k ih0 =>
    intro s_5 i_6
    rw [tontineref13_Bytes.l0.eq_2]
    refine GoO.seq' c52_9e ?_
    refine GoO.seq' c52_10e ?_
    refine GoO.region' (is := [0, 1, 2, 3]) c52_11e (by kernel_rfl) ?_
    refine GoO.exec (is := [0, 1, 2, 3]) (hs := [.p, .p, .p, .p]) (rest := []) (ks := [0, 3, 4, 12]) (env' := [(0, .slice A_2 l_1.length c_3), (3, .string (bs s_5)), (4, .int .i64 i_6), (12, .bool (decide (i_6 < (l_1.length : Int))))]) (H' := []) (ps := []) (by kernel_rfl) trivial ?_
    refine GoO.regionEnd ?_
    refine GoO.ite' c52_12e (by kernel_rfl) (fun h7 => ?_) (fun h7 => ?_)
    · refine GoO.skip' c52_13e ?_
      refine GoO.seq' c52_15e ?_
      refine GoO.block' c52_16e ?_
      refine GoO.draw c52_17e (by kernel_rfl) [24] [] [Rd 0 kT_api_Step A_2 c_3 l_1] (n := 25) (by kernel_rfl) ?_
      simp only [List.replicate]
      refine GoF.take [0, 1, 2, 8, 9, 15, 16] [.p, .p, .p, .p, .p, .p, .p] (ks := [0, 4, 15, 16, 17, 23, 24, 30, 31]) (fu := 18) (li := [true, true, true, false, false, false, false, false, true, true, false, false, false, false, false, true, true, false, false, false, false, false, false, false, false]) (env' := [(0, .slice A_2 l_1.length c_3), (4, .int .i64 i_6), (15, .string (bs s_5)), (16, .slice A_2 l_1.length c_3), (17, .int .i64 i_6), (23, .slice A_2 l_1.length c_3), (24, .int .i64 i_6), (30, .slice A_2 l_1.length c_3), (31, .int .i64 i_6)]) (ps := []) (hk := []) (bk := [0]) (by kernel_rfl) trivial rfl rfl ?_
      refine GoF.guard (fun h8 => ?_)
      refine GoF.idx (i := 3) (hk := []) (bk := [0]) (kk := .i64) (e := 50) (K := kT_api_Step) (A := A_2) (c := c_3) (xs := l_1) (iv := i_6) (j := 0) (by kernel_rfl) rfl rfl rfl (by kernel_rfl) (by kernel_rfl) (by kernel_rfl) (by kernel_rfl) rfl Reads.rd rfl h8.1 h8.2 (by decide) rfl ?_
      refine GoF.fldE (i := 4) (hk := []) (bk := [0]) (K := kT_api_Step) (A := A_2) (c := c_3) (xs := l_1) (iN := i_6.toNat) (off := 0) (n := 0) (j := 0) (by kernel_rfl) rfl rfl rfl (by kernel_rfl) (by kernel_rfl) rfl Reads.rd (idx_lt h8.1 h8.2) (by decide) rfl ?_
      refine GoF.ldE (i := 5) (hk := []) (bk := [0]) (K := kT_api_Step) (A := A_2) (c := c_3) (xs := l_1) (iN := i_6.toNat) (off := 0) (j := 0) (v := .int .i64 ((rdL l_1 i_6).Part)) (by kernel_rfl) rfl rfl rfl (hK := rfl) (by kernel_rfl) rfl Reads.rd (idx_lt h8.1 h8.2) (by decide) (by kernel_rfl) rfl ?_
      refine GoF.take [6] [.p] (ks := [0, 4, 15, 21, 23, 24, 30, 31]) (fu := 14) (li := [true, true, true, true, true, true, true, false, true, true, false, false, false, false, false, true, true, false, false, false, false, false, false, false, false]) (env' := [(0, .slice A_2 l_1.length c_3), (4, .int .i64 i_6), (15, .string (bs s_5)), (21, .int .u64 (wu64 ((rdL l_1 i_6).Part))), (23, .slice A_2 l_1.length c_3), (24, .int .i64 i_6), (30, .slice A_2 l_1.length c_3), (31, .int .i64 i_6)]) (ps := []) (hk := []) (bk := [0]) (by kernel_rfl) trivial rfl rfl ?_
      refine GoF.guard (fun h9 => ?_)
      refine GoF.idx (i := 10) (hk := []) (bk := [0]) (kk := .i64) (e := 50) (K := kT_api_Step) (A := A_2) (c := c_3) (xs := l_1) (iv := i_6) (j := 0) (by kernel_rfl) rfl rfl rfl (by kernel_rfl) (by kernel_rfl) (by kernel_rfl) (by kernel_rfl) rfl Reads.rd rfl h9.1 h9.2 (by decide) rfl ?_
      refine GoF.fldE (i := 11) (hk := []) (bk := [0]) (K := kT_api_Step) (A := A_2) (c := c_3) (xs := l_1) (iN := i_6.toNat) (off := 0) (n := 1) (j := 0) (by kernel_rfl) rfl rfl rfl (by kernel_rfl) (by kernel_rfl) rfl Reads.rd (idx_lt h9.1 h9.2) (by decide) rfl ?_
      refine GoF.ldE (i := 12) (hk := []) (bk := [0]) (K := kT_api_Step) (A := A_2) (c := c_3) (xs := l_1) (iN := i_6.toNat) (off := 1) (j := 0) (v := .string (bs ((rdL l_1 i_6).Name))) (by kernel_rfl) rfl rfl rfl (hK := rfl) (by kernel_rfl) rfl Reads.rd (idx_lt h9.1 h9.2) (by decide) (by kernel_rfl) rfl ?_
      refine GoF.guard (fun h10 => ?_)
      refine GoF.idx (i := 17) (hk := []) (bk := [0]) (kk := .i64) (e := 50) (K := kT_api_Step) (A := A_2) (c := c_3) (xs := l_1) (iv := i_6) (j := 0) (by kernel_rfl) rfl rfl rfl (by kernel_rfl) (by kernel_rfl) (by kernel_rfl) (by kernel_rfl) rfl Reads.rd rfl h10.1 h10.2 (by decide) rfl ?_
      refine GoF.fldE (i := 18) (hk := []) (bk := [0]) (K := kT_api_Step) (A := A_2) (c := c_3) (xs := l_1) (iN := i_6.toNat) (off := 0) (n := 2) (j := 0) (by kernel_rfl) rfl rfl rfl (by kernel_rfl) (by kernel_rfl) rfl Reads.rd (idx_lt h10.1 h10.2) (by decide) rfl ?_
      refine GoF.ldE (i := 19) (hk := []) (bk := [0]) (K := kT_api_Step) (A := A_2) (c := c_3) (xs := l_1) (iN := i_6.toNat) (off := 2) (j := 0) (v := .int .i64 ((rdL l_1 i_6).Budget)) (by kernel_rfl) rfl rfl rfl (hK := rfl) (by kernel_rfl) rfl Reads.rd (idx_lt h10.1 h10.2) (by decide) (by kernel_rfl) rfl ?_
      refine GoF.take [20] [.p] (ks := [0, 4, 15, 21, 27, 35]) (fu := 7) (li := [true, true, true, true, true, true, true, false, true, true, true, true, true, false, false, true, true, true, true, true, true, false, false, false, false]) (env' := [(0, .slice A_2 l_1.length c_3), (4, .int .i64 i_6), (15, .string (bs s_5)), (21, .int .u64 (wu64 ((rdL l_1 i_6).Part))), (27, .string (bs ((rdL l_1 i_6).Name))), (35, .int .u64 (wu64 ((rdL l_1 i_6).Budget)))]) (ps := []) (hk := []) (bk := [0]) (by kernel_rfl) trivial rfl rfl ?_
      refine OpTo.goF (i := 7) (by kernel_rfl) (hk := []) (bk := [0]) (GoO.call rfl (by kernel_rfl) (by kernel_rfl) (tontineref03_Num_ok n (wu64 ((rdL l_1 i_6).Part))) [[0]] [] [] [] (hks := []) (bks := [0]) (by kernel_rfl) (by kernel_rfl) (by kernel_rfl) (.inl rfl) rfl rfl (by kernel_rfl) (by kernel_rfl) _ (fun _ _ => rfl) _ _ (fun _ _ => rfl) (fun _ _ => rfl) (fun _ _ => by kernel_rfl) (fun _ _ => by kernel_rfl) (fun r_11 x_19 => ⟨rfl, rfl, ?_⟩))
      refine GoF.shape (env' := [(0, .slice A_2 l_1.length c_3), (4, .int .i64 i_6), (15, .string (bs s_5)), (21, .int .u64 (wu64 ((rdL l_1 i_6).Part))), (22, .string (bs r_11)), (27, .string (bs ((rdL l_1 i_6).Name))), (35, .int .u64 (wu64 ((rdL l_1 i_6).Budget)))]) (H' := []) (B' := [Rd 0 kT_api_Step A_2 c_3 l_1]) (ks := [0, 4, 15, 21, 22, 27, 35]) (by kernel_rfl) (by kernel_rfl) (by kernel_rfl) ?_
      refine OpTo.goF (i := 13) (by kernel_rfl) (hk := []) (bk := [0]) (GoO.call rfl (by kernel_rfl) (by kernel_rfl) (tontineref03_Text_ok n ((rdL l_1 i_6).Name)) [[0]] [] [] [] (hks := []) (bks := [0]) (by kernel_rfl) (by kernel_rfl) (by kernel_rfl) (.inl rfl) rfl rfl (by kernel_rfl) (by kernel_rfl) _ (fun _ _ => rfl) _ _ (fun _ _ => rfl) (fun _ _ => rfl) (fun _ _ => by kernel_rfl) (fun _ _ => by kernel_rfl) (fun r_12 x_18 => ⟨rfl, rfl, ?_⟩))
      refine GoF.shape (env' := [(0, .slice A_2 l_1.length c_3), (4, .int .i64 i_6), (15, .string (bs s_5)), (21, .int .u64 (wu64 ((rdL l_1 i_6).Part))), (22, .string (bs r_11)), (27, .string (bs ((rdL l_1 i_6).Name))), (28, .string (bs r_12)), (35, .int .u64 (wu64 ((rdL l_1 i_6).Budget)))]) (H' := []) (B' := [Rd 0 kT_api_Step A_2 c_3 l_1]) (ks := [0, 4, 15, 21, 22, 27, 28, 35]) (by kernel_rfl) (by kernel_rfl) (by kernel_rfl) ?_
      refine GoF.guard (fun h13 => ?_)
      refine GoF.take [14] [.p] (ks := [0, 4, 15, 29, 35]) (fu := 4) (li := [true, true, true, true, true, true, true, true, true, true, true, true, true, true, true, true, true, true, true, true, true, false, false, false, false]) (env' := [(0, .slice A_2 l_1.length c_3), (4, .int .i64 i_6), (15, .string (bs s_5)), (29, .string (bs (r_11 ++ r_12))), (35, .int .u64 (wu64 ((rdL l_1 i_6).Budget)))]) (ps := [r_11.length + r_12.length ≤ i64max]) (hk := []) (bk := [0]) (by kernel_rfl) (And.intro h13 trivial) rfl rfl ?_
      refine OpTo.goF (i := 21) (by kernel_rfl) (hk := []) (bk := [0]) (GoO.call rfl (by kernel_rfl) (by kernel_rfl) (tontineref03_Num_ok n (wu64 ((rdL l_1 i_6).Budget))) [[0]] [] [] [] (hks := []) (bks := [0]) (by kernel_rfl) (by kernel_rfl) (by kernel_rfl) (.inl rfl) rfl rfl (by kernel_rfl) (by kernel_rfl) _ (fun _ _ => rfl) _ _ (fun _ _ => rfl) (fun _ _ => rfl) (fun _ _ => by kernel_rfl) (fun _ _ => by kernel_rfl) (fun r_14 x_17 => ⟨rfl, rfl, ?_⟩))
      refine GoF.shape (env' := [(0, .slice A_2 l_1.length c_3), (4, .int .i64 i_6), (15, .string (bs s_5)), (29, .string (bs (r_11 ++ r_12))), (35, .int .u64 (wu64 ((rdL l_1 i_6).Budget))), (36, .string (bs r_14))]) (H' := []) (B' := [Rd 0 kT_api_Step A_2 c_3 l_1]) (ks := [0, 4, 15, 29, 35, 36]) (by kernel_rfl) (by kernel_rfl) (by kernel_rfl) ?_
      refine GoF.guard (fun h15 => ?_)
      refine GoF.guard (fun h16 => ?_)
      refine GoF.take [22, 23] [.p, .p] (ks := [0, 4, 38]) (fu := 1) (li := [true, true, true, true, true, true, true, true, true, true, true, true, true, true, true, true, true, true, true, true, true, true, true, true, false]) (env' := [(0, .slice A_2 l_1.length c_3), (4, .int .i64 i_6), (38, .string (bs (s_5 ++ ((r_11 ++ r_12) ++ r_14))))]) (ps := [(r_11 ++ r_12).length + r_14.length ≤ i64max, s_5.length + ((r_11 ++ r_12) ++ r_14).length ≤ i64max]) (hk := []) (bk := [0]) (by kernel_rfl) (And.intro h15 (And.intro h16 trivial)) rfl rfl ?_
      refine GoF.fin1 (i := 24) (hint := .p) (ps := []) (hk := []) (bk := []) (by kernel_rfl) rfl trivial (.inl rfl) ?_
      refine GoF.done (by kernel_rfl) ?_
      refine GoO.inBlock ?_
      refine GoO.region' (is := [0, 1, 2]) c52_18e (by kernel_rfl) ?_
      refine GoO.exec (is := [0, 1, 2]) (hs := [.p, .p, .p]) (rest := []) (ks := [0, 3, 4]) (env' := [(0, .slice A_2 l_1.length c_3), (3, .string (bs (s_5 ++ ((r_11 ++ r_12) ++ r_14)))), (4, .int .i64 (wi64 (i_6 + 1)))]) (H' := []) (ps := []) (by kernel_rfl) trivial ?_
      refine GoO.regionEnd ?_
      refine GoO.inLoop ?_
      exact GoO.sub (ks := [0, 3, 4]) (hk := []) (bk := [0]) (by kernel_rfl) (by kernel_rfl) (by kernel_rfl) (ih0 (s_5 ++ ((r_11 ++ r_12) ++ r_14)) (wi64 (i_6 + 1)))
    · refine GoO.exit' c52_14e rfl ?_
      refine GoO.seq' c52_19e ?_
      refine GoO.region' (is := [0, 1]) c52_20e (by kernel_rfl) ?_
      refine GoO.exec (is := [0, 1]) (hs := [.p, .p]) (rest := []) (ks := [2]) (env' := [(2, .string (bs s_5))]) (H' := []) (ps := []) (by kernel_rfl) trivial ?_
      refine GoO.regionEnd ?_
      exact GoO.ret' (h := c52_21e) (hs := []) (ps := []) (hk := []) (bk := []) Try.func52 () (by kernel_rfl) trivial (by kernel_rfl) (by kernel_rfl)
theorem tontineref13_Bytes_ok (n : Nat) (l_1 : (List T_api_Step)) (A_2 : Option Addr) (c_3 : Nat) :
    Meets Try.prog 52 [.slice A_2 l_1.length c_3] 0 [] [] [Rd 0 kT_api_Step A_2 c_3 l_1] (tontineref13_Bytes.f n l_1) (tontineref13_Bytes.R A_2 c_3) := by
  refine Meets.of (c := c52_0) (n := 40) Try.func52 (by kernel_rfl) (by kernel_rfl) (by kernel_rfl) fun w0 S0 => ?_
  unfold tontineref13_Bytes.f
  show GoO (tontineref13_Bytes.cx A_2 c_3 w0 S0) [(0, .slice A_2 l_1.length c_3)] [] [Rd 0 kT_api_Step A_2 c_3 l_1] [.code c52_0] _
  refine GoO.seq' c52_0e ?_
  refine GoO.region' (is := [0]) c52_1e (by kernel_rfl) ?_
  refine GoO.exec (is := [0]) (hs := [.p]) (rest := []) (ks := [0]) (env' := [(0, .slice A_2 l_1.length c_3)]) (H' := []) (ps := []) (by kernel_rfl) trivial ?_
  refine GoO.regionEnd ?_
  refine GoO.seq' c52_2e ?_
  refine GoO.region' (is := [0, 1, 2, 3, 4]) c52_3e (by kernel_rfl) ?_
  refine GoO.exec (is := [0, 1, 2]) (hs := [.p, .p, .p]) (rest := [3, 4]) (ks := [0, 7]) (env' := [(0, .slice A_2 l_1.length c_3), (7, .int .u64 (wu64 (l_1.length : Int)))]) (H' := []) (ps := []) (by kernel_rfl) trivial ?_
  refine OpTo.go (GoO.call rfl (by kernel_rfl) (by kernel_rfl) (tontineref03_Num_ok n (wu64 (l_1.length : Int))) [[0]] [] [] [] (hks := []) (bks := [0]) (by kernel_rfl) (by kernel_rfl) (by kernel_rfl) (.inl rfl) rfl rfl (by kernel_rfl) (by kernel_rfl) _ (fun _ _ => rfl) _ _ (fun _ _ => rfl) (fun _ _ => rfl) (fun _ _ => by kernel_rfl) (fun _ _ => by kernel_rfl) (fun r_4 x_20 => ?_))
  refine GoO.shape (env' := [(0, .slice A_2 l_1.length c_3), (7, .int .u64 (wu64 (l_1.length : Int))), (8, .string (bs r_4))]) (H' := []) (B' := [Rd 0 kT_api_Step A_2 c_3 l_1]) (ks := [0, 7, 8]) (by kernel_rfl) (by kernel_rfl) (by kernel_rfl) ?_
  refine GoO.exec (is := [4]) (hs := [.p]) (rest := []) (ks := [0, 3]) (env' := [(0, .slice A_2 l_1.length c_3), (3, .string (bs r_4))]) (H' := []) (ps := []) (by kernel_rfl) trivial ?_
  refine GoO.regionEnd ?_
  refine GoO.seq' c52_4e ?_
  refine GoO.seq' c52_5e ?_
  refine GoO.region' (is := [0]) c52_6e (by kernel_rfl) ?_
  refine GoO.exec (is := [0]) (hs := [.p]) (rest := []) (ks := [0, 3, 4]) (env' := [(0, .slice A_2 l_1.length c_3), (3, .string (bs r_4)), (4, .int .i64 0)]) (H' := []) (ps := []) (by kernel_rfl) trivial ?_
  refine GoO.regionEnd ?_
  refine GoO.block' c52_7e ?_
  refine GoO.loop' c52_8e ?_
  exact GoO.sub (ks := [0, 3, 4]) (hk := []) (bk := [0]) (by kernel_rfl) (by kernel_rfl) (by kernel_rfl) (tontineref13_Bytes_l0_ok n l_1 A_2 c_3 w0 S0 n r_4 0)

/-! tontine/tontineref14.Bytes -/
noncomputable def c41_0 : Code := bodyOf Try.f41
noncomputable def c41_1 : Code := cdL c41_0
noncomputable def c41_2 : Code := cdR c41_0
noncomputable def c41_3 : Code := cdL c41_2
noncomputable def c41_4 : Code := cdR c41_2
noncomputable def r41_1 : Array Oper := cdO c41_1
noncomputable def r41_3 : Array Oper := cdO c41_3
theorem c41_0e : c41_0 = .seq c41_1 c41_2 := by kernel_rfl
theorem c41_1e : c41_1 = .region 0 r41_1 false := by kernel_rfl
theorem c41_2e : c41_2 = .seq c41_3 c41_4 := by kernel_rfl
theorem c41_3e : c41_3 = .region 1 r41_3 true := by kernel_rfl
theorem c41_4e : c41_4 = .ret := by kernel_rfl
noncomputable def tontineref14_Bytes.R (A_2 : Option Addr) (c_3 : Nat) : Pst (List UInt8) where
  ε := Unit
  v := fun r x => .string (bs r)
  H := fun r x => []
  B := fun r x => []
noncomputable def tontineref14_Bytes.cx (A_2 : Option Addr) (c_3 : Nat) (w0 : World) (S0 : Fam) : Cx (List UInt8) := ⟨Try.prog, 41, Try.f41, 21, w0, S0, [], 0, tontineref14_Bytes.R A_2 c_3⟩
theorem tontineref14_Bytes_ok (n : Nat) (s_1 : T_api_Saga) (A_2 : Option Addr) (c_3 : Nat) :
    Meets Try.prog 41 [.agg ⟨[.slice A_2 s_1.Steps.length c_3, .int .i64 s_1.State, .int .i64 s_1.Cursor, .int .i64 s_1.Failed]⟩] 0 [] [] [Rd 0 kT_api_Step A_2 c_3 s_1.Steps] (tontineref14_Bytes.f n s_1) (tontineref14_Bytes.R A_2 c_3) := by
  refine Meets.of (c := c41_0) (n := 21) Try.func41 (by kernel_rfl) (by kernel_rfl) (by kernel_rfl) fun w0 S0 => ?_
  unfold tontineref14_Bytes.f
  show GoO (tontineref14_Bytes.cx A_2 c_3 w0 S0) [(0, .agg ⟨[.slice A_2 s_1.Steps.length c_3, .int .i64 s_1.State, .int .i64 s_1.Cursor, .int .i64 s_1.Failed]⟩)] [] [Rd 0 kT_api_Step A_2 c_3 s_1.Steps] [.code c41_0] _
  refine GoO.seq' c41_0e ?_
  refine GoO.region' (is := [0, 1]) c41_1e (by kernel_rfl) ?_
  refine OpTo.go (GoO.new rfl 40 (cs := [.slice A_2 s_1.Steps.length c_3, .int .i64 s_1.State, .int .i64 s_1.Cursor, .int .i64 s_1.Failed]) (by kernel_rfl) _ (fun _ => rfl) (fun b_4 => ?_))
  refine GoO.exec (is := [1]) (hs := [.p]) (rest := []) (ks := [1]) (env' := [(1, .pointer (some ⟨b_4, 0, none⟩))]) (H' := [⟨40, b_4, [.slice A_2 s_1.Steps.length c_3, .int .i64 s_1.State, .int .i64 s_1.Cursor, .int .i64 s_1.Failed]⟩]) (ps := []) (by kernel_rfl) trivial ?_
  refine GoO.regionEnd ?_
  refine GoO.seq' c41_2e ?_
  refine GoO.draw c41_3e (by kernel_rfl) [18] [⟨40, b_4, [.slice A_2 s_1.Steps.length c_3, .int .i64 s_1.State, .int .i64 s_1.Cursor, .int .i64 s_1.Failed]⟩] [] (n := 19) (by kernel_rfl) ?_
  simp only [List.replicate]
  refine GoF.take [0, 1, 3, 4, 5, 8, 9, 10, 13, 14, 15] [.p, .b 0, .p, .b 0, .p, .p, .b 0, .p, .p, .b 0, .p] (ks := [4, 8, 13, 18]) (fu := 8) (li := [true, true, false, true, true, true, false, false, true, true, true, false, false, true, true, true, false, false, false]) (env' := [(4, .slice A_2 s_1.Steps.length c_3), (8, .int .u64 (wu64 s_1.State)), (13, .int .u64 (wu64 s_1.Cursor)), (18, .int .u64 (wu64 s_1.Failed))]) (ps := [b_4 = b_4, b_4 = b_4, b_4 = b_4, b_4 = b_4]) (hk := [0]) (bk := []) (by kernel_rfl) (And.intro rfl (And.intro rfl (And.intro rfl (And.intro rfl trivial)))) rfl rfl ?_
  refine OpTo.goF (i := 2) (by kernel_rfl) (hk := [0]) (bk := []) (GoO.call rfl (by kernel_rfl) (by kernel_rfl) (tontineref13_Bytes_ok n s_1.Steps A_2 c_3) [[0]] [] [] [(0, 0)] (hks := [0]) (bks := [0]) (by kernel_rfl) (by kernel_rfl) (by kernel_rfl) (.inl rfl) rfl rfl (by kernel_rfl) (by kernel_rfl) _ (fun _ _ => rfl) _ _ (fun _ _ => rfl) (fun _ _ => rfl) (fun _ _ => by kernel_rfl) (fun _ _ => by kernel_rfl) (fun r_5 x_15 => ⟨rfl, rfl, ?_⟩))
  refine GoF.shape (env' := [(4, .slice A_2 s_1.Steps.length c_3), (5, .string (bs r_5)), (8, .int .u64 (wu64 s_1.State)), (13, .int .u64 (wu64 s_1.Cursor)), (18, .int .u64 (wu64 s_1.Failed))]) (H' := [⟨40, b_4, [.slice A_2 s_1.Steps.length c_3, .int .i64 s_1.State, .int .i64 s_1.Cursor, .int .i64 s_1.Failed]⟩]) (B' := [Rd 0 kT_api_Step A_2 c_3 s_1.Steps]) (ks := [4, 5, 8, 13, 18]) (by kernel_rfl) (by kernel_rfl) (by kernel_rfl) ?_
  refine OpTo.goF (i := 6) (by kernel_rfl) (hk := [0]) (bk := []) (GoO.call rfl (by kernel_rfl) (by kernel_rfl) (tontineref03_Num_ok n (wu64 s_1.State)) [[0]] [] [] [] (hks := [0]) (bks := [0]) (by kernel_rfl) (by kernel_rfl) (by kernel_rfl) (.inl rfl) rfl rfl (by kernel_rfl) (by kernel_rfl) _ (fun _ _ => rfl) _ _ (fun _ _ => rfl) (fun _ _ => rfl) (fun _ _ => by kernel_rfl) (fun _ _ => by kernel_rfl) (fun r_6 x_14 => ⟨rfl, rfl, ?_⟩))
  refine GoF.shape (env' := [(4, .slice A_2 s_1.Steps.length c_3), (5, .string (bs r_5)), (8, .int .u64 (wu64 s_1.State)), (9, .string (bs r_6)), (13, .int .u64 (wu64 s_1.Cursor)), (18, .int .u64 (wu64 s_1.Failed))]) (H' := [⟨40, b_4, [.slice A_2 s_1.Steps.length c_3, .int .i64 s_1.State, .int .i64 s_1.Cursor, .int .i64 s_1.Failed]⟩]) (B' := [Rd 0 kT_api_Step A_2 c_3 s_1.Steps]) (ks := [4, 5, 8, 9, 13, 18]) (by kernel_rfl) (by kernel_rfl) (by kernel_rfl) ?_
  refine GoF.guard (fun h7 => ?_)
  refine GoF.take [7] [.p] (ks := [10, 13, 18]) (fu := 5) (li := [true, true, true, true, true, true, true, true, true, true, true, false, false, true, true, true, false, false, false]) (env' := [(10, .string (bs (r_5 ++ r_6))), (13, .int .u64 (wu64 s_1.Cursor)), (18, .int .u64 (wu64 s_1.Failed))]) (ps := [r_5.length + r_6.length ≤ i64max]) (hk := [0]) (bk := []) (by kernel_rfl) (And.intro h7 trivial) rfl rfl ?_
  refine OpTo.goF (i := 11) (by kernel_rfl) (hk := [0]) (bk := []) (GoO.call rfl (by kernel_rfl) (by kernel_rfl) (tontineref03_Num_ok n (wu64 s_1.Cursor)) [[0]] [] [] [] (hks := [0]) (bks := [0]) (by kernel_rfl) (by kernel_rfl) (by kernel_rfl) (.inl rfl) rfl rfl (by kernel_rfl) (by kernel_rfl) _ (fun _ _ => rfl) _ _ (fun _ _ => rfl) (fun _ _ => rfl) (fun _ _ => by kernel_rfl) (fun _ _ => by kernel_rfl) (fun r_8 x_13 => ⟨rfl, rfl, ?_⟩))
  refine GoF.shape (env' := [(10, .string (bs (r_5 ++ r_6))), (13, .int .u64 (wu64 s_1.Cursor)), (14, .string (bs r_8)), (18, .int .u64 (wu64 s_1.Failed))]) (H' := [⟨40, b_4, [.slice A_2 s_1.Steps.length c_3, .int .i64 s_1.State, .int .i64 s_1.Cursor, .int .i64 s_1.Failed]⟩]) (B' := [Rd 0 kT_api_Step A_2 c_3 s_1.Steps]) (ks := [10, 13, 14, 18]) (by kernel_rfl) (by kernel_rfl) (by kernel_rfl) ?_
  refine GoF.guard (fun h9 => ?_)
  refine GoF.take [12] [.p] (ks := [15, 18]) (fu := 3) (li := [true, true, true, true, true, true, true, true, true, true, true, true, true, true, true, true, false, false, false]) (env' := [(15, .string (bs ((r_5 ++ r_6) ++ r_8))), (18, .int .u64 (wu64 s_1.Failed))]) (ps := [(r_5 ++ r_6).length + r_8.length ≤ i64max]) (hk := [0]) (bk := []) (by kernel_rfl) (And.intro h9 trivial) rfl rfl ?_
  refine OpTo.goF (i := 16) (by kernel_rfl) (hk := [0]) (bk := []) (GoO.call rfl (by kernel_rfl) (by kernel_rfl) (tontineref03_Num_ok n (wu64 s_1.Failed)) [[0]] [] [] [] (hks := [0]) (bks := [0]) (by kernel_rfl) (by kernel_rfl) (by kernel_rfl) (.inl rfl) rfl rfl (by kernel_rfl) (by kernel_rfl) _ (fun _ _ => rfl) _ _ (fun _ _ => rfl) (fun _ _ => rfl) (fun _ _ => by kernel_rfl) (fun _ _ => by kernel_rfl) (fun r_10 x_12 => ⟨rfl, rfl, ?_⟩))
  refine GoF.shape (env' := [(15, .string (bs ((r_5 ++ r_6) ++ r_8))), (18, .int .u64 (wu64 s_1.Failed)), (19, .string (bs r_10))]) (H' := [⟨40, b_4, [.slice A_2 s_1.Steps.length c_3, .int .i64 s_1.State, .int .i64 s_1.Cursor, .int .i64 s_1.Failed]⟩]) (B' := [Rd 0 kT_api_Step A_2 c_3 s_1.Steps]) (ks := [15, 18, 19]) (by kernel_rfl) (by kernel_rfl) (by kernel_rfl) ?_
  refine GoF.guard (fun h11 => ?_)
  refine GoF.take [17] [.p] (ks := [20]) (fu := 1) (li := [true, true, true, true, true, true, true, true, true, true, true, true, true, true, true, true, true, true, false]) (env' := [(20, .string (bs (((r_5 ++ r_6) ++ r_8) ++ r_10)))]) (ps := [((r_5 ++ r_6) ++ r_8).length + r_10.length ≤ i64max]) (hk := [0]) (bk := []) (by kernel_rfl) (And.intro h11 trivial) rfl rfl ?_
  refine GoF.fin1 (i := 18) (hint := .p) (ps := []) (hk := []) (bk := []) (by kernel_rfl) rfl trivial (.inl rfl) ?_
  refine GoF.done (by kernel_rfl) ?_
  exact GoO.ret' (h := c41_4e) (hs := []) (ps := []) (hk := []) (bk := []) Try.func41 () (by kernel_rfl) trivial (by kernel_rfl) (by kernel_rfl)

/-! tontine/pack.From -/
noncomputable def c42_0 : Code := bodyOf Try.f42
noncomputable def c42_1 : Code := cdL c42_0
noncomputable def c42_2 : Code := cdR c42_0
noncomputable def c42_3 : Code := cdL c42_2
noncomputable def c42_4 : Code := cdR c42_2
noncomputable def r42_1 : Array Oper := cdO c42_1
noncomputable def r42_3 : Array Oper := cdO c42_3
theorem c42_0e : c42_0 = .seq c42_1 c42_2 := by kernel_rfl
theorem c42_1e : c42_1 = .region 0 r42_1 false := by kernel_rfl
theorem c42_2e : c42_2 = .seq c42_3 c42_4 := by kernel_rfl
theorem c42_3e : c42_3 = .region 1 r42_3 false := by kernel_rfl
theorem c42_4e : c42_4 = .ret := by kernel_rfl
noncomputable def pack_From.R : Pst T_pack_Reader where
  ε := Nat
  v := fun r x => .pointer (some ⟨x, 0, none⟩)
  H := fun r x => [⟨1, x, [.string (bs r.s), .bool r.bad]⟩]
  B := fun r x => []
noncomputable def pack_From.cx (w0 : World) (S0 : Fam) : Cx T_pack_Reader := ⟨Try.prog, 42, Try.f42, 6, w0, S0, [], 0, pack_From.R⟩
theorem pack_From_ok (n : Nat) (s_1 : (List UInt8)) :
    Meets Try.prog 42 [.string (bs s_1)] 0 [] [] [] (pack_From.f n s_1) (pack_From.R) := by
  refine Meets.of (c := c42_0) (n := 6) Try.func42 (by kernel_rfl) (by kernel_rfl) (by kernel_rfl) fun w0 S0 => ?_
  unfold pack_From.f
  show GoO (pack_From.cx w0 S0) [(0, .string (bs s_1))] [] [] [.code c42_0] _
  refine GoO.seq' c42_0e ?_
  refine GoO.region' (is := [0]) c42_1e (by kernel_rfl) ?_
  refine GoO.exec (is := [0]) (hs := [.p]) (rest := []) (ks := [0]) (env' := [(0, .string (bs s_1))]) (H' := []) (ps := []) (by kernel_rfl) trivial ?_
  refine GoO.regionEnd ?_
  refine GoO.seq' c42_2e ?_
  refine GoO.region' (is := [0, 1, 2, 3]) c42_3e (by kernel_rfl) ?_
  refine GoO.exec (is := [0, 1]) (hs := [.p, .p]) (rest := [2, 3]) (ks := [4]) (env' := [(4, .agg ⟨[.string (bs s_1), .bool false]⟩)]) (H' := []) (ps := []) (by kernel_rfl) trivial ?_
  refine OpTo.go (GoO.new rfl 40 (cs := [.string (bs s_1), .bool false]) (by kernel_rfl) _ (fun _ => rfl) (fun b_2 => ?_))
  refine GoO.exec (is := [3]) (hs := [.p]) (rest := []) (ks := [2]) (env' := [(2, .pointer (some ⟨b_2, 0, none⟩))]) (H' := [⟨40, b_2, [.string (bs s_1), .bool false]⟩]) (ps := []) (by kernel_rfl) trivial ?_
  refine GoO.regionEnd ?_
  refine GoO.retagB (t := 40) (u := 1) (j := 0) (hk := []) (bk := []) rfl rfl rfl rfl rfl rfl (by kernel_rfl) (by kernel_rfl) ?_
  exact GoO.ret' (h := c42_4e) (hs := []) (ps := []) (hk := [0]) (bk := []) Try.func42 b_2 (by kernel_rfl) trivial (by kernel_rfl) (by kernel_rfl)

/-! (*tontine/pack.Reader).fail -/
noncomputable def c68_0 : Code := bodyOf Try.f68
noncomputable def c68_1 : Code := cdL c68_0
noncomputable def c68_2 : Code := cdR c68_0
noncomputable def c68_3 : Code := cdL c68_2
noncomputable def c68_4 : Code := cdL c68_3
noncomputable def c68_5 : Code := cdR c68_3
noncomputable def c68_6 : Code := cdL c68_5
noncomputable def c68_8 : Code := cdR c68_2
noncomputable def c68_9 : Code := cdL c68_8
noncomputable def c68_10 : Code := cdR c68_8
noncomputable def c68_7 : Code := cdR c68_5
noncomputable def r68_1 : Array Oper := cdO c68_1
noncomputable def r68_4 : Array Oper := cdO c68_4
noncomputable def r68_6 : Array Oper := cdO c68_6
noncomputable def r68_9 : Array Oper := cdO c68_9
theorem c68_0e : c68_0 = .seq c68_1 c68_2 := by kernel_rfl
theorem c68_1e : c68_1 = .region 0 r68_1 false := by kernel_rfl
theorem c68_2e : c68_2 = .seq c68_3 c68_8 := by kernel_rfl
theorem c68_3e : c68_3 = .seq c68_4 c68_5 := by kernel_rfl
theorem c68_4e : c68_4 = .region 1 r68_4 false := by kernel_rfl
theorem c68_5e : c68_5 = .cond (cdC c68_5) c68_6 c68_7 := by kernel_rfl
theorem c68_6e : c68_6 = .region 2 r68_6 false := by kernel_rfl
theorem c68_8e : c68_8 = .seq c68_9 c68_10 := by kernel_rfl
theorem c68_9e : c68_9 = .region 3 r68_9 false := by kernel_rfl
theorem c68_10e : c68_10 = .ret := by kernel_rfl
theorem c68_7e : c68_7 = .skip := by kernel_rfl
noncomputable def pack_Reader_fail.R (b_2 : Nat) : Pst (Int × T_pack_Reader) where
  ε := Unit
  v := fun r x => .int .u64 r.1
  H := fun r x => [⟨1, b_2, [.string (bs r.2.s), .bool r.2.bad]⟩]
  B := fun r x => []
noncomputable def pack_Reader_fail.cx (b_2 : Nat) (w0 : World) (S0 : Fam) : Cx (Int × T_pack_Reader) := ⟨Try.prog, 68, Try.f68, 11, w0, S0, [1], 1, pack_Reader_fail.R b_2⟩
theorem pack_Reader_fail_ok (n : Nat) (r_1 : T_pack_Reader) (b_2 : Nat) :
    Meets Try.prog 68 [.pointer (some ⟨b_2, 0, none⟩)] 1 [1] [⟨1, b_2, [.string (bs r_1.s), .bool r_1.bad]⟩] [] (pack_Reader_fail.f n r_1) (pack_Reader_fail.R b_2) := by
  refine Meets.of (c := c68_0) (n := 11) Try.func68 (by kernel_rfl) (by kernel_rfl) (by kernel_rfl) fun w0 S0 => ?_
  unfold pack_Reader_fail.f
  show GoO (pack_Reader_fail.cx b_2 w0 S0) [(0, .pointer (some ⟨b_2, 0, none⟩))] [⟨1, b_2, [.string (bs r_1.s), .bool r_1.bad]⟩] [] [.code c68_0] _
  refine GoO.seq' c68_0e ?_
  refine GoO.region' (is := [0]) c68_1e (by kernel_rfl) ?_
  refine GoO.exec (is := [0]) (hs := [.p]) (rest := []) (ks := [0]) (env' := [(0, .pointer (some ⟨b_2, 0, none⟩))]) (H' := [⟨1, b_2, [.string (bs r_1.s), .bool r_1.bad]⟩]) (ps := []) (by kernel_rfl) trivial ?_
  refine GoO.regionEnd ?_
  refine GoO.seq' c68_2e ?_
  refine GoO.seq' c68_3e ?_
  refine GoO.region' (is := [0, 1]) c68_4e (by kernel_rfl) ?_
  refine GoO.exec (is := [0, 1]) (hs := [.p, .p]) (rest := []) (ks := [0, 4]) (env' := [(0, .pointer (some ⟨b_2, 0, none⟩)), (4, .bool true)]) (H' := [⟨1, b_2, [.string (bs r_1.s), .bool r_1.bad]⟩]) (ps := []) (by kernel_rfl) trivial ?_
  refine GoO.regionEnd ?_
  refine GoO.condT c68_5e (by kernel_rfl) ?_
  refine GoO.region' (is := [0, 1, 2, 3, 4, 5, 6, 7]) c68_6e (by kernel_rfl) ?_
  refine GoO.exec (is := [0, 1, 2, 3, 4, 5, 6, 7]) (hs := [.p, .p, .p, .p, .b 0, .p, .p, .b 0]) (rest := []) (ks := []) (env' := []) (H' := [⟨1, b_2, [.string (bs []), .bool true]⟩]) (ps := [b_2 = b_2, b_2 = b_2]) (by kernel_rfl) (And.intro rfl (And.intro rfl trivial)) ?_
  refine GoO.regionEnd ?_
  refine GoO.seq' c68_8e ?_
  refine GoO.region' (is := [0]) c68_9e (by kernel_rfl) ?_
  refine GoO.exec (is := [0]) (hs := [.p]) (rest := []) (ks := [2]) (env' := [(2, .int .u64 0)]) (H' := [⟨1, b_2, [.string (bs []), .bool true]⟩]) (ps := []) (by kernel_rfl) trivial ?_
  refine GoO.regionEnd ?_
  exact GoO.ret' (h := c68_10e) (hs := []) (ps := []) (hk := [0]) (bk := []) Try.func68 () (by kernel_rfl) trivial (by kernel_rfl) (by kernel_rfl)

/-! (*tontine/pack.Reader).Num -/
noncomputable def c59_0 : Code := bodyOf Try.f59
noncomputable def c59_1 : Code := cdL c59_0
noncomputable def c59_2 : Code := cdR c59_0
noncomputable def c59_3 : Code := cdL c59_2
noncomputable def c59_4 : Code := cdL c59_3
noncomputable def c59_5 : Code := cdR c59_3
noncomputable def c59_6 : Code := cdL c59_5
noncomputable def c59_7 : Code := cdL c59_6
noncomputable def c59_8 : Code := cdR c59_6
noncomputable def c59_9 : Code := cdR c59_5
noncomputable def c59_10 : Code := cdR c59_2
noncomputable def c59_11 : Code := cdL c59_10
noncomputable def c59_12 : Code := cdR c59_10
noncomputable def c59_13 : Code := cdL c59_12
noncomputable def c59_14 : Code := cdL c59_13
noncomputable def c59_15 : Code := cdR c59_13
noncomputable def c59_16 : Code := cdL c59_15
noncomputable def c59_17 : Code := cdL c59_16
noncomputable def c59_18 : Code := cdR c59_16
noncomputable def c59_19 : Code := cdR c59_15
noncomputable def c59_20 : Code := cdR c59_12
noncomputable def c59_21 : Code := cdL c59_20
noncomputable def c59_22 : Code := cdR c59_20
noncomputable def c59_23 : Code := cdL c59_22
noncomputable def c59_24 : Code := cdL c59_23
noncomputable def c59_25 : Code := cdR c59_23
noncomputable def c59_26 : Code := cdL c59_25
noncomputable def c59_27 : Code := cdL c59_26
noncomputable def c59_28 : Code := cdL c59_27
noncomputable def c59_29 : Code := cdL c59_28
noncomputable def c59_30 : Code := cdR c59_28
noncomputable def c59_31 : Code := cdL c59_30
noncomputable def c59_32 : Code := cdR c59_30
noncomputable def c59_33 : Code := cdR c59_27
noncomputable def c59_34 : Code := cdL c59_33
noncomputable def c59_35 : Code := cdL c59_34
noncomputable def c59_36 : Code := cdR c59_33
noncomputable def c59_37 : Code := cdR c59_22
noncomputable def c59_38 : Code := cdL c59_37
noncomputable def c59_39 : Code := cdR c59_37
noncomputable def c59_40 : Code := cdL c59_39
noncomputable def c59_41 : Code := cdR c59_39
noncomputable def r59_1 : Array Oper := cdO c59_1
noncomputable def r59_4 : Array Oper := cdO c59_4
noncomputable def r59_7 : Array Oper := cdO c59_7
noncomputable def r59_11 : Array Oper := cdO c59_11
noncomputable def r59_14 : Array Oper := cdO c59_14
noncomputable def r59_17 : Array Oper := cdO c59_17
noncomputable def r59_21 : Array Oper := cdO c59_21
noncomputable def r59_24 : Array Oper := cdO c59_24
noncomputable def r59_29 : Array Oper := cdO c59_29
noncomputable def r59_35 : Array Oper := cdO c59_35
noncomputable def r59_36 : Array Oper := cdO c59_36
noncomputable def r59_38 : Array Oper := cdO c59_38
noncomputable def r59_40 : Array Oper := cdO c59_40
theorem c59_0e : c59_0 = .seq c59_1 c59_2 := by kernel_rfl
theorem c59_1e : c59_1 = .region 0 r59_1 false := by kernel_rfl
theorem c59_2e : c59_2 = .seq c59_3 c59_10 := by kernel_rfl
theorem c59_3e : c59_3 = .seq c59_4 c59_5 := by kernel_rfl
theorem c59_4e : c59_4 = .region 1 r59_4 false := by kernel_rfl
theorem c59_5e : c59_5 = .cond (cdC c59_5) c59_6 c59_9 := by kernel_rfl
theorem c59_6e : c59_6 = .seq c59_7 c59_8 := by kernel_rfl
theorem c59_7e : c59_7 = .region 2 r59_7 false := by kernel_rfl
theorem c59_8e : c59_8 = .ret := by kernel_rfl
theorem c59_9e : c59_9 = .skip := by kernel_rfl
theorem c59_10e : c59_10 = .seq c59_11 c59_12 := by kernel_rfl
theorem c59_11e : c59_11 = .region 3 r59_11 false := by kernel_rfl
theorem c59_12e : c59_12 = .seq c59_13 c59_20 := by kernel_rfl
theorem c59_13e : c59_13 = .seq c59_14 c59_15 := by kernel_rfl
theorem c59_14e : c59_14 = .region 4 r59_14 false := by kernel_rfl
theorem c59_15e : c59_15 = .cond (cdC c59_15) c59_16 c59_19 := by kernel_rfl
theorem c59_16e : c59_16 = .seq c59_17 c59_18 := by kernel_rfl
theorem c59_17e : c59_17 = .region 5 r59_17 false := by kernel_rfl
theorem c59_18e : c59_18 = .ret := by kernel_rfl
theorem c59_19e : c59_19 = .skip := by kernel_rfl
theorem c59_20e : c59_20 = .seq c59_21 c59_22 := by kernel_rfl
theorem c59_21e : c59_21 = .region 6 r59_21 false := by kernel_rfl
theorem c59_22e : c59_22 = .seq c59_23 c59_37 := by kernel_rfl
theorem c59_23e : c59_23 = .seq c59_24 c59_25 := by kernel_rfl
theorem c59_24e : c59_24 = .region 7 r59_24 false := by kernel_rfl
theorem c59_25e : c59_25 = .block 0 c59_26 := by kernel_rfl
theorem c59_26e : c59_26 = .loop c59_27 := by kernel_rfl
theorem c59_27e : c59_27 = .seq c59_28 c59_33 := by kernel_rfl
theorem c59_28e : c59_28 = .seq c59_29 c59_30 := by kernel_rfl
theorem c59_29e : c59_29 = .region 8 r59_29 false := by kernel_rfl
theorem c59_30e : c59_30 = .cond (cdC c59_30) c59_31 c59_32 := by kernel_rfl
theorem c59_31e : c59_31 = .skip := by kernel_rfl
theorem c59_32e : c59_32 = .exit 0 := by kernel_rfl
theorem c59_33e : c59_33 = .seq c59_34 c59_36 := by kernel_rfl
theorem c59_34e : c59_34 = .block 1 c59_35 := by kernel_rfl
theorem c59_35e : c59_35 = .region 10 r59_35 false := by kernel_rfl
theorem c59_36e : c59_36 = .region 9 r59_36 false := by kernel_rfl
theorem c59_37e : c59_37 = .seq c59_38 c59_39 := by kernel_rfl
theorem c59_38e : c59_38 = .region 11 r59_38 false := by kernel_rfl
theorem c59_39e : c59_39 = .seq c59_40 c59_41 := by kernel_rfl
theorem c59_40e : c59_40 = .region 12 r59_40 false := by kernel_rfl
theorem c59_41e : c59_41 = .ret := by kernel_rfl
noncomputable def pack_Reader_Num.R (b_2 : Nat) : Pst (Int × T_pack_Reader) where
  ε := Unit
  v := fun r x => .int .u64 r.1
  H := fun r x => [⟨1, b_2, [.string (bs r.2.s), .bool r.2.bad]⟩]
  B := fun r x => []
noncomputable def pack_Reader_Num.cx (b_2 : Nat) (w0 : World) (S0 : Fam) : Cx (Int × T_pack_Reader) := ⟨Try.prog, 59, Try.f59, 75, w0, S0, [1], 1, pack_Reader_Num.R b_2⟩
theorem pack_Reader_Num_l0_ok (n : Nat) (r_1 : T_pack_Reader) (b_2 : Nat) (w0 : World) (S0 : Fam) :
    ∀ (k : Nat) (x_15 : Int) (i_16 : Int), GoO (pack_Reader_Num.cx b_2 w0 S0) [(0, .pointer (some ⟨b_2, 0, none⟩)), (3, .int .i64 (wi64 ((rdB r_1.s 0).toNat : Int))), (4, .int .u64 x_15), (5, .int .i64 i_16)] [⟨1, b_2, [.string (bs r_1.s), .bool r_1.bad]⟩] [] [.code c59_27, .inLoop c59_27, .inBlock 0, .code c59_37] (pack_Reader_Num.l0 n r_1 k x_15 i_16) := by
  intro k
  induction k with
  | zero => intros; rw [pack_Reader_Num.l0.eq_1]; exact GoO.stop
  | succ k ih0 =>
    intro x_15 i_16
    rw [pack_Reader_Num.l0.eq_2]
    refine GoO.seq' c59_27e ?_
    refine GoO.seq' c59_28e ?_
    refine GoO.region' (is := [0, 1, 2]) c59_29e (by kernel_rfl) ?_
    refine GoO.exec (is := [0, 1, 2]) (hs := [.p, .p, .p]) (rest := []) (ks := [0, 3, 4, 5, 51]) (env' := [(0, .pointer (some ⟨b_2, 0, none⟩)), (3, .int .i64 (wi64 ((rdB r_1.s 0).toNat : Int))), (4, .int .u64 x_15), (5, .int .i64 i_16), (51, .bool (decide (i_16 ≤ (wi64 ((rdB r_1.s 0).toNat : Int)))))]) (H' := [⟨1, b_2, [.string (bs r_1.s), .bool r_1.bad]⟩]) (ps := []) (by kernel_rfl) trivial ?_
    refine GoO.regionEnd ?_
    refine GoO.ite' c59_30e (by kernel_rfl) (fun h17 => ?_) (fun h17 => ?_)
    · refine GoO.skip' c59_31e ?_
      refine GoO.seq' c59_33e ?_
      refine GoO.block' c59_34e ?_
      refine GoO.region' (is := [0, 1, 2, 3, 4, 5, 6, 7, 8, 9, 10]) c59_35e (by kernel_rfl) ?_
      refine GoO.guard (fun h18 => ?_)
      refine GoO.exec (is := [0, 1, 2, 3, 4, 5, 6, 7, 8, 9, 10]) (hs := [.p, .p, .p, .p, .p, .b 0, .p, .p, .p, .p, .p]) (rest := []) (ks := [0, 3, 4, 5]) (env' := [(0, .pointer (some ⟨b_2, 0, none⟩)), (3, .int .i64 (wi64 ((rdB r_1.s 0).toNat : Int))), (4, .int .u64 (bOr .u64 (shL .u64 x_15 8) (wu64 ((rdB r_1.s i_16).toNat : Int)))), (5, .int .i64 i_16)]) (H' := [⟨1, b_2, [.string (bs r_1.s), .bool r_1.bad]⟩]) (ps := [(0 : Int) ≤ 8, b_2 = b_2, (0 : Int) ≤ i_16, i_16 < (r_1.s.length : Int)]) (by kernel_rfl) (And.intro (by decide) (And.intro rfl (And.intro h18.1 (And.intro h18.2 trivial)))) ?_
      refine GoO.regionEnd ?_
      refine GoO.inBlock ?_
      refine GoO.region' (is := [0, 1, 2]) c59_36e (by kernel_rfl) ?_
      refine GoO.exec (is := [0, 1, 2]) (hs := [.p, .p, .p]) (rest := []) (ks := [0, 3, 4, 5]) (env' := [(0, .pointer (some ⟨b_2, 0, none⟩)), (3, .int .i64 (wi64 ((rdB r_1.s 0).toNat : Int))), (4, .int .u64 (bOr .u64 (shL .u64 x_15 8) (wu64 ((rdB r_1.s i_16).toNat : Int)))), (5, .int .i64 (wi64 (i_16 + 1)))]) (H' := [⟨1, b_2, [.string (bs r_1.s), .bool r_1.bad]⟩]) (ps := []) (by kernel_rfl) trivial ?_
      refine GoO.regionEnd ?_
      refine GoO.inLoop ?_
      exact GoO.sub (ks := [0, 3, 4, 5]) (hk := [0]) (bk := []) (by kernel_rfl) (by kernel_rfl) (by kernel_rfl) (ih0 (bOr .u64 (shL .u64 x_15 8) (wu64 ((rdB r_1.s i_16).toNat : Int))) (wi64 (i_16 + 1)))
    · refine GoO.exit' c59_32e rfl ?_
      refine GoO.seq' c59_37e ?_
      refine GoO.region' (is := [0, 1, 2, 3, 4, 5, 6, 7, 8, 9, 10]) c59_38e (by kernel_rfl) ?_
      refine GoO.guard (fun h19 => ?_)
      refine GoO.exec (is := [0, 1, 2, 3, 4, 5, 6, 7, 8, 9, 10]) (hs := [.p, .p, .p, .p, .b 0, .p, .p, .p, .p, .p, .b 0]) (rest := []) (ks := [4]) (env' := [(4, .int .u64 x_15)]) (H' := [⟨1, b_2, [.string (bs (r_1.s.drop (wi64 ((wi64 ((rdB r_1.s 0).toNat : Int)) + 1)).toNat)), .bool r_1.bad]⟩]) (ps := [b_2 = b_2, (0 : Int) ≤ (wi64 ((wi64 ((rdB r_1.s 0).toNat : Int)) + 1)), (wi64 ((wi64 ((rdB r_1.s 0).toNat : Int)) + 1)) ≤ (r_1.s.length : Int), b_2 = b_2]) (by kernel_rfl) (And.intro rfl (And.intro h19.1 (And.intro h19.2 (And.intro rfl trivial)))) ?_
      refine GoO.regionEnd ?_
      refine GoO.seq' c59_39e ?_
      refine GoO.region' (is := [0, 1]) c59_40e (by kernel_rfl) ?_
      refine GoO.exec (is := [0, 1]) (hs := [.p, .p]) (rest := []) (ks := [2]) (env' := [(2, .int .u64 x_15)]) (H' := [⟨1, b_2, [.string (bs (r_1.s.drop (wi64 ((wi64 ((rdB r_1.s 0).toNat : Int)) + 1)).toNat)), .bool r_1.bad]⟩]) (ps := []) (by kernel_rfl) trivial ?_
      refine GoO.regionEnd ?_
      exact GoO.ret' (h := c59_41e) (hs := []) (ps := []) (hk := [0]) (bk := []) Try.func59 () (by kernel_rfl) trivial (by kernel_rfl) (by kernel_rfl)
theorem pack_Reader_Num_j0_ok (n : Nat) (r_1 : T_pack_Reader) (b_2 : Nat) (w0 : World) (S0 : Fam) (b_11 : Bool) :
    GoO (pack_Reader_Num.cx b_2 w0 S0) [(0, .pointer (some ⟨b_2, 0, none⟩)), (3, .int .i64 (wi64 ((rdB r_1.s 0).toNat : Int))), (46, .bool b_11)] [⟨1, b_2, [.string (bs r_1.s), .bool r_1.bad]⟩] [] [.code c59_15, .code c59_20] (pack_Reader_Num.j0 n r_1 b_11) := by
  unfold pack_Reader_Num.j0
  refine GoO.ite' c59_15e (by kernel_rfl) (fun h12 => ?_) (fun h12 => ?_)
  · refine GoO.seq' c59_16e ?_
    refine GoO.region' (is := [0, 1, 2]) c59_17e (by kernel_rfl) ?_
    refine GoO.exec (is := [0]) (hs := [.p]) (rest := [1, 2]) (ks := [47]) (env' := [(47, .pointer (some ⟨b_2, 0, none⟩))]) (H' := [⟨1, b_2, [.string (bs r_1.s), .bool r_1.bad]⟩]) (ps := []) (by kernel_rfl) trivial ?_
    refine OpTo.go (GoO.call rfl (by kernel_rfl) (by kernel_rfl) (pack_Reader_fail_ok n r_1 b_2) [[0], [1]] [(1, 1)] [(1, 0)] [] (hks := []) (bks := []) (by kernel_rfl) (by kernel_rfl) (by kernel_rfl) (.inl rfl) rfl rfl (by kernel_rfl) (by kernel_rfl) _ (fun _ _ => rfl) _ _ (fun _ _ => rfl) (fun _ _ => rfl) (fun _ _ => by kernel_rfl) (fun _ _ => by kernel_rfl) (fun r_13 x_14 => ?_))
    refine GoO.shape (env' := [(47, .pointer (some ⟨b_2, 0, none⟩)), (48, .int .u64 r_13.1)]) (H' := [⟨1, b_2, [.string (bs r_13.2.s), .bool r_13.2.bad]⟩]) (B' := []) (ks := [47, 48]) (by kernel_rfl) (by kernel_rfl) (by kernel_rfl) ?_
    refine GoO.exec (is := [2]) (hs := [.p]) (rest := []) (ks := [2]) (env' := [(2, .int .u64 r_13.1)]) (H' := [⟨1, b_2, [.string (bs r_13.2.s), .bool r_13.2.bad]⟩]) (ps := []) (by kernel_rfl) trivial ?_
    refine GoO.regionEnd ?_
    exact GoO.ret' (h := c59_18e) (hs := []) (ps := []) (hk := [0]) (bk := []) Try.func59 () (by kernel_rfl) trivial (by kernel_rfl) (by kernel_rfl)
  · refine GoO.skip' c59_19e ?_
    refine GoO.seq' c59_20e ?_
    refine GoO.region' (is := [0]) c59_21e (by kernel_rfl) ?_
    refine GoO.exec (is := [0]) (hs := [.p]) (rest := []) (ks := [0, 3, 4]) (env' := [(0, .pointer (some ⟨b_2, 0, none⟩)), (3, .int .i64 (wi64 ((rdB r_1.s 0).toNat : Int))), (4, .int .u64 0)]) (H' := [⟨1, b_2, [.string (bs r_1.s), .bool r_1.bad]⟩]) (ps := []) (by kernel_rfl) trivial ?_
    refine GoO.regionEnd ?_
    refine GoO.seq' c59_22e ?_
    refine GoO.seq' c59_23e ?_
    refine GoO.region' (is := [0]) c59_24e (by kernel_rfl) ?_
    refine GoO.exec (is := [0]) (hs := [.p]) (rest := []) (ks := [0, 3, 4, 5]) (env' := [(0, .pointer (some ⟨b_2, 0, none⟩)), (3, .int .i64 (wi64 ((rdB r_1.s 0).toNat : Int))), (4, .int .u64 0), (5, .int .i64 1)]) (H' := [⟨1, b_2, [.string (bs r_1.s), .bool r_1.bad]⟩]) (ps := []) (by kernel_rfl) trivial ?_
    refine GoO.regionEnd ?_
    refine GoO.block' c59_25e ?_
    refine GoO.loop' c59_26e ?_
    exact GoO.sub (ks := [0, 3, 4, 5]) (hk := [0]) (bk := []) (by kernel_rfl) (by kernel_rfl) (by kernel_rfl) (pack_Reader_Num_l0_ok n r_1 b_2 w0 S0 n 0 1)
theorem pack_Reader_Num_ok (n : Nat) (r_1 : T_pack_Reader) (b_2 : Nat) :
    Meets Try.prog 59 [.pointer (some ⟨b_2, 0, none⟩)] 1 [1] [⟨1, b_2, [.string (bs r_1.s), .bool r_1.bad]⟩] [] (pack_Reader_Num.f n r_1) (pack_Reader_Num.R b_2) := by
  refine Meets.of (c := c59_0) (n := 75) Try.func59 (by kernel_rfl) (by kernel_rfl) (by kernel_rfl) fun w0 S0 => ?_
  unfold pack_Reader_Num.f
  show GoO (pack_Reader_Num.cx b_2 w0 S0) [(0, .pointer (some ⟨b_2, 0, none⟩))] [⟨1, b_2, [.string (bs r_1.s), .bool r_1.bad]⟩] [] [.code c59_0] _
  refine GoO.seq' c59_0e ?_
  refine GoO.region' (is := [0]) c59_1e (by kernel_rfl) ?_
  refine GoO.exec (is := [0]) (hs := [.p]) (rest := []) (ks := [0]) (env' := [(0, .pointer (some ⟨b_2, 0, none⟩))]) (H' := [⟨1, b_2, [.string (bs r_1.s), .bool r_1.bad]⟩]) (ps := []) (by kernel_rfl) trivial ?_
  refine GoO.regionEnd ?_
  refine GoO.seq' c59_2e ?_
  refine GoO.seq' c59_3e ?_
  refine GoO.region' (is := [0, 1, 2, 3, 4, 5, 6, 7, 8]) c59_4e (by kernel_rfl) ?_
  refine GoO.exec (is := [0, 1, 2, 3, 4, 5, 6, 7, 8]) (hs := [.p, .p, .p, .p, .p, .p, .b 0, .p, .p]) (rest := []) (ks := [0, 14]) (env' := [(0, .pointer (some ⟨b_2, 0, none⟩)), (14, .bool (r_1.s == ([] : List UInt8)))]) (H' := [⟨1, b_2, [.string (bs r_1.s), .bool r_1.bad]⟩]) (ps := [b_2 = b_2]) (by kernel_rfl) (And.intro rfl trivial) ?_
  refine GoO.regionEnd ?_
  refine GoO.ite' c59_5e (by kernel_rfl) (fun h3 => ?_) (fun h3 => ?_)
  · refine GoO.seq' c59_6e ?_
    refine GoO.region' (is := [0, 1, 2]) c59_7e (by kernel_rfl) ?_
    refine GoO.exec (is := [0]) (hs := [.p]) (rest := [1, 2]) (ks := [15]) (env' := [(15, .pointer (some ⟨b_2, 0, none⟩))]) (H' := [⟨1, b_2, [.string (bs r_1.s), .bool r_1.bad]⟩]) (ps := []) (by kernel_rfl) trivial ?_
    refine OpTo.go (GoO.call rfl (by kernel_rfl) (by kernel_rfl) (pack_Reader_fail_ok n r_1 b_2) [[0], [1]] [(1, 1)] [(1, 0)] [] (hks := []) (bks := []) (by kernel_rfl) (by kernel_rfl) (by kernel_rfl) (.inl rfl) rfl rfl (by kernel_rfl) (by kernel_rfl) _ (fun _ _ => rfl) _ _ (fun _ _ => rfl) (fun _ _ => rfl) (fun _ _ => by kernel_rfl) (fun _ _ => by kernel_rfl) (fun r_4 x_5 => ?_))
    refine GoO.shape (env' := [(15, .pointer (some ⟨b_2, 0, none⟩)), (16, .int .u64 r_4.1)]) (H' := [⟨1, b_2, [.string (bs r_4.2.s), .bool r_4.2.bad]⟩]) (B' := []) (ks := [15, 16]) (by kernel_rfl) (by kernel_rfl) (by kernel_rfl) ?_
    refine GoO.exec (is := [2]) (hs := [.p]) (rest := []) (ks := [2]) (env' := [(2, .int .u64 r_4.1)]) (H' := [⟨1, b_2, [.string (bs r_4.2.s), .bool r_4.2.bad]⟩]) (ps := []) (by kernel_rfl) trivial ?_
    refine GoO.regionEnd ?_
    exact GoO.ret' (h := c59_8e) (hs := []) (ps := []) (hk := [0]) (bk := []) Try.func59 () (by kernel_rfl) trivial (by kernel_rfl) (by kernel_rfl)
  · refine GoO.skip' c59_9e ?_
    refine GoO.seq' c59_10e ?_
    refine GoO.region' (is := [0, 1, 2, 3, 4, 5, 6]) c59_11e (by kernel_rfl) ?_
    refine GoO.guard (fun h6 => ?_)
    refine GoO.exec (is := [0, 1, 2, 3, 4, 5, 6]) (hs := [.p, .p, .p, .b 0, .p, .p, .p]) (rest := []) (ks := [0, 3]) (env' := [(0, .pointer (some ⟨b_2, 0, none⟩)), (3, .int .i64 (wi64 ((rdB r_1.s 0).toNat : Int)))]) (H' := [⟨1, b_2, [.string (bs r_1.s), .bool r_1.bad]⟩]) (ps := [b_2 = b_2, (0 : Int) ≤ 0, 0 < (r_1.s.length : Int)]) (by kernel_rfl) (And.intro rfl (And.intro h6.1 (And.intro h6.2 trivial))) ?_
    refine GoO.regionEnd ?_
    refine GoO.seq' c59_12e ?_
    refine GoO.seq' c59_13e ?_
    refine GoO.region' (is := [0, 1, 2, 3, 4, 5, 6, 7, 8, 9, 10, 11, 12, 13, 14, 15, 16, 17, 18, 19, 20, 21, 22, 23]) c59_14e (by kernel_rfl) ?_
    refine GoO.exec (is := [0, 1, 2]) (hs := [.p, .p, .p]) (rest := [3, 4, 5, 6, 7, 8, 9, 10, 11, 12, 13, 14, 15, 16, 17, 18, 19, 20, 21, 22, 23]) (ks := [0, 3, 25]) (env' := [(0, .pointer (some ⟨b_2, 0, none⟩)), (3, .int .i64 (wi64 ((rdB r_1.s 0).toNat : Int))), (25, .bool (decide ((wi64 ((rdB r_1.s 0).toNat : Int)) > 8)))]) (H' := [⟨1, b_2, [.string (bs r_1.s), .bool r_1.bad]⟩]) (ps := []) (by kernel_rfl) trivial ?_
    refine GoO.bsplit (t := 25) (by kernel_rfl) (fun h7 => ?_) (fun h7 => ?_)
    · refine GoO.exec (is := [3, 4, 5, 6, 7, 8, 9, 10, 11, 12, 13, 14, 15, 16, 17, 18, 19, 20, 21, 22, 23]) (hs := [.p, .p, .p, .p, .p, .p, .p, .p, .p, .p, .p, .p, .p, .p, .p, .p, .p, .p, .p, .p, .p]) (rest := []) (ks := [0, 3, 46]) (env' := [(0, .pointer (some ⟨b_2, 0, none⟩)), (3, .int .i64 (wi64 ((rdB r_1.s 0).toNat : Int))), (46, .bool true)]) (H' := [⟨1, b_2, [.string (bs r_1.s), .bool r_1.bad]⟩]) (ps := []) (by kernel_rfl) trivial ?_
      refine GoO.regionEnd ?_
      exact GoO.sub (ks := [0, 3, 46]) (hk := [0]) (bk := []) (by kernel_rfl) (by kernel_rfl) (by kernel_rfl) (pack_Reader_Num_j0_ok n r_1 b_2 w0 S0 true)
    · refine GoO.exec (is := [3, 4, 5, 6, 7, 8, 9, 10, 11, 12]) (hs := [.p, .p, .p, .p, .b 0, .p, .p, .p, .p, .p]) (rest := [13, 14, 15, 16, 17, 18, 19, 20, 21, 22, 23]) (ks := [0, 3, 35]) (env' := [(0, .pointer (some ⟨b_2, 0, none⟩)), (3, .int .i64 (wi64 ((rdB r_1.s 0).toNat : Int))), (35, .bool (decide ((wi64 ((rdB r_1.s 0).toNat : Int)) > (wi64 ((r_1.s.length : Int) - 1)))))]) (H' := [⟨1, b_2, [.string (bs r_1.s), .bool r_1.bad]⟩]) (ps := [b_2 = b_2]) (by kernel_rfl) (And.intro rfl trivial) ?_
      refine GoO.bsplit (t := 35) (by kernel_rfl) (fun h8 => ?_) (fun h8 => ?_)
      · refine GoO.exec (is := [13, 14, 15, 16, 17, 18, 19, 20, 21, 22, 23]) (hs := [.p, .p, .p, .p, .p, .p, .p, .p, .p, .p, .p]) (rest := []) (ks := [0, 3, 46]) (env' := [(0, .pointer (some ⟨b_2, 0, none⟩)), (3, .int .i64 (wi64 ((rdB r_1.s 0).toNat : Int))), (46, .bool true)]) (H' := [⟨1, b_2, [.string (bs r_1.s), .bool r_1.bad]⟩]) (ps := []) (by kernel_rfl) trivial ?_
        refine GoO.regionEnd ?_
        exact GoO.sub (ks := [0, 3, 46]) (hk := [0]) (bk := []) (by kernel_rfl) (by kernel_rfl) (by kernel_rfl) (pack_Reader_Num_j0_ok n r_1 b_2 w0 S0 true)
      · refine GoO.exec (is := [13, 14, 15]) (hs := [.p, .p, .p]) (rest := [16, 17, 18, 19, 20, 21, 22, 23]) (ks := [0, 3, 35, 38]) (env' := [(0, .pointer (some ⟨b_2, 0, none⟩)), (3, .int .i64 (wi64 ((rdB r_1.s 0).toNat : Int))), (35, .bool false), (38, .bool (decide ((wi64 ((rdB r_1.s 0).toNat : Int)) > 0)))]) (H' := [⟨1, b_2, [.string (bs r_1.s), .bool r_1.bad]⟩]) (ps := []) (by kernel_rfl) trivial ?_
        refine GoO.bsplit (t := 38) (by kernel_rfl) (fun h9 => ?_) (fun h9 => ?_)
        · refine GoO.guard (fun h10 => ?_)
          refine GoO.exec (is := [16, 17, 18, 19, 20, 21, 22, 23]) (hs := [.p, .p, .p, .b 0, .p, .p, .p, .p]) (rest := []) (ks := [0, 3, 46]) (env' := [(0, .pointer (some ⟨b_2, 0, none⟩)), (3, .int .i64 (wi64 ((rdB r_1.s 0).toNat : Int))), (46, .bool (((rdB r_1.s 1).toNat : Int) == 0))]) (H' := [⟨1, b_2, [.string (bs r_1.s), .bool r_1.bad]⟩]) (ps := [b_2 = b_2, (0 : Int) ≤ 1, 1 < (r_1.s.length : Int)]) (by kernel_rfl) (And.intro rfl (And.intro h10.1 (And.intro h10.2 trivial))) ?_
          refine GoO.regionEnd ?_
          exact GoO.sub (ks := [0, 3, 46]) (hk := [0]) (bk := []) (by kernel_rfl) (by kernel_rfl) (by kernel_rfl) (pack_Reader_Num_j0_ok n r_1 b_2 w0 S0 (((rdB r_1.s 1).toNat : Int) == 0))
        · refine GoO.exec (is := [16, 17, 18, 19, 20, 21, 22, 23]) (hs := [.p, .p, .p, .p, .p, .p, .p, .p]) (rest := []) (ks := [0, 3, 46]) (env' := [(0, .pointer (some ⟨b_2, 0, none⟩)), (3, .int .i64 (wi64 ((rdB r_1.s 0).toNat : Int))), (46, .bool false)]) (H' := [⟨1, b_2, [.string (bs r_1.s), .bool r_1.bad]⟩]) (ps := []) (by kernel_rfl) trivial ?_
          refine GoO.regionEnd ?_
          exact GoO.sub (ks := [0, 3, 46]) (hk := [0]) (bk := []) (by kernel_rfl) (by kernel_rfl) (by kernel_rfl) (pack_Reader_Num_j0_ok n r_1 b_2 w0 S0 false)

/-! (*tontine/pack.Reader).Up -/
noncomputable def c58_0 : Code := bodyOf Try.f58
noncomputable def c58_1 : Code := cdL c58_0
noncomputable def c58_2 : Code := cdR c58_0
noncomputable def c58_3 : Code := cdL c58_2
noncomputable def c58_4 : Code := cdR c58_2
noncomputable def c58_5 : Code := cdL c58_4
noncomputable def c58_6 : Code := cdL c58_5
noncomputable def c58_7 : Code := cdR c58_5
noncomputable def c58_8 : Code := cdL c58_7
noncomputable def c58_9 : Code := cdL c58_8
noncomputable def c58_10 : Code := cdR c58_8
noncomputable def c58_11 : Code := cdR c58_7
noncomputable def c58_12 : Code := cdR c58_4
noncomputable def c58_13 : Code := cdL c58_12
noncomputable def c58_14 : Code := cdR c58_12
noncomputable def r58_1 : Array Oper := cdO c58_1
noncomputable def r58_3 : Array Oper := cdO c58_3
noncomputable def r58_6 : Array Oper := cdO c58_6
noncomputable def r58_9 : Array Oper := cdO c58_9
noncomputable def r58_13 : Array Oper := cdO c58_13
theorem c58_0e : c58_0 = .seq c58_1 c58_2 := by kernel_rfl
theorem c58_1e : c58_1 = .region 0 r58_1 false := by kernel_rfl
theorem c58_2e : c58_2 = .seq c58_3 c58_4 := by kernel_rfl
theorem c58_3e : c58_3 = .region 1 r58_3 false := by kernel_rfl
theorem c58_4e : c58_4 = .seq c58_5 c58_12 := by kernel_rfl
theorem c58_5e : c58_5 = .seq c58_6 c58_7 := by kernel_rfl
theorem c58_6e : c58_6 = .region 2 r58_6 false := by kernel_rfl
theorem c58_7e : c58_7 = .cond (cdC c58_7) c58_8 c58_11 := by kernel_rfl
theorem c58_8e : c58_8 = .seq c58_9 c58_10 := by kernel_rfl
theorem c58_9e : c58_9 = .region 3 r58_9 false := by kernel_rfl
theorem c58_10e : c58_10 = .ret := by kernel_rfl
theorem c58_11e : c58_11 = .skip := by kernel_rfl
theorem c58_12e : c58_12 = .seq c58_13 c58_14 := by kernel_rfl
theorem c58_13e : c58_13 = .region 4 r58_13 false := by kernel_rfl
theorem c58_14e : c58_14 = .ret := by kernel_rfl
noncomputable def pack_Reader_Up.R (b_2 : Nat) : Pst (Int × T_pack_Reader) where
  ε := Unit
  v := fun r x => .int .i64 r.1
  H := fun r x => [⟨1, b_2, [.string (bs r.2.s), .bool r.2.bad]⟩]
  B := fun r x => []
noncomputable def pack_Reader_Up.cx (b_2 : Nat) (w0 : World) (S0 : Fam) : Cx (Int × T_pack_Reader) := ⟨Try.prog, 58, Try.f58, 21, w0, S0, [1], 1, pack_Reader_Up.R b_2⟩
theorem pack_Reader_Up_j0_ok (n : Nat) (r_4 : Int × T_pack_Reader) (b_2 : Nat) (w0 : World) (S0 : Fam) (b_6 : Bool) :
    GoO (pack_Reader_Up.cx b_2 w0 S0) [(0, .pointer (some ⟨b_2, 0, none⟩)), (5, .int .u64 r_4.1), (15, .bool b_6)] [⟨1, b_2, [.string (bs r_4.2.s), .bool r_4.2.bad]⟩] [] [.code c58_7, .code c58_12] (pack_Reader_Up.j0 n r_4 b_6) := by
  unfold pack_Reader_Up.j0
  refine GoO.ite' c58_7e (by kernel_rfl) (fun h7 => ?_) (fun h7 => ?_)
  · refine GoO.seq' c58_8e ?_
    refine GoO.region' (is := [0, 1, 2, 3]) c58_9e (by kernel_rfl) ?_
    refine GoO.exec (is := [0]) (hs := [.p]) (rest := [1, 2, 3]) (ks := [16]) (env' := [(16, .pointer (some ⟨b_2, 0, none⟩))]) (H' := [⟨1, b_2, [.string (bs r_4.2.s), .bool r_4.2.bad]⟩]) (ps := []) (by kernel_rfl) trivial ?_
    refine OpTo.go (GoO.call rfl (by kernel_rfl) (by kernel_rfl) (pack_Reader_fail_ok n r_4.2 b_2) [[0], [1]] [(1, 1)] [(1, 0)] [] (hks := []) (bks := []) (by kernel_rfl) (by kernel_rfl) (by kernel_rfl) (.inl rfl) rfl rfl (by kernel_rfl) (by kernel_rfl) _ (fun _ _ => rfl) _ _ (fun _ _ => rfl) (fun _ _ => rfl) (fun _ _ => by kernel_rfl) (fun _ _ => by kernel_rfl) (fun r_8 x_9 => ?_))
    refine GoO.shape (env' := [(16, .pointer (some ⟨b_2, 0, none⟩)), (17, .int .u64 r_8.1)]) (H' := [⟨1, b_2, [.string (bs r_8.2.s), .bool r_8.2.bad]⟩]) (B' := []) (ks := [16, 17]) (by kernel_rfl) (by kernel_rfl) (by kernel_rfl) ?_
    refine GoO.exec (is := [2, 3]) (hs := [.p, .p]) (rest := []) (ks := [4]) (env' := [(4, .int .i64 (wi64 r_8.1))]) (H' := [⟨1, b_2, [.string (bs r_8.2.s), .bool r_8.2.bad]⟩]) (ps := []) (by kernel_rfl) trivial ?_
    refine GoO.regionEnd ?_
    exact GoO.ret' (h := c58_10e) (hs := []) (ps := []) (hk := [0]) (bk := []) Try.func58 () (by kernel_rfl) trivial (by kernel_rfl) (by kernel_rfl)
  · refine GoO.skip' c58_11e ?_
    refine GoO.seq' c58_12e ?_
    refine GoO.region' (is := [0, 1, 2]) c58_13e (by kernel_rfl) ?_
    refine GoO.exec (is := [0, 1, 2]) (hs := [.p, .p, .p]) (rest := []) (ks := [4]) (env' := [(4, .int .i64 (wi64 r_4.1))]) (H' := [⟨1, b_2, [.string (bs r_4.2.s), .bool r_4.2.bad]⟩]) (ps := []) (by kernel_rfl) trivial ?_
    refine GoO.regionEnd ?_
    exact GoO.ret' (h := c58_14e) (hs := []) (ps := []) (hk := [0]) (bk := []) Try.func58 () (by kernel_rfl) trivial (by kernel_rfl) (by kernel_rfl)
end Go.GL
