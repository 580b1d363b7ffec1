import Derived.Test.YtfeddlhkiomdaaaKindsT1
import Derived.Test.YtfeddlhkiomdaaaProg
set_option linter.unusedVariables false
set_option linter.unusedSimpArgs false
set_option maxRecDepth 100000
namespace Go.GL
open Go Go.Proofs


/-! tontine/plan.Check -/
noncomputable def c47_0 : Code := bodyOf Try.f47
noncomputable def c47_1 : Code := cdL c47_0
noncomputable def c47_2 : Code := cdR c47_0
noncomputable def c47_3 : Code := cdL c47_2
noncomputable def c47_4 : Code := cdL c47_3
noncomputable def c47_5 : Code := cdR c47_3
noncomputable def c47_6 : Code := cdL c47_5
noncomputable def c47_7 : Code := cdL c47_6
noncomputable def c47_8 : Code := cdR c47_6
noncomputable def c47_9 : Code := cdR c47_5
noncomputable def c47_10 : Code := cdR c47_2
noncomputable def c47_11 : Code := cdL c47_10
noncomputable def c47_12 : Code := cdL c47_11
noncomputable def c47_13 : Code := cdR c47_11
noncomputable def c47_14 : Code := cdL c47_13
noncomputable def c47_15 : Code := cdL c47_14
noncomputable def c47_16 : Code := cdL c47_15
noncomputable def c47_17 : Code := cdR c47_15
noncomputable def c47_18 : Code := cdL c47_17
noncomputable def c47_19 : Code := cdL c47_18
noncomputable def c47_20 : Code := cdR c47_18
noncomputable def c47_21 : Code := cdR c47_17
noncomputable def c47_22 : Code := cdL c47_21
noncomputable def c47_23 : Code := cdL c47_22
noncomputable def c47_24 : Code := cdL c47_23
noncomputable def c47_25 : Code := cdR c47_23
noncomputable def c47_26 : Code := cdL c47_25
noncomputable def c47_27 : Code := cdR c47_25
noncomputable def c47_28 : Code := cdL c47_27
noncomputable def c47_29 : Code := cdL c47_28
noncomputable def c47_30 : Code := cdR c47_28
noncomputable def c47_31 : Code := cdR c47_27
noncomputable def c47_32 : Code := cdR c47_21
noncomputable def c47_33 : Code := cdR c47_10
noncomputable def c47_34 : Code := cdL c47_33
noncomputable def c47_35 : Code := cdR c47_33
noncomputable def r47_1 : Array Oper := cdO c47_1
noncomputable def r47_4 : Array Oper := cdO c47_4
noncomputable def r47_7 : Array Oper := cdO c47_7
noncomputable def r47_12 : Array Oper := cdO c47_12
noncomputable def r47_16 : Array Oper := cdO c47_16
noncomputable def r47_24 : Array Oper := cdO c47_24
noncomputable def r47_26 : Array Oper := cdO c47_26
noncomputable def r47_29 : Array Oper := cdO c47_29
noncomputable def r47_32 : Array Oper := cdO c47_32
noncomputable def r47_34 : Array Oper := cdO c47_34
theorem c47_0e : c47_0 = .seq c47_1 c47_2 := by kernel_rfl
theorem c47_1e : c47_1 = .region 0 r47_1 false := by kernel_rfl
theorem c47_2e : c47_2 = .seq c47_3 c47_10 := by kernel_rfl
theorem c47_3e : c47_3 = .seq c47_4 c47_5 := by kernel_rfl
theorem c47_4e : c47_4 = .region 1 r47_4 false := by kernel_rfl
theorem c47_5e : c47_5 = .cond (cdC c47_5) c47_6 c47_9 := by kernel_rfl
theorem c47_6e : c47_6 = .seq c47_7 c47_8 := by kernel_rfl
theorem c47_7e : c47_7 = .region 2 r47_7 false := by kernel_rfl
theorem c47_8e : c47_8 = .ret := by kernel_rfl
theorem c47_9e : c47_9 = .skip := by kernel_rfl
theorem c47_10e : c47_10 = .seq c47_11 c47_33 := by kernel_rfl
theorem c47_11e : c47_11 = .seq c47_12 c47_13 := by kernel_rfl
theorem c47_12e : c47_12 = .region 3 r47_12 false := by kernel_rfl
theorem c47_13e : c47_13 = .block 0 c47_14 := by kernel_rfl
theorem c47_14e : c47_14 = .loop c47_15 := by kernel_rfl
theorem c47_15e : c47_15 = .seq c47_16 c47_17 := by kernel_rfl
theorem c47_16e : c47_16 = .region 4 r47_16 false := by kernel_rfl
theorem c47_17e : c47_17 = .seq c47_18 c47_21 := by kernel_rfl
theorem c47_18e : c47_18 = .cond (cdC c47_18) c47_19 c47_20 := by kernel_rfl
theorem c47_19e : c47_19 = .skip := by kernel_rfl
theorem c47_20e : c47_20 = .exit 0 := by kernel_rfl
theorem c47_21e : c47_21 = .seq c47_22 c47_32 := by kernel_rfl
theorem c47_22e : c47_22 = .block 1 c47_23 := by kernel_rfl
theorem c47_23e : c47_23 = .seq c47_24 c47_25 := by kernel_rfl
theorem c47_24e : c47_24 = .region 5 r47_24 false := by kernel_rfl
theorem c47_25e : c47_25 = .seq c47_26 c47_27 := by kernel_rfl
theorem c47_26e : c47_26 = .region 6 r47_26 false := by kernel_rfl
theorem c47_27e : c47_27 = .cond (cdC c47_27) c47_28 c47_31 := by kernel_rfl
theorem c47_28e : c47_28 = .seq c47_29 c47_30 := by kernel_rfl
theorem c47_29e : c47_29 = .region 7 r47_29 false := by kernel_rfl
theorem c47_30e : c47_30 = .ret := by kernel_rfl
theorem c47_31e : c47_31 = .skip := by kernel_rfl
theorem c47_32e : c47_32 = .region 8 r47_32 false := by kernel_rfl
theorem c47_33e : c47_33 = .seq c47_34 c47_35 := by kernel_rfl
theorem c47_34e : c47_34 = .region 9 r47_34 false := by kernel_rfl
theorem c47_35e : c47_35 = .ret := by kernel_rfl
noncomputable def plan_Check.R (A_2 : Option Addr) (c_3 : Nat) : Pst Int where
  ε := Unit
  v := fun r x => .int .i64 r
  H := fun r x => []
  B := fun r x => []
noncomputable def plan_Check.cx (A_2 : Option Addr) (c_3 : Nat) (w0 : World) (S0 : Fam) : Cx Int := ⟨Try.prog, 47, Try.f47, 49, w0, S0, [], 0, plan_Check.R A_2 c_3⟩
theorem plan_Check_j1_ok (n : Nat) (L0 : Int → Option Int) (l_1 : (List T_api_Step)) (x_7 : Int) (A_2 : Option Addr) (c_3 : Nat) (w0 : World) (S0 : Fam) (ih0 : ∀ (x_7 : Int), GoO (plan_Check.cx A_2 c_3 w0 S0) [(13, .slice A_2 l_1.length c_3), (14, .int .i64 (l_1.length : Int)), (15, .int .i64 x_7)] [] [Rd 0 kT_api_Step A_2 c_3 l_1] [.code c47_15, .inLoop c47_15, .inBlock 0, .code c47_33] (L0 x_7)) (b_16 : Bool) :
    GoO (plan_Check.cx A_2 c_3 w0 S0) [(13, .slice A_2 l_1.length c_3), (14, .int .i64 (l_1.length : Int)), (15, .int .i64 x_7), (47, .bool b_16)] [] [Rd 0 kT_api_Step A_2 c_3 l_1] [.code c47_27, .inBlock 1, .code c47_32, .inLoop c47_15, .inBlock 0, .code c47_33] (plan_Check.j1 n L0 x_7 b_16) := by
  unfold plan_Check.j1
  refine GoO.ite' c47_27e (by kernel_rfl) (fun h17 => ?_) (fun h17 => ?_)
  · refine GoO.seq' c47_28e ?_
    refine GoO.region' (is := [0]) c47_29e (by kernel_rfl) ?_
    refine GoO.exec (is := [0]) (hs := [.p]) (rest := []) (ks := [2]) (env' := [(2, .int .i64 44)]) (H' := []) (ps := []) (by kernel_rfl) trivial ?_
    refine GoO.regionEnd ?_
    exact GoO.ret' (h := c47_30e) (hs := []) (ps := []) (hk := []) (bk := []) Try.func47 () (by kernel_rfl) trivial (by kernel_rfl) (by kernel_rfl)
  · refine GoO.skip' c47_31e ?_
    refine GoO.inBlock ?_
    refine GoO.region' (is := [0, 1]) c47_32e (by kernel_rfl) ?_
    refine GoO.exec (is := [0, 1]) (hs := [.p, .p]) (rest := []) (ks := [13, 14, 15]) (env' := [(13, .slice A_2 l_1.length c_3), (14, .int .i64 (l_1.length : Int)), (15, .int .i64 (wi64 (x_7 + 1)))]) (H' := []) (ps := []) (by kernel_rfl) trivial ?_
    refine GoO.regionEnd ?_
    refine GoO.inLoop ?_
    exact GoO.sub (ks := [13, 14, 15]) (hk := []) (bk := [0]) (by kernel_rfl) (by kernel_rfl) (by kernel_rfl) (ih0 (wi64 (x_7 + 1)))
theorem plan_Check_l0_ok (n : Nat) (l_1 : (List T_api_Step)) (A_2 : Option Addr) (c_3 : Nat) (w0 : World) (S0 : Fam) :
    ∀ (k : Nat) (x_7 : Int), GoO (plan_Check.cx A_2 c_3 w0 S0) [(13, .slice A_2 l_1.length c_3), (14, .int .i64 (l_1.length : Int)), (15, .int .i64 x_7)] [] [Rd 0 kT_api_Step A_2 c_3 l_1] [.code c47_15, .inLoop c47_15, .inBlock 0, .code c47_33] (plan_Check.l0 n l_1 k x_7) := by
  intro k
  induction k with
  | zero => intros; rw [plan_Check.l0.eq_1]; exact GoO.stop
  | succ k ih0 =>
    intro x_7
    rw [plan_Check.l0.eq_2]
    refine GoO.seq' c47_15e ?_
    refine GoO.region' (is := [0]) c47_16e (by kernel_rfl) ?_
    refine GoO.exec (is := [0]) (hs := [.p]) (rest := []) (ks := [13, 14, 15, 16]) (env' := [(13, .slice A_2 l_1.length c_3), (14, .int .i64 (l_1.length : Int)), (15, .int .i64 x_7), (16, .bool (decide (x_7 < (l_1.length : Int))))]) (H' := []) (ps := []) (by kernel_rfl) trivial ?_
    refine GoO.regionEnd ?_
    refine GoO.seq' c47_17e ?_
    refine GoO.ite' c47_18e (by kernel_rfl) (fun h8 => ?_) (fun h8 => ?_)
    · refine GoO.skip' c47_19e ?_
      refine GoO.seq' c47_21e ?_
      refine GoO.block' c47_22e ?_
      refine GoO.seq' c47_23e ?_
      refine GoO.region' (is := [0, 1, 2, 3]) c47_24e (by kernel_rfl) ?_
      refine GoO.guard (fun h9 => ?_)
      refine OpTo.go (GoO.idx (kk := .i64) (e := 50) (K := kT_api_Step) (A := A_2) (c := c_3) (xs := l_1) (iv := x_7) (j := 0) rfl (by kernel_rfl) (by kernel_rfl) (by kernel_rfl) (by kernel_rfl) rfl Reads.rd rfl h9.1 h9.2 (by decide) rfl ?_)
      refine OpTo.go (GoO.ldE' (K := kT_api_Step) (A := A_2) (c := c_3) (xs := l_1) (iN := x_7.toNat) (off := 0) (j := 0) rfl (by kernel_rfl) rfl Reads.rd (by first | exact idx_lt h9.1 h9.2 | (simp only [List.length_set]; exact idx_lt h9.1 h9.2)) (by decide) (Opn.flat _ _ _ _ _) (v := fun _ => .agg ⟨[.int .i64 ((rdL l_1 x_7).Part), .string (bs ((rdL l_1 x_7).Name)), .int .i64 ((rdL l_1 x_7).Budget)]⟩) (fun _ => by kernel_rfl) _ (fun _ => rfl) (fun _ => ?_))
      refine OpTo.go (GoO.new rfl 40 (cs := [.int .i64 0, .string (bs []), .int .i64 0]) (by kernel_rfl) _ (fun _ => rfl) (fun b_10 => ?_))
      refine GoO.exec (is := [3]) (hs := [.b 0]) (rest := []) (ks := [4, 13, 14, 15]) (env' := [(4, .pointer (some ⟨b_10, 0, none⟩)), (13, .slice A_2 l_1.length c_3), (14, .int .i64 (l_1.length : Int)), (15, .int .i64 x_7)]) (H' := [⟨40, b_10, [.int .i64 ((rdL l_1 x_7).Part), .string (bs ((rdL l_1 x_7).Name)), .int .i64 ((rdL l_1 x_7).Budget)]⟩]) (ps := [b_10 = b_10]) (by kernel_rfl) (And.intro rfl trivial) ?_
      refine GoO.regionEnd ?_
      refine GoO.seq' c47_25e ?_
      refine GoO.region' (is := [0, 1, 2, 3, 4, 5, 6, 7, 8, 9, 10, 11, 12, 13, 14, 15, 16, 17, 18, 19, 20, 21, 22, 23, 24, 25, 26, 27, 28]) c47_26e (by kernel_rfl) ?_
      refine GoO.exec (is := [0, 1, 2, 3]) (hs := [.p, .b 0, .p, .p]) (rest := [4, 5, 6, 7, 8, 9, 10, 11, 12, 13, 14, 15, 16, 17, 18, 19, 20, 21, 22, 23, 24, 25, 26, 27, 28]) (ks := [4, 13, 14, 15, 22]) (env' := [(4, .pointer (some ⟨b_10, 0, none⟩)), (13, .slice A_2 l_1.length c_3), (14, .int .i64 (l_1.length : Int)), (15, .int .i64 x_7), (22, .bool (decide (((rdL l_1 x_7).Part) < 0)))]) (H' := [⟨40, b_10, [.int .i64 ((rdL l_1 x_7).Part), .string (bs ((rdL l_1 x_7).Name)), .int .i64 ((rdL l_1 x_7).Budget)]⟩]) (ps := [b_10 = b_10]) (by kernel_rfl) (And.intro rfl trivial) ?_
      refine GoO.bsplit (t := 22) (by kernel_rfl) (fun h11 => ?_) (fun h11 => ?_)
      · refine GoO.exec (is := [4, 5, 6, 7, 8, 9, 10, 11, 12, 13, 14, 15, 16, 17, 18, 19, 20, 21, 22, 23, 24, 25, 26, 27, 28]) (hs := [.p, .p, .p, .p, .p, .p, .p, .p, .p, .p, .p, .p, .p, .p, .p, .p, .p, .p, .p, .p, .p, .p, .p, .p, .p]) (rest := []) (ks := [13, 14, 15, 47]) (env' := [(13, .slice A_2 l_1.length c_3), (14, .int .i64 (l_1.length : Int)), (15, .int .i64 x_7), (47, .bool true)]) (H' := [⟨40, b_10, [.int .i64 ((rdL l_1 x_7).Part), .string (bs ((rdL l_1 x_7).Name)), .int .i64 ((rdL l_1 x_7).Budget)]⟩]) (ps := []) (by kernel_rfl) trivial ?_
        refine GoO.regionEnd ?_
        exact GoO.sub (ks := [13, 14, 15, 47]) (hk := []) (bk := [0]) (by kernel_rfl) (by kernel_rfl) (by kernel_rfl) (plan_Check_j1_ok n (plan_Check.l0 n l_1 k) l_1 x_7 A_2 c_3 w0 S0 ih0 true)
      · refine GoO.exec (is := [4, 5, 6, 7, 8]) (hs := [.p, .b 0, .p, .p, .p]) (rest := [9, 10, 11, 12, 13, 14, 15, 16, 17, 18, 19, 20, 21, 22, 23, 24, 25, 26, 27, 28]) (ks := [4, 13, 14, 15, 27]) (env' := [(4, .pointer (some ⟨b_10, 0, none⟩)), (13, .slice A_2 l_1.length c_3), (14, .int .i64 (l_1.length : Int)), (15, .int .i64 x_7), (27, .bool (decide (((rdL l_1 x_7).Part) ≥ 4)))]) (H' := [⟨40, b_10, [.int .i64 ((rdL l_1 x_7).Part), .string (bs ((rdL l_1 x_7).Name)), .int .i64 ((rdL l_1 x_7).Budget)]⟩]) (ps := [b_10 = b_10]) (by kernel_rfl) (And.intro rfl trivial) ?_
        refine GoO.bsplit (t := 27) (by kernel_rfl) (fun h12 => ?_) (fun h12 => ?_)
        · refine GoO.exec (is := [9, 10, 11, 12, 13, 14, 15, 16, 17, 18, 19, 20, 21, 22, 23, 24, 25, 26, 27, 28]) (hs := [.p, .p, .p, .p, .p, .p, .p, .p, .p, .p, .p, .p, .p, .p, .p, .p, .p, .p, .p, .p]) (rest := []) (ks := [13, 14, 15, 47]) (env' := [(13, .slice A_2 l_1.length c_3), (14, .int .i64 (l_1.length : Int)), (15, .int .i64 x_7), (47, .bool true)]) (H' := [⟨40, b_10, [.int .i64 ((rdL l_1 x_7).Part), .string (bs ((rdL l_1 x_7).Name)), .int .i64 ((rdL l_1 x_7).Budget)]⟩]) (ps := []) (by kernel_rfl) trivial ?_
          refine GoO.regionEnd ?_
          exact GoO.sub (ks := [13, 14, 15, 47]) (hk := []) (bk := [0]) (by kernel_rfl) (by kernel_rfl) (by kernel_rfl) (plan_Check_j1_ok n (plan_Check.l0 n l_1 k) l_1 x_7 A_2 c_3 w0 S0 ih0 true)
        · refine GoO.exec (is := [9, 10, 11, 12, 13]) (hs := [.p, .b 0, .p, .p, .p]) (rest := [14, 15, 16, 17, 18, 19, 20, 21, 22, 23, 24, 25, 26, 27, 28]) (ks := [4, 13, 14, 15, 32]) (env' := [(4, .pointer (some ⟨b_10, 0, none⟩)), (13, .slice A_2 l_1.length c_3), (14, .int .i64 (l_1.length : Int)), (15, .int .i64 x_7), (32, .bool (((rdL l_1 x_7).Name) == ([] : List UInt8)))]) (H' := [⟨40, b_10, [.int .i64 ((rdL l_1 x_7).Part), .string (bs ((rdL l_1 x_7).Name)), .int .i64 ((rdL l_1 x_7).Budget)]⟩]) (ps := [b_10 = b_10]) (by kernel_rfl) (And.intro rfl trivial) ?_
          refine GoO.bsplit (t := 32) (by kernel_rfl) (fun h13 => ?_) (fun h13 => ?_)
          · refine GoO.exec (is := [14, 15, 16, 17, 18, 19, 20, 21, 22, 23, 24, 25, 26, 27, 28]) (hs := [.p, .p, .p, .p, .p, .p, .p, .p, .p, .p, .p, .p, .p, .p, .p]) (rest := []) (ks := [13, 14, 15, 47]) (env' := [(13, .slice A_2 l_1.length c_3), (14, .int .i64 (l_1.length : Int)), (15, .int .i64 x_7), (47, .bool true)]) (H' := [⟨40, b_10, [.int .i64 ((rdL l_1 x_7).Part), .string (bs ((rdL l_1 x_7).Name)), .int .i64 ((rdL l_1 x_7).Budget)]⟩]) (ps := []) (by kernel_rfl) trivial ?_
            refine GoO.regionEnd ?_
            exact GoO.sub (ks := [13, 14, 15, 47]) (hk := []) (bk := [0]) (by kernel_rfl) (by kernel_rfl) (by kernel_rfl) (plan_Check_j1_ok n (plan_Check.l0 n l_1 k) l_1 x_7 A_2 c_3 w0 S0 ih0 true)
          · refine GoO.exec (is := [14, 15, 16, 17, 18, 19]) (hs := [.p, .b 0, .p, .p, .p, .p]) (rest := [20, 21, 22, 23, 24, 25, 26, 27, 28]) (ks := [4, 13, 14, 15, 38]) (env' := [(4, .pointer (some ⟨b_10, 0, none⟩)), (13, .slice A_2 l_1.length c_3), (14, .int .i64 (l_1.length : Int)), (15, .int .i64 x_7), (38, .bool (decide ((((rdL l_1 x_7).Name).length : Int) > 16)))]) (H' := [⟨40, b_10, [.int .i64 ((rdL l_1 x_7).Part), .string (bs ((rdL l_1 x_7).Name)), .int .i64 ((rdL l_1 x_7).Budget)]⟩]) (ps := [b_10 = b_10]) (by kernel_rfl) (And.intro rfl trivial) ?_
            refine GoO.bsplit (t := 38) (by kernel_rfl) (fun h14 => ?_) (fun h14 => ?_)
            · refine GoO.exec (is := [20, 21, 22, 23, 24, 25, 26, 27, 28]) (hs := [.p, .p, .p, .p, .p, .p, .p, .p, .p]) (rest := []) (ks := [13, 14, 15, 47]) (env' := [(13, .slice A_2 l_1.length c_3), (14, .int .i64 (l_1.length : Int)), (15, .int .i64 x_7), (47, .bool true)]) (H' := [⟨40, b_10, [.int .i64 ((rdL l_1 x_7).Part), .string (bs ((rdL l_1 x_7).Name)), .int .i64 ((rdL l_1 x_7).Budget)]⟩]) (ps := []) (by kernel_rfl) trivial ?_
              refine GoO.regionEnd ?_
              exact GoO.sub (ks := [13, 14, 15, 47]) (hk := []) (bk := [0]) (by kernel_rfl) (by kernel_rfl) (by kernel_rfl) (plan_Check_j1_ok n (plan_Check.l0 n l_1 k) l_1 x_7 A_2 c_3 w0 S0 ih0 true)
            · refine GoO.exec (is := [20, 21, 22, 23, 24]) (hs := [.p, .b 0, .p, .p, .p]) (rest := [25, 26, 27, 28]) (ks := [4, 13, 14, 15, 43]) (env' := [(4, .pointer (some ⟨b_10, 0, none⟩)), (13, .slice A_2 l_1.length c_3), (14, .int .i64 (l_1.length : Int)), (15, .int .i64 x_7), (43, .bool (decide (((rdL l_1 x_7).Budget) < 1)))]) (H' := [⟨40, b_10, [.int .i64 ((rdL l_1 x_7).Part), .string (bs ((rdL l_1 x_7).Name)), .int .i64 ((rdL l_1 x_7).Budget)]⟩]) (ps := [b_10 = b_10]) (by kernel_rfl) (And.intro rfl trivial) ?_
              refine GoO.bsplit (t := 43) (by kernel_rfl) (fun h15 => ?_) (fun h15 => ?_)
              · refine GoO.exec (is := [25, 26, 27, 28]) (hs := [.p, .p, .p, .p]) (rest := []) (ks := [13, 14, 15, 47]) (env' := [(13, .slice A_2 l_1.length c_3), (14, .int .i64 (l_1.length : Int)), (15, .int .i64 x_7), (47, .bool true)]) (H' := [⟨40, b_10, [.int .i64 ((rdL l_1 x_7).Part), .string (bs ((rdL l_1 x_7).Name)), .int .i64 ((rdL l_1 x_7).Budget)]⟩]) (ps := []) (by kernel_rfl) trivial ?_
                refine GoO.regionEnd ?_
                exact GoO.sub (ks := [13, 14, 15, 47]) (hk := []) (bk := [0]) (by kernel_rfl) (by kernel_rfl) (by kernel_rfl) (plan_Check_j1_ok n (plan_Check.l0 n l_1 k) l_1 x_7 A_2 c_3 w0 S0 ih0 true)
              · refine GoO.exec (is := [25, 26, 27, 28]) (hs := [.p, .b 0, .p, .p]) (rest := []) (ks := [13, 14, 15, 47]) (env' := [(13, .slice A_2 l_1.length c_3), (14, .int .i64 (l_1.length : Int)), (15, .int .i64 x_7), (47, .bool (decide (((rdL l_1 x_7).Budget) > 9)))]) (H' := [⟨40, b_10, [.int .i64 ((rdL l_1 x_7).Part), .string (bs ((rdL l_1 x_7).Name)), .int .i64 ((rdL l_1 x_7).Budget)]⟩]) (ps := [b_10 = b_10]) (by kernel_rfl) (And.intro rfl trivial) ?_
                refine GoO.regionEnd ?_
                exact GoO.sub (ks := [13, 14, 15, 47]) (hk := []) (bk := [0]) (by kernel_rfl) (by kernel_rfl) (by kernel_rfl) (plan_Check_j1_ok n (plan_Check.l0 n l_1 k) l_1 x_7 A_2 c_3 w0 S0 ih0 (decide (((rdL l_1 x_7).Budget) > 9)))
    · refine GoO.exit' c47_20e rfl ?_
      refine GoO.seq' c47_33e ?_
      refine GoO.region' (is := [0]) c47_34e (by kernel_rfl) ?_
      refine GoO.exec (is := [0]) (hs := [.p]) (rest := []) (ks := [2]) (env' := [(2, .int .i64 0)]) (H' := []) (ps := []) (by kernel_rfl) trivial ?_
      refine GoO.regionEnd ?_
      exact GoO.ret' (h := c47_35e) (hs := []) (ps := []) (hk := []) (bk := []) Try.func47 () (by kernel_rfl) trivial (by kernel_rfl) (by kernel_rfl)
theorem plan_Check_j0_ok (n : Nat) (l_1 : (List T_api_Step)) (A_2 : Option Addr) (c_3 : Nat) (w0 : World) (S0 : Fam) (b_5 : Bool) :
    GoO (plan_Check.cx A_2 c_3 w0 S0) [(0, .slice A_2 l_1.length c_3), (12, .bool b_5)] [] [Rd 0 kT_api_Step A_2 c_3 l_1] [.code c47_5, .code c47_10] (plan_Check.j0 n l_1 b_5) := by
  unfold plan_Check.j0
  refine GoO.ite' c47_5e (by kernel_rfl) (fun h6 => ?_) (fun h6 => ?_)
  · refine GoO.seq' c47_6e ?_
    refine GoO.region' (is := [0]) c47_7e (by kernel_rfl) ?_
    refine GoO.exec (is := [0]) (hs := [.p]) (rest := []) (ks := [2]) (env' := [(2, .int .i64 44)]) (H' := []) (ps := []) (by kernel_rfl) trivial ?_
    refine GoO.regionEnd ?_
    exact GoO.ret' (h := c47_8e) (hs := []) (ps := []) (hk := []) (bk := []) Try.func47 () (by kernel_rfl) trivial (by kernel_rfl) (by kernel_rfl)
  · refine GoO.skip' c47_9e ?_
    refine GoO.seq' c47_10e ?_
    refine GoO.seq' c47_11e ?_
    refine GoO.region' (is := [0, 1, 2]) c47_12e (by kernel_rfl) ?_
    refine GoO.exec (is := [0, 1, 2]) (hs := [.p, .p, .p]) (rest := []) (ks := [13, 14, 15]) (env' := [(13, .slice A_2 l_1.length c_3), (14, .int .i64 (l_1.length : Int)), (15, .int .i64 0)]) (H' := []) (ps := []) (by kernel_rfl) trivial ?_
    refine GoO.regionEnd ?_
    refine GoO.block' c47_13e ?_
    refine GoO.loop' c47_14e ?_
    exact GoO.sub (ks := [13, 14, 15]) (hk := []) (bk := [0]) (by kernel_rfl) (by kernel_rfl) (by kernel_rfl) (plan_Check_l0_ok n l_1 A_2 c_3 w0 S0 n 0)
theorem plan_Check_ok (n : Nat) (l_1 : (List T_api_Step)) (A_2 : Option Addr) (c_3 : Nat) :
    Meets Try.prog 47 [.slice A_2 l_1.length c_3] 0 [] [] [Rd 0 kT_api_Step A_2 c_3 l_1] (plan_Check.f n l_1) (plan_Check.R A_2 c_3) := by
  refine Meets.of (c := c47_0) (n := 49) Try.func47 (by kernel_rfl) (by kernel_rfl) (by kernel_rfl) fun w0 S0 => ?_
  unfold plan_Check.f
  show GoO (plan_Check.cx A_2 c_3 w0 S0) [(0, .slice A_2 l_1.length c_3)] [] [Rd 0 kT_api_Step A_2 c_3 l_1] [.code c47_0] _
  refine GoO.seq' c47_0e ?_
  refine GoO.region' (is := [0]) c47_1e (by kernel_rfl) ?_
  refine GoO.exec (is := [0]) (hs := [.p]) (rest := []) (ks := [0]) (env' := [(0, .slice A_2 l_1.length c_3)]) (H' := []) (ps := []) (by kernel_rfl) trivial ?_
  refine GoO.regionEnd ?_
  refine GoO.seq' c47_2e ?_
  refine GoO.seq' c47_3e ?_
  refine GoO.region' (is := [0, 1, 2, 3, 4, 5, 6, 7]) c47_4e (by kernel_rfl) ?_
  refine GoO.exec (is := [0, 1, 2, 3]) (hs := [.p, .p, .p, .p]) (rest := [4, 5, 6, 7]) (ks := [0, 8]) (env' := [(0, .slice A_2 l_1.length c_3), (8, .bool (decide ((l_1.length : Int) < 1)))]) (H' := []) (ps := []) (by kernel_rfl) trivial ?_
  refine GoO.bsplit (t := 8) (by kernel_rfl) (fun h4 => ?_) (fun h4 => ?_)
  · refine GoO.exec (is := [4, 5, 6, 7]) (hs := [.p, .p, .p, .p]) (rest := []) (ks := [0, 12]) (env' := [(0, .slice A_2 l_1.length c_3), (12, .bool true)]) (H' := []) (ps := []) (by kernel_rfl) trivial ?_
    refine GoO.regionEnd ?_
    exact GoO.sub (ks := [0, 12]) (hk := []) (bk := [0]) (by kernel_rfl) (by kernel_rfl) (by kernel_rfl) (plan_Check_j0_ok n l_1 A_2 c_3 w0 S0 true)
  · refine GoO.exec (is := [4, 5, 6, 7]) (hs := [.p, .p, .p, .p]) (rest := []) (ks := [0, 12]) (env' := [(0, .slice A_2 l_1.length c_3), (12, .bool (decide ((l_1.length : Int) > 64)))]) (H' := []) (ps := []) (by kernel_rfl) trivial ?_
    refine GoO.regionEnd ?_
    exact GoO.sub (ks := [0, 12]) (hk := []) (bk := [0]) (by kernel_rfl) (by kernel_rfl) (by kernel_rfl) (plan_Check_j0_ok n l_1 A_2 c_3 w0 S0 (decide ((l_1.length : Int) > 64)))

/-! tontine/saga.New -/
noncomputable def c30_0 : Code := bodyOf Try.f30
noncomputable def c30_1 : Code := cdL c30_0
noncomputable def c30_2 : Code := cdR c30_0
noncomputable def c30_3 : Code := cdL c30_2
noncomputable def c30_4 : Code := cdL c30_3
noncomputable def c30_5 : Code := cdR c30_3
noncomputable def c30_6 : Code := cdL c30_5
noncomputable def c30_7 : Code := cdR c30_5
noncomputable def c30_8 : Code := cdL c30_7
noncomputable def c30_9 : Code := cdL c30_8
noncomputable def c30_10 : Code := cdR c30_8
noncomputable def c30_11 : Code := cdR c30_7
noncomputable def c30_12 : Code := cdR c30_2
noncomputable def c30_13 : Code := cdL c30_12
noncomputable def c30_14 : Code := cdR c30_12
noncomputable def r30_1 : Array Oper := cdO c30_1
noncomputable def r30_4 : Array Oper := cdO c30_4
noncomputable def r30_6 : Array Oper := cdO c30_6
noncomputable def r30_9 : Array Oper := cdO c30_9
noncomputable def r30_13 : Array Oper := cdO c30_13
theorem c30_0e : c30_0 = .seq c30_1 c30_2 := by kernel_rfl
theorem c30_1e : c30_1 = .region 0 r30_1 false := by kernel_rfl
theorem c30_2e : c30_2 = .seq c30_3 c30_12 := by kernel_rfl
theorem c30_3e : c30_3 = .seq c30_4 c30_5 := by kernel_rfl
theorem c30_4e : c30_4 = .region 1 r30_4 false := by kernel_rfl
theorem c30_5e : c30_5 = .seq c30_6 c30_7 := by kernel_rfl
theorem c30_6e : c30_6 = .region 2 r30_6 false := by kernel_rfl
theorem c30_7e : c30_7 = .cond (cdC c30_7) c30_8 c30_11 := by kernel_rfl
theorem c30_8e : c30_8 = .seq c30_9 c30_10 := by kernel_rfl
theorem c30_9e : c30_9 = .region 3 r30_9 false := by kernel_rfl
theorem c30_10e : c30_10 = .ret := by kernel_rfl
theorem c30_11e : c30_11 = .skip := by kernel_rfl
theorem c30_12e : c30_12 = .seq c30_13 c30_14 := by kernel_rfl
theorem c30_13e : c30_13 = .region 4 r30_13 false := by kernel_rfl
theorem c30_14e : c30_14 = .ret := by kernel_rfl
noncomputable def saga_New.R (A_2 : Option Addr) (c_3 : Nat) : Pst (T_api_Saga × Int) where
  ε := Option Addr × Nat
  v := fun r x => .tuple ⟨[.agg ⟨[.slice x.1 r.1.Steps.length x.2, .int .i64 r.1.State, .int .i64 r.1.Cursor, .int .i64 r.1.Failed]⟩, .int .i64 r.2]⟩
  H := fun r x => []
  B := fun r x => [Rd 0 kT_api_Step x.1 x.2 r.1.Steps]
noncomputable def saga_New.cx (A_2 : Option Addr) (c_3 : Nat) (w0 : World) (S0 : Fam) : Cx (T_api_Saga × Int) := ⟨Try.prog, 30, Try.f30, 14, w0, S0, [], 0, saga_New.R A_2 c_3⟩
theorem saga_New_ok (n : Nat) (l_1 : (List T_api_Step)) (A_2 : Option Addr) (c_3 : Nat) :
    Meets Try.prog 30 [.slice A_2 l_1.length c_3] 0 [] [] [Rd 0 kT_api_Step A_2 c_3 l_1] (saga_New.f n l_1) (saga_New.R A_2 c_3) := by
  refine Meets.of (c := c30_0) (n := 14) Try.func30 (by kernel_rfl) (by kernel_rfl) (by kernel_rfl) fun w0 S0 => ?_
  unfold saga_New.f
  show GoO (saga_New.cx A_2 c_3 w0 S0) [(0, .slice A_2 l_1.length c_3)] [] [Rd 0 kT_api_Step A_2 c_3 l_1] [.code c30_0] _
  refine GoO.seq' c30_0e ?_
  refine GoO.region' (is := [0, 1]) c30_1e (by kernel_rfl) ?_
  refine OpTo.go (GoO.new rfl 40 (cs := [.slice none ([] : List T_api_Step).length 0, .int .i64 0, .int .i64 0, .int .i64 0]) (by kernel_rfl) _ (fun _ => rfl) (fun b_4 => ?_))
  refine GoO.exec (is := [1]) (hs := [.p]) (rest := []) (ks := [0, 2]) (env' := [(0, .slice A_2 l_1.length c_3), (2, .pointer (some ⟨b_4, 0, none⟩))]) (H' := [⟨40, b_4, [.slice none ([] : List T_api_Step).length 0, .int .i64 0, .int .i64 0, .int .i64 0]⟩]) (ps := []) (by kernel_rfl) trivial ?_
  refine GoO.regionEnd ?_
  refine GoO.seq' c30_2e ?_
  refine GoO.seq' c30_3e ?_
  refine GoO.region' (is := [0, 1, 2]) c30_4e (by kernel_rfl) ?_
  refine GoO.exec (is := [0]) (hs := [.p]) (rest := [1, 2]) (ks := [0, 2, 5]) (env' := [(0, .slice A_2 l_1.length c_3), (2, .pointer (some ⟨b_4, 0, none⟩)), (5, .slice A_2 l_1.length c_3)]) (H' := [⟨40, b_4, [.slice none ([] : List T_api_Step).length 0, .int .i64 0, .int .i64 0, .int .i64 0]⟩]) (ps := []) (by kernel_rfl) trivial ?_
  refine OpTo.go (GoO.call rfl (by kernel_rfl) (by kernel_rfl) (plan_Check_ok n l_1 A_2 c_3) [[0]] [] [] [(0, 0)] (hks := [0]) (bks := [0]) (by kernel_rfl) (by kernel_rfl) (by kernel_rfl) (.inl rfl) rfl rfl (by kernel_rfl) (by kernel_rfl) _ (fun _ _ => rfl) _ _ (fun _ _ => rfl) (fun _ _ => rfl) (fun _ _ => by kernel_rfl) (fun _ _ => by kernel_rfl) (fun r_5 x_10 => ?_))
  refine GoO.shape (env' := [(0, .slice A_2 l_1.length c_3), (2, .pointer (some ⟨b_4, 0, none⟩)), (5, .slice A_2 l_1.length c_3), (6, .int .i64 r_5)]) (H' := [⟨40, b_4, [.slice none ([] : List T_api_Step).length 0, .int .i64 0, .int .i64 0, .int .i64 0]⟩]) (B' := [Rd 0 kT_api_Step A_2 c_3 l_1]) (ks := [0, 2, 5, 6]) (by kernel_rfl) (by kernel_rfl) (by kernel_rfl) ?_
  refine GoO.exec (is := [2]) (hs := [.p]) (rest := []) (ks := [0, 2, 4]) (env' := [(0, .slice A_2 l_1.length c_3), (2, .pointer (some ⟨b_4, 0, none⟩)), (4, .int .i64 r_5)]) (H' := [⟨40, b_4, [.slice none ([] : List T_api_Step).length 0, .int .i64 0, .int .i64 0, .int .i64 0]⟩]) (ps := []) (by kernel_rfl) trivial ?_
  refine GoO.regionEnd ?_
  refine GoO.seq' c30_5e ?_
  refine GoO.region' (is := [0, 1]) c30_6e (by kernel_rfl) ?_
  refine GoO.exec (is := [0, 1]) (hs := [.p, .p]) (rest := []) (ks := [0, 2, 4, 8]) (env' := [(0, .slice A_2 l_1.length c_3), (2, .pointer (some ⟨b_4, 0, none⟩)), (4, .int .i64 r_5), (8, .bool (r_5 != 0))]) (H' := [⟨40, b_4, [.slice none ([] : List T_api_Step).length 0, .int .i64 0, .int .i64 0, .int .i64 0]⟩]) (ps := []) (by kernel_rfl) trivial ?_
  refine GoO.regionEnd ?_
  refine GoO.ite' c30_7e (by kernel_rfl) (fun h6 => ?_) (fun h6 => ?_)
  · refine GoO.seq' c30_8e ?_
    refine GoO.region' (is := [0, 1, 2, 3]) c30_9e (by kernel_rfl) ?_
    refine GoO.exec (is := [0, 1, 2, 3]) (hs := [.p, .p, .b 0, .p]) (rest := []) (ks := [2, 3]) (env' := [(2, .pointer (some ⟨b_4, 0, none⟩)), (3, .int .i64 r_5)]) (H' := [⟨40, b_4, [.slice none ([] : List T_api_Step).length 0, .int .i64 0, .int .i64 0, .int .i64 0]⟩]) (ps := [b_4 = b_4]) (by kernel_rfl) (And.intro rfl trivial) ?_
    refine GoO.regionEnd ?_
    refine GoO.nilRd kT_api_Step ?_
    exact GoO.ret' (h := c30_10e) (hs := [0]) (ps := [b_4 = b_4]) (hk := []) (bk := [0]) Try.func30 (⟨none, 0⟩ : Option Addr × Nat) (by kernel_rfl) (And.intro rfl trivial) (by kernel_rfl) (by kernel_rfl)
  · refine GoO.skip' c30_11e ?_
    refine GoO.seq' c30_12e ?_
    refine GoO.region' (is := [0, 1, 2, 3, 4]) c30_13e (by kernel_rfl) ?_
    refine GoO.exec (is := [0]) (hs := [.p]) (rest := [1, 2, 3, 4]) (ks := [2, 11]) (env' := [(2, .pointer (some ⟨b_4, 0, none⟩)), (11, .slice A_2 l_1.length c_3)]) (H' := [⟨40, b_4, [.slice none ([] : List T_api_Step).length 0, .int .i64 0, .int .i64 0, .int .i64 0]⟩]) (ps := []) (by kernel_rfl) trivial ?_
    refine GoO.nilOwn kT_api_Step 41 ?_
    refine GoO.guard (fun h7 => ?_)
    refine OpTo.go (GoO.appW (e := 50) (K := kT_api_Step) (A := none) (c := 0) (tg := 41) (bytes := 32) (zs := [.int .i64 0, .string (bs []), .int .i64 0]) (xs := ([] : List T_api_Step)) (ys := l_1) (xv := .slice A_2 l_1.length c_3) (j := 0) (bk := [1]) rfl (by kernel_rfl) (by kernel_rfl) (by kernel_rfl) (by kernel_rfl) rfl (by kernel_rfl) rfl (fun w S hB => SrcIs.row (Reads.rd w S (hB _ (List.mem_of_getElem? (i := 1) rfl)))) h7 rfl rfl rfl rfl _ (fun _ _ => rfl) (fun A_8 c_9 => ?_))
    refine GoO.exec (is := [2, 3, 4]) (hs := [.p, .b 0, .p]) (rest := []) (ks := [2, 3]) (env' := [(2, .pointer (some ⟨b_4, 0, none⟩)), (3, .int .i64 0)]) (H' := [⟨40, b_4, [.slice A_8 (([] : List T_api_Step) ++ l_1).length c_9, .int .i64 1, .int .i64 0, .int .i64 0]⟩]) (ps := [b_4 = b_4]) (by kernel_rfl) (And.intro rfl trivial) ?_
    refine GoO.regionEnd ?_
    refine GoO.retag (t := 41) (u := 0) (j := 0) (hk := [0]) (bk := [1]) rfl rfl rfl rfl rfl rfl (by kernel_rfl) (by kernel_rfl) ?_
    refine GoO.own2rd (j := 0) rfl ?_
    exact GoO.ret' (h := c30_14e) (hs := [0]) (ps := [b_4 = b_4]) (hk := []) (bk := [0]) Try.func30 (⟨A_8, c_9⟩ : Option Addr × Nat) (by kernel_rfl) (And.intro rfl trivial) (by kernel_rfl) (by kernel_rfl)

/-! tontine/saga.Sound -/
noncomputable def c28_0 : Code := bodyOf Try.f28
noncomputable def c28_1 : Code := cdL c28_0
noncomputable def c28_2 : Code := cdR c28_0
noncomputable def c28_3 : Code := cdL c28_2
noncomputable def c28_4 : Code := cdL c28_3
noncomputable def c28_5 : Code := cdR c28_3
noncomputable def c28_6 : Code := cdL c28_5
noncomputable def c28_7 : Code := cdL c28_6
noncomputable def c28_8 : Code := cdR c28_6
noncomputable def c28_9 : Code := cdR c28_5
noncomputable def c28_10 : Code := cdR c28_2
noncomputable def c28_11 : Code := cdL c28_10
noncomputable def c28_12 : Code := cdR c28_10
noncomputable def c28_13 : Code := cdL c28_12
noncomputable def c28_14 : Code := cdL c28_13
noncomputable def c28_15 : Code := cdR c28_13
noncomputable def c28_16 : Code := cdL c28_15
noncomputable def c28_17 : Code := cdL c28_16
noncomputable def c28_18 : Code := cdR c28_16
noncomputable def c28_19 : Code := cdL c28_18
noncomputable def c28_20 : Code := cdL c28_19
noncomputable def c28_21 : Code := cdR c28_19
noncomputable def c28_22 : Code := cdR c28_18
noncomputable def c28_23 : Code := cdL c28_22
noncomputable def c28_24 : Code := cdR c28_22
noncomputable def c28_25 : Code := cdL c28_24
noncomputable def c28_26 : Code := cdL c28_25
noncomputable def c28_27 : Code := cdR c28_25
noncomputable def c28_28 : Code := cdR c28_24
noncomputable def c28_29 : Code := cdL c28_28
noncomputable def c28_30 : Code := cdR c28_28
noncomputable def c28_31 : Code := cdL c28_30
noncomputable def c28_32 : Code := cdL c28_31
noncomputable def c28_33 : Code := cdR c28_31
noncomputable def c28_34 : Code := cdR c28_30
noncomputable def c28_35 : Code := cdL c28_34
noncomputable def c28_36 : Code := cdR c28_34
noncomputable def c28_37 : Code := cdL c28_36
noncomputable def c28_38 : Code := cdL c28_37
noncomputable def c28_39 : Code := cdR c28_37
noncomputable def c28_40 : Code := cdR c28_36
noncomputable def c28_41 : Code := cdL c28_40
noncomputable def c28_42 : Code := cdR c28_40
noncomputable def c28_43 : Code := cdL c28_42
noncomputable def c28_44 : Code := cdL c28_43
noncomputable def c28_45 : Code := cdR c28_43
noncomputable def c28_46 : Code := cdR c28_42
noncomputable def c28_47 : Code := cdR c28_12
noncomputable def c28_48 : Code := cdL c28_47
noncomputable def c28_49 : Code := cdR c28_47
noncomputable def r28_1 : Array Oper := cdO c28_1
noncomputable def r28_4 : Array Oper := cdO c28_4
noncomputable def r28_7 : Array Oper := cdO c28_7
noncomputable def r28_11 : Array Oper := cdO c28_11
noncomputable def r28_14 : Array Oper := cdO c28_14
noncomputable def r28_17 : Array Oper := cdO c28_17
noncomputable def r28_20 : Array Oper := cdO c28_20
noncomputable def r28_23 : Array Oper := cdO c28_23
noncomputable def r28_26 : Array Oper := cdO c28_26
noncomputable def r28_29 : Array Oper := cdO c28_29
noncomputable def r28_32 : Array Oper := cdO c28_32
noncomputable def r28_35 : Array Oper := cdO c28_35
noncomputable def r28_38 : Array Oper := cdO c28_38
noncomputable def r28_41 : Array Oper := cdO c28_41
noncomputable def r28_44 : Array Oper := cdO c28_44
noncomputable def r28_48 : Array Oper := cdO c28_48
theorem c28_0e : c28_0 = .seq c28_1 c28_2 := by kernel_rfl
theorem c28_1e : c28_1 = .region 0 r28_1 false := by kernel_rfl
theorem c28_2e : c28_2 = .seq c28_3 c28_10 := by kernel_rfl
theorem c28_3e : c28_3 = .seq c28_4 c28_5 := by kernel_rfl
theorem c28_4e : c28_4 = .region 1 r28_4 false := by kernel_rfl
theorem c28_5e : c28_5 = .cond (cdC c28_5) c28_6 c28_9 := by kernel_rfl
theorem c28_6e : c28_6 = .seq c28_7 c28_8 := by kernel_rfl
theorem c28_7e : c28_7 = .region 2 r28_7 false := by kernel_rfl
theorem c28_8e : c28_8 = .ret := by kernel_rfl
theorem c28_9e : c28_9 = .skip := by kernel_rfl
theorem c28_10e : c28_10 = .seq c28_11 c28_12 := by kernel_rfl
theorem c28_11e : c28_11 = .region 3 r28_11 false := by kernel_rfl
theorem c28_12e : c28_12 = .seq c28_13 c28_47 := by kernel_rfl
theorem c28_13e : c28_13 = .seq c28_14 c28_15 := by kernel_rfl
theorem c28_14e : c28_14 = .region 4 r28_14 false := by kernel_rfl
theorem c28_15e : c28_15 = .block 0 c28_16 := by kernel_rfl
theorem c28_16e : c28_16 = .seq c28_17 c28_18 := by kernel_rfl
theorem c28_17e : c28_17 = .region 5 r28_17 false := by kernel_rfl
theorem c28_18e : c28_18 = .cond (cdC c28_18) c28_19 c28_22 := by kernel_rfl
theorem c28_19e : c28_19 = .seq c28_20 c28_21 := by kernel_rfl
theorem c28_20e : c28_20 = .region 6 r28_20 false := by kernel_rfl
theorem c28_21e : c28_21 = .ret := by kernel_rfl
theorem c28_22e : c28_22 = .seq c28_23 c28_24 := by kernel_rfl
theorem c28_23e : c28_23 = .region 7 r28_23 false := by kernel_rfl
theorem c28_24e : c28_24 = .cond (cdC c28_24) c28_25 c28_28 := by kernel_rfl
theorem c28_25e : c28_25 = .seq c28_26 c28_27 := by kernel_rfl
theorem c28_26e : c28_26 = .region 8 r28_26 true := by kernel_rfl
theorem c28_27e : c28_27 = .ret := by kernel_rfl
theorem c28_28e : c28_28 = .seq c28_29 c28_30 := by kernel_rfl
theorem c28_29e : c28_29 = .region 9 r28_29 false := by kernel_rfl
theorem c28_30e : c28_30 = .cond (cdC c28_30) c28_31 c28_34 := by kernel_rfl
theorem c28_31e : c28_31 = .seq c28_32 c28_33 := by kernel_rfl
theorem c28_32e : c28_32 = .region 10 r28_32 false := by kernel_rfl
theorem c28_33e : c28_33 = .ret := by kernel_rfl
theorem c28_34e : c28_34 = .seq c28_35 c28_36 := by kernel_rfl
theorem c28_35e : c28_35 = .region 11 r28_35 false := by kernel_rfl
theorem c28_36e : c28_36 = .cond (cdC c28_36) c28_37 c28_40 := by kernel_rfl
theorem c28_37e : c28_37 = .seq c28_38 c28_39 := by kernel_rfl
theorem c28_38e : c28_38 = .region 12 r28_38 false := by kernel_rfl
theorem c28_39e : c28_39 = .ret := by kernel_rfl
theorem c28_40e : c28_40 = .seq c28_41 c28_42 := by kernel_rfl
theorem c28_41e : c28_41 = .region 13 r28_41 false := by kernel_rfl
theorem c28_42e : c28_42 = .cond (cdC c28_42) c28_43 c28_46 := by kernel_rfl
theorem c28_43e : c28_43 = .seq c28_44 c28_45 := by kernel_rfl
theorem c28_44e : c28_44 = .region 14 r28_44 true := by kernel_rfl
theorem c28_45e : c28_45 = .ret := by kernel_rfl
theorem c28_46e : c28_46 = .skip := by kernel_rfl
theorem c28_47e : c28_47 = .seq c28_48 c28_49 := by kernel_rfl
theorem c28_48e : c28_48 = .region 15 r28_48 false := by kernel_rfl
theorem c28_49e : c28_49 = .ret := by kernel_rfl
noncomputable def saga_Sound.R (A_2 : Option Addr) (c_3 : Nat) : Pst Bool where
  ε := Unit
  v := fun r x => .bool r
  H := fun r x => []
  B := fun r x => []
noncomputable def saga_Sound.cx (A_2 : Option Addr) (c_3 : Nat) (w0 : World) (S0 : Fam) : Cx Bool := ⟨Try.prog, 28, Try.f28, 101, w0, S0, [], 0, saga_Sound.R A_2 c_3⟩
theorem saga_Sound_j0_ok (n : Nat) (s_1 : T_api_Saga) (A_2 : Option Addr) (c_3 : Nat) (b_4 : Nat) (w0 : World) (S0 : Fam) (b_7 : Bool) :
    GoO (saga_Sound.cx A_2 c_3 w0 S0) [(1, .pointer (some ⟨b_4, 0, none⟩)), (12, .bool b_7)] [⟨40, b_4, [.slice A_2 s_1.Steps.length c_3, .int .i64 s_1.State, .int .i64 s_1.Cursor, .int .i64 s_1.Failed]⟩] [Rd 0 kT_api_Step A_2 c_3 s_1.Steps] [.code c28_5, .code c28_10] (saga_Sound.j0 n s_1 b_7) := by
  unfold saga_Sound.j0
  refine GoO.ite' c28_5e (by kernel_rfl) (fun h8 => ?_) (fun h8 => ?_)
  · refine GoO.seq' c28_6e ?_
    refine GoO.region' (is := [0]) c28_7e (by kernel_rfl) ?_
    refine GoO.exec (is := [0]) (hs := [.p]) (rest := []) (ks := [2]) (env' := [(2, .bool false)]) (H' := [⟨40, b_4, [.slice A_2 s_1.Steps.length c_3, .int .i64 s_1.State, .int .i64 s_1.Cursor, .int .i64 s_1.Failed]⟩]) (ps := []) (by kernel_rfl) trivial ?_
    refine GoO.regionEnd ?_
    exact GoO.ret' (h := c28_8e) (hs := []) (ps := []) (hk := []) (bk := []) Try.func28 () (by kernel_rfl) trivial (by kernel_rfl) (by kernel_rfl)
  · refine GoO.skip' c28_9e ?_
    refine GoO.seq' c28_10e ?_
    refine GoO.region' (is := [0, 1, 2, 3]) c28_11e (by kernel_rfl) ?_
    refine GoO.exec (is := [0, 1, 2, 3]) (hs := [.p, .b 0, .p, .p]) (rest := []) (ks := [1, 3]) (env' := [(1, .pointer (some ⟨b_4, 0, none⟩)), (3, .int .i64 (s_1.Steps.length : Int))]) (H' := [⟨40, b_4, [.slice A_2 s_1.Steps.length c_3, .int .i64 s_1.State, .int .i64 s_1.Cursor, .int .i64 s_1.Failed]⟩]) (ps := [b_4 = b_4]) (by kernel_rfl) (And.intro rfl trivial) ?_
    refine GoO.regionEnd ?_
    refine GoO.seq' c28_12e ?_
    refine GoO.seq' c28_13e ?_
    refine GoO.region' (is := [0, 1]) c28_14e (by kernel_rfl) ?_
    refine GoO.exec (is := [0, 1]) (hs := [.p, .b 0]) (rest := []) (ks := [1, 3, 17]) (env' := [(1, .pointer (some ⟨b_4, 0, none⟩)), (3, .int .i64 (s_1.Steps.length : Int)), (17, .int .i64 s_1.State)]) (H' := [⟨40, b_4, [.slice A_2 s_1.Steps.length c_3, .int .i64 s_1.State, .int .i64 s_1.Cursor, .int .i64 s_1.Failed]⟩]) (ps := [b_4 = b_4]) (by kernel_rfl) (And.intro rfl trivial) ?_
    refine GoO.regionEnd ?_
    refine GoO.block' c28_15e ?_
    refine GoO.seq' c28_16e ?_
    refine GoO.region' (is := [0, 1]) c28_17e (by kernel_rfl) ?_
    refine GoO.exec (is := [0, 1]) (hs := [.p, .p]) (rest := []) (ks := [1, 3, 17, 18]) (env' := [(1, .pointer (some ⟨b_4, 0, none⟩)), (3, .int .i64 (s_1.Steps.length : Int)), (17, .int .i64 s_1.State), (18, .bool (s_1.State == 1))]) (H' := [⟨40, b_4, [.slice A_2 s_1.Steps.length c_3, .int .i64 s_1.State, .int .i64 s_1.Cursor, .int .i64 s_1.Failed]⟩]) (ps := []) (by kernel_rfl) trivial ?_
    refine GoO.regionEnd ?_
    refine GoO.ite' c28_18e (by kernel_rfl) (fun h9 => ?_) (fun h9 => ?_)
    · refine GoO.seq' c28_19e ?_
      refine GoO.region' (is := [0, 1, 2, 3, 4, 5, 6, 7, 8, 9, 10, 11, 12, 13, 14]) c28_20e (by kernel_rfl) ?_
      refine GoO.exec (is := [0, 1, 2, 3]) (hs := [.p, .b 0, .p, .p]) (rest := [4, 5, 6, 7, 8, 9, 10, 11, 12, 13, 14]) (ks := [1, 3, 23]) (env' := [(1, .pointer (some ⟨b_4, 0, none⟩)), (3, .int .i64 (s_1.Steps.length : Int)), (23, .bool (decide (s_1.Cursor ≥ 0)))]) (H' := [⟨40, b_4, [.slice A_2 s_1.Steps.length c_3, .int .i64 s_1.State, .int .i64 s_1.Cursor, .int .i64 s_1.Failed]⟩]) (ps := [b_4 = b_4]) (by kernel_rfl) (And.intro rfl trivial) ?_
      refine GoO.bsplit (t := 23) (by kernel_rfl) (fun h10 => ?_) (fun h10 => ?_)
      · refine GoO.exec (is := [4, 5, 6, 7, 8, 9]) (hs := [.p, .b 0, .p, .p, .p, .p]) (rest := [10, 11, 12, 13, 14]) (ks := [1, 29]) (env' := [(1, .pointer (some ⟨b_4, 0, none⟩)), (29, .bool (decide (s_1.Cursor < (s_1.Steps.length : Int))))]) (H' := [⟨40, b_4, [.slice A_2 s_1.Steps.length c_3, .int .i64 s_1.State, .int .i64 s_1.Cursor, .int .i64 s_1.Failed]⟩]) (ps := [b_4 = b_4]) (by kernel_rfl) (And.intro rfl trivial) ?_
        refine GoO.bsplit (t := 29) (by kernel_rfl) (fun h11 => ?_) (fun h11 => ?_)
        · refine GoO.exec (is := [10, 11, 12, 13, 14]) (hs := [.p, .b 0, .p, .p, .p]) (rest := []) (ks := [2]) (env' := [(2, .bool (s_1.Failed == 0))]) (H' := [⟨40, b_4, [.slice A_2 s_1.Steps.length c_3, .int .i64 s_1.State, .int .i64 s_1.Cursor, .int .i64 s_1.Failed]⟩]) (ps := [b_4 = b_4]) (by kernel_rfl) (And.intro rfl trivial) ?_
          refine GoO.regionEnd ?_
          exact GoO.ret' (h := c28_21e) (hs := []) (ps := []) (hk := []) (bk := []) Try.func28 () (by kernel_rfl) trivial (by kernel_rfl) (by kernel_rfl)
        · refine GoO.exec (is := [10, 11, 12, 13, 14]) (hs := [.p, .p, .p, .p, .p]) (rest := []) (ks := [2]) (env' := [(2, .bool false)]) (H' := [⟨40, b_4, [.slice A_2 s_1.Steps.length c_3, .int .i64 s_1.State, .int .i64 s_1.Cursor, .int .i64 s_1.Failed]⟩]) (ps := []) (by kernel_rfl) trivial ?_
          refine GoO.regionEnd ?_
          exact GoO.ret' (h := c28_21e) (hs := []) (ps := []) (hk := []) (bk := []) Try.func28 () (by kernel_rfl) trivial (by kernel_rfl) (by kernel_rfl)
      · refine GoO.exec (is := [4, 5, 6, 7, 8, 9, 10, 11, 12, 13, 14]) (hs := [.p, .p, .p, .p, .p, .p, .p, .p, .p, .p, .p]) (rest := []) (ks := [2]) (env' := [(2, .bool false)]) (H' := [⟨40, b_4, [.slice A_2 s_1.Steps.length c_3, .int .i64 s_1.State, .int .i64 s_1.Cursor, .int .i64 s_1.Failed]⟩]) (ps := []) (by kernel_rfl) trivial ?_
        refine GoO.regionEnd ?_
        exact GoO.ret' (h := c28_21e) (hs := []) (ps := []) (hk := []) (bk := []) Try.func28 () (by kernel_rfl) trivial (by kernel_rfl) (by kernel_rfl)
    · refine GoO.seq' c28_22e ?_
      refine GoO.region' (is := [0, 1]) c28_23e (by kernel_rfl) ?_
      refine GoO.exec (is := [0, 1]) (hs := [.p, .p]) (rest := []) (ks := [1, 3, 17, 34]) (env' := [(1, .pointer (some ⟨b_4, 0, none⟩)), (3, .int .i64 (s_1.Steps.length : Int)), (17, .int .i64 s_1.State), (34, .bool (s_1.State == 2))]) (H' := [⟨40, b_4, [.slice A_2 s_1.Steps.length c_3, .int .i64 s_1.State, .int .i64 s_1.Cursor, .int .i64 s_1.Failed]⟩]) (ps := []) (by kernel_rfl) trivial ?_
      refine GoO.regionEnd ?_
      refine GoO.ite' c28_24e (by kernel_rfl) (fun h12 => ?_) (fun h12 => ?_)
      · refine GoO.seq' c28_25e ?_
        refine GoO.draw c28_26e (by kernel_rfl) [21] [⟨40, b_4, [.slice A_2 s_1.Steps.length c_3, .int .i64 s_1.State, .int .i64 s_1.Cursor, .int .i64 s_1.Failed]⟩] [Rd 0 kT_api_Step A_2 c_3 s_1.Steps] (n := 22) (by kernel_rfl) ?_
        simp only [List.replicate]
        refine GoF.take [0, 1, 2, 3] [.p, .b 0, .p, .p] (ks := [1, 3, 39]) (fu := 18) (li := [true, true, true, true, false, false, false, false, false, false, false, false, false, false, false, false, false, false, false, false, false, false]) (env' := [(1, .pointer (some ⟨b_4, 0, none⟩)), (3, .int .i64 (s_1.Steps.length : Int)), (39, .bool (decide (s_1.Cursor ≥ 0)))]) (ps := [b_4 = b_4]) (hk := [0]) (bk := [0]) (by kernel_rfl) (And.intro rfl trivial) rfl rfl ?_
        refine GoF.bsplit (t := 39) (by kernel_rfl) (fun h13 => ?_) (fun h13 => ?_)
        · refine GoF.take [4, 5, 6, 7, 8, 9] [.p, .b 0, .p, .p, .p, .p] (ks := [1, 45]) (fu := 12) (li := [true, true, true, true, true, true, true, true, true, true, false, false, false, false, false, false, false, false, false, false, false, false]) (env' := [(1, .pointer (some ⟨b_4, 0, none⟩)), (45, .bool (decide (s_1.Cursor < (s_1.Steps.length : Int))))]) (ps := [b_4 = b_4]) (hk := [0]) (bk := [0]) (by kernel_rfl) (And.intro rfl trivial) rfl rfl ?_
          refine GoF.bsplit (t := 45) (by kernel_rfl) (fun h14 => ?_) (fun h14 => ?_)
          · refine GoF.take [10, 11, 12, 13, 14, 15] [.p, .b 0, .p, .b 0, .p, .b 0] (ks := [45, 47, 49, 51]) (fu := 6) (li := [true, true, true, true, true, true, true, true, true, true, true, true, true, true, true, true, false, false, false, false, false, false]) (env' := [(45, .bool true), (47, .int .i64 s_1.Failed), (49, .slice A_2 s_1.Steps.length c_3), (51, .int .i64 s_1.Cursor)]) (ps := [b_4 = b_4, b_4 = b_4, b_4 = b_4]) (hk := [0]) (bk := [0]) (by kernel_rfl) (And.intro rfl (And.intro rfl (And.intro rfl trivial))) rfl rfl ?_
            refine GoF.guard (fun h15 => ?_)
            refine GoF.idx (i := 16) (hk := [0]) (bk := [0]) (kk := .i64) (e := 50) (K := kT_api_Step) (A := A_2) (c := c_3) (xs := s_1.Steps) (iv := s_1.Cursor) (j := 0) (by kernel_rfl) rfl rfl rfl (by kernel_rfl) (by kernel_rfl) (by kernel_rfl) (by kernel_rfl) rfl Reads.rd rfl h15.1 h15.2 (by decide) rfl ?_
            refine GoF.fldE (i := 17) (hk := [0]) (bk := [0]) (K := kT_api_Step) (A := A_2) (c := c_3) (xs := s_1.Steps) (iN := s_1.Cursor.toNat) (off := 0) (n := 2) (j := 0) (by kernel_rfl) rfl rfl rfl (by kernel_rfl) (by kernel_rfl) rfl Reads.rd (by first | exact idx_lt h15.1 h15.2 | (simp only [List.length_set]; exact idx_lt h15.1 h15.2)) (by decide) rfl ?_
            refine GoF.ldE (i := 18) (hk := [0]) (bk := [0]) (K := kT_api_Step) (A := A_2) (c := c_3) (xs := s_1.Steps) (iN := s_1.Cursor.toNat) (off := 2) (j := 0) (v := .int .i64 ((rdL s_1.Steps s_1.Cursor).Budget)) (by kernel_rfl) rfl rfl rfl (hK := rfl) (by kernel_rfl) rfl Reads.rd (by first | exact idx_lt h15.1 h15.2 | (simp only [List.length_set]; exact idx_lt h15.1 h15.2)) (by decide) (by kernel_rfl) rfl ?_
            refine GoF.take [19, 20] [.p, .p] (ks := [56]) (fu := 1) (li := [true, true, true, true, true, true, true, true, true, true, true, true, true, true, true, true, true, true, true, true, true, false]) (env' := [(56, .bool (decide (s_1.Failed < ((rdL s_1.Steps s_1.Cursor).Budget))))]) (ps := []) (hk := [0]) (bk := [0]) (by kernel_rfl) trivial rfl rfl ?_
            refine GoF.fin1 (i := 21) (hint := .p) (ps := []) (hk := []) (bk := []) (by kernel_rfl) rfl trivial (.inl rfl) ?_
            refine GoF.done (by kernel_rfl) ?_
            exact GoO.ret' (h := c28_27e) (hs := []) (ps := []) (hk := []) (bk := []) Try.func28 () (by kernel_rfl) trivial (by kernel_rfl) (by kernel_rfl)
          · refine GoF.take [10, 11, 12, 13, 14, 15, 16, 17, 18, 19, 20] [.p, .p, .p, .p, .p, .p, .p, .p, .p, .p, .p] (ks := [56]) (fu := 1) (li := [true, true, true, true, true, true, true, true, true, true, true, true, true, true, true, true, true, true, true, true, true, false]) (env' := [(56, .bool false)]) (ps := []) (hk := [0]) (bk := [0]) (by kernel_rfl) trivial rfl rfl ?_
            refine GoF.fin1 (i := 21) (hint := .p) (ps := []) (hk := []) (bk := []) (by kernel_rfl) rfl trivial (.inl rfl) ?_
            refine GoF.done (by kernel_rfl) ?_
            exact GoO.ret' (h := c28_27e) (hs := []) (ps := []) (hk := []) (bk := []) Try.func28 () (by kernel_rfl) trivial (by kernel_rfl) (by kernel_rfl)
        · refine GoF.take [4, 5, 6, 7, 8, 9, 10, 11, 12, 13, 14, 15, 16, 17, 18, 19, 20] [.p, .p, .p, .p, .p, .p, .p, .p, .p, .p, .p, .p, .p, .p, .p, .p, .p] (ks := [56]) (fu := 1) (li := [true, true, true, true, true, true, true, true, true, true, true, true, true, true, true, true, true, true, true, true, true, false]) (env' := [(56, .bool false)]) (ps := []) (hk := [0]) (bk := [0]) (by kernel_rfl) trivial rfl rfl ?_
          refine GoF.fin1 (i := 21) (hint := .p) (ps := []) (hk := []) (bk := []) (by kernel_rfl) rfl trivial (.inl rfl) ?_
          refine GoF.done (by kernel_rfl) ?_
          exact GoO.ret' (h := c28_27e) (hs := []) (ps := []) (hk := []) (bk := []) Try.func28 () (by kernel_rfl) trivial (by kernel_rfl) (by kernel_rfl)
      · refine GoO.seq' c28_28e ?_
        refine GoO.region' (is := [0, 1]) c28_29e (by kernel_rfl) ?_
        refine GoO.exec (is := [0, 1]) (hs := [.p, .p]) (rest := []) (ks := [1, 3, 17, 57]) (env' := [(1, .pointer (some ⟨b_4, 0, none⟩)), (3, .int .i64 (s_1.Steps.length : Int)), (17, .int .i64 s_1.State), (57, .bool (s_1.State == 3))]) (H' := [⟨40, b_4, [.slice A_2 s_1.Steps.length c_3, .int .i64 s_1.State, .int .i64 s_1.Cursor, .int .i64 s_1.Failed]⟩]) (ps := []) (by kernel_rfl) trivial ?_
        refine GoO.regionEnd ?_
        refine GoO.ite' c28_30e (by kernel_rfl) (fun h16 => ?_) (fun h16 => ?_)
        · refine GoO.seq' c28_31e ?_
          refine GoO.region' (is := [0, 1, 2, 3, 4, 5, 6, 7, 8, 9]) c28_32e (by kernel_rfl) ?_
          refine GoO.exec (is := [0, 1, 2, 3, 4]) (hs := [.p, .b 0, .p, .p, .p]) (rest := [5, 6, 7, 8, 9]) (ks := [1, 63]) (env' := [(1, .pointer (some ⟨b_4, 0, none⟩)), (63, .bool (s_1.Cursor == (s_1.Steps.length : Int)))]) (H' := [⟨40, b_4, [.slice A_2 s_1.Steps.length c_3, .int .i64 s_1.State, .int .i64 s_1.Cursor, .int .i64 s_1.Failed]⟩]) (ps := [b_4 = b_4]) (by kernel_rfl) (And.intro rfl trivial) ?_
          refine GoO.bsplit (t := 63) (by kernel_rfl) (fun h17 => ?_) (fun h17 => ?_)
          · refine GoO.exec (is := [5, 6, 7, 8, 9]) (hs := [.p, .b 0, .p, .p, .p]) (rest := []) (ks := [2]) (env' := [(2, .bool (s_1.Failed == 0))]) (H' := [⟨40, b_4, [.slice A_2 s_1.Steps.length c_3, .int .i64 s_1.State, .int .i64 s_1.Cursor, .int .i64 s_1.Failed]⟩]) (ps := [b_4 = b_4]) (by kernel_rfl) (And.intro rfl trivial) ?_
            refine GoO.regionEnd ?_
            exact GoO.ret' (h := c28_33e) (hs := []) (ps := []) (hk := []) (bk := []) Try.func28 () (by kernel_rfl) trivial (by kernel_rfl) (by kernel_rfl)
          · refine GoO.exec (is := [5, 6, 7, 8, 9]) (hs := [.p, .p, .p, .p, .p]) (rest := []) (ks := [2]) (env' := [(2, .bool false)]) (H' := [⟨40, b_4, [.slice A_2 s_1.Steps.length c_3, .int .i64 s_1.State, .int .i64 s_1.Cursor, .int .i64 s_1.Failed]⟩]) (ps := []) (by kernel_rfl) trivial ?_
            refine GoO.regionEnd ?_
            exact GoO.ret' (h := c28_33e) (hs := []) (ps := []) (hk := []) (bk := []) Try.func28 () (by kernel_rfl) trivial (by kernel_rfl) (by kernel_rfl)
        · refine GoO.seq' c28_34e ?_
          refine GoO.region' (is := [0, 1]) c28_35e (by kernel_rfl) ?_
          refine GoO.exec (is := [0, 1]) (hs := [.p, .p]) (rest := []) (ks := [1, 3, 17, 68]) (env' := [(1, .pointer (some ⟨b_4, 0, none⟩)), (3, .int .i64 (s_1.Steps.length : Int)), (17, .int .i64 s_1.State), (68, .bool (s_1.State == 4))]) (H' := [⟨40, b_4, [.slice A_2 s_1.Steps.length c_3, .int .i64 s_1.State, .int .i64 s_1.Cursor, .int .i64 s_1.Failed]⟩]) (ps := []) (by kernel_rfl) trivial ?_
          refine GoO.regionEnd ?_
          refine GoO.ite' c28_36e (by kernel_rfl) (fun h18 => ?_) (fun h18 => ?_)
          · refine GoO.seq' c28_37e ?_
            refine GoO.region' (is := [0, 1, 2, 3, 4, 5, 6, 7, 8]) c28_38e (by kernel_rfl) ?_
            refine GoO.exec (is := [0, 1, 2, 3]) (hs := [.p, .b 0, .p, .p]) (rest := [4, 5, 6, 7, 8]) (ks := [1, 73]) (env' := [(1, .pointer (some ⟨b_4, 0, none⟩)), (73, .bool (s_1.Cursor == 0))]) (H' := [⟨40, b_4, [.slice A_2 s_1.Steps.length c_3, .int .i64 s_1.State, .int .i64 s_1.Cursor, .int .i64 s_1.Failed]⟩]) (ps := [b_4 = b_4]) (by kernel_rfl) (And.intro rfl trivial) ?_
            refine GoO.bsplit (t := 73) (by kernel_rfl) (fun h19 => ?_) (fun h19 => ?_)
            · refine GoO.exec (is := [4, 5, 6, 7, 8]) (hs := [.p, .b 0, .p, .p, .p]) (rest := []) (ks := [2]) (env' := [(2, .bool (s_1.Failed == 0))]) (H' := [⟨40, b_4, [.slice A_2 s_1.Steps.length c_3, .int .i64 s_1.State, .int .i64 s_1.Cursor, .int .i64 s_1.Failed]⟩]) (ps := [b_4 = b_4]) (by kernel_rfl) (And.intro rfl trivial) ?_
              refine GoO.regionEnd ?_
              exact GoO.ret' (h := c28_39e) (hs := []) (ps := []) (hk := []) (bk := []) Try.func28 () (by kernel_rfl) trivial (by kernel_rfl) (by kernel_rfl)
            · refine GoO.exec (is := [4, 5, 6, 7, 8]) (hs := [.p, .p, .p, .p, .p]) (rest := []) (ks := [2]) (env' := [(2, .bool false)]) (H' := [⟨40, b_4, [.slice A_2 s_1.Steps.length c_3, .int .i64 s_1.State, .int .i64 s_1.Cursor, .int .i64 s_1.Failed]⟩]) (ps := []) (by kernel_rfl) trivial ?_
              refine GoO.regionEnd ?_
              exact GoO.ret' (h := c28_39e) (hs := []) (ps := []) (hk := []) (bk := []) Try.func28 () (by kernel_rfl) trivial (by kernel_rfl) (by kernel_rfl)
          · refine GoO.seq' c28_40e ?_
            refine GoO.region' (is := [0, 1]) c28_41e (by kernel_rfl) ?_
            refine GoO.exec (is := [0, 1]) (hs := [.p, .p]) (rest := []) (ks := [1, 3, 78]) (env' := [(1, .pointer (some ⟨b_4, 0, none⟩)), (3, .int .i64 (s_1.Steps.length : Int)), (78, .bool (s_1.State == 5))]) (H' := [⟨40, b_4, [.slice A_2 s_1.Steps.length c_3, .int .i64 s_1.State, .int .i64 s_1.Cursor, .int .i64 s_1.Failed]⟩]) (ps := []) (by kernel_rfl) trivial ?_
            refine GoO.regionEnd ?_
            refine GoO.ite' c28_42e (by kernel_rfl) (fun h20 => ?_) (fun h20 => ?_)
            · refine GoO.seq' c28_43e ?_
              refine GoO.draw c28_44e (by kernel_rfl) [21] [⟨40, b_4, [.slice A_2 s_1.Steps.length c_3, .int .i64 s_1.State, .int .i64 s_1.Cursor, .int .i64 s_1.Failed]⟩] [Rd 0 kT_api_Step A_2 c_3 s_1.Steps] (n := 22) (by kernel_rfl) ?_
              simp only [List.replicate]
              refine GoF.take [0, 1, 2, 3] [.p, .b 0, .p, .p] (ks := [1, 3, 83]) (fu := 18) (li := [true, true, true, true, false, false, false, false, false, false, false, false, false, false, false, false, false, false, false, false, false, false]) (env' := [(1, .pointer (some ⟨b_4, 0, none⟩)), (3, .int .i64 (s_1.Steps.length : Int)), (83, .bool (decide (s_1.Cursor ≥ 0)))]) (ps := [b_4 = b_4]) (hk := [0]) (bk := [0]) (by kernel_rfl) (And.intro rfl trivial) rfl rfl ?_
              refine GoF.bsplit (t := 83) (by kernel_rfl) (fun h21 => ?_) (fun h21 => ?_)
              · refine GoF.take [4, 5, 6, 7, 8, 9] [.p, .b 0, .p, .p, .p, .p] (ks := [1, 89]) (fu := 12) (li := [true, true, true, true, true, true, true, true, true, true, false, false, false, false, false, false, false, false, false, false, false, false]) (env' := [(1, .pointer (some ⟨b_4, 0, none⟩)), (89, .bool (decide (s_1.Cursor < (s_1.Steps.length : Int))))]) (ps := [b_4 = b_4]) (hk := [0]) (bk := [0]) (by kernel_rfl) (And.intro rfl trivial) rfl rfl ?_
                refine GoF.bsplit (t := 89) (by kernel_rfl) (fun h22 => ?_) (fun h22 => ?_)
                · refine GoF.take [10, 11, 12, 13, 14, 15] [.p, .b 0, .p, .b 0, .p, .b 0] (ks := [89, 91, 93, 95]) (fu := 6) (li := [true, true, true, true, true, true, true, true, true, true, true, true, true, true, true, true, false, false, false, false, false, false]) (env' := [(89, .bool true), (91, .int .i64 s_1.Failed), (93, .slice A_2 s_1.Steps.length c_3), (95, .int .i64 s_1.Cursor)]) (ps := [b_4 = b_4, b_4 = b_4, b_4 = b_4]) (hk := [0]) (bk := [0]) (by kernel_rfl) (And.intro rfl (And.intro rfl (And.intro rfl trivial))) rfl rfl ?_
                  refine GoF.guard (fun h23 => ?_)
                  refine GoF.idx (i := 16) (hk := [0]) (bk := [0]) (kk := .i64) (e := 50) (K := kT_api_Step) (A := A_2) (c := c_3) (xs := s_1.Steps) (iv := s_1.Cursor) (j := 0) (by kernel_rfl) rfl rfl rfl (by kernel_rfl) (by kernel_rfl) (by kernel_rfl) (by kernel_rfl) rfl Reads.rd rfl h23.1 h23.2 (by decide) rfl ?_
                  refine GoF.fldE (i := 17) (hk := [0]) (bk := [0]) (K := kT_api_Step) (A := A_2) (c := c_3) (xs := s_1.Steps) (iN := s_1.Cursor.toNat) (off := 0) (n := 2) (j := 0) (by kernel_rfl) rfl rfl rfl (by kernel_rfl) (by kernel_rfl) rfl Reads.rd (by first | exact idx_lt h23.1 h23.2 | (simp only [List.length_set]; exact idx_lt h23.1 h23.2)) (by decide) rfl ?_
                  refine GoF.ldE (i := 18) (hk := [0]) (bk := [0]) (K := kT_api_Step) (A := A_2) (c := c_3) (xs := s_1.Steps) (iN := s_1.Cursor.toNat) (off := 2) (j := 0) (v := .int .i64 ((rdL s_1.Steps s_1.Cursor).Budget)) (by kernel_rfl) rfl rfl rfl (hK := rfl) (by kernel_rfl) rfl Reads.rd (by first | exact idx_lt h23.1 h23.2 | (simp only [List.length_set]; exact idx_lt h23.1 h23.2)) (by decide) (by kernel_rfl) rfl ?_
                  refine GoF.take [19, 20] [.p, .p] (ks := [100]) (fu := 1) (li := [true, true, true, true, true, true, true, true, true, true, true, true, true, true, true, true, true, true, true, true, true, false]) (env' := [(100, .bool (s_1.Failed == ((rdL s_1.Steps s_1.Cursor).Budget)))]) (ps := []) (hk := [0]) (bk := [0]) (by kernel_rfl) trivial rfl rfl ?_
                  refine GoF.fin1 (i := 21) (hint := .p) (ps := []) (hk := []) (bk := []) (by kernel_rfl) rfl trivial (.inl rfl) ?_
                  refine GoF.done (by kernel_rfl) ?_
                  exact GoO.ret' (h := c28_45e) (hs := []) (ps := []) (hk := []) (bk := []) Try.func28 () (by kernel_rfl) trivial (by kernel_rfl) (by kernel_rfl)
                · refine GoF.take [10, 11, 12, 13, 14, 15, 16, 17, 18, 19, 20] [.p, .p, .p, .p, .p, .p, .p, .p, .p, .p, .p] (ks := [100]) (fu := 1) (li := [true, true, true, true, true, true, true, true, true, true, true, true, true, true, true, true, true, true, true, true, true, false]) (env' := [(100, .bool false)]) (ps := []) (hk := [0]) (bk := [0]) (by kernel_rfl) trivial rfl rfl ?_
                  refine GoF.fin1 (i := 21) (hint := .p) (ps := []) (hk := []) (bk := []) (by kernel_rfl) rfl trivial (.inl rfl) ?_
                  refine GoF.done (by kernel_rfl) ?_
                  exact GoO.ret' (h := c28_45e) (hs := []) (ps := []) (hk := []) (bk := []) Try.func28 () (by kernel_rfl) trivial (by kernel_rfl) (by kernel_rfl)
              · refine GoF.take [4, 5, 6, 7, 8, 9, 10, 11, 12, 13, 14, 15, 16, 17, 18, 19, 20] [.p, .p, .p, .p, .p, .p, .p, .p, .p, .p, .p, .p, .p, .p, .p, .p, .p] (ks := [100]) (fu := 1) (li := [true, true, true, true, true, true, true, true, true, true, true, true, true, true, true, true, true, true, true, true, true, false]) (env' := [(100, .bool false)]) (ps := []) (hk := [0]) (bk := [0]) (by kernel_rfl) trivial rfl rfl ?_
                refine GoF.fin1 (i := 21) (hint := .p) (ps := []) (hk := []) (bk := []) (by kernel_rfl) rfl trivial (.inl rfl) ?_
                refine GoF.done (by kernel_rfl) ?_
                exact GoO.ret' (h := c28_45e) (hs := []) (ps := []) (hk := []) (bk := []) Try.func28 () (by kernel_rfl) trivial (by kernel_rfl) (by kernel_rfl)
            · refine GoO.skip' c28_46e ?_
              refine GoO.inBlock ?_
              refine GoO.seq' c28_47e ?_
              refine GoO.region' (is := [0]) c28_48e (by kernel_rfl) ?_
              refine GoO.exec (is := [0]) (hs := [.p]) (rest := []) (ks := [2]) (env' := [(2, .bool false)]) (H' := [⟨40, b_4, [.slice A_2 s_1.Steps.length c_3, .int .i64 s_1.State, .int .i64 s_1.Cursor, .int .i64 s_1.Failed]⟩]) (ps := []) (by kernel_rfl) trivial ?_
              refine GoO.regionEnd ?_
              exact GoO.ret' (h := c28_49e) (hs := []) (ps := []) (hk := []) (bk := []) Try.func28 () (by kernel_rfl) trivial (by kernel_rfl) (by kernel_rfl)
theorem saga_Sound_ok (n : Nat) (s_1 : T_api_Saga) (A_2 : Option Addr) (c_3 : Nat) :
    Meets Try.prog 28 [.agg ⟨[.slice A_2 s_1.Steps.length c_3, .int .i64 s_1.State, .int .i64 s_1.Cursor, .int .i64 s_1.Failed]⟩] 0 [] [] [Rd 0 kT_api_Step A_2 c_3 s_1.Steps] (saga_Sound.f n s_1) (saga_Sound.R A_2 c_3) := by
  refine Meets.of (c := c28_0) (n := 101) Try.func28 (by kernel_rfl) (by kernel_rfl) (by kernel_rfl) fun w0 S0 => ?_
  unfold saga_Sound.f
  show GoO (saga_Sound.cx A_2 c_3 w0 S0) [(0, .agg ⟨[.slice A_2 s_1.Steps.length c_3, .int .i64 s_1.State, .int .i64 s_1.Cursor, .int .i64 s_1.Failed]⟩)] [] [Rd 0 kT_api_Step A_2 c_3 s_1.Steps] [.code c28_0] _
  refine GoO.seq' c28_0e ?_
  refine GoO.region' (is := [0, 1]) c28_1e (by kernel_rfl) ?_
  refine OpTo.go (GoO.new rfl 40 (cs := [.slice A_2 s_1.Steps.length c_3, .int .i64 s_1.State, .int .i64 s_1.Cursor, .int .i64 s_1.Failed]) (by kernel_rfl) _ (fun _ => rfl) (fun b_4 => ?_))
  refine GoO.exec (is := [1]) (hs := [.p]) (rest := []) (ks := [1]) (env' := [(1, .pointer (some ⟨b_4, 0, none⟩))]) (H' := [⟨40, b_4, [.slice A_2 s_1.Steps.length c_3, .int .i64 s_1.State, .int .i64 s_1.Cursor, .int .i64 s_1.Failed]⟩]) (ps := []) (by kernel_rfl) trivial ?_
  refine GoO.regionEnd ?_
  refine GoO.seq' c28_2e ?_
  refine GoO.seq' c28_3e ?_
  refine GoO.region' (is := [0, 1, 2, 3, 4, 5, 6, 7, 8]) c28_4e (by kernel_rfl) ?_
  refine GoO.exec (is := [0, 1]) (hs := [.p, .b 0]) (rest := [2, 3, 4, 5, 6, 7, 8]) (ks := [1, 5]) (env' := [(1, .pointer (some ⟨b_4, 0, none⟩)), (5, .slice A_2 s_1.Steps.length c_3)]) (H' := [⟨40, b_4, [.slice A_2 s_1.Steps.length c_3, .int .i64 s_1.State, .int .i64 s_1.Cursor, .int .i64 s_1.Failed]⟩]) (ps := [b_4 = b_4]) (by kernel_rfl) (And.intro rfl trivial) ?_
  refine OpTo.go (GoO.call rfl (by kernel_rfl) (by kernel_rfl) (plan_Check_ok n s_1.Steps A_2 c_3) [[0]] [] [] [(0, 0)] (hks := [0]) (bks := [0]) (by kernel_rfl) (by kernel_rfl) (by kernel_rfl) (.inl rfl) rfl rfl (by kernel_rfl) (by kernel_rfl) _ (fun _ _ => rfl) _ _ (fun _ _ => rfl) (fun _ _ => rfl) (fun _ _ => by kernel_rfl) (fun _ _ => by kernel_rfl) (fun r_5 x_7 => ?_))
  refine GoO.shape (env' := [(1, .pointer (some ⟨b_4, 0, none⟩)), (5, .slice A_2 s_1.Steps.length c_3), (6, .int .i64 r_5)]) (H' := [⟨40, b_4, [.slice A_2 s_1.Steps.length c_3, .int .i64 s_1.State, .int .i64 s_1.Cursor, .int .i64 s_1.Failed]⟩]) (B' := [Rd 0 kT_api_Step A_2 c_3 s_1.Steps]) (ks := [1, 5, 6]) (by kernel_rfl) (by kernel_rfl) (by kernel_rfl) ?_
  refine GoO.exec (is := [3, 4]) (hs := [.p, .p]) (rest := [5, 6, 7, 8]) (ks := [1, 8]) (env' := [(1, .pointer (some ⟨b_4, 0, none⟩)), (8, .bool (r_5 != 0))]) (H' := [⟨40, b_4, [.slice A_2 s_1.Steps.length c_3, .int .i64 s_1.State, .int .i64 s_1.Cursor, .int .i64 s_1.Failed]⟩]) (ps := []) (by kernel_rfl) trivial ?_
  refine GoO.bsplit (t := 8) (by kernel_rfl) (fun h6 => ?_) (fun h6 => ?_)
  · refine GoO.exec (is := [5, 6, 7, 8]) (hs := [.p, .p, .p, .p]) (rest := []) (ks := [1, 12]) (env' := [(1, .pointer (some ⟨b_4, 0, none⟩)), (12, .bool true)]) (H' := [⟨40, b_4, [.slice A_2 s_1.Steps.length c_3, .int .i64 s_1.State, .int .i64 s_1.Cursor, .int .i64 s_1.Failed]⟩]) (ps := []) (by kernel_rfl) trivial ?_
    refine GoO.regionEnd ?_
    exact GoO.sub (ks := [1, 12]) (hk := [0]) (bk := [0]) (by kernel_rfl) (by kernel_rfl) (by kernel_rfl) (saga_Sound_j0_ok n s_1 A_2 c_3 b_4 w0 S0 true)
  · refine GoO.exec (is := [5, 6, 7, 8]) (hs := [.p, .b 0, .p, .p]) (rest := []) (ks := [1, 12]) (env' := [(1, .pointer (some ⟨b_4, 0, none⟩)), (12, .bool (decide (s_1.Failed < 0)))]) (H' := [⟨40, b_4, [.slice A_2 s_1.Steps.length c_3, .int .i64 s_1.State, .int .i64 s_1.Cursor, .int .i64 s_1.Failed]⟩]) (ps := [b_4 = b_4]) (by kernel_rfl) (And.intro rfl trivial) ?_
    refine GoO.regionEnd ?_
    exact GoO.sub (ks := [1, 12]) (hk := [0]) (bk := [0]) (by kernel_rfl) (by kernel_rfl) (by kernel_rfl) (saga_Sound_j0_ok n s_1 A_2 c_3 b_4 w0 S0 (decide (s_1.Failed < 0)))

/-! tontine/saga.Ended -/
noncomputable def c29_0 : Code := bodyOf Try.f29
noncomputable def c29_1 : Code := cdL c29_0
noncomputable def c29_2 : Code := cdR c29_0
noncomputable def c29_3 : Code := cdL c29_2
noncomputable def c29_4 : Code := cdR c29_2
noncomputable def r29_1 : Array Oper := cdO c29_1
noncomputable def r29_3 : Array Oper := cdO c29_3
theorem c29_0e : c29_0 = .seq c29_1 c29_2 := by kernel_rfl
theorem c29_1e : c29_1 = .region 0 r29_1 false := by kernel_rfl
theorem c29_2e : c29_2 = .seq c29_3 c29_4 := by kernel_rfl
theorem c29_3e : c29_3 = .region 1 r29_3 false := by kernel_rfl
theorem c29_4e : c29_4 = .ret := by kernel_rfl
noncomputable def saga_Ended.R (A_2 : Option Addr) (c_3 : Nat) : Pst Bool where
  ε := Unit
  v := fun r x => .bool r
  H := fun r x => []
  B := fun r x => []
noncomputable def saga_Ended.cx (A_2 : Option Addr) (c_3 : Nat) (w0 : World) (S0 : Fam) : Cx Bool := ⟨Try.prog, 29, Try.f29, 11, w0, S0, [], 0, saga_Ended.R A_2 c_3⟩
theorem saga_Ended_ok (n : Nat) (s_1 : T_api_Saga) (A_2 : Option Addr) (c_3 : Nat) :
    Meets Try.prog 29 [.agg ⟨[.slice A_2 s_1.Steps.length c_3, .int .i64 s_1.State, .int .i64 s_1.Cursor, .int .i64 s_1.Failed]⟩] 0 [] [] [Rd 0 kT_api_Step A_2 c_3 s_1.Steps] (saga_Ended.f n s_1) (saga_Ended.R A_2 c_3) := by
  refine Meets.of (c := c29_0) (n := 11) Try.func29 (by kernel_rfl) (by kernel_rfl) (by kernel_rfl) fun w0 S0 => ?_
  unfold saga_Ended.f
  show GoO (saga_Ended.cx A_2 c_3 w0 S0) [(0, .agg ⟨[.slice A_2 s_1.Steps.length c_3, .int .i64 s_1.State, .int .i64 s_1.Cursor, .int .i64 s_1.Failed]⟩)] [] [Rd 0 kT_api_Step A_2 c_3 s_1.Steps] [.code c29_0] _
  refine GoO.seq' c29_0e ?_
  refine GoO.region' (is := [0, 1]) c29_1e (by kernel_rfl) ?_
  refine OpTo.go (GoO.new rfl 40 (cs := [.slice A_2 s_1.Steps.length c_3, .int .i64 s_1.State, .int .i64 s_1.Cursor, .int .i64 s_1.Failed]) (by kernel_rfl) _ (fun _ => rfl) (fun b_4 => ?_))
  refine GoO.exec (is := [1]) (hs := [.p]) (rest := []) (ks := [1]) (env' := [(1, .pointer (some ⟨b_4, 0, none⟩))]) (H' := [⟨40, b_4, [.slice A_2 s_1.Steps.length c_3, .int .i64 s_1.State, .int .i64 s_1.Cursor, .int .i64 s_1.Failed]⟩]) (ps := []) (by kernel_rfl) trivial ?_
  refine GoO.regionEnd ?_
  refine GoO.seq' c29_2e ?_
  refine GoO.region' (is := [0, 1, 2, 3, 4, 5, 6, 7, 8]) c29_3e (by kernel_rfl) ?_
  refine GoO.exec (is := [0, 1, 2, 3]) (hs := [.p, .b 0, .p, .p]) (rest := [4, 5, 6, 7, 8]) (ks := [1, 6]) (env' := [(1, .pointer (some ⟨b_4, 0, none⟩)), (6, .bool (decide (s_1.State ≥ 3)))]) (H' := [⟨40, b_4, [.slice A_2 s_1.Steps.length c_3, .int .i64 s_1.State, .int .i64 s_1.Cursor, .int .i64 s_1.Failed]⟩]) (ps := [b_4 = b_4]) (by kernel_rfl) (And.intro rfl trivial) ?_
  refine GoO.bsplit (t := 6) (by kernel_rfl) (fun h5 => ?_) (fun h5 => ?_)
  · refine GoO.exec (is := [4, 5, 6, 7, 8]) (hs := [.p, .b 0, .p, .p, .p]) (rest := []) (ks := [2]) (env' := [(2, .bool (decide (s_1.State ≤ 5)))]) (H' := [⟨40, b_4, [.slice A_2 s_1.Steps.length c_3, .int .i64 s_1.State, .int .i64 s_1.Cursor, .int .i64 s_1.Failed]⟩]) (ps := [b_4 = b_4]) (by kernel_rfl) (And.intro rfl trivial) ?_
    refine GoO.regionEnd ?_
    exact GoO.ret' (h := c29_4e) (hs := []) (ps := []) (hk := []) (bk := []) Try.func29 () (by kernel_rfl) trivial (by kernel_rfl) (by kernel_rfl)
  · refine GoO.exec (is := [4, 5, 6, 7, 8]) (hs := [.p, .p, .p, .p, .p]) (rest := []) (ks := [2]) (env' := [(2, .bool false)]) (H' := [⟨40, b_4, [.slice A_2 s_1.Steps.length c_3, .int .i64 s_1.State, .int .i64 s_1.Cursor, .int .i64 s_1.Failed]⟩]) (ps := []) (by kernel_rfl) trivial ?_
    refine GoO.regionEnd ?_
    exact GoO.ret' (h := c29_4e) (hs := []) (ps := []) (hk := []) (bk := []) Try.func29 () (by kernel_rfl) trivial (by kernel_rfl) (by kernel_rfl)

/-! tontine/saga.Wants -/
noncomputable def c25_0 : Code := bodyOf Try.f25
noncomputable def c25_1 : Code := cdL c25_0
noncomputable def c25_2 : Code := cdR c25_0
noncomputable def c25_3 : Code := cdL c25_2
noncomputable def c25_4 : Code := cdL c25_3
noncomputable def c25_5 : Code := cdR c25_3
noncomputable def c25_6 : Code := cdL c25_5
noncomputable def c25_7 : Code := cdL c25_6
noncomputable def c25_8 : Code := cdR c25_6
noncomputable def c25_9 : Code := cdR c25_5
noncomputable def c25_10 : Code := cdR c25_2
noncomputable def c25_11 : Code := cdL c25_10
noncomputable def c25_12 : Code := cdR c25_10
noncomputable def r25_1 : Array Oper := cdO c25_1
noncomputable def r25_4 : Array Oper := cdO c25_4
noncomputable def r25_7 : Array Oper := cdO c25_7
noncomputable def r25_11 : Array Oper := cdO c25_11
theorem c25_0e : c25_0 = .seq c25_1 c25_2 := by kernel_rfl
theorem c25_1e : c25_1 = .region 0 r25_1 false := by kernel_rfl
theorem c25_2e : c25_2 = .seq c25_3 c25_10 := by kernel_rfl
theorem c25_3e : c25_3 = .seq c25_4 c25_5 := by kernel_rfl
theorem c25_4e : c25_4 = .region 1 r25_4 false := by kernel_rfl
theorem c25_5e : c25_5 = .cond (cdC c25_5) c25_6 c25_9 := by kernel_rfl
theorem c25_6e : c25_6 = .seq c25_7 c25_8 := by kernel_rfl
theorem c25_7e : c25_7 = .region 2 r25_7 false := by kernel_rfl
theorem c25_8e : c25_8 = .ret := by kernel_rfl
theorem c25_9e : c25_9 = .skip := by kernel_rfl
theorem c25_10e : c25_10 = .seq c25_11 c25_12 := by kernel_rfl
theorem c25_11e : c25_11 = .region 3 r25_11 true := by kernel_rfl
theorem c25_12e : c25_12 = .ret := by kernel_rfl
noncomputable def saga_Wants.R (A_2 : Option Addr) (c_3 : Nat) : Pst (Int × Bool × Bool) where
  ε := Unit
  v := fun r x => .tuple ⟨[.int .i64 r.1, .bool r.2.1, .bool r.2.2]⟩
  H := fun r x => []
  B := fun r x => []
noncomputable def saga_Wants.cx (A_2 : Option Addr) (c_3 : Nat) (w0 : World) (S0 : Fam) : Cx (Int × Bool × Bool) := ⟨Try.prog, 25, Try.f25, 17, w0, S0, [], 0, saga_Wants.R A_2 c_3⟩
theorem saga_Wants_j0_ok (n : Nat) (s_1 : T_api_Saga) (A_2 : Option Addr) (c_3 : Nat) (b_4 : Nat) (w0 : World) (S0 : Fam) (b_8 : Bool) :
    GoO (saga_Wants.cx A_2 c_3 w0 S0) [(1, .pointer (some ⟨b_4, 0, none⟩)), (11, .bool b_8)] [⟨40, b_4, [.slice A_2 s_1.Steps.length c_3, .int .i64 s_1.State, .int .i64 s_1.Cursor, .int .i64 s_1.Failed]⟩] [Rd 0 kT_api_Step A_2 c_3 s_1.Steps] [.code c25_5, .code c25_10] (saga_Wants.j0 n s_1 b_8) := by
  unfold saga_Wants.j0
  refine GoO.ite' c25_5e (by kernel_rfl) (fun h9 => ?_) (fun h9 => ?_)
  · refine GoO.seq' c25_6e ?_
    refine GoO.region' (is := [0, 1, 2]) c25_7e (by kernel_rfl) ?_
    refine GoO.exec (is := [0, 1, 2]) (hs := [.p, .p, .p]) (rest := []) (ks := [2, 3, 4]) (env' := [(2, .int .i64 0), (3, .bool false), (4, .bool false)]) (H' := [⟨40, b_4, [.slice A_2 s_1.Steps.length c_3, .int .i64 s_1.State, .int .i64 s_1.Cursor, .int .i64 s_1.Failed]⟩]) (ps := []) (by kernel_rfl) trivial ?_
    refine GoO.regionEnd ?_
    exact GoO.ret' (h := c25_8e) (hs := []) (ps := []) (hk := []) (bk := []) Try.func25 () (by kernel_rfl) trivial (by kernel_rfl) (by kernel_rfl)
  · refine GoO.skip' c25_9e ?_
    refine GoO.seq' c25_10e ?_
    refine GoO.draw c25_11e (by kernel_rfl) [6, 7] [⟨40, b_4, [.slice A_2 s_1.Steps.length c_3, .int .i64 s_1.State, .int .i64 s_1.Cursor, .int .i64 s_1.Failed]⟩] [] (n := 8) (by kernel_rfl) ?_
    simp only [List.replicate]
    refine GoF.take [0, 1, 2, 3, 4, 5] [.p, .b 0, .p, .b 0, .p, .p] (ks := [2, 16]) (fu := 2) (li := [true, true, true, true, true, true, false, false]) (env' := [(2, .int .i64 s_1.Cursor), (16, .bool (s_1.State == 2))]) (ps := [b_4 = b_4, b_4 = b_4]) (hk := [0]) (bk := []) (by kernel_rfl) (And.intro rfl (And.intro rfl trivial)) rfl rfl ?_
    refine GoF.fin1 (i := 6) (hint := .p) (ps := []) (hk := []) (bk := []) (by kernel_rfl) rfl trivial (.inl rfl) ?_
    refine GoF.fin1 (i := 7) (hint := .p) (ps := []) (hk := []) (bk := []) (by kernel_rfl) rfl trivial (.inl rfl) ?_
    refine GoF.done (by kernel_rfl) ?_
    exact GoO.ret' (h := c25_12e) (hs := []) (ps := []) (hk := []) (bk := []) Try.func25 () (by kernel_rfl) trivial (by kernel_rfl) (by kernel_rfl)
theorem saga_Wants_ok (n : Nat) (s_1 : T_api_Saga) (A_2 : Option Addr) (c_3 : Nat) :
    Meets Try.prog 25 [.agg ⟨[.slice A_2 s_1.Steps.length c_3, .int .i64 s_1.State, .int .i64 s_1.Cursor, .int .i64 s_1.Failed]⟩] 0 [] [] [Rd 0 kT_api_Step A_2 c_3 s_1.Steps] (saga_Wants.f n s_1) (saga_Wants.R A_2 c_3) := by
  refine Meets.of (c := c25_0) (n := 17) Try.func25 (by kernel_rfl) (by kernel_rfl) (by kernel_rfl) fun w0 S0 => ?_
  unfold saga_Wants.f
  show GoO (saga_Wants.cx A_2 c_3 w0 S0) [(0, .agg ⟨[.slice A_2 s_1.Steps.length c_3, .int .i64 s_1.State, .int .i64 s_1.Cursor, .int .i64 s_1.Failed]⟩)] [] [Rd 0 kT_api_Step A_2 c_3 s_1.Steps] [.code c25_0] _
  refine GoO.seq' c25_0e ?_
  refine GoO.region' (is := [0, 1, 2, 3]) c25_1e (by kernel_rfl) ?_
  refine OpTo.go (GoO.new rfl 40 (cs := [.slice A_2 s_1.Steps.length c_3, .int .i64 s_1.State, .int .i64 s_1.Cursor, .int .i64 s_1.Failed]) (by kernel_rfl) _ (fun _ => rfl) (fun b_4 => ?_))
  refine GoO.exec (is := [1, 2, 3]) (hs := [.p, .p, .p]) (rest := []) (ks := [1]) (env' := [(1, .pointer (some ⟨b_4, 0, none⟩))]) (H' := [⟨40, b_4, [.slice A_2 s_1.Steps.length c_3, .int .i64 s_1.State, .int .i64 s_1.Cursor, .int .i64 s_1.Failed]⟩]) (ps := []) (by kernel_rfl) trivial ?_
  refine GoO.regionEnd ?_
  refine GoO.seq' c25_2e ?_
  refine GoO.seq' c25_3e ?_
  refine GoO.region' (is := [0, 1, 2, 3, 4, 5, 6]) c25_4e (by kernel_rfl) ?_
  refine GoO.exec (is := [0]) (hs := [.b 0]) (rest := [1, 2, 3, 4, 5, 6]) (ks := [1, 5]) (env' := [(1, .pointer (some ⟨b_4, 0, none⟩)), (5, .agg ⟨[.slice A_2 s_1.Steps.length c_3, .int .i64 s_1.State, .int .i64 s_1.Cursor, .int .i64 s_1.Failed]⟩)]) (H' := [⟨40, b_4, [.slice A_2 s_1.Steps.length c_3, .int .i64 s_1.State, .int .i64 s_1.Cursor, .int .i64 s_1.Failed]⟩]) (ps := [b_4 = b_4]) (by kernel_rfl) (And.intro rfl trivial) ?_
  refine OpTo.go (GoO.call rfl (by kernel_rfl) (by kernel_rfl) (saga_Sound_ok n s_1 A_2 c_3) [[0]] [] [] [(0, 0)] (hks := [0]) (bks := [0]) (by kernel_rfl) (by kernel_rfl) (by kernel_rfl) (.inl rfl) rfl rfl (by kernel_rfl) (by kernel_rfl) _ (fun _ _ => rfl) _ _ (fun _ _ => rfl) (fun _ _ => rfl) (fun _ _ => by kernel_rfl) (fun _ _ => by kernel_rfl) (fun r_5 x_9 => ?_))
  refine GoO.shape (env' := [(1, .pointer (some ⟨b_4, 0, none⟩)), (5, .agg ⟨[.slice A_2 s_1.Steps.length c_3, .int .i64 s_1.State, .int .i64 s_1.Cursor, .int .i64 s_1.Failed]⟩), (6, .bool r_5)]) (H' := [⟨40, b_4, [.slice A_2 s_1.Steps.length c_3, .int .i64 s_1.State, .int .i64 s_1.Cursor, .int .i64 s_1.Failed]⟩]) (B' := [Rd 0 kT_api_Step A_2 c_3 s_1.Steps]) (ks := [1, 5, 6]) (by kernel_rfl) (by kernel_rfl) (by kernel_rfl) ?_
  refine GoO.exec (is := [2, 3]) (hs := [.p, .p]) (rest := [4, 5, 6]) (ks := [1, 8]) (env' := [(1, .pointer (some ⟨b_4, 0, none⟩)), (8, .bool (!r_5))]) (H' := [⟨40, b_4, [.slice A_2 s_1.Steps.length c_3, .int .i64 s_1.State, .int .i64 s_1.Cursor, .int .i64 s_1.Failed]⟩]) (ps := []) (by kernel_rfl) trivial ?_
  refine GoO.bsplit (t := 8) (by kernel_rfl) (fun h6 => ?_) (fun h6 => ?_)
  · refine GoO.exec (is := [4, 5, 6]) (hs := [.p, .p, .p]) (rest := []) (ks := [1, 11]) (env' := [(1, .pointer (some ⟨b_4, 0, none⟩)), (11, .bool true)]) (H' := [⟨40, b_4, [.slice A_2 s_1.Steps.length c_3, .int .i64 s_1.State, .int .i64 s_1.Cursor, .int .i64 s_1.Failed]⟩]) (ps := []) (by kernel_rfl) trivial ?_
    refine GoO.regionEnd ?_
    exact GoO.sub (ks := [1, 11]) (hk := [0]) (bk := [0]) (by kernel_rfl) (by kernel_rfl) (by kernel_rfl) (saga_Wants_j0_ok n s_1 A_2 c_3 b_4 w0 S0 true)
  · refine GoO.exec (is := [4]) (hs := [.b 0]) (rest := [5, 6]) (ks := [1, 8, 9]) (env' := [(1, .pointer (some ⟨b_4, 0, none⟩)), (8, .bool false), (9, .agg ⟨[.slice A_2 s_1.Steps.length c_3, .int .i64 s_1.State, .int .i64 s_1.Cursor, .int .i64 s_1.Failed]⟩)]) (H' := [⟨40, b_4, [.slice A_2 s_1.Steps.length c_3, .int .i64 s_1.State, .int .i64 s_1.Cursor, .int .i64 s_1.Failed]⟩]) (ps := [b_4 = b_4]) (by kernel_rfl) (And.intro rfl trivial) ?_
    refine OpTo.go (GoO.call rfl (by kernel_rfl) (by kernel_rfl) (saga_Ended_ok n s_1 A_2 c_3) [[0]] [] [] [(0, 0)] (hks := [0]) (bks := [0]) (by kernel_rfl) (by kernel_rfl) (by kernel_rfl) (.inl rfl) rfl rfl (by kernel_rfl) (by kernel_rfl) _ (fun _ _ => rfl) _ _ (fun _ _ => rfl) (fun _ _ => rfl) (fun _ _ => by kernel_rfl) (fun _ _ => by kernel_rfl) (fun r_7 x_8 => ?_))
    refine GoO.shape (env' := [(1, .pointer (some ⟨b_4, 0, none⟩)), (8, .bool false), (9, .agg ⟨[.slice A_2 s_1.Steps.length c_3, .int .i64 s_1.State, .int .i64 s_1.Cursor, .int .i64 s_1.Failed]⟩), (10, .bool r_7)]) (H' := [⟨40, b_4, [.slice A_2 s_1.Steps.length c_3, .int .i64 s_1.State, .int .i64 s_1.Cursor, .int .i64 s_1.Failed]⟩]) (B' := [Rd 0 kT_api_Step A_2 c_3 s_1.Steps]) (ks := [1, 8, 9, 10]) (by kernel_rfl) (by kernel_rfl) (by kernel_rfl) ?_
    refine GoO.exec (is := [6]) (hs := [.p]) (rest := []) (ks := [1, 11]) (env' := [(1, .pointer (some ⟨b_4, 0, none⟩)), (11, .bool r_7)]) (H' := [⟨40, b_4, [.slice A_2 s_1.Steps.length c_3, .int .i64 s_1.State, .int .i64 s_1.Cursor, .int .i64 s_1.Failed]⟩]) (ps := []) (by kernel_rfl) trivial ?_
    refine GoO.regionEnd ?_
    exact GoO.sub (ks := [1, 11]) (hk := [0]) (bk := [0]) (by kernel_rfl) (by kernel_rfl) (by kernel_rfl) (saga_Wants_j0_ok n s_1 A_2 c_3 b_4 w0 S0 r_7)

/-! tontine/saga.back -/
noncomputable def c55_0 : Code := bodyOf Try.f55
noncomputable def c55_1 : Code := cdL c55_0
noncomputable def c55_2 : Code := cdR c55_0
noncomputable def c55_3 : Code := cdL c55_2
noncomputable def c55_4 : Code := cdL c55_3
noncomputable def c55_5 : Code := cdR c55_3
noncomputable def c55_6 : Code := cdL c55_5
noncomputable def c55_7 : Code := cdL c55_6
noncomputable def c55_8 : Code := cdR c55_6
noncomputable def c55_9 : Code := cdL c55_8
noncomputable def c55_10 : Code := cdR c55_8
noncomputable def c55_11 : Code := cdR c55_5
noncomputable def c55_12 : Code := cdR c55_2
noncomputable def c55_13 : Code := cdL c55_12
noncomputable def c55_14 : Code := cdR c55_12
noncomputable def c55_15 : Code := cdL c55_14
noncomputable def c55_16 : Code := cdR c55_14
noncomputable def r55_1 : Array Oper := cdO c55_1
noncomputable def r55_4 : Array Oper := cdO c55_4
noncomputable def r55_7 : Array Oper := cdO c55_7
noncomputable def r55_9 : Array Oper := cdO c55_9
noncomputable def r55_13 : Array Oper := cdO c55_13
noncomputable def r55_15 : Array Oper := cdO c55_15
theorem c55_0e : c55_0 = .seq c55_1 c55_2 := by kernel_rfl
theorem c55_1e : c55_1 = .region 0 r55_1 false := by kernel_rfl
theorem c55_2e : c55_2 = .seq c55_3 c55_12 := by kernel_rfl
theorem c55_3e : c55_3 = .seq c55_4 c55_5 := by kernel_rfl
theorem c55_4e : c55_4 = .region 1 r55_4 false := by kernel_rfl
theorem c55_5e : c55_5 = .cond (cdC c55_5) c55_6 c55_11 := by kernel_rfl
theorem c55_6e : c55_6 = .seq c55_7 c55_8 := by kernel_rfl
theorem c55_7e : c55_7 = .region 2 r55_7 false := by kernel_rfl
theorem c55_8e : c55_8 = .seq c55_9 c55_10 := by kernel_rfl
theorem c55_9e : c55_9 = .region 3 r55_9 false := by kernel_rfl
theorem c55_10e : c55_10 = .ret := by kernel_rfl
theorem c55_11e : c55_11 = .skip := by kernel_rfl
theorem c55_12e : c55_12 = .seq c55_13 c55_14 := by kernel_rfl
theorem c55_13e : c55_13 = .region 4 r55_13 false := by kernel_rfl
theorem c55_14e : c55_14 = .seq c55_15 c55_16 := by kernel_rfl
theorem c55_15e : c55_15 = .region 5 r55_15 false := by kernel_rfl
theorem c55_16e : c55_16 = .ret := by kernel_rfl
noncomputable def saga_back.R (A_2 : Option Addr) (c_3 : Nat) : Pst T_api_Saga where
  ε := Option Addr × Nat
  v := fun r x => .agg ⟨[.slice x.1 r.Steps.length x.2, .int .i64 r.State, .int .i64 r.Cursor, .int .i64 r.Failed]⟩
  H := fun r x => []
  B := fun r x => [Rd 0 kT_api_Step x.1 x.2 r.Steps]
noncomputable def saga_back.cx (A_2 : Option Addr) (c_3 : Nat) (w0 : World) (S0 : Fam) : Cx T_api_Saga := ⟨Try.prog, 55, Try.f55, 16, w0, S0, [], 0, saga_back.R A_2 c_3⟩
theorem saga_back_ok (n : Nat) (s_1 : T_api_Saga) (step_4 : Int) (A_2 : Option Addr) (c_3 : Nat) :
    Meets Try.prog 55 [.agg ⟨[.slice A_2 s_1.Steps.length c_3, .int .i64 s_1.State, .int .i64 s_1.Cursor, .int .i64 s_1.Failed]⟩, .int .i64 step_4] 0 [] [] [Rd 0 kT_api_Step A_2 c_3 s_1.Steps] (saga_back.f n s_1 step_4) (saga_back.R A_2 c_3) := by
  refine Meets.of (c := c55_0) (n := 16) Try.func55 (by kernel_rfl) (by kernel_rfl) (by kernel_rfl) fun w0 S0 => ?_
  unfold saga_back.f
  show GoO (saga_back.cx A_2 c_3 w0 S0) [(0, .agg ⟨[.slice A_2 s_1.Steps.length c_3, .int .i64 s_1.State, .int .i64 s_1.Cursor, .int .i64 s_1.Failed]⟩), (1, .int .i64 step_4)] [] [Rd 0 kT_api_Step A_2 c_3 s_1.Steps] [.code c55_0] _
  refine GoO.seq' c55_0e ?_
  refine GoO.region' (is := [0, 1]) c55_1e (by kernel_rfl) ?_
  refine OpTo.go (GoO.new rfl 40 (cs := [.slice A_2 s_1.Steps.length c_3, .int .i64 s_1.State, .int .i64 s_1.Cursor, .int .i64 s_1.Failed]) (by kernel_rfl) _ (fun _ => rfl) (fun b_5 => ?_))
  refine OpTo.go (GoO.new rfl 41 (cs := [.slice none ([] : List T_api_Step).length 0, .int .i64 0, .int .i64 0, .int .i64 0]) (by kernel_rfl) _ (fun _ => rfl) (fun b_6 => ?_))
  refine GoO.regionEnd ?_
  refine GoO.seq' c55_2e ?_
  refine GoO.seq' c55_3e ?_
  refine GoO.region' (is := [0, 1]) c55_4e (by kernel_rfl) ?_
  refine GoO.exec (is := [0, 1]) (hs := [.p, .p]) (rest := []) (ks := [1, 2, 4, 6]) (env' := [(1, .int .i64 step_4), (2, .pointer (some ⟨b_5, 0, none⟩)), (4, .pointer (some ⟨b_6, 0, none⟩)), (6, .bool (decide (step_4 < 0)))]) (H' := [⟨41, b_6, [.slice none ([] : List T_api_Step).length 0, .int .i64 0, .int .i64 0, .int .i64 0]⟩, ⟨40, b_5, [.slice A_2 s_1.Steps.length c_3, .int .i64 s_1.State, .int .i64 s_1.Cursor, .int .i64 s_1.Failed]⟩]) (ps := []) (by kernel_rfl) trivial ?_
  refine GoO.regionEnd ?_
  refine GoO.ite' c55_5e (by kernel_rfl) (fun h7 => ?_) (fun h7 => ?_)
  · refine GoO.seq' c55_6e ?_
    refine GoO.region' (is := [0, 1, 2, 3, 4, 5]) c55_7e (by kernel_rfl) ?_
    refine GoO.exec (is := [0, 1, 2, 3, 4, 5]) (hs := [.p, .b 1, .p, .b 1, .p, .b 1]) (rest := []) (ks := [2, 4]) (env' := [(2, .pointer (some ⟨b_5, 0, none⟩)), (4, .pointer (some ⟨b_6, 0, none⟩))]) (H' := [⟨41, b_6, [.slice none ([] : List T_api_Step).length 0, .int .i64 0, .int .i64 0, .int .i64 0]⟩, ⟨40, b_5, [.slice A_2 s_1.Steps.length c_3, .int .i64 4, .int .i64 0, .int .i64 0]⟩]) (ps := [b_5 = b_5, b_5 = b_5, b_5 = b_5]) (by kernel_rfl) (And.intro rfl (And.intro rfl (And.intro rfl trivial))) ?_
    refine GoO.regionEnd ?_
    refine GoO.seq' c55_8e ?_
    refine GoO.region' (is := [0, 1]) c55_9e (by kernel_rfl) ?_
    refine GoO.exec (is := [0, 1]) (hs := [.b 1, .b 0]) (rest := []) (ks := [4]) (env' := [(4, .pointer (some ⟨b_6, 0, none⟩))]) (H' := [⟨41, b_6, [.slice A_2 s_1.Steps.length c_3, .int .i64 4, .int .i64 0, .int .i64 0]⟩, ⟨40, b_5, [.slice A_2 s_1.Steps.length c_3, .int .i64 4, .int .i64 0, .int .i64 0]⟩]) (ps := [b_5 = b_5, b_6 = b_6]) (by kernel_rfl) (And.intro rfl (And.intro rfl trivial)) ?_
    refine GoO.regionEnd ?_
    exact GoO.ret' (h := c55_10e) (hs := [0]) (ps := [b_6 = b_6]) (hk := []) (bk := [0]) Try.func55 (⟨A_2, c_3⟩ : Option Addr × Nat) (by kernel_rfl) (And.intro rfl trivial) (by kernel_rfl) (by kernel_rfl)
  · refine GoO.skip' c55_11e ?_
    refine GoO.seq' c55_12e ?_
    refine GoO.region' (is := [0, 1, 2, 3, 4, 5, 6]) c55_13e (by kernel_rfl) ?_
    refine GoO.exec (is := [0, 1, 2, 3, 4, 5, 6]) (hs := [.p, .p, .b 1, .p, .b 1, .p, .b 1]) (rest := []) (ks := [2, 4]) (env' := [(2, .pointer (some ⟨b_5, 0, none⟩)), (4, .pointer (some ⟨b_6, 0, none⟩))]) (H' := [⟨41, b_6, [.slice none ([] : List T_api_Step).length 0, .int .i64 0, .int .i64 0, .int .i64 0]⟩, ⟨40, b_5, [.slice A_2 s_1.Steps.length c_3, .int .i64 2, .int .i64 step_4, .int .i64 0]⟩]) (ps := [b_5 = b_5, b_5 = b_5, b_5 = b_5]) (by kernel_rfl) (And.intro rfl (And.intro rfl (And.intro rfl trivial))) ?_
    refine GoO.regionEnd ?_
    refine GoO.seq' c55_14e ?_
    refine GoO.region' (is := [0, 1]) c55_15e (by kernel_rfl) ?_
    refine GoO.exec (is := [0, 1]) (hs := [.b 1, .b 0]) (rest := []) (ks := [4]) (env' := [(4, .pointer (some ⟨b_6, 0, none⟩))]) (H' := [⟨41, b_6, [.slice A_2 s_1.Steps.length c_3, .int .i64 2, .int .i64 step_4, .int .i64 0]⟩, ⟨40, b_5, [.slice A_2 s_1.Steps.length c_3, .int .i64 2, .int .i64 step_4, .int .i64 0]⟩]) (ps := [b_5 = b_5, b_6 = b_6]) (by kernel_rfl) (And.intro rfl (And.intro rfl trivial)) ?_
    refine GoO.regionEnd ?_
    exact GoO.ret' (h := c55_16e) (hs := [0]) (ps := [b_6 = b_6]) (hk := []) (bk := [0]) Try.func55 (⟨A_2, c_3⟩ : Option Addr × Nat) (by kernel_rfl) (And.intro rfl trivial) (by kernel_rfl) (by kernel_rfl)

/-! tontine/saga.Outcome -/
noncomputable def c21_0 : Code := bodyOf Try.f21
noncomputable def c21_1 : Code := cdL c21_0
noncomputable def c21_2 : Code := cdR c21_0
noncomputable def c21_3 : Code := cdL c21_2
noncomputable def c21_4 : Code := cdR c21_2
noncomputable def c21_5 : Code := cdL c21_4
noncomputable def c21_6 : Code := cdL c21_5
noncomputable def c21_7 : Code := cdR c21_5
noncomputable def c21_8 : Code := cdL c21_7
noncomputable def c21_9 : Code := cdL c21_8
noncomputable def c21_10 : Code := cdR c21_8
noncomputable def c21_11 : Code := cdR c21_7
noncomputable def c21_12 : Code := cdR c21_4
noncomputable def c21_13 : Code := cdL c21_12
noncomputable def c21_14 : Code := cdL c21_13
noncomputable def c21_15 : Code := cdL c21_14
noncomputable def c21_16 : Code := cdL c21_15
noncomputable def c21_17 : Code := cdL c21_16
noncomputable def c21_18 : Code := cdL c21_17
noncomputable def c21_19 : Code := cdL c21_18
noncomputable def c21_20 : Code := cdL c21_19
noncomputable def c21_21 : Code := cdL c21_20
noncomputable def c21_22 : Code := cdL c21_21
noncomputable def c21_23 : Code := cdL c21_22
noncomputable def c21_24 : Code := cdL c21_23
noncomputable def c21_25 : Code := cdR c21_23
noncomputable def c21_26 : Code := cdL c21_25
noncomputable def c21_27 : Code := cdR c21_25
noncomputable def c21_28 : Code := cdR c21_22
noncomputable def c21_29 : Code := cdL c21_28
noncomputable def c21_30 : Code := cdL c21_29
noncomputable def c21_31 : Code := cdR c21_29
noncomputable def c21_32 : Code := cdL c21_31
noncomputable def c21_33 : Code := cdR c21_31
noncomputable def c21_34 : Code := cdR c21_28
noncomputable def c21_35 : Code := cdL c21_34
noncomputable def c21_36 : Code := cdR c21_34
noncomputable def c21_37 : Code := cdL c21_36
noncomputable def c21_38 : Code := cdR c21_36
noncomputable def c21_39 : Code := cdR c21_21
noncomputable def c21_40 : Code := cdR c21_19
noncomputable def c21_41 : Code := cdL c21_40
noncomputable def c21_42 : Code := cdL c21_41
noncomputable def c21_43 : Code := cdR c21_41
noncomputable def c21_44 : Code := cdL c21_43
noncomputable def c21_45 : Code := cdR c21_43
noncomputable def c21_46 : Code := cdL c21_45
noncomputable def c21_47 : Code := cdR c21_45
noncomputable def c21_48 : Code := cdR c21_40
noncomputable def c21_49 : Code := cdR c21_16
noncomputable def c21_50 : Code := cdL c21_49
noncomputable def c21_51 : Code := cdR c21_49
noncomputable def c21_52 : Code := cdR c21_14
noncomputable def c21_53 : Code := cdL c21_52
noncomputable def c21_54 : Code := cdL c21_53
noncomputable def c21_55 : Code := cdR c21_53
noncomputable def c21_56 : Code := cdL c21_55
noncomputable def c21_57 : Code := cdR c21_55
noncomputable def c21_58 : Code := cdL c21_57
noncomputable def c21_59 : Code := cdR c21_57
noncomputable def c21_60 : Code := cdR c21_52
noncomputable def c21_61 : Code := cdR c21_12
noncomputable def c21_62 : Code := cdL c21_61
noncomputable def c21_63 : Code := cdR c21_61
noncomputable def r21_1 : Array Oper := cdO c21_1
noncomputable def r21_3 : Array Oper := cdO c21_3
noncomputable def r21_6 : Array Oper := cdO c21_6
noncomputable def r21_9 : Array Oper := cdO c21_9
noncomputable def r21_24 : Array Oper := cdO c21_24
noncomputable def r21_30 : Array Oper := cdO c21_30
noncomputable def r21_35 : Array Oper := cdO c21_35
noncomputable def r21_42 : Array Oper := cdO c21_42
noncomputable def r21_44 : Array Oper := cdO c21_44
noncomputable def r21_46 : Array Oper := cdO c21_46
noncomputable def r21_50 : Array Oper := cdO c21_50
noncomputable def r21_54 : Array Oper := cdO c21_54
noncomputable def r21_56 : Array Oper := cdO c21_56
noncomputable def r21_58 : Array Oper := cdO c21_58
noncomputable def r21_62 : Array Oper := cdO c21_62
theorem c21_0e : c21_0 = .seq c21_1 c21_2 := by kernel_rfl
theorem c21_1e : c21_1 = .region 0 r21_1 false := by kernel_rfl
theorem c21_2e : c21_2 = .seq c21_3 c21_4 := by kernel_rfl
theorem c21_3e : c21_3 = .region 1 r21_3 false := by kernel_rfl
theorem c21_4e : c21_4 = .seq c21_5 c21_12 := by kernel_rfl
theorem c21_5e : c21_5 = .seq c21_6 c21_7 := by kernel_rfl
theorem c21_6e : c21_6 = .region 2 r21_6 false := by kernel_rfl
theorem c21_7e : c21_7 = .cond (cdC c21_7) c21_8 c21_11 := by kernel_rfl
theorem c21_8e : c21_8 = .seq c21_9 c21_10 := by kernel_rfl
theorem c21_9e : c21_9 = .region 3 r21_9 false := by kernel_rfl
theorem c21_10e : c21_10 = .ret := by kernel_rfl
theorem c21_11e : c21_11 = .skip := by kernel_rfl
theorem c21_12e : c21_12 = .seq c21_13 c21_61 := by kernel_rfl
theorem c21_13e : c21_13 = .block 0 c21_14 := by kernel_rfl
theorem c21_14e : c21_14 = .seq c21_15 c21_52 := by kernel_rfl
theorem c21_15e : c21_15 = .block 4 c21_16 := by kernel_rfl
theorem c21_16e : c21_16 = .seq c21_17 c21_49 := by kernel_rfl
theorem c21_17e : c21_17 = .block 3 c21_18 := by kernel_rfl
theorem c21_18e : c21_18 = .block 2 c21_19 := by kernel_rfl
theorem c21_19e : c21_19 = .seq c21_20 c21_40 := by kernel_rfl
theorem c21_20e : c21_20 = .block 1 c21_21 := by kernel_rfl
theorem c21_21e : c21_21 = .seq c21_22 c21_39 := by kernel_rfl
theorem c21_22e : c21_22 = .seq c21_23 c21_28 := by kernel_rfl
theorem c21_23e : c21_23 = .seq c21_24 c21_25 := by kernel_rfl
theorem c21_24e : c21_24 = .region 4 r21_24 false := by kernel_rfl
theorem c21_25e : c21_25 = .cond (cdC c21_25) c21_26 c21_27 := by kernel_rfl
theorem c21_26e : c21_26 = .exit 1 := by kernel_rfl
theorem c21_27e : c21_27 = .skip := by kernel_rfl
theorem c21_28e : c21_28 = .seq c21_29 c21_34 := by kernel_rfl
theorem c21_29e : c21_29 = .seq c21_30 c21_31 := by kernel_rfl
theorem c21_30e : c21_30 = .region 5 r21_30 false := by kernel_rfl
theorem c21_31e : c21_31 = .cond (cdC c21_31) c21_32 c21_33 := by kernel_rfl
theorem c21_32e : c21_32 = .exit 2 := by kernel_rfl
theorem c21_33e : c21_33 = .skip := by kernel_rfl
theorem c21_34e : c21_34 = .seq c21_35 c21_36 := by kernel_rfl
theorem c21_35e : c21_35 = .region 6 r21_35 false := by kernel_rfl
theorem c21_36e : c21_36 = .cond (cdC c21_36) c21_37 c21_38 := by kernel_rfl
theorem c21_37e : c21_37 = .exit 3 := by kernel_rfl
theorem c21_38e : c21_38 = .skip := by kernel_rfl
theorem c21_39e : c21_39 = .exit 4 := by kernel_rfl
theorem c21_40e : c21_40 = .seq c21_41 c21_48 := by kernel_rfl
theorem c21_41e : c21_41 = .seq c21_42 c21_43 := by kernel_rfl
theorem c21_42e : c21_42 = .region 7 r21_42 false := by kernel_rfl
theorem c21_43e : c21_43 = .seq c21_44 c21_45 := by kernel_rfl
theorem c21_44e : c21_44 = .region 8 r21_44 false := by kernel_rfl
theorem c21_45e : c21_45 = .cond (cdC c21_45) c21_46 c21_47 := by kernel_rfl
theorem c21_46e : c21_46 = .region 9 r21_46 false := by kernel_rfl
theorem c21_47e : c21_47 = .skip := by kernel_rfl
theorem c21_48e : c21_48 = .exit 0 := by kernel_rfl
theorem c21_49e : c21_49 = .seq c21_50 c21_51 := by kernel_rfl
theorem c21_50e : c21_50 = .region 10 r21_50 false := by kernel_rfl
theorem c21_51e : c21_51 = .exit 0 := by kernel_rfl
theorem c21_52e : c21_52 = .seq c21_53 c21_60 := by kernel_rfl
theorem c21_53e : c21_53 = .seq c21_54 c21_55 := by kernel_rfl
theorem c21_54e : c21_54 = .region 11 r21_54 false := by kernel_rfl
theorem c21_55e : c21_55 = .seq c21_56 c21_57 := by kernel_rfl
theorem c21_56e : c21_56 = .region 12 r21_56 true := by kernel_rfl
theorem c21_57e : c21_57 = .cond (cdC c21_57) c21_58 c21_59 := by kernel_rfl
theorem c21_58e : c21_58 = .region 13 r21_58 false := by kernel_rfl
theorem c21_59e : c21_59 = .skip := by kernel_rfl
theorem c21_60e : c21_60 = .exit 0 := by kernel_rfl
theorem c21_61e : c21_61 = .seq c21_62 c21_63 := by kernel_rfl
theorem c21_62e : c21_62 = .region 14 r21_62 false := by kernel_rfl
theorem c21_63e : c21_63 = .ret := by kernel_rfl
noncomputable def saga_Outcome.R (A_2 : Option Addr) (c_3 : Nat) : Pst (T_api_Saga × Bool) where
  ε := Option Addr × Nat
  v := fun r x => .tuple ⟨[.agg ⟨[.slice x.1 r.1.Steps.length x.2, .int .i64 r.1.State, .int .i64 r.1.Cursor, .int .i64 r.1.Failed]⟩, .bool r.2]⟩
  H := fun r x => []
  B := fun r x => [Rd 0 kT_api_Step x.1 x.2 r.1.Steps]
noncomputable def saga_Outcome.cx (A_2 : Option Addr) (c_3 : Nat) (w0 : World) (S0 : Fam) : Cx (T_api_Saga × Bool) := ⟨Try.prog, 21, Try.f21, 85, w0, S0, [], 0, saga_Outcome.R A_2 c_3⟩
theorem saga_Outcome_j1_ok (n : Nat) (s_1 : T_api_Saga) (step_4 : Int) (A_2 : Option Addr) (c_3 : Nat) (b_8 : Nat) (b_9 : Nat) (w0 : World) (S0 : Fam) :
    GoO (saga_Outcome.cx A_2 c_3 w0 S0) [(1, .int .i64 step_4), (5, .pointer (some ⟨b_8, 0, none⟩)), (10, .pointer (some ⟨b_9, 0, none⟩))] [⟨40, b_8, [.slice A_2 s_1.Steps.length c_3, .int .i64 s_1.State, .int .i64 s_1.Cursor, .int .i64 s_1.Failed]⟩, ⟨41, b_9, [.slice none ([] : List T_api_Step).length 0, .int .i64 0, .int .i64 0, .int .i64 0]⟩] [Rd 0 kT_api_Step A_2 c_3 s_1.Steps] [.code c21_49, .inBlock 4, .code c21_52, .inBlock 0, .code c21_61] (saga_Outcome.j1 n s_1 step_4) := by
  unfold saga_Outcome.j1
  refine GoO.seq' c21_49e ?_
  refine GoO.region' (is := [0, 1, 2, 3, 4]) c21_50e (by kernel_rfl) ?_
  refine GoO.exec (is := [0, 1, 2]) (hs := [.b 0, .p, .p]) (rest := [3, 4]) (ks := [5, 10, 66, 68]) (env' := [(5, .pointer (some ⟨b_8, 0, none⟩)), (10, .pointer (some ⟨b_9, 0, none⟩)), (66, .agg ⟨[.slice A_2 s_1.Steps.length c_3, .int .i64 s_1.State, .int .i64 s_1.Cursor, .int .i64 s_1.Failed]⟩), (68, .int .i64 (wi64 (step_4 - 1)))]) (H' := [⟨40, b_8, [.slice A_2 s_1.Steps.length c_3, .int .i64 s_1.State, .int .i64 s_1.Cursor, .int .i64 s_1.Failed]⟩, ⟨41, b_9, [.slice none ([] : List T_api_Step).length 0, .int .i64 0, .int .i64 0, .int .i64 0]⟩]) (ps := [b_8 = b_8]) (by kernel_rfl) (And.intro rfl trivial) ?_
  refine OpTo.go (GoO.call rfl (by kernel_rfl) (by kernel_rfl) (saga_back_ok n s_1 (wi64 (step_4 - 1)) A_2 c_3) [[0]] [] [] [(0, 0)] (hks := [0, 1]) (bks := [0]) (by kernel_rfl) (by kernel_rfl) (by kernel_rfl) (.inl rfl) rfl rfl (by kernel_rfl) (by kernel_rfl) _ (fun _ _ => rfl) _ _ (fun _ _ => rfl) (fun _ _ => rfl) (fun _ _ => by kernel_rfl) (fun _ _ => by kernel_rfl) (fun r_24 x_27 => ?_))
  obtain ⟨A_25, c_26⟩ := x_27
  refine GoO.shape (env' := [(5, .pointer (some ⟨b_8, 0, none⟩)), (10, .pointer (some ⟨b_9, 0, none⟩)), (66, .agg ⟨[.slice A_2 s_1.Steps.length c_3, .int .i64 s_1.State, .int .i64 s_1.Cursor, .int .i64 s_1.Failed]⟩), (68, .int .i64 (wi64 (step_4 - 1))), (69, .agg ⟨[.slice A_25 r_24.Steps.length c_26, .int .i64 r_24.State, .int .i64 r_24.Cursor, .int .i64 r_24.Failed]⟩)]) (H' := [⟨40, b_8, [.slice A_2 s_1.Steps.length c_3, .int .i64 s_1.State, .int .i64 s_1.Cursor, .int .i64 s_1.Failed]⟩, ⟨41, b_9, [.slice none ([] : List T_api_Step).length 0, .int .i64 0, .int .i64 0, .int .i64 0]⟩]) (B' := [Rd 0 kT_api_Step A_25 c_26 r_24.Steps, Rd 0 kT_api_Step A_2 c_3 s_1.Steps]) (ks := [5, 10, 66, 68, 69]) (by kernel_rfl) (by kernel_rfl) (by kernel_rfl) ?_
  refine GoO.exec (is := [4]) (hs := [.b 0]) (rest := []) (ks := [5, 10]) (env' := [(5, .pointer (some ⟨b_8, 0, none⟩)), (10, .pointer (some ⟨b_9, 0, none⟩))]) (H' := [⟨40, b_8, [.slice A_25 r_24.Steps.length c_26, .int .i64 r_24.State, .int .i64 r_24.Cursor, .int .i64 r_24.Failed]⟩, ⟨41, b_9, [.slice none ([] : List T_api_Step).length 0, .int .i64 0, .int .i64 0, .int .i64 0]⟩]) (ps := [b_8 = b_8]) (by kernel_rfl) (And.intro rfl trivial) ?_
  refine GoO.regionEnd ?_
  refine GoO.exit' c21_51e rfl ?_
  refine GoO.seq' c21_61e ?_
  refine GoO.region' (is := [0, 1, 2]) c21_62e (by kernel_rfl) ?_
  refine GoO.exec (is := [0, 1, 2]) (hs := [.b 0, .b 1, .p]) (rest := []) (ks := [10, 11]) (env' := [(10, .pointer (some ⟨b_9, 0, none⟩)), (11, .bool true)]) (H' := [⟨40, b_8, [.slice A_25 r_24.Steps.length c_26, .int .i64 r_24.State, .int .i64 r_24.Cursor, .int .i64 r_24.Failed]⟩, ⟨41, b_9, [.slice A_25 r_24.Steps.length c_26, .int .i64 r_24.State, .int .i64 r_24.Cursor, .int .i64 r_24.Failed]⟩]) (ps := [b_8 = b_8, b_9 = b_9]) (by kernel_rfl) (And.intro rfl (And.intro rfl trivial)) ?_
  refine GoO.regionEnd ?_
  exact GoO.ret' (h := c21_63e) (hs := [1]) (ps := [b_9 = b_9]) (hk := []) (bk := [0]) Try.func21 (⟨A_25, c_26⟩ : Option Addr × Nat) (by kernel_rfl) (And.intro rfl trivial) (by kernel_rfl) (by kernel_rfl)
theorem saga_Outcome_j3_ok (n : Nat) (s_1 : T_api_Saga) (A_2 : Option Addr) (c_3 : Nat) (b_8 : Nat) (b_9 : Nat) (w0 : World) (S0 : Fam) (f_21 : Int) :
    GoO (saga_Outcome.cx A_2 c_3 w0 S0) [(5, .pointer (some ⟨b_8, 0, none⟩)), (10, .pointer (some ⟨b_9, 0, none⟩))] [⟨40, b_8, [.slice A_2 s_1.Steps.length c_3, .int .i64 f_21, .int .i64 (wi64 (s_1.Cursor + 1)), .int .i64 s_1.Failed]⟩, ⟨41, b_9, [.slice none ([] : List T_api_Step).length 0, .int .i64 0, .int .i64 0, .int .i64 0]⟩] [Rd 0 kT_api_Step A_2 c_3 s_1.Steps] [.code c21_48, .inBlock 2, .inBlock 3, .code c21_49, .inBlock 4, .code c21_52, .inBlock 0, .code c21_61] (saga_Outcome.j3 n s_1 f_21) := by
  unfold saga_Outcome.j3
  refine GoO.exit' c21_48e rfl ?_
  refine GoO.seq' c21_61e ?_
  refine GoO.region' (is := [0, 1, 2]) c21_62e (by kernel_rfl) ?_
  refine GoO.exec (is := [0, 1, 2]) (hs := [.b 0, .b 1, .p]) (rest := []) (ks := [10, 11]) (env' := [(10, .pointer (some ⟨b_9, 0, none⟩)), (11, .bool true)]) (H' := [⟨40, b_8, [.slice A_2 s_1.Steps.length c_3, .int .i64 f_21, .int .i64 (wi64 (s_1.Cursor + 1)), .int .i64 s_1.Failed]⟩, ⟨41, b_9, [.slice A_2 s_1.Steps.length c_3, .int .i64 f_21, .int .i64 (wi64 (s_1.Cursor + 1)), .int .i64 s_1.Failed]⟩]) (ps := [b_8 = b_8, b_9 = b_9]) (by kernel_rfl) (And.intro rfl (And.intro rfl trivial)) ?_
  refine GoO.regionEnd ?_
  exact GoO.ret' (h := c21_63e) (hs := [1]) (ps := [b_9 = b_9]) (hk := []) (bk := [0]) Try.func21 (⟨A_2, c_3⟩ : Option Addr × Nat) (by kernel_rfl) (And.intro rfl trivial) (by kernel_rfl) (by kernel_rfl)
theorem saga_Outcome_j2_ok (n : Nat) (s_1 : T_api_Saga) (step_4 : Int) (taken_5 : Bool) (ok_7 : Bool) (A_2 : Option Addr) (c_3 : Nat) (b_8 : Nat) (b_9 : Nat) (w0 : World) (S0 : Fam) (b_18 : Bool) :
    GoO (saga_Outcome.cx A_2 c_3 w0 S0) [(1, .int .i64 step_4), (2, .bool taken_5), (4, .bool ok_7), (5, .pointer (some ⟨b_8, 0, none⟩)), (10, .pointer (some ⟨b_9, 0, none⟩)), (44, .bool b_18)] [⟨40, b_8, [.slice A_2 s_1.Steps.length c_3, .int .i64 s_1.State, .int .i64 s_1.Cursor, .int .i64 s_1.Failed]⟩, ⟨41, b_9, [.slice none ([] : List T_api_Step).length 0, .int .i64 0, .int .i64 0, .int .i64 0]⟩] [Rd 0 kT_api_Step A_2 c_3 s_1.Steps] [.code c21_25, .code c21_28, .code c21_39, .inBlock 1, .code c21_40, .inBlock 2, .inBlock 3, .code c21_49, .inBlock 4, .code c21_52, .inBlock 0, .code c21_61] (saga_Outcome.j2 n s_1 step_4 taken_5 ok_7 b_18) := by
  unfold saga_Outcome.j2
  refine GoO.ite' c21_25e (by kernel_rfl) (fun h19 => ?_) (fun h19 => ?_)
  · refine GoO.exit' c21_26e rfl ?_
    refine GoO.seq' c21_40e ?_
    refine GoO.seq' c21_41e ?_
    refine GoO.region' (is := [0, 1, 2, 3, 4]) c21_42e (by kernel_rfl) ?_
    refine GoO.exec (is := [0, 1, 2, 3, 4]) (hs := [.p, .b 0, .p, .p, .b 0]) (rest := []) (ks := [5, 10]) (env' := [(5, .pointer (some ⟨b_8, 0, none⟩)), (10, .pointer (some ⟨b_9, 0, none⟩))]) (H' := [⟨40, b_8, [.slice A_2 s_1.Steps.length c_3, .int .i64 s_1.State, .int .i64 (wi64 (s_1.Cursor + 1)), .int .i64 s_1.Failed]⟩, ⟨41, b_9, [.slice none ([] : List T_api_Step).length 0, .int .i64 0, .int .i64 0, .int .i64 0]⟩]) (ps := [b_8 = b_8, b_8 = b_8]) (by kernel_rfl) (And.intro rfl (And.intro rfl trivial)) ?_
    refine GoO.regionEnd ?_
    refine GoO.seq' c21_43e ?_
    refine GoO.region' (is := [0, 1, 2, 3, 4, 5]) c21_44e (by kernel_rfl) ?_
    refine GoO.exec (is := [0, 1, 2, 3, 4, 5]) (hs := [.p, .b 0, .p, .b 0, .p, .p]) (rest := []) (ks := [5, 10, 64]) (env' := [(5, .pointer (some ⟨b_8, 0, none⟩)), (10, .pointer (some ⟨b_9, 0, none⟩)), (64, .bool ((wi64 (s_1.Cursor + 1)) == (s_1.Steps.length : Int)))]) (H' := [⟨40, b_8, [.slice A_2 s_1.Steps.length c_3, .int .i64 s_1.State, .int .i64 (wi64 (s_1.Cursor + 1)), .int .i64 s_1.Failed]⟩, ⟨41, b_9, [.slice none ([] : List T_api_Step).length 0, .int .i64 0, .int .i64 0, .int .i64 0]⟩]) (ps := [b_8 = b_8, b_8 = b_8]) (by kernel_rfl) (And.intro rfl (And.intro rfl trivial)) ?_
    refine GoO.regionEnd ?_
    refine GoO.ite' c21_45e (by kernel_rfl) (fun h20 => ?_) (fun h20 => ?_)
    · refine GoO.region' (is := [0, 1]) c21_46e (by kernel_rfl) ?_
      refine GoO.exec (is := [0, 1]) (hs := [.p, .b 0]) (rest := []) (ks := [5, 10]) (env' := [(5, .pointer (some ⟨b_8, 0, none⟩)), (10, .pointer (some ⟨b_9, 0, none⟩))]) (H' := [⟨40, b_8, [.slice A_2 s_1.Steps.length c_3, .int .i64 3, .int .i64 (wi64 (s_1.Cursor + 1)), .int .i64 s_1.Failed]⟩, ⟨41, b_9, [.slice none ([] : List T_api_Step).length 0, .int .i64 0, .int .i64 0, .int .i64 0]⟩]) (ps := [b_8 = b_8]) (by kernel_rfl) (And.intro rfl trivial) ?_
      refine GoO.regionEnd ?_
      exact GoO.sub (ks := [5, 10]) (hk := [0, 1]) (bk := [0]) (by kernel_rfl) (by kernel_rfl) (by kernel_rfl) (saga_Outcome_j3_ok n s_1 A_2 c_3 b_8 b_9 w0 S0 3)
    · refine GoO.skip' c21_47e ?_
      exact GoO.sub (ks := [5, 10]) (hk := [0, 1]) (bk := [0]) (by kernel_rfl) (by kernel_rfl) (by kernel_rfl) (saga_Outcome_j3_ok n s_1 A_2 c_3 b_8 b_9 w0 S0 s_1.State)
  · refine GoO.skip' c21_27e ?_
    refine GoO.seq' c21_28e ?_
    refine GoO.seq' c21_29e ?_
    refine GoO.region' (is := [0, 1, 2]) c21_30e (by kernel_rfl) ?_
    refine GoO.exec (is := [0, 1, 2]) (hs := [.p, .p, .p]) (rest := []) (ks := [1, 4, 5, 10, 50]) (env' := [(1, .int .i64 step_4), (4, .bool ok_7), (5, .pointer (some ⟨b_8, 0, none⟩)), (10, .pointer (some ⟨b_9, 0, none⟩)), (50, .bool (!taken_5))]) (H' := [⟨40, b_8, [.slice A_2 s_1.Steps.length c_3, .int .i64 s_1.State, .int .i64 s_1.Cursor, .int .i64 s_1.Failed]⟩, ⟨41, b_9, [.slice none ([] : List T_api_Step).length 0, .int .i64 0, .int .i64 0, .int .i64 0]⟩]) (ps := []) (by kernel_rfl) trivial ?_
    refine GoO.regionEnd ?_
    refine GoO.ite' c21_31e (by kernel_rfl) (fun h22 => ?_) (fun h22 => ?_)
    · refine GoO.exit' c21_32e rfl ?_
      refine GoO.inBlock ?_
      exact GoO.sub (ks := [1, 5, 10]) (hk := [0, 1]) (bk := [0]) (by kernel_rfl) (by kernel_rfl) (by kernel_rfl) (saga_Outcome_j1_ok n s_1 step_4 A_2 c_3 b_8 b_9 w0 S0)
    · refine GoO.skip' c21_33e ?_
      refine GoO.seq' c21_34e ?_
      refine GoO.region' (is := [0, 1]) c21_35e (by kernel_rfl) ?_
      refine GoO.exec (is := [0, 1]) (hs := [.p, .p]) (rest := []) (ks := [1, 5, 10, 53]) (env' := [(1, .int .i64 step_4), (5, .pointer (some ⟨b_8, 0, none⟩)), (10, .pointer (some ⟨b_9, 0, none⟩)), (53, .bool ok_7)]) (H' := [⟨40, b_8, [.slice A_2 s_1.Steps.length c_3, .int .i64 s_1.State, .int .i64 s_1.Cursor, .int .i64 s_1.Failed]⟩, ⟨41, b_9, [.slice none ([] : List T_api_Step).length 0, .int .i64 0, .int .i64 0, .int .i64 0]⟩]) (ps := []) (by kernel_rfl) trivial ?_
      refine GoO.regionEnd ?_
      refine GoO.ite' c21_36e (by kernel_rfl) (fun h23 => ?_) (fun h23 => ?_)
      · refine GoO.exit' c21_37e rfl ?_
        exact GoO.sub (ks := [1, 5, 10]) (hk := [0, 1]) (bk := [0]) (by kernel_rfl) (by kernel_rfl) (by kernel_rfl) (saga_Outcome_j1_ok n s_1 step_4 A_2 c_3 b_8 b_9 w0 S0)
      · refine GoO.skip' c21_38e ?_
        refine GoO.exit' c21_39e rfl ?_
        refine GoO.seq' c21_52e ?_
        refine GoO.seq' c21_53e ?_
        refine GoO.region' (is := [0, 1, 2, 3, 4]) c21_54e (by kernel_rfl) ?_
        refine GoO.exec (is := [0, 1, 2, 3, 4]) (hs := [.p, .b 0, .p, .p, .b 0]) (rest := []) (ks := [1, 5, 10]) (env' := [(1, .int .i64 step_4), (5, .pointer (some ⟨b_8, 0, none⟩)), (10, .pointer (some ⟨b_9, 0, none⟩))]) (H' := [⟨40, b_8, [.slice A_2 s_1.Steps.length c_3, .int .i64 s_1.State, .int .i64 s_1.Cursor, .int .i64 (wi64 (s_1.Failed + 1))]⟩, ⟨41, b_9, [.slice none ([] : List T_api_Step).length 0, .int .i64 0, .int .i64 0, .int .i64 0]⟩]) (ps := [b_8 = b_8, b_8 = b_8]) (by kernel_rfl) (And.intro rfl (And.intro rfl trivial)) ?_
        refine GoO.regionEnd ?_
        refine GoO.seq' c21_55e ?_
        refine GoO.draw c21_56e (by kernel_rfl) [] [⟨40, b_8, [.slice A_2 s_1.Steps.length c_3, .int .i64 s_1.State, .int .i64 s_1.Cursor, .int .i64 (wi64 (s_1.Failed + 1))]⟩] [Rd 0 kT_api_Step A_2 c_3 s_1.Steps] (n := 9) (by kernel_rfl) ?_
        simp only [List.replicate]
        refine GoF.take [0, 1, 2, 3, 4] [.p, .b 0, .p, .b 0, .p] (ks := [5, 10, 75, 77, 78]) (fu := 4) (li := [true, true, true, true, true, false, false, false, false]) (env' := [(5, .pointer (some ⟨b_8, 0, none⟩)), (10, .pointer (some ⟨b_9, 0, none⟩)), (75, .int .i64 (wi64 (s_1.Failed + 1))), (77, .slice A_2 s_1.Steps.length c_3), (78, .int .i64 step_4)]) (ps := [b_8 = b_8, b_8 = b_8]) (hk := [0]) (bk := [0]) (by kernel_rfl) (And.intro rfl (And.intro rfl trivial)) rfl rfl ?_
        refine GoF.guard (fun h24 => ?_)
        refine GoF.idx (i := 5) (hk := [0]) (bk := [0]) (kk := .i64) (e := 50) (K := kT_api_Step) (A := A_2) (c := c_3) (xs := s_1.Steps) (iv := step_4) (j := 0) (by kernel_rfl) rfl rfl rfl (by kernel_rfl) (by kernel_rfl) (by kernel_rfl) (by kernel_rfl) rfl Reads.rd rfl h24.1 h24.2 (by decide) rfl ?_
        refine GoF.fldE (i := 6) (hk := [0]) (bk := [0]) (K := kT_api_Step) (A := A_2) (c := c_3) (xs := s_1.Steps) (iN := step_4.toNat) (off := 0) (n := 2) (j := 0) (by kernel_rfl) rfl rfl rfl (by kernel_rfl) (by kernel_rfl) rfl Reads.rd (by first | exact idx_lt h24.1 h24.2 | (simp only [List.length_set]; exact idx_lt h24.1 h24.2)) (by decide) rfl ?_
        refine GoF.ldE (i := 7) (hk := [0]) (bk := [0]) (K := kT_api_Step) (A := A_2) (c := c_3) (xs := s_1.Steps) (iN := step_4.toNat) (off := 2) (j := 0) (v := .int .i64 ((rdL s_1.Steps step_4).Budget)) (by kernel_rfl) rfl rfl rfl (hK := rfl) (by kernel_rfl) rfl Reads.rd (by first | exact idx_lt h24.1 h24.2 | (simp only [List.length_set]; exact idx_lt h24.1 h24.2)) (by decide) (by kernel_rfl) rfl ?_
        refine GoF.take [8] [.p] (ks := [5, 10, 82]) (fu := 0) (li := [true, true, true, true, true, true, true, true, true]) (env' := [(5, .pointer (some ⟨b_8, 0, none⟩)), (10, .pointer (some ⟨b_9, 0, none⟩)), (82, .bool ((wi64 (s_1.Failed + 1)) == ((rdL s_1.Steps step_4).Budget)))]) (ps := []) (hk := [0]) (bk := [0]) (by kernel_rfl) trivial rfl rfl ?_
        refine GoF.done (by kernel_rfl) ?_
        refine GoO.ite' c21_57e (by kernel_rfl) (fun h25 => ?_) (fun h25 => ?_)
        · refine GoO.region' (is := [0, 1]) c21_58e (by kernel_rfl) ?_
          refine GoO.exec (is := [0, 1]) (hs := [.p, .b 0]) (rest := []) (ks := [5, 10]) (env' := [(5, .pointer (some ⟨b_8, 0, none⟩)), (10, .pointer (some ⟨b_9, 0, none⟩))]) (H' := [⟨40, b_8, [.slice A_2 s_1.Steps.length c_3, .int .i64 5, .int .i64 s_1.Cursor, .int .i64 (wi64 (s_1.Failed + 1))]⟩, ⟨41, b_9, [.slice none ([] : List T_api_Step).length 0, .int .i64 0, .int .i64 0, .int .i64 0]⟩]) (ps := [b_8 = b_8]) (by kernel_rfl) (And.intro rfl trivial) ?_
          refine GoO.regionEnd ?_
          refine GoO.exit' c21_60e rfl ?_
          refine GoO.seq' c21_61e ?_
          refine GoO.region' (is := [0, 1, 2]) c21_62e (by kernel_rfl) ?_
          refine GoO.exec (is := [0, 1, 2]) (hs := [.b 0, .b 1, .p]) (rest := []) (ks := [10, 11]) (env' := [(10, .pointer (some ⟨b_9, 0, none⟩)), (11, .bool true)]) (H' := [⟨40, b_8, [.slice A_2 s_1.Steps.length c_3, .int .i64 5, .int .i64 s_1.Cursor, .int .i64 (wi64 (s_1.Failed + 1))]⟩, ⟨41, b_9, [.slice A_2 s_1.Steps.length c_3, .int .i64 5, .int .i64 s_1.Cursor, .int .i64 (wi64 (s_1.Failed + 1))]⟩]) (ps := [b_8 = b_8, b_9 = b_9]) (by kernel_rfl) (And.intro rfl (And.intro rfl trivial)) ?_
          refine GoO.regionEnd ?_
          exact GoO.ret' (h := c21_63e) (hs := [1]) (ps := [b_9 = b_9]) (hk := []) (bk := [0]) Try.func21 (⟨A_2, c_3⟩ : Option Addr × Nat) (by kernel_rfl) (And.intro rfl trivial) (by kernel_rfl) (by kernel_rfl)
        · refine GoO.skip' c21_59e ?_
          refine GoO.exit' c21_60e rfl ?_
          refine GoO.seq' c21_61e ?_
          refine GoO.region' (is := [0, 1, 2]) c21_62e (by kernel_rfl) ?_
          refine GoO.exec (is := [0, 1, 2]) (hs := [.b 0, .b 1, .p]) (rest := []) (ks := [10, 11]) (env' := [(10, .pointer (some ⟨b_9, 0, none⟩)), (11, .bool true)]) (H' := [⟨40, b_8, [.slice A_2 s_1.Steps.length c_3, .int .i64 s_1.State, .int .i64 s_1.Cursor, .int .i64 (wi64 (s_1.Failed + 1))]⟩, ⟨41, b_9, [.slice A_2 s_1.Steps.length c_3, .int .i64 s_1.State, .int .i64 s_1.Cursor, .int .i64 (wi64 (s_1.Failed + 1))]⟩]) (ps := [b_8 = b_8, b_9 = b_9]) (by kernel_rfl) (And.intro rfl (And.intro rfl trivial)) ?_
          refine GoO.regionEnd ?_
          exact GoO.ret' (h := c21_63e) (hs := [1]) (ps := [b_9 = b_9]) (hk := []) (bk := [0]) Try.func21 (⟨A_2, c_3⟩ : Option Addr × Nat) (by kernel_rfl) (And.intro rfl trivial) (by kernel_rfl) (by kernel_rfl)
theorem saga_Outcome_j0_ok (n : Nat) (s_1 : T_api_Saga) (step_4 : Int) (taken_5 : Bool) (ok_7 : Bool) (A_2 : Option Addr) (c_3 : Nat) (b_8 : Nat) (b_9 : Nat) (w0 : World) (S0 : Fam) (b_15 : Bool) :
    GoO (saga_Outcome.cx A_2 c_3 w0 S0) [(1, .int .i64 step_4), (2, .bool taken_5), (4, .bool ok_7), (5, .pointer (some ⟨b_8, 0, none⟩)), (10, .pointer (some ⟨b_9, 0, none⟩)), (42, .bool b_15)] [⟨40, b_8, [.slice A_2 s_1.Steps.length c_3, .int .i64 s_1.State, .int .i64 s_1.Cursor, .int .i64 s_1.Failed]⟩, ⟨41, b_9, [.slice none ([] : List T_api_Step).length 0, .int .i64 0, .int .i64 0, .int .i64 0]⟩] [Rd 0 kT_api_Step A_2 c_3 s_1.Steps] [.code c21_7, .code c21_12] (saga_Outcome.j0 n s_1 step_4 taken_5 ok_7 b_15) := by
  unfold saga_Outcome.j0
  refine GoO.ite' c21_7e (by kernel_rfl) (fun h16 => ?_) (fun h16 => ?_)
  · refine GoO.seq' c21_8e ?_
    refine GoO.region' (is := [0, 1, 2]) c21_9e (by kernel_rfl) ?_
    refine GoO.exec (is := [0, 1, 2]) (hs := [.b 0, .b 1, .p]) (rest := []) (ks := [10, 11]) (env' := [(10, .pointer (some ⟨b_9, 0, none⟩)), (11, .bool false)]) (H' := [⟨40, b_8, [.slice A_2 s_1.Steps.length c_3, .int .i64 s_1.State, .int .i64 s_1.Cursor, .int .i64 s_1.Failed]⟩, ⟨41, b_9, [.slice A_2 s_1.Steps.length c_3, .int .i64 s_1.State, .int .i64 s_1.Cursor, .int .i64 s_1.Failed]⟩]) (ps := [b_8 = b_8, b_9 = b_9]) (by kernel_rfl) (And.intro rfl (And.intro rfl trivial)) ?_
    refine GoO.regionEnd ?_
    exact GoO.ret' (h := c21_10e) (hs := [1]) (ps := [b_9 = b_9]) (hk := []) (bk := [0]) Try.func21 (⟨A_2, c_3⟩ : Option Addr × Nat) (by kernel_rfl) (And.intro rfl trivial) (by kernel_rfl) (by kernel_rfl)
  · refine GoO.skip' c21_11e ?_
    refine GoO.seq' c21_12e ?_
    refine GoO.block' c21_13e ?_
    refine GoO.seq' c21_14e ?_
    refine GoO.block' c21_15e ?_
    refine GoO.seq' c21_16e ?_
    refine GoO.block' c21_17e ?_
    refine GoO.block' c21_18e ?_
    refine GoO.seq' c21_19e ?_
    refine GoO.block' c21_20e ?_
    refine GoO.seq' c21_21e ?_
    refine GoO.seq' c21_22e ?_
    refine GoO.seq' c21_23e ?_
    refine GoO.region' (is := [0, 1, 2, 3, 4, 5]) c21_24e (by kernel_rfl) ?_
    refine GoO.exec (is := [0, 1, 2]) (hs := [.p, .p, .p]) (rest := [3, 4, 5]) (ks := [1, 2, 4, 5, 10, 47]) (env' := [(1, .int .i64 step_4), (2, .bool taken_5), (4, .bool ok_7), (5, .pointer (some ⟨b_8, 0, none⟩)), (10, .pointer (some ⟨b_9, 0, none⟩)), (47, .bool (!taken_5))]) (H' := [⟨40, b_8, [.slice A_2 s_1.Steps.length c_3, .int .i64 s_1.State, .int .i64 s_1.Cursor, .int .i64 s_1.Failed]⟩, ⟨41, b_9, [.slice none ([] : List T_api_Step).length 0, .int .i64 0, .int .i64 0, .int .i64 0]⟩]) (ps := []) (by kernel_rfl) trivial ?_
    refine GoO.bsplit (t := 47) (by kernel_rfl) (fun h17 => ?_) (fun h17 => ?_)
    · refine GoO.exec (is := [3, 4, 5]) (hs := [.p, .p, .p]) (rest := []) (ks := [1, 2, 4, 5, 10, 44]) (env' := [(1, .int .i64 step_4), (2, .bool taken_5), (4, .bool ok_7), (5, .pointer (some ⟨b_8, 0, none⟩)), (10, .pointer (some ⟨b_9, 0, none⟩)), (44, .bool ok_7)]) (H' := [⟨40, b_8, [.slice A_2 s_1.Steps.length c_3, .int .i64 s_1.State, .int .i64 s_1.Cursor, .int .i64 s_1.Failed]⟩, ⟨41, b_9, [.slice none ([] : List T_api_Step).length 0, .int .i64 0, .int .i64 0, .int .i64 0]⟩]) (ps := []) (by kernel_rfl) trivial ?_
      refine GoO.regionEnd ?_
      exact GoO.sub (ks := [1, 2, 4, 5, 10, 44]) (hk := [0, 1]) (bk := [0]) (by kernel_rfl) (by kernel_rfl) (by kernel_rfl) (saga_Outcome_j2_ok n s_1 step_4 taken_5 ok_7 A_2 c_3 b_8 b_9 w0 S0 ok_7)
    · refine GoO.exec (is := [3, 4, 5]) (hs := [.p, .p, .p]) (rest := []) (ks := [1, 2, 4, 5, 10, 44]) (env' := [(1, .int .i64 step_4), (2, .bool taken_5), (4, .bool ok_7), (5, .pointer (some ⟨b_8, 0, none⟩)), (10, .pointer (some ⟨b_9, 0, none⟩)), (44, .bool false)]) (H' := [⟨40, b_8, [.slice A_2 s_1.Steps.length c_3, .int .i64 s_1.State, .int .i64 s_1.Cursor, .int .i64 s_1.Failed]⟩, ⟨41, b_9, [.slice none ([] : List T_api_Step).length 0, .int .i64 0, .int .i64 0, .int .i64 0]⟩]) (ps := []) (by kernel_rfl) trivial ?_
      refine GoO.regionEnd ?_
      exact GoO.sub (ks := [1, 2, 4, 5, 10, 44]) (hk := [0, 1]) (bk := [0]) (by kernel_rfl) (by kernel_rfl) (by kernel_rfl) (saga_Outcome_j2_ok n s_1 step_4 taken_5 ok_7 A_2 c_3 b_8 b_9 w0 S0 false)
theorem saga_Outcome_ok (n : Nat) (s_1 : T_api_Saga) (step_4 : Int) (taken_5 : Bool) (try_6 : Int) (ok_7 : Bool) (A_2 : Option Addr) (c_3 : Nat) :
    Meets Try.prog 21 [.agg ⟨[.slice A_2 s_1.Steps.length c_3, .int .i64 s_1.State, .int .i64 s_1.Cursor, .int .i64 s_1.Failed]⟩, .int .i64 step_4, .bool taken_5, .int .i64 try_6, .bool ok_7] 0 [] [] [Rd 0 kT_api_Step A_2 c_3 s_1.Steps] (saga_Outcome.f n s_1 step_4 taken_5 try_6 ok_7) (saga_Outcome.R A_2 c_3) := by
  refine Meets.of (c := c21_0) (n := 85) Try.func21 (by kernel_rfl) (by kernel_rfl) (by kernel_rfl) fun w0 S0 => ?_
  unfold saga_Outcome.f
  show GoO (saga_Outcome.cx A_2 c_3 w0 S0) [(0, .agg ⟨[.slice A_2 s_1.Steps.length c_3, .int .i64 s_1.State, .int .i64 s_1.Cursor, .int .i64 s_1.Failed]⟩), (1, .int .i64 step_4), (2, .bool taken_5), (3, .int .i64 try_6), (4, .bool ok_7)] [] [Rd 0 kT_api_Step A_2 c_3 s_1.Steps] [.code c21_0] _
  refine GoO.seq' c21_0e ?_
  refine GoO.region' (is := [0, 1, 2]) c21_1e (by kernel_rfl) ?_
  refine OpTo.go (GoO.new rfl 40 (cs := [.slice A_2 s_1.Steps.length c_3, .int .i64 s_1.State, .int .i64 s_1.Cursor, .int .i64 s_1.Failed]) (by kernel_rfl) _ (fun _ => rfl) (fun b_8 => ?_))
  refine OpTo.go (GoO.new rfl 41 (cs := [.slice none ([] : List T_api_Step).length 0, .int .i64 0, .int .i64 0, .int .i64 0]) (by kernel_rfl) _ (fun _ => rfl) (fun b_9 => ?_))
  refine GoO.exec (is := [2]) (hs := [.p]) (rest := []) (ks := [1, 2, 3, 4, 5, 10]) (env' := [(1, .int .i64 step_4), (2, .bool taken_5), (3, .int .i64 try_6), (4, .bool ok_7), (5, .pointer (some ⟨b_8, 0, none⟩)), (10, .pointer (some ⟨b_9, 0, none⟩))]) (H' := [⟨41, b_9, [.slice none ([] : List T_api_Step).length 0, .int .i64 0, .int .i64 0, .int .i64 0]⟩, ⟨40, b_8, [.slice A_2 s_1.Steps.length c_3, .int .i64 s_1.State, .int .i64 s_1.Cursor, .int .i64 s_1.Failed]⟩]) (ps := []) (by kernel_rfl) trivial ?_
  refine GoO.regionEnd ?_
  refine GoO.seq' c21_2e ?_
  refine GoO.region' (is := [0, 1, 2, 3, 4, 5, 6, 7, 8]) c21_3e (by kernel_rfl) ?_
  refine GoO.exec (is := [0]) (hs := [.b 1]) (rest := [1, 2, 3, 4, 5, 6, 7, 8]) (ks := [1, 2, 3, 4, 5, 10, 16]) (env' := [(1, .int .i64 step_4), (2, .bool taken_5), (3, .int .i64 try_6), (4, .bool ok_7), (5, .pointer (some ⟨b_8, 0, none⟩)), (10, .pointer (some ⟨b_9, 0, none⟩)), (16, .agg ⟨[.slice A_2 s_1.Steps.length c_3, .int .i64 s_1.State, .int .i64 s_1.Cursor, .int .i64 s_1.Failed]⟩)]) (H' := [⟨41, b_9, [.slice none ([] : List T_api_Step).length 0, .int .i64 0, .int .i64 0, .int .i64 0]⟩, ⟨40, b_8, [.slice A_2 s_1.Steps.length c_3, .int .i64 s_1.State, .int .i64 s_1.Cursor, .int .i64 s_1.Failed]⟩]) (ps := [b_8 = b_8]) (by kernel_rfl) (And.intro rfl trivial) ?_
  refine OpTo.go (GoO.call rfl (by kernel_rfl) (by kernel_rfl) (saga_Wants_ok n s_1 A_2 c_3) [[0]] [] [] [(0, 0)] (hks := [0, 1]) (bks := [0]) (by kernel_rfl) (by kernel_rfl) (by kernel_rfl) (.inl rfl) rfl rfl (by kernel_rfl) (by kernel_rfl) _ (fun _ _ => rfl) _ _ (fun _ _ => rfl) (fun _ _ => rfl) (fun _ _ => by kernel_rfl) (fun _ _ => by kernel_rfl) (fun r_10 x_28 => ?_))
  refine GoO.shape (env' := [(1, .int .i64 step_4), (2, .bool taken_5), (3, .int .i64 try_6), (4, .bool ok_7), (5, .pointer (some ⟨b_8, 0, none⟩)), (10, .pointer (some ⟨b_9, 0, none⟩)), (16, .agg ⟨[.slice A_2 s_1.Steps.length c_3, .int .i64 s_1.State, .int .i64 s_1.Cursor, .int .i64 s_1.Failed]⟩), (17, .tuple ⟨[.int .i64 r_10.1, .bool r_10.2.1, .bool r_10.2.2]⟩)]) (H' := [⟨41, b_9, [.slice none ([] : List T_api_Step).length 0, .int .i64 0, .int .i64 0, .int .i64 0]⟩, ⟨40, b_8, [.slice A_2 s_1.Steps.length c_3, .int .i64 s_1.State, .int .i64 s_1.Cursor, .int .i64 s_1.Failed]⟩]) (B' := [Rd 0 kT_api_Step A_2 c_3 s_1.Steps]) (ks := [1, 2, 3, 4, 5, 10, 16, 17]) (by kernel_rfl) (by kernel_rfl) (by kernel_rfl) ?_
  refine GoO.exec (is := [2, 3, 4, 5, 6, 7, 8]) (hs := [.p, .p, .p, .p, .p, .p, .p]) (rest := []) (ks := [1, 2, 3, 4, 5, 10, 12, 13, 14]) (env' := [(1, .int .i64 step_4), (2, .bool taken_5), (3, .int .i64 try_6), (4, .bool ok_7), (5, .pointer (some ⟨b_8, 0, none⟩)), (10, .pointer (some ⟨b_9, 0, none⟩)), (12, .int .i64 r_10.1), (13, .bool r_10.2.1), (14, .bool r_10.2.2)]) (H' := [⟨41, b_9, [.slice none ([] : List T_api_Step).length 0, .int .i64 0, .int .i64 0, .int .i64 0]⟩, ⟨40, b_8, [.slice A_2 s_1.Steps.length c_3, .int .i64 s_1.State, .int .i64 s_1.Cursor, .int .i64 s_1.Failed]⟩]) (ps := []) (by kernel_rfl) trivial ?_
  refine GoO.regionEnd ?_
  refine GoO.seq' c21_4e ?_
  refine GoO.seq' c21_5e ?_
  refine GoO.region' (is := [0, 1, 2, 3, 4, 5, 6, 7, 8, 9, 10, 11, 12, 13, 14, 15, 16, 17, 18, 19, 20, 21]) c21_6e (by kernel_rfl) ?_
  refine GoO.exec (is := [0, 1, 2]) (hs := [.p, .p, .p]) (rest := [3, 4, 5, 6, 7, 8, 9, 10, 11, 12, 13, 14, 15, 16, 17, 18, 19, 20, 21]) (ks := [1, 2, 3, 4, 5, 10, 12, 13, 23]) (env' := [(1, .int .i64 step_4), (2, .bool taken_5), (3, .int .i64 try_6), (4, .bool ok_7), (5, .pointer (some ⟨b_8, 0, none⟩)), (10, .pointer (some ⟨b_9, 0, none⟩)), (12, .int .i64 r_10.1), (13, .bool r_10.2.1), (23, .bool (!r_10.2.2))]) (H' := [⟨41, b_9, [.slice none ([] : List T_api_Step).length 0, .int .i64 0, .int .i64 0, .int .i64 0]⟩, ⟨40, b_8, [.slice A_2 s_1.Steps.length c_3, .int .i64 s_1.State, .int .i64 s_1.Cursor, .int .i64 s_1.Failed]⟩]) (ps := []) (by kernel_rfl) trivial ?_
  refine GoO.bsplit (t := 23) (by kernel_rfl) (fun h11 => ?_) (fun h11 => ?_)
  · refine GoO.exec (is := [3, 4, 5, 6, 7, 8, 9, 10, 11, 12, 13, 14, 15, 16, 17, 18, 19, 20, 21]) (hs := [.p, .p, .p, .p, .p, .p, .p, .p, .p, .p, .p, .p, .p, .p, .p, .p, .p, .p, .p]) (rest := []) (ks := [1, 2, 4, 5, 10, 42]) (env' := [(1, .int .i64 step_4), (2, .bool taken_5), (4, .bool ok_7), (5, .pointer (some ⟨b_8, 0, none⟩)), (10, .pointer (some ⟨b_9, 0, none⟩)), (42, .bool true)]) (H' := [⟨41, b_9, [.slice none ([] : List T_api_Step).length 0, .int .i64 0, .int .i64 0, .int .i64 0]⟩, ⟨40, b_8, [.slice A_2 s_1.Steps.length c_3, .int .i64 s_1.State, .int .i64 s_1.Cursor, .int .i64 s_1.Failed]⟩]) (ps := []) (by kernel_rfl) trivial ?_
    refine GoO.regionEnd ?_
    exact GoO.sub (ks := [1, 2, 4, 5, 10, 42]) (hk := [1, 0]) (bk := [0]) (by kernel_rfl) (by kernel_rfl) (by kernel_rfl) (saga_Outcome_j0_ok n s_1 step_4 taken_5 ok_7 A_2 c_3 b_8 b_9 w0 S0 true)
  · refine GoO.exec (is := [3, 4, 5, 6, 7]) (hs := [.p, .p, .p, .p, .p]) (rest := [8, 9, 10, 11, 12, 13, 14, 15, 16, 17, 18, 19, 20, 21]) (ks := [1, 2, 3, 4, 5, 10, 13, 28]) (env' := [(1, .int .i64 step_4), (2, .bool taken_5), (3, .int .i64 try_6), (4, .bool ok_7), (5, .pointer (some ⟨b_8, 0, none⟩)), (10, .pointer (some ⟨b_9, 0, none⟩)), (13, .bool r_10.2.1), (28, .bool (r_10.1 != step_4))]) (H' := [⟨41, b_9, [.slice none ([] : List T_api_Step).length 0, .int .i64 0, .int .i64 0, .int .i64 0]⟩, ⟨40, b_8, [.slice A_2 s_1.Steps.length c_3, .int .i64 s_1.State, .int .i64 s_1.Cursor, .int .i64 s_1.Failed]⟩]) (ps := []) (by kernel_rfl) trivial ?_
    refine GoO.bsplit (t := 28) (by kernel_rfl) (fun h12 => ?_) (fun h12 => ?_)
    · refine GoO.exec (is := [8, 9, 10, 11, 12, 13, 14, 15, 16, 17, 18, 19, 20, 21]) (hs := [.p, .p, .p, .p, .p, .p, .p, .p, .p, .p, .p, .p, .p, .p]) (rest := []) (ks := [1, 2, 4, 5, 10, 42]) (env' := [(1, .int .i64 step_4), (2, .bool taken_5), (4, .bool ok_7), (5, .pointer (some ⟨b_8, 0, none⟩)), (10, .pointer (some ⟨b_9, 0, none⟩)), (42, .bool true)]) (H' := [⟨41, b_9, [.slice none ([] : List T_api_Step).length 0, .int .i64 0, .int .i64 0, .int .i64 0]⟩, ⟨40, b_8, [.slice A_2 s_1.Steps.length c_3, .int .i64 s_1.State, .int .i64 s_1.Cursor, .int .i64 s_1.Failed]⟩]) (ps := []) (by kernel_rfl) trivial ?_
      refine GoO.regionEnd ?_
      exact GoO.sub (ks := [1, 2, 4, 5, 10, 42]) (hk := [1, 0]) (bk := [0]) (by kernel_rfl) (by kernel_rfl) (by kernel_rfl) (saga_Outcome_j0_ok n s_1 step_4 taken_5 ok_7 A_2 c_3 b_8 b_9 w0 S0 true)
    · refine GoO.exec (is := [8, 9, 10, 11, 12]) (hs := [.p, .p, .p, .p, .p]) (rest := [13, 14, 15, 16, 17, 18, 19, 20, 21]) (ks := [1, 2, 3, 4, 5, 10, 33]) (env' := [(1, .int .i64 step_4), (2, .bool taken_5), (3, .int .i64 try_6), (4, .bool ok_7), (5, .pointer (some ⟨b_8, 0, none⟩)), (10, .pointer (some ⟨b_9, 0, none⟩)), (33, .bool (!(r_10.2.1 == taken_5)))]) (H' := [⟨41, b_9, [.slice none ([] : List T_api_Step).length 0, .int .i64 0, .int .i64 0, .int .i64 0]⟩, ⟨40, b_8, [.slice A_2 s_1.Steps.length c_3, .int .i64 s_1.State, .int .i64 s_1.Cursor, .int .i64 s_1.Failed]⟩]) (ps := []) (by kernel_rfl) trivial ?_
      refine GoO.bsplit (t := 33) (by kernel_rfl) (fun h13 => ?_) (fun h13 => ?_)
      · refine GoO.exec (is := [13, 14, 15, 16, 17, 18, 19, 20, 21]) (hs := [.p, .p, .p, .p, .p, .p, .p, .p, .p]) (rest := []) (ks := [1, 2, 4, 5, 10, 42]) (env' := [(1, .int .i64 step_4), (2, .bool taken_5), (4, .bool ok_7), (5, .pointer (some ⟨b_8, 0, none⟩)), (10, .pointer (some ⟨b_9, 0, none⟩)), (42, .bool true)]) (H' := [⟨41, b_9, [.slice none ([] : List T_api_Step).length 0, .int .i64 0, .int .i64 0, .int .i64 0]⟩, ⟨40, b_8, [.slice A_2 s_1.Steps.length c_3, .int .i64 s_1.State, .int .i64 s_1.Cursor, .int .i64 s_1.Failed]⟩]) (ps := []) (by kernel_rfl) trivial ?_
        refine GoO.regionEnd ?_
        exact GoO.sub (ks := [1, 2, 4, 5, 10, 42]) (hk := [1, 0]) (bk := [0]) (by kernel_rfl) (by kernel_rfl) (by kernel_rfl) (saga_Outcome_j0_ok n s_1 step_4 taken_5 ok_7 A_2 c_3 b_8 b_9 w0 S0 true)
      · refine GoO.exec (is := [13, 14, 15]) (hs := [.p, .p, .p]) (rest := [16, 17, 18, 19, 20, 21]) (ks := [1, 2, 3, 4, 5, 10, 33, 36]) (env' := [(1, .int .i64 step_4), (2, .bool taken_5), (3, .int .i64 try_6), (4, .bool ok_7), (5, .pointer (some ⟨b_8, 0, none⟩)), (10, .pointer (some ⟨b_9, 0, none⟩)), (33, .bool false), (36, .bool (!ok_7))]) (H' := [⟨41, b_9, [.slice none ([] : List T_api_Step).length 0, .int .i64 0, .int .i64 0, .int .i64 0]⟩, ⟨40, b_8, [.slice A_2 s_1.Steps.length c_3, .int .i64 s_1.State, .int .i64 s_1.Cursor, .int .i64 s_1.Failed]⟩]) (ps := []) (by kernel_rfl) trivial ?_
        refine GoO.bsplit (t := 36) (by kernel_rfl) (fun h14 => ?_) (fun h14 => ?_)
        · refine GoO.exec (is := [16, 17, 18, 19, 20, 21]) (hs := [.p, .p, .b 1, .p, .p, .p]) (rest := []) (ks := [1, 2, 4, 5, 10, 42]) (env' := [(1, .int .i64 step_4), (2, .bool taken_5), (4, .bool ok_7), (5, .pointer (some ⟨b_8, 0, none⟩)), (10, .pointer (some ⟨b_9, 0, none⟩)), (42, .bool (try_6 != s_1.Failed))]) (H' := [⟨41, b_9, [.slice none ([] : List T_api_Step).length 0, .int .i64 0, .int .i64 0, .int .i64 0]⟩, ⟨40, b_8, [.slice A_2 s_1.Steps.length c_3, .int .i64 s_1.State, .int .i64 s_1.Cursor, .int .i64 s_1.Failed]⟩]) (ps := [b_8 = b_8]) (by kernel_rfl) (And.intro rfl trivial) ?_
          refine GoO.regionEnd ?_
          exact GoO.sub (ks := [1, 2, 4, 5, 10, 42]) (hk := [1, 0]) (bk := [0]) (by kernel_rfl) (by kernel_rfl) (by kernel_rfl) (saga_Outcome_j0_ok n s_1 step_4 taken_5 ok_7 A_2 c_3 b_8 b_9 w0 S0 (try_6 != s_1.Failed))
        · refine GoO.exec (is := [16, 17, 18, 19, 20, 21]) (hs := [.p, .p, .p, .p, .p, .p]) (rest := []) (ks := [1, 2, 4, 5, 10, 42]) (env' := [(1, .int .i64 step_4), (2, .bool taken_5), (4, .bool ok_7), (5, .pointer (some ⟨b_8, 0, none⟩)), (10, .pointer (some ⟨b_9, 0, none⟩)), (42, .bool false)]) (H' := [⟨41, b_9, [.slice none ([] : List T_api_Step).length 0, .int .i64 0, .int .i64 0, .int .i64 0]⟩, ⟨40, b_8, [.slice A_2 s_1.Steps.length c_3, .int .i64 s_1.State, .int .i64 s_1.Cursor, .int .i64 s_1.Failed]⟩]) (ps := []) (by kernel_rfl) trivial ?_
          refine GoO.regionEnd ?_
          exact GoO.sub (ks := [1, 2, 4, 5, 10, 42]) (hk := [1, 0]) (bk := [0]) (by kernel_rfl) (by kernel_rfl) (by kernel_rfl) (saga_Outcome_j0_ok n s_1 step_4 taken_5 ok_7 A_2 c_3 b_8 b_9 w0 S0 false)

/-! tontine/tontinelaw14.begun -/
noncomputable def c20_0 : Code := bodyOf Try.f20
noncomputable def c20_1 : Code := cdL c20_0
noncomputable def c20_2 : Code := cdR c20_0
noncomputable def c20_3 : Code := cdL c20_2
noncomputable def c20_4 : Code := cdR c20_2
noncomputable def c20_5 : Code := cdL c20_4
noncomputable def c20_6 : Code := cdR c20_4
noncomputable def c20_7 : Code := cdL c20_6
noncomputable def c20_8 : Code := cdR c20_6
noncomputable def c20_9 : Code := cdL c20_8
noncomputable def c20_10 : Code := cdR c20_8
noncomputable def c20_11 : Code := cdL c20_10
noncomputable def c20_12 : Code := cdR c20_10
noncomputable def r20_1 : Array Oper := cdO c20_1
noncomputable def r20_3 : Array Oper := cdO c20_3
noncomputable def r20_5 : Array Oper := cdO c20_5
noncomputable def r20_7 : Array Oper := cdO c20_7
noncomputable def r20_9 : Array Oper := cdO c20_9
noncomputable def r20_11 : Array Oper := cdO c20_11
theorem c20_0e : c20_0 = .seq c20_1 c20_2 := by kernel_rfl
theorem c20_1e : c20_1 = .region 0 r20_1 false := by kernel_rfl
theorem c20_2e : c20_2 = .seq c20_3 c20_4 := by kernel_rfl
theorem c20_3e : c20_3 = .region 1 r20_3 false := by kernel_rfl
theorem c20_4e : c20_4 = .seq c20_5 c20_6 := by kernel_rfl
theorem c20_5e : c20_5 = .region 2 r20_5 false := by kernel_rfl
theorem c20_6e : c20_6 = .seq c20_7 c20_8 := by kernel_rfl
theorem c20_7e : c20_7 = .region 3 r20_7 false := by kernel_rfl
theorem c20_8e : c20_8 = .seq c20_9 c20_10 := by kernel_rfl
theorem c20_9e : c20_9 = .region 4 r20_9 false := by kernel_rfl
theorem c20_10e : c20_10 = .seq c20_11 c20_12 := by kernel_rfl
theorem c20_11e : c20_11 = .region 5 r20_11 false := by kernel_rfl
theorem c20_12e : c20_12 = .ret := by kernel_rfl
noncomputable def tontinelaw14_begun.R : Pst Bool where
  ε := Unit
  v := fun r x => .bool r
  H := fun r x => []
  B := fun r x => []
noncomputable def tontinelaw14_begun.cx (w0 : World) (S0 : Fam) : Cx Bool := ⟨Try.prog, 20, Try.f20, 55, w0, S0, [], 0, tontinelaw14_begun.R⟩
theorem tontinelaw14_begun_ok (n : Nat) :
    Meets Try.prog 20 [] 0 [] [] [] (tontinelaw14_begun.f n) (tontinelaw14_begun.R) := by
  refine Meets.of (c := c20_0) (n := 55) Try.func20 (by kernel_rfl) (by kernel_rfl) (by kernel_rfl) fun w0 S0 => ?_
  unfold tontinelaw14_begun.f
  show GoO (tontinelaw14_begun.cx w0 S0) [] [] [] [.code c20_0] _
  refine GoO.seq' c20_0e ?_
  refine GoO.region' (is := [0]) c20_1e (by kernel_rfl) ?_
  refine GoO.exec (is := [0]) (hs := [.p]) (rest := []) (ks := []) (env' := []) (H' := []) (ps := []) (by kernel_rfl) trivial ?_
  refine GoO.regionEnd ?_
  refine GoO.seq' c20_2e ?_
  refine GoO.region' (is := [0, 1, 2, 3, 4, 5, 6, 7, 8, 9]) c20_3e (by kernel_rfl) ?_
  refine GoO.exec (is := [0, 1]) (hs := [.p, .p]) (rest := [2, 3, 4, 5, 6, 7, 8, 9]) (ks := [8, 9]) (env' := [(8, .agg ⟨[.int .i64 0, .string (bs [97]), .int .i64 1]⟩), (9, .agg ⟨[.int .i64 0, .string (bs [98]), .int .i64 1]⟩)]) (H' := []) (ps := []) (by kernel_rfl) trivial ?_
  refine OpTo.go (GoO.lit (e := 50) (K := kT_api_Step) rfl (by kernel_rfl) (by kernel_rfl) (cs := [.int .i64 0, .string (bs [97]), .int .i64 1, .int .i64 0, .string (bs [98]), .int .i64 1]) (by kernel_rfl) [(⟨0, [97], 1⟩ : T_api_Step), (⟨0, [98], 1⟩ : T_api_Step)] (by kernel_rfl) (by kernel_rfl) (fun w S hB => ⟨[.int .i64 0, .string (bs [97]), .int .i64 1], _, rfl, rfl, ⟨[.int .i64 0, .string (bs [98]), .int .i64 1], _, rfl, rfl, rfl⟩⟩) 40 _ (fun _ _ => rfl) (fun A_1 c_2 => ?_))
  refine GoO.retag (t := 40) (u := 0) (j := 0) (hk := []) (bk := []) rfl rfl rfl rfl rfl rfl (by kernel_rfl) (by kernel_rfl) ?_
  refine GoO.own2rd (j := 0) rfl ?_
  refine OpTo.go (GoO.call rfl (by kernel_rfl) (by kernel_rfl) (saga_New_ok n [(⟨0, [97], 1⟩ : T_api_Step), (⟨0, [98], 1⟩ : T_api_Step)] A_1 c_2) [[0]] [] [] [(0, 0)] (hks := []) (bks := [0]) (by kernel_rfl) (by kernel_rfl) (by kernel_rfl) (.inl rfl) rfl rfl (by kernel_rfl) (by kernel_rfl) _ (fun _ _ => rfl) _ _ (fun _ _ => rfl) (fun _ _ => rfl) (fun _ _ => by kernel_rfl) (fun _ _ => by kernel_rfl) (fun r_3 x_26 => ?_))
  obtain ⟨A_4, c_5⟩ := x_26
  refine GoO.shape (env' := [(8, .agg ⟨[.int .i64 0, .string (bs [97]), .int .i64 1]⟩), (9, .agg ⟨[.int .i64 0, .string (bs [98]), .int .i64 1]⟩), (10, .slice A_1 [(⟨0, [97], 1⟩ : T_api_Step), (⟨0, [98], 1⟩ : T_api_Step)].length c_2), (11, .tuple ⟨[.agg ⟨[.slice A_4 r_3.1.Steps.length c_5, .int .i64 r_3.1.State, .int .i64 r_3.1.Cursor, .int .i64 r_3.1.Failed]⟩, .int .i64 r_3.2]⟩)]) (H' := []) (B' := [Rd 0 kT_api_Step A_4 c_5 r_3.1.Steps, Rd 0 kT_api_Step A_1 c_2 [(⟨0, [97], 1⟩ : T_api_Step), (⟨0, [98], 1⟩ : T_api_Step)]]) (ks := [8, 9, 10, 11]) (by kernel_rfl) (by kernel_rfl) (by kernel_rfl) ?_
  refine GoO.exec (is := [4, 5, 6]) (hs := [.p, .p, .p]) (rest := [7, 8, 9]) (ks := [12, 13]) (env' := [(12, .agg ⟨[.slice A_4 r_3.1.Steps.length c_5, .int .i64 r_3.1.State, .int .i64 r_3.1.Cursor, .int .i64 r_3.1.Failed]⟩), (13, .int .i64 r_3.2)]) (H' := []) (ps := []) (by kernel_rfl) trivial ?_
  refine OpTo.go (GoO.new rfl 41 (cs := [.slice none ([] : List T_api_Step).length 0, .int .i64 0, .int .i64 0, .int .i64 0]) (by kernel_rfl) _ (fun _ => rfl) (fun b_6 => ?_))
  refine GoO.exec (is := [8, 9]) (hs := [.b 0, .p]) (rest := []) (ks := [1, 2]) (env' := [(1, .pointer (some ⟨b_6, 0, none⟩)), (2, .int .i64 r_3.2)]) (H' := [⟨41, b_6, [.slice A_4 r_3.1.Steps.length c_5, .int .i64 r_3.1.State, .int .i64 r_3.1.Cursor, .int .i64 r_3.1.Failed]⟩]) (ps := [b_6 = b_6]) (by kernel_rfl) (And.intro rfl trivial) ?_
  refine GoO.regionEnd ?_
  refine GoO.seq' c20_4e ?_
  refine GoO.region' (is := [0, 1, 2, 3, 4, 5, 6]) c20_5e (by kernel_rfl) ?_
  refine GoO.exec (is := [0]) (hs := [.b 0]) (rest := [1, 2, 3, 4, 5, 6]) (ks := [1, 2, 15]) (env' := [(1, .pointer (some ⟨b_6, 0, none⟩)), (2, .int .i64 r_3.2), (15, .agg ⟨[.slice A_4 r_3.1.Steps.length c_5, .int .i64 r_3.1.State, .int .i64 r_3.1.Cursor, .int .i64 r_3.1.Failed]⟩)]) (H' := [⟨41, b_6, [.slice A_4 r_3.1.Steps.length c_5, .int .i64 r_3.1.State, .int .i64 r_3.1.Cursor, .int .i64 r_3.1.Failed]⟩]) (ps := [b_6 = b_6]) (by kernel_rfl) (And.intro rfl trivial) ?_
  refine OpTo.go (GoO.call rfl (by kernel_rfl) (by kernel_rfl) (saga_Outcome_ok n r_3.1 0 false 0 true A_4 c_5) [[0]] [] [] [(0, 0)] (hks := [0]) (bks := [0, 1]) (by kernel_rfl) (by kernel_rfl) (by kernel_rfl) (.inl rfl) rfl rfl (by kernel_rfl) (by kernel_rfl) _ (fun _ _ => rfl) _ _ (fun _ _ => rfl) (fun _ _ => rfl) (fun _ _ => by kernel_rfl) (fun _ _ => by kernel_rfl) (fun r_7 x_25 => ?_))
  obtain ⟨A_8, c_9⟩ := x_25
  refine GoO.shape (env' := [(1, .pointer (some ⟨b_6, 0, none⟩)), (2, .int .i64 r_3.2), (15, .agg ⟨[.slice A_4 r_3.1.Steps.length c_5, .int .i64 r_3.1.State, .int .i64 r_3.1.Cursor, .int .i64 r_3.1.Failed]⟩), (16, .tuple ⟨[.agg ⟨[.slice A_8 r_7.1.Steps.length c_9, .int .i64 r_7.1.State, .int .i64 r_7.1.Cursor, .int .i64 r_7.1.Failed]⟩, .bool r_7.2]⟩)]) (H' := [⟨41, b_6, [.slice A_4 r_3.1.Steps.length c_5, .int .i64 r_3.1.State, .int .i64 r_3.1.Cursor, .int .i64 r_3.1.Failed]⟩]) (B' := [Rd 0 kT_api_Step A_8 c_9 r_7.1.Steps, Rd 0 kT_api_Step A_4 c_5 r_3.1.Steps, Rd 0 kT_api_Step A_1 c_2 [(⟨0, [97], 1⟩ : T_api_Step), (⟨0, [98], 1⟩ : T_api_Step)]]) (ks := [1, 2, 15, 16]) (by kernel_rfl) (by kernel_rfl) (by kernel_rfl) ?_
  refine GoO.exec (is := [2, 3, 4, 5, 6]) (hs := [.p, .p, .p, .b 0, .p]) (rest := []) (ks := [1, 2, 3]) (env' := [(1, .pointer (some ⟨b_6, 0, none⟩)), (2, .int .i64 r_3.2), (3, .bool r_7.2)]) (H' := [⟨41, b_6, [.slice A_8 r_7.1.Steps.length c_9, .int .i64 r_7.1.State, .int .i64 r_7.1.Cursor, .int .i64 r_7.1.Failed]⟩]) (ps := [b_6 = b_6]) (by kernel_rfl) (And.intro rfl trivial) ?_
  refine GoO.regionEnd ?_
  refine GoO.seq' c20_6e ?_
  refine GoO.region' (is := [0, 1, 2, 3, 4, 5, 6]) c20_7e (by kernel_rfl) ?_
  refine GoO.exec (is := [0]) (hs := [.b 0]) (rest := [1, 2, 3, 4, 5, 6]) (ks := [1, 2, 3, 20]) (env' := [(1, .pointer (some ⟨b_6, 0, none⟩)), (2, .int .i64 r_3.2), (3, .bool r_7.2), (20, .agg ⟨[.slice A_8 r_7.1.Steps.length c_9, .int .i64 r_7.1.State, .int .i64 r_7.1.Cursor, .int .i64 r_7.1.Failed]⟩)]) (H' := [⟨41, b_6, [.slice A_8 r_7.1.Steps.length c_9, .int .i64 r_7.1.State, .int .i64 r_7.1.Cursor, .int .i64 r_7.1.Failed]⟩]) (ps := [b_6 = b_6]) (by kernel_rfl) (And.intro rfl trivial) ?_
  refine OpTo.go (GoO.call rfl (by kernel_rfl) (by kernel_rfl) (saga_Outcome_ok n r_7.1 1 false 0 false A_8 c_9) [[0]] [] [] [(0, 0)] (hks := [0]) (bks := [0, 1, 2]) (by kernel_rfl) (by kernel_rfl) (by kernel_rfl) (.inl rfl) rfl rfl (by kernel_rfl) (by kernel_rfl) _ (fun _ _ => rfl) _ _ (fun _ _ => rfl) (fun _ _ => rfl) (fun _ _ => by kernel_rfl) (fun _ _ => by kernel_rfl) (fun r_10 x_24 => ?_))
  obtain ⟨A_11, c_12⟩ := x_24
  refine GoO.shape (env' := [(1, .pointer (some ⟨b_6, 0, none⟩)), (2, .int .i64 r_3.2), (3, .bool r_7.2), (20, .agg ⟨[.slice A_8 r_7.1.Steps.length c_9, .int .i64 r_7.1.State, .int .i64 r_7.1.Cursor, .int .i64 r_7.1.Failed]⟩), (21, .tuple ⟨[.agg ⟨[.slice A_11 r_10.1.Steps.length c_12, .int .i64 r_10.1.State, .int .i64 r_10.1.Cursor, .int .i64 r_10.1.Failed]⟩, .bool r_10.2]⟩)]) (H' := [⟨41, b_6, [.slice A_8 r_7.1.Steps.length c_9, .int .i64 r_7.1.State, .int .i64 r_7.1.Cursor, .int .i64 r_7.1.Failed]⟩]) (B' := [Rd 0 kT_api_Step A_11 c_12 r_10.1.Steps, Rd 0 kT_api_Step A_8 c_9 r_7.1.Steps, Rd 0 kT_api_Step A_4 c_5 r_3.1.Steps, Rd 0 kT_api_Step A_1 c_2 [(⟨0, [97], 1⟩ : T_api_Step), (⟨0, [98], 1⟩ : T_api_Step)]]) (ks := [1, 2, 3, 20, 21]) (by kernel_rfl) (by kernel_rfl) (by kernel_rfl) ?_
  refine GoO.exec (is := [2, 3, 4, 5, 6]) (hs := [.p, .p, .p, .b 0, .p]) (rest := []) (ks := [1, 2, 3, 4]) (env' := [(1, .pointer (some ⟨b_6, 0, none⟩)), (2, .int .i64 r_3.2), (3, .bool r_7.2), (4, .bool r_10.2)]) (H' := [⟨41, b_6, [.slice A_11 r_10.1.Steps.length c_12, .int .i64 r_10.1.State, .int .i64 r_10.1.Cursor, .int .i64 r_10.1.Failed]⟩]) (ps := [b_6 = b_6]) (by kernel_rfl) (And.intro rfl trivial) ?_
  refine GoO.regionEnd ?_
  refine GoO.seq' c20_8e ?_
  refine GoO.region' (is := [0, 1, 2, 3, 4, 5, 6, 7]) c20_9e (by kernel_rfl) ?_
  refine GoO.exec (is := [0]) (hs := [.b 0]) (rest := [1, 2, 3, 4, 5, 6, 7]) (ks := [1, 2, 3, 4, 25]) (env' := [(1, .pointer (some ⟨b_6, 0, none⟩)), (2, .int .i64 r_3.2), (3, .bool r_7.2), (4, .bool r_10.2), (25, .agg ⟨[.slice A_11 r_10.1.Steps.length c_12, .int .i64 r_10.1.State, .int .i64 r_10.1.Cursor, .int .i64 r_10.1.Failed]⟩)]) (H' := [⟨41, b_6, [.slice A_11 r_10.1.Steps.length c_12, .int .i64 r_10.1.State, .int .i64 r_10.1.Cursor, .int .i64 r_10.1.Failed]⟩]) (ps := [b_6 = b_6]) (by kernel_rfl) (And.intro rfl trivial) ?_
  refine OpTo.go (GoO.call rfl (by kernel_rfl) (by kernel_rfl) (saga_Outcome_ok n r_10.1 0 true 0 true A_11 c_12) [[0]] [] [] [(0, 0)] (hks := [0]) (bks := [0, 1, 2, 3]) (by kernel_rfl) (by kernel_rfl) (by kernel_rfl) (.inl rfl) rfl rfl (by kernel_rfl) (by kernel_rfl) _ (fun _ _ => rfl) _ _ (fun _ _ => rfl) (fun _ _ => rfl) (fun _ _ => by kernel_rfl) (fun _ _ => by kernel_rfl) (fun r_13 x_23 => ?_))
  obtain ⟨A_14, c_15⟩ := x_23
  refine GoO.shape (env' := [(1, .pointer (some ⟨b_6, 0, none⟩)), (2, .int .i64 r_3.2), (3, .bool r_7.2), (4, .bool r_10.2), (25, .agg ⟨[.slice A_11 r_10.1.Steps.length c_12, .int .i64 r_10.1.State, .int .i64 r_10.1.Cursor, .int .i64 r_10.1.Failed]⟩), (26, .tuple ⟨[.agg ⟨[.slice A_14 r_13.1.Steps.length c_15, .int .i64 r_13.1.State, .int .i64 r_13.1.Cursor, .int .i64 r_13.1.Failed]⟩, .bool r_13.2]⟩)]) (H' := [⟨41, b_6, [.slice A_11 r_10.1.Steps.length c_12, .int .i64 r_10.1.State, .int .i64 r_10.1.Cursor, .int .i64 r_10.1.Failed]⟩]) (B' := [Rd 0 kT_api_Step A_14 c_15 r_13.1.Steps, Rd 0 kT_api_Step A_11 c_12 r_10.1.Steps, Rd 0 kT_api_Step A_8 c_9 r_7.1.Steps, Rd 0 kT_api_Step A_4 c_5 r_3.1.Steps, Rd 0 kT_api_Step A_1 c_2 [(⟨0, [97], 1⟩ : T_api_Step), (⟨0, [98], 1⟩ : T_api_Step)]]) (ks := [1, 2, 3, 4, 25, 26]) (by kernel_rfl) (by kernel_rfl) (by kernel_rfl) ?_
  refine GoO.exec (is := [2, 3, 4]) (hs := [.p, .p, .p]) (rest := [5, 6, 7]) (ks := [1, 2, 3, 4, 27, 28]) (env' := [(1, .pointer (some ⟨b_6, 0, none⟩)), (2, .int .i64 r_3.2), (3, .bool r_7.2), (4, .bool r_10.2), (27, .agg ⟨[.slice A_14 r_13.1.Steps.length c_15, .int .i64 r_13.1.State, .int .i64 r_13.1.Cursor, .int .i64 r_13.1.Failed]⟩), (28, .bool r_13.2)]) (H' := [⟨41, b_6, [.slice A_11 r_10.1.Steps.length c_12, .int .i64 r_10.1.State, .int .i64 r_10.1.Cursor, .int .i64 r_10.1.Failed]⟩]) (ps := []) (by kernel_rfl) trivial ?_
  refine OpTo.go (GoO.new rfl 42 (cs := [.slice none ([] : List T_api_Step).length 0, .int .i64 0, .int .i64 0, .int .i64 0]) (by kernel_rfl) _ (fun _ => rfl) (fun b_16 => ?_))
  refine GoO.exec (is := [6, 7]) (hs := [.b 0, .p]) (rest := []) (ks := [1, 2, 3, 4, 5, 6]) (env' := [(1, .pointer (some ⟨b_6, 0, none⟩)), (2, .int .i64 r_3.2), (3, .bool r_7.2), (4, .bool r_10.2), (5, .pointer (some ⟨b_16, 0, none⟩)), (6, .bool r_13.2)]) (H' := [⟨42, b_16, [.slice A_14 r_13.1.Steps.length c_15, .int .i64 r_13.1.State, .int .i64 r_13.1.Cursor, .int .i64 r_13.1.Failed]⟩, ⟨41, b_6, [.slice A_11 r_10.1.Steps.length c_12, .int .i64 r_10.1.State, .int .i64 r_10.1.Cursor, .int .i64 r_10.1.Failed]⟩]) (ps := [b_16 = b_16]) (by kernel_rfl) (And.intro rfl trivial) ?_
  refine GoO.regionEnd ?_
  refine GoO.seq' c20_10e ?_
  refine GoO.region' (is := [0, 1, 2, 3, 4, 5, 6, 7, 8, 9, 10, 11, 12, 13, 14, 15, 16, 17, 18, 19, 20, 21, 22, 23, 24, 25, 26]) c20_11e (by kernel_rfl) ?_
  refine GoO.exec (is := [0, 1, 2]) (hs := [.p, .p, .p]) (rest := [3, 4, 5, 6, 7, 8, 9, 10, 11, 12, 13, 14, 15, 16, 17, 18, 19, 20, 21, 22, 23, 24, 25, 26]) (ks := [1, 3, 4, 5, 6, 31]) (env' := [(1, .pointer (some ⟨b_6, 0, none⟩)), (3, .bool r_7.2), (4, .bool r_10.2), (5, .pointer (some ⟨b_16, 0, none⟩)), (6, .bool r_13.2), (31, .bool (r_3.2 == 0))]) (H' := [⟨42, b_16, [.slice A_14 r_13.1.Steps.length c_15, .int .i64 r_13.1.State, .int .i64 r_13.1.Cursor, .int .i64 r_13.1.Failed]⟩, ⟨41, b_6, [.slice A_11 r_10.1.Steps.length c_12, .int .i64 r_10.1.State, .int .i64 r_10.1.Cursor, .int .i64 r_10.1.Failed]⟩]) (ps := []) (by kernel_rfl) trivial ?_
  refine GoO.bsplit (t := 31) (by kernel_rfl) (fun h17 => ?_) (fun h17 => ?_)
  · refine GoO.exec (is := [3, 4, 5]) (hs := [.p, .p, .p]) (rest := [6, 7, 8, 9, 10, 11, 12, 13, 14, 15, 16, 17, 18, 19, 20, 21, 22, 23, 24, 25, 26]) (ks := [1, 4, 5, 6, 34]) (env' := [(1, .pointer (some ⟨b_6, 0, none⟩)), (4, .bool r_10.2), (5, .pointer (some ⟨b_16, 0, none⟩)), (6, .bool r_13.2), (34, .bool r_7.2)]) (H' := [⟨42, b_16, [.slice A_14 r_13.1.Steps.length c_15, .int .i64 r_13.1.State, .int .i64 r_13.1.Cursor, .int .i64 r_13.1.Failed]⟩, ⟨41, b_6, [.slice A_11 r_10.1.Steps.length c_12, .int .i64 r_10.1.State, .int .i64 r_10.1.Cursor, .int .i64 r_10.1.Failed]⟩]) (ps := []) (by kernel_rfl) trivial ?_
    refine GoO.bsplit (t := 34) (by kernel_rfl) (fun h18 => ?_) (fun h18 => ?_)
    · refine GoO.exec (is := [6, 7, 8]) (hs := [.p, .p, .p]) (rest := [9, 10, 11, 12, 13, 14, 15, 16, 17, 18, 19, 20, 21, 22, 23, 24, 25, 26]) (ks := [1, 5, 6, 37]) (env' := [(1, .pointer (some ⟨b_6, 0, none⟩)), (5, .pointer (some ⟨b_16, 0, none⟩)), (6, .bool r_13.2), (37, .bool r_10.2)]) (H' := [⟨42, b_16, [.slice A_14 r_13.1.Steps.length c_15, .int .i64 r_13.1.State, .int .i64 r_13.1.Cursor, .int .i64 r_13.1.Failed]⟩, ⟨41, b_6, [.slice A_11 r_10.1.Steps.length c_12, .int .i64 r_10.1.State, .int .i64 r_10.1.Cursor, .int .i64 r_10.1.Failed]⟩]) (ps := []) (by kernel_rfl) trivial ?_
      refine GoO.bsplit (t := 37) (by kernel_rfl) (fun h19 => ?_) (fun h19 => ?_)
      · refine GoO.exec (is := [9, 10, 11]) (hs := [.p, .p, .p]) (rest := [12, 13, 14, 15, 16, 17, 18, 19, 20, 21, 22, 23, 24, 25, 26]) (ks := [1, 5, 40]) (env' := [(1, .pointer (some ⟨b_6, 0, none⟩)), (5, .pointer (some ⟨b_16, 0, none⟩)), (40, .bool r_13.2)]) (H' := [⟨42, b_16, [.slice A_14 r_13.1.Steps.length c_15, .int .i64 r_13.1.State, .int .i64 r_13.1.Cursor, .int .i64 r_13.1.Failed]⟩, ⟨41, b_6, [.slice A_11 r_10.1.Steps.length c_12, .int .i64 r_10.1.State, .int .i64 r_10.1.Cursor, .int .i64 r_10.1.Failed]⟩]) (ps := []) (by kernel_rfl) trivial ?_
        refine GoO.bsplit (t := 40) (by kernel_rfl) (fun h20 => ?_) (fun h20 => ?_)
        · refine GoO.exec (is := [12, 13, 14, 15, 16]) (hs := [.p, .b 1, .p, .p, .p]) (rest := [17, 18, 19, 20, 21, 22, 23, 24, 25, 26]) (ks := [1, 5, 45]) (env' := [(1, .pointer (some ⟨b_6, 0, none⟩)), (5, .pointer (some ⟨b_16, 0, none⟩)), (45, .bool (r_10.1.State == 2))]) (H' := [⟨42, b_16, [.slice A_14 r_13.1.Steps.length c_15, .int .i64 r_13.1.State, .int .i64 r_13.1.Cursor, .int .i64 r_13.1.Failed]⟩, ⟨41, b_6, [.slice A_11 r_10.1.Steps.length c_12, .int .i64 r_10.1.State, .int .i64 r_10.1.Cursor, .int .i64 r_10.1.Failed]⟩]) (ps := [b_6 = b_6]) (by kernel_rfl) (And.intro rfl trivial) ?_
          refine GoO.bsplit (t := 45) (by kernel_rfl) (fun h21 => ?_) (fun h21 => ?_)
          · refine GoO.exec (is := [17, 18, 19, 20, 21]) (hs := [.p, .b 1, .p, .p, .p]) (rest := [22, 23, 24, 25, 26]) (ks := [5, 50]) (env' := [(5, .pointer (some ⟨b_16, 0, none⟩)), (50, .bool (r_10.1.Cursor == 0))]) (H' := [⟨42, b_16, [.slice A_14 r_13.1.Steps.length c_15, .int .i64 r_13.1.State, .int .i64 r_13.1.Cursor, .int .i64 r_13.1.Failed]⟩, ⟨41, b_6, [.slice A_11 r_10.1.Steps.length c_12, .int .i64 r_10.1.State, .int .i64 r_10.1.Cursor, .int .i64 r_10.1.Failed]⟩]) (ps := [b_6 = b_6]) (by kernel_rfl) (And.intro rfl trivial) ?_
            refine GoO.bsplit (t := 50) (by kernel_rfl) (fun h22 => ?_) (fun h22 => ?_)
            · refine GoO.exec (is := [22, 23, 24, 25, 26]) (hs := [.p, .b 0, .p, .p, .p]) (rest := []) (ks := [0]) (env' := [(0, .bool (r_13.1.State == 4))]) (H' := [⟨42, b_16, [.slice A_14 r_13.1.Steps.length c_15, .int .i64 r_13.1.State, .int .i64 r_13.1.Cursor, .int .i64 r_13.1.Failed]⟩, ⟨41, b_6, [.slice A_11 r_10.1.Steps.length c_12, .int .i64 r_10.1.State, .int .i64 r_10.1.Cursor, .int .i64 r_10.1.Failed]⟩]) (ps := [b_16 = b_16]) (by kernel_rfl) (And.intro rfl trivial) ?_
              refine GoO.regionEnd ?_
              exact GoO.ret' (h := c20_12e) (hs := []) (ps := []) (hk := []) (bk := []) Try.func20 () (by kernel_rfl) trivial (by kernel_rfl) (by kernel_rfl)
            · refine GoO.exec (is := [22, 23, 24, 25, 26]) (hs := [.p, .p, .p, .p, .p]) (rest := []) (ks := [0]) (env' := [(0, .bool false)]) (H' := [⟨42, b_16, [.slice A_14 r_13.1.Steps.length c_15, .int .i64 r_13.1.State, .int .i64 r_13.1.Cursor, .int .i64 r_13.1.Failed]⟩, ⟨41, b_6, [.slice A_11 r_10.1.Steps.length c_12, .int .i64 r_10.1.State, .int .i64 r_10.1.Cursor, .int .i64 r_10.1.Failed]⟩]) (ps := []) (by kernel_rfl) trivial ?_
              refine GoO.regionEnd ?_
              exact GoO.ret' (h := c20_12e) (hs := []) (ps := []) (hk := []) (bk := []) Try.func20 () (by kernel_rfl) trivial (by kernel_rfl) (by kernel_rfl)
          · refine GoO.exec (is := [17, 18, 19, 20, 21, 22, 23, 24, 25, 26]) (hs := [.p, .p, .p, .p, .p, .p, .p, .p, .p, .p]) (rest := []) (ks := [0]) (env' := [(0, .bool false)]) (H' := [⟨42, b_16, [.slice A_14 r_13.1.Steps.length c_15, .int .i64 r_13.1.State, .int .i64 r_13.1.Cursor, .int .i64 r_13.1.Failed]⟩, ⟨41, b_6, [.slice A_11 r_10.1.Steps.length c_12, .int .i64 r_10.1.State, .int .i64 r_10.1.Cursor, .int .i64 r_10.1.Failed]⟩]) (ps := []) (by kernel_rfl) trivial ?_
            refine GoO.regionEnd ?_
            exact GoO.ret' (h := c20_12e) (hs := []) (ps := []) (hk := []) (bk := []) Try.func20 () (by kernel_rfl) trivial (by kernel_rfl) (by kernel_rfl)
        · refine GoO.exec (is := [12, 13, 14, 15, 16, 17, 18, 19, 20, 21, 22, 23, 24, 25, 26]) (hs := [.p, .p, .p, .p, .p, .p, .p, .p, .p, .p, .p, .p, .p, .p, .p]) (rest := []) (ks := [0]) (env' := [(0, .bool false)]) (H' := [⟨42, b_16, [.slice A_14 r_13.1.Steps.length c_15, .int .i64 r_13.1.State, .int .i64 r_13.1.Cursor, .int .i64 r_13.1.Failed]⟩, ⟨41, b_6, [.slice A_11 r_10.1.Steps.length c_12, .int .i64 r_10.1.State, .int .i64 r_10.1.Cursor, .int .i64 r_10.1.Failed]⟩]) (ps := []) (by kernel_rfl) trivial ?_
          refine GoO.regionEnd ?_
          exact GoO.ret' (h := c20_12e) (hs := []) (ps := []) (hk := []) (bk := []) Try.func20 () (by kernel_rfl) trivial (by kernel_rfl) (by kernel_rfl)
      · refine GoO.exec (is := [9, 10, 11, 12, 13, 14, 15, 16, 17, 18, 19, 20, 21, 22, 23, 24, 25, 26]) (hs := [.p, .p, .p, .p, .p, .p, .p, .p, .p, .p, .p, .p, .p, .p, .p, .p, .p, .p]) (rest := []) (ks := [0]) (env' := [(0, .bool false)]) (H' := [⟨42, b_16, [.slice A_14 r_13.1.Steps.length c_15, .int .i64 r_13.1.State, .int .i64 r_13.1.Cursor, .int .i64 r_13.1.Failed]⟩, ⟨41, b_6, [.slice A_11 r_10.1.Steps.length c_12, .int .i64 r_10.1.State, .int .i64 r_10.1.Cursor, .int .i64 r_10.1.Failed]⟩]) (ps := []) (by kernel_rfl) trivial ?_
        refine GoO.regionEnd ?_
        exact GoO.ret' (h := c20_12e) (hs := []) (ps := []) (hk := []) (bk := []) Try.func20 () (by kernel_rfl) trivial (by kernel_rfl) (by kernel_rfl)
    · refine GoO.exec (is := [6, 7, 8, 9, 10, 11, 12, 13, 14, 15, 16, 17, 18, 19, 20, 21, 22, 23, 24, 25, 26]) (hs := [.p, .p, .p, .p, .p, .p, .p, .p, .p, .p, .p, .p, .p, .p, .p, .p, .p, .p, .p, .p, .p]) (rest := []) (ks := [0]) (env' := [(0, .bool false)]) (H' := [⟨42, b_16, [.slice A_14 r_13.1.Steps.length c_15, .int .i64 r_13.1.State, .int .i64 r_13.1.Cursor, .int .i64 r_13.1.Failed]⟩, ⟨41, b_6, [.slice A_11 r_10.1.Steps.length c_12, .int .i64 r_10.1.State, .int .i64 r_10.1.Cursor, .int .i64 r_10.1.Failed]⟩]) (ps := []) (by kernel_rfl) trivial ?_
      refine GoO.regionEnd ?_
      exact GoO.ret' (h := c20_12e) (hs := []) (ps := []) (hk := []) (bk := []) Try.func20 () (by kernel_rfl) trivial (by kernel_rfl) (by kernel_rfl)
  · refine GoO.exec (is := [3, 4, 5, 6, 7, 8, 9, 10, 11, 12, 13, 14, 15, 16, 17, 18, 19, 20, 21, 22, 23, 24, 25, 26]) (hs := [.p, .p, .p, .p, .p, .p, .p, .p, .p, .p, .p, .p, .p, .p, .p, .p, .p, .p, .p, .p, .p, .p, .p, .p]) (rest := []) (ks := [0]) (env' := [(0, .bool false)]) (H' := [⟨42, b_16, [.slice A_14 r_13.1.Steps.length c_15, .int .i64 r_13.1.State, .int .i64 r_13.1.Cursor, .int .i64 r_13.1.Failed]⟩, ⟨41, b_6, [.slice A_11 r_10.1.Steps.length c_12, .int .i64 r_10.1.State, .int .i64 r_10.1.Cursor, .int .i64 r_10.1.Failed]⟩]) (ps := []) (by kernel_rfl) trivial ?_
    refine GoO.regionEnd ?_
    exact GoO.ret' (h := c20_12e) (hs := []) (ps := []) (hk := []) (bk := []) Try.func20 () (by kernel_rfl) trivial (by kernel_rfl) (by kernel_rfl)

/-! tontine/saga.Abort -/
noncomputable def c23_0 : Code := bodyOf Try.f23
noncomputable def c23_1 : Code := cdL c23_0
noncomputable def c23_2 : Code := cdR c23_0
noncomputable def c23_3 : Code := cdL c23_2
noncomputable def c23_4 : Code := cdL c23_3
noncomputable def c23_5 : Code := cdR c23_3
noncomputable def c23_6 : Code := cdL c23_5
noncomputable def c23_7 : Code := cdL c23_6
noncomputable def c23_8 : Code := cdR c23_6
noncomputable def c23_9 : Code := cdR c23_5
noncomputable def c23_10 : Code := cdR c23_2
noncomputable def c23_11 : Code := cdL c23_10
noncomputable def c23_12 : Code := cdR c23_10
noncomputable def r23_1 : Array Oper := cdO c23_1
noncomputable def r23_4 : Array Oper := cdO c23_4
noncomputable def r23_7 : Array Oper := cdO c23_7
noncomputable def r23_11 : Array Oper := cdO c23_11
theorem c23_0e : c23_0 = .seq c23_1 c23_2 := by kernel_rfl
theorem c23_1e : c23_1 = .region 0 r23_1 false := by kernel_rfl
theorem c23_2e : c23_2 = .seq c23_3 c23_10 := by kernel_rfl
theorem c23_3e : c23_3 = .seq c23_4 c23_5 := by kernel_rfl
theorem c23_4e : c23_4 = .region 1 r23_4 false := by kernel_rfl
theorem c23_5e : c23_5 = .cond (cdC c23_5) c23_6 c23_9 := by kernel_rfl
theorem c23_6e : c23_6 = .seq c23_7 c23_8 := by kernel_rfl
theorem c23_7e : c23_7 = .region 2 r23_7 false := by kernel_rfl
theorem c23_8e : c23_8 = .ret := by kernel_rfl
theorem c23_9e : c23_9 = .skip := by kernel_rfl
theorem c23_10e : c23_10 = .seq c23_11 c23_12 := by kernel_rfl
theorem c23_11e : c23_11 = .region 3 r23_11 false := by kernel_rfl
theorem c23_12e : c23_12 = .ret := by kernel_rfl
noncomputable def saga_Abort.R (A_2 : Option Addr) (c_3 : Nat) : Pst (T_api_Saga × Bool) where
  ε := Option Addr × Nat
  v := fun r x => .tuple ⟨[.agg ⟨[.slice x.1 r.1.Steps.length x.2, .int .i64 r.1.State, .int .i64 r.1.Cursor, .int .i64 r.1.Failed]⟩, .bool r.2]⟩
  H := fun r x => []
  B := fun r x => [Rd 0 kT_api_Step x.1 x.2 r.1.Steps]
noncomputable def saga_Abort.cx (A_2 : Option Addr) (c_3 : Nat) (w0 : World) (S0 : Fam) : Cx (T_api_Saga × Bool) := ⟨Try.prog, 23, Try.f23, 17, w0, S0, [], 0, saga_Abort.R A_2 c_3⟩
theorem saga_Abort_j0_ok (n : Nat) (s_1 : T_api_Saga) (A_2 : Option Addr) (c_3 : Nat) (b_4 : Nat) (b_5 : Nat) (w0 : World) (S0 : Fam) (b_8 : Bool) :
    GoO (saga_Abort.cx A_2 c_3 w0 S0) [(1, .pointer (some ⟨b_4, 0, none⟩)), (2, .pointer (some ⟨b_5, 0, none⟩)), (11, .bool b_8)] [⟨40, b_4, [.slice A_2 s_1.Steps.length c_3, .int .i64 s_1.State, .int .i64 s_1.Cursor, .int .i64 s_1.Failed]⟩, ⟨41, b_5, [.slice none ([] : List T_api_Step).length 0, .int .i64 0, .int .i64 0, .int .i64 0]⟩] [Rd 0 kT_api_Step A_2 c_3 s_1.Steps] [.code c23_5, .code c23_10] (saga_Abort.j0 n s_1 b_8) := by
  unfold saga_Abort.j0
  refine GoO.ite' c23_5e (by kernel_rfl) (fun h9 => ?_) (fun h9 => ?_)
  · refine GoO.seq' c23_6e ?_
    refine GoO.region' (is := [0, 1, 2]) c23_7e (by kernel_rfl) ?_
    refine GoO.exec (is := [0, 1, 2]) (hs := [.b 0, .b 1, .p]) (rest := []) (ks := [2, 3]) (env' := [(2, .pointer (some ⟨b_5, 0, none⟩)), (3, .bool false)]) (H' := [⟨40, b_4, [.slice A_2 s_1.Steps.length c_3, .int .i64 s_1.State, .int .i64 s_1.Cursor, .int .i64 s_1.Failed]⟩, ⟨41, b_5, [.slice A_2 s_1.Steps.length c_3, .int .i64 s_1.State, .int .i64 s_1.Cursor, .int .i64 s_1.Failed]⟩]) (ps := [b_4 = b_4, b_5 = b_5]) (by kernel_rfl) (And.intro rfl (And.intro rfl trivial)) ?_
    refine GoO.regionEnd ?_
    exact GoO.ret' (h := c23_8e) (hs := [1]) (ps := [b_5 = b_5]) (hk := []) (bk := [0]) Try.func23 (⟨A_2, c_3⟩ : Option Addr × Nat) (by kernel_rfl) (And.intro rfl trivial) (by kernel_rfl) (by kernel_rfl)
  · refine GoO.skip' c23_9e ?_
    refine GoO.seq' c23_10e ?_
    refine GoO.region' (is := [0, 1, 2, 3, 4, 5]) c23_11e (by kernel_rfl) ?_
    refine GoO.exec (is := [0, 1, 2]) (hs := [.b 0, .p, .b 0]) (rest := [3, 4, 5]) (ks := [2, 13, 15]) (env' := [(2, .pointer (some ⟨b_5, 0, none⟩)), (13, .agg ⟨[.slice A_2 s_1.Steps.length c_3, .int .i64 s_1.State, .int .i64 s_1.Cursor, .int .i64 s_1.Failed]⟩), (15, .int .i64 s_1.Cursor)]) (H' := [⟨40, b_4, [.slice A_2 s_1.Steps.length c_3, .int .i64 s_1.State, .int .i64 s_1.Cursor, .int .i64 s_1.Failed]⟩, ⟨41, b_5, [.slice none ([] : List T_api_Step).length 0, .int .i64 0, .int .i64 0, .int .i64 0]⟩]) (ps := [b_4 = b_4, b_4 = b_4]) (by kernel_rfl) (And.intro rfl (And.intro rfl trivial)) ?_
    refine OpTo.go (GoO.call rfl (by kernel_rfl) (by kernel_rfl) (saga_back_ok n s_1 s_1.Cursor A_2 c_3) [[0]] [] [] [(0, 0)] (hks := [0, 1]) (bks := [0]) (by kernel_rfl) (by kernel_rfl) (by kernel_rfl) (.inl rfl) rfl rfl (by kernel_rfl) (by kernel_rfl) _ (fun _ _ => rfl) _ _ (fun _ _ => rfl) (fun _ _ => rfl) (fun _ _ => by kernel_rfl) (fun _ _ => by kernel_rfl) (fun r_10 x_13 => ?_))
    obtain ⟨A_11, c_12⟩ := x_13
    refine GoO.shape (env' := [(2, .pointer (some ⟨b_5, 0, none⟩)), (13, .agg ⟨[.slice A_2 s_1.Steps.length c_3, .int .i64 s_1.State, .int .i64 s_1.Cursor, .int .i64 s_1.Failed]⟩), (15, .int .i64 s_1.Cursor), (16, .agg ⟨[.slice A_11 r_10.Steps.length c_12, .int .i64 r_10.State, .int .i64 r_10.Cursor, .int .i64 r_10.Failed]⟩)]) (H' := [⟨40, b_4, [.slice A_2 s_1.Steps.length c_3, .int .i64 s_1.State, .int .i64 s_1.Cursor, .int .i64 s_1.Failed]⟩, ⟨41, b_5, [.slice none ([] : List T_api_Step).length 0, .int .i64 0, .int .i64 0, .int .i64 0]⟩]) (B' := [Rd 0 kT_api_Step A_11 c_12 r_10.Steps, Rd 0 kT_api_Step A_2 c_3 s_1.Steps]) (ks := [2, 13, 15, 16]) (by kernel_rfl) (by kernel_rfl) (by kernel_rfl) ?_
    refine GoO.exec (is := [4, 5]) (hs := [.b 1, .p]) (rest := []) (ks := [2, 3]) (env' := [(2, .pointer (some ⟨b_5, 0, none⟩)), (3, .bool true)]) (H' := [⟨40, b_4, [.slice A_2 s_1.Steps.length c_3, .int .i64 s_1.State, .int .i64 s_1.Cursor, .int .i64 s_1.Failed]⟩, ⟨41, b_5, [.slice A_11 r_10.Steps.length c_12, .int .i64 r_10.State, .int .i64 r_10.Cursor, .int .i64 r_10.Failed]⟩]) (ps := [b_5 = b_5]) (by kernel_rfl) (And.intro rfl trivial) ?_
    refine GoO.regionEnd ?_
    exact GoO.ret' (h := c23_12e) (hs := [1]) (ps := [b_5 = b_5]) (hk := []) (bk := [0]) Try.func23 (⟨A_11, c_12⟩ : Option Addr × Nat) (by kernel_rfl) (And.intro rfl trivial) (by kernel_rfl) (by kernel_rfl)
theorem saga_Abort_ok (n : Nat) (s_1 : T_api_Saga) (A_2 : Option Addr) (c_3 : Nat) :
    Meets Try.prog 23 [.agg ⟨[.slice A_2 s_1.Steps.length c_3, .int .i64 s_1.State, .int .i64 s_1.Cursor, .int .i64 s_1.Failed]⟩] 0 [] [] [Rd 0 kT_api_Step A_2 c_3 s_1.Steps] (saga_Abort.f n s_1) (saga_Abort.R A_2 c_3) := by
  refine Meets.of (c := c23_0) (n := 17) Try.func23 (by kernel_rfl) (by kernel_rfl) (by kernel_rfl) fun w0 S0 => ?_
  unfold saga_Abort.f
  show GoO (saga_Abort.cx A_2 c_3 w0 S0) [(0, .agg ⟨[.slice A_2 s_1.Steps.length c_3, .int .i64 s_1.State, .int .i64 s_1.Cursor, .int .i64 s_1.Failed]⟩)] [] [Rd 0 kT_api_Step A_2 c_3 s_1.Steps] [.code c23_0] _
  refine GoO.seq' c23_0e ?_
  refine GoO.region' (is := [0, 1, 2]) c23_1e (by kernel_rfl) ?_
  refine OpTo.go (GoO.new rfl 40 (cs := [.slice A_2 s_1.Steps.length c_3, .int .i64 s_1.State, .int .i64 s_1.Cursor, .int .i64 s_1.Failed]) (by kernel_rfl) _ (fun _ => rfl) (fun b_4 => ?_))
  refine OpTo.go (GoO.new rfl 41 (cs := [.slice none ([] : List T_api_Step).length 0, .int .i64 0, .int .i64 0, .int .i64 0]) (by kernel_rfl) _ (fun _ => rfl) (fun b_5 => ?_))
  refine GoO.exec (is := [2]) (hs := [.p]) (rest := []) (ks := [1, 2]) (env' := [(1, .pointer (some ⟨b_4, 0, none⟩)), (2, .pointer (some ⟨b_5, 0, none⟩))]) (H' := [⟨41, b_5, [.slice none ([] : List T_api_Step).length 0, .int .i64 0, .int .i64 0, .int .i64 0]⟩, ⟨40, b_4, [.slice A_2 s_1.Steps.length c_3, .int .i64 s_1.State, .int .i64 s_1.Cursor, .int .i64 s_1.Failed]⟩]) (ps := []) (by kernel_rfl) trivial ?_
  refine GoO.regionEnd ?_
  refine GoO.seq' c23_2e ?_
  refine GoO.seq' c23_3e ?_
  refine GoO.region' (is := [0, 1, 2, 3, 4, 5, 6, 7]) c23_4e (by kernel_rfl) ?_
  refine GoO.exec (is := [0]) (hs := [.b 1]) (rest := [1, 2, 3, 4, 5, 6, 7]) (ks := [1, 2, 4]) (env' := [(1, .pointer (some ⟨b_4, 0, none⟩)), (2, .pointer (some ⟨b_5, 0, none⟩)), (4, .agg ⟨[.slice A_2 s_1.Steps.length c_3, .int .i64 s_1.State, .int .i64 s_1.Cursor, .int .i64 s_1.Failed]⟩)]) (H' := [⟨41, b_5, [.slice none ([] : List T_api_Step).length 0, .int .i64 0, .int .i64 0, .int .i64 0]⟩, ⟨40, b_4, [.slice A_2 s_1.Steps.length c_3, .int .i64 s_1.State, .int .i64 s_1.Cursor, .int .i64 s_1.Failed]⟩]) (ps := [b_4 = b_4]) (by kernel_rfl) (And.intro rfl trivial) ?_
  refine OpTo.go (GoO.call rfl (by kernel_rfl) (by kernel_rfl) (saga_Sound_ok n s_1 A_2 c_3) [[0]] [] [] [(0, 0)] (hks := [0, 1]) (bks := [0]) (by kernel_rfl) (by kernel_rfl) (by kernel_rfl) (.inl rfl) rfl rfl (by kernel_rfl) (by kernel_rfl) _ (fun _ _ => rfl) _ _ (fun _ _ => rfl) (fun _ _ => rfl) (fun _ _ => by kernel_rfl) (fun _ _ => by kernel_rfl) (fun r_6 x_8 => ?_))
  refine GoO.shape (env' := [(1, .pointer (some ⟨b_4, 0, none⟩)), (2, .pointer (some ⟨b_5, 0, none⟩)), (4, .agg ⟨[.slice A_2 s_1.Steps.length c_3, .int .i64 s_1.State, .int .i64 s_1.Cursor, .int .i64 s_1.Failed]⟩), (5, .bool r_6)]) (H' := [⟨41, b_5, [.slice none ([] : List T_api_Step).length 0, .int .i64 0, .int .i64 0, .int .i64 0]⟩, ⟨40, b_4, [.slice A_2 s_1.Steps.length c_3, .int .i64 s_1.State, .int .i64 s_1.Cursor, .int .i64 s_1.Failed]⟩]) (B' := [Rd 0 kT_api_Step A_2 c_3 s_1.Steps]) (ks := [1, 2, 4, 5]) (by kernel_rfl) (by kernel_rfl) (by kernel_rfl) ?_
  refine GoO.exec (is := [2, 3]) (hs := [.p, .p]) (rest := [4, 5, 6, 7]) (ks := [1, 2, 7]) (env' := [(1, .pointer (some ⟨b_4, 0, none⟩)), (2, .pointer (some ⟨b_5, 0, none⟩)), (7, .bool (!r_6))]) (H' := [⟨41, b_5, [.slice none ([] : List T_api_Step).length 0, .int .i64 0, .int .i64 0, .int .i64 0]⟩, ⟨40, b_4, [.slice A_2 s_1.Steps.length c_3, .int .i64 s_1.State, .int .i64 s_1.Cursor, .int .i64 s_1.Failed]⟩]) (ps := []) (by kernel_rfl) trivial ?_
  refine GoO.bsplit (t := 7) (by kernel_rfl) (fun h7 => ?_) (fun h7 => ?_)
  · refine GoO.exec (is := [4, 5, 6, 7]) (hs := [.p, .p, .p, .p]) (rest := []) (ks := [1, 2, 11]) (env' := [(1, .pointer (some ⟨b_4, 0, none⟩)), (2, .pointer (some ⟨b_5, 0, none⟩)), (11, .bool true)]) (H' := [⟨41, b_5, [.slice none ([] : List T_api_Step).length 0, .int .i64 0, .int .i64 0, .int .i64 0]⟩, ⟨40, b_4, [.slice A_2 s_1.Steps.length c_3, .int .i64 s_1.State, .int .i64 s_1.Cursor, .int .i64 s_1.Failed]⟩]) (ps := []) (by kernel_rfl) trivial ?_
    refine GoO.regionEnd ?_
    exact GoO.sub (ks := [1, 2, 11]) (hk := [1, 0]) (bk := [0]) (by kernel_rfl) (by kernel_rfl) (by kernel_rfl) (saga_Abort_j0_ok n s_1 A_2 c_3 b_4 b_5 w0 S0 true)
  · refine GoO.exec (is := [4, 5, 6, 7]) (hs := [.p, .b 1, .p, .p]) (rest := []) (ks := [1, 2, 11]) (env' := [(1, .pointer (some ⟨b_4, 0, none⟩)), (2, .pointer (some ⟨b_5, 0, none⟩)), (11, .bool (s_1.State != 1))]) (H' := [⟨41, b_5, [.slice none ([] : List T_api_Step).length 0, .int .i64 0, .int .i64 0, .int .i64 0]⟩, ⟨40, b_4, [.slice A_2 s_1.Steps.length c_3, .int .i64 s_1.State, .int .i64 s_1.Cursor, .int .i64 s_1.Failed]⟩]) (ps := [b_4 = b_4]) (by kernel_rfl) (And.intro rfl trivial) ?_
    refine GoO.regionEnd ?_
    exact GoO.sub (ks := [1, 2, 11]) (hk := [1, 0]) (bk := [0]) (by kernel_rfl) (by kernel_rfl) (by kernel_rfl) (saga_Abort_j0_ok n s_1 A_2 c_3 b_4 b_5 w0 S0 (s_1.State != 1))

/-! tontine/tontinelaw14.SagaEnds -/
noncomputable def c6_0 : Code := bodyOf Try.f6
noncomputable def c6_1 : Code := cdL c6_0
noncomputable def c6_2 : Code := cdR c6_0
noncomputable def c6_3 : Code := cdL c6_2
noncomputable def c6_4 : Code := cdL c6_3
noncomputable def c6_5 : Code := cdR c6_3
noncomputable def c6_6 : Code := cdL c6_5
noncomputable def c6_7 : Code := cdL c6_6
noncomputable def c6_8 : Code := cdR c6_6
noncomputable def c6_9 : Code := cdR c6_5
noncomputable def c6_10 : Code := cdR c6_2
noncomputable def c6_11 : Code := cdL c6_10
noncomputable def c6_12 : Code := cdR c6_10
noncomputable def c6_13 : Code := cdL c6_12
noncomputable def c6_14 : Code := cdL c6_13
noncomputable def c6_15 : Code := cdR c6_13
noncomputable def c6_16 : Code := cdL c6_15
noncomputable def c6_17 : Code := cdL c6_16
noncomputable def c6_18 : Code := cdR c6_16
noncomputable def c6_19 : Code := cdR c6_15
noncomputable def c6_20 : Code := cdR c6_12
noncomputable def c6_21 : Code := cdL c6_20
noncomputable def c6_22 : Code := cdR c6_20
noncomputable def c6_23 : Code := cdL c6_22
noncomputable def c6_24 : Code := cdL c6_23
noncomputable def c6_25 : Code := cdL c6_24
noncomputable def c6_26 : Code := cdL c6_25
noncomputable def c6_27 : Code := cdL c6_26
noncomputable def c6_28 : Code := cdR c6_26
noncomputable def c6_29 : Code := cdL c6_28
noncomputable def c6_30 : Code := cdR c6_28
noncomputable def c6_31 : Code := cdR c6_25
noncomputable def c6_32 : Code := cdL c6_31
noncomputable def c6_33 : Code := cdL c6_32
noncomputable def c6_34 : Code := cdL c6_33
noncomputable def c6_35 : Code := cdR c6_33
noncomputable def c6_36 : Code := cdL c6_35
noncomputable def c6_37 : Code := cdR c6_35
noncomputable def c6_38 : Code := cdR c6_32
noncomputable def c6_39 : Code := cdL c6_38
noncomputable def c6_40 : Code := cdR c6_38
noncomputable def c6_41 : Code := cdL c6_40
noncomputable def c6_42 : Code := cdR c6_40
noncomputable def c6_43 : Code := cdL c6_42
noncomputable def c6_44 : Code := cdL c6_43
noncomputable def c6_45 : Code := cdR c6_43
noncomputable def c6_46 : Code := cdL c6_45
noncomputable def c6_47 : Code := cdR c6_45
noncomputable def c6_48 : Code := cdL c6_47
noncomputable def c6_49 : Code := cdL c6_48
noncomputable def c6_50 : Code := cdR c6_48
noncomputable def c6_51 : Code := cdR c6_47
noncomputable def c6_52 : Code := cdR c6_42
noncomputable def c6_53 : Code := cdL c6_52
noncomputable def c6_54 : Code := cdR c6_52
noncomputable def c6_55 : Code := cdL c6_54
noncomputable def c6_56 : Code := cdR c6_54
noncomputable def c6_57 : Code := cdL c6_56
noncomputable def c6_58 : Code := cdL c6_57
noncomputable def c6_59 : Code := cdR c6_57
noncomputable def c6_60 : Code := cdR c6_56
noncomputable def c6_61 : Code := cdR c6_22
noncomputable def c6_62 : Code := cdL c6_61
noncomputable def c6_63 : Code := cdR c6_61
noncomputable def r6_1 : Array Oper := cdO c6_1
noncomputable def r6_4 : Array Oper := cdO c6_4
noncomputable def r6_7 : Array Oper := cdO c6_7
noncomputable def r6_11 : Array Oper := cdO c6_11
noncomputable def r6_14 : Array Oper := cdO c6_14
noncomputable def r6_17 : Array Oper := cdO c6_17
noncomputable def r6_21 : Array Oper := cdO c6_21
noncomputable def r6_27 : Array Oper := cdO c6_27
noncomputable def r6_34 : Array Oper := cdO c6_34
noncomputable def r6_36 : Array Oper := cdO c6_36
noncomputable def r6_39 : Array Oper := cdO c6_39
noncomputable def r6_41 : Array Oper := cdO c6_41
noncomputable def r6_44 : Array Oper := cdO c6_44
noncomputable def r6_46 : Array Oper := cdO c6_46
noncomputable def r6_49 : Array Oper := cdO c6_49
noncomputable def r6_53 : Array Oper := cdO c6_53
noncomputable def r6_55 : Array Oper := cdO c6_55
noncomputable def r6_58 : Array Oper := cdO c6_58
noncomputable def r6_62 : Array Oper := cdO c6_62
theorem c6_0e : c6_0 = .seq c6_1 c6_2 := by kernel_rfl
theorem c6_1e : c6_1 = .region 0 r6_1 false := by kernel_rfl
theorem c6_2e : c6_2 = .seq c6_3 c6_10 := by kernel_rfl
theorem c6_3e : c6_3 = .seq c6_4 c6_5 := by kernel_rfl
theorem c6_4e : c6_4 = .region 1 r6_4 false := by kernel_rfl
theorem c6_5e : c6_5 = .cond (cdC c6_5) c6_6 c6_9 := by kernel_rfl
theorem c6_6e : c6_6 = .seq c6_7 c6_8 := by kernel_rfl
theorem c6_7e : c6_7 = .region 2 r6_7 false := by kernel_rfl
theorem c6_8e : c6_8 = .ret := by kernel_rfl
theorem c6_9e : c6_9 = .skip := by kernel_rfl
theorem c6_10e : c6_10 = .seq c6_11 c6_12 := by kernel_rfl
theorem c6_11e : c6_11 = .region 3 r6_11 false := by kernel_rfl
theorem c6_12e : c6_12 = .seq c6_13 c6_20 := by kernel_rfl
theorem c6_13e : c6_13 = .seq c6_14 c6_15 := by kernel_rfl
theorem c6_14e : c6_14 = .region 4 r6_14 false := by kernel_rfl
theorem c6_15e : c6_15 = .cond (cdC c6_15) c6_16 c6_19 := by kernel_rfl
theorem c6_16e : c6_16 = .seq c6_17 c6_18 := by kernel_rfl
theorem c6_17e : c6_17 = .region 5 r6_17 false := by kernel_rfl
theorem c6_18e : c6_18 = .ret := by kernel_rfl
theorem c6_19e : c6_19 = .skip := by kernel_rfl
theorem c6_20e : c6_20 = .seq c6_21 c6_22 := by kernel_rfl
theorem c6_21e : c6_21 = .region 6 r6_21 false := by kernel_rfl
theorem c6_22e : c6_22 = .seq c6_23 c6_61 := by kernel_rfl
theorem c6_23e : c6_23 = .block 0 c6_24 := by kernel_rfl
theorem c6_24e : c6_24 = .loop c6_25 := by kernel_rfl
theorem c6_25e : c6_25 = .seq c6_26 c6_31 := by kernel_rfl
theorem c6_26e : c6_26 = .seq c6_27 c6_28 := by kernel_rfl
theorem c6_27e : c6_27 = .region 7 r6_27 false := by kernel_rfl
theorem c6_28e : c6_28 = .cond (cdC c6_28) c6_29 c6_30 := by kernel_rfl
theorem c6_29e : c6_29 = .skip := by kernel_rfl
theorem c6_30e : c6_30 = .exit 0 := by kernel_rfl
theorem c6_31e : c6_31 = .block 1 c6_32 := by kernel_rfl
theorem c6_32e : c6_32 = .seq c6_33 c6_38 := by kernel_rfl
theorem c6_33e : c6_33 = .seq c6_34 c6_35 := by kernel_rfl
theorem c6_34e : c6_34 = .region 8 r6_34 false := by kernel_rfl
theorem c6_35e : c6_35 = .cond (cdC c6_35) c6_36 c6_37 := by kernel_rfl
theorem c6_36e : c6_36 = .region 9 r6_36 false := by kernel_rfl
theorem c6_37e : c6_37 = .skip := by kernel_rfl
theorem c6_38e : c6_38 = .seq c6_39 c6_40 := by kernel_rfl
theorem c6_39e : c6_39 = .region 10 r6_39 false := by kernel_rfl
theorem c6_40e : c6_40 = .seq c6_41 c6_42 := by kernel_rfl
theorem c6_41e : c6_41 = .region 11 r6_41 false := by kernel_rfl
theorem c6_42e : c6_42 = .seq c6_43 c6_52 := by kernel_rfl
theorem c6_43e : c6_43 = .seq c6_44 c6_45 := by kernel_rfl
theorem c6_44e : c6_44 = .region 12 r6_44 true := by kernel_rfl
theorem c6_45e : c6_45 = .seq c6_46 c6_47 := by kernel_rfl
theorem c6_46e : c6_46 = .region 13 r6_46 false := by kernel_rfl
theorem c6_47e : c6_47 = .cond (cdC c6_47) c6_48 c6_51 := by kernel_rfl
theorem c6_48e : c6_48 = .seq c6_49 c6_50 := by kernel_rfl
theorem c6_49e : c6_49 = .region 14 r6_49 false := by kernel_rfl
theorem c6_50e : c6_50 = .ret := by kernel_rfl
theorem c6_51e : c6_51 = .skip := by kernel_rfl
theorem c6_52e : c6_52 = .seq c6_53 c6_54 := by kernel_rfl
theorem c6_53e : c6_53 = .region 15 r6_53 false := by kernel_rfl
theorem c6_54e : c6_54 = .seq c6_55 c6_56 := by kernel_rfl
theorem c6_55e : c6_55 = .region 16 r6_55 false := by kernel_rfl
theorem c6_56e : c6_56 = .cond (cdC c6_56) c6_57 c6_60 := by kernel_rfl
theorem c6_57e : c6_57 = .seq c6_58 c6_59 := by kernel_rfl
theorem c6_58e : c6_58 = .region 17 r6_58 false := by kernel_rfl
theorem c6_59e : c6_59 = .ret := by kernel_rfl
theorem c6_60e : c6_60 = .skip := by kernel_rfl
theorem c6_61e : c6_61 = .seq c6_62 c6_63 := by kernel_rfl
theorem c6_62e : c6_62 = .region 18 r6_62 false := by kernel_rfl
theorem c6_63e : c6_63 = .ret := by kernel_rfl
noncomputable def tontinelaw14_SagaEnds.R (A_2 : Option Addr) (c_3 : Nat) (A_5 : Option Addr) (c_6 : Nat) : Pst Bool where
  ε := Unit
  v := fun r x => .bool r
  H := fun r x => []
  B := fun r x => []
noncomputable def tontinelaw14_SagaEnds.cx (A_2 : Option Addr) (c_3 : Nat) (A_5 : Option Addr) (c_6 : Nat) (w0 : World) (S0 : Fam) : Cx Bool := ⟨Try.prog, 6, Try.f6, 77, w0, S0, [], 0, tontinelaw14_SagaEnds.R A_2 c_3 A_5 c_6⟩
theorem tontinelaw14_SagaEnds_j2_ok (n : Nat) (L0 : (List T_api_Step) → Int → Int → Int → Int → Option Bool) (l_1 : (List T_api_Step)) (oks_4 : (List Bool)) (abort_7 : Int) (f_17 : (List T_api_Step)) (f_20 : Int) (f_21 : Int) (f_22 : Int) (n_23 : Int) (r_39 : T_api_Saga × Bool) (A_2 : Option Addr) (c_3 : Nat) (A_5 : Option Addr) (c_6 : Nat) (b_13 : Nat) (A_18 : Option Addr) (c_19 : Nat) (A_40 : Option Addr) (c_41 : Nat) (w0 : World) (S0 : Fam) (ih0 : ∀ (f_17 : (List T_api_Step)) (f_20 : Int) (f_21 : Int) (f_22 : Int) (n_23 : Int) (A_18 : Option Addr) (c_19 : Nat), GoO (tontinelaw14_SagaEnds.cx A_2 c_3 A_5 c_6 w0 S0) [(0, .slice A_2 l_1.length c_3), (1, .slice A_5 oks_4.length c_6), (2, .int .i64 abort_7), (7, .pointer (some ⟨b_13, 0, none⟩)), (9, .int .i64 n_23)] [⟨40, b_13, [.slice A_18 f_17.length c_19, .int .i64 f_20, .int .i64 f_21, .int .i64 f_22]⟩] [Rd 0 kT_api_Step A_2 c_3 l_1, Rd 0 Kd.bool A_5 c_6 oks_4, Rd 0 kT_api_Step A_18 c_19 f_17] [.code c6_25, .inLoop c6_25, .inBlock 0, .code c6_61] (L0 f_17 f_20 f_21 f_22 n_23)) (b_43 : Bool) :
    GoO (tontinelaw14_SagaEnds.cx A_2 c_3 A_5 c_6 w0 S0) [(0, .slice A_2 l_1.length c_3), (1, .slice A_5 oks_4.length c_6), (2, .int .i64 abort_7), (7, .pointer (some ⟨b_13, 0, none⟩)), (9, .int .i64 n_23), (66, .bool b_43)] [⟨40, b_13, [.slice A_40 r_39.1.Steps.length c_41, .int .i64 r_39.1.State, .int .i64 r_39.1.Cursor, .int .i64 r_39.1.Failed]⟩] [Rd 0 kT_api_Step A_2 c_3 l_1, Rd 0 Kd.bool A_5 c_6 oks_4, Rd 0 kT_api_Step A_40 c_41 r_39.1.Steps] [.code c6_47, .code c6_52, .inBlock 1, .inLoop c6_25, .inBlock 0, .code c6_61] (tontinelaw14_SagaEnds.j2 n L0 l_1 n_23 r_39 b_43) := by
  unfold tontinelaw14_SagaEnds.j2
  refine GoO.ite' c6_47e (by kernel_rfl) (fun h44 => ?_) (fun h44 => ?_)
  · refine GoO.seq' c6_48e ?_
    refine GoO.region' (is := [0]) c6_49e (by kernel_rfl) ?_
    refine GoO.exec (is := [0]) (hs := [.p]) (rest := []) (ks := [6]) (env' := [(6, .bool false)]) (H' := [⟨40, b_13, [.slice A_40 r_39.1.Steps.length c_41, .int .i64 r_39.1.State, .int .i64 r_39.1.Cursor, .int .i64 r_39.1.Failed]⟩]) (ps := []) (by kernel_rfl) trivial ?_
    refine GoO.regionEnd ?_
    exact GoO.ret' (h := c6_50e) (hs := []) (ps := []) (hk := []) (bk := []) Try.func6 () (by kernel_rfl) trivial (by kernel_rfl) (by kernel_rfl)
  · refine GoO.skip' c6_51e ?_
    refine GoO.seq' c6_52e ?_
    refine GoO.region' (is := [0, 1, 2]) c6_53e (by kernel_rfl) ?_
    refine GoO.exec (is := [0, 1, 2]) (hs := [.p, .p, .p]) (rest := []) (ks := [0, 1, 2, 7, 9]) (env' := [(0, .slice A_2 l_1.length c_3), (1, .slice A_5 oks_4.length c_6), (2, .int .i64 abort_7), (7, .pointer (some ⟨b_13, 0, none⟩)), (9, .int .i64 (wi64 (n_23 + 1)))]) (H' := [⟨40, b_13, [.slice A_40 r_39.1.Steps.length c_41, .int .i64 r_39.1.State, .int .i64 r_39.1.Cursor, .int .i64 r_39.1.Failed]⟩]) (ps := []) (by kernel_rfl) trivial ?_
    refine GoO.regionEnd ?_
    refine GoO.seq' c6_54e ?_
    refine GoO.region' (is := [0, 1, 2, 3, 4, 5, 6, 7]) c6_55e (by kernel_rfl) ?_
    refine GoO.exec (is := [0, 1, 2, 3, 4, 5, 6, 7]) (hs := [.p, .p, .p, .p, .p, .p, .p, .p]) (rest := []) (ks := [0, 1, 2, 7, 9, 76]) (env' := [(0, .slice A_2 l_1.length c_3), (1, .slice A_5 oks_4.length c_6), (2, .int .i64 abort_7), (7, .pointer (some ⟨b_13, 0, none⟩)), (9, .int .i64 (wi64 (n_23 + 1))), (76, .bool (decide ((wi64 (n_23 + 1)) > (wi64 ((l_1.length : Int) + (wi64 ((l_1.length : Int) * 9)))))))]) (H' := [⟨40, b_13, [.slice A_40 r_39.1.Steps.length c_41, .int .i64 r_39.1.State, .int .i64 r_39.1.Cursor, .int .i64 r_39.1.Failed]⟩]) (ps := []) (by kernel_rfl) trivial ?_
    refine GoO.regionEnd ?_
    refine GoO.ite' c6_56e (by kernel_rfl) (fun h45 => ?_) (fun h45 => ?_)
    · refine GoO.seq' c6_57e ?_
      refine GoO.region' (is := [0]) c6_58e (by kernel_rfl) ?_
      refine GoO.exec (is := [0]) (hs := [.p]) (rest := []) (ks := [6]) (env' := [(6, .bool false)]) (H' := [⟨40, b_13, [.slice A_40 r_39.1.Steps.length c_41, .int .i64 r_39.1.State, .int .i64 r_39.1.Cursor, .int .i64 r_39.1.Failed]⟩]) (ps := []) (by kernel_rfl) trivial ?_
      refine GoO.regionEnd ?_
      exact GoO.ret' (h := c6_59e) (hs := []) (ps := []) (hk := []) (bk := []) Try.func6 () (by kernel_rfl) trivial (by kernel_rfl) (by kernel_rfl)
    · refine GoO.skip' c6_60e ?_
      refine GoO.inBlock ?_
      refine GoO.inLoop ?_
      exact GoO.sub (ks := [0, 1, 2, 7, 9]) (hk := [0]) (bk := [0, 1, 2]) (by kernel_rfl) (by kernel_rfl) (by kernel_rfl) (ih0 r_39.1.Steps r_39.1.State r_39.1.Cursor r_39.1.Failed (wi64 (n_23 + 1)) A_40 c_41)
theorem tontinelaw14_SagaEnds_j1_ok (n : Nat) (L0 : (List T_api_Step) → Int → Int → Int → Int → Option Bool) (l_1 : (List T_api_Step)) (oks_4 : (List Bool)) (abort_7 : Int) (f_17 : (List T_api_Step)) (f_20 : Int) (f_21 : Int) (f_22 : Int) (n_23 : Int) (A_2 : Option Addr) (c_3 : Nat) (A_5 : Option Addr) (c_6 : Nat) (b_13 : Nat) (A_18 : Option Addr) (c_19 : Nat) (w0 : World) (S0 : Fam) (ih0 : ∀ (f_17 : (List T_api_Step)) (f_20 : Int) (f_21 : Int) (f_22 : Int) (n_23 : Int) (A_18 : Option Addr) (c_19 : Nat), GoO (tontinelaw14_SagaEnds.cx A_2 c_3 A_5 c_6 w0 S0) [(0, .slice A_2 l_1.length c_3), (1, .slice A_5 oks_4.length c_6), (2, .int .i64 abort_7), (7, .pointer (some ⟨b_13, 0, none⟩)), (9, .int .i64 n_23)] [⟨40, b_13, [.slice A_18 f_17.length c_19, .int .i64 f_20, .int .i64 f_21, .int .i64 f_22]⟩] [Rd 0 kT_api_Step A_2 c_3 l_1, Rd 0 Kd.bool A_5 c_6 oks_4, Rd 0 kT_api_Step A_18 c_19 f_17] [.code c6_25, .inLoop c6_25, .inBlock 0, .code c6_61] (L0 f_17 f_20 f_21 f_22 n_23)) (f_30 : (List T_api_Step)) (f_33 : Int) (f_34 : Int) (f_35 : Int) (A_31 : Option Addr) (c_32 : Nat) :
    GoO (tontinelaw14_SagaEnds.cx A_2 c_3 A_5 c_6 w0 S0) [(0, .slice A_2 l_1.length c_3), (1, .slice A_5 oks_4.length c_6), (2, .int .i64 abort_7), (7, .pointer (some ⟨b_13, 0, none⟩)), (9, .int .i64 n_23)] [⟨40, b_13, [.slice A_31 f_30.length c_32, .int .i64 f_33, .int .i64 f_34, .int .i64 f_35]⟩] [Rd 0 kT_api_Step A_2 c_3 l_1, Rd 0 Kd.bool A_5 c_6 oks_4, Rd 0 kT_api_Step A_31 c_32 f_30] [.code c6_38, .inBlock 1, .inLoop c6_25, .inBlock 0, .code c6_61] (tontinelaw14_SagaEnds.j1 n L0 l_1 oks_4 n_23 f_30 f_33 f_34 f_35) := by
  unfold tontinelaw14_SagaEnds.j1
  refine GoO.seq' c6_38e ?_
  refine GoO.region' (is := [0, 1, 2, 3, 4, 5, 6, 7, 8]) c6_39e (by kernel_rfl) ?_
  refine GoO.exec (is := [0]) (hs := [.b 0]) (rest := [1, 2, 3, 4, 5, 6, 7, 8]) (ks := [0, 1, 2, 7, 9, 40]) (env' := [(0, .slice A_2 l_1.length c_3), (1, .slice A_5 oks_4.length c_6), (2, .int .i64 abort_7), (7, .pointer (some ⟨b_13, 0, none⟩)), (9, .int .i64 n_23), (40, .agg ⟨[.slice A_31 f_30.length c_32, .int .i64 f_33, .int .i64 f_34, .int .i64 f_35]⟩)]) (H' := [⟨40, b_13, [.slice A_31 f_30.length c_32, .int .i64 f_33, .int .i64 f_34, .int .i64 f_35]⟩]) (ps := [b_13 = b_13]) (by kernel_rfl) (And.intro rfl trivial) ?_
  refine OpTo.go (GoO.call rfl (by kernel_rfl) (by kernel_rfl) (saga_Wants_ok n (⟨f_30, f_33, f_34, f_35⟩ : T_api_Saga) A_31 c_32) [[0]] [] [] [(0, 2)] (hks := [0]) (bks := [0, 1, 2]) (by kernel_rfl) (by kernel_rfl) (by kernel_rfl) (.inl rfl) rfl rfl (by kernel_rfl) (by kernel_rfl) _ (fun _ _ => rfl) _ _ (fun _ _ => rfl) (fun _ _ => rfl) (fun _ _ => by kernel_rfl) (fun _ _ => by kernel_rfl) (fun r_36 x_47 => ?_))
  refine GoO.shape (env' := [(0, .slice A_2 l_1.length c_3), (1, .slice A_5 oks_4.length c_6), (2, .int .i64 abort_7), (7, .pointer (some ⟨b_13, 0, none⟩)), (9, .int .i64 n_23), (40, .agg ⟨[.slice A_31 f_30.length c_32, .int .i64 f_33, .int .i64 f_34, .int .i64 f_35]⟩), (41, .tuple ⟨[.int .i64 r_36.1, .bool r_36.2.1, .bool r_36.2.2]⟩)]) (H' := [⟨40, b_13, [.slice A_31 f_30.length c_32, .int .i64 f_33, .int .i64 f_34, .int .i64 f_35]⟩]) (B' := [Rd 0 kT_api_Step A_2 c_3 l_1, Rd 0 Kd.bool A_5 c_6 oks_4, Rd 0 kT_api_Step A_31 c_32 f_30]) (ks := [0, 1, 2, 7, 9, 40, 41]) (by kernel_rfl) (by kernel_rfl) (by kernel_rfl) ?_
  refine GoO.exec (is := [2, 3, 4, 5, 6, 7, 8]) (hs := [.p, .p, .p, .p, .p, .p, .p]) (rest := []) (ks := [0, 1, 2, 7, 9, 10, 11, 12]) (env' := [(0, .slice A_2 l_1.length c_3), (1, .slice A_5 oks_4.length c_6), (2, .int .i64 abort_7), (7, .pointer (some ⟨b_13, 0, none⟩)), (9, .int .i64 n_23), (10, .int .i64 r_36.1), (11, .bool r_36.2.1), (12, .bool r_36.2.2)]) (H' := [⟨40, b_13, [.slice A_31 f_30.length c_32, .int .i64 f_33, .int .i64 f_34, .int .i64 f_35]⟩]) (ps := []) (by kernel_rfl) trivial ?_
  refine GoO.regionEnd ?_
  refine GoO.seq' c6_40e ?_
  refine GoO.region' (is := [0]) c6_41e (by kernel_rfl) ?_
  refine GoO.exec (is := [0]) (hs := [.p]) (rest := []) (ks := [0, 1, 2, 7, 9, 10, 11, 12]) (env' := [(0, .slice A_2 l_1.length c_3), (1, .slice A_5 oks_4.length c_6), (2, .int .i64 abort_7), (7, .pointer (some ⟨b_13, 0, none⟩)), (9, .int .i64 n_23), (10, .int .i64 r_36.1), (11, .bool r_36.2.1), (12, .bool r_36.2.2)]) (H' := [⟨40, b_13, [.slice A_31 f_30.length c_32, .int .i64 f_33, .int .i64 f_34, .int .i64 f_35]⟩]) (ps := []) (by kernel_rfl) trivial ?_
  refine GoO.regionEnd ?_
  refine GoO.seq' c6_42e ?_
  refine GoO.seq' c6_43e ?_
  refine GoO.draw c6_44e (by kernel_rfl) [16] [⟨40, b_13, [.slice A_31 f_30.length c_32, .int .i64 f_33, .int .i64 f_34, .int .i64 f_35]⟩] [Rd 0 Kd.bool A_5 c_6 oks_4] (n := 18) (by kernel_rfl) ?_
  simp only [List.replicate]
  refine GoF.guard (fun h37 => ?_)
  refine GoF.take [0, 1, 2, 3, 4, 5, 6, 7, 8, 9] [.b 0, .p, .p, .p, .b 0, .p, .p, .p, .p, .p] (ks := [0, 1, 2, 7, 9, 12, 46, 47, 48, 50, 51, 55]) (fu := 8) (li := [true, true, true, true, true, true, true, true, true, true, false, false, false, false, false, false, false, false]) (env' := [(0, .slice A_2 l_1.length c_3), (1, .slice A_5 oks_4.length c_6), (2, .int .i64 abort_7), (7, .pointer (some ⟨b_13, 0, none⟩)), (9, .int .i64 n_23), (12, .bool r_36.2.2), (46, .agg ⟨[.slice A_31 f_30.length c_32, .int .i64 f_33, .int .i64 f_34, .int .i64 f_35]⟩), (47, .int .i64 r_36.1), (48, .bool r_36.2.1), (50, .int .i64 f_35), (51, .slice A_5 oks_4.length c_6), (55, .int .i64 (n_23.tmod (oks_4.length : Int)))]) (ps := [b_13 = b_13, b_13 = b_13, (oks_4.length : Int) ≠ 0]) (hk := [0]) (bk := [1]) (by kernel_rfl) (And.intro rfl (And.intro rfl (And.intro h37 trivial))) rfl rfl ?_
  refine GoF.guard (fun h38 => ?_)
  refine GoF.idx (i := 10) (hk := [0]) (bk := [1]) (kk := .i64) (e := 4) (K := Kd.bool) (A := A_5) (c := c_6) (xs := oks_4) (iv := n_23.tmod (oks_4.length : Int)) (j := 0) (by kernel_rfl) rfl rfl rfl (by kernel_rfl) (by kernel_rfl) (by kernel_rfl) (by kernel_rfl) rfl Reads.rd rfl h38.1 h38.2 (by decide) rfl ?_
  refine GoF.ldE (i := 11) (hk := [0]) (bk := [1]) (K := Kd.bool) (A := A_5) (c := c_6) (xs := oks_4) (iN := (n_23.tmod (oks_4.length : Int)).toNat) (off := 0) (j := 0) (v := .bool (rdL oks_4 (n_23.tmod (oks_4.length : Int)))) (by kernel_rfl) rfl rfl rfl (hK := rfl) (by kernel_rfl) rfl Reads.rd (by first | exact idx_lt h38.1 h38.2 | (simp only [List.length_set]; exact idx_lt h38.1 h38.2)) (by decide) (by kernel_rfl) rfl ?_
  refine OpTo.goF (i := 12) (by kernel_rfl) (hk := [0]) (bk := [2]) (GoO.call rfl (by kernel_rfl) (by kernel_rfl) (saga_Outcome_ok n (⟨f_30, f_33, f_34, f_35⟩ : T_api_Saga) r_36.1 r_36.2.1 f_35 (rdL oks_4 (n_23.tmod (oks_4.length : Int))) A_31 c_32) [[0]] [] [] [(0, 2)] (hks := [0]) (bks := [0, 1, 2]) (by kernel_rfl) (by kernel_rfl) (by kernel_rfl) (.inl rfl) rfl rfl (by kernel_rfl) (by kernel_rfl) _ (fun _ _ => rfl) _ _ (fun _ _ => rfl) (fun _ _ => rfl) (fun _ _ => by kernel_rfl) (fun _ _ => by kernel_rfl) (fun r_39 x_46 => ⟨rfl, rfl, ?_⟩))
  obtain ⟨A_40, c_41⟩ := x_46
  refine GoF.shape (env' := [(0, .slice A_2 l_1.length c_3), (1, .slice A_5 oks_4.length c_6), (2, .int .i64 abort_7), (7, .pointer (some ⟨b_13, 0, none⟩)), (9, .int .i64 n_23), (12, .bool r_36.2.2), (46, .agg ⟨[.slice A_31 f_30.length c_32, .int .i64 f_33, .int .i64 f_34, .int .i64 f_35]⟩), (47, .int .i64 r_36.1), (48, .bool r_36.2.1), (50, .int .i64 f_35), (51, .slice A_5 oks_4.length c_6), (55, .int .i64 (n_23.tmod (oks_4.length : Int))), (56, elemP A_5 ((n_23.tmod (oks_4.length : Int)).toNat) 1 0), (57, .bool (rdL oks_4 (n_23.tmod (oks_4.length : Int)))), (58, .tuple ⟨[.agg ⟨[.slice A_40 r_39.1.Steps.length c_41, .int .i64 r_39.1.State, .int .i64 r_39.1.Cursor, .int .i64 r_39.1.Failed]⟩, .bool r_39.2]⟩)]) (H' := [⟨40, b_13, [.slice A_31 f_30.length c_32, .int .i64 f_33, .int .i64 f_34, .int .i64 f_35]⟩]) (B' := [Rd 0 kT_api_Step A_40 c_41 r_39.1.Steps, Rd 0 kT_api_Step A_2 c_3 l_1, Rd 0 Kd.bool A_5 c_6 oks_4, Rd 0 kT_api_Step A_31 c_32 f_30]) (ks := [0, 1, 2, 7, 9, 12, 46, 47, 48, 50, 51, 55, 56, 57, 58]) (by kernel_rfl) (by kernel_rfl) (by kernel_rfl) ?_
  refine GoF.take [13, 14, 15] [.p, .p, .p] (ks := [0, 1, 2, 7, 9, 12, 59, 60]) (fu := 2) (li := [true, true, true, true, true, true, true, true, true, true, true, true, true, true, true, true, false, false]) (env' := [(0, .slice A_2 l_1.length c_3), (1, .slice A_5 oks_4.length c_6), (2, .int .i64 abort_7), (7, .pointer (some ⟨b_13, 0, none⟩)), (9, .int .i64 n_23), (12, .bool r_36.2.2), (59, .agg ⟨[.slice A_40 r_39.1.Steps.length c_41, .int .i64 r_39.1.State, .int .i64 r_39.1.Cursor, .int .i64 r_39.1.Failed]⟩), (60, .bool r_39.2)]) (ps := []) (hk := [0]) (bk := [2]) (by kernel_rfl) trivial rfl rfl ?_
  refine GoF.fin1 (i := 16) (hint := .b 0) (ps := [b_13 = b_13]) (hk := []) (bk := []) (by kernel_rfl) rfl (And.intro rfl trivial) (.inl rfl) ?_
  refine GoF.takeQ [17] [.p] (ks := [0, 1, 2, 7, 9, 12, 13]) (fu := 0) (li := [true, true, true, true, true, true, true, true, true, true, true, true, true, true, true, true, true, true]) (env' := [(0, .slice A_2 l_1.length c_3), (1, .slice A_5 oks_4.length c_6), (2, .int .i64 abort_7), (7, .pointer (some ⟨b_13, 0, none⟩)), (9, .int .i64 n_23), (12, .bool r_36.2.2), (13, .bool r_39.2)]) (ps := []) (by kernel_rfl) trivial rfl ?_
  refine GoF.done (by kernel_rfl) ?_
  refine GoO.seq' c6_45e ?_
  refine GoO.region' (is := [0, 1, 2, 3, 4, 5]) c6_46e (by kernel_rfl) ?_
  refine GoO.exec (is := [0, 1, 2]) (hs := [.p, .p, .p]) (rest := [3, 4, 5]) (ks := [0, 1, 2, 7, 9, 13, 63]) (env' := [(0, .slice A_2 l_1.length c_3), (1, .slice A_5 oks_4.length c_6), (2, .int .i64 abort_7), (7, .pointer (some ⟨b_13, 0, none⟩)), (9, .int .i64 n_23), (13, .bool r_39.2), (63, .bool (!r_36.2.2))]) (H' := [⟨40, b_13, [.slice A_40 r_39.1.Steps.length c_41, .int .i64 r_39.1.State, .int .i64 r_39.1.Cursor, .int .i64 r_39.1.Failed]⟩]) (ps := []) (by kernel_rfl) trivial ?_
  refine GoO.bsplit (t := 63) (by kernel_rfl) (fun h42 => ?_) (fun h42 => ?_)
  · refine GoO.exec (is := [3, 4, 5]) (hs := [.p, .p, .p]) (rest := []) (ks := [0, 1, 2, 7, 9, 66]) (env' := [(0, .slice A_2 l_1.length c_3), (1, .slice A_5 oks_4.length c_6), (2, .int .i64 abort_7), (7, .pointer (some ⟨b_13, 0, none⟩)), (9, .int .i64 n_23), (66, .bool true)]) (H' := [⟨40, b_13, [.slice A_40 r_39.1.Steps.length c_41, .int .i64 r_39.1.State, .int .i64 r_39.1.Cursor, .int .i64 r_39.1.Failed]⟩]) (ps := []) (by kernel_rfl) trivial ?_
    refine GoO.regionEnd ?_
    exact GoO.sub (ks := [0, 1, 2, 7, 9, 66]) (hk := [0]) (bk := [1, 2, 0]) (by kernel_rfl) (by kernel_rfl) (by kernel_rfl) (tontinelaw14_SagaEnds_j2_ok n L0 l_1 oks_4 abort_7 f_17 f_20 f_21 f_22 n_23 r_39 A_2 c_3 A_5 c_6 b_13 A_18 c_19 A_40 c_41 w0 S0 ih0 true)
  · refine GoO.exec (is := [3, 4, 5]) (hs := [.p, .p, .p]) (rest := []) (ks := [0, 1, 2, 7, 9, 66]) (env' := [(0, .slice A_2 l_1.length c_3), (1, .slice A_5 oks_4.length c_6), (2, .int .i64 abort_7), (7, .pointer (some ⟨b_13, 0, none⟩)), (9, .int .i64 n_23), (66, .bool (!r_39.2))]) (H' := [⟨40, b_13, [.slice A_40 r_39.1.Steps.length c_41, .int .i64 r_39.1.State, .int .i64 r_39.1.Cursor, .int .i64 r_39.1.Failed]⟩]) (ps := []) (by kernel_rfl) trivial ?_
    refine GoO.regionEnd ?_
    exact GoO.sub (ks := [0, 1, 2, 7, 9, 66]) (hk := [0]) (bk := [1, 2, 0]) (by kernel_rfl) (by kernel_rfl) (by kernel_rfl) (tontinelaw14_SagaEnds_j2_ok n L0 l_1 oks_4 abort_7 f_17 f_20 f_21 f_22 n_23 r_39 A_2 c_3 A_5 c_6 b_13 A_18 c_19 A_40 c_41 w0 S0 ih0 (!r_39.2))
theorem tontinelaw14_SagaEnds_l0_ok (n : Nat) (l_1 : (List T_api_Step)) (oks_4 : (List Bool)) (abort_7 : Int) (A_2 : Option Addr) (c_3 : Nat) (A_5 : Option Addr) (c_6 : Nat) (b_13 : Nat) (w0 : World) (S0 : Fam) :
    ∀ (k : Nat) (f_17 : (List T_api_Step)) (f_20 : Int) (f_21 : Int) (f_22 : Int) (n_23 : Int) (A_18 : Option Addr) (c_19 : Nat), GoO (tontinelaw14_SagaEnds.cx A_2 c_3 A_5 c_6 w0 S0) [(0, .slice A_2 l_1.length c_3), (1, .slice A_5 oks_4.length c_6), (2, .int .i64 abort_7), (7, .pointer (some ⟨b_13, 0, none⟩)), (9, .int .i64 n_23)] [⟨40, b_13, [.slice A_18 f_17.length c_19, .int .i64 f_20, .int .i64 f_21, .int .i64 f_22]⟩] [Rd 0 kT_api_Step A_2 c_3 l_1, Rd 0 Kd.bool A_5 c_6 oks_4, Rd 0 kT_api_Step A_18 c_19 f_17] [.code c6_25, .inLoop c6_25, .inBlock 0, .code c6_61] (tontinelaw14_SagaEnds.l0 n l_1 oks_4 abort_7 k f_17 f_20 f_21 f_22 n_23) := by
  intro k
  induction k with
  | zero => intros; rw [tontinelaw14_SagaEnds.l0.eq_1]; exact GoO.stop
  | succ k ih0 =>
    intro f_17 f_20 f_21 f_22 n_23 A_18 c_19
    rw [tontinelaw14_SagaEnds.l0.eq_2]
    refine GoO.seq' c6_25e ?_
    refine GoO.seq' c6_26e ?_
    refine GoO.region' (is := [0, 1, 2]) c6_27e (by kernel_rfl) ?_
    refine GoO.exec (is := [0]) (hs := [.b 0]) (rest := [1, 2]) (ks := [0, 1, 2, 7, 9, 28]) (env' := [(0, .slice A_2 l_1.length c_3), (1, .slice A_5 oks_4.length c_6), (2, .int .i64 abort_7), (7, .pointer (some ⟨b_13, 0, none⟩)), (9, .int .i64 n_23), (28, .agg ⟨[.slice A_18 f_17.length c_19, .int .i64 f_20, .int .i64 f_21, .int .i64 f_22]⟩)]) (H' := [⟨40, b_13, [.slice A_18 f_17.length c_19, .int .i64 f_20, .int .i64 f_21, .int .i64 f_22]⟩]) (ps := [b_13 = b_13]) (by kernel_rfl) (And.intro rfl trivial) ?_
    refine OpTo.go (GoO.call rfl (by kernel_rfl) (by kernel_rfl) (saga_Ended_ok n (⟨f_17, f_20, f_21, f_22⟩ : T_api_Saga) A_18 c_19) [[0]] [] [] [(0, 2)] (hks := [0]) (bks := [0, 1, 2]) (by kernel_rfl) (by kernel_rfl) (by kernel_rfl) (.inl rfl) rfl rfl (by kernel_rfl) (by kernel_rfl) _ (fun _ _ => rfl) _ _ (fun _ _ => rfl) (fun _ _ => rfl) (fun _ _ => by kernel_rfl) (fun _ _ => by kernel_rfl) (fun r_24 x_48 => ?_))
    refine GoO.shape (env' := [(0, .slice A_2 l_1.length c_3), (1, .slice A_5 oks_4.length c_6), (2, .int .i64 abort_7), (7, .pointer (some ⟨b_13, 0, none⟩)), (9, .int .i64 n_23), (28, .agg ⟨[.slice A_18 f_17.length c_19, .int .i64 f_20, .int .i64 f_21, .int .i64 f_22]⟩), (29, .bool r_24)]) (H' := [⟨40, b_13, [.slice A_18 f_17.length c_19, .int .i64 f_20, .int .i64 f_21, .int .i64 f_22]⟩]) (B' := [Rd 0 kT_api_Step A_2 c_3 l_1, Rd 0 Kd.bool A_5 c_6 oks_4, Rd 0 kT_api_Step A_18 c_19 f_17]) (ks := [0, 1, 2, 7, 9, 28, 29]) (by kernel_rfl) (by kernel_rfl) (by kernel_rfl) ?_
    refine GoO.exec (is := [2]) (hs := [.p]) (rest := []) (ks := [0, 1, 2, 7, 9, 30]) (env' := [(0, .slice A_2 l_1.length c_3), (1, .slice A_5 oks_4.length c_6), (2, .int .i64 abort_7), (7, .pointer (some ⟨b_13, 0, none⟩)), (9, .int .i64 n_23), (30, .bool (!r_24))]) (H' := [⟨40, b_13, [.slice A_18 f_17.length c_19, .int .i64 f_20, .int .i64 f_21, .int .i64 f_22]⟩]) (ps := []) (by kernel_rfl) trivial ?_
    refine GoO.regionEnd ?_
    refine GoO.ite' c6_28e (by kernel_rfl) (fun h25 => ?_) (fun h25 => ?_)
    · refine GoO.skip' c6_29e ?_
      refine GoO.block' c6_31e ?_
      refine GoO.seq' c6_32e ?_
      refine GoO.seq' c6_33e ?_
      refine GoO.region' (is := [0, 1, 2]) c6_34e (by kernel_rfl) ?_
      refine GoO.exec (is := [0, 1, 2]) (hs := [.p, .p, .p]) (rest := []) (ks := [0, 1, 2, 7, 9, 33]) (env' := [(0, .slice A_2 l_1.length c_3), (1, .slice A_5 oks_4.length c_6), (2, .int .i64 abort_7), (7, .pointer (some ⟨b_13, 0, none⟩)), (9, .int .i64 n_23), (33, .bool (n_23 == abort_7))]) (H' := [⟨40, b_13, [.slice A_18 f_17.length c_19, .int .i64 f_20, .int .i64 f_21, .int .i64 f_22]⟩]) (ps := []) (by kernel_rfl) trivial ?_
      refine GoO.regionEnd ?_
      refine GoO.ite' c6_35e (by kernel_rfl) (fun h26 => ?_) (fun h26 => ?_)
      · refine GoO.region' (is := [0, 1, 2, 3, 4, 5]) c6_36e (by kernel_rfl) ?_
        refine GoO.exec (is := [0]) (hs := [.b 0]) (rest := [1, 2, 3, 4, 5]) (ks := [0, 1, 2, 7, 9, 35]) (env' := [(0, .slice A_2 l_1.length c_3), (1, .slice A_5 oks_4.length c_6), (2, .int .i64 abort_7), (7, .pointer (some ⟨b_13, 0, none⟩)), (9, .int .i64 n_23), (35, .agg ⟨[.slice A_18 f_17.length c_19, .int .i64 f_20, .int .i64 f_21, .int .i64 f_22]⟩)]) (H' := [⟨40, b_13, [.slice A_18 f_17.length c_19, .int .i64 f_20, .int .i64 f_21, .int .i64 f_22]⟩]) (ps := [b_13 = b_13]) (by kernel_rfl) (And.intro rfl trivial) ?_
        refine OpTo.go (GoO.call rfl (by kernel_rfl) (by kernel_rfl) (saga_Abort_ok n (⟨f_17, f_20, f_21, f_22⟩ : T_api_Saga) A_18 c_19) [[0]] [] [] [(0, 2)] (hks := [0]) (bks := [0, 1, 2]) (by kernel_rfl) (by kernel_rfl) (by kernel_rfl) (.inl rfl) rfl rfl (by kernel_rfl) (by kernel_rfl) _ (fun _ _ => rfl) _ _ (fun _ _ => rfl) (fun _ _ => rfl) (fun _ _ => by kernel_rfl) (fun _ _ => by kernel_rfl) (fun r_27 x_30 => ?_))
        obtain ⟨A_28, c_29⟩ := x_30
        refine GoO.shape (env' := [(0, .slice A_2 l_1.length c_3), (1, .slice A_5 oks_4.length c_6), (2, .int .i64 abort_7), (7, .pointer (some ⟨b_13, 0, none⟩)), (9, .int .i64 n_23), (35, .agg ⟨[.slice A_18 f_17.length c_19, .int .i64 f_20, .int .i64 f_21, .int .i64 f_22]⟩), (36, .tuple ⟨[.agg ⟨[.slice A_28 r_27.1.Steps.length c_29, .int .i64 r_27.1.State, .int .i64 r_27.1.Cursor, .int .i64 r_27.1.Failed]⟩, .bool r_27.2]⟩)]) (H' := [⟨40, b_13, [.slice A_18 f_17.length c_19, .int .i64 f_20, .int .i64 f_21, .int .i64 f_22]⟩]) (B' := [Rd 0 kT_api_Step A_28 c_29 r_27.1.Steps, Rd 0 kT_api_Step A_2 c_3 l_1, Rd 0 Kd.bool A_5 c_6 oks_4, Rd 0 kT_api_Step A_18 c_19 f_17]) (ks := [0, 1, 2, 7, 9, 35, 36]) (by kernel_rfl) (by kernel_rfl) (by kernel_rfl) ?_
        refine GoO.exec (is := [2, 3, 4, 5]) (hs := [.p, .p, .p, .b 0]) (rest := []) (ks := [0, 1, 2, 7, 9]) (env' := [(0, .slice A_2 l_1.length c_3), (1, .slice A_5 oks_4.length c_6), (2, .int .i64 abort_7), (7, .pointer (some ⟨b_13, 0, none⟩)), (9, .int .i64 n_23)]) (H' := [⟨40, b_13, [.slice A_28 r_27.1.Steps.length c_29, .int .i64 r_27.1.State, .int .i64 r_27.1.Cursor, .int .i64 r_27.1.Failed]⟩]) (ps := [b_13 = b_13]) (by kernel_rfl) (And.intro rfl trivial) ?_
        refine GoO.regionEnd ?_
        exact GoO.sub (ks := [0, 1, 2, 7, 9]) (hk := [0]) (bk := [1, 2, 0]) (by kernel_rfl) (by kernel_rfl) (by kernel_rfl) (tontinelaw14_SagaEnds_j1_ok n (tontinelaw14_SagaEnds.l0 n l_1 oks_4 abort_7 k) l_1 oks_4 abort_7 f_17 f_20 f_21 f_22 n_23 A_2 c_3 A_5 c_6 b_13 A_18 c_19 w0 S0 ih0 r_27.1.Steps r_27.1.State r_27.1.Cursor r_27.1.Failed A_28 c_29)
      · refine GoO.skip' c6_37e ?_
        exact GoO.sub (ks := [0, 1, 2, 7, 9]) (hk := [0]) (bk := [0, 1, 2]) (by kernel_rfl) (by kernel_rfl) (by kernel_rfl) (tontinelaw14_SagaEnds_j1_ok n (tontinelaw14_SagaEnds.l0 n l_1 oks_4 abort_7 k) l_1 oks_4 abort_7 f_17 f_20 f_21 f_22 n_23 A_2 c_3 A_5 c_6 b_13 A_18 c_19 w0 S0 ih0 f_17 f_20 f_21 f_22 A_18 c_19)
    · refine GoO.exit' c6_30e rfl ?_
      refine GoO.seq' c6_61e ?_
      refine GoO.region' (is := [0]) c6_62e (by kernel_rfl) ?_
      refine GoO.exec (is := [0]) (hs := [.p]) (rest := []) (ks := [6]) (env' := [(6, .bool true)]) (H' := [⟨40, b_13, [.slice A_18 f_17.length c_19, .int .i64 f_20, .int .i64 f_21, .int .i64 f_22]⟩]) (ps := []) (by kernel_rfl) trivial ?_
      refine GoO.regionEnd ?_
      exact GoO.ret' (h := c6_63e) (hs := []) (ps := []) (hk := []) (bk := []) Try.func6 () (by kernel_rfl) trivial (by kernel_rfl) (by kernel_rfl)
theorem tontinelaw14_SagaEnds_j0_ok (n : Nat) (l_1 : (List T_api_Step)) (oks_4 : (List Bool)) (abort_7 : Int) (r_10 : T_api_Saga × Int) (A_2 : Option Addr) (c_3 : Nat) (A_5 : Option Addr) (c_6 : Nat) (A_11 : Option Addr) (c_12 : Nat) (b_13 : Nat) (w0 : World) (S0 : Fam) (b_15 : Bool) :
    GoO (tontinelaw14_SagaEnds.cx A_2 c_3 A_5 c_6 w0 S0) [(0, .slice A_2 l_1.length c_3), (1, .slice A_5 oks_4.length c_6), (2, .int .i64 abort_7), (7, .pointer (some ⟨b_13, 0, none⟩)), (27, .bool b_15)] [⟨40, b_13, [.slice A_11 r_10.1.Steps.length c_12, .int .i64 r_10.1.State, .int .i64 r_10.1.Cursor, .int .i64 r_10.1.Failed]⟩] [Rd 0 kT_api_Step A_2 c_3 l_1, Rd 0 Kd.bool A_5 c_6 oks_4, Rd 0 kT_api_Step A_11 c_12 r_10.1.Steps] [.code c6_15, .code c6_20] (tontinelaw14_SagaEnds.j0 n l_1 oks_4 abort_7 r_10 b_15) := by
  unfold tontinelaw14_SagaEnds.j0
  refine GoO.ite' c6_15e (by kernel_rfl) (fun h16 => ?_) (fun h16 => ?_)
  · refine GoO.seq' c6_16e ?_
    refine GoO.region' (is := [0]) c6_17e (by kernel_rfl) ?_
    refine GoO.exec (is := [0]) (hs := [.p]) (rest := []) (ks := [6]) (env' := [(6, .bool true)]) (H' := [⟨40, b_13, [.slice A_11 r_10.1.Steps.length c_12, .int .i64 r_10.1.State, .int .i64 r_10.1.Cursor, .int .i64 r_10.1.Failed]⟩]) (ps := []) (by kernel_rfl) trivial ?_
    refine GoO.regionEnd ?_
    exact GoO.ret' (h := c6_18e) (hs := []) (ps := []) (hk := []) (bk := []) Try.func6 () (by kernel_rfl) trivial (by kernel_rfl) (by kernel_rfl)
  · refine GoO.skip' c6_19e ?_
    refine GoO.seq' c6_20e ?_
    refine GoO.region' (is := [0]) c6_21e (by kernel_rfl) ?_
    refine GoO.exec (is := [0]) (hs := [.p]) (rest := []) (ks := [0, 1, 2, 7, 9]) (env' := [(0, .slice A_2 l_1.length c_3), (1, .slice A_5 oks_4.length c_6), (2, .int .i64 abort_7), (7, .pointer (some ⟨b_13, 0, none⟩)), (9, .int .i64 0)]) (H' := [⟨40, b_13, [.slice A_11 r_10.1.Steps.length c_12, .int .i64 r_10.1.State, .int .i64 r_10.1.Cursor, .int .i64 r_10.1.Failed]⟩]) (ps := []) (by kernel_rfl) trivial ?_
    refine GoO.regionEnd ?_
    refine GoO.seq' c6_22e ?_
    refine GoO.block' c6_23e ?_
    refine GoO.loop' c6_24e ?_
    exact GoO.sub (ks := [0, 1, 2, 7, 9]) (hk := [0]) (bk := [0, 1, 2]) (by kernel_rfl) (by kernel_rfl) (by kernel_rfl) (tontinelaw14_SagaEnds_l0_ok n l_1 oks_4 abort_7 A_2 c_3 A_5 c_6 b_13 w0 S0 n r_10.1.Steps r_10.1.State r_10.1.Cursor r_10.1.Failed 0 A_11 c_12)
theorem tontinelaw14_SagaEnds_ok (n : Nat) (l_1 : (List T_api_Step)) (oks_4 : (List Bool)) (abort_7 : Int) (A_2 : Option Addr) (c_3 : Nat) (A_5 : Option Addr) (c_6 : Nat) :
    Meets Try.prog 6 [.slice A_2 l_1.length c_3, .slice A_5 oks_4.length c_6, .int .i64 abort_7] 0 [] [] [Rd 0 kT_api_Step A_2 c_3 l_1, Rd 0 Kd.bool A_5 c_6 oks_4] (tontinelaw14_SagaEnds.f n l_1 oks_4 abort_7) (tontinelaw14_SagaEnds.R A_2 c_3 A_5 c_6) := by
  refine Meets.of (c := c6_0) (n := 77) Try.func6 (by kernel_rfl) (by kernel_rfl) (by kernel_rfl) fun w0 S0 => ?_
  unfold tontinelaw14_SagaEnds.f
  show GoO (tontinelaw14_SagaEnds.cx A_2 c_3 A_5 c_6 w0 S0) [(0, .slice A_2 l_1.length c_3), (1, .slice A_5 oks_4.length c_6), (2, .int .i64 abort_7)] [] [Rd 0 kT_api_Step A_2 c_3 l_1, Rd 0 Kd.bool A_5 c_6 oks_4] [.code c6_0] _
  refine GoO.seq' c6_0e ?_
  refine GoO.region' (is := [0]) c6_1e (by kernel_rfl) ?_
  refine GoO.exec (is := [0]) (hs := [.p]) (rest := []) (ks := [0, 1, 2]) (env' := [(0, .slice A_2 l_1.length c_3), (1, .slice A_5 oks_4.length c_6), (2, .int .i64 abort_7)]) (H' := []) (ps := []) (by kernel_rfl) trivial ?_
  refine GoO.regionEnd ?_
  refine GoO.seq' c6_2e ?_
  refine GoO.seq' c6_3e ?_
  refine GoO.region' (is := [0, 1]) c6_4e (by kernel_rfl) ?_
  refine OpTo.go (GoO.call rfl (by kernel_rfl) (by kernel_rfl) (tontinelaw14_begun_ok n) [[0]] [] [] [] (hks := []) (bks := [0, 1]) (by kernel_rfl) (by kernel_rfl) (by kernel_rfl) (.inl rfl) rfl rfl (by kernel_rfl) (by kernel_rfl) _ (fun _ _ => rfl) _ _ (fun _ _ => rfl) (fun _ _ => rfl) (fun _ _ => by kernel_rfl) (fun _ _ => by kernel_rfl) (fun r_8 x_50 => ?_))
  refine GoO.shape (env' := [(0, .slice A_2 l_1.length c_3), (1, .slice A_5 oks_4.length c_6), (2, .int .i64 abort_7), (14, .bool r_8)]) (H' := []) (B' := [Rd 0 kT_api_Step A_2 c_3 l_1, Rd 0 Kd.bool A_5 c_6 oks_4]) (ks := [0, 1, 2, 14]) (by kernel_rfl) (by kernel_rfl) (by kernel_rfl) ?_
  refine GoO.exec (is := [1]) (hs := [.p]) (rest := []) (ks := [0, 1, 2, 15]) (env' := [(0, .slice A_2 l_1.length c_3), (1, .slice A_5 oks_4.length c_6), (2, .int .i64 abort_7), (15, .bool (!r_8))]) (H' := []) (ps := []) (by kernel_rfl) trivial ?_
  refine GoO.regionEnd ?_
  refine GoO.ite' c6_5e (by kernel_rfl) (fun h9 => ?_) (fun h9 => ?_)
  · refine GoO.seq' c6_6e ?_
    refine GoO.region' (is := [0]) c6_7e (by kernel_rfl) ?_
    refine GoO.exec (is := [0]) (hs := [.p]) (rest := []) (ks := [6]) (env' := [(6, .bool false)]) (H' := []) (ps := []) (by kernel_rfl) trivial ?_
    refine GoO.regionEnd ?_
    exact GoO.ret' (h := c6_8e) (hs := []) (ps := []) (hk := []) (bk := []) Try.func6 () (by kernel_rfl) trivial (by kernel_rfl) (by kernel_rfl)
  · refine GoO.skip' c6_9e ?_
    refine GoO.seq' c6_10e ?_
    refine GoO.region' (is := [0, 1, 2, 3, 4, 5, 6, 7]) c6_11e (by kernel_rfl) ?_
    refine GoO.exec (is := [0]) (hs := [.p]) (rest := [1, 2, 3, 4, 5, 6, 7]) (ks := [0, 1, 2, 17]) (env' := [(0, .slice A_2 l_1.length c_3), (1, .slice A_5 oks_4.length c_6), (2, .int .i64 abort_7), (17, .slice A_2 l_1.length c_3)]) (H' := []) (ps := []) (by kernel_rfl) trivial ?_
    refine OpTo.go (GoO.call rfl (by kernel_rfl) (by kernel_rfl) (saga_New_ok n l_1 A_2 c_3) [[0]] [] [] [(0, 0)] (hks := []) (bks := [0, 1]) (by kernel_rfl) (by kernel_rfl) (by kernel_rfl) (.inl rfl) rfl rfl (by kernel_rfl) (by kernel_rfl) _ (fun _ _ => rfl) _ _ (fun _ _ => rfl) (fun _ _ => rfl) (fun _ _ => by kernel_rfl) (fun _ _ => by kernel_rfl) (fun r_10 x_49 => ?_))
    obtain ⟨A_11, c_12⟩ := x_49
    refine GoO.shape (env' := [(0, .slice A_2 l_1.length c_3), (1, .slice A_5 oks_4.length c_6), (2, .int .i64 abort_7), (17, .slice A_2 l_1.length c_3), (18, .tuple ⟨[.agg ⟨[.slice A_11 r_10.1.Steps.length c_12, .int .i64 r_10.1.State, .int .i64 r_10.1.Cursor, .int .i64 r_10.1.Failed]⟩, .int .i64 r_10.2]⟩)]) (H' := []) (B' := [Rd 0 kT_api_Step A_11 c_12 r_10.1.Steps, Rd 0 kT_api_Step A_2 c_3 l_1, Rd 0 Kd.bool A_5 c_6 oks_4]) (ks := [0, 1, 2, 17, 18]) (by kernel_rfl) (by kernel_rfl) (by kernel_rfl) ?_
    refine GoO.exec (is := [2, 3, 4]) (hs := [.p, .p, .p]) (rest := [5, 6, 7]) (ks := [0, 1, 2, 19, 20]) (env' := [(0, .slice A_2 l_1.length c_3), (1, .slice A_5 oks_4.length c_6), (2, .int .i64 abort_7), (19, .agg ⟨[.slice A_11 r_10.1.Steps.length c_12, .int .i64 r_10.1.State, .int .i64 r_10.1.Cursor, .int .i64 r_10.1.Failed]⟩), (20, .int .i64 r_10.2)]) (H' := []) (ps := []) (by kernel_rfl) trivial ?_
    refine OpTo.go (GoO.new rfl 40 (cs := [.slice none ([] : List T_api_Step).length 0, .int .i64 0, .int .i64 0, .int .i64 0]) (by kernel_rfl) _ (fun _ => rfl) (fun b_13 => ?_))
    refine GoO.exec (is := [6, 7]) (hs := [.b 0, .p]) (rest := []) (ks := [0, 1, 2, 7, 8]) (env' := [(0, .slice A_2 l_1.length c_3), (1, .slice A_5 oks_4.length c_6), (2, .int .i64 abort_7), (7, .pointer (some ⟨b_13, 0, none⟩)), (8, .int .i64 r_10.2)]) (H' := [⟨40, b_13, [.slice A_11 r_10.1.Steps.length c_12, .int .i64 r_10.1.State, .int .i64 r_10.1.Cursor, .int .i64 r_10.1.Failed]⟩]) (ps := [b_13 = b_13]) (by kernel_rfl) (And.intro rfl trivial) ?_
    refine GoO.regionEnd ?_
    refine GoO.seq' c6_12e ?_
    refine GoO.seq' c6_13e ?_
    refine GoO.region' (is := [0, 1, 2, 3, 4, 5, 6]) c6_14e (by kernel_rfl) ?_
    refine GoO.exec (is := [0, 1, 2]) (hs := [.p, .p, .p]) (rest := [3, 4, 5, 6]) (ks := [0, 1, 2, 7, 23]) (env' := [(0, .slice A_2 l_1.length c_3), (1, .slice A_5 oks_4.length c_6), (2, .int .i64 abort_7), (7, .pointer (some ⟨b_13, 0, none⟩)), (23, .bool (r_10.2 != 0))]) (H' := [⟨40, b_13, [.slice A_11 r_10.1.Steps.length c_12, .int .i64 r_10.1.State, .int .i64 r_10.1.Cursor, .int .i64 r_10.1.Failed]⟩]) (ps := []) (by kernel_rfl) trivial ?_
    refine GoO.bsplit (t := 23) (by kernel_rfl) (fun h14 => ?_) (fun h14 => ?_)
    · refine GoO.exec (is := [3, 4, 5, 6]) (hs := [.p, .p, .p, .p]) (rest := []) (ks := [0, 1, 2, 7, 27]) (env' := [(0, .slice A_2 l_1.length c_3), (1, .slice A_5 oks_4.length c_6), (2, .int .i64 abort_7), (7, .pointer (some ⟨b_13, 0, none⟩)), (27, .bool true)]) (H' := [⟨40, b_13, [.slice A_11 r_10.1.Steps.length c_12, .int .i64 r_10.1.State, .int .i64 r_10.1.Cursor, .int .i64 r_10.1.Failed]⟩]) (ps := []) (by kernel_rfl) trivial ?_
      refine GoO.regionEnd ?_
      exact GoO.sub (ks := [0, 1, 2, 7, 27]) (hk := [0]) (bk := [1, 2, 0]) (by kernel_rfl) (by kernel_rfl) (by kernel_rfl) (tontinelaw14_SagaEnds_j0_ok n l_1 oks_4 abort_7 r_10 A_2 c_3 A_5 c_6 A_11 c_12 b_13 w0 S0 true)
    · refine GoO.exec (is := [3, 4, 5, 6]) (hs := [.p, .p, .p, .p]) (rest := []) (ks := [0, 1, 2, 7, 27]) (env' := [(0, .slice A_2 l_1.length c_3), (1, .slice A_5 oks_4.length c_6), (2, .int .i64 abort_7), (7, .pointer (some ⟨b_13, 0, none⟩)), (27, .bool ((oks_4.length : Int) == 0))]) (H' := [⟨40, b_13, [.slice A_11 r_10.1.Steps.length c_12, .int .i64 r_10.1.State, .int .i64 r_10.1.Cursor, .int .i64 r_10.1.Failed]⟩]) (ps := []) (by kernel_rfl) trivial ?_
      refine GoO.regionEnd ?_
      exact GoO.sub (ks := [0, 1, 2, 7, 27]) (hk := [0]) (bk := [1, 2, 0]) (by kernel_rfl) (by kernel_rfl) (by kernel_rfl) (tontinelaw14_SagaEnds_j0_ok n l_1 oks_4 abort_7 r_10 A_2 c_3 A_5 c_6 A_11 c_12 b_13 w0 S0 ((oks_4.length : Int) == 0))
end Go.GL
