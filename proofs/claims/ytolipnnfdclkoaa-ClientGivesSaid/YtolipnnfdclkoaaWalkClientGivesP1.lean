import Derived.Test.YtolipnnfdclkoaaKindsT2
import Derived.Test.YtolipnnfdclkoaaProg
set_option linter.unusedVariables false
set_option linter.unusedSimpArgs false
set_option maxRecDepth 100000
namespace Go.GL
open Go Go.Proofs


/-! tontine/client.New -/
noncomputable def c31_0 : Code := bodyOf Try.f31
noncomputable def c31_1 : Code := cdL c31_0
noncomputable def c31_2 : Code := cdR c31_0
noncomputable def c31_3 : Code := cdL c31_2
noncomputable def c31_4 : Code := cdL c31_3
noncomputable def c31_5 : Code := cdR c31_3
noncomputable def c31_6 : Code := cdL c31_5
noncomputable def c31_7 : Code := cdL c31_6
noncomputable def c31_8 : Code := cdR c31_6
noncomputable def c31_9 : Code := cdR c31_5
noncomputable def c31_10 : Code := cdR c31_2
noncomputable def c31_11 : Code := cdL c31_10
noncomputable def c31_12 : Code := cdR c31_10
noncomputable def r31_1 : Array Oper := cdO c31_1
noncomputable def r31_4 : Array Oper := cdO c31_4
noncomputable def r31_7 : Array Oper := cdO c31_7
noncomputable def r31_11 : Array Oper := cdO c31_11
theorem c31_0e : c31_0 = .seq c31_1 c31_2 := by kernel_rfl
theorem c31_1e : c31_1 = .region 0 r31_1 false := by kernel_rfl
theorem c31_2e : c31_2 = .seq c31_3 c31_10 := by kernel_rfl
theorem c31_3e : c31_3 = .seq c31_4 c31_5 := by kernel_rfl
theorem c31_4e : c31_4 = .region 1 r31_4 false := by kernel_rfl
theorem c31_5e : c31_5 = .cond (cdC c31_5) c31_6 c31_9 := by kernel_rfl
theorem c31_6e : c31_6 = .seq c31_7 c31_8 := by kernel_rfl
theorem c31_7e : c31_7 = .region 2 r31_7 false := by kernel_rfl
theorem c31_8e : c31_8 = .ret := by kernel_rfl
theorem c31_9e : c31_9 = .skip := by kernel_rfl
theorem c31_10e : c31_10 = .seq c31_11 c31_12 := by kernel_rfl
theorem c31_11e : c31_11 = .region 3 r31_11 false := by kernel_rfl
theorem c31_12e : c31_12 = .ret := by kernel_rfl
noncomputable def client_New.R : Pst (Option T_client_Client × Int) where
  ε := Nat × Option Addr × Nat
  v := fun r x => .tuple ⟨[(match r.1 with | none => Value.pointer none | some _ => Value.pointer (some ⟨x.1, 0, none⟩)), .int .i64 r.2]⟩
  H := fun r x => [] ++ ((match r.1 with | none => ([] : List Bx) | some o => [⟨1, x.1, [.int .i64 o.id, .int .u64 o.session, .int .u64 o.seq, .int .u64 o.call, .bool o.busy, .int .i64 o.now.Kind, .int .u64 o.now.Session, .int .u64 o.now.Seq, .int .u64 o.now.Saga, .slice x.2.1 o.now.Steps.length x.2.2, .int .i64 o.now.Step, .bool o.now.Back, .int .i64 o.now.Try, .bool o.now.Ok, .int .u64 o.now.Now, .string (bs o.data), .int .i64 o.to_]⟩]) ++ ([]))
  B := fun r x => [] ++ ((match r.1 with | none => ([] : List Fct) | some o => [Rd 0 kT_api_Step x.2.1 x.2.2 o.now.Steps]) ++ ([]))
noncomputable def client_New.cx (w0 : World) (S0 : Fam) : Cx (Option T_client_Client × Int) := ⟨Try.prog, 31, Try.f31, 13, w0, S0, [], 0, client_New.R⟩
theorem client_New_ok (n : Nat) (id_1 : Int) :
    Meets Try.prog 31 [.int .i64 id_1] 0 [] [] [] (client_New.f n id_1) (client_New.R) := by
  refine Meets.of (c := c31_0) (n := 13) Try.func31 (by kernel_rfl) (by kernel_rfl) (by kernel_rfl) fun w0 S0 => ?_
  unfold client_New.f
  show GoO (client_New.cx w0 S0) [(0, .int .i64 id_1)] [] [] [.code c31_0] _
  refine GoO.seq' c31_0e ?_
  refine GoO.region' (is := [0, 1]) c31_1e (by kernel_rfl) ?_
  refine GoO.exec (is := [0, 1]) (hs := [.p, .p]) (rest := []) (ks := [0]) (env' := [(0, .int .i64 id_1)]) (H' := []) (ps := []) (by kernel_rfl) trivial ?_
  refine GoO.regionEnd ?_
  refine GoO.seq' c31_2e ?_
  refine GoO.seq' c31_3e ?_
  refine GoO.region' (is := [0, 1, 2, 3, 4, 5]) c31_4e (by kernel_rfl) ?_
  refine GoO.exec (is := [0, 1, 2]) (hs := [.p, .p, .p]) (rest := [3, 4, 5]) (ks := [0, 6]) (env' := [(0, .int .i64 id_1), (6, .bool (decide (id_1 < 0)))]) (H' := []) (ps := []) (by kernel_rfl) trivial ?_
  refine GoO.bsplit (t := 6) (by kernel_rfl) (fun h2 => ?_) (fun h2 => ?_)
  · refine GoO.exec (is := [3, 4, 5]) (hs := [.p, .p, .p]) (rest := []) (ks := [0, 9]) (env' := [(0, .int .i64 id_1), (9, .bool true)]) (H' := []) (ps := []) (by kernel_rfl) trivial ?_
    refine GoO.regionEnd ?_
    refine GoO.condT c31_5e (by kernel_rfl) ?_
    refine GoO.seq' c31_6e ?_
    refine GoO.region' (is := [0, 1]) c31_7e (by kernel_rfl) ?_
    refine GoO.exec (is := [0, 1]) (hs := [.p, .p]) (rest := []) (ks := [2, 3]) (env' := [(2, .pointer none), (3, .int .i64 1)]) (H' := []) (ps := []) (by kernel_rfl) trivial ?_
    refine GoO.regionEnd ?_
    exact GoO.ret' (h := c31_8e) (hs := []) (ps := []) (hk := []) (bk := []) Try.func31 (⟨0, none, 0⟩ : Nat × Option Addr × Nat) (by kernel_rfl) trivial (by kernel_rfl) (by kernel_rfl)
  · refine GoO.exec (is := [3, 4, 5]) (hs := [.p, .p, .p]) (rest := []) (ks := [0, 9]) (env' := [(0, .int .i64 id_1), (9, .bool (decide (id_1 ≥ 4)))]) (H' := []) (ps := []) (by kernel_rfl) trivial ?_
    refine GoO.regionEnd ?_
    refine GoO.ite' c31_5e (by kernel_rfl) (fun h3 => ?_) (fun h3 => ?_)
    · refine GoO.seq' c31_6e ?_
      refine GoO.region' (is := [0, 1]) c31_7e (by kernel_rfl) ?_
      refine GoO.exec (is := [0, 1]) (hs := [.p, .p]) (rest := []) (ks := [2, 3]) (env' := [(2, .pointer none), (3, .int .i64 1)]) (H' := []) (ps := []) (by kernel_rfl) trivial ?_
      refine GoO.regionEnd ?_
      exact GoO.ret' (h := c31_8e) (hs := []) (ps := []) (hk := []) (bk := []) Try.func31 (⟨0, none, 0⟩ : Nat × Option Addr × Nat) (by kernel_rfl) trivial (by kernel_rfl) (by kernel_rfl)
    · refine GoO.skip' c31_9e ?_
      refine GoO.seq' c31_10e ?_
      refine GoO.region' (is := [0, 1, 2, 3, 4]) c31_11e (by kernel_rfl) ?_
      refine GoO.exec (is := [0, 1]) (hs := [.p, .p]) (rest := [2, 3, 4]) (ks := [11]) (env' := [(11, .agg ⟨[.int .i64 id_1, .int .u64 0, .int .u64 0, .int .u64 0, .bool false, .int .i64 0, .int .u64 0, .int .u64 0, .int .u64 0, .slice none ([] : List T_api_Step).length 0, .int .i64 0, .bool false, .int .i64 0, .bool false, .int .u64 0, .string (bs []), .int .i64 0]⟩)]) (H' := []) (ps := []) (by kernel_rfl) trivial ?_
      refine OpTo.go (GoO.new rfl 40 (cs := [.int .i64 id_1, .int .u64 0, .int .u64 0, .int .u64 0, .bool false, .int .i64 0, .int .u64 0, .int .u64 0, .int .u64 0, .slice none ([] : List T_api_Step).length 0, .int .i64 0, .bool false, .int .i64 0, .bool false, .int .u64 0, .string (bs []), .int .i64 0]) (by kernel_rfl) _ (fun _ => rfl) (fun b_4 => ?_))
      refine GoO.exec (is := [3, 4]) (hs := [.p, .p]) (rest := []) (ks := [2, 3]) (env' := [(2, .pointer (some ⟨b_4, 0, none⟩)), (3, .int .i64 0)]) (H' := [⟨40, b_4, [.int .i64 id_1, .int .u64 0, .int .u64 0, .int .u64 0, .bool false, .int .i64 0, .int .u64 0, .int .u64 0, .int .u64 0, .slice none ([] : List T_api_Step).length 0, .int .i64 0, .bool false, .int .i64 0, .bool false, .int .u64 0, .string (bs []), .int .i64 0]⟩]) (ps := []) (by kernel_rfl) trivial ?_
      refine GoO.regionEnd ?_
      refine GoO.nilRd kT_api_Step ?_
      refine GoO.retagB (t := 40) (u := 1) (j := 0) (hk := []) (bk := [0]) rfl rfl rfl rfl rfl rfl (by kernel_rfl) (by kernel_rfl) ?_
      exact GoO.ret' (h := c31_12e) (hs := []) (ps := []) (hk := [0]) (bk := [0]) Try.func31 (⟨b_4, none, 0⟩ : Nat × Option Addr × Nat) (by kernel_rfl) trivial (by kernel_rfl) (by kernel_rfl)

/-! tontine/plan.Check -/
noncomputable def c84_0 : Code := bodyOf Try.f84
noncomputable def c84_1 : Code := cdL c84_0
noncomputable def c84_2 : Code := cdR c84_0
noncomputable def c84_3 : Code := cdL c84_2
noncomputable def c84_4 : Code := cdL c84_3
noncomputable def c84_5 : Code := cdR c84_3
noncomputable def c84_6 : Code := cdL c84_5
noncomputable def c84_7 : Code := cdL c84_6
noncomputable def c84_8 : Code := cdR c84_6
noncomputable def c84_9 : Code := cdR c84_5
noncomputable def c84_10 : Code := cdR c84_2
noncomputable def c84_11 : Code := cdL c84_10
noncomputable def c84_12 : Code := cdL c84_11
noncomputable def c84_13 : Code := cdR c84_11
noncomputable def c84_14 : Code := cdL c84_13
noncomputable def c84_15 : Code := cdL c84_14
noncomputable def c84_16 : Code := cdL c84_15
noncomputable def c84_17 : Code := cdR c84_15
noncomputable def c84_18 : Code := cdL c84_17
noncomputable def c84_19 : Code := cdL c84_18
noncomputable def c84_20 : Code := cdR c84_18
noncomputable def c84_21 : Code := cdR c84_17
noncomputable def c84_22 : Code := cdL c84_21
noncomputable def c84_23 : Code := cdL c84_22
noncomputable def c84_24 : Code := cdL c84_23
noncomputable def c84_25 : Code := cdR c84_23
noncomputable def c84_26 : Code := cdL c84_25
noncomputable def c84_27 : Code := cdR c84_25
noncomputable def c84_28 : Code := cdL c84_27
noncomputable def c84_29 : Code := cdL c84_28
noncomputable def c84_30 : Code := cdR c84_28
noncomputable def c84_31 : Code := cdR c84_27
noncomputable def c84_32 : Code := cdR c84_21
noncomputable def c84_33 : Code := cdR c84_10
noncomputable def c84_34 : Code := cdL c84_33
noncomputable def c84_35 : Code := cdR c84_33
noncomputable def r84_1 : Array Oper := cdO c84_1
noncomputable def r84_4 : Array Oper := cdO c84_4
noncomputable def r84_7 : Array Oper := cdO c84_7
noncomputable def r84_12 : Array Oper := cdO c84_12
noncomputable def r84_16 : Array Oper := cdO c84_16
noncomputable def r84_24 : Array Oper := cdO c84_24
noncomputable def r84_26 : Array Oper := cdO c84_26
noncomputable def r84_29 : Array Oper := cdO c84_29
noncomputable def r84_32 : Array Oper := cdO c84_32
noncomputable def r84_34 : Array Oper := cdO c84_34
theorem c84_0e : c84_0 = .seq c84_1 c84_2 := by kernel_rfl
theorem c84_1e : c84_1 = .region 0 r84_1 false := by kernel_rfl
theorem c84_2e : c84_2 = .seq c84_3 c84_10 := by kernel_rfl
theorem c84_3e : c84_3 = .seq c84_4 c84_5 := by kernel_rfl
theorem c84_4e : c84_4 = .region 1 r84_4 false := by kernel_rfl
theorem c84_5e : c84_5 = .cond (cdC c84_5) c84_6 c84_9 := by kernel_rfl
theorem c84_6e : c84_6 = .seq c84_7 c84_8 := by kernel_rfl
theorem c84_7e : c84_7 = .region 2 r84_7 false := by kernel_rfl
theorem c84_8e : c84_8 = .ret := by kernel_rfl
theorem c84_9e : c84_9 = .skip := by kernel_rfl
theorem c84_10e : c84_10 = .seq c84_11 c84_33 := by kernel_rfl
theorem c84_11e : c84_11 = .seq c84_12 c84_13 := by kernel_rfl
theorem c84_12e : c84_12 = .region 3 r84_12 false := by kernel_rfl
theorem c84_13e : c84_13 = .block 0 c84_14 := by kernel_rfl
theorem c84_14e : c84_14 = .loop c84_15 := by kernel_rfl
theorem c84_15e : c84_15 = .seq c84_16 c84_17 := by kernel_rfl
theorem c84_16e : c84_16 = .region 4 r84_16 false := by kernel_rfl
theorem c84_17e : c84_17 = .seq c84_18 c84_21 := by kernel_rfl
theorem c84_18e : c84_18 = .cond (cdC c84_18) c84_19 c84_20 := by kernel_rfl
theorem c84_19e : c84_19 = .skip := by kernel_rfl
theorem c84_20e : c84_20 = .exit 0 := by kernel_rfl
theorem c84_21e : c84_21 = .seq c84_22 c84_32 := by kernel_rfl
theorem c84_22e : c84_22 = .block 1 c84_23 := by kernel_rfl
theorem c84_23e : c84_23 = .seq c84_24 c84_25 := by kernel_rfl
theorem c84_24e : c84_24 = .region 5 r84_24 false := by kernel_rfl
theorem c84_25e : c84_25 = .seq c84_26 c84_27 := by kernel_rfl
theorem c84_26e : c84_26 = .region 6 r84_26 false := by kernel_rfl
theorem c84_27e : c84_27 = .cond (cdC c84_27) c84_28 c84_31 := by kernel_rfl
theorem c84_28e : c84_28 = .seq c84_29 c84_30 := by kernel_rfl
theorem c84_29e : c84_29 = .region 7 r84_29 false := by kernel_rfl
theorem c84_30e : c84_30 = .ret := by kernel_rfl
theorem c84_31e : c84_31 = .skip := by kernel_rfl
theorem c84_32e : c84_32 = .region 8 r84_32 false := by kernel_rfl
theorem c84_33e : c84_33 = .seq c84_34 c84_35 := by kernel_rfl
theorem c84_34e : c84_34 = .region 9 r84_34 false := by kernel_rfl
theorem c84_35e : c84_35 = .ret := by kernel_rfl
noncomputable def plan_Check.R (A_2 : Option Addr) (c_3 : Nat) : Pst Int where
  ε := Unit
  v := fun r x => .int .i64 r
  H := fun r x => []
  B := fun r x => []
noncomputable def plan_Check.cx (A_2 : Option Addr) (c_3 : Nat) (w0 : World) (S0 : Fam) : Cx Int := ⟨Try.prog, 84, Try.f84, 49, w0, S0, [], 0, plan_Check.R A_2 c_3⟩
theorem plan_Check_j1_ok (n : Nat) (L0 : Int → Option Int) (l_1 : (List T_api_Step)) (x_7 : Int) (A_2 : Option Addr) (c_3 : Nat) (w0 : World) (S0 : Fam) (ih0 : ∀ (x_7 : Int), GoO (plan_Check.cx A_2 c_3 w0 S0) [(13, .slice A_2 l_1.length c_3), (14, .int .i64 (l_1.length : Int)), (15, .int .i64 x_7)] [] [Rd 0 kT_api_Step A_2 c_3 l_1] [.code c84_15, .inLoop c84_15, .inBlock 0, .code c84_33] (L0 x_7)) (b_16 : Bool) :
    GoO (plan_Check.cx A_2 c_3 w0 S0) [(13, .slice A_2 l_1.length c_3), (14, .int .i64 (l_1.length : Int)), (15, .int .i64 x_7), (47, .bool b_16)] [] [Rd 0 kT_api_Step A_2 c_3 l_1] [.code c84_27, .inBlock 1, .code c84_32, .inLoop c84_15, .inBlock 0, .code c84_33] (plan_Check.j1 n L0 x_7 b_16) := by
  unfold plan_Check.j1
  refine GoO.ite' c84_27e (by kernel_rfl) (fun h17 => ?_) (fun h17 => ?_)
  · refine GoO.seq' c84_28e ?_
    refine GoO.region' (is := [0]) c84_29e (by kernel_rfl) ?_
    refine GoO.exec (is := [0]) (hs := [.p]) (rest := []) (ks := [2]) (env' := [(2, .int .i64 44)]) (H' := []) (ps := []) (by kernel_rfl) trivial ?_
    refine GoO.regionEnd ?_
    exact GoO.ret' (h := c84_30e) (hs := []) (ps := []) (hk := []) (bk := []) Try.func84 () (by kernel_rfl) trivial (by kernel_rfl) (by kernel_rfl)
  · refine GoO.skip' c84_31e ?_
    refine GoO.inBlock ?_
    refine GoO.region' (is := [0, 1]) c84_32e (by kernel_rfl) ?_
    refine GoO.exec (is := [0, 1]) (hs := [.p, .p]) (rest := []) (ks := [13, 14, 15]) (env' := [(13, .slice A_2 l_1.length c_3), (14, .int .i64 (l_1.length : Int)), (15, .int .i64 (wi64 (x_7 + 1)))]) (H' := []) (ps := []) (by kernel_rfl) trivial ?_
    refine GoO.regionEnd ?_
    refine GoO.inLoop ?_
    exact GoO.sub (ks := [13, 14, 15]) (hk := []) (bk := [0]) (by kernel_rfl) (by kernel_rfl) (by kernel_rfl) (ih0 (wi64 (x_7 + 1)))
theorem plan_Check_l0_ok (n : Nat) (l_1 : (List T_api_Step)) (A_2 : Option Addr) (c_3 : Nat) (w0 : World) (S0 : Fam) :
    ∀ (k : Nat) (x_7 : Int), GoO (plan_Check.cx A_2 c_3 w0 S0) [(13, .slice A_2 l_1.length c_3), (14, .int .i64 (l_1.length : Int)), (15, .int .i64 x_7)] [] [Rd 0 kT_api_Step A_2 c_3 l_1] [.code c84_15, .inLoop c84_15, .inBlock 0, .code c84_33] (plan_Check.l0 n l_1 k x_7) := by
  intro k
  induction k with
  | zero => intros; rw [plan_Check.l0.eq_1]; exact GoO.stop
  | succ k ih0 =>
    intro x_7
    rw [plan_Check.l0.eq_2]
    refine GoO.seq' c84_15e ?_
    refine GoO.region' (is := [0]) c84_16e (by kernel_rfl) ?_
    refine GoO.exec (is := [0]) (hs := [.p]) (rest := []) (ks := [13, 14, 15, 16]) (env' := [(13, .slice A_2 l_1.length c_3), (14, .int .i64 (l_1.length : Int)), (15, .int .i64 x_7), (16, .bool (decide (x_7 < (l_1.length : Int))))]) (H' := []) (ps := []) (by kernel_rfl) trivial ?_
    refine GoO.regionEnd ?_
    refine GoO.seq' c84_17e ?_
    refine GoO.ite' c84_18e (by kernel_rfl) (fun h8 => ?_) (fun h8 => ?_)
    · refine GoO.skip' c84_19e ?_
      refine GoO.seq' c84_21e ?_
      refine GoO.block' c84_22e ?_
      refine GoO.seq' c84_23e ?_
      refine GoO.region' (is := [0, 1, 2, 3]) c84_24e (by kernel_rfl) ?_
      refine GoO.guard (fun h9 => ?_)
      refine OpTo.go (GoO.idx (kk := .i64) (e := 160) (K := kT_api_Step) (A := A_2) (c := c_3) (xs := l_1) (iv := x_7) (j := 0) rfl (by kernel_rfl) (by kernel_rfl) (by kernel_rfl) (by kernel_rfl) rfl Reads.rd rfl h9.1 h9.2 (by decide) rfl ?_)
      refine OpTo.go (GoO.ldE' (K := kT_api_Step) (A := A_2) (c := c_3) (xs := l_1) (iN := x_7.toNat) (off := 0) (j := 0) rfl (by kernel_rfl) rfl Reads.rd (by first | exact idx_lt h9.1 h9.2 | (simp only [List.length_set]; exact idx_lt h9.1 h9.2)) (by decide) (Opn.flat _ _ _ _ _) (v := fun _ => .agg ⟨[.int .i64 ((rdL l_1 x_7).Part), .string (bs ((rdL l_1 x_7).Name)), .int .i64 ((rdL l_1 x_7).Budget)]⟩) (fun _ => by kernel_rfl) _ (fun _ => rfl) (fun _ => ?_))
      refine OpTo.go (GoO.new rfl 40 (cs := [.int .i64 0, .string (bs []), .int .i64 0]) (by kernel_rfl) _ (fun _ => rfl) (fun b_10 => ?_))
      refine GoO.exec (is := [3]) (hs := [.b 0]) (rest := []) (ks := [4, 13, 14, 15]) (env' := [(4, .pointer (some ⟨b_10, 0, none⟩)), (13, .slice A_2 l_1.length c_3), (14, .int .i64 (l_1.length : Int)), (15, .int .i64 x_7)]) (H' := [⟨40, b_10, [.int .i64 ((rdL l_1 x_7).Part), .string (bs ((rdL l_1 x_7).Name)), .int .i64 ((rdL l_1 x_7).Budget)]⟩]) (ps := [b_10 = b_10]) (by kernel_rfl) (And.intro rfl trivial) ?_
      refine GoO.regionEnd ?_
      refine GoO.seq' c84_25e ?_
      refine GoO.region' (is := [0, 1, 2, 3, 4, 5, 6, 7, 8, 9, 10, 11, 12, 13, 14, 15, 16, 17, 18, 19, 20, 21, 22, 23, 24, 25, 26, 27, 28]) c84_26e (by kernel_rfl) ?_
      refine GoO.exec (is := [0, 1, 2, 3]) (hs := [.p, .b 0, .p, .p]) (rest := [4, 5, 6, 7, 8, 9, 10, 11, 12, 13, 14, 15, 16, 17, 18, 19, 20, 21, 22, 23, 24, 25, 26, 27, 28]) (ks := [4, 13, 14, 15, 22]) (env' := [(4, .pointer (some ⟨b_10, 0, none⟩)), (13, .slice A_2 l_1.length c_3), (14, .int .i64 (l_1.length : Int)), (15, .int .i64 x_7), (22, .bool (decide (((rdL l_1 x_7).Part) < 0)))]) (H' := [⟨40, b_10, [.int .i64 ((rdL l_1 x_7).Part), .string (bs ((rdL l_1 x_7).Name)), .int .i64 ((rdL l_1 x_7).Budget)]⟩]) (ps := [b_10 = b_10]) (by kernel_rfl) (And.intro rfl trivial) ?_
      refine GoO.bsplit (t := 22) (by kernel_rfl) (fun h11 => ?_) (fun h11 => ?_)
      · refine GoO.exec (is := [4, 5, 6, 7, 8, 9, 10, 11, 12, 13, 14, 15, 16, 17, 18, 19, 20, 21, 22, 23, 24, 25, 26, 27, 28]) (hs := [.p, .p, .p, .p, .p, .p, .p, .p, .p, .p, .p, .p, .p, .p, .p, .p, .p, .p, .p, .p, .p, .p, .p, .p, .p]) (rest := []) (ks := [13, 14, 15, 47]) (env' := [(13, .slice A_2 l_1.length c_3), (14, .int .i64 (l_1.length : Int)), (15, .int .i64 x_7), (47, .bool true)]) (H' := [⟨40, b_10, [.int .i64 ((rdL l_1 x_7).Part), .string (bs ((rdL l_1 x_7).Name)), .int .i64 ((rdL l_1 x_7).Budget)]⟩]) (ps := []) (by kernel_rfl) trivial ?_
        refine GoO.regionEnd ?_
        exact GoO.sub (ks := [13, 14, 15, 47]) (hk := []) (bk := [0]) (by kernel_rfl) (by kernel_rfl) (by kernel_rfl) (plan_Check_j1_ok n (plan_Check.l0 n l_1 k) l_1 x_7 A_2 c_3 w0 S0 ih0 true)
      · refine GoO.exec (is := [4, 5, 6, 7, 8]) (hs := [.p, .b 0, .p, .p, .p]) (rest := [9, 10, 11, 12, 13, 14, 15, 16, 17, 18, 19, 20, 21, 22, 23, 24, 25, 26, 27, 28]) (ks := [4, 13, 14, 15, 27]) (env' := [(4, .pointer (some ⟨b_10, 0, none⟩)), (13, .slice A_2 l_1.length c_3), (14, .int .i64 (l_1.length : Int)), (15, .int .i64 x_7), (27, .bool (decide (((rdL l_1 x_7).Part) ≥ 4)))]) (H' := [⟨40, b_10, [.int .i64 ((rdL l_1 x_7).Part), .string (bs ((rdL l_1 x_7).Name)), .int .i64 ((rdL l_1 x_7).Budget)]⟩]) (ps := [b_10 = b_10]) (by kernel_rfl) (And.intro rfl trivial) ?_
        refine GoO.bsplit (t := 27) (by kernel_rfl) (fun h12 => ?_) (fun h12 => ?_)
        · refine GoO.exec (is := [9, 10, 11, 12, 13, 14, 15, 16, 17, 18, 19, 20, 21, 22, 23, 24, 25, 26, 27, 28]) (hs := [.p, .p, .p, .p, .p, .p, .p, .p, .p, .p, .p, .p, .p, .p, .p, .p, .p, .p, .p, .p]) (rest := []) (ks := [13, 14, 15, 47]) (env' := [(13, .slice A_2 l_1.length c_3), (14, .int .i64 (l_1.length : Int)), (15, .int .i64 x_7), (47, .bool true)]) (H' := [⟨40, b_10, [.int .i64 ((rdL l_1 x_7).Part), .string (bs ((rdL l_1 x_7).Name)), .int .i64 ((rdL l_1 x_7).Budget)]⟩]) (ps := []) (by kernel_rfl) trivial ?_
          refine GoO.regionEnd ?_
          exact GoO.sub (ks := [13, 14, 15, 47]) (hk := []) (bk := [0]) (by kernel_rfl) (by kernel_rfl) (by kernel_rfl) (plan_Check_j1_ok n (plan_Check.l0 n l_1 k) l_1 x_7 A_2 c_3 w0 S0 ih0 true)
        · refine GoO.exec (is := [9, 10, 11, 12, 13]) (hs := [.p, .b 0, .p, .p, .p]) (rest := [14, 15, 16, 17, 18, 19, 20, 21, 22, 23, 24, 25, 26, 27, 28]) (ks := [4, 13, 14, 15, 32]) (env' := [(4, .pointer (some ⟨b_10, 0, none⟩)), (13, .slice A_2 l_1.length c_3), (14, .int .i64 (l_1.length : Int)), (15, .int .i64 x_7), (32, .bool (((rdL l_1 x_7).Name) == ([] : List UInt8)))]) (H' := [⟨40, b_10, [.int .i64 ((rdL l_1 x_7).Part), .string (bs ((rdL l_1 x_7).Name)), .int .i64 ((rdL l_1 x_7).Budget)]⟩]) (ps := [b_10 = b_10]) (by kernel_rfl) (And.intro rfl trivial) ?_
          refine GoO.bsplit (t := 32) (by kernel_rfl) (fun h13 => ?_) (fun h13 => ?_)
          · refine GoO.exec (is := [14, 15, 16, 17, 18, 19, 20, 21, 22, 23, 24, 25, 26, 27, 28]) (hs := [.p, .p, .p, .p, .p, .p, .p, .p, .p, .p, .p, .p, .p, .p, .p]) (rest := []) (ks := [13, 14, 15, 47]) (env' := [(13, .slice A_2 l_1.length c_3), (14, .int .i64 (l_1.length : Int)), (15, .int .i64 x_7), (47, .bool true)]) (H' := [⟨40, b_10, [.int .i64 ((rdL l_1 x_7).Part), .string (bs ((rdL l_1 x_7).Name)), .int .i64 ((rdL l_1 x_7).Budget)]⟩]) (ps := []) (by kernel_rfl) trivial ?_
            refine GoO.regionEnd ?_
            exact GoO.sub (ks := [13, 14, 15, 47]) (hk := []) (bk := [0]) (by kernel_rfl) (by kernel_rfl) (by kernel_rfl) (plan_Check_j1_ok n (plan_Check.l0 n l_1 k) l_1 x_7 A_2 c_3 w0 S0 ih0 true)
          · refine GoO.exec (is := [14, 15, 16, 17, 18, 19]) (hs := [.p, .b 0, .p, .p, .p, .p]) (rest := [20, 21, 22, 23, 24, 25, 26, 27, 28]) (ks := [4, 13, 14, 15, 38]) (env' := [(4, .pointer (some ⟨b_10, 0, none⟩)), (13, .slice A_2 l_1.length c_3), (14, .int .i64 (l_1.length : Int)), (15, .int .i64 x_7), (38, .bool (decide ((((rdL l_1 x_7).Name).length : Int) > 16)))]) (H' := [⟨40, b_10, [.int .i64 ((rdL l_1 x_7).Part), .string (bs ((rdL l_1 x_7).Name)), .int .i64 ((rdL l_1 x_7).Budget)]⟩]) (ps := [b_10 = b_10]) (by kernel_rfl) (And.intro rfl trivial) ?_
            refine GoO.bsplit (t := 38) (by kernel_rfl) (fun h14 => ?_) (fun h14 => ?_)
            · refine GoO.exec (is := [20, 21, 22, 23, 24, 25, 26, 27, 28]) (hs := [.p, .p, .p, .p, .p, .p, .p, .p, .p]) (rest := []) (ks := [13, 14, 15, 47]) (env' := [(13, .slice A_2 l_1.length c_3), (14, .int .i64 (l_1.length : Int)), (15, .int .i64 x_7), (47, .bool true)]) (H' := [⟨40, b_10, [.int .i64 ((rdL l_1 x_7).Part), .string (bs ((rdL l_1 x_7).Name)), .int .i64 ((rdL l_1 x_7).Budget)]⟩]) (ps := []) (by kernel_rfl) trivial ?_
              refine GoO.regionEnd ?_
              exact GoO.sub (ks := [13, 14, 15, 47]) (hk := []) (bk := [0]) (by kernel_rfl) (by kernel_rfl) (by kernel_rfl) (plan_Check_j1_ok n (plan_Check.l0 n l_1 k) l_1 x_7 A_2 c_3 w0 S0 ih0 true)
            · refine GoO.exec (is := [20, 21, 22, 23, 24]) (hs := [.p, .b 0, .p, .p, .p]) (rest := [25, 26, 27, 28]) (ks := [4, 13, 14, 15, 43]) (env' := [(4, .pointer (some ⟨b_10, 0, none⟩)), (13, .slice A_2 l_1.length c_3), (14, .int .i64 (l_1.length : Int)), (15, .int .i64 x_7), (43, .bool (decide (((rdL l_1 x_7).Budget) < 1)))]) (H' := [⟨40, b_10, [.int .i64 ((rdL l_1 x_7).Part), .string (bs ((rdL l_1 x_7).Name)), .int .i64 ((rdL l_1 x_7).Budget)]⟩]) (ps := [b_10 = b_10]) (by kernel_rfl) (And.intro rfl trivial) ?_
              refine GoO.bsplit (t := 43) (by kernel_rfl) (fun h15 => ?_) (fun h15 => ?_)
              · refine GoO.exec (is := [25, 26, 27, 28]) (hs := [.p, .p, .p, .p]) (rest := []) (ks := [13, 14, 15, 47]) (env' := [(13, .slice A_2 l_1.length c_3), (14, .int .i64 (l_1.length : Int)), (15, .int .i64 x_7), (47, .bool true)]) (H' := [⟨40, b_10, [.int .i64 ((rdL l_1 x_7).Part), .string (bs ((rdL l_1 x_7).Name)), .int .i64 ((rdL l_1 x_7).Budget)]⟩]) (ps := []) (by kernel_rfl) trivial ?_
                refine GoO.regionEnd ?_
                exact GoO.sub (ks := [13, 14, 15, 47]) (hk := []) (bk := [0]) (by kernel_rfl) (by kernel_rfl) (by kernel_rfl) (plan_Check_j1_ok n (plan_Check.l0 n l_1 k) l_1 x_7 A_2 c_3 w0 S0 ih0 true)
              · refine GoO.exec (is := [25, 26, 27, 28]) (hs := [.p, .b 0, .p, .p]) (rest := []) (ks := [13, 14, 15, 47]) (env' := [(13, .slice A_2 l_1.length c_3), (14, .int .i64 (l_1.length : Int)), (15, .int .i64 x_7), (47, .bool (decide (((rdL l_1 x_7).Budget) > 9)))]) (H' := [⟨40, b_10, [.int .i64 ((rdL l_1 x_7).Part), .string (bs ((rdL l_1 x_7).Name)), .int .i64 ((rdL l_1 x_7).Budget)]⟩]) (ps := [b_10 = b_10]) (by kernel_rfl) (And.intro rfl trivial) ?_
                refine GoO.regionEnd ?_
                exact GoO.sub (ks := [13, 14, 15, 47]) (hk := []) (bk := [0]) (by kernel_rfl) (by kernel_rfl) (by kernel_rfl) (plan_Check_j1_ok n (plan_Check.l0 n l_1 k) l_1 x_7 A_2 c_3 w0 S0 ih0 (decide (((rdL l_1 x_7).Budget) > 9)))
    · refine GoO.exit' c84_20e rfl ?_
      refine GoO.seq' c84_33e ?_
      refine GoO.region' (is := [0]) c84_34e (by kernel_rfl) ?_
      refine GoO.exec (is := [0]) (hs := [.p]) (rest := []) (ks := [2]) (env' := [(2, .int .i64 0)]) (H' := []) (ps := []) (by kernel_rfl) trivial ?_
      refine GoO.regionEnd ?_
      exact GoO.ret' (h := c84_35e) (hs := []) (ps := []) (hk := []) (bk := []) Try.func84 () (by kernel_rfl) trivial (by kernel_rfl) (by kernel_rfl)
theorem plan_Check_j0_ok (n : Nat) (l_1 : (List T_api_Step)) (A_2 : Option Addr) (c_3 : Nat) (w0 : World) (S0 : Fam) (b_5 : Bool) :
    GoO (plan_Check.cx A_2 c_3 w0 S0) [(0, .slice A_2 l_1.length c_3), (12, .bool b_5)] [] [Rd 0 kT_api_Step A_2 c_3 l_1] [.code c84_5, .code c84_10] (plan_Check.j0 n l_1 b_5) := by
  unfold plan_Check.j0
  refine GoO.ite' c84_5e (by kernel_rfl) (fun h6 => ?_) (fun h6 => ?_)
  · refine GoO.seq' c84_6e ?_
    refine GoO.region' (is := [0]) c84_7e (by kernel_rfl) ?_
    refine GoO.exec (is := [0]) (hs := [.p]) (rest := []) (ks := [2]) (env' := [(2, .int .i64 44)]) (H' := []) (ps := []) (by kernel_rfl) trivial ?_
    refine GoO.regionEnd ?_
    exact GoO.ret' (h := c84_8e) (hs := []) (ps := []) (hk := []) (bk := []) Try.func84 () (by kernel_rfl) trivial (by kernel_rfl) (by kernel_rfl)
  · refine GoO.skip' c84_9e ?_
    refine GoO.seq' c84_10e ?_
    refine GoO.seq' c84_11e ?_
    refine GoO.region' (is := [0, 1, 2]) c84_12e (by kernel_rfl) ?_
    refine GoO.exec (is := [0, 1, 2]) (hs := [.p, .p, .p]) (rest := []) (ks := [13, 14, 15]) (env' := [(13, .slice A_2 l_1.length c_3), (14, .int .i64 (l_1.length : Int)), (15, .int .i64 0)]) (H' := []) (ps := []) (by kernel_rfl) trivial ?_
    refine GoO.regionEnd ?_
    refine GoO.block' c84_13e ?_
    refine GoO.loop' c84_14e ?_
    exact GoO.sub (ks := [13, 14, 15]) (hk := []) (bk := [0]) (by kernel_rfl) (by kernel_rfl) (by kernel_rfl) (plan_Check_l0_ok n l_1 A_2 c_3 w0 S0 n 0)
theorem plan_Check_ok (n : Nat) (l_1 : (List T_api_Step)) (A_2 : Option Addr) (c_3 : Nat) :
    Meets Try.prog 84 [.slice A_2 l_1.length c_3] 0 [] [] [Rd 0 kT_api_Step A_2 c_3 l_1] (plan_Check.f n l_1) (plan_Check.R A_2 c_3) := by
  refine Meets.of (c := c84_0) (n := 49) Try.func84 (by kernel_rfl) (by kernel_rfl) (by kernel_rfl) fun w0 S0 => ?_
  unfold plan_Check.f
  show GoO (plan_Check.cx A_2 c_3 w0 S0) [(0, .slice A_2 l_1.length c_3)] [] [Rd 0 kT_api_Step A_2 c_3 l_1] [.code c84_0] _
  refine GoO.seq' c84_0e ?_
  refine GoO.region' (is := [0]) c84_1e (by kernel_rfl) ?_
  refine GoO.exec (is := [0]) (hs := [.p]) (rest := []) (ks := [0]) (env' := [(0, .slice A_2 l_1.length c_3)]) (H' := []) (ps := []) (by kernel_rfl) trivial ?_
  refine GoO.regionEnd ?_
  refine GoO.seq' c84_2e ?_
  refine GoO.seq' c84_3e ?_
  refine GoO.region' (is := [0, 1, 2, 3, 4, 5, 6, 7]) c84_4e (by kernel_rfl) ?_
  refine GoO.exec (is := [0, 1, 2, 3]) (hs := [.p, .p, .p, .p]) (rest := [4, 5, 6, 7]) (ks := [0, 8]) (env' := [(0, .slice A_2 l_1.length c_3), (8, .bool (decide ((l_1.length : Int) < 1)))]) (H' := []) (ps := []) (by kernel_rfl) trivial ?_
  refine GoO.bsplit (t := 8) (by kernel_rfl) (fun h4 => ?_) (fun h4 => ?_)
  · refine GoO.exec (is := [4, 5, 6, 7]) (hs := [.p, .p, .p, .p]) (rest := []) (ks := [0, 12]) (env' := [(0, .slice A_2 l_1.length c_3), (12, .bool true)]) (H' := []) (ps := []) (by kernel_rfl) trivial ?_
    refine GoO.regionEnd ?_
    exact GoO.sub (ks := [0, 12]) (hk := []) (bk := [0]) (by kernel_rfl) (by kernel_rfl) (by kernel_rfl) (plan_Check_j0_ok n l_1 A_2 c_3 w0 S0 true)
  · refine GoO.exec (is := [4, 5, 6, 7]) (hs := [.p, .p, .p, .p]) (rest := []) (ks := [0, 12]) (env' := [(0, .slice A_2 l_1.length c_3), (12, .bool (decide ((l_1.length : Int) > 64)))]) (H' := []) (ps := []) (by kernel_rfl) trivial ?_
    refine GoO.regionEnd ?_
    exact GoO.sub (ks := [0, 12]) (hk := []) (bk := [0]) (by kernel_rfl) (by kernel_rfl) (by kernel_rfl) (plan_Check_j0_ok n l_1 A_2 c_3 w0 S0 (decide ((l_1.length : Int) > 64)))

/-! tontine/command.May -/
noncomputable def c85_0 : Code := bodyOf Try.f85
noncomputable def c85_1 : Code := cdL c85_0
noncomputable def c85_2 : Code := cdR c85_0
noncomputable def c85_3 : Code := cdL c85_2
noncomputable def c85_4 : Code := cdL c85_3
noncomputable def c85_5 : Code := cdR c85_3
noncomputable def c85_6 : Code := cdL c85_5
noncomputable def c85_7 : Code := cdL c85_6
noncomputable def c85_8 : Code := cdL c85_7
noncomputable def c85_9 : Code := cdR c85_7
noncomputable def c85_10 : Code := cdL c85_9
noncomputable def c85_11 : Code := cdR c85_9
noncomputable def c85_12 : Code := cdL c85_11
noncomputable def c85_13 : Code := cdR c85_11
noncomputable def c85_14 : Code := cdL c85_13
noncomputable def c85_15 : Code := cdR c85_13
noncomputable def c85_16 : Code := cdR c85_6
noncomputable def c85_17 : Code := cdL c85_16
noncomputable def c85_18 : Code := cdL c85_17
noncomputable def c85_19 : Code := cdR c85_17
noncomputable def c85_20 : Code := cdR c85_16
noncomputable def c85_21 : Code := cdL c85_20
noncomputable def c85_22 : Code := cdR c85_20
noncomputable def c85_23 : Code := cdL c85_22
noncomputable def c85_24 : Code := cdL c85_23
noncomputable def c85_25 : Code := cdR c85_23
noncomputable def c85_26 : Code := cdR c85_22
noncomputable def c85_27 : Code := cdL c85_26
noncomputable def c85_28 : Code := cdR c85_26
noncomputable def c85_29 : Code := cdL c85_28
noncomputable def c85_30 : Code := cdL c85_29
noncomputable def c85_31 : Code := cdR c85_29
noncomputable def c85_32 : Code := cdR c85_28
noncomputable def c85_33 : Code := cdR c85_2
noncomputable def c85_34 : Code := cdL c85_33
noncomputable def c85_35 : Code := cdR c85_33
noncomputable def r85_1 : Array Oper := cdO c85_1
noncomputable def r85_4 : Array Oper := cdO c85_4
noncomputable def r85_8 : Array Oper := cdO c85_8
noncomputable def r85_12 : Array Oper := cdO c85_12
noncomputable def r85_15 : Array Oper := cdO c85_15
noncomputable def r85_18 : Array Oper := cdO c85_18
noncomputable def r85_21 : Array Oper := cdO c85_21
noncomputable def r85_24 : Array Oper := cdO c85_24
noncomputable def r85_27 : Array Oper := cdO c85_27
noncomputable def r85_30 : Array Oper := cdO c85_30
noncomputable def r85_34 : Array Oper := cdO c85_34
theorem c85_0e : c85_0 = .seq c85_1 c85_2 := by kernel_rfl
theorem c85_1e : c85_1 = .region 0 r85_1 false := by kernel_rfl
theorem c85_2e : c85_2 = .seq c85_3 c85_33 := by kernel_rfl
theorem c85_3e : c85_3 = .seq c85_4 c85_5 := by kernel_rfl
theorem c85_4e : c85_4 = .region 1 r85_4 false := by kernel_rfl
theorem c85_5e : c85_5 = .block 0 c85_6 := by kernel_rfl
theorem c85_6e : c85_6 = .seq c85_7 c85_16 := by kernel_rfl
theorem c85_7e : c85_7 = .seq c85_8 c85_9 := by kernel_rfl
theorem c85_8e : c85_8 = .region 2 r85_8 false := by kernel_rfl
theorem c85_9e : c85_9 = .cond (cdC c85_9) c85_10 c85_11 := by kernel_rfl
theorem c85_10e : c85_10 = .skip := by kernel_rfl
theorem c85_11e : c85_11 = .seq c85_12 c85_13 := by kernel_rfl
theorem c85_12e : c85_12 = .region 3 r85_12 false := by kernel_rfl
theorem c85_13e : c85_13 = .cond (cdC c85_13) c85_14 c85_15 := by kernel_rfl
theorem c85_14e : c85_14 = .skip := by kernel_rfl
theorem c85_15e : c85_15 = .region 4 r85_15 false := by kernel_rfl
theorem c85_16e : c85_16 = .cond (cdC c85_16) c85_17 c85_20 := by kernel_rfl
theorem c85_17e : c85_17 = .seq c85_18 c85_19 := by kernel_rfl
theorem c85_18e : c85_18 = .region 5 r85_18 false := by kernel_rfl
theorem c85_19e : c85_19 = .ret := by kernel_rfl
theorem c85_20e : c85_20 = .seq c85_21 c85_22 := by kernel_rfl
theorem c85_21e : c85_21 = .region 6 r85_21 false := by kernel_rfl
theorem c85_22e : c85_22 = .cond (cdC c85_22) c85_23 c85_26 := by kernel_rfl
theorem c85_23e : c85_23 = .seq c85_24 c85_25 := by kernel_rfl
theorem c85_24e : c85_24 = .region 7 r85_24 false := by kernel_rfl
theorem c85_25e : c85_25 = .ret := by kernel_rfl
theorem c85_26e : c85_26 = .seq c85_27 c85_28 := by kernel_rfl
theorem c85_27e : c85_27 = .region 8 r85_27 false := by kernel_rfl
theorem c85_28e : c85_28 = .cond (cdC c85_28) c85_29 c85_32 := by kernel_rfl
theorem c85_29e : c85_29 = .seq c85_30 c85_31 := by kernel_rfl
theorem c85_30e : c85_30 = .region 9 r85_30 false := by kernel_rfl
theorem c85_31e : c85_31 = .ret := by kernel_rfl
theorem c85_32e : c85_32 = .skip := by kernel_rfl
theorem c85_33e : c85_33 = .seq c85_34 c85_35 := by kernel_rfl
theorem c85_34e : c85_34 = .region 10 r85_34 false := by kernel_rfl
theorem c85_35e : c85_35 = .ret := by kernel_rfl
noncomputable def command_May.R (A_2 : Option Addr) (c_3 : Nat) : Pst Bool where
  ε := Unit
  v := fun r x => .bool r
  H := fun r x => []
  B := fun r x => []
noncomputable def command_May.cx (A_2 : Option Addr) (c_3 : Nat) (w0 : World) (S0 : Fam) : Cx Bool := ⟨Try.prog, 85, Try.f85, 95, w0, S0, [], 0, command_May.R A_2 c_3⟩
theorem command_May_j1_ok (n : Nat) (A_2 : Option Addr) (c_3 : Nat) (w0 : World) (S0 : Fam) (b_13 : Bool) :
    GoO (command_May.cx A_2 c_3 w0 S0) [(2, .bool b_13)] [] [] [.code c85_19, .inBlock 0, .code c85_33] (command_May.j1 n b_13) := by
  unfold command_May.j1
  exact GoO.ret' (h := c85_19e) (hs := []) (ps := []) (hk := []) (bk := []) Try.func85 () (by kernel_rfl) trivial (by kernel_rfl) (by kernel_rfl)
theorem command_May_j2_ok (n : Nat) (A_2 : Option Addr) (c_3 : Nat) (w0 : World) (S0 : Fam) (b_20 : Bool) :
    GoO (command_May.cx A_2 c_3 w0 S0) [(2, .bool b_20)] [] [] [.code c85_25, .inBlock 0, .code c85_33] (command_May.j2 n b_20) := by
  unfold command_May.j2
  exact GoO.ret' (h := c85_25e) (hs := []) (ps := []) (hk := []) (bk := []) Try.func85 () (by kernel_rfl) trivial (by kernel_rfl) (by kernel_rfl)
theorem command_May_j3_ok (n : Nat) (A_2 : Option Addr) (c_3 : Nat) (w0 : World) (S0 : Fam) (b_28 : Bool) :
    GoO (command_May.cx A_2 c_3 w0 S0) [(2, .bool b_28)] [] [] [.code c85_31, .inBlock 0, .code c85_33] (command_May.j3 n b_28) := by
  unfold command_May.j3
  exact GoO.ret' (h := c85_31e) (hs := []) (ps := []) (hk := []) (bk := []) Try.func85 () (by kernel_rfl) trivial (by kernel_rfl) (by kernel_rfl)
theorem command_May_j0_ok (n : Nat) (c_1 : T_api_Command) (A_2 : Option Addr) (c_3 : Nat) (b_4 : Nat) (w0 : World) (S0 : Fam) (b_7 : Bool) :
    GoO (command_May.cx A_2 c_3 w0 S0) [(1, .pointer (some ⟨b_4, 0, none⟩)), (4, .int .i64 c_1.Kind), (5, .bool b_7)] [⟨40, b_4, [.int .i64 c_1.Kind, .int .u64 c_1.Session, .int .u64 c_1.Seq, .int .u64 c_1.Saga, .slice A_2 c_1.Steps.length c_3, .int .i64 c_1.Step, .bool c_1.Back, .int .i64 c_1.Try, .bool c_1.Ok, .int .u64 c_1.Now]⟩] [Rd 0 kT_api_Step A_2 c_3 c_1.Steps] [.code c85_16, .inBlock 0, .code c85_33] (command_May.j0 n c_1 b_7) := by
  unfold command_May.j0
  refine GoO.ite' c85_16e (by kernel_rfl) (fun h8 => ?_) (fun h8 => ?_)
  · refine GoO.seq' c85_17e ?_
    refine GoO.region' (is := [0, 1, 2, 3, 4, 5, 6, 7, 8, 9, 10, 11, 12, 13, 14, 15, 16, 17, 18, 19, 20, 21, 22, 23, 24]) c85_18e (by kernel_rfl) ?_
    refine GoO.exec (is := [0, 1, 2, 3, 4]) (hs := [.p, .b 0, .p, .p, .p]) (rest := [5, 6, 7, 8, 9, 10, 11, 12, 13, 14, 15, 16, 17, 18, 19, 20, 21, 22, 23, 24]) (ks := [1, 13]) (env' := [(1, .pointer (some ⟨b_4, 0, none⟩)), (13, .bool ((c_1.Steps.length : Int) == 0))]) (H' := [⟨40, b_4, [.int .i64 c_1.Kind, .int .u64 c_1.Session, .int .u64 c_1.Seq, .int .u64 c_1.Saga, .slice A_2 c_1.Steps.length c_3, .int .i64 c_1.Step, .bool c_1.Back, .int .i64 c_1.Try, .bool c_1.Ok, .int .u64 c_1.Now]⟩]) (ps := [b_4 = b_4]) (by kernel_rfl) (And.intro rfl trivial) ?_
    refine GoO.bsplit (t := 13) (by kernel_rfl) (fun h9 => ?_) (fun h9 => ?_)
    · refine GoO.exec (is := [5, 6, 7, 8, 9]) (hs := [.p, .b 0, .p, .p, .p]) (rest := [10, 11, 12, 13, 14, 15, 16, 17, 18, 19, 20, 21, 22, 23, 24]) (ks := [1, 18]) (env' := [(1, .pointer (some ⟨b_4, 0, none⟩)), (18, .bool (c_1.Step == 0))]) (H' := [⟨40, b_4, [.int .i64 c_1.Kind, .int .u64 c_1.Session, .int .u64 c_1.Seq, .int .u64 c_1.Saga, .slice A_2 c_1.Steps.length c_3, .int .i64 c_1.Step, .bool c_1.Back, .int .i64 c_1.Try, .bool c_1.Ok, .int .u64 c_1.Now]⟩]) (ps := [b_4 = b_4]) (by kernel_rfl) (And.intro rfl trivial) ?_
      refine GoO.bsplit (t := 18) (by kernel_rfl) (fun h10 => ?_) (fun h10 => ?_)
      · refine GoO.exec (is := [10, 11, 12, 13, 14]) (hs := [.p, .b 0, .p, .p, .p]) (rest := [15, 16, 17, 18, 19, 20, 21, 22, 23, 24]) (ks := [1, 23]) (env' := [(1, .pointer (some ⟨b_4, 0, none⟩)), (23, .bool (!c_1.Back))]) (H' := [⟨40, b_4, [.int .i64 c_1.Kind, .int .u64 c_1.Session, .int .u64 c_1.Seq, .int .u64 c_1.Saga, .slice A_2 c_1.Steps.length c_3, .int .i64 c_1.Step, .bool c_1.Back, .int .i64 c_1.Try, .bool c_1.Ok, .int .u64 c_1.Now]⟩]) (ps := [b_4 = b_4]) (by kernel_rfl) (And.intro rfl trivial) ?_
        refine GoO.bsplit (t := 23) (by kernel_rfl) (fun h11 => ?_) (fun h11 => ?_)
        · refine GoO.exec (is := [15, 16, 17, 18, 19]) (hs := [.p, .b 0, .p, .p, .p]) (rest := [20, 21, 22, 23, 24]) (ks := [1, 28]) (env' := [(1, .pointer (some ⟨b_4, 0, none⟩)), (28, .bool (c_1.Try == 0))]) (H' := [⟨40, b_4, [.int .i64 c_1.Kind, .int .u64 c_1.Session, .int .u64 c_1.Seq, .int .u64 c_1.Saga, .slice A_2 c_1.Steps.length c_3, .int .i64 c_1.Step, .bool c_1.Back, .int .i64 c_1.Try, .bool c_1.Ok, .int .u64 c_1.Now]⟩]) (ps := [b_4 = b_4]) (by kernel_rfl) (And.intro rfl trivial) ?_
          refine GoO.bsplit (t := 28) (by kernel_rfl) (fun h12 => ?_) (fun h12 => ?_)
          · refine GoO.exec (is := [20, 21, 22, 23, 24]) (hs := [.p, .b 0, .p, .p, .p]) (rest := []) (ks := [2]) (env' := [(2, .bool (!c_1.Ok))]) (H' := [⟨40, b_4, [.int .i64 c_1.Kind, .int .u64 c_1.Session, .int .u64 c_1.Seq, .int .u64 c_1.Saga, .slice A_2 c_1.Steps.length c_3, .int .i64 c_1.Step, .bool c_1.Back, .int .i64 c_1.Try, .bool c_1.Ok, .int .u64 c_1.Now]⟩]) (ps := [b_4 = b_4]) (by kernel_rfl) (And.intro rfl trivial) ?_
            refine GoO.regionEnd ?_
            exact GoO.sub (ks := [2]) (hk := []) (bk := []) (by kernel_rfl) (by kernel_rfl) (by kernel_rfl) (command_May_j1_ok n A_2 c_3 w0 S0 (!c_1.Ok))
          · refine GoO.exec (is := [20, 21, 22, 23, 24]) (hs := [.p, .p, .p, .p, .p]) (rest := []) (ks := [2]) (env' := [(2, .bool false)]) (H' := [⟨40, b_4, [.int .i64 c_1.Kind, .int .u64 c_1.Session, .int .u64 c_1.Seq, .int .u64 c_1.Saga, .slice A_2 c_1.Steps.length c_3, .int .i64 c_1.Step, .bool c_1.Back, .int .i64 c_1.Try, .bool c_1.Ok, .int .u64 c_1.Now]⟩]) (ps := []) (by kernel_rfl) trivial ?_
            refine GoO.regionEnd ?_
            exact GoO.sub (ks := [2]) (hk := []) (bk := []) (by kernel_rfl) (by kernel_rfl) (by kernel_rfl) (command_May_j1_ok n A_2 c_3 w0 S0 false)
        · refine GoO.exec (is := [15, 16, 17, 18, 19, 20, 21, 22, 23, 24]) (hs := [.p, .p, .p, .p, .p, .p, .p, .p, .p, .p]) (rest := []) (ks := [2]) (env' := [(2, .bool false)]) (H' := [⟨40, b_4, [.int .i64 c_1.Kind, .int .u64 c_1.Session, .int .u64 c_1.Seq, .int .u64 c_1.Saga, .slice A_2 c_1.Steps.length c_3, .int .i64 c_1.Step, .bool c_1.Back, .int .i64 c_1.Try, .bool c_1.Ok, .int .u64 c_1.Now]⟩]) (ps := []) (by kernel_rfl) trivial ?_
          refine GoO.regionEnd ?_
          exact GoO.sub (ks := [2]) (hk := []) (bk := []) (by kernel_rfl) (by kernel_rfl) (by kernel_rfl) (command_May_j1_ok n A_2 c_3 w0 S0 false)
      · refine GoO.exec (is := [10, 11, 12, 13, 14, 15, 16, 17, 18, 19, 20, 21, 22, 23, 24]) (hs := [.p, .p, .p, .p, .p, .p, .p, .p, .p, .p, .p, .p, .p, .p, .p]) (rest := []) (ks := [2]) (env' := [(2, .bool false)]) (H' := [⟨40, b_4, [.int .i64 c_1.Kind, .int .u64 c_1.Session, .int .u64 c_1.Seq, .int .u64 c_1.Saga, .slice A_2 c_1.Steps.length c_3, .int .i64 c_1.Step, .bool c_1.Back, .int .i64 c_1.Try, .bool c_1.Ok, .int .u64 c_1.Now]⟩]) (ps := []) (by kernel_rfl) trivial ?_
        refine GoO.regionEnd ?_
        exact GoO.sub (ks := [2]) (hk := []) (bk := []) (by kernel_rfl) (by kernel_rfl) (by kernel_rfl) (command_May_j1_ok n A_2 c_3 w0 S0 false)
    · refine GoO.exec (is := [5, 6, 7, 8, 9, 10, 11, 12, 13, 14, 15, 16, 17, 18, 19, 20, 21, 22, 23, 24]) (hs := [.p, .p, .p, .p, .p, .p, .p, .p, .p, .p, .p, .p, .p, .p, .p, .p, .p, .p, .p, .p]) (rest := []) (ks := [2]) (env' := [(2, .bool false)]) (H' := [⟨40, b_4, [.int .i64 c_1.Kind, .int .u64 c_1.Session, .int .u64 c_1.Seq, .int .u64 c_1.Saga, .slice A_2 c_1.Steps.length c_3, .int .i64 c_1.Step, .bool c_1.Back, .int .i64 c_1.Try, .bool c_1.Ok, .int .u64 c_1.Now]⟩]) (ps := []) (by kernel_rfl) trivial ?_
      refine GoO.regionEnd ?_
      exact GoO.sub (ks := [2]) (hk := []) (bk := []) (by kernel_rfl) (by kernel_rfl) (by kernel_rfl) (command_May_j1_ok n A_2 c_3 w0 S0 false)
  · refine GoO.seq' c85_20e ?_
    refine GoO.region' (is := [0, 1]) c85_21e (by kernel_rfl) ?_
    refine GoO.exec (is := [0, 1]) (hs := [.p, .p]) (rest := []) (ks := [1, 4, 33]) (env' := [(1, .pointer (some ⟨b_4, 0, none⟩)), (4, .int .i64 c_1.Kind), (33, .bool (c_1.Kind == 2))]) (H' := [⟨40, b_4, [.int .i64 c_1.Kind, .int .u64 c_1.Session, .int .u64 c_1.Seq, .int .u64 c_1.Saga, .slice A_2 c_1.Steps.length c_3, .int .i64 c_1.Step, .bool c_1.Back, .int .i64 c_1.Try, .bool c_1.Ok, .int .u64 c_1.Now]⟩]) (ps := []) (by kernel_rfl) trivial ?_
    refine GoO.regionEnd ?_
    refine GoO.ite' c85_22e (by kernel_rfl) (fun h14 => ?_) (fun h14 => ?_)
    · refine GoO.seq' c85_23e ?_
      refine GoO.region' (is := [0, 1, 2, 3, 4, 5, 6, 7, 8, 9, 10, 11, 12, 13, 14, 15, 16, 17, 18, 19, 20, 21, 22, 23, 24]) c85_24e (by kernel_rfl) ?_
      refine GoO.exec (is := [0, 1]) (hs := [.p, .b 0]) (rest := [2, 3, 4, 5, 6, 7, 8, 9, 10, 11, 12, 13, 14, 15, 16, 17, 18, 19, 20, 21, 22, 23, 24]) (ks := [1, 36]) (env' := [(1, .pointer (some ⟨b_4, 0, none⟩)), (36, .slice A_2 c_1.Steps.length c_3)]) (H' := [⟨40, b_4, [.int .i64 c_1.Kind, .int .u64 c_1.Session, .int .u64 c_1.Seq, .int .u64 c_1.Saga, .slice A_2 c_1.Steps.length c_3, .int .i64 c_1.Step, .bool c_1.Back, .int .i64 c_1.Try, .bool c_1.Ok, .int .u64 c_1.Now]⟩]) (ps := [b_4 = b_4]) (by kernel_rfl) (And.intro rfl trivial) ?_
      refine OpTo.go (GoO.call rfl (by kernel_rfl) (by kernel_rfl) (plan_Check_ok n c_1.Steps A_2 c_3) [[0]] [] [] [(0, 0)] (hks := [0]) (bks := [0]) (by kernel_rfl) (by kernel_rfl) (by kernel_rfl) (.inl rfl) rfl rfl (by kernel_rfl) (by kernel_rfl) _ (fun _ _ => rfl) _ _ (fun _ _ => rfl) (fun _ _ => rfl) (fun _ _ => by kernel_rfl) (fun _ _ => by kernel_rfl) (fun r_15 x_20 => ?_))
      refine GoO.shape (env' := [(1, .pointer (some ⟨b_4, 0, none⟩)), (36, .slice A_2 c_1.Steps.length c_3), (37, .int .i64 r_15)]) (H' := [⟨40, b_4, [.int .i64 c_1.Kind, .int .u64 c_1.Session, .int .u64 c_1.Seq, .int .u64 c_1.Saga, .slice A_2 c_1.Steps.length c_3, .int .i64 c_1.Step, .bool c_1.Back, .int .i64 c_1.Try, .bool c_1.Ok, .int .u64 c_1.Now]⟩]) (B' := [Rd 0 kT_api_Step A_2 c_3 c_1.Steps]) (ks := [1, 36, 37]) (by kernel_rfl) (by kernel_rfl) (by kernel_rfl) ?_
      refine GoO.exec (is := [3, 4]) (hs := [.p, .p]) (rest := [5, 6, 7, 8, 9, 10, 11, 12, 13, 14, 15, 16, 17, 18, 19, 20, 21, 22, 23, 24]) (ks := [1, 39]) (env' := [(1, .pointer (some ⟨b_4, 0, none⟩)), (39, .bool (r_15 == 0))]) (H' := [⟨40, b_4, [.int .i64 c_1.Kind, .int .u64 c_1.Session, .int .u64 c_1.Seq, .int .u64 c_1.Saga, .slice A_2 c_1.Steps.length c_3, .int .i64 c_1.Step, .bool c_1.Back, .int .i64 c_1.Try, .bool c_1.Ok, .int .u64 c_1.Now]⟩]) (ps := []) (by kernel_rfl) trivial ?_
      refine GoO.bsplit (t := 39) (by kernel_rfl) (fun h16 => ?_) (fun h16 => ?_)
      · refine GoO.exec (is := [5, 6, 7, 8, 9]) (hs := [.p, .b 0, .p, .p, .p]) (rest := [10, 11, 12, 13, 14, 15, 16, 17, 18, 19, 20, 21, 22, 23, 24]) (ks := [1, 44]) (env' := [(1, .pointer (some ⟨b_4, 0, none⟩)), (44, .bool (c_1.Step == 0))]) (H' := [⟨40, b_4, [.int .i64 c_1.Kind, .int .u64 c_1.Session, .int .u64 c_1.Seq, .int .u64 c_1.Saga, .slice A_2 c_1.Steps.length c_3, .int .i64 c_1.Step, .bool c_1.Back, .int .i64 c_1.Try, .bool c_1.Ok, .int .u64 c_1.Now]⟩]) (ps := [b_4 = b_4]) (by kernel_rfl) (And.intro rfl trivial) ?_
        refine GoO.bsplit (t := 44) (by kernel_rfl) (fun h17 => ?_) (fun h17 => ?_)
        · refine GoO.exec (is := [10, 11, 12, 13, 14]) (hs := [.p, .b 0, .p, .p, .p]) (rest := [15, 16, 17, 18, 19, 20, 21, 22, 23, 24]) (ks := [1, 49]) (env' := [(1, .pointer (some ⟨b_4, 0, none⟩)), (49, .bool (!c_1.Back))]) (H' := [⟨40, b_4, [.int .i64 c_1.Kind, .int .u64 c_1.Session, .int .u64 c_1.Seq, .int .u64 c_1.Saga, .slice A_2 c_1.Steps.length c_3, .int .i64 c_1.Step, .bool c_1.Back, .int .i64 c_1.Try, .bool c_1.Ok, .int .u64 c_1.Now]⟩]) (ps := [b_4 = b_4]) (by kernel_rfl) (And.intro rfl trivial) ?_
          refine GoO.bsplit (t := 49) (by kernel_rfl) (fun h18 => ?_) (fun h18 => ?_)
          · refine GoO.exec (is := [15, 16, 17, 18, 19]) (hs := [.p, .b 0, .p, .p, .p]) (rest := [20, 21, 22, 23, 24]) (ks := [1, 54]) (env' := [(1, .pointer (some ⟨b_4, 0, none⟩)), (54, .bool (c_1.Try == 0))]) (H' := [⟨40, b_4, [.int .i64 c_1.Kind, .int .u64 c_1.Session, .int .u64 c_1.Seq, .int .u64 c_1.Saga, .slice A_2 c_1.Steps.length c_3, .int .i64 c_1.Step, .bool c_1.Back, .int .i64 c_1.Try, .bool c_1.Ok, .int .u64 c_1.Now]⟩]) (ps := [b_4 = b_4]) (by kernel_rfl) (And.intro rfl trivial) ?_
            refine GoO.bsplit (t := 54) (by kernel_rfl) (fun h19 => ?_) (fun h19 => ?_)
            · refine GoO.exec (is := [20, 21, 22, 23, 24]) (hs := [.p, .b 0, .p, .p, .p]) (rest := []) (ks := [2]) (env' := [(2, .bool (!c_1.Ok))]) (H' := [⟨40, b_4, [.int .i64 c_1.Kind, .int .u64 c_1.Session, .int .u64 c_1.Seq, .int .u64 c_1.Saga, .slice A_2 c_1.Steps.length c_3, .int .i64 c_1.Step, .bool c_1.Back, .int .i64 c_1.Try, .bool c_1.Ok, .int .u64 c_1.Now]⟩]) (ps := [b_4 = b_4]) (by kernel_rfl) (And.intro rfl trivial) ?_
              refine GoO.regionEnd ?_
              exact GoO.sub (ks := [2]) (hk := []) (bk := []) (by kernel_rfl) (by kernel_rfl) (by kernel_rfl) (command_May_j2_ok n A_2 c_3 w0 S0 (!c_1.Ok))
            · refine GoO.exec (is := [20, 21, 22, 23, 24]) (hs := [.p, .p, .p, .p, .p]) (rest := []) (ks := [2]) (env' := [(2, .bool false)]) (H' := [⟨40, b_4, [.int .i64 c_1.Kind, .int .u64 c_1.Session, .int .u64 c_1.Seq, .int .u64 c_1.Saga, .slice A_2 c_1.Steps.length c_3, .int .i64 c_1.Step, .bool c_1.Back, .int .i64 c_1.Try, .bool c_1.Ok, .int .u64 c_1.Now]⟩]) (ps := []) (by kernel_rfl) trivial ?_
              refine GoO.regionEnd ?_
              exact GoO.sub (ks := [2]) (hk := []) (bk := []) (by kernel_rfl) (by kernel_rfl) (by kernel_rfl) (command_May_j2_ok n A_2 c_3 w0 S0 false)
          · refine GoO.exec (is := [15, 16, 17, 18, 19, 20, 21, 22, 23, 24]) (hs := [.p, .p, .p, .p, .p, .p, .p, .p, .p, .p]) (rest := []) (ks := [2]) (env' := [(2, .bool false)]) (H' := [⟨40, b_4, [.int .i64 c_1.Kind, .int .u64 c_1.Session, .int .u64 c_1.Seq, .int .u64 c_1.Saga, .slice A_2 c_1.Steps.length c_3, .int .i64 c_1.Step, .bool c_1.Back, .int .i64 c_1.Try, .bool c_1.Ok, .int .u64 c_1.Now]⟩]) (ps := []) (by kernel_rfl) trivial ?_
            refine GoO.regionEnd ?_
            exact GoO.sub (ks := [2]) (hk := []) (bk := []) (by kernel_rfl) (by kernel_rfl) (by kernel_rfl) (command_May_j2_ok n A_2 c_3 w0 S0 false)
        · refine GoO.exec (is := [10, 11, 12, 13, 14, 15, 16, 17, 18, 19, 20, 21, 22, 23, 24]) (hs := [.p, .p, .p, .p, .p, .p, .p, .p, .p, .p, .p, .p, .p, .p, .p]) (rest := []) (ks := [2]) (env' := [(2, .bool false)]) (H' := [⟨40, b_4, [.int .i64 c_1.Kind, .int .u64 c_1.Session, .int .u64 c_1.Seq, .int .u64 c_1.Saga, .slice A_2 c_1.Steps.length c_3, .int .i64 c_1.Step, .bool c_1.Back, .int .i64 c_1.Try, .bool c_1.Ok, .int .u64 c_1.Now]⟩]) (ps := []) (by kernel_rfl) trivial ?_
          refine GoO.regionEnd ?_
          exact GoO.sub (ks := [2]) (hk := []) (bk := []) (by kernel_rfl) (by kernel_rfl) (by kernel_rfl) (command_May_j2_ok n A_2 c_3 w0 S0 false)
      · refine GoO.exec (is := [5, 6, 7, 8, 9, 10, 11, 12, 13, 14, 15, 16, 17, 18, 19, 20, 21, 22, 23, 24]) (hs := [.p, .p, .p, .p, .p, .p, .p, .p, .p, .p, .p, .p, .p, .p, .p, .p, .p, .p, .p, .p]) (rest := []) (ks := [2]) (env' := [(2, .bool false)]) (H' := [⟨40, b_4, [.int .i64 c_1.Kind, .int .u64 c_1.Session, .int .u64 c_1.Seq, .int .u64 c_1.Saga, .slice A_2 c_1.Steps.length c_3, .int .i64 c_1.Step, .bool c_1.Back, .int .i64 c_1.Try, .bool c_1.Ok, .int .u64 c_1.Now]⟩]) (ps := []) (by kernel_rfl) trivial ?_
        refine GoO.regionEnd ?_
        exact GoO.sub (ks := [2]) (hk := []) (bk := []) (by kernel_rfl) (by kernel_rfl) (by kernel_rfl) (command_May_j2_ok n A_2 c_3 w0 S0 false)
    · refine GoO.seq' c85_26e ?_
      refine GoO.region' (is := [0, 1]) c85_27e (by kernel_rfl) ?_
      refine GoO.exec (is := [0, 1]) (hs := [.p, .p]) (rest := []) (ks := [1, 59]) (env' := [(1, .pointer (some ⟨b_4, 0, none⟩)), (59, .bool (c_1.Kind == 4))]) (H' := [⟨40, b_4, [.int .i64 c_1.Kind, .int .u64 c_1.Session, .int .u64 c_1.Seq, .int .u64 c_1.Saga, .slice A_2 c_1.Steps.length c_3, .int .i64 c_1.Step, .bool c_1.Back, .int .i64 c_1.Try, .bool c_1.Ok, .int .u64 c_1.Now]⟩]) (ps := []) (by kernel_rfl) trivial ?_
      refine GoO.regionEnd ?_
      refine GoO.ite' c85_28e (by kernel_rfl) (fun h21 => ?_) (fun h21 => ?_)
      · refine GoO.seq' c85_29e ?_
        refine GoO.region' (is := [0, 1, 2, 3, 4, 5, 6, 7, 8, 9, 10, 11, 12, 13, 14, 15, 16, 17, 18, 19, 20, 21, 22, 23, 24, 25, 26, 27, 28, 29, 30, 31, 32, 33, 34]) c85_30e (by kernel_rfl) ?_
        refine GoO.exec (is := [0, 1, 2, 3, 4]) (hs := [.p, .b 0, .p, .p, .p]) (rest := [5, 6, 7, 8, 9, 10, 11, 12, 13, 14, 15, 16, 17, 18, 19, 20, 21, 22, 23, 24, 25, 26, 27, 28, 29, 30, 31, 32, 33, 34]) (ks := [1, 65]) (env' := [(1, .pointer (some ⟨b_4, 0, none⟩)), (65, .bool ((c_1.Steps.length : Int) == 0))]) (H' := [⟨40, b_4, [.int .i64 c_1.Kind, .int .u64 c_1.Session, .int .u64 c_1.Seq, .int .u64 c_1.Saga, .slice A_2 c_1.Steps.length c_3, .int .i64 c_1.Step, .bool c_1.Back, .int .i64 c_1.Try, .bool c_1.Ok, .int .u64 c_1.Now]⟩]) (ps := [b_4 = b_4]) (by kernel_rfl) (And.intro rfl trivial) ?_
        refine GoO.bsplit (t := 65) (by kernel_rfl) (fun h22 => ?_) (fun h22 => ?_)
        · refine GoO.exec (is := [5, 6, 7, 8, 9]) (hs := [.p, .b 0, .p, .p, .p]) (rest := [10, 11, 12, 13, 14, 15, 16, 17, 18, 19, 20, 21, 22, 23, 24, 25, 26, 27, 28, 29, 30, 31, 32, 33, 34]) (ks := [1, 70]) (env' := [(1, .pointer (some ⟨b_4, 0, none⟩)), (70, .bool (decide (c_1.Step ≥ 0)))]) (H' := [⟨40, b_4, [.int .i64 c_1.Kind, .int .u64 c_1.Session, .int .u64 c_1.Seq, .int .u64 c_1.Saga, .slice A_2 c_1.Steps.length c_3, .int .i64 c_1.Step, .bool c_1.Back, .int .i64 c_1.Try, .bool c_1.Ok, .int .u64 c_1.Now]⟩]) (ps := [b_4 = b_4]) (by kernel_rfl) (And.intro rfl trivial) ?_
          refine GoO.bsplit (t := 70) (by kernel_rfl) (fun h23 => ?_) (fun h23 => ?_)
          · refine GoO.exec (is := [10, 11, 12, 13, 14]) (hs := [.p, .b 0, .p, .p, .p]) (rest := [15, 16, 17, 18, 19, 20, 21, 22, 23, 24, 25, 26, 27, 28, 29, 30, 31, 32, 33, 34]) (ks := [1, 75]) (env' := [(1, .pointer (some ⟨b_4, 0, none⟩)), (75, .bool (decide (c_1.Step < 64)))]) (H' := [⟨40, b_4, [.int .i64 c_1.Kind, .int .u64 c_1.Session, .int .u64 c_1.Seq, .int .u64 c_1.Saga, .slice A_2 c_1.Steps.length c_3, .int .i64 c_1.Step, .bool c_1.Back, .int .i64 c_1.Try, .bool c_1.Ok, .int .u64 c_1.Now]⟩]) (ps := [b_4 = b_4]) (by kernel_rfl) (And.intro rfl trivial) ?_
            refine GoO.bsplit (t := 75) (by kernel_rfl) (fun h24 => ?_) (fun h24 => ?_)
            · refine GoO.exec (is := [15, 16, 17, 18, 19]) (hs := [.p, .b 0, .p, .p, .p]) (rest := [20, 21, 22, 23, 24, 25, 26, 27, 28, 29, 30, 31, 32, 33, 34]) (ks := [1, 80]) (env' := [(1, .pointer (some ⟨b_4, 0, none⟩)), (80, .bool (decide (c_1.Try ≥ 0)))]) (H' := [⟨40, b_4, [.int .i64 c_1.Kind, .int .u64 c_1.Session, .int .u64 c_1.Seq, .int .u64 c_1.Saga, .slice A_2 c_1.Steps.length c_3, .int .i64 c_1.Step, .bool c_1.Back, .int .i64 c_1.Try, .bool c_1.Ok, .int .u64 c_1.Now]⟩]) (ps := [b_4 = b_4]) (by kernel_rfl) (And.intro rfl trivial) ?_
              refine GoO.bsplit (t := 80) (by kernel_rfl) (fun h25 => ?_) (fun h25 => ?_)
              · refine GoO.exec (is := [20, 21, 22, 23, 24]) (hs := [.p, .b 0, .p, .p, .p]) (rest := [25, 26, 27, 28, 29, 30, 31, 32, 33, 34]) (ks := [1, 85]) (env' := [(1, .pointer (some ⟨b_4, 0, none⟩)), (85, .bool (decide (c_1.Try < 9)))]) (H' := [⟨40, b_4, [.int .i64 c_1.Kind, .int .u64 c_1.Session, .int .u64 c_1.Seq, .int .u64 c_1.Saga, .slice A_2 c_1.Steps.length c_3, .int .i64 c_1.Step, .bool c_1.Back, .int .i64 c_1.Try, .bool c_1.Ok, .int .u64 c_1.Now]⟩]) (ps := [b_4 = b_4]) (by kernel_rfl) (And.intro rfl trivial) ?_
                refine GoO.bsplit (t := 85) (by kernel_rfl) (fun h26 => ?_) (fun h26 => ?_)
                · refine GoO.exec (is := [25, 26, 27, 28, 29]) (hs := [.p, .b 0, .p, .p, .p]) (rest := [30, 31, 32, 33, 34]) (ks := [1, 90]) (env' := [(1, .pointer (some ⟨b_4, 0, none⟩)), (90, .bool (c_1.Session == 0))]) (H' := [⟨40, b_4, [.int .i64 c_1.Kind, .int .u64 c_1.Session, .int .u64 c_1.Seq, .int .u64 c_1.Saga, .slice A_2 c_1.Steps.length c_3, .int .i64 c_1.Step, .bool c_1.Back, .int .i64 c_1.Try, .bool c_1.Ok, .int .u64 c_1.Now]⟩]) (ps := [b_4 = b_4]) (by kernel_rfl) (And.intro rfl trivial) ?_
                  refine GoO.bsplit (t := 90) (by kernel_rfl) (fun h27 => ?_) (fun h27 => ?_)
                  · refine GoO.exec (is := [30, 31, 32, 33, 34]) (hs := [.p, .b 0, .p, .p, .p]) (rest := []) (ks := [2]) (env' := [(2, .bool (c_1.Seq == 0))]) (H' := [⟨40, b_4, [.int .i64 c_1.Kind, .int .u64 c_1.Session, .int .u64 c_1.Seq, .int .u64 c_1.Saga, .slice A_2 c_1.Steps.length c_3, .int .i64 c_1.Step, .bool c_1.Back, .int .i64 c_1.Try, .bool c_1.Ok, .int .u64 c_1.Now]⟩]) (ps := [b_4 = b_4]) (by kernel_rfl) (And.intro rfl trivial) ?_
                    refine GoO.regionEnd ?_
                    exact GoO.sub (ks := [2]) (hk := []) (bk := []) (by kernel_rfl) (by kernel_rfl) (by kernel_rfl) (command_May_j3_ok n A_2 c_3 w0 S0 (c_1.Seq == 0))
                  · refine GoO.exec (is := [30, 31, 32, 33, 34]) (hs := [.p, .p, .p, .p, .p]) (rest := []) (ks := [2]) (env' := [(2, .bool false)]) (H' := [⟨40, b_4, [.int .i64 c_1.Kind, .int .u64 c_1.Session, .int .u64 c_1.Seq, .int .u64 c_1.Saga, .slice A_2 c_1.Steps.length c_3, .int .i64 c_1.Step, .bool c_1.Back, .int .i64 c_1.Try, .bool c_1.Ok, .int .u64 c_1.Now]⟩]) (ps := []) (by kernel_rfl) trivial ?_
                    refine GoO.regionEnd ?_
                    exact GoO.sub (ks := [2]) (hk := []) (bk := []) (by kernel_rfl) (by kernel_rfl) (by kernel_rfl) (command_May_j3_ok n A_2 c_3 w0 S0 false)
                · refine GoO.exec (is := [25, 26, 27, 28, 29, 30, 31, 32, 33, 34]) (hs := [.p, .p, .p, .p, .p, .p, .p, .p, .p, .p]) (rest := []) (ks := [2]) (env' := [(2, .bool false)]) (H' := [⟨40, b_4, [.int .i64 c_1.Kind, .int .u64 c_1.Session, .int .u64 c_1.Seq, .int .u64 c_1.Saga, .slice A_2 c_1.Steps.length c_3, .int .i64 c_1.Step, .bool c_1.Back, .int .i64 c_1.Try, .bool c_1.Ok, .int .u64 c_1.Now]⟩]) (ps := []) (by kernel_rfl) trivial ?_
                  refine GoO.regionEnd ?_
                  exact GoO.sub (ks := [2]) (hk := []) (bk := []) (by kernel_rfl) (by kernel_rfl) (by kernel_rfl) (command_May_j3_ok n A_2 c_3 w0 S0 false)
              · refine GoO.exec (is := [20, 21, 22, 23, 24, 25, 26, 27, 28, 29, 30, 31, 32, 33, 34]) (hs := [.p, .p, .p, .p, .p, .p, .p, .p, .p, .p, .p, .p, .p, .p, .p]) (rest := []) (ks := [2]) (env' := [(2, .bool false)]) (H' := [⟨40, b_4, [.int .i64 c_1.Kind, .int .u64 c_1.Session, .int .u64 c_1.Seq, .int .u64 c_1.Saga, .slice A_2 c_1.Steps.length c_3, .int .i64 c_1.Step, .bool c_1.Back, .int .i64 c_1.Try, .bool c_1.Ok, .int .u64 c_1.Now]⟩]) (ps := []) (by kernel_rfl) trivial ?_
                refine GoO.regionEnd ?_
                exact GoO.sub (ks := [2]) (hk := []) (bk := []) (by kernel_rfl) (by kernel_rfl) (by kernel_rfl) (command_May_j3_ok n A_2 c_3 w0 S0 false)
            · refine GoO.exec (is := [15, 16, 17, 18, 19, 20, 21, 22, 23, 24, 25, 26, 27, 28, 29, 30, 31, 32, 33, 34]) (hs := [.p, .p, .p, .p, .p, .p, .p, .p, .p, .p, .p, .p, .p, .p, .p, .p, .p, .p, .p, .p]) (rest := []) (ks := [2]) (env' := [(2, .bool false)]) (H' := [⟨40, b_4, [.int .i64 c_1.Kind, .int .u64 c_1.Session, .int .u64 c_1.Seq, .int .u64 c_1.Saga, .slice A_2 c_1.Steps.length c_3, .int .i64 c_1.Step, .bool c_1.Back, .int .i64 c_1.Try, .bool c_1.Ok, .int .u64 c_1.Now]⟩]) (ps := []) (by kernel_rfl) trivial ?_
              refine GoO.regionEnd ?_
              exact GoO.sub (ks := [2]) (hk := []) (bk := []) (by kernel_rfl) (by kernel_rfl) (by kernel_rfl) (command_May_j3_ok n A_2 c_3 w0 S0 false)
          · refine GoO.exec (is := [10, 11, 12, 13, 14, 15, 16, 17, 18, 19, 20, 21, 22, 23, 24, 25, 26, 27, 28, 29, 30, 31, 32, 33, 34]) (hs := [.p, .p, .p, .p, .p, .p, .p, .p, .p, .p, .p, .p, .p, .p, .p, .p, .p, .p, .p, .p, .p, .p, .p, .p, .p]) (rest := []) (ks := [2]) (env' := [(2, .bool false)]) (H' := [⟨40, b_4, [.int .i64 c_1.Kind, .int .u64 c_1.Session, .int .u64 c_1.Seq, .int .u64 c_1.Saga, .slice A_2 c_1.Steps.length c_3, .int .i64 c_1.Step, .bool c_1.Back, .int .i64 c_1.Try, .bool c_1.Ok, .int .u64 c_1.Now]⟩]) (ps := []) (by kernel_rfl) trivial ?_
            refine GoO.regionEnd ?_
            exact GoO.sub (ks := [2]) (hk := []) (bk := []) (by kernel_rfl) (by kernel_rfl) (by kernel_rfl) (command_May_j3_ok n A_2 c_3 w0 S0 false)
        · refine GoO.exec (is := [5, 6, 7, 8, 9, 10, 11, 12, 13, 14, 15, 16, 17, 18, 19, 20, 21, 22, 23, 24, 25, 26, 27, 28, 29, 30, 31, 32, 33, 34]) (hs := [.p, .p, .p, .p, .p, .p, .p, .p, .p, .p, .p, .p, .p, .p, .p, .p, .p, .p, .p, .p, .p, .p, .p, .p, .p, .p, .p, .p, .p, .p]) (rest := []) (ks := [2]) (env' := [(2, .bool false)]) (H' := [⟨40, b_4, [.int .i64 c_1.Kind, .int .u64 c_1.Session, .int .u64 c_1.Seq, .int .u64 c_1.Saga, .slice A_2 c_1.Steps.length c_3, .int .i64 c_1.Step, .bool c_1.Back, .int .i64 c_1.Try, .bool c_1.Ok, .int .u64 c_1.Now]⟩]) (ps := []) (by kernel_rfl) trivial ?_
          refine GoO.regionEnd ?_
          exact GoO.sub (ks := [2]) (hk := []) (bk := []) (by kernel_rfl) (by kernel_rfl) (by kernel_rfl) (command_May_j3_ok n A_2 c_3 w0 S0 false)
      · refine GoO.skip' c85_32e ?_
        refine GoO.inBlock ?_
        refine GoO.seq' c85_33e ?_
        refine GoO.region' (is := [0]) c85_34e (by kernel_rfl) ?_
        refine GoO.exec (is := [0]) (hs := [.p]) (rest := []) (ks := [2]) (env' := [(2, .bool false)]) (H' := [⟨40, b_4, [.int .i64 c_1.Kind, .int .u64 c_1.Session, .int .u64 c_1.Seq, .int .u64 c_1.Saga, .slice A_2 c_1.Steps.length c_3, .int .i64 c_1.Step, .bool c_1.Back, .int .i64 c_1.Try, .bool c_1.Ok, .int .u64 c_1.Now]⟩]) (ps := []) (by kernel_rfl) trivial ?_
        refine GoO.regionEnd ?_
        exact GoO.ret' (h := c85_35e) (hs := []) (ps := []) (hk := []) (bk := []) Try.func85 () (by kernel_rfl) trivial (by kernel_rfl) (by kernel_rfl)
theorem command_May_ok (n : Nat) (c_1 : T_api_Command) (A_2 : Option Addr) (c_3 : Nat) :
    Meets Try.prog 85 [.agg ⟨[.int .i64 c_1.Kind, .int .u64 c_1.Session, .int .u64 c_1.Seq, .int .u64 c_1.Saga, .slice A_2 c_1.Steps.length c_3, .int .i64 c_1.Step, .bool c_1.Back, .int .i64 c_1.Try, .bool c_1.Ok, .int .u64 c_1.Now]⟩] 0 [] [] [Rd 0 kT_api_Step A_2 c_3 c_1.Steps] (command_May.f n c_1) (command_May.R A_2 c_3) := by
  refine Meets.of (c := c85_0) (n := 95) Try.func85 (by kernel_rfl) (by kernel_rfl) (by kernel_rfl) fun w0 S0 => ?_
  unfold command_May.f
  show GoO (command_May.cx A_2 c_3 w0 S0) [(0, .agg ⟨[.int .i64 c_1.Kind, .int .u64 c_1.Session, .int .u64 c_1.Seq, .int .u64 c_1.Saga, .slice A_2 c_1.Steps.length c_3, .int .i64 c_1.Step, .bool c_1.Back, .int .i64 c_1.Try, .bool c_1.Ok, .int .u64 c_1.Now]⟩)] [] [Rd 0 kT_api_Step A_2 c_3 c_1.Steps] [.code c85_0] _
  refine GoO.seq' c85_0e ?_
  refine GoO.region' (is := [0, 1]) c85_1e (by kernel_rfl) ?_
  refine OpTo.go (GoO.new rfl 40 (cs := [.int .i64 c_1.Kind, .int .u64 c_1.Session, .int .u64 c_1.Seq, .int .u64 c_1.Saga, .slice A_2 c_1.Steps.length c_3, .int .i64 c_1.Step, .bool c_1.Back, .int .i64 c_1.Try, .bool c_1.Ok, .int .u64 c_1.Now]) (by kernel_rfl) _ (fun _ => rfl) (fun b_4 => ?_))
  refine GoO.exec (is := [1]) (hs := [.p]) (rest := []) (ks := [1]) (env' := [(1, .pointer (some ⟨b_4, 0, none⟩))]) (H' := [⟨40, b_4, [.int .i64 c_1.Kind, .int .u64 c_1.Session, .int .u64 c_1.Seq, .int .u64 c_1.Saga, .slice A_2 c_1.Steps.length c_3, .int .i64 c_1.Step, .bool c_1.Back, .int .i64 c_1.Try, .bool c_1.Ok, .int .u64 c_1.Now]⟩]) (ps := []) (by kernel_rfl) trivial ?_
  refine GoO.regionEnd ?_
  refine GoO.seq' c85_2e ?_
  refine GoO.seq' c85_3e ?_
  refine GoO.region' (is := [0, 1]) c85_4e (by kernel_rfl) ?_
  refine GoO.exec (is := [0, 1]) (hs := [.p, .b 0]) (rest := []) (ks := [1, 4]) (env' := [(1, .pointer (some ⟨b_4, 0, none⟩)), (4, .int .i64 c_1.Kind)]) (H' := [⟨40, b_4, [.int .i64 c_1.Kind, .int .u64 c_1.Session, .int .u64 c_1.Seq, .int .u64 c_1.Saga, .slice A_2 c_1.Steps.length c_3, .int .i64 c_1.Step, .bool c_1.Back, .int .i64 c_1.Try, .bool c_1.Ok, .int .u64 c_1.Now]⟩]) (ps := [b_4 = b_4]) (by kernel_rfl) (And.intro rfl trivial) ?_
  refine GoO.regionEnd ?_
  refine GoO.block' c85_5e ?_
  refine GoO.seq' c85_6e ?_
  refine GoO.seq' c85_7e ?_
  refine GoO.region' (is := [0, 1]) c85_8e (by kernel_rfl) ?_
  refine GoO.exec (is := [0, 1]) (hs := [.p, .p]) (rest := []) (ks := [1, 4, 5]) (env' := [(1, .pointer (some ⟨b_4, 0, none⟩)), (4, .int .i64 c_1.Kind), (5, .bool (c_1.Kind == 1))]) (H' := [⟨40, b_4, [.int .i64 c_1.Kind, .int .u64 c_1.Session, .int .u64 c_1.Seq, .int .u64 c_1.Saga, .slice A_2 c_1.Steps.length c_3, .int .i64 c_1.Step, .bool c_1.Back, .int .i64 c_1.Try, .bool c_1.Ok, .int .u64 c_1.Now]⟩]) (ps := []) (by kernel_rfl) trivial ?_
  refine GoO.regionEnd ?_
  refine GoO.ite' c85_9e (by kernel_rfl) (fun h5 => ?_) (fun h5 => ?_)
  · refine GoO.skip' c85_10e ?_
    exact GoO.sub (ks := [1, 4, 5]) (hk := [0]) (bk := [0]) (by kernel_rfl) (by kernel_rfl) (by kernel_rfl) (command_May_j0_ok n c_1 A_2 c_3 b_4 w0 S0 (c_1.Kind == 1))
  · refine GoO.seq' c85_11e ?_
    refine GoO.region' (is := [0, 1]) c85_12e (by kernel_rfl) ?_
    refine GoO.exec (is := [0, 1]) (hs := [.p, .p]) (rest := []) (ks := [1, 4, 5]) (env' := [(1, .pointer (some ⟨b_4, 0, none⟩)), (4, .int .i64 c_1.Kind), (5, .bool (c_1.Kind == 3))]) (H' := [⟨40, b_4, [.int .i64 c_1.Kind, .int .u64 c_1.Session, .int .u64 c_1.Seq, .int .u64 c_1.Saga, .slice A_2 c_1.Steps.length c_3, .int .i64 c_1.Step, .bool c_1.Back, .int .i64 c_1.Try, .bool c_1.Ok, .int .u64 c_1.Now]⟩]) (ps := []) (by kernel_rfl) trivial ?_
    refine GoO.regionEnd ?_
    refine GoO.ite' c85_13e (by kernel_rfl) (fun h6 => ?_) (fun h6 => ?_)
    · refine GoO.skip' c85_14e ?_
      exact GoO.sub (ks := [1, 4, 5]) (hk := [0]) (bk := [0]) (by kernel_rfl) (by kernel_rfl) (by kernel_rfl) (command_May_j0_ok n c_1 A_2 c_3 b_4 w0 S0 (c_1.Kind == 3))
    · refine GoO.region' (is := [0, 1]) c85_15e (by kernel_rfl) ?_
      refine GoO.exec (is := [0, 1]) (hs := [.p, .p]) (rest := []) (ks := [1, 4, 5]) (env' := [(1, .pointer (some ⟨b_4, 0, none⟩)), (4, .int .i64 c_1.Kind), (5, .bool (c_1.Kind == 5))]) (H' := [⟨40, b_4, [.int .i64 c_1.Kind, .int .u64 c_1.Session, .int .u64 c_1.Seq, .int .u64 c_1.Saga, .slice A_2 c_1.Steps.length c_3, .int .i64 c_1.Step, .bool c_1.Back, .int .i64 c_1.Try, .bool c_1.Ok, .int .u64 c_1.Now]⟩]) (ps := []) (by kernel_rfl) trivial ?_
      refine GoO.regionEnd ?_
      exact GoO.sub (ks := [1, 4, 5]) (hk := [0]) (bk := [0]) (by kernel_rfl) (by kernel_rfl) (by kernel_rfl) (command_May_j0_ok n c_1 A_2 c_3 b_4 w0 S0 (c_1.Kind == 5))

/-! (*tontine/pack.Writer).Num -/
noncomputable def c75_0 : Code := bodyOf Try.f75
noncomputable def c75_1 : Code := cdL c75_0
noncomputable def c75_2 : Code := cdR c75_0
noncomputable def c75_3 : Code := cdL c75_2
noncomputable def c75_4 : Code := cdL c75_3
noncomputable def c75_5 : Code := cdR c75_3
noncomputable def c75_9 : Code := cdR c75_5
noncomputable def c75_10 : Code := cdR c75_2
noncomputable def c75_11 : Code := cdL c75_10
noncomputable def c75_12 : Code := cdR c75_10
noncomputable def c75_13 : Code := cdL c75_12
noncomputable def c75_14 : Code := cdL c75_13
noncomputable def c75_15 : Code := cdR c75_13
noncomputable def c75_16 : Code := cdL c75_15
noncomputable def c75_17 : Code := cdL c75_16
noncomputable def c75_18 : Code := cdL c75_17
noncomputable def c75_19 : Code := cdL c75_18
noncomputable def c75_20 : Code := cdR c75_18
noncomputable def c75_21 : Code := cdL c75_20
noncomputable def c75_22 : Code := cdR c75_20
noncomputable def c75_23 : Code := cdR c75_17
noncomputable def c75_24 : Code := cdL c75_23
noncomputable def c75_25 : Code := cdL c75_24
noncomputable def c75_26 : Code := cdR c75_23
noncomputable def c75_27 : Code := cdR c75_12
noncomputable def c75_28 : Code := cdL c75_27
noncomputable def c75_29 : Code := cdR c75_27
noncomputable def c75_30 : Code := cdL c75_29
noncomputable def c75_31 : Code := cdL c75_30
noncomputable def c75_32 : Code := cdR c75_30
noncomputable def c75_33 : Code := cdL c75_32
noncomputable def c75_34 : Code := cdL c75_33
noncomputable def c75_35 : Code := cdL c75_34
noncomputable def c75_36 : Code := cdL c75_35
noncomputable def c75_37 : Code := cdR c75_35
noncomputable def c75_38 : Code := cdL c75_37
noncomputable def c75_39 : Code := cdR c75_37
noncomputable def c75_40 : Code := cdR c75_34
noncomputable def c75_41 : Code := cdL c75_40
noncomputable def c75_42 : Code := cdL c75_41
noncomputable def c75_43 : Code := cdR c75_40
noncomputable def c75_44 : Code := cdR c75_29
noncomputable def c75_45 : Code := cdL c75_44
noncomputable def c75_46 : Code := cdR c75_44
noncomputable def c75_6 : Code := cdL c75_5
noncomputable def r75_1 : Array Oper := cdO c75_1
noncomputable def r75_4 : Array Oper := cdO c75_4
noncomputable def r75_11 : Array Oper := cdO c75_11
noncomputable def r75_14 : Array Oper := cdO c75_14
noncomputable def r75_19 : Array Oper := cdO c75_19
noncomputable def r75_25 : Array Oper := cdO c75_25
noncomputable def r75_26 : Array Oper := cdO c75_26
noncomputable def r75_28 : Array Oper := cdO c75_28
noncomputable def r75_31 : Array Oper := cdO c75_31
noncomputable def r75_36 : Array Oper := cdO c75_36
noncomputable def r75_42 : Array Oper := cdO c75_42
noncomputable def r75_43 : Array Oper := cdO c75_43
noncomputable def r75_45 : Array Oper := cdO c75_45
theorem c75_0e : c75_0 = .seq c75_1 c75_2 := by kernel_rfl
theorem c75_1e : c75_1 = .region 0 r75_1 false := by kernel_rfl
theorem c75_2e : c75_2 = .seq c75_3 c75_10 := by kernel_rfl
theorem c75_3e : c75_3 = .seq c75_4 c75_5 := by kernel_rfl
theorem c75_4e : c75_4 = .region 1 r75_4 false := by kernel_rfl
theorem c75_5e : c75_5 = .cond (cdC c75_5) c75_6 c75_9 := by kernel_rfl
theorem c75_9e : c75_9 = .skip := by kernel_rfl
theorem c75_10e : c75_10 = .seq c75_11 c75_12 := by kernel_rfl
theorem c75_11e : c75_11 = .region 3 r75_11 false := by kernel_rfl
theorem c75_12e : c75_12 = .seq c75_13 c75_27 := by kernel_rfl
theorem c75_13e : c75_13 = .seq c75_14 c75_15 := by kernel_rfl
theorem c75_14e : c75_14 = .region 4 r75_14 false := by kernel_rfl
theorem c75_15e : c75_15 = .block 0 c75_16 := by kernel_rfl
theorem c75_16e : c75_16 = .loop c75_17 := by kernel_rfl
theorem c75_17e : c75_17 = .seq c75_18 c75_23 := by kernel_rfl
theorem c75_18e : c75_18 = .seq c75_19 c75_20 := by kernel_rfl
theorem c75_19e : c75_19 = .region 5 r75_19 false := by kernel_rfl
theorem c75_20e : c75_20 = .cond (cdC c75_20) c75_21 c75_22 := by kernel_rfl
theorem c75_21e : c75_21 = .skip := by kernel_rfl
theorem c75_22e : c75_22 = .exit 0 := by kernel_rfl
theorem c75_23e : c75_23 = .seq c75_24 c75_26 := by kernel_rfl
theorem c75_24e : c75_24 = .block 1 c75_25 := by kernel_rfl
theorem c75_25e : c75_25 = .region 7 r75_25 false := by kernel_rfl
theorem c75_26e : c75_26 = .region 6 r75_26 false := by kernel_rfl
theorem c75_27e : c75_27 = .seq c75_28 c75_29 := by kernel_rfl
theorem c75_28e : c75_28 = .region 8 r75_28 false := by kernel_rfl
theorem c75_29e : c75_29 = .seq c75_30 c75_44 := by kernel_rfl
theorem c75_30e : c75_30 = .seq c75_31 c75_32 := by kernel_rfl
theorem c75_31e : c75_31 = .region 9 r75_31 false := by kernel_rfl
theorem c75_32e : c75_32 = .block 2 c75_33 := by kernel_rfl
theorem c75_33e : c75_33 = .loop c75_34 := by kernel_rfl
theorem c75_34e : c75_34 = .seq c75_35 c75_40 := by kernel_rfl
theorem c75_35e : c75_35 = .seq c75_36 c75_37 := by kernel_rfl
theorem c75_36e : c75_36 = .region 10 r75_36 false := by kernel_rfl
theorem c75_37e : c75_37 = .cond (cdC c75_37) c75_38 c75_39 := by kernel_rfl
theorem c75_38e : c75_38 = .skip := by kernel_rfl
theorem c75_39e : c75_39 = .exit 2 := by kernel_rfl
theorem c75_40e : c75_40 = .seq c75_41 c75_43 := by kernel_rfl
theorem c75_41e : c75_41 = .block 3 c75_42 := by kernel_rfl
theorem c75_42e : c75_42 = .region 12 r75_42 true := by kernel_rfl
theorem c75_43e : c75_43 = .region 11 r75_43 false := by kernel_rfl
theorem c75_44e : c75_44 = .seq c75_45 c75_46 := by kernel_rfl
theorem c75_45e : c75_45 = .region 13 r75_45 false := by kernel_rfl
theorem c75_46e : c75_46 = .ret := by kernel_rfl
noncomputable def pack_Writer_Num.R (b_2 : Nat) (A_3 : Option Addr) (c_4 : Nat) : Pst T_pack_Writer where
  ε := Option Addr × Nat
  v := fun r x => .pointer (some ⟨b_2, 0, none⟩)
  H := fun r x => [⟨1, b_2, [.slice x.1 r.b.length x.2]⟩]
  B := fun r x => [Ow 2 Kd.u8 x.1 x.2 r.b]
noncomputable def pack_Writer_Num.cx (b_2 : Nat) (A_3 : Option Addr) (c_4 : Nat) (w0 : World) (S0 : Fam) : Cx T_pack_Writer := ⟨Try.prog, 75, Try.f75, 49, w0, S0, [1, 2], 2, pack_Writer_Num.R b_2 A_3 c_4⟩
theorem pack_Writer_Num_l1_ok (n : Nat) (x_5 : Int) (b_2 : Nat) (A_3 : Option Addr) (c_4 : Nat) (w0 : World) (S0 : Fam) :
    ∀ (k : Nat) (f_14 : (List UInt8)) (i_17 : Int) (A_15 : Option Addr) (c_16 : Nat), GoO (pack_Writer_Num.cx b_2 A_3 c_4 w0 S0) [(0, .pointer (some ⟨b_2, 0, none⟩)), (1, .int .u64 x_5), (7, .int .i64 i_17)] [⟨1, b_2, [.slice A_15 f_14.length c_16]⟩] [Ow 2 Kd.u8 A_15 c_16 f_14] [.code c75_34, .inLoop c75_34, .inBlock 2, .code c75_44] (pack_Writer_Num.l1 n x_5 k f_14 i_17) := by
  intro k
  induction k with
  | zero => intros; rw [pack_Writer_Num.l1.eq_1]; exact GoO.stop
  | succ k ih1 =>
    intro f_14 i_17 A_15 c_16
    rw [pack_Writer_Num.l1.eq_2]
    refine GoO.seq' c75_34e ?_
    refine GoO.seq' c75_35e ?_
    refine GoO.region' (is := [0, 1]) c75_36e (by kernel_rfl) ?_
    refine GoO.exec (is := [0, 1]) (hs := [.p, .p]) (rest := []) (ks := [0, 1, 7, 31]) (env' := [(0, .pointer (some ⟨b_2, 0, none⟩)), (1, .int .u64 x_5), (7, .int .i64 i_17), (31, .bool (decide (i_17 ≥ 0)))]) (H' := [⟨1, b_2, [.slice A_15 f_14.length c_16]⟩]) (ps := []) (by kernel_rfl) trivial ?_
    refine GoO.regionEnd ?_
    refine GoO.ite' c75_37e (by kernel_rfl) (fun h18 => ?_) (fun h18 => ?_)
    · refine GoO.skip' c75_38e ?_
      refine GoO.seq' c75_40e ?_
      refine GoO.block' c75_41e ?_
      refine GoO.draw c75_42e (by kernel_rfl) [12, 13, 14] [⟨1, b_2, [.slice A_15 f_14.length c_16]⟩] [] (n := 15) (by kernel_rfl) ?_
      simp only [List.replicate]
      refine GoF.guard (fun h19 => ?_)
      refine GoF.take [0, 1, 2, 3, 4, 5, 6, 7, 8, 9] [.p, .p, .p, .p, .b 0, .p, .p, .p, .p, .p] (ks := [0, 1, 7, 34, 38, 43]) (fu := 5) (li := [true, true, true, true, true, true, true, true, true, true, false, false, false, false, false]) (env' := [(0, .pointer (some ⟨b_2, 0, none⟩)), (1, .int .u64 x_5), (7, .int .i64 i_17), (34, .pointer (some ⟨b_2, 0, none⟩)), (38, .slice A_15 f_14.length c_16), (43, .int .u8 (wu8 (shR .u64 x_5 (wi64 (8 * i_17)))))]) (ps := [b_2 = b_2, (0 : Int) ≤ (wi64 (8 * i_17))]) (hk := [0]) (bk := []) (by kernel_rfl) (And.intro rfl (And.intro h19 trivial)) rfl rfl ?_
      refine OpTo.goF (i := 10) (by kernel_rfl) (hk := [0]) (bk := []) (GoO.lit (e := 5) (K := Kd.u8) rfl (by kernel_rfl) (by kernel_rfl) (cs := [.int .u8 (wu8 (shR .u64 x_5 (wi64 (8 * i_17))))]) (by kernel_rfl) [u8of (shR .u64 x_5 (wi64 (8 * i_17)))] (by kernel_rfl) (by kernel_rfl) (fun w S hB => ⟨[.int .u8 (wu8 (shR .u64 x_5 (wi64 (8 * i_17))))], _, rfl, (congrArg (fun v => [v]) (u8cell _)), rfl⟩) 41 _ (fun _ _ => rfl) (fun A_20 c_21 => ⟨rfl, rfl, ?_⟩))
      refine GoF.guard (fun h22 => ?_)
      refine OpTo.goF (i := 11) (by kernel_rfl) (hk := [0]) (bk := []) (GoO.appW (e := 5) (K := Kd.u8) (A := A_15) (c := c_16) (tg := 2) (bytes := 1) (zs := [.int .u8 0]) (xs := f_14) (ys := [u8of (shR .u64 x_5 (wi64 (8 * i_17)))]) (xv := .slice A_20 [u8of (shR .u64 x_5 (wi64 (8 * i_17)))].length c_21) (j := 1) (bk := [0]) rfl (by kernel_rfl) (by kernel_rfl) (by kernel_rfl) (by kernel_rfl) rfl (by kernel_rfl) rfl (fun w S hB => SrcIs.row (Reads.own w S (hB _ (List.mem_of_getElem? (i := 0) rfl)))) h22 rfl rfl rfl rfl _ (fun _ _ => rfl) (fun A_23 c_24 => ⟨rfl, rfl, ?_⟩))
      refine GoF.fin1 (i := 12) (hint := .p) (ps := []) (hk := []) (bk := []) (by kernel_rfl) rfl trivial (.inl rfl) ?_
      refine GoF.fin1 (i := 13) (hint := .p) (ps := []) (hk := []) (bk := []) (by kernel_rfl) rfl trivial (.inl rfl) ?_
      refine GoF.fin1 (i := 14) (hint := .b 0) (ps := [b_2 = b_2]) (hk := []) (bk := []) (by kernel_rfl) rfl (And.intro rfl trivial) (.inl rfl) ?_
      refine GoF.done (by kernel_rfl) ?_
      refine GoO.inBlock ?_
      refine GoO.region' (is := [0, 1, 2]) c75_43e (by kernel_rfl) ?_
      refine GoO.exec (is := [0, 1, 2]) (hs := [.p, .p, .p]) (rest := []) (ks := [0, 1, 7]) (env' := [(0, .pointer (some ⟨b_2, 0, none⟩)), (1, .int .u64 x_5), (7, .int .i64 (wi64 (i_17 - 1)))]) (H' := [⟨1, b_2, [.slice A_23 (f_14 ++ [u8of (shR .u64 x_5 (wi64 (8 * i_17)))]).length c_24]⟩]) (ps := []) (by kernel_rfl) trivial ?_
      refine GoO.regionEnd ?_
      refine GoO.inLoop ?_
      exact GoO.sub (ks := [0, 1, 7]) (hk := [0]) (bk := [0]) (by kernel_rfl) (by kernel_rfl) (by kernel_rfl) (ih1 (f_14 ++ [u8of (shR .u64 x_5 (wi64 (8 * i_17)))]) (wi64 (i_17 - 1)) A_23 c_24)
    · refine GoO.exit' c75_39e rfl ?_
      refine GoO.seq' c75_44e ?_
      refine GoO.region' (is := [0, 1]) c75_45e (by kernel_rfl) ?_
      refine GoO.exec (is := [0, 1]) (hs := [.p, .p]) (rest := []) (ks := [4]) (env' := [(4, .pointer (some ⟨b_2, 0, none⟩))]) (H' := [⟨1, b_2, [.slice A_15 f_14.length c_16]⟩]) (ps := []) (by kernel_rfl) trivial ?_
      refine GoO.regionEnd ?_
      exact GoO.ret' (h := c75_46e) (hs := []) (ps := []) (hk := [0]) (bk := [0]) Try.func75 (⟨A_15, c_16⟩ : Option Addr × Nat) (by kernel_rfl) trivial (by kernel_rfl) (by kernel_rfl)
theorem pack_Writer_Num_l0_ok (n : Nat) (w_1 : T_pack_Writer) (x_5 : Int) (b_2 : Nat) (A_3 : Option Addr) (c_4 : Nat) (w0 : World) (S0 : Fam) :
    ∀ (k : Nat) (n_6 : Int) (y_7 : Int), GoO (pack_Writer_Num.cx b_2 A_3 c_4 w0 S0) [(0, .pointer (some ⟨b_2, 0, none⟩)), (1, .int .u64 x_5), (5, .int .i64 n_6), (6, .int .u64 y_7)] [⟨1, b_2, [.slice A_3 w_1.b.length c_4]⟩] [Ow 2 Kd.u8 A_3 c_4 w_1.b] [.code c75_17, .inLoop c75_17, .inBlock 0, .code c75_27] (pack_Writer_Num.l0 n w_1 x_5 k n_6 y_7) := by
  intro k
  induction k with
  | zero => intros; rw [pack_Writer_Num.l0.eq_1]; exact GoO.stop
  | succ k ih0 =>
    intro n_6 y_7
    rw [pack_Writer_Num.l0.eq_2]
    refine GoO.seq' c75_17e ?_
    refine GoO.seq' c75_18e ?_
    refine GoO.region' (is := [0, 1]) c75_19e (by kernel_rfl) ?_
    refine GoO.exec (is := [0, 1]) (hs := [.p, .p]) (rest := []) (ks := [0, 1, 5, 6, 12]) (env' := [(0, .pointer (some ⟨b_2, 0, none⟩)), (1, .int .u64 x_5), (5, .int .i64 n_6), (6, .int .u64 y_7), (12, .bool (decide (y_7 > 0)))]) (H' := [⟨1, b_2, [.slice A_3 w_1.b.length c_4]⟩]) (ps := []) (by kernel_rfl) trivial ?_
    refine GoO.regionEnd ?_
    refine GoO.ite' c75_20e (by kernel_rfl) (fun h8 => ?_) (fun h8 => ?_)
    · refine GoO.skip' c75_21e ?_
      refine GoO.seq' c75_23e ?_
      refine GoO.block' c75_24e ?_
      refine GoO.region' (is := [0, 1, 2]) c75_25e (by kernel_rfl) ?_
      refine GoO.exec (is := [0, 1, 2]) (hs := [.p, .p, .p]) (rest := []) (ks := [0, 1, 5, 6]) (env' := [(0, .pointer (some ⟨b_2, 0, none⟩)), (1, .int .u64 x_5), (5, .int .i64 (wi64 (n_6 + 1))), (6, .int .u64 y_7)]) (H' := [⟨1, b_2, [.slice A_3 w_1.b.length c_4]⟩]) (ps := []) (by kernel_rfl) trivial ?_
      refine GoO.regionEnd ?_
      refine GoO.inBlock ?_
      refine GoO.region' (is := [0, 1, 2]) c75_26e (by kernel_rfl) ?_
      refine GoO.exec (is := [0, 1, 2]) (hs := [.p, .p, .p]) (rest := []) (ks := [0, 1, 5, 6]) (env' := [(0, .pointer (some ⟨b_2, 0, none⟩)), (1, .int .u64 x_5), (5, .int .i64 (wi64 (n_6 + 1))), (6, .int .u64 (shR .u64 y_7 8))]) (H' := [⟨1, b_2, [.slice A_3 w_1.b.length c_4]⟩]) (ps := [(0 : Int) ≤ 8]) (by kernel_rfl) (And.intro (by decide) trivial) ?_
      refine GoO.regionEnd ?_
      refine GoO.inLoop ?_
      exact GoO.sub (ks := [0, 1, 5, 6]) (hk := [0]) (bk := [0]) (by kernel_rfl) (by kernel_rfl) (by kernel_rfl) (ih0 (wi64 (n_6 + 1)) (shR .u64 y_7 8))
    · refine GoO.exit' c75_22e rfl ?_
      refine GoO.seq' c75_27e ?_
      refine GoO.region' (is := [0, 1, 2, 3, 4, 5, 6, 7, 8, 9, 10, 11]) c75_28e (by kernel_rfl) ?_
      refine GoO.exec (is := [0, 1, 2, 3, 4, 5, 6]) (hs := [.p, .p, .p, .p, .b 0, .p, .p]) (rest := [7, 8, 9, 10, 11]) (ks := [0, 1, 5, 17, 21, 23]) (env' := [(0, .pointer (some ⟨b_2, 0, none⟩)), (1, .int .u64 x_5), (5, .int .i64 n_6), (17, .pointer (some ⟨b_2, 0, none⟩)), (21, .slice A_3 w_1.b.length c_4), (23, .int .u8 (wu8 n_6))]) (H' := [⟨1, b_2, [.slice A_3 w_1.b.length c_4]⟩]) (ps := [b_2 = b_2]) (by kernel_rfl) (And.intro rfl trivial) ?_
      refine OpTo.go (GoO.lit (e := 5) (K := Kd.u8) rfl (by kernel_rfl) (by kernel_rfl) (cs := [.int .u8 (wu8 n_6)]) (by kernel_rfl) [u8of n_6] (by kernel_rfl) (by kernel_rfl) (fun w S hB => ⟨[.int .u8 (wu8 n_6)], _, rfl, (congrArg (fun v => [v]) (u8cell _)), rfl⟩) 40 _ (fun _ _ => rfl) (fun A_9 c_10 => ?_))
      refine GoO.guard (fun h11 => ?_)
      refine OpTo.go (GoO.appW (e := 5) (K := Kd.u8) (A := A_3) (c := c_4) (tg := 2) (bytes := 1) (zs := [.int .u8 0]) (xs := w_1.b) (ys := [u8of n_6]) (xv := .slice A_9 [u8of n_6].length c_10) (j := 1) (bk := [0]) rfl (by kernel_rfl) (by kernel_rfl) (by kernel_rfl) (by kernel_rfl) rfl (by kernel_rfl) rfl (fun w S hB => SrcIs.row (Reads.own w S (hB _ (List.mem_of_getElem? (i := 0) rfl)))) h11 rfl rfl rfl rfl _ (fun _ _ => rfl) (fun A_12 c_13 => ?_))
      refine GoO.exec (is := [9, 10, 11]) (hs := [.p, .p, .b 0]) (rest := []) (ks := [0, 1, 5]) (env' := [(0, .pointer (some ⟨b_2, 0, none⟩)), (1, .int .u64 x_5), (5, .int .i64 n_6)]) (H' := [⟨1, b_2, [.slice A_12 (w_1.b ++ [u8of n_6]).length c_13]⟩]) (ps := [b_2 = b_2]) (by kernel_rfl) (And.intro rfl trivial) ?_
      refine GoO.regionEnd ?_
      refine GoO.seq' c75_29e ?_
      refine GoO.seq' c75_30e ?_
      refine GoO.region' (is := [0, 1, 2]) c75_31e (by kernel_rfl) ?_
      refine GoO.exec (is := [0, 1, 2]) (hs := [.p, .p, .p]) (rest := []) (ks := [0, 1, 7]) (env' := [(0, .pointer (some ⟨b_2, 0, none⟩)), (1, .int .u64 x_5), (7, .int .i64 (wi64 (n_6 - 1)))]) (H' := [⟨1, b_2, [.slice A_12 (w_1.b ++ [u8of n_6]).length c_13]⟩]) (ps := []) (by kernel_rfl) trivial ?_
      refine GoO.regionEnd ?_
      refine GoO.block' c75_32e ?_
      refine GoO.loop' c75_33e ?_
      exact GoO.sub (ks := [0, 1, 7]) (hk := [0]) (bk := [0]) (by kernel_rfl) (by kernel_rfl) (by kernel_rfl) (pack_Writer_Num_l1_ok n x_5 b_2 A_3 c_4 w0 S0 n (w_1.b ++ [u8of n_6]) (wi64 (n_6 - 1)) A_12 c_13)
theorem pack_Writer_Num_ok (n : Nat) (w_1 : T_pack_Writer) (x_5 : Int) (b_2 : Nat) (A_3 : Option Addr) (c_4 : Nat) :
    Meets Try.prog 75 [.pointer (some ⟨b_2, 0, none⟩), .int .u64 x_5] 2 [1, 2] [⟨1, b_2, [.slice A_3 w_1.b.length c_4]⟩] [Ow 2 Kd.u8 A_3 c_4 w_1.b] (pack_Writer_Num.f n w_1 x_5) (pack_Writer_Num.R b_2 A_3 c_4) := by
  refine Meets.of (c := c75_0) (n := 49) Try.func75 (by kernel_rfl) (by kernel_rfl) (by kernel_rfl) fun w0 S0 => ?_
  unfold pack_Writer_Num.f
  show GoO (pack_Writer_Num.cx b_2 A_3 c_4 w0 S0) [(0, .pointer (some ⟨b_2, 0, none⟩)), (1, .int .u64 x_5)] [⟨1, b_2, [.slice A_3 w_1.b.length c_4]⟩] [Ow 2 Kd.u8 A_3 c_4 w_1.b] [.code c75_0] _
  refine GoO.seq' c75_0e ?_
  refine GoO.region' (is := [0]) c75_1e (by kernel_rfl) ?_
  refine GoO.exec (is := [0]) (hs := [.p]) (rest := []) (ks := [0, 1]) (env' := [(0, .pointer (some ⟨b_2, 0, none⟩)), (1, .int .u64 x_5)]) (H' := [⟨1, b_2, [.slice A_3 w_1.b.length c_4]⟩]) (ps := []) (by kernel_rfl) trivial ?_
  refine GoO.regionEnd ?_
  refine GoO.seq' c75_2e ?_
  refine GoO.seq' c75_3e ?_
  refine GoO.region' (is := [0, 1]) c75_4e (by kernel_rfl) ?_
  refine GoO.exec (is := [0, 1]) (hs := [.p, .p]) (rest := []) (ks := [0, 1, 9]) (env' := [(0, .pointer (some ⟨b_2, 0, none⟩)), (1, .int .u64 x_5), (9, .bool false)]) (H' := [⟨1, b_2, [.slice A_3 w_1.b.length c_4]⟩]) (ps := []) (by kernel_rfl) trivial ?_
  refine GoO.regionEnd ?_
  refine GoO.condF c75_5e (by kernel_rfl) ?_
  refine GoO.skip' c75_9e ?_
  refine GoO.seq' c75_10e ?_
  refine GoO.region' (is := [0]) c75_11e (by kernel_rfl) ?_
  refine GoO.exec (is := [0]) (hs := [.p]) (rest := []) (ks := [0, 1, 5]) (env' := [(0, .pointer (some ⟨b_2, 0, none⟩)), (1, .int .u64 x_5), (5, .int .i64 0)]) (H' := [⟨1, b_2, [.slice A_3 w_1.b.length c_4]⟩]) (ps := []) (by kernel_rfl) trivial ?_
  refine GoO.regionEnd ?_
  refine GoO.seq' c75_12e ?_
  refine GoO.seq' c75_13e ?_
  refine GoO.region' (is := [0, 1]) c75_14e (by kernel_rfl) ?_
  refine GoO.exec (is := [0, 1]) (hs := [.p, .p]) (rest := []) (ks := [0, 1, 5, 6]) (env' := [(0, .pointer (some ⟨b_2, 0, none⟩)), (1, .int .u64 x_5), (5, .int .i64 0), (6, .int .u64 x_5)]) (H' := [⟨1, b_2, [.slice A_3 w_1.b.length c_4]⟩]) (ps := []) (by kernel_rfl) trivial ?_
  refine GoO.regionEnd ?_
  refine GoO.block' c75_15e ?_
  refine GoO.loop' c75_16e ?_
  exact GoO.sub (ks := [0, 1, 5, 6]) (hk := [0]) (bk := [0]) (by kernel_rfl) (by kernel_rfl) (by kernel_rfl) (pack_Writer_Num_l0_ok n w_1 x_5 b_2 A_3 c_4 w0 S0 n 0 x_5)

/-! (*tontine/pack.Writer).Text -/
noncomputable def c98_0 : Code := bodyOf Try.f98
noncomputable def c98_1 : Code := cdL c98_0
noncomputable def c98_2 : Code := cdR c98_0
noncomputable def c98_3 : Code := cdL c98_2
noncomputable def c98_4 : Code := cdL c98_3
noncomputable def c98_5 : Code := cdR c98_3
noncomputable def c98_9 : Code := cdR c98_5
noncomputable def c98_10 : Code := cdR c98_2
noncomputable def c98_11 : Code := cdL c98_10
noncomputable def c98_12 : Code := cdR c98_10
noncomputable def c98_13 : Code := cdL c98_12
noncomputable def c98_14 : Code := cdR c98_12
noncomputable def c98_15 : Code := cdL c98_14
noncomputable def c98_16 : Code := cdR c98_14
noncomputable def c98_6 : Code := cdL c98_5
noncomputable def r98_1 : Array Oper := cdO c98_1
noncomputable def r98_4 : Array Oper := cdO c98_4
noncomputable def r98_11 : Array Oper := cdO c98_11
noncomputable def r98_13 : Array Oper := cdO c98_13
noncomputable def r98_15 : Array Oper := cdO c98_15
theorem c98_0e : c98_0 = .seq c98_1 c98_2 := by kernel_rfl
theorem c98_1e : c98_1 = .region 0 r98_1 false := by kernel_rfl
theorem c98_2e : c98_2 = .seq c98_3 c98_10 := by kernel_rfl
theorem c98_3e : c98_3 = .seq c98_4 c98_5 := by kernel_rfl
theorem c98_4e : c98_4 = .region 1 r98_4 false := by kernel_rfl
theorem c98_5e : c98_5 = .cond (cdC c98_5) c98_6 c98_9 := by kernel_rfl
theorem c98_9e : c98_9 = .skip := by kernel_rfl
theorem c98_10e : c98_10 = .seq c98_11 c98_12 := by kernel_rfl
theorem c98_11e : c98_11 = .region 3 r98_11 false := by kernel_rfl
theorem c98_12e : c98_12 = .seq c98_13 c98_14 := by kernel_rfl
theorem c98_13e : c98_13 = .region 4 r98_13 false := by kernel_rfl
theorem c98_14e : c98_14 = .seq c98_15 c98_16 := by kernel_rfl
theorem c98_15e : c98_15 = .region 5 r98_15 false := by kernel_rfl
theorem c98_16e : c98_16 = .ret := by kernel_rfl
noncomputable def pack_Writer_Text.R (b_2 : Nat) (A_3 : Option Addr) (c_4 : Nat) : Pst T_pack_Writer where
  ε := Option Addr × Nat
  v := fun r x => .pointer (some ⟨b_2, 0, none⟩)
  H := fun r x => [⟨1, b_2, [.slice x.1 r.b.length x.2]⟩]
  B := fun r x => [Ow 2 Kd.u8 x.1 x.2 r.b]
noncomputable def pack_Writer_Text.cx (b_2 : Nat) (A_3 : Option Addr) (c_4 : Nat) (w0 : World) (S0 : Fam) : Cx T_pack_Writer := ⟨Try.prog, 98, Try.f98, 22, w0, S0, [1, 2], 2, pack_Writer_Text.R b_2 A_3 c_4⟩
theorem pack_Writer_Text_ok (n : Nat) (w_1 : T_pack_Writer) (s_5 : (List UInt8)) (b_2 : Nat) (A_3 : Option Addr) (c_4 : Nat) :
    Meets Try.prog 98 [.pointer (some ⟨b_2, 0, none⟩), .string (bs s_5)] 2 [1, 2] [⟨1, b_2, [.slice A_3 w_1.b.length c_4]⟩] [Ow 2 Kd.u8 A_3 c_4 w_1.b] (pack_Writer_Text.f n w_1 s_5) (pack_Writer_Text.R b_2 A_3 c_4) := by
  refine Meets.of (c := c98_0) (n := 22) Try.func98 (by kernel_rfl) (by kernel_rfl) (by kernel_rfl) fun w0 S0 => ?_
  unfold pack_Writer_Text.f
  show GoO (pack_Writer_Text.cx b_2 A_3 c_4 w0 S0) [(0, .pointer (some ⟨b_2, 0, none⟩)), (1, .string (bs s_5))] [⟨1, b_2, [.slice A_3 w_1.b.length c_4]⟩] [Ow 2 Kd.u8 A_3 c_4 w_1.b] [.code c98_0] _
  refine GoO.seq' c98_0e ?_
  refine GoO.region' (is := [0]) c98_1e (by kernel_rfl) ?_
  refine GoO.exec (is := [0]) (hs := [.p]) (rest := []) (ks := [0, 1]) (env' := [(0, .pointer (some ⟨b_2, 0, none⟩)), (1, .string (bs s_5))]) (H' := [⟨1, b_2, [.slice A_3 w_1.b.length c_4]⟩]) (ps := []) (by kernel_rfl) trivial ?_
  refine GoO.regionEnd ?_
  refine GoO.seq' c98_2e ?_
  refine GoO.seq' c98_3e ?_
  refine GoO.region' (is := [0, 1]) c98_4e (by kernel_rfl) ?_
  refine GoO.exec (is := [0, 1]) (hs := [.p, .p]) (rest := []) (ks := [0, 1, 6]) (env' := [(0, .pointer (some ⟨b_2, 0, none⟩)), (1, .string (bs s_5)), (6, .bool false)]) (H' := [⟨1, b_2, [.slice A_3 w_1.b.length c_4]⟩]) (ps := []) (by kernel_rfl) trivial ?_
  refine GoO.regionEnd ?_
  refine GoO.condF c98_5e (by kernel_rfl) ?_
  refine GoO.skip' c98_9e ?_
  refine GoO.seq' c98_10e ?_
  refine GoO.region' (is := [0, 1, 2, 3, 4]) c98_11e (by kernel_rfl) ?_
  refine GoO.exec (is := [0, 1, 2, 3]) (hs := [.p, .p, .p, .p]) (rest := [4]) (ks := [0, 1, 7, 10]) (env' := [(0, .pointer (some ⟨b_2, 0, none⟩)), (1, .string (bs s_5)), (7, .pointer (some ⟨b_2, 0, none⟩)), (10, .int .u64 (wu64 (s_5.length : Int)))]) (H' := [⟨1, b_2, [.slice A_3 w_1.b.length c_4]⟩]) (ps := []) (by kernel_rfl) trivial ?_
  refine OpTo.go (GoO.call rfl (by kernel_rfl) (by kernel_rfl) (pack_Writer_Num_ok n w_1 (wu64 (s_5.length : Int)) b_2 A_3 c_4) [[0], [1], [2]] [(1, 1), (2, 2)] [(1, 0)] [(2, 0)] (hks := []) (bks := []) (by kernel_rfl) (by kernel_rfl) (by kernel_rfl) (.inl rfl) rfl rfl (by kernel_rfl) (by kernel_rfl) _ (fun _ _ => rfl) _ _ (fun _ _ => rfl) (fun _ _ => rfl) (fun _ _ => by kernel_rfl) (fun _ _ => by kernel_rfl) (fun r_6 x_12 => ?_))
  obtain ⟨A_7, c_8⟩ := x_12
  refine GoO.shape (env' := [(0, .pointer (some ⟨b_2, 0, none⟩)), (1, .string (bs s_5)), (7, .pointer (some ⟨b_2, 0, none⟩)), (10, .int .u64 (wu64 (s_5.length : Int))), (11, .pointer (some ⟨b_2, 0, none⟩))]) (H' := [⟨1, b_2, [.slice A_7 r_6.b.length c_8]⟩]) (B' := [Ow 2 Kd.u8 A_7 c_8 r_6.b]) (ks := [0, 1, 7, 10, 11]) (by kernel_rfl) (by kernel_rfl) (by kernel_rfl) ?_
  refine GoO.regionEnd ?_
  refine GoO.seq' c98_12e ?_
  refine GoO.region' (is := [0, 1, 2, 3, 4, 5, 6, 7, 8, 9]) c98_13e (by kernel_rfl) ?_
  refine GoO.exec (is := [0, 1, 2, 3, 4, 5]) (hs := [.p, .p, .p, .p, .b 0, .p]) (rest := [6, 7, 8, 9]) (ks := [0, 12, 16, 17]) (env' := [(0, .pointer (some ⟨b_2, 0, none⟩)), (12, .pointer (some ⟨b_2, 0, none⟩)), (16, .slice A_7 r_6.b.length c_8), (17, .string (bs s_5))]) (H' := [⟨1, b_2, [.slice A_7 r_6.b.length c_8]⟩]) (ps := [b_2 = b_2]) (by kernel_rfl) (And.intro rfl trivial) ?_
  refine GoO.guard (fun h9 => ?_)
  refine OpTo.go (GoO.appW (e := 5) (K := Kd.u8) (A := A_7) (c := c_8) (tg := 2) (bytes := 1) (zs := [.int .u8 0]) (xs := r_6.b) (ys := s_5) (xv := .string (bs s_5)) (j := 0) (bk := []) rfl (by kernel_rfl) (by kernel_rfl) (by kernel_rfl) (by kernel_rfl) rfl (by kernel_rfl) rfl (fun _ _ _ => SrcIs.str _) h9 rfl rfl rfl rfl _ (fun _ _ => rfl) (fun A_10 c_11 => ?_))
  refine GoO.exec (is := [7, 8, 9]) (hs := [.p, .p, .b 0]) (rest := []) (ks := [0]) (env' := [(0, .pointer (some ⟨b_2, 0, none⟩))]) (H' := [⟨1, b_2, [.slice A_10 (r_6.b ++ s_5).length c_11]⟩]) (ps := [b_2 = b_2]) (by kernel_rfl) (And.intro rfl trivial) ?_
  refine GoO.regionEnd ?_
  refine GoO.seq' c98_14e ?_
  refine GoO.region' (is := [0, 1]) c98_15e (by kernel_rfl) ?_
  refine GoO.exec (is := [0, 1]) (hs := [.p, .p]) (rest := []) (ks := [4]) (env' := [(4, .pointer (some ⟨b_2, 0, none⟩))]) (H' := [⟨1, b_2, [.slice A_10 (r_6.b ++ s_5).length c_11]⟩]) (ps := []) (by kernel_rfl) trivial ?_
  refine GoO.regionEnd ?_
  exact GoO.ret' (h := c98_16e) (hs := []) (ps := []) (hk := [0]) (bk := [0]) Try.func98 (⟨A_10, c_11⟩ : Option Addr × Nat) (by kernel_rfl) trivial (by kernel_rfl) (by kernel_rfl)

/-! tontine/plan.Write -/
noncomputable def c86_0 : Code := bodyOf Try.f86
noncomputable def c86_1 : Code := cdL c86_0
noncomputable def c86_2 : Code := cdR c86_0
noncomputable def c86_3 : Code := cdL c86_2
noncomputable def c86_4 : Code := cdR c86_2
noncomputable def c86_5 : Code := cdL c86_4
noncomputable def c86_6 : Code := cdL c86_5
noncomputable def c86_7 : Code := cdL c86_6
noncomputable def c86_8 : Code := cdR c86_6
noncomputable def c86_9 : Code := cdL c86_8
noncomputable def c86_10 : Code := cdL c86_9
noncomputable def c86_11 : Code := cdR c86_9
noncomputable def c86_12 : Code := cdR c86_8
noncomputable def c86_13 : Code := cdL c86_12
noncomputable def c86_14 : Code := cdL c86_13
noncomputable def c86_15 : Code := cdL c86_14
noncomputable def c86_16 : Code := cdR c86_14
noncomputable def c86_17 : Code := cdR c86_12
noncomputable def r86_1 : Array Oper := cdO c86_1
noncomputable def r86_3 : Array Oper := cdO c86_3
noncomputable def r86_7 : Array Oper := cdO c86_7
noncomputable def r86_15 : Array Oper := cdO c86_15
noncomputable def r86_16 : Array Oper := cdO c86_16
noncomputable def r86_17 : Array Oper := cdO c86_17
theorem c86_0e : c86_0 = .seq c86_1 c86_2 := by kernel_rfl
theorem c86_1e : c86_1 = .region 0 r86_1 false := by kernel_rfl
theorem c86_2e : c86_2 = .seq c86_3 c86_4 := by kernel_rfl
theorem c86_3e : c86_3 = .region 1 r86_3 false := by kernel_rfl
theorem c86_4e : c86_4 = .block 0 c86_5 := by kernel_rfl
theorem c86_5e : c86_5 = .loop c86_6 := by kernel_rfl
theorem c86_6e : c86_6 = .seq c86_7 c86_8 := by kernel_rfl
theorem c86_7e : c86_7 = .region 2 r86_7 false := by kernel_rfl
theorem c86_8e : c86_8 = .seq c86_9 c86_12 := by kernel_rfl
theorem c86_9e : c86_9 = .cond (cdC c86_9) c86_10 c86_11 := by kernel_rfl
theorem c86_10e : c86_10 = .skip := by kernel_rfl
theorem c86_11e : c86_11 = .exit 0 := by kernel_rfl
theorem c86_12e : c86_12 = .seq c86_13 c86_17 := by kernel_rfl
theorem c86_13e : c86_13 = .block 1 c86_14 := by kernel_rfl
theorem c86_14e : c86_14 = .seq c86_15 c86_16 := by kernel_rfl
theorem c86_15e : c86_15 = .region 3 r86_15 false := by kernel_rfl
theorem c86_16e : c86_16 = .region 4 r86_16 true := by kernel_rfl
theorem c86_17e : c86_17 = .region 5 r86_17 false := by kernel_rfl
noncomputable def plan_Write.R (b_2 : Nat) (A_3 : Option Addr) (c_4 : Nat) (A_6 : Option Addr) (c_7 : Nat) : Pst T_pack_Writer where
  ε := Option Addr × Nat
  v := fun r x => .tuple ⟨[]⟩
  H := fun r x => [⟨1, b_2, [.slice x.1 r.b.length x.2]⟩]
  B := fun r x => [Ow 2 Kd.u8 x.1 x.2 r.b]
noncomputable def plan_Write.cx (b_2 : Nat) (A_3 : Option Addr) (c_4 : Nat) (A_6 : Option Addr) (c_7 : Nat) (w0 : World) (S0 : Fam) : Cx T_pack_Writer := ⟨Try.prog, 86, Try.f86, 30, w0, S0, [1, 2], 2, plan_Write.R b_2 A_3 c_4 A_6 c_7⟩
theorem plan_Write_l0_ok (n : Nat) (l_5 : (List T_api_Step)) (b_2 : Nat) (A_6 : Option Addr) (c_7 : Nat) (A_3 : Option Addr) (c_4 : Nat) (w0 : World) (S0 : Fam) :
    ∀ (k : Nat) (f_11 : (List UInt8)) (x_14 : Int) (A_12 : Option Addr) (c_13 : Nat), GoO (plan_Write.cx b_2 A_3 c_4 A_6 c_7 w0 S0) [(0, .pointer (some ⟨b_2, 0, none⟩)), (11, .slice A_6 l_5.length c_7), (12, .int .i64 (l_5.length : Int)), (13, .int .i64 x_14)] [⟨1, b_2, [.slice A_12 f_11.length c_13]⟩] [Ow 2 Kd.u8 A_12 c_13 f_11, Rd 0 kT_api_Step A_6 c_7 l_5] [.code c86_6, .inLoop c86_6, .inBlock 0] (plan_Write.l0 n l_5 k f_11 x_14) := by
  intro k
  induction k with
  | zero => intros; rw [plan_Write.l0.eq_1]; exact GoO.stop
  | succ k ih0 =>
    intro f_11 x_14 A_12 c_13
    rw [plan_Write.l0.eq_2]
    refine GoO.seq' c86_6e ?_
    refine GoO.region' (is := [0]) c86_7e (by kernel_rfl) ?_
    refine GoO.exec (is := [0]) (hs := [.p]) (rest := []) (ks := [0, 11, 12, 13, 14]) (env' := [(0, .pointer (some ⟨b_2, 0, none⟩)), (11, .slice A_6 l_5.length c_7), (12, .int .i64 (l_5.length : Int)), (13, .int .i64 x_14), (14, .bool (decide (x_14 < (l_5.length : Int))))]) (H' := [⟨1, b_2, [.slice A_12 f_11.length c_13]⟩]) (ps := []) (by kernel_rfl) trivial ?_
    refine GoO.regionEnd ?_
    refine GoO.seq' c86_8e ?_
    refine GoO.ite' c86_9e (by kernel_rfl) (fun h15 => ?_) (fun h15 => ?_)
    · refine GoO.skip' c86_10e ?_
      refine GoO.seq' c86_12e ?_
      refine GoO.block' c86_13e ?_
      refine GoO.seq' c86_14e ?_
      refine GoO.region' (is := [0, 1, 2, 3]) c86_15e (by kernel_rfl) ?_
      refine GoO.guard (fun h16 => ?_)
      refine OpTo.go (GoO.idx (kk := .i64) (e := 160) (K := kT_api_Step) (A := A_6) (c := c_7) (xs := l_5) (iv := x_14) (j := 1) rfl (by kernel_rfl) (by kernel_rfl) (by kernel_rfl) (by kernel_rfl) rfl Reads.rd rfl h16.1 h16.2 (by decide) rfl ?_)
      refine OpTo.go (GoO.ldE' (K := kT_api_Step) (A := A_6) (c := c_7) (xs := l_5) (iN := x_14.toNat) (off := 0) (j := 1) rfl (by kernel_rfl) rfl Reads.rd (by first | exact idx_lt h16.1 h16.2 | (simp only [List.length_set]; exact idx_lt h16.1 h16.2)) (by decide) (Opn.flat _ _ _ _ _) (v := fun _ => .agg ⟨[.int .i64 ((rdL l_5 x_14).Part), .string (bs ((rdL l_5 x_14).Name)), .int .i64 ((rdL l_5 x_14).Budget)]⟩) (fun _ => by kernel_rfl) _ (fun _ => rfl) (fun _ => ?_))
      refine OpTo.go (GoO.new rfl 40 (cs := [.int .i64 0, .string (bs []), .int .i64 0]) (by kernel_rfl) _ (fun _ => rfl) (fun b_17 => ?_))
      refine GoO.exec (is := [3]) (hs := [.b 0]) (rest := []) (ks := [0, 5, 11, 12, 13]) (env' := [(0, .pointer (some ⟨b_2, 0, none⟩)), (5, .pointer (some ⟨b_17, 0, none⟩)), (11, .slice A_6 l_5.length c_7), (12, .int .i64 (l_5.length : Int)), (13, .int .i64 x_14)]) (H' := [⟨40, b_17, [.int .i64 ((rdL l_5 x_14).Part), .string (bs ((rdL l_5 x_14).Name)), .int .i64 ((rdL l_5 x_14).Budget)]⟩, ⟨1, b_2, [.slice A_12 f_11.length c_13]⟩]) (ps := [b_17 = b_17]) (by kernel_rfl) (And.intro rfl trivial) ?_
      refine GoO.regionEnd ?_
      refine GoO.draw c86_16e (by kernel_rfl) [] [⟨40, b_17, [.int .i64 ((rdL l_5 x_14).Part), .string (bs ((rdL l_5 x_14).Name)), .int .i64 ((rdL l_5 x_14).Budget)]⟩] [] (n := 12) (by kernel_rfl) ?_
      simp only [List.replicate]
      refine GoF.take [0, 1, 2, 3, 5, 6, 8, 9, 10] [.p, .p, .b 0, .p, .p, .b 0, .p, .b 0, .p] (ks := [0, 11, 12, 13, 17, 20, 23, 27]) (fu := 3) (li := [true, true, true, true, false, true, true, false, true, true, true, false]) (env' := [(0, .pointer (some ⟨b_2, 0, none⟩)), (11, .slice A_6 l_5.length c_7), (12, .int .i64 (l_5.length : Int)), (13, .int .i64 x_14), (17, .pointer (some ⟨b_2, 0, none⟩)), (20, .int .u64 (wu64 ((rdL l_5 x_14).Part))), (23, .string (bs ((rdL l_5 x_14).Name))), (27, .int .u64 (wu64 ((rdL l_5 x_14).Budget)))]) (ps := [b_17 = b_17, b_17 = b_17, b_17 = b_17]) (hk := [0]) (bk := []) (by kernel_rfl) (And.intro rfl (And.intro rfl (And.intro rfl trivial))) rfl rfl ?_
      refine OpTo.goF (i := 4) (by kernel_rfl) (hk := [1]) (bk := []) (GoO.call rfl (by kernel_rfl) (by kernel_rfl) (pack_Writer_Num_ok n (⟨f_11⟩ : T_pack_Writer) (wu64 ((rdL l_5 x_14).Part)) b_2 A_12 c_13) [[0], [1], [2]] [(1, 1), (2, 2)] [(1, 1)] [(2, 0)] (hks := [0]) (bks := [1]) (by kernel_rfl) (by kernel_rfl) (by kernel_rfl) (.inl rfl) rfl rfl (by kernel_rfl) (by kernel_rfl) _ (fun _ _ => rfl) _ _ (fun _ _ => rfl) (fun _ _ => rfl) (fun _ _ => by kernel_rfl) (fun _ _ => by kernel_rfl) (fun r_18 x_29 => ⟨rfl, rfl, ?_⟩))
      obtain ⟨A_19, c_20⟩ := x_29
      refine GoF.shape (env' := [(0, .pointer (some ⟨b_2, 0, none⟩)), (11, .slice A_6 l_5.length c_7), (12, .int .i64 (l_5.length : Int)), (13, .int .i64 x_14), (17, .pointer (some ⟨b_2, 0, none⟩)), (20, .int .u64 (wu64 ((rdL l_5 x_14).Part))), (21, .pointer (some ⟨b_2, 0, none⟩)), (23, .string (bs ((rdL l_5 x_14).Name))), (27, .int .u64 (wu64 ((rdL l_5 x_14).Budget)))]) (H' := [⟨1, b_2, [.slice A_19 r_18.b.length c_20]⟩, ⟨40, b_17, [.int .i64 ((rdL l_5 x_14).Part), .string (bs ((rdL l_5 x_14).Name)), .int .i64 ((rdL l_5 x_14).Budget)]⟩]) (B' := [Ow 2 Kd.u8 A_19 c_20 r_18.b, Rd 0 kT_api_Step A_6 c_7 l_5]) (ks := [0, 11, 12, 13, 17, 20, 21, 23, 27]) (by kernel_rfl) (by kernel_rfl) (by kernel_rfl) ?_
      refine OpTo.goF (i := 7) (by kernel_rfl) (hk := [1]) (bk := []) (GoO.call rfl (by kernel_rfl) (by kernel_rfl) (pack_Writer_Text_ok n r_18 ((rdL l_5 x_14).Name) b_2 A_19 c_20) [[0], [1], [2]] [(1, 1), (2, 2)] [(1, 0)] [(2, 0)] (hks := [1]) (bks := [1]) (by kernel_rfl) (by kernel_rfl) (by kernel_rfl) (.inl rfl) rfl rfl (by kernel_rfl) (by kernel_rfl) _ (fun _ _ => rfl) _ _ (fun _ _ => rfl) (fun _ _ => rfl) (fun _ _ => by kernel_rfl) (fun _ _ => by kernel_rfl) (fun r_21 x_28 => ⟨rfl, rfl, ?_⟩))
      obtain ⟨A_22, c_23⟩ := x_28
      refine GoF.shape (env' := [(0, .pointer (some ⟨b_2, 0, none⟩)), (11, .slice A_6 l_5.length c_7), (12, .int .i64 (l_5.length : Int)), (13, .int .i64 x_14), (17, .pointer (some ⟨b_2, 0, none⟩)), (20, .int .u64 (wu64 ((rdL l_5 x_14).Part))), (21, .pointer (some ⟨b_2, 0, none⟩)), (23, .string (bs ((rdL l_5 x_14).Name))), (24, .pointer (some ⟨b_2, 0, none⟩)), (27, .int .u64 (wu64 ((rdL l_5 x_14).Budget)))]) (H' := [⟨1, b_2, [.slice A_22 r_21.b.length c_23]⟩, ⟨40, b_17, [.int .i64 ((rdL l_5 x_14).Part), .string (bs ((rdL l_5 x_14).Name)), .int .i64 ((rdL l_5 x_14).Budget)]⟩]) (B' := [Ow 2 Kd.u8 A_22 c_23 r_21.b, Rd 0 kT_api_Step A_6 c_7 l_5]) (ks := [0, 11, 12, 13, 17, 20, 21, 23, 24, 27]) (by kernel_rfl) (by kernel_rfl) (by kernel_rfl) ?_
      refine OpTo.goF (i := 11) (by kernel_rfl) (hk := [1]) (bk := []) (GoO.call rfl (by kernel_rfl) (by kernel_rfl) (pack_Writer_Num_ok n r_21 (wu64 ((rdL l_5 x_14).Budget)) b_2 A_22 c_23) [[0], [1], [2]] [(1, 1), (2, 2)] [(1, 0)] [(2, 0)] (hks := [1]) (bks := [1]) (by kernel_rfl) (by kernel_rfl) (by kernel_rfl) (.inl rfl) rfl rfl (by kernel_rfl) (by kernel_rfl) _ (fun _ _ => rfl) _ _ (fun _ _ => rfl) (fun _ _ => rfl) (fun _ _ => by kernel_rfl) (fun _ _ => by kernel_rfl) (fun r_24 x_27 => ⟨rfl, rfl, ?_⟩))
      obtain ⟨A_25, c_26⟩ := x_27
      refine GoF.shape (env' := [(0, .pointer (some ⟨b_2, 0, none⟩)), (11, .slice A_6 l_5.length c_7), (12, .int .i64 (l_5.length : Int)), (13, .int .i64 x_14), (17, .pointer (some ⟨b_2, 0, none⟩)), (20, .int .u64 (wu64 ((rdL l_5 x_14).Part))), (21, .pointer (some ⟨b_2, 0, none⟩)), (23, .string (bs ((rdL l_5 x_14).Name))), (24, .pointer (some ⟨b_2, 0, none⟩)), (27, .int .u64 (wu64 ((rdL l_5 x_14).Budget))), (28, .pointer (some ⟨b_2, 0, none⟩))]) (H' := [⟨1, b_2, [.slice A_25 r_24.b.length c_26]⟩, ⟨40, b_17, [.int .i64 ((rdL l_5 x_14).Part), .string (bs ((rdL l_5 x_14).Name)), .int .i64 ((rdL l_5 x_14).Budget)]⟩]) (B' := [Ow 2 Kd.u8 A_25 c_26 r_24.b, Rd 0 kT_api_Step A_6 c_7 l_5]) (ks := [0, 11, 12, 13, 17, 20, 21, 23, 24, 27, 28]) (by kernel_rfl) (by kernel_rfl) (by kernel_rfl) ?_
      refine GoF.done (by kernel_rfl) ?_
      refine GoO.inBlock ?_
      refine GoO.region' (is := [0, 1]) c86_17e (by kernel_rfl) ?_
      refine GoO.exec (is := [0, 1]) (hs := [.p, .p]) (rest := []) (ks := [0, 11, 12, 13]) (env' := [(0, .pointer (some ⟨b_2, 0, none⟩)), (11, .slice A_6 l_5.length c_7), (12, .int .i64 (l_5.length : Int)), (13, .int .i64 (wi64 (x_14 + 1)))]) (H' := [⟨1, b_2, [.slice A_25 r_24.b.length c_26]⟩, ⟨40, b_17, [.int .i64 ((rdL l_5 x_14).Part), .string (bs ((rdL l_5 x_14).Name)), .int .i64 ((rdL l_5 x_14).Budget)]⟩]) (ps := []) (by kernel_rfl) trivial ?_
      refine GoO.regionEnd ?_
      refine GoO.inLoop ?_
      exact GoO.sub (ks := [0, 11, 12, 13]) (hk := [0]) (bk := [0, 1]) (by kernel_rfl) (by kernel_rfl) (by kernel_rfl) (ih0 r_24.b (wi64 (x_14 + 1)) A_25 c_26)
    · refine GoO.exit' c86_11e rfl ?_
      exact GoO.fin (hs := []) (ps := []) (hk := [0]) (bk := [0]) Try.func86 (⟨A_12, c_13⟩ : Option Addr × Nat) (by kernel_rfl) trivial (by kernel_rfl) (by kernel_rfl)
theorem plan_Write_ok (n : Nat) (w_1 : T_pack_Writer) (l_5 : (List T_api_Step)) (b_2 : Nat) (A_3 : Option Addr) (c_4 : Nat) (A_6 : Option Addr) (c_7 : Nat) :
    Meets Try.prog 86 [.pointer (some ⟨b_2, 0, none⟩), .slice A_6 l_5.length c_7] 2 [1, 2] [⟨1, b_2, [.slice A_3 w_1.b.length c_4]⟩] [Ow 2 Kd.u8 A_3 c_4 w_1.b, Rd 0 kT_api_Step A_6 c_7 l_5] (plan_Write.f n w_1 l_5) (plan_Write.R b_2 A_3 c_4 A_6 c_7) := by
  refine Meets.of (c := c86_0) (n := 30) Try.func86 (by kernel_rfl) (by kernel_rfl) (by kernel_rfl) fun w0 S0 => ?_
  unfold plan_Write.f
  show GoO (plan_Write.cx b_2 A_3 c_4 A_6 c_7 w0 S0) [(0, .pointer (some ⟨b_2, 0, none⟩)), (1, .slice A_6 l_5.length c_7)] [⟨1, b_2, [.slice A_3 w_1.b.length c_4]⟩] [Ow 2 Kd.u8 A_3 c_4 w_1.b, Rd 0 kT_api_Step A_6 c_7 l_5] [.code c86_0] _
  refine GoO.seq' c86_0e ?_
  refine GoO.region' (is := [0, 1, 2, 3, 4]) c86_1e (by kernel_rfl) ?_
  refine GoO.exec (is := [0, 1, 2, 3]) (hs := [.p, .p, .p, .p]) (rest := [4]) (ks := [0, 1, 6, 9]) (env' := [(0, .pointer (some ⟨b_2, 0, none⟩)), (1, .slice A_6 l_5.length c_7), (6, .pointer (some ⟨b_2, 0, none⟩)), (9, .int .u64 (wu64 (l_5.length : Int)))]) (H' := [⟨1, b_2, [.slice A_3 w_1.b.length c_4]⟩]) (ps := []) (by kernel_rfl) trivial ?_
  refine OpTo.go (GoO.call rfl (by kernel_rfl) (by kernel_rfl) (pack_Writer_Num_ok n w_1 (wu64 (l_5.length : Int)) b_2 A_3 c_4) [[0], [1], [2]] [(1, 1), (2, 2)] [(1, 0)] [(2, 0)] (hks := []) (bks := [1]) (by kernel_rfl) (by kernel_rfl) (by kernel_rfl) (.inl rfl) rfl rfl (by kernel_rfl) (by kernel_rfl) _ (fun _ _ => rfl) _ _ (fun _ _ => rfl) (fun _ _ => rfl) (fun _ _ => by kernel_rfl) (fun _ _ => by kernel_rfl) (fun r_8 x_30 => ?_))
  obtain ⟨A_9, c_10⟩ := x_30
  refine GoO.shape (env' := [(0, .pointer (some ⟨b_2, 0, none⟩)), (1, .slice A_6 l_5.length c_7), (6, .pointer (some ⟨b_2, 0, none⟩)), (9, .int .u64 (wu64 (l_5.length : Int))), (10, .pointer (some ⟨b_2, 0, none⟩))]) (H' := [⟨1, b_2, [.slice A_9 r_8.b.length c_10]⟩]) (B' := [Ow 2 Kd.u8 A_9 c_10 r_8.b, Rd 0 kT_api_Step A_6 c_7 l_5]) (ks := [0, 1, 6, 9, 10]) (by kernel_rfl) (by kernel_rfl) (by kernel_rfl) ?_
  refine GoO.regionEnd ?_
  refine GoO.seq' c86_2e ?_
  refine GoO.region' (is := [0, 1, 2]) c86_3e (by kernel_rfl) ?_
  refine GoO.exec (is := [0, 1, 2]) (hs := [.p, .p, .p]) (rest := []) (ks := [0, 11, 12, 13]) (env' := [(0, .pointer (some ⟨b_2, 0, none⟩)), (11, .slice A_6 l_5.length c_7), (12, .int .i64 (l_5.length : Int)), (13, .int .i64 0)]) (H' := [⟨1, b_2, [.slice A_9 r_8.b.length c_10]⟩]) (ps := []) (by kernel_rfl) trivial ?_
  refine GoO.regionEnd ?_
  refine GoO.block' c86_4e ?_
  refine GoO.loop' c86_5e ?_
  exact GoO.sub (ks := [0, 11, 12, 13]) (hk := [0]) (bk := [0, 1]) (by kernel_rfl) (by kernel_rfl) (by kernel_rfl) (plan_Write_l0_ok n l_5 b_2 A_6 c_7 A_3 c_4 w0 S0 n r_8.b 0 A_9 c_10)

/-! (*tontine/pack.Writer).Bool -/
noncomputable def c87_0 : Code := bodyOf Try.f87
noncomputable def c87_1 : Code := cdL c87_0
noncomputable def c87_2 : Code := cdR c87_0
noncomputable def c87_3 : Code := cdL c87_2
noncomputable def c87_4 : Code := cdL c87_3
noncomputable def c87_5 : Code := cdR c87_3
noncomputable def c87_6 : Code := cdL c87_5
noncomputable def c87_7 : Code := cdL c87_6
noncomputable def c87_8 : Code := cdR c87_6
noncomputable def c87_9 : Code := cdR c87_5
noncomputable def c87_10 : Code := cdR c87_2
noncomputable def c87_11 : Code := cdL c87_10
noncomputable def c87_12 : Code := cdR c87_10
noncomputable def r87_1 : Array Oper := cdO c87_1
noncomputable def r87_4 : Array Oper := cdO c87_4
noncomputable def r87_7 : Array Oper := cdO c87_7
noncomputable def r87_11 : Array Oper := cdO c87_11
theorem c87_0e : c87_0 = .seq c87_1 c87_2 := by kernel_rfl
theorem c87_1e : c87_1 = .region 0 r87_1 false := by kernel_rfl
theorem c87_2e : c87_2 = .seq c87_3 c87_10 := by kernel_rfl
theorem c87_3e : c87_3 = .seq c87_4 c87_5 := by kernel_rfl
theorem c87_4e : c87_4 = .region 1 r87_4 false := by kernel_rfl
theorem c87_5e : c87_5 = .cond (cdC c87_5) c87_6 c87_9 := by kernel_rfl
theorem c87_6e : c87_6 = .seq c87_7 c87_8 := by kernel_rfl
theorem c87_7e : c87_7 = .region 2 r87_7 false := by kernel_rfl
theorem c87_8e : c87_8 = .ret := by kernel_rfl
theorem c87_9e : c87_9 = .skip := by kernel_rfl
theorem c87_10e : c87_10 = .seq c87_11 c87_12 := by kernel_rfl
theorem c87_11e : c87_11 = .region 3 r87_11 false := by kernel_rfl
theorem c87_12e : c87_12 = .ret := by kernel_rfl
noncomputable def pack_Writer_Bool.R (b_2 : Nat) (A_3 : Option Addr) (c_4 : Nat) : Pst T_pack_Writer where
  ε := Option Addr × Nat
  v := fun r x => .pointer (some ⟨b_2, 0, none⟩)
  H := fun r x => [⟨1, b_2, [.slice x.1 r.b.length x.2]⟩]
  B := fun r x => [Ow 2 Kd.u8 x.1 x.2 r.b]
noncomputable def pack_Writer_Bool.cx (b_2 : Nat) (A_3 : Option Addr) (c_4 : Nat) (w0 : World) (S0 : Fam) : Cx T_pack_Writer := ⟨Try.prog, 87, Try.f87, 10, w0, S0, [1, 2], 2, pack_Writer_Bool.R b_2 A_3 c_4⟩
theorem pack_Writer_Bool_ok (n : Nat) (w_1 : T_pack_Writer) (x_5 : Bool) (b_2 : Nat) (A_3 : Option Addr) (c_4 : Nat) :
    Meets Try.prog 87 [.pointer (some ⟨b_2, 0, none⟩), .bool x_5] 2 [1, 2] [⟨1, b_2, [.slice A_3 w_1.b.length c_4]⟩] [Ow 2 Kd.u8 A_3 c_4 w_1.b] (pack_Writer_Bool.f n w_1 x_5) (pack_Writer_Bool.R b_2 A_3 c_4) := by
  refine Meets.of (c := c87_0) (n := 10) Try.func87 (by kernel_rfl) (by kernel_rfl) (by kernel_rfl) fun w0 S0 => ?_
  unfold pack_Writer_Bool.f
  show GoO (pack_Writer_Bool.cx b_2 A_3 c_4 w0 S0) [(0, .pointer (some ⟨b_2, 0, none⟩)), (1, .bool x_5)] [⟨1, b_2, [.slice A_3 w_1.b.length c_4]⟩] [Ow 2 Kd.u8 A_3 c_4 w_1.b] [.code c87_0] _
  refine GoO.seq' c87_0e ?_
  refine GoO.region' (is := [0]) c87_1e (by kernel_rfl) ?_
  refine GoO.exec (is := [0]) (hs := [.p]) (rest := []) (ks := [0, 1]) (env' := [(0, .pointer (some ⟨b_2, 0, none⟩)), (1, .bool x_5)]) (H' := [⟨1, b_2, [.slice A_3 w_1.b.length c_4]⟩]) (ps := []) (by kernel_rfl) trivial ?_
  refine GoO.regionEnd ?_
  refine GoO.seq' c87_2e ?_
  refine GoO.seq' c87_3e ?_
  refine GoO.region' (is := [0]) c87_4e (by kernel_rfl) ?_
  refine GoO.exec (is := [0]) (hs := [.p]) (rest := []) (ks := [0, 5]) (env' := [(0, .pointer (some ⟨b_2, 0, none⟩)), (5, .bool x_5)]) (H' := [⟨1, b_2, [.slice A_3 w_1.b.length c_4]⟩]) (ps := []) (by kernel_rfl) trivial ?_
  refine GoO.regionEnd ?_
  refine GoO.ite' c87_5e (by kernel_rfl) (fun h6 => ?_) (fun h6 => ?_)
  · refine GoO.seq' c87_6e ?_
    refine GoO.region' (is := [0, 1, 2]) c87_7e (by kernel_rfl) ?_
    refine GoO.exec (is := [0]) (hs := [.p]) (rest := [1, 2]) (ks := [6]) (env' := [(6, .pointer (some ⟨b_2, 0, none⟩))]) (H' := [⟨1, b_2, [.slice A_3 w_1.b.length c_4]⟩]) (ps := []) (by kernel_rfl) trivial ?_
    refine OpTo.go (GoO.call rfl (by kernel_rfl) (by kernel_rfl) (pack_Writer_Num_ok n w_1 1 b_2 A_3 c_4) [[0], [1], [2]] [(1, 1), (2, 2)] [(1, 0)] [(2, 0)] (hks := []) (bks := []) (by kernel_rfl) (by kernel_rfl) (by kernel_rfl) (.inl rfl) rfl rfl (by kernel_rfl) (by kernel_rfl) _ (fun _ _ => rfl) _ _ (fun _ _ => rfl) (fun _ _ => rfl) (fun _ _ => by kernel_rfl) (fun _ _ => by kernel_rfl) (fun r_7 x_10 => ?_))
    obtain ⟨A_8, c_9⟩ := x_10
    refine GoO.shape (env' := [(6, .pointer (some ⟨b_2, 0, none⟩)), (7, .pointer (some ⟨b_2, 0, none⟩))]) (H' := [⟨1, b_2, [.slice A_8 r_7.b.length c_9]⟩]) (B' := [Ow 2 Kd.u8 A_8 c_9 r_7.b]) (ks := [6, 7]) (by kernel_rfl) (by kernel_rfl) (by kernel_rfl) ?_
    refine GoO.exec (is := [2]) (hs := [.p]) (rest := []) (ks := [4]) (env' := [(4, .pointer (some ⟨b_2, 0, none⟩))]) (H' := [⟨1, b_2, [.slice A_8 r_7.b.length c_9]⟩]) (ps := []) (by kernel_rfl) trivial ?_
    refine GoO.regionEnd ?_
    exact GoO.ret' (h := c87_8e) (hs := []) (ps := []) (hk := [0]) (bk := [0]) Try.func87 (⟨A_8, c_9⟩ : Option Addr × Nat) (by kernel_rfl) trivial (by kernel_rfl) (by kernel_rfl)
  · refine GoO.skip' c87_9e ?_
    refine GoO.seq' c87_10e ?_
    refine GoO.region' (is := [0, 1, 2]) c87_11e (by kernel_rfl) ?_
    refine GoO.exec (is := [0]) (hs := [.p]) (rest := [1, 2]) (ks := [8]) (env' := [(8, .pointer (some ⟨b_2, 0, none⟩))]) (H' := [⟨1, b_2, [.slice A_3 w_1.b.length c_4]⟩]) (ps := []) (by kernel_rfl) trivial ?_
    refine OpTo.go (GoO.call rfl (by kernel_rfl) (by kernel_rfl) (pack_Writer_Num_ok n w_1 0 b_2 A_3 c_4) [[0], [1], [2]] [(1, 1), (2, 2)] [(1, 0)] [(2, 0)] (hks := []) (bks := []) (by kernel_rfl) (by kernel_rfl) (by kernel_rfl) (.inl rfl) rfl rfl (by kernel_rfl) (by kernel_rfl) _ (fun _ _ => rfl) _ _ (fun _ _ => rfl) (fun _ _ => rfl) (fun _ _ => by kernel_rfl) (fun _ _ => by kernel_rfl) (fun r_11 x_14 => ?_))
    obtain ⟨A_12, c_13⟩ := x_14
    refine GoO.shape (env' := [(8, .pointer (some ⟨b_2, 0, none⟩)), (9, .pointer (some ⟨b_2, 0, none⟩))]) (H' := [⟨1, b_2, [.slice A_12 r_11.b.length c_13]⟩]) (B' := [Ow 2 Kd.u8 A_12 c_13 r_11.b]) (ks := [8, 9]) (by kernel_rfl) (by kernel_rfl) (by kernel_rfl) ?_
    refine GoO.exec (is := [2]) (hs := [.p]) (rest := []) (ks := [4]) (env' := [(4, .pointer (some ⟨b_2, 0, none⟩))]) (H' := [⟨1, b_2, [.slice A_12 r_11.b.length c_13]⟩]) (ps := []) (by kernel_rfl) trivial ?_
    refine GoO.regionEnd ?_
    exact GoO.ret' (h := c87_12e) (hs := []) (ps := []) (hk := [0]) (bk := [0]) Try.func87 (⟨A_12, c_13⟩ : Option Addr × Nat) (by kernel_rfl) trivial (by kernel_rfl) (by kernel_rfl)

/-! (*tontine/pack.Writer).Bytes -/
noncomputable def c76_0 : Code := bodyOf Try.f76
noncomputable def c76_1 : Code := cdL c76_0
noncomputable def c76_2 : Code := cdR c76_0
noncomputable def c76_3 : Code := cdL c76_2
noncomputable def c76_4 : Code := cdL c76_3
noncomputable def c76_5 : Code := cdR c76_3
noncomputable def c76_9 : Code := cdR c76_5
noncomputable def c76_10 : Code := cdR c76_2
noncomputable def c76_11 : Code := cdL c76_10
noncomputable def c76_12 : Code := cdR c76_10
noncomputable def c76_6 : Code := cdL c76_5
noncomputable def r76_1 : Array Oper := cdO c76_1
noncomputable def r76_4 : Array Oper := cdO c76_4
noncomputable def r76_11 : Array Oper := cdO c76_11
theorem c76_0e : c76_0 = .seq c76_1 c76_2 := by kernel_rfl
theorem c76_1e : c76_1 = .region 0 r76_1 false := by kernel_rfl
theorem c76_2e : c76_2 = .seq c76_3 c76_10 := by kernel_rfl
theorem c76_3e : c76_3 = .seq c76_4 c76_5 := by kernel_rfl
theorem c76_4e : c76_4 = .region 1 r76_4 false := by kernel_rfl
theorem c76_5e : c76_5 = .cond (cdC c76_5) c76_6 c76_9 := by kernel_rfl
theorem c76_9e : c76_9 = .skip := by kernel_rfl
theorem c76_10e : c76_10 = .seq c76_11 c76_12 := by kernel_rfl
theorem c76_11e : c76_11 = .region 3 r76_11 false := by kernel_rfl
theorem c76_12e : c76_12 = .ret := by kernel_rfl
noncomputable def pack_Writer_Bytes.R (b_2 : Nat) (A_3 : Option Addr) (c_4 : Nat) : Pst (List UInt8) where
  ε := Unit
  v := fun r x => .string (bs r)
  H := fun r x => []
  B := fun r x => []
noncomputable def pack_Writer_Bytes.cx (b_2 : Nat) (A_3 : Option Addr) (c_4 : Nat) (w0 : World) (S0 : Fam) : Cx (List UInt8) := ⟨Try.prog, 76, Try.f76, 10, w0, S0, [], 2, pack_Writer_Bytes.R b_2 A_3 c_4⟩
theorem pack_Writer_Bytes_ok (n : Nat) (w_1 : T_pack_Writer) (b_2 : Nat) (A_3 : Option Addr) (c_4 : Nat) :
    Meets Try.prog 76 [.pointer (some ⟨b_2, 0, none⟩)] 2 [] [⟨1, b_2, [.slice A_3 w_1.b.length c_4]⟩] [Ow 2 Kd.u8 A_3 c_4 w_1.b] (pack_Writer_Bytes.f n w_1) (pack_Writer_Bytes.R b_2 A_3 c_4) := by
  refine Meets.of (c := c76_0) (n := 10) Try.func76 (by kernel_rfl) (by kernel_rfl) (by kernel_rfl) fun w0 S0 => ?_
  unfold pack_Writer_Bytes.f
  show GoO (pack_Writer_Bytes.cx b_2 A_3 c_4 w0 S0) [(0, .pointer (some ⟨b_2, 0, none⟩))] [⟨1, b_2, [.slice A_3 w_1.b.length c_4]⟩] [Ow 2 Kd.u8 A_3 c_4 w_1.b] [.code c76_0] _
  refine GoO.seq' c76_0e ?_
  refine GoO.region' (is := [0]) c76_1e (by kernel_rfl) ?_
  refine GoO.exec (is := [0]) (hs := [.p]) (rest := []) (ks := [0]) (env' := [(0, .pointer (some ⟨b_2, 0, none⟩))]) (H' := [⟨1, b_2, [.slice A_3 w_1.b.length c_4]⟩]) (ps := []) (by kernel_rfl) trivial ?_
  refine GoO.regionEnd ?_
  refine GoO.seq' c76_2e ?_
  refine GoO.seq' c76_3e ?_
  refine GoO.region' (is := [0, 1]) c76_4e (by kernel_rfl) ?_
  refine GoO.exec (is := [0, 1]) (hs := [.p, .p]) (rest := []) (ks := [0, 4]) (env' := [(0, .pointer (some ⟨b_2, 0, none⟩)), (4, .bool false)]) (H' := [⟨1, b_2, [.slice A_3 w_1.b.length c_4]⟩]) (ps := []) (by kernel_rfl) trivial ?_
  refine GoO.regionEnd ?_
  refine GoO.condF c76_5e (by kernel_rfl) ?_
  refine GoO.skip' c76_9e ?_
  refine GoO.seq' c76_10e ?_
  refine GoO.region' (is := [0, 1, 2, 3, 4, 5]) c76_11e (by kernel_rfl) ?_
  refine GoO.exec (is := [0, 1, 2, 3]) (hs := [.p, .p, .p, .b 0]) (rest := [4, 5]) (ks := [8]) (env' := [(8, .slice A_3 w_1.b.length c_4)]) (H' := [⟨1, b_2, [.slice A_3 w_1.b.length c_4]⟩]) (ps := [b_2 = b_2]) (by kernel_rfl) (And.intro rfl trivial) ?_
  refine OpTo.go (GoO.toStr (e := 5) (A := A_3) (c := c_4) (xs := w_1.b) (j := 0) rfl (by kernel_rfl) (by kernel_rfl) (by kernel_rfl) (by kernel_rfl) rfl Reads.own rfl rfl ?_)
  refine GoO.exec (is := [5]) (hs := [.p]) (rest := []) (ks := [2]) (env' := [(2, .string (bs w_1.b))]) (H' := [⟨1, b_2, [.slice A_3 w_1.b.length c_4]⟩]) (ps := []) (by kernel_rfl) trivial ?_
  refine GoO.regionEnd ?_
  exact GoO.ret' (h := c76_12e) (hs := []) (ps := []) (hk := []) (bk := []) Try.func76 () (by kernel_rfl) trivial (by kernel_rfl) (by kernel_rfl)

/-! tontine/command.Encode -/
noncomputable def c67_0 : Code := bodyOf Try.f67
noncomputable def c67_1 : Code := cdL c67_0
noncomputable def c67_2 : Code := cdR c67_0
noncomputable def c67_3 : Code := cdL c67_2
noncomputable def c67_4 : Code := cdL c67_3
noncomputable def c67_5 : Code := cdR c67_3
noncomputable def c67_6 : Code := cdL c67_5
noncomputable def c67_7 : Code := cdL c67_6
noncomputable def c67_8 : Code := cdR c67_6
noncomputable def c67_9 : Code := cdR c67_5
noncomputable def c67_10 : Code := cdR c67_2
noncomputable def c67_11 : Code := cdL c67_10
noncomputable def c67_12 : Code := cdL c67_11
noncomputable def c67_13 : Code := cdR c67_11
noncomputable def c67_14 : Code := cdL c67_13
noncomputable def c67_15 : Code := cdL c67_14
noncomputable def c67_16 : Code := cdR c67_14
noncomputable def c67_17 : Code := cdR c67_13
noncomputable def c67_18 : Code := cdR c67_10
noncomputable def c67_19 : Code := cdL c67_18
noncomputable def c67_20 : Code := cdR c67_18
noncomputable def c67_21 : Code := cdL c67_20
noncomputable def c67_22 : Code := cdL c67_21
noncomputable def c67_23 : Code := cdR c67_21
noncomputable def c67_24 : Code := cdL c67_23
noncomputable def c67_25 : Code := cdL c67_24
noncomputable def c67_26 : Code := cdR c67_24
noncomputable def c67_27 : Code := cdL c67_26
noncomputable def c67_28 : Code := cdR c67_26
noncomputable def c67_29 : Code := cdL c67_28
noncomputable def c67_30 : Code := cdR c67_28
noncomputable def c67_31 : Code := cdL c67_30
noncomputable def c67_32 : Code := cdR c67_30
noncomputable def c67_33 : Code := cdR c67_20
noncomputable def c67_34 : Code := cdL c67_33
noncomputable def c67_35 : Code := cdR c67_33
noncomputable def r67_1 : Array Oper := cdO c67_1
noncomputable def r67_4 : Array Oper := cdO c67_4
noncomputable def r67_7 : Array Oper := cdO c67_7
noncomputable def r67_12 : Array Oper := cdO c67_12
noncomputable def r67_15 : Array Oper := cdO c67_15
noncomputable def r67_19 : Array Oper := cdO c67_19
noncomputable def r67_22 : Array Oper := cdO c67_22
noncomputable def r67_25 : Array Oper := cdO c67_25
noncomputable def r67_27 : Array Oper := cdO c67_27
noncomputable def r67_29 : Array Oper := cdO c67_29
noncomputable def r67_31 : Array Oper := cdO c67_31
noncomputable def r67_34 : Array Oper := cdO c67_34
theorem c67_0e : c67_0 = .seq c67_1 c67_2 := by kernel_rfl
theorem c67_1e : c67_1 = .region 0 r67_1 false := by kernel_rfl
theorem c67_2e : c67_2 = .seq c67_3 c67_10 := by kernel_rfl
theorem c67_3e : c67_3 = .seq c67_4 c67_5 := by kernel_rfl
theorem c67_4e : c67_4 = .region 1 r67_4 false := by kernel_rfl
theorem c67_5e : c67_5 = .cond (cdC c67_5) c67_6 c67_9 := by kernel_rfl
theorem c67_6e : c67_6 = .seq c67_7 c67_8 := by kernel_rfl
theorem c67_7e : c67_7 = .region 2 r67_7 false := by kernel_rfl
theorem c67_8e : c67_8 = .ret := by kernel_rfl
theorem c67_9e : c67_9 = .skip := by kernel_rfl
theorem c67_10e : c67_10 = .seq c67_11 c67_18 := by kernel_rfl
theorem c67_11e : c67_11 = .seq c67_12 c67_13 := by kernel_rfl
theorem c67_12e : c67_12 = .region 3 r67_12 false := by kernel_rfl
theorem c67_13e : c67_13 = .cond (cdC c67_13) c67_14 c67_17 := by kernel_rfl
theorem c67_14e : c67_14 = .seq c67_15 c67_16 := by kernel_rfl
theorem c67_15e : c67_15 = .region 4 r67_15 false := by kernel_rfl
theorem c67_16e : c67_16 = .ret := by kernel_rfl
theorem c67_17e : c67_17 = .skip := by kernel_rfl
theorem c67_18e : c67_18 = .seq c67_19 c67_20 := by kernel_rfl
theorem c67_19e : c67_19 = .region 5 r67_19 true := by kernel_rfl
theorem c67_20e : c67_20 = .seq c67_21 c67_33 := by kernel_rfl
theorem c67_21e : c67_21 = .seq c67_22 c67_23 := by kernel_rfl
theorem c67_22e : c67_22 = .region 6 r67_22 false := by kernel_rfl
theorem c67_23e : c67_23 = .block 0 c67_24 := by kernel_rfl
theorem c67_24e : c67_24 = .seq c67_25 c67_26 := by kernel_rfl
theorem c67_25e : c67_25 = .region 7 r67_25 false := by kernel_rfl
theorem c67_26e : c67_26 = .cond (cdC c67_26) c67_27 c67_28 := by kernel_rfl
theorem c67_27e : c67_27 = .region 8 r67_27 false := by kernel_rfl
theorem c67_28e : c67_28 = .seq c67_29 c67_30 := by kernel_rfl
theorem c67_29e : c67_29 = .region 9 r67_29 false := by kernel_rfl
theorem c67_30e : c67_30 = .cond (cdC c67_30) c67_31 c67_32 := by kernel_rfl
theorem c67_31e : c67_31 = .region 10 r67_31 true := by kernel_rfl
theorem c67_32e : c67_32 = .skip := by kernel_rfl
theorem c67_33e : c67_33 = .seq c67_34 c67_35 := by kernel_rfl
theorem c67_34e : c67_34 = .region 11 r67_34 false := by kernel_rfl
theorem c67_35e : c67_35 = .ret := by kernel_rfl
noncomputable def command_Encode.R (A_2 : Option Addr) (c_3 : Nat) : Pst ((List UInt8) × Int) where
  ε := Unit
  v := fun r x => .tuple ⟨[.string (bs r.1), .int .i64 r.2]⟩
  H := fun r x => []
  B := fun r x => []
noncomputable def command_Encode.cx (A_2 : Option Addr) (c_3 : Nat) (w0 : World) (S0 : Fam) : Cx ((List UInt8) × Int) := ⟨Try.prog, 67, Try.f67, 61, w0, S0, [], 0, command_Encode.R A_2 c_3⟩
theorem command_Encode_j1_ok (n : Nat) (b_11 : Nat) (A_2 : Option Addr) (c_3 : Nat) (w0 : World) (S0 : Fam) (f_44 : (List UInt8)) (A_45 : Option Addr) (c_46 : Nat) :
    GoO (command_Encode.cx A_2 c_3 w0 S0) [(4, .pointer (some ⟨b_11, 0, none⟩))] [⟨41, b_11, [.slice A_45 f_44.length c_46]⟩] [Ow 42 Kd.u8 A_45 c_46 f_44] [.inBlock 0, .code c67_33] (command_Encode.j1 n f_44) := by
  unfold command_Encode.j1
  refine GoO.inBlock ?_
  refine GoO.seq' c67_33e ?_
  refine GoO.region' (is := [0, 1, 2, 3]) c67_34e (by kernel_rfl) ?_
  refine GoO.exec (is := [0]) (hs := [.p]) (rest := [1, 2, 3]) (ks := [59]) (env' := [(59, .pointer (some ⟨b_11, 0, none⟩))]) (H' := [⟨41, b_11, [.slice A_45 f_44.length c_46]⟩]) (ps := []) (by kernel_rfl) trivial ?_
  refine OpTo.go (GoO.call rfl (by kernel_rfl) (by kernel_rfl) (pack_Writer_Bytes_ok n (⟨f_44⟩ : T_pack_Writer) b_11 A_45 c_46) [[0], [41], [42]] [] [(1, 0)] [(2, 0)] (hks := [0]) (bks := [0]) (by kernel_rfl) (by kernel_rfl) (by kernel_rfl) (.inl rfl) rfl rfl (by kernel_rfl) (by kernel_rfl) _ (fun _ _ => rfl) _ _ (fun _ _ => rfl) (fun _ _ => rfl) (fun _ _ => by kernel_rfl) (fun _ _ => by kernel_rfl) (fun r_47 x_48 => ?_))
  refine GoO.shape (env' := [(59, .pointer (some ⟨b_11, 0, none⟩)), (60, .string (bs r_47))]) (H' := [⟨41, b_11, [.slice A_45 f_44.length c_46]⟩]) (B' := [Ow 42 Kd.u8 A_45 c_46 f_44]) (ks := [59, 60]) (by kernel_rfl) (by kernel_rfl) (by kernel_rfl) ?_
  refine GoO.exec (is := [2, 3]) (hs := [.p, .p]) (rest := []) (ks := [2, 3]) (env' := [(2, .string (bs r_47)), (3, .int .i64 0)]) (H' := [⟨41, b_11, [.slice A_45 f_44.length c_46]⟩]) (ps := []) (by kernel_rfl) trivial ?_
  refine GoO.regionEnd ?_
  exact GoO.ret' (h := c67_35e) (hs := []) (ps := []) (hk := []) (bk := []) Try.func67 () (by kernel_rfl) trivial (by kernel_rfl) (by kernel_rfl)
theorem command_Encode_j0_ok (n : Nat) (c_1 : T_api_Command) (A_2 : Option Addr) (c_3 : Nat) (b_4 : Nat) (w0 : World) (S0 : Fam) (b_7 : Bool) :
    GoO (command_Encode.cx A_2 c_3 w0 S0) [(1, .pointer (some ⟨b_4, 0, none⟩)), (13, .bool b_7)] [⟨40, b_4, [.int .i64 c_1.Kind, .int .u64 c_1.Session, .int .u64 c_1.Seq, .int .u64 c_1.Saga, .slice A_2 c_1.Steps.length c_3, .int .i64 c_1.Step, .bool c_1.Back, .int .i64 c_1.Try, .bool c_1.Ok, .int .u64 c_1.Now]⟩] [Rd 0 kT_api_Step A_2 c_3 c_1.Steps] [.code c67_5, .code c67_10] (command_Encode.j0 n c_1 b_7) := by
  unfold command_Encode.j0
  refine GoO.ite' c67_5e (by kernel_rfl) (fun h8 => ?_) (fun h8 => ?_)
  · refine GoO.seq' c67_6e ?_
    refine GoO.region' (is := [0, 1]) c67_7e (by kernel_rfl) ?_
    refine GoO.exec (is := [0, 1]) (hs := [.p, .p]) (rest := []) (ks := [2, 3]) (env' := [(2, .string (bs [])), (3, .int .i64 44)]) (H' := [⟨40, b_4, [.int .i64 c_1.Kind, .int .u64 c_1.Session, .int .u64 c_1.Seq, .int .u64 c_1.Saga, .slice A_2 c_1.Steps.length c_3, .int .i64 c_1.Step, .bool c_1.Back, .int .i64 c_1.Try, .bool c_1.Ok, .int .u64 c_1.Now]⟩]) (ps := []) (by kernel_rfl) trivial ?_
    refine GoO.regionEnd ?_
    exact GoO.ret' (h := c67_8e) (hs := []) (ps := []) (hk := []) (bk := []) Try.func67 () (by kernel_rfl) trivial (by kernel_rfl) (by kernel_rfl)
  · refine GoO.skip' c67_9e ?_
    refine GoO.seq' c67_10e ?_
    refine GoO.seq' c67_11e ?_
    refine GoO.region' (is := [0, 1, 2]) c67_12e (by kernel_rfl) ?_
    refine GoO.exec (is := [0]) (hs := [.b 0]) (rest := [1, 2]) (ks := [1, 14]) (env' := [(1, .pointer (some ⟨b_4, 0, none⟩)), (14, .agg ⟨[.int .i64 c_1.Kind, .int .u64 c_1.Session, .int .u64 c_1.Seq, .int .u64 c_1.Saga, .slice A_2 c_1.Steps.length c_3, .int .i64 c_1.Step, .bool c_1.Back, .int .i64 c_1.Try, .bool c_1.Ok, .int .u64 c_1.Now]⟩)]) (H' := [⟨40, b_4, [.int .i64 c_1.Kind, .int .u64 c_1.Session, .int .u64 c_1.Seq, .int .u64 c_1.Saga, .slice A_2 c_1.Steps.length c_3, .int .i64 c_1.Step, .bool c_1.Back, .int .i64 c_1.Try, .bool c_1.Ok, .int .u64 c_1.Now]⟩]) (ps := [b_4 = b_4]) (by kernel_rfl) (And.intro rfl trivial) ?_
    refine OpTo.go (GoO.call rfl (by kernel_rfl) (by kernel_rfl) (command_May_ok n c_1 A_2 c_3) [[0]] [] [] [(0, 0)] (hks := [0]) (bks := [0]) (by kernel_rfl) (by kernel_rfl) (by kernel_rfl) (.inl rfl) rfl rfl (by kernel_rfl) (by kernel_rfl) _ (fun _ _ => rfl) _ _ (fun _ _ => rfl) (fun _ _ => rfl) (fun _ _ => by kernel_rfl) (fun _ _ => by kernel_rfl) (fun r_9 x_54 => ?_))
    refine GoO.shape (env' := [(1, .pointer (some ⟨b_4, 0, none⟩)), (14, .agg ⟨[.int .i64 c_1.Kind, .int .u64 c_1.Session, .int .u64 c_1.Seq, .int .u64 c_1.Saga, .slice A_2 c_1.Steps.length c_3, .int .i64 c_1.Step, .bool c_1.Back, .int .i64 c_1.Try, .bool c_1.Ok, .int .u64 c_1.Now]⟩), (15, .bool r_9)]) (H' := [⟨40, b_4, [.int .i64 c_1.Kind, .int .u64 c_1.Session, .int .u64 c_1.Seq, .int .u64 c_1.Saga, .slice A_2 c_1.Steps.length c_3, .int .i64 c_1.Step, .bool c_1.Back, .int .i64 c_1.Try, .bool c_1.Ok, .int .u64 c_1.Now]⟩]) (B' := [Rd 0 kT_api_Step A_2 c_3 c_1.Steps]) (ks := [1, 14, 15]) (by kernel_rfl) (by kernel_rfl) (by kernel_rfl) ?_
    refine GoO.exec (is := [2]) (hs := [.p]) (rest := []) (ks := [1, 16]) (env' := [(1, .pointer (some ⟨b_4, 0, none⟩)), (16, .bool (!r_9))]) (H' := [⟨40, b_4, [.int .i64 c_1.Kind, .int .u64 c_1.Session, .int .u64 c_1.Seq, .int .u64 c_1.Saga, .slice A_2 c_1.Steps.length c_3, .int .i64 c_1.Step, .bool c_1.Back, .int .i64 c_1.Try, .bool c_1.Ok, .int .u64 c_1.Now]⟩]) (ps := []) (by kernel_rfl) trivial ?_
    refine GoO.regionEnd ?_
    refine GoO.ite' c67_13e (by kernel_rfl) (fun h10 => ?_) (fun h10 => ?_)
    · refine GoO.seq' c67_14e ?_
      refine GoO.region' (is := [0, 1]) c67_15e (by kernel_rfl) ?_
      refine GoO.exec (is := [0, 1]) (hs := [.p, .p]) (rest := []) (ks := [2, 3]) (env' := [(2, .string (bs [])), (3, .int .i64 1)]) (H' := [⟨40, b_4, [.int .i64 c_1.Kind, .int .u64 c_1.Session, .int .u64 c_1.Seq, .int .u64 c_1.Saga, .slice A_2 c_1.Steps.length c_3, .int .i64 c_1.Step, .bool c_1.Back, .int .i64 c_1.Try, .bool c_1.Ok, .int .u64 c_1.Now]⟩]) (ps := []) (by kernel_rfl) trivial ?_
      refine GoO.regionEnd ?_
      exact GoO.ret' (h := c67_16e) (hs := []) (ps := []) (hk := []) (bk := []) Try.func67 () (by kernel_rfl) trivial (by kernel_rfl) (by kernel_rfl)
    · refine GoO.skip' c67_17e ?_
      refine GoO.seq' c67_18e ?_
      refine GoO.draw c67_19e (by kernel_rfl) [17] [⟨40, b_4, [.int .i64 c_1.Kind, .int .u64 c_1.Session, .int .u64 c_1.Seq, .int .u64 c_1.Saga, .slice A_2 c_1.Steps.length c_3, .int .i64 c_1.Step, .bool c_1.Back, .int .i64 c_1.Try, .bool c_1.Ok, .int .u64 c_1.Now]⟩] [] (n := 18) (by kernel_rfl) ?_
      simp only [List.replicate]
      refine GoF.take [1, 2, 3, 5, 6, 8, 9, 11, 12, 14, 15] [.p, .b 0, .p, .p, .b 0, .p, .b 0, .p, .b 0, .p, .b 0] (ks := [1, 20, 23, 26, 29, 32]) (fu := 7) (li := [false, true, true, true, false, true, true, false, true, true, false, true, true, false, true, true, false, false]) (env' := [(1, .pointer (some ⟨b_4, 0, none⟩)), (20, .int .u64 (wu64 c_1.Kind)), (23, .int .u64 c_1.Session), (26, .int .u64 c_1.Seq), (29, .int .u64 c_1.Saga), (32, .int .u64 c_1.Now)]) (ps := [b_4 = b_4, b_4 = b_4, b_4 = b_4, b_4 = b_4, b_4 = b_4]) (hk := [0]) (bk := []) (by kernel_rfl) (And.intro rfl (And.intro rfl (And.intro rfl (And.intro rfl (And.intro rfl trivial))))) rfl rfl ?_
      refine OpTo.goF (i := 0) (by kernel_rfl) (hk := [1]) (bk := []) (GoO.new rfl 41 (cs := [.slice none ([] : List UInt8).length 0]) (by kernel_rfl) _ (fun _ => rfl) (fun b_11 => ⟨rfl, rfl, ?_⟩))
      refine GoF.nilOwn Kd.u8 42 ?_
      refine OpTo.goF (i := 4) (by kernel_rfl) (hk := [1]) (bk := []) (GoO.call rfl (by kernel_rfl) (by kernel_rfl) (pack_Writer_Num_ok n (⟨[]⟩ : T_pack_Writer) (wu64 c_1.Kind) b_11 none 0) [[0], [41], [42]] [(41, 1), (42, 2)] [(1, 0)] [(2, 0)] (hks := [1]) (bks := [1]) (by kernel_rfl) (by kernel_rfl) (by kernel_rfl) (.inl rfl) rfl rfl (by kernel_rfl) (by kernel_rfl) _ (fun _ _ => rfl) _ _ (fun _ _ => rfl) (fun _ _ => rfl) (fun _ _ => by kernel_rfl) (fun _ _ => by kernel_rfl) (fun r_12 x_53 => ⟨rfl, rfl, ?_⟩))
      obtain ⟨A_13, c_14⟩ := x_53
      refine GoF.shape (env' := [(1, .pointer (some ⟨b_4, 0, none⟩)), (17, .pointer (some ⟨b_11, 0, none⟩)), (20, .int .u64 (wu64 c_1.Kind)), (21, .pointer (some ⟨b_11, 0, none⟩)), (23, .int .u64 c_1.Session), (26, .int .u64 c_1.Seq), (29, .int .u64 c_1.Saga), (32, .int .u64 c_1.Now)]) (H' := [⟨41, b_11, [.slice A_13 r_12.b.length c_14]⟩, ⟨40, b_4, [.int .i64 c_1.Kind, .int .u64 c_1.Session, .int .u64 c_1.Seq, .int .u64 c_1.Saga, .slice A_2 c_1.Steps.length c_3, .int .i64 c_1.Step, .bool c_1.Back, .int .i64 c_1.Try, .bool c_1.Ok, .int .u64 c_1.Now]⟩]) (B' := [Ow 42 Kd.u8 A_13 c_14 r_12.b, Rd 0 kT_api_Step A_2 c_3 c_1.Steps]) (ks := [1, 17, 20, 21, 23, 26, 29, 32]) (by kernel_rfl) (by kernel_rfl) (by kernel_rfl) ?_
      refine OpTo.goF (i := 7) (by kernel_rfl) (hk := [1]) (bk := []) (GoO.call rfl (by kernel_rfl) (by kernel_rfl) (pack_Writer_Num_ok n r_12 c_1.Session b_11 A_13 c_14) [[0], [41], [42]] [(41, 1), (42, 2)] [(1, 0)] [(2, 0)] (hks := [1]) (bks := [1]) (by kernel_rfl) (by kernel_rfl) (by kernel_rfl) (.inl rfl) rfl rfl (by kernel_rfl) (by kernel_rfl) _ (fun _ _ => rfl) _ _ (fun _ _ => rfl) (fun _ _ => rfl) (fun _ _ => by kernel_rfl) (fun _ _ => by kernel_rfl) (fun r_15 x_52 => ⟨rfl, rfl, ?_⟩))
      obtain ⟨A_16, c_17⟩ := x_52
      refine GoF.shape (env' := [(1, .pointer (some ⟨b_4, 0, none⟩)), (17, .pointer (some ⟨b_11, 0, none⟩)), (20, .int .u64 (wu64 c_1.Kind)), (21, .pointer (some ⟨b_11, 0, none⟩)), (23, .int .u64 c_1.Session), (24, .pointer (some ⟨b_11, 0, none⟩)), (26, .int .u64 c_1.Seq), (29, .int .u64 c_1.Saga), (32, .int .u64 c_1.Now)]) (H' := [⟨41, b_11, [.slice A_16 r_15.b.length c_17]⟩, ⟨40, b_4, [.int .i64 c_1.Kind, .int .u64 c_1.Session, .int .u64 c_1.Seq, .int .u64 c_1.Saga, .slice A_2 c_1.Steps.length c_3, .int .i64 c_1.Step, .bool c_1.Back, .int .i64 c_1.Try, .bool c_1.Ok, .int .u64 c_1.Now]⟩]) (B' := [Ow 42 Kd.u8 A_16 c_17 r_15.b, Rd 0 kT_api_Step A_2 c_3 c_1.Steps]) (ks := [1, 17, 20, 21, 23, 24, 26, 29, 32]) (by kernel_rfl) (by kernel_rfl) (by kernel_rfl) ?_
      refine OpTo.goF (i := 10) (by kernel_rfl) (hk := [1]) (bk := []) (GoO.call rfl (by kernel_rfl) (by kernel_rfl) (pack_Writer_Num_ok n r_15 c_1.Seq b_11 A_16 c_17) [[0], [41], [42]] [(41, 1), (42, 2)] [(1, 0)] [(2, 0)] (hks := [1]) (bks := [1]) (by kernel_rfl) (by kernel_rfl) (by kernel_rfl) (.inl rfl) rfl rfl (by kernel_rfl) (by kernel_rfl) _ (fun _ _ => rfl) _ _ (fun _ _ => rfl) (fun _ _ => rfl) (fun _ _ => by kernel_rfl) (fun _ _ => by kernel_rfl) (fun r_18 x_51 => ⟨rfl, rfl, ?_⟩))
      obtain ⟨A_19, c_20⟩ := x_51
      refine GoF.shape (env' := [(1, .pointer (some ⟨b_4, 0, none⟩)), (17, .pointer (some ⟨b_11, 0, none⟩)), (20, .int .u64 (wu64 c_1.Kind)), (21, .pointer (some ⟨b_11, 0, none⟩)), (23, .int .u64 c_1.Session), (24, .pointer (some ⟨b_11, 0, none⟩)), (26, .int .u64 c_1.Seq), (27, .pointer (some ⟨b_11, 0, none⟩)), (29, .int .u64 c_1.Saga), (32, .int .u64 c_1.Now)]) (H' := [⟨41, b_11, [.slice A_19 r_18.b.length c_20]⟩, ⟨40, b_4, [.int .i64 c_1.Kind, .int .u64 c_1.Session, .int .u64 c_1.Seq, .int .u64 c_1.Saga, .slice A_2 c_1.Steps.length c_3, .int .i64 c_1.Step, .bool c_1.Back, .int .i64 c_1.Try, .bool c_1.Ok, .int .u64 c_1.Now]⟩]) (B' := [Ow 42 Kd.u8 A_19 c_20 r_18.b, Rd 0 kT_api_Step A_2 c_3 c_1.Steps]) (ks := [1, 17, 20, 21, 23, 24, 26, 27, 29, 32]) (by kernel_rfl) (by kernel_rfl) (by kernel_rfl) ?_
      refine OpTo.goF (i := 13) (by kernel_rfl) (hk := [1]) (bk := []) (GoO.call rfl (by kernel_rfl) (by kernel_rfl) (pack_Writer_Num_ok n r_18 c_1.Saga b_11 A_19 c_20) [[0], [41], [42]] [(41, 1), (42, 2)] [(1, 0)] [(2, 0)] (hks := [1]) (bks := [1]) (by kernel_rfl) (by kernel_rfl) (by kernel_rfl) (.inl rfl) rfl rfl (by kernel_rfl) (by kernel_rfl) _ (fun _ _ => rfl) _ _ (fun _ _ => rfl) (fun _ _ => rfl) (fun _ _ => by kernel_rfl) (fun _ _ => by kernel_rfl) (fun r_21 x_50 => ⟨rfl, rfl, ?_⟩))
      obtain ⟨A_22, c_23⟩ := x_50
      refine GoF.shape (env' := [(1, .pointer (some ⟨b_4, 0, none⟩)), (17, .pointer (some ⟨b_11, 0, none⟩)), (20, .int .u64 (wu64 c_1.Kind)), (21, .pointer (some ⟨b_11, 0, none⟩)), (23, .int .u64 c_1.Session), (24, .pointer (some ⟨b_11, 0, none⟩)), (26, .int .u64 c_1.Seq), (27, .pointer (some ⟨b_11, 0, none⟩)), (29, .int .u64 c_1.Saga), (30, .pointer (some ⟨b_11, 0, none⟩)), (32, .int .u64 c_1.Now)]) (H' := [⟨41, b_11, [.slice A_22 r_21.b.length c_23]⟩, ⟨40, b_4, [.int .i64 c_1.Kind, .int .u64 c_1.Session, .int .u64 c_1.Seq, .int .u64 c_1.Saga, .slice A_2 c_1.Steps.length c_3, .int .i64 c_1.Step, .bool c_1.Back, .int .i64 c_1.Try, .bool c_1.Ok, .int .u64 c_1.Now]⟩]) (B' := [Ow 42 Kd.u8 A_22 c_23 r_21.b, Rd 0 kT_api_Step A_2 c_3 c_1.Steps]) (ks := [1, 17, 20, 21, 23, 24, 26, 27, 29, 30, 32]) (by kernel_rfl) (by kernel_rfl) (by kernel_rfl) ?_
      refine OpTo.goF (i := 16) (by kernel_rfl) (hk := [1]) (bk := []) (GoO.call rfl (by kernel_rfl) (by kernel_rfl) (pack_Writer_Num_ok n r_21 c_1.Now b_11 A_22 c_23) [[0], [41], [42]] [(41, 1), (42, 2)] [(1, 0)] [(2, 0)] (hks := [1]) (bks := [1]) (by kernel_rfl) (by kernel_rfl) (by kernel_rfl) (.inl rfl) rfl rfl (by kernel_rfl) (by kernel_rfl) _ (fun _ _ => rfl) _ _ (fun _ _ => rfl) (fun _ _ => rfl) (fun _ _ => by kernel_rfl) (fun _ _ => by kernel_rfl) (fun r_24 x_49 => ⟨rfl, rfl, ?_⟩))
      obtain ⟨A_25, c_26⟩ := x_49
      refine GoF.shape (env' := [(1, .pointer (some ⟨b_4, 0, none⟩)), (17, .pointer (some ⟨b_11, 0, none⟩)), (20, .int .u64 (wu64 c_1.Kind)), (21, .pointer (some ⟨b_11, 0, none⟩)), (23, .int .u64 c_1.Session), (24, .pointer (some ⟨b_11, 0, none⟩)), (26, .int .u64 c_1.Seq), (27, .pointer (some ⟨b_11, 0, none⟩)), (29, .int .u64 c_1.Saga), (30, .pointer (some ⟨b_11, 0, none⟩)), (32, .int .u64 c_1.Now), (33, .pointer (some ⟨b_11, 0, none⟩))]) (H' := [⟨41, b_11, [.slice A_25 r_24.b.length c_26]⟩, ⟨40, b_4, [.int .i64 c_1.Kind, .int .u64 c_1.Session, .int .u64 c_1.Seq, .int .u64 c_1.Saga, .slice A_2 c_1.Steps.length c_3, .int .i64 c_1.Step, .bool c_1.Back, .int .i64 c_1.Try, .bool c_1.Ok, .int .u64 c_1.Now]⟩]) (B' := [Ow 42 Kd.u8 A_25 c_26 r_24.b, Rd 0 kT_api_Step A_2 c_3 c_1.Steps]) (ks := [1, 17, 20, 21, 23, 24, 26, 27, 29, 30, 32, 33]) (by kernel_rfl) (by kernel_rfl) (by kernel_rfl) ?_
      refine GoF.fin1 (i := 17) (hint := .p) (ps := []) (hk := []) (bk := []) (by kernel_rfl) rfl trivial (.inl rfl) ?_
      refine GoF.done (by kernel_rfl) ?_
      refine GoO.seq' c67_20e ?_
      refine GoO.seq' c67_21e ?_
      refine GoO.region' (is := [0, 1]) c67_22e (by kernel_rfl) ?_
      refine GoO.exec (is := [0, 1]) (hs := [.p, .b 1]) (rest := []) (ks := [1, 4, 35]) (env' := [(1, .pointer (some ⟨b_4, 0, none⟩)), (4, .pointer (some ⟨b_11, 0, none⟩)), (35, .int .i64 c_1.Kind)]) (H' := [⟨41, b_11, [.slice A_25 r_24.b.length c_26]⟩, ⟨40, b_4, [.int .i64 c_1.Kind, .int .u64 c_1.Session, .int .u64 c_1.Seq, .int .u64 c_1.Saga, .slice A_2 c_1.Steps.length c_3, .int .i64 c_1.Step, .bool c_1.Back, .int .i64 c_1.Try, .bool c_1.Ok, .int .u64 c_1.Now]⟩]) (ps := [b_4 = b_4]) (by kernel_rfl) (And.intro rfl trivial) ?_
      refine GoO.regionEnd ?_
      refine GoO.block' c67_23e ?_
      refine GoO.seq' c67_24e ?_
      refine GoO.region' (is := [0, 1]) c67_25e (by kernel_rfl) ?_
      refine GoO.exec (is := [0, 1]) (hs := [.p, .p]) (rest := []) (ks := [1, 4, 35, 36]) (env' := [(1, .pointer (some ⟨b_4, 0, none⟩)), (4, .pointer (some ⟨b_11, 0, none⟩)), (35, .int .i64 c_1.Kind), (36, .bool (c_1.Kind == 2))]) (H' := [⟨41, b_11, [.slice A_25 r_24.b.length c_26]⟩, ⟨40, b_4, [.int .i64 c_1.Kind, .int .u64 c_1.Session, .int .u64 c_1.Seq, .int .u64 c_1.Saga, .slice A_2 c_1.Steps.length c_3, .int .i64 c_1.Step, .bool c_1.Back, .int .i64 c_1.Try, .bool c_1.Ok, .int .u64 c_1.Now]⟩]) (ps := []) (by kernel_rfl) trivial ?_
      refine GoO.regionEnd ?_
      refine GoO.ite' c67_26e (by kernel_rfl) (fun h27 => ?_) (fun h27 => ?_)
      · refine GoO.region' (is := [0, 1, 2, 3]) c67_27e (by kernel_rfl) ?_
        refine GoO.exec (is := [0, 1, 2]) (hs := [.p, .p, .b 1]) (rest := [3]) (ks := [4, 38, 40]) (env' := [(4, .pointer (some ⟨b_11, 0, none⟩)), (38, .pointer (some ⟨b_11, 0, none⟩)), (40, .slice A_2 c_1.Steps.length c_3)]) (H' := [⟨41, b_11, [.slice A_25 r_24.b.length c_26]⟩, ⟨40, b_4, [.int .i64 c_1.Kind, .int .u64 c_1.Session, .int .u64 c_1.Seq, .int .u64 c_1.Saga, .slice A_2 c_1.Steps.length c_3, .int .i64 c_1.Step, .bool c_1.Back, .int .i64 c_1.Try, .bool c_1.Ok, .int .u64 c_1.Now]⟩]) (ps := [b_4 = b_4]) (by kernel_rfl) (And.intro rfl trivial) ?_
        refine OpTo.go (GoO.call rfl (by kernel_rfl) (by kernel_rfl) (plan_Write_ok n r_24 c_1.Steps b_11 A_25 c_26 A_2 c_3) [[0], [41], [42]] [(41, 1), (42, 2)] [(1, 0)] [(2, 0), (0, 1)] (hks := [1]) (bks := [1]) (by kernel_rfl) (by kernel_rfl) (by kernel_rfl) (.inl rfl) rfl rfl (by kernel_rfl) (by kernel_rfl) _ (fun _ _ => rfl) _ _ (fun _ _ => rfl) (fun _ _ => rfl) (fun _ _ => by kernel_rfl) (fun _ _ => by kernel_rfl) (fun r_28 x_31 => ?_))
        obtain ⟨A_29, c_30⟩ := x_31
        refine GoO.shape (env' := [(4, .pointer (some ⟨b_11, 0, none⟩)), (38, .pointer (some ⟨b_11, 0, none⟩)), (40, .slice A_2 c_1.Steps.length c_3), (41, .tuple ⟨[]⟩)]) (H' := [⟨41, b_11, [.slice A_29 r_28.b.length c_30]⟩, ⟨40, b_4, [.int .i64 c_1.Kind, .int .u64 c_1.Session, .int .u64 c_1.Seq, .int .u64 c_1.Saga, .slice A_2 c_1.Steps.length c_3, .int .i64 c_1.Step, .bool c_1.Back, .int .i64 c_1.Try, .bool c_1.Ok, .int .u64 c_1.Now]⟩]) (B' := [Ow 42 Kd.u8 A_29 c_30 r_28.b, Rd 0 kT_api_Step A_2 c_3 c_1.Steps]) (ks := [4, 38, 40, 41]) (by kernel_rfl) (by kernel_rfl) (by kernel_rfl) ?_
        refine GoO.regionEnd ?_
        exact GoO.sub (ks := [4]) (hk := [0]) (bk := [0]) (by kernel_rfl) (by kernel_rfl) (by kernel_rfl) (command_Encode_j1_ok n b_11 A_2 c_3 w0 S0 r_28.b A_29 c_30)
      · refine GoO.seq' c67_28e ?_
        refine GoO.region' (is := [0, 1]) c67_29e (by kernel_rfl) ?_
        refine GoO.exec (is := [0, 1]) (hs := [.p, .p]) (rest := []) (ks := [1, 4, 42]) (env' := [(1, .pointer (some ⟨b_4, 0, none⟩)), (4, .pointer (some ⟨b_11, 0, none⟩)), (42, .bool (c_1.Kind == 4))]) (H' := [⟨41, b_11, [.slice A_25 r_24.b.length c_26]⟩, ⟨40, b_4, [.int .i64 c_1.Kind, .int .u64 c_1.Session, .int .u64 c_1.Seq, .int .u64 c_1.Saga, .slice A_2 c_1.Steps.length c_3, .int .i64 c_1.Step, .bool c_1.Back, .int .i64 c_1.Try, .bool c_1.Ok, .int .u64 c_1.Now]⟩]) (ps := []) (by kernel_rfl) trivial ?_
        refine GoO.regionEnd ?_
        refine GoO.ite' c67_30e (by kernel_rfl) (fun h32 => ?_) (fun h32 => ?_)
        · refine GoO.draw c67_31e (by kernel_rfl) [] [⟨40, b_4, [.int .i64 c_1.Kind, .int .u64 c_1.Session, .int .u64 c_1.Seq, .int .u64 c_1.Saga, .slice A_2 c_1.Steps.length c_3, .int .i64 c_1.Step, .bool c_1.Back, .int .i64 c_1.Try, .bool c_1.Ok, .int .u64 c_1.Now]⟩] [] (n := 15) (by kernel_rfl) ?_
          simp only [List.replicate]
          refine GoF.take [0, 1, 2, 3, 5, 6, 8, 9, 10, 12, 13] [.p, .p, .b 0, .p, .p, .b 0, .p, .b 0, .p, .p, .b 0] (ks := [4, 44, 47, 50, 54, 57]) (fu := 4) (li := [true, true, true, true, false, true, true, false, true, true, true, false, true, true, false]) (env' := [(4, .pointer (some ⟨b_11, 0, none⟩)), (44, .pointer (some ⟨b_11, 0, none⟩)), (47, .int .u64 (wu64 c_1.Step)), (50, .bool c_1.Back), (54, .int .u64 (wu64 c_1.Try)), (57, .bool c_1.Ok)]) (ps := [b_4 = b_4, b_4 = b_4, b_4 = b_4, b_4 = b_4]) (hk := [1]) (bk := []) (by kernel_rfl) (And.intro rfl (And.intro rfl (And.intro rfl (And.intro rfl trivial)))) rfl rfl ?_
          refine OpTo.goF (i := 4) (by kernel_rfl) (hk := [1]) (bk := []) (GoO.call rfl (by kernel_rfl) (by kernel_rfl) (pack_Writer_Num_ok n r_24 (wu64 c_1.Step) b_11 A_25 c_26) [[0], [41], [42]] [(41, 1), (42, 2)] [(1, 0)] [(2, 0)] (hks := [1]) (bks := [1]) (by kernel_rfl) (by kernel_rfl) (by kernel_rfl) (.inl rfl) rfl rfl (by kernel_rfl) (by kernel_rfl) _ (fun _ _ => rfl) _ _ (fun _ _ => rfl) (fun _ _ => rfl) (fun _ _ => by kernel_rfl) (fun _ _ => by kernel_rfl) (fun r_33 x_48 => ⟨rfl, rfl, ?_⟩))
          obtain ⟨A_34, c_35⟩ := x_48
          refine GoF.shape (env' := [(4, .pointer (some ⟨b_11, 0, none⟩)), (44, .pointer (some ⟨b_11, 0, none⟩)), (47, .int .u64 (wu64 c_1.Step)), (48, .pointer (some ⟨b_11, 0, none⟩)), (50, .bool c_1.Back), (54, .int .u64 (wu64 c_1.Try)), (57, .bool c_1.Ok)]) (H' := [⟨41, b_11, [.slice A_34 r_33.b.length c_35]⟩, ⟨40, b_4, [.int .i64 c_1.Kind, .int .u64 c_1.Session, .int .u64 c_1.Seq, .int .u64 c_1.Saga, .slice A_2 c_1.Steps.length c_3, .int .i64 c_1.Step, .bool c_1.Back, .int .i64 c_1.Try, .bool c_1.Ok, .int .u64 c_1.Now]⟩]) (B' := [Ow 42 Kd.u8 A_34 c_35 r_33.b, Rd 0 kT_api_Step A_2 c_3 c_1.Steps]) (ks := [4, 44, 47, 48, 50, 54, 57]) (by kernel_rfl) (by kernel_rfl) (by kernel_rfl) ?_
          refine OpTo.goF (i := 7) (by kernel_rfl) (hk := [1]) (bk := []) (GoO.call rfl (by kernel_rfl) (by kernel_rfl) (pack_Writer_Bool_ok n r_33 c_1.Back b_11 A_34 c_35) [[0], [41], [42]] [(41, 1), (42, 2)] [(1, 0)] [(2, 0)] (hks := [1]) (bks := [1]) (by kernel_rfl) (by kernel_rfl) (by kernel_rfl) (.inl rfl) rfl rfl (by kernel_rfl) (by kernel_rfl) _ (fun _ _ => rfl) _ _ (fun _ _ => rfl) (fun _ _ => rfl) (fun _ _ => by kernel_rfl) (fun _ _ => by kernel_rfl) (fun r_36 x_47 => ⟨rfl, rfl, ?_⟩))
          obtain ⟨A_37, c_38⟩ := x_47
          refine GoF.shape (env' := [(4, .pointer (some ⟨b_11, 0, none⟩)), (44, .pointer (some ⟨b_11, 0, none⟩)), (47, .int .u64 (wu64 c_1.Step)), (48, .pointer (some ⟨b_11, 0, none⟩)), (50, .bool c_1.Back), (51, .pointer (some ⟨b_11, 0, none⟩)), (54, .int .u64 (wu64 c_1.Try)), (57, .bool c_1.Ok)]) (H' := [⟨41, b_11, [.slice A_37 r_36.b.length c_38]⟩, ⟨40, b_4, [.int .i64 c_1.Kind, .int .u64 c_1.Session, .int .u64 c_1.Seq, .int .u64 c_1.Saga, .slice A_2 c_1.Steps.length c_3, .int .i64 c_1.Step, .bool c_1.Back, .int .i64 c_1.Try, .bool c_1.Ok, .int .u64 c_1.Now]⟩]) (B' := [Ow 42 Kd.u8 A_37 c_38 r_36.b, Rd 0 kT_api_Step A_2 c_3 c_1.Steps]) (ks := [4, 44, 47, 48, 50, 51, 54, 57]) (by kernel_rfl) (by kernel_rfl) (by kernel_rfl) ?_
          refine OpTo.goF (i := 11) (by kernel_rfl) (hk := [1]) (bk := []) (GoO.call rfl (by kernel_rfl) (by kernel_rfl) (pack_Writer_Num_ok n r_36 (wu64 c_1.Try) b_11 A_37 c_38) [[0], [41], [42]] [(41, 1), (42, 2)] [(1, 0)] [(2, 0)] (hks := [1]) (bks := [1]) (by kernel_rfl) (by kernel_rfl) (by kernel_rfl) (.inl rfl) rfl rfl (by kernel_rfl) (by kernel_rfl) _ (fun _ _ => rfl) _ _ (fun _ _ => rfl) (fun _ _ => rfl) (fun _ _ => by kernel_rfl) (fun _ _ => by kernel_rfl) (fun r_39 x_46 => ⟨rfl, rfl, ?_⟩))
          obtain ⟨A_40, c_41⟩ := x_46
          refine GoF.shape (env' := [(4, .pointer (some ⟨b_11, 0, none⟩)), (44, .pointer (some ⟨b_11, 0, none⟩)), (47, .int .u64 (wu64 c_1.Step)), (48, .pointer (some ⟨b_11, 0, none⟩)), (50, .bool c_1.Back), (51, .pointer (some ⟨b_11, 0, none⟩)), (54, .int .u64 (wu64 c_1.Try)), (55, .pointer (some ⟨b_11, 0, none⟩)), (57, .bool c_1.Ok)]) (H' := [⟨41, b_11, [.slice A_40 r_39.b.length c_41]⟩, ⟨40, b_4, [.int .i64 c_1.Kind, .int .u64 c_1.Session, .int .u64 c_1.Seq, .int .u64 c_1.Saga, .slice A_2 c_1.Steps.length c_3, .int .i64 c_1.Step, .bool c_1.Back, .int .i64 c_1.Try, .bool c_1.Ok, .int .u64 c_1.Now]⟩]) (B' := [Ow 42 Kd.u8 A_40 c_41 r_39.b, Rd 0 kT_api_Step A_2 c_3 c_1.Steps]) (ks := [4, 44, 47, 48, 50, 51, 54, 55, 57]) (by kernel_rfl) (by kernel_rfl) (by kernel_rfl) ?_
          refine OpTo.goF (i := 14) (by kernel_rfl) (hk := [1]) (bk := []) (GoO.call rfl (by kernel_rfl) (by kernel_rfl) (pack_Writer_Bool_ok n r_39 c_1.Ok b_11 A_40 c_41) [[0], [41], [42]] [(41, 1), (42, 2)] [(1, 0)] [(2, 0)] (hks := [1]) (bks := [1]) (by kernel_rfl) (by kernel_rfl) (by kernel_rfl) (.inl rfl) rfl rfl (by kernel_rfl) (by kernel_rfl) _ (fun _ _ => rfl) _ _ (fun _ _ => rfl) (fun _ _ => rfl) (fun _ _ => by kernel_rfl) (fun _ _ => by kernel_rfl) (fun r_42 x_45 => ⟨rfl, rfl, ?_⟩))
          obtain ⟨A_43, c_44⟩ := x_45
          refine GoF.shape (env' := [(4, .pointer (some ⟨b_11, 0, none⟩)), (44, .pointer (some ⟨b_11, 0, none⟩)), (47, .int .u64 (wu64 c_1.Step)), (48, .pointer (some ⟨b_11, 0, none⟩)), (50, .bool c_1.Back), (51, .pointer (some ⟨b_11, 0, none⟩)), (54, .int .u64 (wu64 c_1.Try)), (55, .pointer (some ⟨b_11, 0, none⟩)), (57, .bool c_1.Ok), (58, .pointer (some ⟨b_11, 0, none⟩))]) (H' := [⟨41, b_11, [.slice A_43 r_42.b.length c_44]⟩, ⟨40, b_4, [.int .i64 c_1.Kind, .int .u64 c_1.Session, .int .u64 c_1.Seq, .int .u64 c_1.Saga, .slice A_2 c_1.Steps.length c_3, .int .i64 c_1.Step, .bool c_1.Back, .int .i64 c_1.Try, .bool c_1.Ok, .int .u64 c_1.Now]⟩]) (B' := [Ow 42 Kd.u8 A_43 c_44 r_42.b, Rd 0 kT_api_Step A_2 c_3 c_1.Steps]) (ks := [4, 44, 47, 48, 50, 51, 54, 55, 57, 58]) (by kernel_rfl) (by kernel_rfl) (by kernel_rfl) ?_
          refine GoF.done (by kernel_rfl) ?_
          exact GoO.sub (ks := [4]) (hk := [0]) (bk := [0]) (by kernel_rfl) (by kernel_rfl) (by kernel_rfl) (command_Encode_j1_ok n b_11 A_2 c_3 w0 S0 r_42.b A_43 c_44)
        · refine GoO.skip' c67_32e ?_
          exact GoO.sub (ks := [4]) (hk := [0]) (bk := [0]) (by kernel_rfl) (by kernel_rfl) (by kernel_rfl) (command_Encode_j1_ok n b_11 A_2 c_3 w0 S0 r_24.b A_25 c_26)
theorem command_Encode_ok (n : Nat) (c_1 : T_api_Command) (A_2 : Option Addr) (c_3 : Nat) :
    Meets Try.prog 67 [.agg ⟨[.int .i64 c_1.Kind, .int .u64 c_1.Session, .int .u64 c_1.Seq, .int .u64 c_1.Saga, .slice A_2 c_1.Steps.length c_3, .int .i64 c_1.Step, .bool c_1.Back, .int .i64 c_1.Try, .bool c_1.Ok, .int .u64 c_1.Now]⟩] 0 [] [] [Rd 0 kT_api_Step A_2 c_3 c_1.Steps] (command_Encode.f n c_1) (command_Encode.R A_2 c_3) := by
  refine Meets.of (c := c67_0) (n := 61) Try.func67 (by kernel_rfl) (by kernel_rfl) (by kernel_rfl) fun w0 S0 => ?_
  unfold command_Encode.f
  show GoO (command_Encode.cx A_2 c_3 w0 S0) [(0, .agg ⟨[.int .i64 c_1.Kind, .int .u64 c_1.Session, .int .u64 c_1.Seq, .int .u64 c_1.Saga, .slice A_2 c_1.Steps.length c_3, .int .i64 c_1.Step, .bool c_1.Back, .int .i64 c_1.Try, .bool c_1.Ok, .int .u64 c_1.Now]⟩)] [] [Rd 0 kT_api_Step A_2 c_3 c_1.Steps] [.code c67_0] _
  refine GoO.seq' c67_0e ?_
  refine GoO.region' (is := [0, 1, 2]) c67_1e (by kernel_rfl) ?_
  refine OpTo.go (GoO.new rfl 40 (cs := [.int .i64 c_1.Kind, .int .u64 c_1.Session, .int .u64 c_1.Seq, .int .u64 c_1.Saga, .slice A_2 c_1.Steps.length c_3, .int .i64 c_1.Step, .bool c_1.Back, .int .i64 c_1.Try, .bool c_1.Ok, .int .u64 c_1.Now]) (by kernel_rfl) _ (fun _ => rfl) (fun b_4 => ?_))
  refine GoO.exec (is := [1, 2]) (hs := [.p, .p]) (rest := []) (ks := [1]) (env' := [(1, .pointer (some ⟨b_4, 0, none⟩))]) (H' := [⟨40, b_4, [.int .i64 c_1.Kind, .int .u64 c_1.Session, .int .u64 c_1.Seq, .int .u64 c_1.Saga, .slice A_2 c_1.Steps.length c_3, .int .i64 c_1.Step, .bool c_1.Back, .int .i64 c_1.Try, .bool c_1.Ok, .int .u64 c_1.Now]⟩]) (ps := []) (by kernel_rfl) trivial ?_
  refine GoO.regionEnd ?_
  refine GoO.seq' c67_2e ?_
  refine GoO.seq' c67_3e ?_
  refine GoO.region' (is := [0, 1, 2, 3, 4, 5, 6, 7, 8]) c67_4e (by kernel_rfl) ?_
  refine GoO.exec (is := [0, 1, 2, 3]) (hs := [.p, .b 0, .p, .p]) (rest := [4, 5, 6, 7, 8]) (ks := [1, 8]) (env' := [(1, .pointer (some ⟨b_4, 0, none⟩)), (8, .bool (c_1.Kind == 2))]) (H' := [⟨40, b_4, [.int .i64 c_1.Kind, .int .u64 c_1.Session, .int .u64 c_1.Seq, .int .u64 c_1.Saga, .slice A_2 c_1.Steps.length c_3, .int .i64 c_1.Step, .bool c_1.Back, .int .i64 c_1.Try, .bool c_1.Ok, .int .u64 c_1.Now]⟩]) (ps := [b_4 = b_4]) (by kernel_rfl) (And.intro rfl trivial) ?_
  refine GoO.bsplit (t := 8) (by kernel_rfl) (fun h5 => ?_) (fun h5 => ?_)
  · refine GoO.exec (is := [4, 5]) (hs := [.p, .b 0]) (rest := [6, 7, 8]) (ks := [1, 8, 10]) (env' := [(1, .pointer (some ⟨b_4, 0, none⟩)), (8, .bool true), (10, .slice A_2 c_1.Steps.length c_3)]) (H' := [⟨40, b_4, [.int .i64 c_1.Kind, .int .u64 c_1.Session, .int .u64 c_1.Seq, .int .u64 c_1.Saga, .slice A_2 c_1.Steps.length c_3, .int .i64 c_1.Step, .bool c_1.Back, .int .i64 c_1.Try, .bool c_1.Ok, .int .u64 c_1.Now]⟩]) (ps := [b_4 = b_4]) (by kernel_rfl) (And.intro rfl trivial) ?_
    refine OpTo.go (GoO.call rfl (by kernel_rfl) (by kernel_rfl) (plan_Check_ok n c_1.Steps A_2 c_3) [[0]] [] [] [(0, 0)] (hks := [0]) (bks := [0]) (by kernel_rfl) (by kernel_rfl) (by kernel_rfl) (.inl rfl) rfl rfl (by kernel_rfl) (by kernel_rfl) _ (fun _ _ => rfl) _ _ (fun _ _ => rfl) (fun _ _ => rfl) (fun _ _ => by kernel_rfl) (fun _ _ => by kernel_rfl) (fun r_6 x_7 => ?_))
    refine GoO.shape (env' := [(1, .pointer (some ⟨b_4, 0, none⟩)), (8, .bool true), (10, .slice A_2 c_1.Steps.length c_3), (11, .int .i64 r_6)]) (H' := [⟨40, b_4, [.int .i64 c_1.Kind, .int .u64 c_1.Session, .int .u64 c_1.Seq, .int .u64 c_1.Saga, .slice A_2 c_1.Steps.length c_3, .int .i64 c_1.Step, .bool c_1.Back, .int .i64 c_1.Try, .bool c_1.Ok, .int .u64 c_1.Now]⟩]) (B' := [Rd 0 kT_api_Step A_2 c_3 c_1.Steps]) (ks := [1, 8, 10, 11]) (by kernel_rfl) (by kernel_rfl) (by kernel_rfl) ?_
    refine GoO.exec (is := [7, 8]) (hs := [.p, .p]) (rest := []) (ks := [1, 13]) (env' := [(1, .pointer (some ⟨b_4, 0, none⟩)), (13, .bool (r_6 != 0))]) (H' := [⟨40, b_4, [.int .i64 c_1.Kind, .int .u64 c_1.Session, .int .u64 c_1.Seq, .int .u64 c_1.Saga, .slice A_2 c_1.Steps.length c_3, .int .i64 c_1.Step, .bool c_1.Back, .int .i64 c_1.Try, .bool c_1.Ok, .int .u64 c_1.Now]⟩]) (ps := []) (by kernel_rfl) trivial ?_
    refine GoO.regionEnd ?_
    exact GoO.sub (ks := [1, 13]) (hk := [0]) (bk := [0]) (by kernel_rfl) (by kernel_rfl) (by kernel_rfl) (command_Encode_j0_ok n c_1 A_2 c_3 b_4 w0 S0 (r_6 != 0))
  · refine GoO.exec (is := [4, 5, 6, 7, 8]) (hs := [.p, .p, .p, .p, .p]) (rest := []) (ks := [1, 13]) (env' := [(1, .pointer (some ⟨b_4, 0, none⟩)), (13, .bool false)]) (H' := [⟨40, b_4, [.int .i64 c_1.Kind, .int .u64 c_1.Session, .int .u64 c_1.Seq, .int .u64 c_1.Saga, .slice A_2 c_1.Steps.length c_3, .int .i64 c_1.Step, .bool c_1.Back, .int .i64 c_1.Try, .bool c_1.Ok, .int .u64 c_1.Now]⟩]) (ps := []) (by kernel_rfl) trivial ?_
    refine GoO.regionEnd ?_
    exact GoO.sub (ks := [1, 13]) (hk := [0]) (bk := [0]) (by kernel_rfl) (by kernel_rfl) (by kernel_rfl) (command_Encode_j0_ok n c_1 A_2 c_3 b_4 w0 S0 false)

/-! (*tontine/client.Client).letter -/
noncomputable def c68_0 : Code := bodyOf Try.f68
noncomputable def c68_1 : Code := cdL c68_0
noncomputable def c68_2 : Code := cdR c68_0
noncomputable def c68_3 : Code := cdL c68_2
noncomputable def c68_4 : Code := cdR c68_2
noncomputable def r68_1 : Array Oper := cdO c68_1
noncomputable def r68_3 : Array Oper := cdO c68_3
theorem c68_0e : c68_0 = .seq c68_1 c68_2 := by kernel_rfl
theorem c68_1e : c68_1 = .region 0 r68_1 false := by kernel_rfl
theorem c68_2e : c68_2 = .seq c68_3 c68_4 := by kernel_rfl
theorem c68_3e : c68_3 = .region 1 r68_3 true := by kernel_rfl
theorem c68_4e : c68_4 = .ret := by kernel_rfl
noncomputable def client_Client_letter.R (b_2 : Nat) (A_3 : Option Addr) (c_4 : Nat) : Pst T_api_Letter where
  ε := Option Addr × Nat
  v := fun r x => .agg ⟨[.int .i64 r.Kind, .int .i64 r.From, .int .i64 r.To, .int .u64 r.Term, .int .u64 r.Index, .int .u64 r.Prev, .int .u64 r.Commit, .bool r.Ok, .slice x.1 r.Entries.length x.2, .string (bs r.Data)]⟩
  H := fun r x => []
  B := fun r x => [Rd 0 kT_api_Entry x.1 x.2 r.Entries]
noncomputable def client_Client_letter.cx (b_2 : Nat) (A_3 : Option Addr) (c_4 : Nat) (w0 : World) (S0 : Fam) : Cx T_api_Letter := ⟨Try.prog, 68, Try.f68, 21, w0, S0, [], 1, client_Client_letter.R b_2 A_3 c_4⟩
theorem client_Client_letter_ok (n : Nat) (c_1 : T_client_Client) (b_2 : Nat) (A_3 : Option Addr) (c_4 : Nat) :
    Meets Try.prog 68 [.pointer (some ⟨b_2, 0, none⟩)] 1 [] [⟨1, b_2, [.int .i64 c_1.id, .int .u64 c_1.session, .int .u64 c_1.seq, .int .u64 c_1.call, .bool c_1.busy, .int .i64 c_1.now.Kind, .int .u64 c_1.now.Session, .int .u64 c_1.now.Seq, .int .u64 c_1.now.Saga, .slice A_3 c_1.now.Steps.length c_4, .int .i64 c_1.now.Step, .bool c_1.now.Back, .int .i64 c_1.now.Try, .bool c_1.now.Ok, .int .u64 c_1.now.Now, .string (bs c_1.data), .int .i64 c_1.to_]⟩] [Rd 0 kT_api_Step A_3 c_4 c_1.now.Steps] (client_Client_letter.f n c_1) (client_Client_letter.R b_2 A_3 c_4) := by
  refine Meets.of (c := c68_0) (n := 21) Try.func68 (by kernel_rfl) (by kernel_rfl) (by kernel_rfl) fun w0 S0 => ?_
  unfold client_Client_letter.f
  show GoO (client_Client_letter.cx b_2 A_3 c_4 w0 S0) [(0, .pointer (some ⟨b_2, 0, none⟩))] [⟨1, b_2, [.int .i64 c_1.id, .int .u64 c_1.session, .int .u64 c_1.seq, .int .u64 c_1.call, .bool c_1.busy, .int .i64 c_1.now.Kind, .int .u64 c_1.now.Session, .int .u64 c_1.now.Seq, .int .u64 c_1.now.Saga, .slice A_3 c_1.now.Steps.length c_4, .int .i64 c_1.now.Step, .bool c_1.now.Back, .int .i64 c_1.now.Try, .bool c_1.now.Ok, .int .u64 c_1.now.Now, .string (bs c_1.data), .int .i64 c_1.to_]⟩] [Rd 0 kT_api_Step A_3 c_4 c_1.now.Steps] [.code c68_0] _
  refine GoO.seq' c68_0e ?_
  refine GoO.region' (is := [0]) c68_1e (by kernel_rfl) ?_
  refine OpTo.go (GoO.new rfl 40 (cs := [.int .i64 0, .int .i64 0, .int .i64 0, .int .u64 0, .int .u64 0, .int .u64 0, .int .u64 0, .bool false, .slice none ([] : List T_api_Entry).length 0, .string (bs [])]) (by kernel_rfl) _ (fun _ => rfl) (fun b_5 => ?_))
  refine GoO.regionEnd ?_
  refine GoO.seq' c68_2e ?_
  refine GoO.draw c68_3e (by kernel_rfl) [18] [⟨1, b_2, [.int .i64 c_1.id, .int .u64 c_1.session, .int .u64 c_1.seq, .int .u64 c_1.call, .bool c_1.busy, .int .i64 c_1.now.Kind, .int .u64 c_1.now.Session, .int .u64 c_1.now.Seq, .int .u64 c_1.now.Saga, .slice A_3 c_1.now.Steps.length c_4, .int .i64 c_1.now.Step, .bool c_1.now.Back, .int .i64 c_1.now.Try, .bool c_1.now.Ok, .int .u64 c_1.now.Now, .string (bs c_1.data), .int .i64 c_1.to_]⟩] [] (n := 19) (by kernel_rfl) ?_
  simp only [List.replicate]
  refine GoF.take [0, 1, 2, 3, 4, 5, 6, 7, 8, 9, 10, 11, 12, 13, 14, 15, 16, 17] [.p, .p, .p, .b 0, .p, .p, .p, .p, .b 0, .p, .p, .p, .b 0, .p, .p, .p, .b 0, .p] (ks := [2, 20]) (fu := 1) (li := [true, true, true, true, true, true, true, true, true, true, true, true, true, true, true, true, true, true, false]) (env' := [(2, .pointer (some ⟨b_5, 0, none⟩)), (20, .agg ⟨[.int .i64 8, .int .i64 (wi64 (200 + c_1.id)), .int .i64 c_1.to_, .int .u64 0, .int .u64 c_1.call, .int .u64 0, .int .u64 0, .bool false, .slice none ([] : List T_api_Entry).length 0, .string (bs c_1.data)]⟩)]) (ps := [b_2 = b_2, b_2 = b_2, b_2 = b_2, b_2 = b_2]) (hk := [1]) (bk := []) (by kernel_rfl) (And.intro rfl (And.intro rfl (And.intro rfl (And.intro rfl trivial)))) rfl rfl ?_
  refine GoF.fin1 (i := 18) (hint := .b 0) (ps := [b_5 = b_5]) (hk := []) (bk := []) (by kernel_rfl) rfl (And.intro rfl trivial) (.inl rfl) ?_
  refine GoF.done (by kernel_rfl) ?_
  refine GoO.nilRd kT_api_Entry ?_
  exact GoO.ret' (h := c68_4e) (hs := [0]) (ps := [b_5 = b_5]) (hk := []) (bk := [0]) Try.func68 (⟨none, 0⟩ : Option Addr × Nat) (by kernel_rfl) (And.intro rfl trivial) (by kernel_rfl) (by kernel_rfl)

/-! (*tontine/client.Client).Call -/
noncomputable def c32_0 : Code := bodyOf Try.f32
noncomputable def c32_1 : Code := cdL c32_0
noncomputable def c32_2 : Code := cdR c32_0
noncomputable def c32_3 : Code := cdL c32_2
noncomputable def c32_4 : Code := cdL c32_3
noncomputable def c32_5 : Code := cdR c32_3
noncomputable def c32_9 : Code := cdR c32_5
noncomputable def c32_10 : Code := cdR c32_2
noncomputable def c32_11 : Code := cdL c32_10
noncomputable def c32_12 : Code := cdL c32_11
noncomputable def c32_13 : Code := cdR c32_11
noncomputable def c32_14 : Code := cdL c32_13
noncomputable def c32_15 : Code := cdL c32_14
noncomputable def c32_16 : Code := cdR c32_14
noncomputable def c32_17 : Code := cdR c32_13
noncomputable def c32_18 : Code := cdR c32_10
noncomputable def c32_19 : Code := cdL c32_18
noncomputable def c32_20 : Code := cdL c32_19
noncomputable def c32_21 : Code := cdR c32_19
noncomputable def c32_22 : Code := cdL c32_21
noncomputable def c32_23 : Code := cdL c32_22
noncomputable def c32_24 : Code := cdR c32_22
noncomputable def c32_25 : Code := cdR c32_21
noncomputable def c32_26 : Code := cdR c32_18
noncomputable def c32_27 : Code := cdL c32_26
noncomputable def c32_28 : Code := cdR c32_26
noncomputable def c32_29 : Code := cdL c32_28
noncomputable def c32_30 : Code := cdL c32_29
noncomputable def c32_31 : Code := cdR c32_29
noncomputable def c32_32 : Code := cdL c32_31
noncomputable def c32_33 : Code := cdR c32_31
noncomputable def c32_34 : Code := cdR c32_28
noncomputable def c32_35 : Code := cdL c32_34
noncomputable def c32_36 : Code := cdL c32_35
noncomputable def c32_37 : Code := cdR c32_35
noncomputable def c32_38 : Code := cdL c32_37
noncomputable def c32_39 : Code := cdL c32_38
noncomputable def c32_40 : Code := cdR c32_38
noncomputable def c32_41 : Code := cdR c32_37
noncomputable def c32_42 : Code := cdR c32_34
noncomputable def c32_43 : Code := cdL c32_42
noncomputable def c32_44 : Code := cdR c32_42
noncomputable def c32_45 : Code := cdL c32_44
noncomputable def c32_46 : Code := cdL c32_45
noncomputable def c32_47 : Code := cdR c32_45
noncomputable def c32_48 : Code := cdL c32_47
noncomputable def c32_49 : Code := cdL c32_48
noncomputable def c32_50 : Code := cdR c32_48
noncomputable def c32_51 : Code := cdR c32_47
noncomputable def c32_52 : Code := cdR c32_44
noncomputable def c32_53 : Code := cdL c32_52
noncomputable def c32_54 : Code := cdR c32_52
noncomputable def c32_55 : Code := cdL c32_54
noncomputable def c32_56 : Code := cdR c32_54
noncomputable def c32_57 : Code := cdL c32_56
noncomputable def c32_58 : Code := cdR c32_56
noncomputable def c32_6 : Code := cdL c32_5
noncomputable def r32_1 : Array Oper := cdO c32_1
noncomputable def r32_4 : Array Oper := cdO c32_4
noncomputable def r32_12 : Array Oper := cdO c32_12
noncomputable def r32_15 : Array Oper := cdO c32_15
noncomputable def r32_20 : Array Oper := cdO c32_20
noncomputable def r32_23 : Array Oper := cdO c32_23
noncomputable def r32_27 : Array Oper := cdO c32_27
noncomputable def r32_30 : Array Oper := cdO c32_30
noncomputable def r32_32 : Array Oper := cdO c32_32
noncomputable def r32_36 : Array Oper := cdO c32_36
noncomputable def r32_39 : Array Oper := cdO c32_39
noncomputable def r32_43 : Array Oper := cdO c32_43
noncomputable def r32_46 : Array Oper := cdO c32_46
noncomputable def r32_49 : Array Oper := cdO c32_49
noncomputable def r32_53 : Array Oper := cdO c32_53
noncomputable def r32_55 : Array Oper := cdO c32_55
noncomputable def r32_57 : Array Oper := cdO c32_57
theorem c32_0e : c32_0 = .seq c32_1 c32_2 := by kernel_rfl
theorem c32_1e : c32_1 = .region 0 r32_1 false := by kernel_rfl
theorem c32_2e : c32_2 = .seq c32_3 c32_10 := by kernel_rfl
theorem c32_3e : c32_3 = .seq c32_4 c32_5 := by kernel_rfl
theorem c32_4e : c32_4 = .region 1 r32_4 false := by kernel_rfl
theorem c32_5e : c32_5 = .cond (cdC c32_5) c32_6 c32_9 := by kernel_rfl
theorem c32_9e : c32_9 = .skip := by kernel_rfl
theorem c32_10e : c32_10 = .seq c32_11 c32_18 := by kernel_rfl
theorem c32_11e : c32_11 = .seq c32_12 c32_13 := by kernel_rfl
theorem c32_12e : c32_12 = .region 3 r32_12 false := by kernel_rfl
theorem c32_13e : c32_13 = .cond (cdC c32_13) c32_14 c32_17 := by kernel_rfl
theorem c32_14e : c32_14 = .seq c32_15 c32_16 := by kernel_rfl
theorem c32_15e : c32_15 = .region 4 r32_15 false := by kernel_rfl
theorem c32_16e : c32_16 = .ret := by kernel_rfl
theorem c32_17e : c32_17 = .skip := by kernel_rfl
theorem c32_18e : c32_18 = .seq c32_19 c32_26 := by kernel_rfl
theorem c32_19e : c32_19 = .seq c32_20 c32_21 := by kernel_rfl
theorem c32_20e : c32_20 = .region 5 r32_20 false := by kernel_rfl
theorem c32_21e : c32_21 = .cond (cdC c32_21) c32_22 c32_25 := by kernel_rfl
theorem c32_22e : c32_22 = .seq c32_23 c32_24 := by kernel_rfl
theorem c32_23e : c32_23 = .region 6 r32_23 false := by kernel_rfl
theorem c32_24e : c32_24 = .ret := by kernel_rfl
theorem c32_25e : c32_25 = .skip := by kernel_rfl
theorem c32_26e : c32_26 = .seq c32_27 c32_28 := by kernel_rfl
theorem c32_27e : c32_27 = .region 7 r32_27 false := by kernel_rfl
theorem c32_28e : c32_28 = .seq c32_29 c32_34 := by kernel_rfl
theorem c32_29e : c32_29 = .seq c32_30 c32_31 := by kernel_rfl
theorem c32_30e : c32_30 = .region 8 r32_30 false := by kernel_rfl
theorem c32_31e : c32_31 = .cond (cdC c32_31) c32_32 c32_33 := by kernel_rfl
theorem c32_32e : c32_32 = .region 9 r32_32 true := by kernel_rfl
theorem c32_33e : c32_33 = .skip := by kernel_rfl
theorem c32_34e : c32_34 = .seq c32_35 c32_42 := by kernel_rfl
theorem c32_35e : c32_35 = .seq c32_36 c32_37 := by kernel_rfl
theorem c32_36e : c32_36 = .region 10 r32_36 false := by kernel_rfl
theorem c32_37e : c32_37 = .cond (cdC c32_37) c32_38 c32_41 := by kernel_rfl
theorem c32_38e : c32_38 = .seq c32_39 c32_40 := by kernel_rfl
theorem c32_39e : c32_39 = .region 11 r32_39 false := by kernel_rfl
theorem c32_40e : c32_40 = .ret := by kernel_rfl
theorem c32_41e : c32_41 = .skip := by kernel_rfl
theorem c32_42e : c32_42 = .seq c32_43 c32_44 := by kernel_rfl
theorem c32_43e : c32_43 = .region 12 r32_43 false := by kernel_rfl
theorem c32_44e : c32_44 = .seq c32_45 c32_52 := by kernel_rfl
theorem c32_45e : c32_45 = .seq c32_46 c32_47 := by kernel_rfl
theorem c32_46e : c32_46 = .region 13 r32_46 false := by kernel_rfl
theorem c32_47e : c32_47 = .cond (cdC c32_47) c32_48 c32_51 := by kernel_rfl
theorem c32_48e : c32_48 = .seq c32_49 c32_50 := by kernel_rfl
theorem c32_49e : c32_49 = .region 14 r32_49 false := by kernel_rfl
theorem c32_50e : c32_50 = .ret := by kernel_rfl
theorem c32_51e : c32_51 = .skip := by kernel_rfl
theorem c32_52e : c32_52 = .seq c32_53 c32_54 := by kernel_rfl
theorem c32_53e : c32_53 = .region 15 r32_53 true := by kernel_rfl
theorem c32_54e : c32_54 = .seq c32_55 c32_56 := by kernel_rfl
theorem c32_55e : c32_55 = .region 16 r32_55 false := by kernel_rfl
theorem c32_56e : c32_56 = .seq c32_57 c32_58 := by kernel_rfl
theorem c32_57e : c32_57 = .region 17 r32_57 false := by kernel_rfl
theorem c32_58e : c32_58 = .ret := by kernel_rfl
noncomputable def client_Client_Call.R (b_2 : Nat) (A_3 : Option Addr) (c_4 : Nat) (A_6 : Option Addr) (c_7 : Nat) : Pst (T_api_Letter × Int × T_client_Client) where
  ε := Option Addr × Nat × Option Addr × Nat
  v := fun r x => .tuple ⟨[.agg ⟨[.int .i64 r.1.Kind, .int .i64 r.1.From, .int .i64 r.1.To, .int .u64 r.1.Term, .int .u64 r.1.Index, .int .u64 r.1.Prev, .int .u64 r.1.Commit, .bool r.1.Ok, .slice x.1 r.1.Entries.length x.2.1, .string (bs r.1.Data)]⟩, .int .i64 r.2.1]⟩
  H := fun r x => [⟨1, b_2, [.int .i64 r.2.2.id, .int .u64 r.2.2.session, .int .u64 r.2.2.seq, .int .u64 r.2.2.call, .bool r.2.2.busy, .int .i64 r.2.2.now.Kind, .int .u64 r.2.2.now.Session, .int .u64 r.2.2.now.Seq, .int .u64 r.2.2.now.Saga, .slice x.2.2.1 r.2.2.now.Steps.length x.2.2.2, .int .i64 r.2.2.now.Step, .bool r.2.2.now.Back, .int .i64 r.2.2.now.Try, .bool r.2.2.now.Ok, .int .u64 r.2.2.now.Now, .string (bs r.2.2.data), .int .i64 r.2.2.to_]⟩]
  B := fun r x => [Rd 0 kT_api_Entry x.1 x.2.1 r.1.Entries, Rd 0 kT_api_Step x.2.2.1 x.2.2.2 r.2.2.now.Steps]
noncomputable def client_Client_Call.cx (b_2 : Nat) (A_3 : Option Addr) (c_4 : Nat) (A_6 : Option Addr) (c_7 : Nat) (w0 : World) (S0 : Fam) : Cx (T_api_Letter × Int × T_client_Client) := ⟨Try.prog, 32, Try.f32, 77, w0, S0, [1], 1, client_Client_Call.R b_2 A_3 c_4 A_6 c_7⟩
theorem client_Client_Call_j1_ok (n : Nat) (c_1 : T_client_Client) (x_5 : T_api_Command) (b_2 : Nat) (A_3 : Option Addr) (c_4 : Nat) (A_6 : Option Addr) (c_7 : Nat) (b_8 : Nat) (b_9 : Nat) (w0 : World) (S0 : Fam) (f_15 : Int) (f_16 : Int) :
    GoO (client_Client_Call.cx b_2 A_3 c_4 A_6 c_7 w0 S0) [(0, .pointer (some ⟨b_2, 0, none⟩)), (3, .pointer (some ⟨b_8, 0, none⟩)), (4, .pointer (some ⟨b_9, 0, none⟩))] [⟨1, b_2, [.int .i64 c_1.id, .int .u64 c_1.session, .int .u64 c_1.seq, .int .u64 c_1.call, .bool c_1.busy, .int .i64 c_1.now.Kind, .int .u64 c_1.now.Session, .int .u64 c_1.now.Seq, .int .u64 c_1.now.Saga, .slice A_3 c_1.now.Steps.length c_4, .int .i64 c_1.now.Step, .bool c_1.now.Back, .int .i64 c_1.now.Try, .bool c_1.now.Ok, .int .u64 c_1.now.Now, .string (bs c_1.data), .int .i64 c_1.to_]⟩, ⟨40, b_8, [.int .i64 x_5.Kind, .int .u64 f_15, .int .u64 f_16, .int .u64 x_5.Saga, .slice A_6 x_5.Steps.length c_7, .int .i64 x_5.Step, .bool x_5.Back, .int .i64 x_5.Try, .bool x_5.Ok, .int .u64 0]⟩, ⟨41, b_9, [.int .i64 0, .int .i64 0, .int .i64 0, .int .u64 0, .int .u64 0, .int .u64 0, .int .u64 0, .bool false, .slice none ([] : List T_api_Entry).length 0, .string (bs [])]⟩] [Rd 0 kT_api_Step A_3 c_4 c_1.now.Steps, Rd 0 kT_api_Step A_6 c_7 x_5.Steps] [.code c32_34] (client_Client_Call.j1 n c_1 x_5 f_15 f_16) := by
  unfold client_Client_Call.j1
  refine GoO.seq' c32_34e ?_
  refine GoO.seq' c32_35e ?_
  refine GoO.region' (is := [0, 1, 2]) c32_36e (by kernel_rfl) ?_
  refine GoO.exec (is := [0, 1, 2]) (hs := [.p, .b 1, .p]) (rest := []) (ks := [0, 3, 4, 46]) (env' := [(0, .pointer (some ⟨b_2, 0, none⟩)), (3, .pointer (some ⟨b_8, 0, none⟩)), (4, .pointer (some ⟨b_9, 0, none⟩)), (46, .bool (x_5.Kind == 4))]) (H' := [⟨1, b_2, [.int .i64 c_1.id, .int .u64 c_1.session, .int .u64 c_1.seq, .int .u64 c_1.call, .bool c_1.busy, .int .i64 c_1.now.Kind, .int .u64 c_1.now.Session, .int .u64 c_1.now.Seq, .int .u64 c_1.now.Saga, .slice A_3 c_1.now.Steps.length c_4, .int .i64 c_1.now.Step, .bool c_1.now.Back, .int .i64 c_1.now.Try, .bool c_1.now.Ok, .int .u64 c_1.now.Now, .string (bs c_1.data), .int .i64 c_1.to_]⟩, ⟨40, b_8, [.int .i64 x_5.Kind, .int .u64 f_15, .int .u64 f_16, .int .u64 x_5.Saga, .slice A_6 x_5.Steps.length c_7, .int .i64 x_5.Step, .bool x_5.Back, .int .i64 x_5.Try, .bool x_5.Ok, .int .u64 0]⟩, ⟨41, b_9, [.int .i64 0, .int .i64 0, .int .i64 0, .int .u64 0, .int .u64 0, .int .u64 0, .int .u64 0, .bool false, .slice none ([] : List T_api_Entry).length 0, .string (bs [])]⟩]) (ps := [b_8 = b_8]) (by kernel_rfl) (And.intro rfl trivial) ?_
  refine GoO.regionEnd ?_
  refine GoO.ite' c32_37e (by kernel_rfl) (fun h17 => ?_) (fun h17 => ?_)
  · refine GoO.seq' c32_38e ?_
    refine GoO.region' (is := [0, 1, 2]) c32_39e (by kernel_rfl) ?_
    refine GoO.exec (is := [0, 1, 2]) (hs := [.p, .b 2, .p]) (rest := []) (ks := [4, 5]) (env' := [(4, .pointer (some ⟨b_9, 0, none⟩)), (5, .int .i64 1)]) (H' := [⟨1, b_2, [.int .i64 c_1.id, .int .u64 c_1.session, .int .u64 c_1.seq, .int .u64 c_1.call, .bool c_1.busy, .int .i64 c_1.now.Kind, .int .u64 c_1.now.Session, .int .u64 c_1.now.Seq, .int .u64 c_1.now.Saga, .slice A_3 c_1.now.Steps.length c_4, .int .i64 c_1.now.Step, .bool c_1.now.Back, .int .i64 c_1.now.Try, .bool c_1.now.Ok, .int .u64 c_1.now.Now, .string (bs c_1.data), .int .i64 c_1.to_]⟩, ⟨40, b_8, [.int .i64 x_5.Kind, .int .u64 f_15, .int .u64 f_16, .int .u64 x_5.Saga, .slice A_6 x_5.Steps.length c_7, .int .i64 x_5.Step, .bool x_5.Back, .int .i64 x_5.Try, .bool x_5.Ok, .int .u64 0]⟩, ⟨41, b_9, [.int .i64 0, .int .i64 0, .int .i64 0, .int .u64 0, .int .u64 0, .int .u64 0, .int .u64 0, .bool false, .slice none ([] : List T_api_Entry).length 0, .string (bs [])]⟩]) (ps := [b_9 = b_9]) (by kernel_rfl) (And.intro rfl trivial) ?_
    refine GoO.regionEnd ?_
    refine GoO.nilRd kT_api_Entry ?_
    exact GoO.ret' (h := c32_40e) (hs := [2]) (ps := [b_9 = b_9]) (hk := [0]) (bk := [0, 1]) Try.func32 (⟨none, 0, A_3, c_4⟩ : Option Addr × Nat × Option Addr × Nat) (by kernel_rfl) (And.intro rfl trivial) (by kernel_rfl) (by kernel_rfl)
  · refine GoO.skip' c32_41e ?_
    refine GoO.seq' c32_42e ?_
    refine GoO.region' (is := [0, 1, 2, 3, 4, 5, 6]) c32_43e (by kernel_rfl) ?_
    refine GoO.exec (is := [0]) (hs := [.b 1]) (rest := [1, 2, 3, 4, 5, 6]) (ks := [0, 3, 4, 49]) (env' := [(0, .pointer (some ⟨b_2, 0, none⟩)), (3, .pointer (some ⟨b_8, 0, none⟩)), (4, .pointer (some ⟨b_9, 0, none⟩)), (49, .agg ⟨[.int .i64 x_5.Kind, .int .u64 f_15, .int .u64 f_16, .int .u64 x_5.Saga, .slice A_6 x_5.Steps.length c_7, .int .i64 x_5.Step, .bool x_5.Back, .int .i64 x_5.Try, .bool x_5.Ok, .int .u64 0]⟩)]) (H' := [⟨1, b_2, [.int .i64 c_1.id, .int .u64 c_1.session, .int .u64 c_1.seq, .int .u64 c_1.call, .bool c_1.busy, .int .i64 c_1.now.Kind, .int .u64 c_1.now.Session, .int .u64 c_1.now.Seq, .int .u64 c_1.now.Saga, .slice A_3 c_1.now.Steps.length c_4, .int .i64 c_1.now.Step, .bool c_1.now.Back, .int .i64 c_1.now.Try, .bool c_1.now.Ok, .int .u64 c_1.now.Now, .string (bs c_1.data), .int .i64 c_1.to_]⟩, ⟨40, b_8, [.int .i64 x_5.Kind, .int .u64 f_15, .int .u64 f_16, .int .u64 x_5.Saga, .slice A_6 x_5.Steps.length c_7, .int .i64 x_5.Step, .bool x_5.Back, .int .i64 x_5.Try, .bool x_5.Ok, .int .u64 0]⟩, ⟨41, b_9, [.int .i64 0, .int .i64 0, .int .i64 0, .int .u64 0, .int .u64 0, .int .u64 0, .int .u64 0, .bool false, .slice none ([] : List T_api_Entry).length 0, .string (bs [])]⟩]) (ps := [b_8 = b_8]) (by kernel_rfl) (And.intro rfl trivial) ?_
    refine OpTo.go (GoO.call rfl (by kernel_rfl) (by kernel_rfl) (command_Encode_ok n (⟨x_5.Kind, f_15, f_16, x_5.Saga, x_5.Steps, x_5.Step, x_5.Back, x_5.Try, x_5.Ok, 0⟩ : T_api_Command) A_6 c_7) [[0]] [] [] [(0, 1)] (hks := [0, 1, 2]) (bks := [0, 1]) (by kernel_rfl) (by kernel_rfl) (by kernel_rfl) (.inl rfl) rfl rfl (by kernel_rfl) (by kernel_rfl) _ (fun _ _ => rfl) _ _ (fun _ _ => rfl) (fun _ _ => rfl) (fun _ _ => by kernel_rfl) (fun _ _ => by kernel_rfl) (fun r_18 x_24 => ?_))
    refine GoO.shape (env' := [(0, .pointer (some ⟨b_2, 0, none⟩)), (3, .pointer (some ⟨b_8, 0, none⟩)), (4, .pointer (some ⟨b_9, 0, none⟩)), (49, .agg ⟨[.int .i64 x_5.Kind, .int .u64 f_15, .int .u64 f_16, .int .u64 x_5.Saga, .slice A_6 x_5.Steps.length c_7, .int .i64 x_5.Step, .bool x_5.Back, .int .i64 x_5.Try, .bool x_5.Ok, .int .u64 0]⟩), (50, .tuple ⟨[.string (bs r_18.1), .int .i64 r_18.2]⟩)]) (H' := [⟨1, b_2, [.int .i64 c_1.id, .int .u64 c_1.session, .int .u64 c_1.seq, .int .u64 c_1.call, .bool c_1.busy, .int .i64 c_1.now.Kind, .int .u64 c_1.now.Session, .int .u64 c_1.now.Seq, .int .u64 c_1.now.Saga, .slice A_3 c_1.now.Steps.length c_4, .int .i64 c_1.now.Step, .bool c_1.now.Back, .int .i64 c_1.now.Try, .bool c_1.now.Ok, .int .u64 c_1.now.Now, .string (bs c_1.data), .int .i64 c_1.to_]⟩, ⟨40, b_8, [.int .i64 x_5.Kind, .int .u64 f_15, .int .u64 f_16, .int .u64 x_5.Saga, .slice A_6 x_5.Steps.length c_7, .int .i64 x_5.Step, .bool x_5.Back, .int .i64 x_5.Try, .bool x_5.Ok, .int .u64 0]⟩, ⟨41, b_9, [.int .i64 0, .int .i64 0, .int .i64 0, .int .u64 0, .int .u64 0, .int .u64 0, .int .u64 0, .bool false, .slice none ([] : List T_api_Entry).length 0, .string (bs [])]⟩]) (B' := [Rd 0 kT_api_Step A_3 c_4 c_1.now.Steps, Rd 0 kT_api_Step A_6 c_7 x_5.Steps]) (ks := [0, 3, 4, 49, 50]) (by kernel_rfl) (by kernel_rfl) (by kernel_rfl) ?_
    refine GoO.exec (is := [2, 3, 4, 5, 6]) (hs := [.p, .p, .p, .p, .p]) (rest := []) (ks := [0, 3, 4, 6, 7]) (env' := [(0, .pointer (some ⟨b_2, 0, none⟩)), (3, .pointer (some ⟨b_8, 0, none⟩)), (4, .pointer (some ⟨b_9, 0, none⟩)), (6, .string (bs r_18.1)), (7, .int .i64 r_18.2)]) (H' := [⟨1, b_2, [.int .i64 c_1.id, .int .u64 c_1.session, .int .u64 c_1.seq, .int .u64 c_1.call, .bool c_1.busy, .int .i64 c_1.now.Kind, .int .u64 c_1.now.Session, .int .u64 c_1.now.Seq, .int .u64 c_1.now.Saga, .slice A_3 c_1.now.Steps.length c_4, .int .i64 c_1.now.Step, .bool c_1.now.Back, .int .i64 c_1.now.Try, .bool c_1.now.Ok, .int .u64 c_1.now.Now, .string (bs c_1.data), .int .i64 c_1.to_]⟩, ⟨40, b_8, [.int .i64 x_5.Kind, .int .u64 f_15, .int .u64 f_16, .int .u64 x_5.Saga, .slice A_6 x_5.Steps.length c_7, .int .i64 x_5.Step, .bool x_5.Back, .int .i64 x_5.Try, .bool x_5.Ok, .int .u64 0]⟩, ⟨41, b_9, [.int .i64 0, .int .i64 0, .int .i64 0, .int .u64 0, .int .u64 0, .int .u64 0, .int .u64 0, .bool false, .slice none ([] : List T_api_Entry).length 0, .string (bs [])]⟩]) (ps := []) (by kernel_rfl) trivial ?_
    refine GoO.regionEnd ?_
    refine GoO.seq' c32_44e ?_
    refine GoO.seq' c32_45e ?_
    refine GoO.region' (is := [0, 1]) c32_46e (by kernel_rfl) ?_
    refine GoO.exec (is := [0, 1]) (hs := [.p, .p]) (rest := []) (ks := [0, 3, 4, 6, 7, 54]) (env' := [(0, .pointer (some ⟨b_2, 0, none⟩)), (3, .pointer (some ⟨b_8, 0, none⟩)), (4, .pointer (some ⟨b_9, 0, none⟩)), (6, .string (bs r_18.1)), (7, .int .i64 r_18.2), (54, .bool (r_18.2 != 0))]) (H' := [⟨1, b_2, [.int .i64 c_1.id, .int .u64 c_1.session, .int .u64 c_1.seq, .int .u64 c_1.call, .bool c_1.busy, .int .i64 c_1.now.Kind, .int .u64 c_1.now.Session, .int .u64 c_1.now.Seq, .int .u64 c_1.now.Saga, .slice A_3 c_1.now.Steps.length c_4, .int .i64 c_1.now.Step, .bool c_1.now.Back, .int .i64 c_1.now.Try, .bool c_1.now.Ok, .int .u64 c_1.now.Now, .string (bs c_1.data), .int .i64 c_1.to_]⟩, ⟨40, b_8, [.int .i64 x_5.Kind, .int .u64 f_15, .int .u64 f_16, .int .u64 x_5.Saga, .slice A_6 x_5.Steps.length c_7, .int .i64 x_5.Step, .bool x_5.Back, .int .i64 x_5.Try, .bool x_5.Ok, .int .u64 0]⟩, ⟨41, b_9, [.int .i64 0, .int .i64 0, .int .i64 0, .int .u64 0, .int .u64 0, .int .u64 0, .int .u64 0, .bool false, .slice none ([] : List T_api_Entry).length 0, .string (bs [])]⟩]) (ps := []) (by kernel_rfl) trivial ?_
    refine GoO.regionEnd ?_
    refine GoO.ite' c32_47e (by kernel_rfl) (fun h19 => ?_) (fun h19 => ?_)
    · refine GoO.seq' c32_48e ?_
      refine GoO.region' (is := [0, 1, 2, 3]) c32_49e (by kernel_rfl) ?_
      refine GoO.exec (is := [0, 1, 2, 3]) (hs := [.p, .p, .b 2, .p]) (rest := []) (ks := [4, 5]) (env' := [(4, .pointer (some ⟨b_9, 0, none⟩)), (5, .int .i64 r_18.2)]) (H' := [⟨1, b_2, [.int .i64 c_1.id, .int .u64 c_1.session, .int .u64 c_1.seq, .int .u64 c_1.call, .bool c_1.busy, .int .i64 c_1.now.Kind, .int .u64 c_1.now.Session, .int .u64 c_1.now.Seq, .int .u64 c_1.now.Saga, .slice A_3 c_1.now.Steps.length c_4, .int .i64 c_1.now.Step, .bool c_1.now.Back, .int .i64 c_1.now.Try, .bool c_1.now.Ok, .int .u64 c_1.now.Now, .string (bs c_1.data), .int .i64 c_1.to_]⟩, ⟨40, b_8, [.int .i64 x_5.Kind, .int .u64 f_15, .int .u64 f_16, .int .u64 x_5.Saga, .slice A_6 x_5.Steps.length c_7, .int .i64 x_5.Step, .bool x_5.Back, .int .i64 x_5.Try, .bool x_5.Ok, .int .u64 0]⟩, ⟨41, b_9, [.int .i64 0, .int .i64 0, .int .i64 0, .int .u64 0, .int .u64 0, .int .u64 0, .int .u64 0, .bool false, .slice none ([] : List T_api_Entry).length 0, .string (bs [])]⟩]) (ps := [b_9 = b_9]) (by kernel_rfl) (And.intro rfl trivial) ?_
      refine GoO.regionEnd ?_
      refine GoO.nilRd kT_api_Entry ?_
      exact GoO.ret' (h := c32_50e) (hs := [2]) (ps := [b_9 = b_9]) (hk := [0]) (bk := [0, 1]) Try.func32 (⟨none, 0, A_3, c_4⟩ : Option Addr × Nat × Option Addr × Nat) (by kernel_rfl) (And.intro rfl trivial) (by kernel_rfl) (by kernel_rfl)
    · refine GoO.skip' c32_51e ?_
      refine GoO.seq' c32_52e ?_
      refine GoO.draw c32_53e (by kernel_rfl) [11, 12, 13] [⟨40, b_8, [.int .i64 x_5.Kind, .int .u64 f_15, .int .u64 f_16, .int .u64 x_5.Saga, .slice A_6 x_5.Steps.length c_7, .int .i64 x_5.Step, .bool x_5.Back, .int .i64 x_5.Try, .bool x_5.Ok, .int .u64 0]⟩] [] (n := 14) (by kernel_rfl) ?_
      simp only [List.replicate]
      refine GoF.take [0, 1, 2, 3, 4, 5, 6] [.p, .p, .p, .b 0, .p, .p, .p] (ks := [0, 4, 58, 59, 60, 61, 63]) (fu := 7) (li := [true, true, true, true, true, true, true, false, false, false, false, false, false, false]) (env' := [(0, .pointer (some ⟨b_2, 0, none⟩)), (4, .pointer (some ⟨b_9, 0, none⟩)), (58, .pointer (some ⟨b_2, 0, none⟩)), (59, .pointer (some ⟨b_2, 0, none⟩)), (60, .agg ⟨[.int .i64 x_5.Kind, .int .u64 f_15, .int .u64 f_16, .int .u64 x_5.Saga, .slice A_6 x_5.Steps.length c_7, .int .i64 x_5.Step, .bool x_5.Back, .int .i64 x_5.Try, .bool x_5.Ok, .int .u64 0]⟩), (61, .string (bs r_18.1)), (63, .pointer (some ⟨b_2, 4, none⟩))]) (ps := [b_8 = b_8]) (hk := [1]) (bk := []) (by kernel_rfl) (And.intro rfl trivial) rfl rfl ?_
      refine GoF.fin1 (i := 7) (hint := .b 0) (ps := [b_2 = b_2]) (hk := [1]) (bk := []) (by kernel_rfl) rfl (And.intro rfl trivial) (.inr ⟨rfl, rfl⟩) ?_
      refine GoF.take [8, 9] [.p, .p] (ks := [0, 4, 59, 60, 61, 65]) (fu := 4) (li := [true, true, true, true, true, true, true, true, true, true, false, false, false, false]) (env' := [(0, .pointer (some ⟨b_2, 0, none⟩)), (4, .pointer (some ⟨b_9, 0, none⟩)), (59, .pointer (some ⟨b_2, 0, none⟩)), (60, .agg ⟨[.int .i64 x_5.Kind, .int .u64 f_15, .int .u64 f_16, .int .u64 x_5.Saga, .slice A_6 x_5.Steps.length c_7, .int .i64 x_5.Step, .bool x_5.Back, .int .i64 x_5.Try, .bool x_5.Ok, .int .u64 0]⟩), (61, .string (bs r_18.1)), (65, .pointer (some ⟨b_2, 5, none⟩))]) (ps := []) (hk := [1]) (bk := []) (by kernel_rfl) trivial rfl rfl ?_
      refine GoF.fin1 (i := 10) (hint := .b 0) (ps := [b_2 = b_2]) (hk := [1]) (bk := []) (by kernel_rfl) rfl (And.intro rfl trivial) (.inr ⟨rfl, rfl⟩) ?_
      refine GoF.fin1 (i := 11) (hint := .p) (ps := []) (hk := []) (bk := []) (by kernel_rfl) rfl trivial (.inl rfl) ?_
      refine GoF.fin1 (i := 12) (hint := .p) (ps := []) (hk := []) (bk := []) (by kernel_rfl) rfl trivial (.inl rfl) ?_
      refine GoF.fin1 (i := 13) (hint := .b 0) (ps := [b_2 = b_2]) (hk := []) (bk := []) (by kernel_rfl) rfl (And.intro rfl trivial) (.inl rfl) ?_
      refine GoF.done (by kernel_rfl) ?_
      refine GoO.seq' c32_54e ?_
      refine GoO.region' (is := [0, 1, 2, 3, 4, 5, 6, 7]) c32_55e (by kernel_rfl) ?_
      refine GoO.exec (is := [0, 1, 2, 3, 4, 5, 6, 7]) (hs := [.p, .p, .p, .b 0, .p, .p, .p, .b 0]) (rest := []) (ks := [0, 4]) (env' := [(0, .pointer (some ⟨b_2, 0, none⟩)), (4, .pointer (some ⟨b_9, 0, none⟩))]) (H' := [⟨1, b_2, [.int .i64 c_1.id, .int .u64 c_1.session, .int .u64 c_1.seq, .int .u64 (wu64 (c_1.call + 1)), .bool true, .int .i64 x_5.Kind, .int .u64 f_15, .int .u64 f_16, .int .u64 x_5.Saga, .slice A_6 x_5.Steps.length c_7, .int .i64 x_5.Step, .bool x_5.Back, .int .i64 x_5.Try, .bool x_5.Ok, .int .u64 0, .string (bs r_18.1), .int .i64 c_1.to_]⟩, ⟨40, b_8, [.int .i64 x_5.Kind, .int .u64 f_15, .int .u64 f_16, .int .u64 x_5.Saga, .slice A_6 x_5.Steps.length c_7, .int .i64 x_5.Step, .bool x_5.Back, .int .i64 x_5.Try, .bool x_5.Ok, .int .u64 0]⟩, ⟨41, b_9, [.int .i64 0, .int .i64 0, .int .i64 0, .int .u64 0, .int .u64 0, .int .u64 0, .int .u64 0, .bool false, .slice none ([] : List T_api_Entry).length 0, .string (bs [])]⟩]) (ps := [b_2 = b_2, b_2 = b_2]) (by kernel_rfl) (And.intro rfl (And.intro rfl trivial)) ?_
      refine GoO.regionEnd ?_
      refine GoO.seq' c32_56e ?_
      refine GoO.region' (is := [0, 1, 2, 3]) c32_57e (by kernel_rfl) ?_
      refine GoO.exec (is := [0]) (hs := [.p]) (rest := [1, 2, 3]) (ks := [4, 75]) (env' := [(4, .pointer (some ⟨b_9, 0, none⟩)), (75, .pointer (some ⟨b_2, 0, none⟩))]) (H' := [⟨1, b_2, [.int .i64 c_1.id, .int .u64 c_1.session, .int .u64 c_1.seq, .int .u64 (wu64 (c_1.call + 1)), .bool true, .int .i64 x_5.Kind, .int .u64 f_15, .int .u64 f_16, .int .u64 x_5.Saga, .slice A_6 x_5.Steps.length c_7, .int .i64 x_5.Step, .bool x_5.Back, .int .i64 x_5.Try, .bool x_5.Ok, .int .u64 0, .string (bs r_18.1), .int .i64 c_1.to_]⟩, ⟨40, b_8, [.int .i64 x_5.Kind, .int .u64 f_15, .int .u64 f_16, .int .u64 x_5.Saga, .slice A_6 x_5.Steps.length c_7, .int .i64 x_5.Step, .bool x_5.Back, .int .i64 x_5.Try, .bool x_5.Ok, .int .u64 0]⟩, ⟨41, b_9, [.int .i64 0, .int .i64 0, .int .i64 0, .int .u64 0, .int .u64 0, .int .u64 0, .int .u64 0, .bool false, .slice none ([] : List T_api_Entry).length 0, .string (bs [])]⟩]) (ps := []) (by kernel_rfl) trivial ?_
      refine OpTo.go (GoO.call rfl (by kernel_rfl) (by kernel_rfl) (client_Client_letter_ok n (⟨c_1.id, c_1.session, c_1.seq, wu64 (c_1.call + 1), true, (⟨x_5.Kind, f_15, f_16, x_5.Saga, x_5.Steps, x_5.Step, x_5.Back, x_5.Try, x_5.Ok, 0⟩ : T_api_Command), r_18.1, c_1.to_⟩ : T_client_Client) b_2 A_6 c_7) [[0], [1]] [] [(1, 0)] [(0, 1)] (hks := [0, 1, 2]) (bks := [0, 1]) (by kernel_rfl) (by kernel_rfl) (by kernel_rfl) (.inl rfl) rfl rfl (by kernel_rfl) (by kernel_rfl) _ (fun _ _ => rfl) _ _ (fun _ _ => rfl) (fun _ _ => rfl) (fun _ _ => by kernel_rfl) (fun _ _ => by kernel_rfl) (fun r_20 x_23 => ?_))
      obtain ⟨A_21, c_22⟩ := x_23
      refine GoO.shape (env' := [(4, .pointer (some ⟨b_9, 0, none⟩)), (75, .pointer (some ⟨b_2, 0, none⟩)), (76, .agg ⟨[.int .i64 r_20.Kind, .int .i64 r_20.From, .int .i64 r_20.To, .int .u64 r_20.Term, .int .u64 r_20.Index, .int .u64 r_20.Prev, .int .u64 r_20.Commit, .bool r_20.Ok, .slice A_21 r_20.Entries.length c_22, .string (bs r_20.Data)]⟩)]) (H' := [⟨1, b_2, [.int .i64 c_1.id, .int .u64 c_1.session, .int .u64 c_1.seq, .int .u64 (wu64 (c_1.call + 1)), .bool true, .int .i64 x_5.Kind, .int .u64 f_15, .int .u64 f_16, .int .u64 x_5.Saga, .slice A_6 x_5.Steps.length c_7, .int .i64 x_5.Step, .bool x_5.Back, .int .i64 x_5.Try, .bool x_5.Ok, .int .u64 0, .string (bs r_18.1), .int .i64 c_1.to_]⟩, ⟨40, b_8, [.int .i64 x_5.Kind, .int .u64 f_15, .int .u64 f_16, .int .u64 x_5.Saga, .slice A_6 x_5.Steps.length c_7, .int .i64 x_5.Step, .bool x_5.Back, .int .i64 x_5.Try, .bool x_5.Ok, .int .u64 0]⟩, ⟨41, b_9, [.int .i64 0, .int .i64 0, .int .i64 0, .int .u64 0, .int .u64 0, .int .u64 0, .int .u64 0, .bool false, .slice none ([] : List T_api_Entry).length 0, .string (bs [])]⟩]) (B' := [Rd 0 kT_api_Entry A_21 c_22 r_20.Entries, Rd 0 kT_api_Step A_3 c_4 c_1.now.Steps, Rd 0 kT_api_Step A_6 c_7 x_5.Steps]) (ks := [4, 75, 76]) (by kernel_rfl) (by kernel_rfl) (by kernel_rfl) ?_
      refine GoO.exec (is := [2, 3]) (hs := [.b 2, .p]) (rest := []) (ks := [4, 5]) (env' := [(4, .pointer (some ⟨b_9, 0, none⟩)), (5, .int .i64 0)]) (H' := [⟨1, b_2, [.int .i64 c_1.id, .int .u64 c_1.session, .int .u64 c_1.seq, .int .u64 (wu64 (c_1.call + 1)), .bool true, .int .i64 x_5.Kind, .int .u64 f_15, .int .u64 f_16, .int .u64 x_5.Saga, .slice A_6 x_5.Steps.length c_7, .int .i64 x_5.Step, .bool x_5.Back, .int .i64 x_5.Try, .bool x_5.Ok, .int .u64 0, .string (bs r_18.1), .int .i64 c_1.to_]⟩, ⟨40, b_8, [.int .i64 x_5.Kind, .int .u64 f_15, .int .u64 f_16, .int .u64 x_5.Saga, .slice A_6 x_5.Steps.length c_7, .int .i64 x_5.Step, .bool x_5.Back, .int .i64 x_5.Try, .bool x_5.Ok, .int .u64 0]⟩, ⟨41, b_9, [.int .i64 r_20.Kind, .int .i64 r_20.From, .int .i64 r_20.To, .int .u64 r_20.Term, .int .u64 r_20.Index, .int .u64 r_20.Prev, .int .u64 r_20.Commit, .bool r_20.Ok, .slice A_21 r_20.Entries.length c_22, .string (bs r_20.Data)]⟩]) (ps := [b_9 = b_9]) (by kernel_rfl) (And.intro rfl trivial) ?_
      refine GoO.regionEnd ?_
      exact GoO.ret' (h := c32_58e) (hs := [2]) (ps := [b_9 = b_9]) (hk := [0]) (bk := [0, 2]) Try.func32 (⟨A_21, c_22, A_6, c_7⟩ : Option Addr × Nat × Option Addr × Nat) (by kernel_rfl) (And.intro rfl trivial) (by kernel_rfl) (by kernel_rfl)
theorem client_Client_Call_j0_ok (n : Nat) (c_1 : T_client_Client) (x_5 : T_api_Command) (b_2 : Nat) (A_3 : Option Addr) (c_4 : Nat) (A_6 : Option Addr) (c_7 : Nat) (b_8 : Nat) (b_9 : Nat) (w0 : World) (S0 : Fam) (b_12 : Bool) :
    GoO (client_Client_Call.cx b_2 A_3 c_4 A_6 c_7 w0 S0) [(0, .pointer (some ⟨b_2, 0, none⟩)), (3, .pointer (some ⟨b_8, 0, none⟩)), (4, .pointer (some ⟨b_9, 0, none⟩)), (25, .bool b_12)] [⟨1, b_2, [.int .i64 c_1.id, .int .u64 c_1.session, .int .u64 c_1.seq, .int .u64 c_1.call, .bool c_1.busy, .int .i64 c_1.now.Kind, .int .u64 c_1.now.Session, .int .u64 c_1.now.Seq, .int .u64 c_1.now.Saga, .slice A_3 c_1.now.Steps.length c_4, .int .i64 c_1.now.Step, .bool c_1.now.Back, .int .i64 c_1.now.Try, .bool c_1.now.Ok, .int .u64 c_1.now.Now, .string (bs c_1.data), .int .i64 c_1.to_]⟩, ⟨40, b_8, [.int .i64 x_5.Kind, .int .u64 x_5.Session, .int .u64 x_5.Seq, .int .u64 x_5.Saga, .slice A_6 x_5.Steps.length c_7, .int .i64 x_5.Step, .bool x_5.Back, .int .i64 x_5.Try, .bool x_5.Ok, .int .u64 x_5.Now]⟩, ⟨41, b_9, [.int .i64 0, .int .i64 0, .int .i64 0, .int .u64 0, .int .u64 0, .int .u64 0, .int .u64 0, .bool false, .slice none ([] : List T_api_Entry).length 0, .string (bs [])]⟩] [Rd 0 kT_api_Step A_3 c_4 c_1.now.Steps, Rd 0 kT_api_Step A_6 c_7 x_5.Steps] [.code c32_21, .code c32_26] (client_Client_Call.j0 n c_1 x_5 b_12) := by
  unfold client_Client_Call.j0
  refine GoO.ite' c32_21e (by kernel_rfl) (fun h13 => ?_) (fun h13 => ?_)
  · refine GoO.seq' c32_22e ?_
    refine GoO.region' (is := [0, 1, 2]) c32_23e (by kernel_rfl) ?_
    refine GoO.exec (is := [0, 1, 2]) (hs := [.p, .b 2, .p]) (rest := []) (ks := [4, 5]) (env' := [(4, .pointer (some ⟨b_9, 0, none⟩)), (5, .int .i64 40)]) (H' := [⟨1, b_2, [.int .i64 c_1.id, .int .u64 c_1.session, .int .u64 c_1.seq, .int .u64 c_1.call, .bool c_1.busy, .int .i64 c_1.now.Kind, .int .u64 c_1.now.Session, .int .u64 c_1.now.Seq, .int .u64 c_1.now.Saga, .slice A_3 c_1.now.Steps.length c_4, .int .i64 c_1.now.Step, .bool c_1.now.Back, .int .i64 c_1.now.Try, .bool c_1.now.Ok, .int .u64 c_1.now.Now, .string (bs c_1.data), .int .i64 c_1.to_]⟩, ⟨40, b_8, [.int .i64 x_5.Kind, .int .u64 x_5.Session, .int .u64 x_5.Seq, .int .u64 x_5.Saga, .slice A_6 x_5.Steps.length c_7, .int .i64 x_5.Step, .bool x_5.Back, .int .i64 x_5.Try, .bool x_5.Ok, .int .u64 x_5.Now]⟩, ⟨41, b_9, [.int .i64 0, .int .i64 0, .int .i64 0, .int .u64 0, .int .u64 0, .int .u64 0, .int .u64 0, .bool false, .slice none ([] : List T_api_Entry).length 0, .string (bs [])]⟩]) (ps := [b_9 = b_9]) (by kernel_rfl) (And.intro rfl trivial) ?_
    refine GoO.regionEnd ?_
    refine GoO.nilRd kT_api_Entry ?_
    exact GoO.ret' (h := c32_24e) (hs := [2]) (ps := [b_9 = b_9]) (hk := [0]) (bk := [0, 1]) Try.func32 (⟨none, 0, A_3, c_4⟩ : Option Addr × Nat × Option Addr × Nat) (by kernel_rfl) (And.intro rfl trivial) (by kernel_rfl) (by kernel_rfl)
  · refine GoO.skip' c32_25e ?_
    refine GoO.seq' c32_26e ?_
    refine GoO.region' (is := [0, 1, 2, 3, 4, 5]) c32_27e (by kernel_rfl) ?_
    refine GoO.exec (is := [0, 1, 2, 3, 4, 5]) (hs := [.p, .b 1, .p, .b 1, .p, .b 1]) (rest := []) (ks := [0, 3, 4]) (env' := [(0, .pointer (some ⟨b_2, 0, none⟩)), (3, .pointer (some ⟨b_8, 0, none⟩)), (4, .pointer (some ⟨b_9, 0, none⟩))]) (H' := [⟨1, b_2, [.int .i64 c_1.id, .int .u64 c_1.session, .int .u64 c_1.seq, .int .u64 c_1.call, .bool c_1.busy, .int .i64 c_1.now.Kind, .int .u64 c_1.now.Session, .int .u64 c_1.now.Seq, .int .u64 c_1.now.Saga, .slice A_3 c_1.now.Steps.length c_4, .int .i64 c_1.now.Step, .bool c_1.now.Back, .int .i64 c_1.now.Try, .bool c_1.now.Ok, .int .u64 c_1.now.Now, .string (bs c_1.data), .int .i64 c_1.to_]⟩, ⟨40, b_8, [.int .i64 x_5.Kind, .int .u64 0, .int .u64 0, .int .u64 x_5.Saga, .slice A_6 x_5.Steps.length c_7, .int .i64 x_5.Step, .bool x_5.Back, .int .i64 x_5.Try, .bool x_5.Ok, .int .u64 0]⟩, ⟨41, b_9, [.int .i64 0, .int .i64 0, .int .i64 0, .int .u64 0, .int .u64 0, .int .u64 0, .int .u64 0, .bool false, .slice none ([] : List T_api_Entry).length 0, .string (bs [])]⟩]) (ps := [b_8 = b_8, b_8 = b_8, b_8 = b_8]) (by kernel_rfl) (And.intro rfl (And.intro rfl (And.intro rfl trivial))) ?_
    refine GoO.regionEnd ?_
    refine GoO.seq' c32_28e ?_
    refine GoO.seq' c32_29e ?_
    refine GoO.region' (is := [0, 1, 2]) c32_30e (by kernel_rfl) ?_
    refine GoO.exec (is := [0, 1, 2]) (hs := [.p, .b 1, .p]) (rest := []) (ks := [0, 3, 4, 32]) (env' := [(0, .pointer (some ⟨b_2, 0, none⟩)), (3, .pointer (some ⟨b_8, 0, none⟩)), (4, .pointer (some ⟨b_9, 0, none⟩)), (32, .bool (x_5.Kind != 1))]) (H' := [⟨1, b_2, [.int .i64 c_1.id, .int .u64 c_1.session, .int .u64 c_1.seq, .int .u64 c_1.call, .bool c_1.busy, .int .i64 c_1.now.Kind, .int .u64 c_1.now.Session, .int .u64 c_1.now.Seq, .int .u64 c_1.now.Saga, .slice A_3 c_1.now.Steps.length c_4, .int .i64 c_1.now.Step, .bool c_1.now.Back, .int .i64 c_1.now.Try, .bool c_1.now.Ok, .int .u64 c_1.now.Now, .string (bs c_1.data), .int .i64 c_1.to_]⟩, ⟨40, b_8, [.int .i64 x_5.Kind, .int .u64 0, .int .u64 0, .int .u64 x_5.Saga, .slice A_6 x_5.Steps.length c_7, .int .i64 x_5.Step, .bool x_5.Back, .int .i64 x_5.Try, .bool x_5.Ok, .int .u64 0]⟩, ⟨41, b_9, [.int .i64 0, .int .i64 0, .int .i64 0, .int .u64 0, .int .u64 0, .int .u64 0, .int .u64 0, .bool false, .slice none ([] : List T_api_Entry).length 0, .string (bs [])]⟩]) (ps := [b_8 = b_8]) (by kernel_rfl) (And.intro rfl trivial) ?_
    refine GoO.regionEnd ?_
    refine GoO.ite' c32_31e (by kernel_rfl) (fun h14 => ?_) (fun h14 => ?_)
    · refine GoO.draw c32_32e (by kernel_rfl) [11, 12] [⟨1, b_2, [.int .i64 c_1.id, .int .u64 c_1.session, .int .u64 c_1.seq, .int .u64 c_1.call, .bool c_1.busy, .int .i64 c_1.now.Kind, .int .u64 c_1.now.Session, .int .u64 c_1.now.Seq, .int .u64 c_1.now.Saga, .slice A_3 c_1.now.Steps.length c_4, .int .i64 c_1.now.Step, .bool c_1.now.Back, .int .i64 c_1.now.Try, .bool c_1.now.Ok, .int .u64 c_1.now.Now, .string (bs c_1.data), .int .i64 c_1.to_]⟩] [] (n := 13) (by kernel_rfl) ?_
      simp only [List.replicate]
      refine GoF.take [0, 1, 2, 3, 4, 5, 6, 7, 8, 9] [.p, .p, .p, .b 0, .p, .p, .p, .b 0, .p, .p] (ks := [0, 3, 4, 36, 41, 42]) (fu := 3) (li := [true, true, true, true, true, true, true, true, true, true, false, false, false]) (env' := [(0, .pointer (some ⟨b_2, 0, none⟩)), (3, .pointer (some ⟨b_8, 0, none⟩)), (4, .pointer (some ⟨b_9, 0, none⟩)), (36, .int .u64 c_1.session), (41, .int .u64 (wu64 (c_1.seq + 1))), (42, .pointer (some ⟨b_8, 1, none⟩))]) (ps := [b_2 = b_2, b_2 = b_2]) (hk := [0]) (bk := []) (by kernel_rfl) (And.intro rfl (And.intro rfl trivial)) rfl rfl ?_
      refine GoF.fin1 (i := 10) (hint := .b 1) (ps := [b_8 = b_8]) (hk := [0]) (bk := []) (by kernel_rfl) rfl (And.intro rfl trivial) (.inr ⟨rfl, rfl⟩) ?_
      refine GoF.fin1 (i := 11) (hint := .p) (ps := []) (hk := []) (bk := []) (by kernel_rfl) rfl trivial (.inl rfl) ?_
      refine GoF.fin1 (i := 12) (hint := .b 1) (ps := [b_8 = b_8]) (hk := []) (bk := []) (by kernel_rfl) rfl (And.intro rfl trivial) (.inl rfl) ?_
      refine GoF.done (by kernel_rfl) ?_
      exact GoO.sub (ks := [0, 3, 4]) (hk := [0, 1, 2]) (bk := [0, 1]) (by kernel_rfl) (by kernel_rfl) (by kernel_rfl) (client_Client_Call_j1_ok n c_1 x_5 b_2 A_3 c_4 A_6 c_7 b_8 b_9 w0 S0 c_1.session (wu64 (c_1.seq + 1)))
    · refine GoO.skip' c32_33e ?_
      exact GoO.sub (ks := [0, 3, 4]) (hk := [0, 1, 2]) (bk := [0, 1]) (by kernel_rfl) (by kernel_rfl) (by kernel_rfl) (client_Client_Call_j1_ok n c_1 x_5 b_2 A_3 c_4 A_6 c_7 b_8 b_9 w0 S0 0 0)
theorem client_Client_Call_ok (n : Nat) (c_1 : T_client_Client) (x_5 : T_api_Command) (b_2 : Nat) (A_3 : Option Addr) (c_4 : Nat) (A_6 : Option Addr) (c_7 : Nat) :
    Meets Try.prog 32 [.pointer (some ⟨b_2, 0, none⟩), .agg ⟨[.int .i64 x_5.Kind, .int .u64 x_5.Session, .int .u64 x_5.Seq, .int .u64 x_5.Saga, .slice A_6 x_5.Steps.length c_7, .int .i64 x_5.Step, .bool x_5.Back, .int .i64 x_5.Try, .bool x_5.Ok, .int .u64 x_5.Now]⟩] 1 [1] [⟨1, b_2, [.int .i64 c_1.id, .int .u64 c_1.session, .int .u64 c_1.seq, .int .u64 c_1.call, .bool c_1.busy, .int .i64 c_1.now.Kind, .int .u64 c_1.now.Session, .int .u64 c_1.now.Seq, .int .u64 c_1.now.Saga, .slice A_3 c_1.now.Steps.length c_4, .int .i64 c_1.now.Step, .bool c_1.now.Back, .int .i64 c_1.now.Try, .bool c_1.now.Ok, .int .u64 c_1.now.Now, .string (bs c_1.data), .int .i64 c_1.to_]⟩] [Rd 0 kT_api_Step A_3 c_4 c_1.now.Steps, Rd 0 kT_api_Step A_6 c_7 x_5.Steps] (client_Client_Call.f n c_1 x_5) (client_Client_Call.R b_2 A_3 c_4 A_6 c_7) := by
  refine Meets.of (c := c32_0) (n := 77) Try.func32 (by kernel_rfl) (by kernel_rfl) (by kernel_rfl) fun w0 S0 => ?_
  unfold client_Client_Call.f
  show GoO (client_Client_Call.cx b_2 A_3 c_4 A_6 c_7 w0 S0) [(0, .pointer (some ⟨b_2, 0, none⟩)), (1, .agg ⟨[.int .i64 x_5.Kind, .int .u64 x_5.Session, .int .u64 x_5.Seq, .int .u64 x_5.Saga, .slice A_6 x_5.Steps.length c_7, .int .i64 x_5.Step, .bool x_5.Back, .int .i64 x_5.Try, .bool x_5.Ok, .int .u64 x_5.Now]⟩)] [⟨1, b_2, [.int .i64 c_1.id, .int .u64 c_1.session, .int .u64 c_1.seq, .int .u64 c_1.call, .bool c_1.busy, .int .i64 c_1.now.Kind, .int .u64 c_1.now.Session, .int .u64 c_1.now.Seq, .int .u64 c_1.now.Saga, .slice A_3 c_1.now.Steps.length c_4, .int .i64 c_1.now.Step, .bool c_1.now.Back, .int .i64 c_1.now.Try, .bool c_1.now.Ok, .int .u64 c_1.now.Now, .string (bs c_1.data), .int .i64 c_1.to_]⟩] [Rd 0 kT_api_Step A_3 c_4 c_1.now.Steps, Rd 0 kT_api_Step A_6 c_7 x_5.Steps] [.code c32_0] _
  refine GoO.seq' c32_0e ?_
  refine GoO.region' (is := [0, 1, 2]) c32_1e (by kernel_rfl) ?_
  refine OpTo.go (GoO.new rfl 40 (cs := [.int .i64 x_5.Kind, .int .u64 x_5.Session, .int .u64 x_5.Seq, .int .u64 x_5.Saga, .slice A_6 x_5.Steps.length c_7, .int .i64 x_5.Step, .bool x_5.Back, .int .i64 x_5.Try, .bool x_5.Ok, .int .u64 x_5.Now]) (by kernel_rfl) _ (fun _ => rfl) (fun b_8 => ?_))
  refine OpTo.go (GoO.new rfl 41 (cs := [.int .i64 0, .int .i64 0, .int .i64 0, .int .u64 0, .int .u64 0, .int .u64 0, .int .u64 0, .bool false, .slice none ([] : List T_api_Entry).length 0, .string (bs [])]) (by kernel_rfl) _ (fun _ => rfl) (fun b_9 => ?_))
  refine GoO.exec (is := [2]) (hs := [.p]) (rest := []) (ks := [0, 3, 4]) (env' := [(0, .pointer (some ⟨b_2, 0, none⟩)), (3, .pointer (some ⟨b_8, 0, none⟩)), (4, .pointer (some ⟨b_9, 0, none⟩))]) (H' := [⟨41, b_9, [.int .i64 0, .int .i64 0, .int .i64 0, .int .u64 0, .int .u64 0, .int .u64 0, .int .u64 0, .bool false, .slice none ([] : List T_api_Entry).length 0, .string (bs [])]⟩, ⟨40, b_8, [.int .i64 x_5.Kind, .int .u64 x_5.Session, .int .u64 x_5.Seq, .int .u64 x_5.Saga, .slice A_6 x_5.Steps.length c_7, .int .i64 x_5.Step, .bool x_5.Back, .int .i64 x_5.Try, .bool x_5.Ok, .int .u64 x_5.Now]⟩, ⟨1, b_2, [.int .i64 c_1.id, .int .u64 c_1.session, .int .u64 c_1.seq, .int .u64 c_1.call, .bool c_1.busy, .int .i64 c_1.now.Kind, .int .u64 c_1.now.Session, .int .u64 c_1.now.Seq, .int .u64 c_1.now.Saga, .slice A_3 c_1.now.Steps.length c_4, .int .i64 c_1.now.Step, .bool c_1.now.Back, .int .i64 c_1.now.Try, .bool c_1.now.Ok, .int .u64 c_1.now.Now, .string (bs c_1.data), .int .i64 c_1.to_]⟩]) (ps := []) (by kernel_rfl) trivial ?_
  refine GoO.regionEnd ?_
  refine GoO.seq' c32_2e ?_
  refine GoO.seq' c32_3e ?_
  refine GoO.region' (is := [0, 1]) c32_4e (by kernel_rfl) ?_
  refine GoO.exec (is := [0, 1]) (hs := [.p, .p]) (rest := []) (ks := [0, 3, 4, 9]) (env' := [(0, .pointer (some ⟨b_2, 0, none⟩)), (3, .pointer (some ⟨b_8, 0, none⟩)), (4, .pointer (some ⟨b_9, 0, none⟩)), (9, .bool false)]) (H' := [⟨41, b_9, [.int .i64 0, .int .i64 0, .int .i64 0, .int .u64 0, .int .u64 0, .int .u64 0, .int .u64 0, .bool false, .slice none ([] : List T_api_Entry).length 0, .string (bs [])]⟩, ⟨40, b_8, [.int .i64 x_5.Kind, .int .u64 x_5.Session, .int .u64 x_5.Seq, .int .u64 x_5.Saga, .slice A_6 x_5.Steps.length c_7, .int .i64 x_5.Step, .bool x_5.Back, .int .i64 x_5.Try, .bool x_5.Ok, .int .u64 x_5.Now]⟩, ⟨1, b_2, [.int .i64 c_1.id, .int .u64 c_1.session, .int .u64 c_1.seq, .int .u64 c_1.call, .bool c_1.busy, .int .i64 c_1.now.Kind, .int .u64 c_1.now.Session, .int .u64 c_1.now.Seq, .int .u64 c_1.now.Saga, .slice A_3 c_1.now.Steps.length c_4, .int .i64 c_1.now.Step, .bool c_1.now.Back, .int .i64 c_1.now.Try, .bool c_1.now.Ok, .int .u64 c_1.now.Now, .string (bs c_1.data), .int .i64 c_1.to_]⟩]) (ps := []) (by kernel_rfl) trivial ?_
  refine GoO.regionEnd ?_
  refine GoO.condF c32_5e (by kernel_rfl) ?_
  refine GoO.skip' c32_9e ?_
  refine GoO.seq' c32_10e ?_
  refine GoO.seq' c32_11e ?_
  refine GoO.region' (is := [0, 1, 2, 3]) c32_12e (by kernel_rfl) ?_
  refine GoO.exec (is := [0, 1, 2, 3]) (hs := [.p, .p, .p, .b 2]) (rest := []) (ks := [0, 3, 4, 14]) (env' := [(0, .pointer (some ⟨b_2, 0, none⟩)), (3, .pointer (some ⟨b_8, 0, none⟩)), (4, .pointer (some ⟨b_9, 0, none⟩)), (14, .bool c_1.busy)]) (H' := [⟨41, b_9, [.int .i64 0, .int .i64 0, .int .i64 0, .int .u64 0, .int .u64 0, .int .u64 0, .int .u64 0, .bool false, .slice none ([] : List T_api_Entry).length 0, .string (bs [])]⟩, ⟨40, b_8, [.int .i64 x_5.Kind, .int .u64 x_5.Session, .int .u64 x_5.Seq, .int .u64 x_5.Saga, .slice A_6 x_5.Steps.length c_7, .int .i64 x_5.Step, .bool x_5.Back, .int .i64 x_5.Try, .bool x_5.Ok, .int .u64 x_5.Now]⟩, ⟨1, b_2, [.int .i64 c_1.id, .int .u64 c_1.session, .int .u64 c_1.seq, .int .u64 c_1.call, .bool c_1.busy, .int .i64 c_1.now.Kind, .int .u64 c_1.now.Session, .int .u64 c_1.now.Seq, .int .u64 c_1.now.Saga, .slice A_3 c_1.now.Steps.length c_4, .int .i64 c_1.now.Step, .bool c_1.now.Back, .int .i64 c_1.now.Try, .bool c_1.now.Ok, .int .u64 c_1.now.Now, .string (bs c_1.data), .int .i64 c_1.to_]⟩]) (ps := [b_2 = b_2]) (by kernel_rfl) (And.intro rfl trivial) ?_
  refine GoO.regionEnd ?_
  refine GoO.ite' c32_13e (by kernel_rfl) (fun h10 => ?_) (fun h10 => ?_)
  · refine GoO.seq' c32_14e ?_
    refine GoO.region' (is := [0, 1, 2]) c32_15e (by kernel_rfl) ?_
    refine GoO.exec (is := [0, 1, 2]) (hs := [.p, .b 0, .p]) (rest := []) (ks := [4, 5]) (env' := [(4, .pointer (some ⟨b_9, 0, none⟩)), (5, .int .i64 31)]) (H' := [⟨41, b_9, [.int .i64 0, .int .i64 0, .int .i64 0, .int .u64 0, .int .u64 0, .int .u64 0, .int .u64 0, .bool false, .slice none ([] : List T_api_Entry).length 0, .string (bs [])]⟩, ⟨40, b_8, [.int .i64 x_5.Kind, .int .u64 x_5.Session, .int .u64 x_5.Seq, .int .u64 x_5.Saga, .slice A_6 x_5.Steps.length c_7, .int .i64 x_5.Step, .bool x_5.Back, .int .i64 x_5.Try, .bool x_5.Ok, .int .u64 x_5.Now]⟩, ⟨1, b_2, [.int .i64 c_1.id, .int .u64 c_1.session, .int .u64 c_1.seq, .int .u64 c_1.call, .bool c_1.busy, .int .i64 c_1.now.Kind, .int .u64 c_1.now.Session, .int .u64 c_1.now.Seq, .int .u64 c_1.now.Saga, .slice A_3 c_1.now.Steps.length c_4, .int .i64 c_1.now.Step, .bool c_1.now.Back, .int .i64 c_1.now.Try, .bool c_1.now.Ok, .int .u64 c_1.now.Now, .string (bs c_1.data), .int .i64 c_1.to_]⟩]) (ps := [b_9 = b_9]) (by kernel_rfl) (And.intro rfl trivial) ?_
    refine GoO.regionEnd ?_
    refine GoO.nilRd kT_api_Entry ?_
    exact GoO.ret' (h := c32_16e) (hs := [0]) (ps := [b_9 = b_9]) (hk := [2]) (bk := [0, 1]) Try.func32 (⟨none, 0, A_3, c_4⟩ : Option Addr × Nat × Option Addr × Nat) (by kernel_rfl) (And.intro rfl trivial) (by kernel_rfl) (by kernel_rfl)
  · refine GoO.skip' c32_17e ?_
    refine GoO.seq' c32_18e ?_
    refine GoO.seq' c32_19e ?_
    refine GoO.region' (is := [0, 1, 2, 3, 4, 5, 6, 7, 8, 9]) c32_20e (by kernel_rfl) ?_
    refine GoO.exec (is := [0, 1, 2, 3]) (hs := [.p, .b 1, .p, .p]) (rest := [4, 5, 6, 7, 8, 9]) (ks := [0, 3, 4, 19]) (env' := [(0, .pointer (some ⟨b_2, 0, none⟩)), (3, .pointer (some ⟨b_8, 0, none⟩)), (4, .pointer (some ⟨b_9, 0, none⟩)), (19, .bool (x_5.Kind != 1))]) (H' := [⟨41, b_9, [.int .i64 0, .int .i64 0, .int .i64 0, .int .u64 0, .int .u64 0, .int .u64 0, .int .u64 0, .bool false, .slice none ([] : List T_api_Entry).length 0, .string (bs [])]⟩, ⟨40, b_8, [.int .i64 x_5.Kind, .int .u64 x_5.Session, .int .u64 x_5.Seq, .int .u64 x_5.Saga, .slice A_6 x_5.Steps.length c_7, .int .i64 x_5.Step, .bool x_5.Back, .int .i64 x_5.Try, .bool x_5.Ok, .int .u64 x_5.Now]⟩, ⟨1, b_2, [.int .i64 c_1.id, .int .u64 c_1.session, .int .u64 c_1.seq, .int .u64 c_1.call, .bool c_1.busy, .int .i64 c_1.now.Kind, .int .u64 c_1.now.Session, .int .u64 c_1.now.Seq, .int .u64 c_1.now.Saga, .slice A_3 c_1.now.Steps.length c_4, .int .i64 c_1.now.Step, .bool c_1.now.Back, .int .i64 c_1.now.Try, .bool c_1.now.Ok, .int .u64 c_1.now.Now, .string (bs c_1.data), .int .i64 c_1.to_]⟩]) (ps := [b_8 = b_8]) (by kernel_rfl) (And.intro rfl trivial) ?_
    refine GoO.bsplit (t := 19) (by kernel_rfl) (fun h11 => ?_) (fun h11 => ?_)
    · refine GoO.exec (is := [4, 5, 6, 7, 8, 9]) (hs := [.p, .p, .p, .b 2, .p, .p]) (rest := []) (ks := [0, 3, 4, 25]) (env' := [(0, .pointer (some ⟨b_2, 0, none⟩)), (3, .pointer (some ⟨b_8, 0, none⟩)), (4, .pointer (some ⟨b_9, 0, none⟩)), (25, .bool (c_1.session == 0))]) (H' := [⟨41, b_9, [.int .i64 0, .int .i64 0, .int .i64 0, .int .u64 0, .int .u64 0, .int .u64 0, .int .u64 0, .bool false, .slice none ([] : List T_api_Entry).length 0, .string (bs [])]⟩, ⟨40, b_8, [.int .i64 x_5.Kind, .int .u64 x_5.Session, .int .u64 x_5.Seq, .int .u64 x_5.Saga, .slice A_6 x_5.Steps.length c_7, .int .i64 x_5.Step, .bool x_5.Back, .int .i64 x_5.Try, .bool x_5.Ok, .int .u64 x_5.Now]⟩, ⟨1, b_2, [.int .i64 c_1.id, .int .u64 c_1.session, .int .u64 c_1.seq, .int .u64 c_1.call, .bool c_1.busy, .int .i64 c_1.now.Kind, .int .u64 c_1.now.Session, .int .u64 c_1.now.Seq, .int .u64 c_1.now.Saga, .slice A_3 c_1.now.Steps.length c_4, .int .i64 c_1.now.Step, .bool c_1.now.Back, .int .i64 c_1.now.Try, .bool c_1.now.Ok, .int .u64 c_1.now.Now, .string (bs c_1.data), .int .i64 c_1.to_]⟩]) (ps := [b_2 = b_2]) (by kernel_rfl) (And.intro rfl trivial) ?_
      refine GoO.regionEnd ?_
      exact GoO.sub (ks := [0, 3, 4, 25]) (hk := [2, 1, 0]) (bk := [0, 1]) (by kernel_rfl) (by kernel_rfl) (by kernel_rfl) (client_Client_Call_j0_ok n c_1 x_5 b_2 A_3 c_4 A_6 c_7 b_8 b_9 w0 S0 (c_1.session == 0))
    · refine GoO.exec (is := [4, 5, 6, 7, 8, 9]) (hs := [.p, .p, .p, .p, .p, .p]) (rest := []) (ks := [0, 3, 4, 25]) (env' := [(0, .pointer (some ⟨b_2, 0, none⟩)), (3, .pointer (some ⟨b_8, 0, none⟩)), (4, .pointer (some ⟨b_9, 0, none⟩)), (25, .bool false)]) (H' := [⟨41, b_9, [.int .i64 0, .int .i64 0, .int .i64 0, .int .u64 0, .int .u64 0, .int .u64 0, .int .u64 0, .bool false, .slice none ([] : List T_api_Entry).length 0, .string (bs [])]⟩, ⟨40, b_8, [.int .i64 x_5.Kind, .int .u64 x_5.Session, .int .u64 x_5.Seq, .int .u64 x_5.Saga, .slice A_6 x_5.Steps.length c_7, .int .i64 x_5.Step, .bool x_5.Back, .int .i64 x_5.Try, .bool x_5.Ok, .int .u64 x_5.Now]⟩, ⟨1, b_2, [.int .i64 c_1.id, .int .u64 c_1.session, .int .u64 c_1.seq, .int .u64 c_1.call, .bool c_1.busy, .int .i64 c_1.now.Kind, .int .u64 c_1.now.Session, .int .u64 c_1.now.Seq, .int .u64 c_1.now.Saga, .slice A_3 c_1.now.Steps.length c_4, .int .i64 c_1.now.Step, .bool c_1.now.Back, .int .i64 c_1.now.Try, .bool c_1.now.Ok, .int .u64 c_1.now.Now, .string (bs c_1.data), .int .i64 c_1.to_]⟩]) (ps := []) (by kernel_rfl) trivial ?_
      refine GoO.regionEnd ?_
      exact GoO.sub (ks := [0, 3, 4, 25]) (hk := [2, 1, 0]) (bk := [0, 1]) (by kernel_rfl) (by kernel_rfl) (by kernel_rfl) (client_Client_Call_j0_ok n c_1 x_5 b_2 A_3 c_4 A_6 c_7 b_8 b_9 w0 S0 false)

/-! tontine/tontineref03.Num -/
noncomputable def c77_0 : Code := bodyOf Try.f77
noncomputable def c77_1 : Code := cdL c77_0
noncomputable def c77_2 : Code := cdR c77_0
noncomputable def c77_3 : Code := cdL c77_2
noncomputable def c77_4 : Code := cdR c77_2
noncomputable def c77_5 : Code := cdL c77_4
noncomputable def c77_6 : Code := cdR c77_4
noncomputable def c77_7 : Code := cdL c77_6
noncomputable def c77_8 : Code := cdL c77_7
noncomputable def c77_9 : Code := cdL c77_8
noncomputable def c77_10 : Code := cdL c77_9
noncomputable def c77_11 : Code := cdL c77_10
noncomputable def c77_12 : Code := cdR c77_10
noncomputable def c77_13 : Code := cdL c77_12
noncomputable def c77_14 : Code := cdR c77_12
noncomputable def c77_15 : Code := cdR c77_9
noncomputable def c77_16 : Code := cdL c77_15
noncomputable def c77_17 : Code := cdL c77_16
noncomputable def c77_18 : Code := cdR c77_16
noncomputable def c77_19 : Code := cdL c77_18
noncomputable def c77_20 : Code := cdR c77_18
noncomputable def c77_21 : Code := cdR c77_6
noncomputable def c77_22 : Code := cdL c77_21
noncomputable def c77_23 : Code := cdR c77_21
noncomputable def r77_1 : Array Oper := cdO c77_1
noncomputable def r77_3 : Array Oper := cdO c77_3
noncomputable def r77_5 : Array Oper := cdO c77_5
noncomputable def r77_11 : Array Oper := cdO c77_11
noncomputable def r77_17 : Array Oper := cdO c77_17
noncomputable def r77_19 : Array Oper := cdO c77_19
noncomputable def r77_20 : Array Oper := cdO c77_20
noncomputable def r77_22 : Array Oper := cdO c77_22
theorem c77_0e : c77_0 = .seq c77_1 c77_2 := by kernel_rfl
theorem c77_1e : c77_1 = .region 0 r77_1 false := by kernel_rfl
theorem c77_2e : c77_2 = .seq c77_3 c77_4 := by kernel_rfl
theorem c77_3e : c77_3 = .region 1 r77_3 false := by kernel_rfl
theorem c77_4e : c77_4 = .seq c77_5 c77_6 := by kernel_rfl
theorem c77_5e : c77_5 = .region 2 r77_5 false := by kernel_rfl
theorem c77_6e : c77_6 = .seq c77_7 c77_21 := by kernel_rfl
theorem c77_7e : c77_7 = .block 0 c77_8 := by kernel_rfl
theorem c77_8e : c77_8 = .loop c77_9 := by kernel_rfl
theorem c77_9e : c77_9 = .seq c77_10 c77_15 := by kernel_rfl
theorem c77_10e : c77_10 = .seq c77_11 c77_12 := by kernel_rfl
theorem c77_11e : c77_11 = .region 3 r77_11 false := by kernel_rfl
theorem c77_12e : c77_12 = .cond (cdC c77_12) c77_13 c77_14 := by kernel_rfl
theorem c77_13e : c77_13 = .skip := by kernel_rfl
theorem c77_14e : c77_14 = .exit 0 := by kernel_rfl
theorem c77_15e : c77_15 = .block 1 c77_16 := by kernel_rfl
theorem c77_16e : c77_16 = .seq c77_17 c77_18 := by kernel_rfl
theorem c77_17e : c77_17 = .region 4 r77_17 false := by kernel_rfl
theorem c77_18e : c77_18 = .seq c77_19 c77_20 := by kernel_rfl
theorem c77_19e : c77_19 = .region 5 r77_19 false := by kernel_rfl
theorem c77_20e : c77_20 = .region 6 r77_20 false := by kernel_rfl
theorem c77_21e : c77_21 = .seq c77_22 c77_23 := by kernel_rfl
theorem c77_22e : c77_22 = .region 7 r77_22 false := by kernel_rfl
theorem c77_23e : c77_23 = .ret := by kernel_rfl
noncomputable def tontineref03_Num.R : Pst (List UInt8) where
  ε := Unit
  v := fun r x => .string (bs r)
  H := fun r x => []
  B := fun r x => []
noncomputable def tontineref03_Num.cx (w0 : World) (S0 : Fam) : Cx (List UInt8) := ⟨Try.prog, 77, Try.f77, 24, w0, S0, [], 0, tontineref03_Num.R⟩
theorem tontineref03_Num_l0_ok (n : Nat) (w0 : World) (S0 : Fam) :
    ∀ (k : Nat) (x_2 : Int) (s_3 : (List UInt8)) (n_4 : Int), GoO (tontineref03_Num.cx w0 S0) [(0, .int .u64 x_2), (3, .string (bs s_3)), (4, .int .i64 n_4)] [] [] [.code c77_9, .inLoop c77_9, .inBlock 0, .code c77_21] (tontineref03_Num.l0 n k x_2 s_3 n_4) := by
  intro k
  induction k with
  | zero => intros; rw [tontineref03_Num.l0.eq_1]; exact GoO.stop
  | succ k ih0 =>
    intro x_2 s_3 n_4
    rw [tontineref03_Num.l0.eq_2]
    refine GoO.seq' c77_9e ?_
    refine GoO.seq' c77_10e ?_
    refine GoO.region' (is := [0, 1]) c77_11e (by kernel_rfl) ?_
    refine GoO.exec (is := [0, 1]) (hs := [.p, .p]) (rest := []) (ks := [0, 3, 4, 6]) (env' := [(0, .int .u64 x_2), (3, .string (bs s_3)), (4, .int .i64 n_4), (6, .bool (decide (x_2 > 0)))]) (H' := []) (ps := []) (by kernel_rfl) trivial ?_
    refine GoO.regionEnd ?_
    refine GoO.ite' c77_12e (by kernel_rfl) (fun h5 => ?_) (fun h5 => ?_)
    · refine GoO.skip' c77_13e ?_
      refine GoO.block' c77_15e ?_
      refine GoO.seq' c77_16e ?_
      refine GoO.region' (is := [0, 1, 2, 3, 4, 5, 6, 7]) c77_17e (by kernel_rfl) ?_
      refine GoO.exec (is := [0, 1, 2]) (hs := [.p, .p, .p]) (rest := [3, 4, 5, 6, 7]) (ks := [0, 3, 4, 9]) (env' := [(0, .int .u64 x_2), (3, .string (bs s_3)), (4, .int .i64 n_4), (9, .int .u8 (wu8 (x_2.tmod 256)))]) (H' := []) (ps := [(256 : Int) ≠ 0]) (by kernel_rfl) (And.intro (by decide) trivial) ?_
      refine OpTo.go (GoO.lit (e := 5) (K := Kd.u8) rfl (by kernel_rfl) (by kernel_rfl) (cs := [.int .u8 (wu8 (x_2.tmod 256))]) (by kernel_rfl) [u8of (x_2.tmod 256)] (by kernel_rfl) (by kernel_rfl) (fun w S hB => ⟨[.int .u8 (wu8 (x_2.tmod 256))], _, rfl, (congrArg (fun v => [v]) (u8cell _)), rfl⟩) 40 _ (fun _ _ => rfl) (fun A_6 c_7 => ?_))
      refine OpTo.go (GoO.toStr (e := 5) (A := A_6) (c := c_7) (xs := [u8of (x_2.tmod 256)]) (j := 0) rfl (by kernel_rfl) (by kernel_rfl) (by kernel_rfl) (by kernel_rfl) rfl Reads.own rfl rfl ?_)
      refine GoO.guard (fun h8 => ?_)
      refine GoO.exec (is := [5, 6, 7]) (hs := [.p, .p, .p]) (rest := []) (ks := [0, 3, 4]) (env' := [(0, .int .u64 x_2), (3, .string (bs ([u8of (x_2.tmod 256)] ++ s_3))), (4, .int .i64 n_4)]) (H' := []) (ps := [([u8of (x_2.tmod 256)] : List UInt8).length + s_3.length ≤ i64max]) (by kernel_rfl) (And.intro h8 trivial) ?_
      refine GoO.regionEnd ?_
      refine GoO.seq' c77_18e ?_
      refine GoO.region' (is := [0, 1, 2]) c77_19e (by kernel_rfl) ?_
      refine GoO.exec (is := [0, 1, 2]) (hs := [.p, .p, .p]) (rest := []) (ks := [0, 3, 4]) (env' := [(0, .int .u64 (wu64 (x_2.tdiv 256))), (3, .string (bs ([u8of (x_2.tmod 256)] ++ s_3))), (4, .int .i64 n_4)]) (H' := []) (ps := [(256 : Int) ≠ 0]) (by kernel_rfl) (And.intro (by decide) trivial) ?_
      refine GoO.regionEnd ?_
      refine GoO.region' (is := [0, 1, 2]) c77_20e (by kernel_rfl) ?_
      refine GoO.exec (is := [0, 1, 2]) (hs := [.p, .p, .p]) (rest := []) (ks := [0, 3, 4]) (env' := [(0, .int .u64 (wu64 (x_2.tdiv 256))), (3, .string (bs ([u8of (x_2.tmod 256)] ++ s_3))), (4, .int .i64 (wi64 (n_4 + 1)))]) (H' := []) (ps := []) (by kernel_rfl) trivial ?_
      refine GoO.regionEnd ?_
      refine GoO.inBlock ?_
      refine GoO.inLoop ?_
      exact GoO.sub (ks := [0, 3, 4]) (hk := []) (bk := []) (by kernel_rfl) (by kernel_rfl) (by kernel_rfl) (ih0 (wu64 (x_2.tdiv 256)) ([u8of (x_2.tmod 256)] ++ s_3) (wi64 (n_4 + 1)))
    · refine GoO.exit' c77_14e rfl ?_
      refine GoO.seq' c77_21e ?_
      refine GoO.region' (is := [0, 1, 2, 3, 4, 5, 6]) c77_22e (by kernel_rfl) ?_
      refine GoO.exec (is := [0, 1]) (hs := [.p, .p]) (rest := [2, 3, 4, 5, 6]) (ks := [3, 19]) (env' := [(3, .string (bs s_3)), (19, .int .u8 (wu8 n_4))]) (H' := []) (ps := []) (by kernel_rfl) trivial ?_
      refine OpTo.go (GoO.lit (e := 5) (K := Kd.u8) rfl (by kernel_rfl) (by kernel_rfl) (cs := [.int .u8 (wu8 n_4)]) (by kernel_rfl) [u8of n_4] (by kernel_rfl) (by kernel_rfl) (fun w S hB => ⟨[.int .u8 (wu8 n_4)], _, rfl, (congrArg (fun v => [v]) (u8cell _)), rfl⟩) 41 _ (fun _ _ => rfl) (fun A_9 c_10 => ?_))
      refine OpTo.go (GoO.toStr (e := 5) (A := A_9) (c := c_10) (xs := [u8of n_4]) (j := 0) rfl (by kernel_rfl) (by kernel_rfl) (by kernel_rfl) (by kernel_rfl) rfl Reads.own rfl rfl ?_)
      refine GoO.guard (fun h11 => ?_)
      refine GoO.exec (is := [4, 5, 6]) (hs := [.p, .p, .p]) (rest := []) (ks := [2]) (env' := [(2, .string (bs ([u8of n_4] ++ s_3)))]) (H' := []) (ps := [([u8of n_4] : List UInt8).length + s_3.length ≤ i64max]) (by kernel_rfl) (And.intro h11 trivial) ?_
      refine GoO.regionEnd ?_
      exact GoO.ret' (h := c77_23e) (hs := []) (ps := []) (hk := []) (bk := []) Try.func77 () (by kernel_rfl) trivial (by kernel_rfl) (by kernel_rfl)
theorem tontineref03_Num_ok (n : Nat) (x_1 : Int) :
    Meets Try.prog 77 [.int .u64 x_1] 0 [] [] [] (tontineref03_Num.f n x_1) (tontineref03_Num.R) := by
  refine Meets.of (c := c77_0) (n := 24) Try.func77 (by kernel_rfl) (by kernel_rfl) (by kernel_rfl) fun w0 S0 => ?_
  unfold tontineref03_Num.f
  show GoO (tontineref03_Num.cx w0 S0) [(0, .int .u64 x_1)] [] [] [.code c77_0] _
  refine GoO.seq' c77_0e ?_
  refine GoO.region' (is := [0]) c77_1e (by kernel_rfl) ?_
  refine GoO.exec (is := [0]) (hs := [.p]) (rest := []) (ks := [0]) (env' := [(0, .int .u64 x_1)]) (H' := []) (ps := []) (by kernel_rfl) trivial ?_
  refine GoO.regionEnd ?_
  refine GoO.seq' c77_2e ?_
  refine GoO.region' (is := [0]) c77_3e (by kernel_rfl) ?_
  refine GoO.exec (is := [0]) (hs := [.p]) (rest := []) (ks := [0, 3]) (env' := [(0, .int .u64 x_1), (3, .string (bs []))]) (H' := []) (ps := []) (by kernel_rfl) trivial ?_
  refine GoO.regionEnd ?_
  refine GoO.seq' c77_4e ?_
  refine GoO.region' (is := [0]) c77_5e (by kernel_rfl) ?_
  refine GoO.exec (is := [0]) (hs := [.p]) (rest := []) (ks := [0, 3, 4]) (env' := [(0, .int .u64 x_1), (3, .string (bs [])), (4, .int .i64 0)]) (H' := []) (ps := []) (by kernel_rfl) trivial ?_
  refine GoO.regionEnd ?_
  refine GoO.seq' c77_6e ?_
  refine GoO.block' c77_7e ?_
  refine GoO.loop' c77_8e ?_
  exact GoO.sub (ks := [0, 3, 4]) (hk := []) (bk := []) (by kernel_rfl) (by kernel_rfl) (by kernel_rfl) (tontineref03_Num_l0_ok n w0 S0 n x_1 [] 0)

/-! tontine/tontineref16.nums -/
noncomputable def c69_0 : Code := bodyOf Try.f69
noncomputable def c69_1 : Code := cdL c69_0
noncomputable def c69_2 : Code := cdR c69_0
noncomputable def c69_3 : Code := cdL c69_2
noncomputable def c69_4 : Code := cdR c69_2
noncomputable def c69_5 : Code := cdL c69_4
noncomputable def c69_6 : Code := cdL c69_5
noncomputable def c69_7 : Code := cdR c69_5
noncomputable def c69_8 : Code := cdL c69_7
noncomputable def c69_9 : Code := cdL c69_8
noncomputable def c69_10 : Code := cdL c69_9
noncomputable def c69_11 : Code := cdL c69_10
noncomputable def c69_12 : Code := cdR c69_10
noncomputable def c69_13 : Code := cdL c69_12
noncomputable def c69_14 : Code := cdR c69_12
noncomputable def c69_15 : Code := cdR c69_9
noncomputable def c69_16 : Code := cdL c69_15
noncomputable def c69_17 : Code := cdL c69_16
noncomputable def c69_18 : Code := cdR c69_15
noncomputable def c69_19 : Code := cdR c69_4
noncomputable def c69_20 : Code := cdL c69_19
noncomputable def c69_21 : Code := cdR c69_19
noncomputable def r69_1 : Array Oper := cdO c69_1
noncomputable def r69_3 : Array Oper := cdO c69_3
noncomputable def r69_6 : Array Oper := cdO c69_6
noncomputable def r69_11 : Array Oper := cdO c69_11
noncomputable def r69_17 : Array Oper := cdO c69_17
noncomputable def r69_18 : Array Oper := cdO c69_18
noncomputable def r69_20 : Array Oper := cdO c69_20
theorem c69_0e : c69_0 = .seq c69_1 c69_2 := by kernel_rfl
theorem c69_1e : c69_1 = .region 0 r69_1 false := by kernel_rfl
theorem c69_2e : c69_2 = .seq c69_3 c69_4 := by kernel_rfl
theorem c69_3e : c69_3 = .region 1 r69_3 false := by kernel_rfl
theorem c69_4e : c69_4 = .seq c69_5 c69_19 := by kernel_rfl
theorem c69_5e : c69_5 = .seq c69_6 c69_7 := by kernel_rfl
theorem c69_6e : c69_6 = .region 2 r69_6 false := by kernel_rfl
theorem c69_7e : c69_7 = .block 0 c69_8 := by kernel_rfl
theorem c69_8e : c69_8 = .loop c69_9 := by kernel_rfl
theorem c69_9e : c69_9 = .seq c69_10 c69_15 := by kernel_rfl
theorem c69_10e : c69_10 = .seq c69_11 c69_12 := by kernel_rfl
theorem c69_11e : c69_11 = .region 3 r69_11 false := by kernel_rfl
theorem c69_12e : c69_12 = .cond (cdC c69_12) c69_13 c69_14 := by kernel_rfl
theorem c69_13e : c69_13 = .skip := by kernel_rfl
theorem c69_14e : c69_14 = .exit 0 := by kernel_rfl
theorem c69_15e : c69_15 = .seq c69_16 c69_18 := by kernel_rfl
theorem c69_16e : c69_16 = .block 1 c69_17 := by kernel_rfl
theorem c69_17e : c69_17 = .region 5 r69_17 false := by kernel_rfl
theorem c69_18e : c69_18 = .region 4 r69_18 false := by kernel_rfl
theorem c69_19e : c69_19 = .seq c69_20 c69_21 := by kernel_rfl
theorem c69_20e : c69_20 = .region 6 r69_20 false := by kernel_rfl
theorem c69_21e : c69_21 = .ret := by kernel_rfl
noncomputable def tontineref16_nums.R (A_2 : Option Addr) (c_3 : Nat) : Pst (List UInt8) where
  ε := Unit
  v := fun r x => .string (bs r)
  H := fun r x => []
  B := fun r x => []
noncomputable def tontineref16_nums.cx (A_2 : Option Addr) (c_3 : Nat) (w0 : World) (S0 : Fam) : Cx (List UInt8) := ⟨Try.prog, 69, Try.f69, 19, w0, S0, [], 0, tontineref16_nums.R A_2 c_3⟩
theorem tontineref16_nums_l0_ok (n : Nat) (l_1 : (List Int)) (A_2 : Option Addr) (c_3 : Nat) (w0 : World) (S0 : Fam) :
    ∀ (k : Nat) (s_4 : (List UInt8)) (i_5 : Int), GoO (tontineref16_nums.cx A_2 c_3 w0 S0) [(0, .slice A_2 l_1.length c_3), (3, .string (bs s_4)), (4, .int .i64 i_5)] [] [Rd 0 (Kd.int .u64) A_2 c_3 l_1] [.code c69_9, .inLoop c69_9, .inBlock 0, .code c69_19] (tontineref16_nums.l0 n l_1 k s_4 i_5) := by
  intro k
  induction k with
  | zero => intros; rw [tontineref16_nums.l0.eq_1]; exact GoO.stop
  | succ k ih0 =>
    intro s_4 i_5
    rw [tontineref16_nums.l0.eq_2]
    refine GoO.seq' c69_9e ?_
    refine GoO.seq' c69_10e ?_
    refine GoO.region' (is := [0, 1, 2, 3]) c69_11e (by kernel_rfl) ?_
    refine GoO.exec (is := [0, 1, 2, 3]) (hs := [.p, .p, .p, .p]) (rest := []) (ks := [0, 3, 4, 8]) (env' := [(0, .slice A_2 l_1.length c_3), (3, .string (bs s_4)), (4, .int .i64 i_5), (8, .bool (decide (i_5 < (l_1.length : Int))))]) (H' := []) (ps := []) (by kernel_rfl) trivial ?_
    refine GoO.regionEnd ?_
    refine GoO.ite' c69_12e (by kernel_rfl) (fun h6 => ?_) (fun h6 => ?_)
    · refine GoO.skip' c69_13e ?_
      refine GoO.seq' c69_15e ?_
      refine GoO.block' c69_16e ?_
      refine GoO.region' (is := [0, 1, 2, 3, 4, 5, 6, 7]) c69_17e (by kernel_rfl) ?_
      refine GoO.exec (is := [0, 1, 2]) (hs := [.p, .p, .p]) (rest := [3, 4, 5, 6, 7]) (ks := [0, 4, 11, 12, 13]) (env' := [(0, .slice A_2 l_1.length c_3), (4, .int .i64 i_5), (11, .string (bs s_4)), (12, .slice A_2 l_1.length c_3), (13, .int .i64 i_5)]) (H' := []) (ps := []) (by kernel_rfl) trivial ?_
      refine GoO.guard (fun h7 => ?_)
      refine OpTo.go (GoO.idx (kk := .i64) (e := 22) (K := (Kd.int .u64)) (A := A_2) (c := c_3) (xs := l_1) (iv := i_5) (j := 0) rfl (by kernel_rfl) (by kernel_rfl) (by kernel_rfl) (by kernel_rfl) rfl Reads.rd rfl h7.1 h7.2 (by decide) rfl ?_)
      refine OpTo.go (GoO.ldE' (K := (Kd.int .u64)) (A := A_2) (c := c_3) (xs := l_1) (iN := i_5.toNat) (off := 0) (j := 0) rfl (by kernel_rfl) rfl Reads.rd (by first | exact idx_lt h7.1 h7.2 | (simp only [List.length_set]; exact idx_lt h7.1 h7.2)) (by decide) (Opn.flat _ _ _ _ _) (v := fun _ => .int .u64 (rdL l_1 i_5)) (fun _ => by kernel_rfl) _ (fun _ => rfl) (fun _ => ?_))
      refine OpTo.go (GoO.call rfl (by kernel_rfl) (by kernel_rfl) (tontineref03_Num_ok n (rdL l_1 i_5)) [[0]] [] [] [] (hks := []) (bks := [0]) (by kernel_rfl) (by kernel_rfl) (by kernel_rfl) (.inl rfl) rfl rfl (by kernel_rfl) (by kernel_rfl) _ (fun _ _ => rfl) _ _ (fun _ _ => rfl) (fun _ _ => rfl) (fun _ _ => by kernel_rfl) (fun _ _ => by kernel_rfl) (fun r_8 x_10 => ?_))
      refine GoO.shape (env' := [(0, .slice A_2 l_1.length c_3), (4, .int .i64 i_5), (11, .string (bs s_4)), (12, .slice A_2 l_1.length c_3), (13, .int .i64 i_5), (14, elemP A_2 i_5.toNat 1 0), (15, .int .u64 (rdL l_1 i_5)), (16, .string (bs r_8))]) (H' := []) (B' := [Rd 0 (Kd.int .u64) A_2 c_3 l_1]) (ks := [0, 4, 11, 12, 13, 14, 15, 16]) (by kernel_rfl) (by kernel_rfl) (by kernel_rfl) ?_
      refine GoO.guard (fun h9 => ?_)
      refine GoO.exec (is := [6, 7]) (hs := [.p, .p]) (rest := []) (ks := [0, 3, 4]) (env' := [(0, .slice A_2 l_1.length c_3), (3, .string (bs (s_4 ++ r_8))), (4, .int .i64 i_5)]) (H' := []) (ps := [s_4.length + r_8.length ≤ i64max]) (by kernel_rfl) (And.intro h9 trivial) ?_
      refine GoO.regionEnd ?_
      refine GoO.inBlock ?_
      refine GoO.region' (is := [0, 1, 2]) c69_18e (by kernel_rfl) ?_
      refine GoO.exec (is := [0, 1, 2]) (hs := [.p, .p, .p]) (rest := []) (ks := [0, 3, 4]) (env' := [(0, .slice A_2 l_1.length c_3), (3, .string (bs (s_4 ++ r_8))), (4, .int .i64 (wi64 (i_5 + 1)))]) (H' := []) (ps := []) (by kernel_rfl) trivial ?_
      refine GoO.regionEnd ?_
      refine GoO.inLoop ?_
      exact GoO.sub (ks := [0, 3, 4]) (hk := []) (bk := [0]) (by kernel_rfl) (by kernel_rfl) (by kernel_rfl) (ih0 (s_4 ++ r_8) (wi64 (i_5 + 1)))
    · refine GoO.exit' c69_14e rfl ?_
      refine GoO.seq' c69_19e ?_
      refine GoO.region' (is := [0, 1]) c69_20e (by kernel_rfl) ?_
      refine GoO.exec (is := [0, 1]) (hs := [.p, .p]) (rest := []) (ks := [2]) (env' := [(2, .string (bs s_4))]) (H' := []) (ps := []) (by kernel_rfl) trivial ?_
      refine GoO.regionEnd ?_
      exact GoO.ret' (h := c69_21e) (hs := []) (ps := []) (hk := []) (bk := []) Try.func69 () (by kernel_rfl) trivial (by kernel_rfl) (by kernel_rfl)
theorem tontineref16_nums_ok (n : Nat) (l_1 : (List Int)) (A_2 : Option Addr) (c_3 : Nat) :
    Meets Try.prog 69 [.slice A_2 l_1.length c_3] 0 [] [] [Rd 0 (Kd.int .u64) A_2 c_3 l_1] (tontineref16_nums.f n l_1) (tontineref16_nums.R A_2 c_3) := by
  refine Meets.of (c := c69_0) (n := 19) Try.func69 (by kernel_rfl) (by kernel_rfl) (by kernel_rfl) fun w0 S0 => ?_
  unfold tontineref16_nums.f
  show GoO (tontineref16_nums.cx A_2 c_3 w0 S0) [(0, .slice A_2 l_1.length c_3)] [] [Rd 0 (Kd.int .u64) A_2 c_3 l_1] [.code c69_0] _
  refine GoO.seq' c69_0e ?_
  refine GoO.region' (is := [0]) c69_1e (by kernel_rfl) ?_
  refine GoO.exec (is := [0]) (hs := [.p]) (rest := []) (ks := [0]) (env' := [(0, .slice A_2 l_1.length c_3)]) (H' := []) (ps := []) (by kernel_rfl) trivial ?_
  refine GoO.regionEnd ?_
  refine GoO.seq' c69_2e ?_
  refine GoO.region' (is := [0]) c69_3e (by kernel_rfl) ?_
  refine GoO.exec (is := [0]) (hs := [.p]) (rest := []) (ks := [0, 3]) (env' := [(0, .slice A_2 l_1.length c_3), (3, .string (bs []))]) (H' := []) (ps := []) (by kernel_rfl) trivial ?_
  refine GoO.regionEnd ?_
  refine GoO.seq' c69_4e ?_
  refine GoO.seq' c69_5e ?_
  refine GoO.region' (is := [0]) c69_6e (by kernel_rfl) ?_
  refine GoO.exec (is := [0]) (hs := [.p]) (rest := []) (ks := [0, 3, 4]) (env' := [(0, .slice A_2 l_1.length c_3), (3, .string (bs [])), (4, .int .i64 0)]) (H' := []) (ps := []) (by kernel_rfl) trivial ?_
  refine GoO.regionEnd ?_
  refine GoO.block' c69_7e ?_
  refine GoO.loop' c69_8e ?_
  exact GoO.sub (ks := [0, 3, 4]) (hk := []) (bk := [0]) (by kernel_rfl) (by kernel_rfl) (by kernel_rfl) (tontineref16_nums_l0_ok n l_1 A_2 c_3 w0 S0 n [] 0)

/-! tontine/tontineref16.Answer -/
noncomputable def c35_0 : Code := bodyOf Try.f35
noncomputable def c35_1 : Code := cdL c35_0
noncomputable def c35_2 : Code := cdR c35_0
noncomputable def c35_3 : Code := cdL c35_2
noncomputable def c35_4 : Code := cdR c35_2
noncomputable def r35_1 : Array Oper := cdO c35_1
noncomputable def r35_3 : Array Oper := cdO c35_3
theorem c35_0e : c35_0 = .seq c35_1 c35_2 := by kernel_rfl
theorem c35_1e : c35_1 = .region 0 r35_1 false := by kernel_rfl
theorem c35_2e : c35_2 = .seq c35_3 c35_4 := by kernel_rfl
theorem c35_3e : c35_3 = .region 1 r35_3 false := by kernel_rfl
theorem c35_4e : c35_4 = .ret := by kernel_rfl
noncomputable def tontineref16_Answer.R : Pst (List UInt8) where
  ε := Unit
  v := fun r x => .string (bs r)
  H := fun r x => []
  B := fun r x => []
noncomputable def tontineref16_Answer.cx (w0 : World) (S0 : Fam) : Cx (List UInt8) := ⟨Try.prog, 35, Try.f35, 13, w0, S0, [], 0, tontineref16_Answer.R⟩
theorem tontineref16_Answer_ok (n : Nat) (y_1 : T_api_Reply) :
    Meets Try.prog 35 [.agg ⟨[.int .i64 y_1.Err, .int .u64 y_1.Num, .int .u64 y_1.Extra]⟩] 0 [] [] [] (tontineref16_Answer.f n y_1) (tontineref16_Answer.R) := by
  refine Meets.of (c := c35_0) (n := 13) Try.func35 (by kernel_rfl) (by kernel_rfl) (by kernel_rfl) fun w0 S0 => ?_
  unfold tontineref16_Answer.f
  show GoO (tontineref16_Answer.cx w0 S0) [(0, .agg ⟨[.int .i64 y_1.Err, .int .u64 y_1.Num, .int .u64 y_1.Extra]⟩)] [] [] [.code c35_0] _
  refine GoO.seq' c35_0e ?_
  refine GoO.region' (is := [0, 1]) c35_1e (by kernel_rfl) ?_
  refine OpTo.go (GoO.new rfl 40 (cs := [.int .i64 y_1.Err, .int .u64 y_1.Num, .int .u64 y_1.Extra]) (by kernel_rfl) _ (fun _ => rfl) (fun b_2 => ?_))
  refine GoO.exec (is := [1]) (hs := [.p]) (rest := []) (ks := [1]) (env' := [(1, .pointer (some ⟨b_2, 0, none⟩))]) (H' := [⟨40, b_2, [.int .i64 y_1.Err, .int .u64 y_1.Num, .int .u64 y_1.Extra]⟩]) (ps := []) (by kernel_rfl) trivial ?_
  refine GoO.regionEnd ?_
  refine GoO.seq' c35_2e ?_
  refine GoO.region' (is := [0, 1, 2, 3, 4, 5, 6, 7, 8, 9, 10]) c35_3e (by kernel_rfl) ?_
  refine GoO.exec (is := [0, 1, 2, 3, 4, 5, 6, 7]) (hs := [.p, .b 0, .p, .p, .p, .b 0, .p, .b 0]) (rest := [8, 9, 10]) (ks := [6, 8, 10]) (env' := [(6, .int .u64 (wu64 (if y_1.Err > 0 then y_1.Err else 0))), (8, .int .u64 y_1.Num), (10, .int .u64 y_1.Extra)]) (H' := [⟨40, b_2, [.int .i64 y_1.Err, .int .u64 y_1.Num, .int .u64 y_1.Extra]⟩]) (ps := [b_2 = b_2, b_2 = b_2, b_2 = b_2]) (by kernel_rfl) (And.intro rfl (And.intro rfl (And.intro rfl trivial))) ?_
  refine OpTo.go (GoO.lit (e := 22) (K := (Kd.int .u64)) rfl (by kernel_rfl) (by kernel_rfl) (cs := [.int .u64 (wu64 (if y_1.Err > 0 then y_1.Err else 0)), .int .u64 y_1.Num, .int .u64 y_1.Extra]) (by kernel_rfl) [wu64 (if y_1.Err > 0 then y_1.Err else 0), y_1.Num, y_1.Extra] (by kernel_rfl) (by kernel_rfl) (fun w S hB => ⟨[.int .u64 (wu64 (if y_1.Err > 0 then y_1.Err else 0))], _, rfl, rfl, ⟨[.int .u64 y_1.Num], _, rfl, rfl, ⟨[.int .u64 y_1.Extra], _, rfl, rfl, rfl⟩⟩⟩) 41 _ (fun _ _ => rfl) (fun A_3 c_4 => ?_))
  refine GoO.view (j := 0) rfl ?_
  refine OpTo.go (GoO.call rfl (by kernel_rfl) (by kernel_rfl) (tontineref16_nums_ok n [wu64 (if y_1.Err > 0 then y_1.Err else 0), y_1.Num, y_1.Extra] A_3 c_4) [[0, 41]] [] [] [(0, 1)] (hks := [0]) (bks := [0]) (by kernel_rfl) (by kernel_rfl) (by kernel_rfl) (.inr (fun _ _ => by simp [tontineref16_nums.R])) rfl rfl (by kernel_rfl) (by kernel_rfl) _ (fun _ _ => rfl) _ _ (fun _ _ => rfl) (fun _ _ => rfl) (fun _ _ => by kernel_rfl) (fun _ _ => by kernel_rfl) (fun r_5 x_6 => ?_))
  refine GoO.shape (env' := [(6, .int .u64 (wu64 (if y_1.Err > 0 then y_1.Err else 0))), (8, .int .u64 y_1.Num), (10, .int .u64 y_1.Extra), (11, .slice A_3 [wu64 (if y_1.Err > 0 then y_1.Err else 0), y_1.Num, y_1.Extra].length c_4), (12, .string (bs r_5))]) (H' := [⟨40, b_2, [.int .i64 y_1.Err, .int .u64 y_1.Num, .int .u64 y_1.Extra]⟩]) (B' := [Ow 41 (Kd.int .u64) A_3 c_4 [wu64 (if y_1.Err > 0 then y_1.Err else 0), y_1.Num, y_1.Extra]]) (ks := [6, 8, 10, 11, 12]) (by kernel_rfl) (by kernel_rfl) (by kernel_rfl) ?_
  refine GoO.exec (is := [10]) (hs := [.p]) (rest := []) (ks := [2]) (env' := [(2, .string (bs r_5))]) (H' := [⟨40, b_2, [.int .i64 y_1.Err, .int .u64 y_1.Num, .int .u64 y_1.Extra]⟩]) (ps := []) (by kernel_rfl) trivial ?_
  refine GoO.regionEnd ?_
  exact GoO.ret' (h := c35_4e) (hs := []) (ps := []) (hk := []) (bk := []) Try.func35 () (by kernel_rfl) trivial (by kernel_rfl) (by kernel_rfl)

/-! tontine/pack.From -/
noncomputable def c80_0 : Code := bodyOf Try.f80
noncomputable def c80_1 : Code := cdL c80_0
noncomputable def c80_2 : Code := cdR c80_0
noncomputable def c80_3 : Code := cdL c80_2
noncomputable def c80_4 : Code := cdR c80_2
noncomputable def r80_1 : Array Oper := cdO c80_1
noncomputable def r80_3 : Array Oper := cdO c80_3
theorem c80_0e : c80_0 = .seq c80_1 c80_2 := by kernel_rfl
theorem c80_1e : c80_1 = .region 0 r80_1 false := by kernel_rfl
theorem c80_2e : c80_2 = .seq c80_3 c80_4 := by kernel_rfl
theorem c80_3e : c80_3 = .region 1 r80_3 false := by kernel_rfl
theorem c80_4e : c80_4 = .ret := by kernel_rfl
noncomputable def pack_From.R : Pst T_pack_Reader where
  ε := Nat
  v := fun r x => .pointer (some ⟨x, 0, none⟩)
  H := fun r x => [⟨1, x, [.string (bs r.s), .bool r.bad]⟩]
  B := fun r x => []
noncomputable def pack_From.cx (w0 : World) (S0 : Fam) : Cx T_pack_Reader := ⟨Try.prog, 80, Try.f80, 6, w0, S0, [], 0, pack_From.R⟩
theorem pack_From_ok (n : Nat) (s_1 : (List UInt8)) :
    Meets Try.prog 80 [.string (bs s_1)] 0 [] [] [] (pack_From.f n s_1) (pack_From.R) := by
  refine Meets.of (c := c80_0) (n := 6) Try.func80 (by kernel_rfl) (by kernel_rfl) (by kernel_rfl) fun w0 S0 => ?_
  unfold pack_From.f
  show GoO (pack_From.cx w0 S0) [(0, .string (bs s_1))] [] [] [.code c80_0] _
  refine GoO.seq' c80_0e ?_
  refine GoO.region' (is := [0]) c80_1e (by kernel_rfl) ?_
  refine GoO.exec (is := [0]) (hs := [.p]) (rest := []) (ks := [0]) (env' := [(0, .string (bs s_1))]) (H' := []) (ps := []) (by kernel_rfl) trivial ?_
  refine GoO.regionEnd ?_
  refine GoO.seq' c80_2e ?_
  refine GoO.region' (is := [0, 1, 2, 3]) c80_3e (by kernel_rfl) ?_
  refine GoO.exec (is := [0, 1]) (hs := [.p, .p]) (rest := [2, 3]) (ks := [4]) (env' := [(4, .agg ⟨[.string (bs s_1), .bool false]⟩)]) (H' := []) (ps := []) (by kernel_rfl) trivial ?_
  refine OpTo.go (GoO.new rfl 40 (cs := [.string (bs s_1), .bool false]) (by kernel_rfl) _ (fun _ => rfl) (fun b_2 => ?_))
  refine GoO.exec (is := [3]) (hs := [.p]) (rest := []) (ks := [2]) (env' := [(2, .pointer (some ⟨b_2, 0, none⟩))]) (H' := [⟨40, b_2, [.string (bs s_1), .bool false]⟩]) (ps := []) (by kernel_rfl) trivial ?_
  refine GoO.regionEnd ?_
  refine GoO.retagB (t := 40) (u := 1) (j := 0) (hk := []) (bk := []) rfl rfl rfl rfl rfl rfl (by kernel_rfl) (by kernel_rfl) ?_
  exact GoO.ret' (h := c80_4e) (hs := []) (ps := []) (hk := [0]) (bk := []) Try.func80 b_2 (by kernel_rfl) trivial (by kernel_rfl) (by kernel_rfl)

/-! (*tontine/pack.Reader).fail -/
noncomputable def c96_0 : Code := bodyOf Try.f96
noncomputable def c96_1 : Code := cdL c96_0
noncomputable def c96_2 : Code := cdR c96_0
noncomputable def c96_3 : Code := cdL c96_2
noncomputable def c96_4 : Code := cdL c96_3
noncomputable def c96_5 : Code := cdR c96_3
noncomputable def c96_6 : Code := cdL c96_5
noncomputable def c96_8 : Code := cdR c96_2
noncomputable def c96_9 : Code := cdL c96_8
noncomputable def c96_10 : Code := cdR c96_8
noncomputable def c96_7 : Code := cdR c96_5
noncomputable def r96_1 : Array Oper := cdO c96_1
noncomputable def r96_4 : Array Oper := cdO c96_4
noncomputable def r96_6 : Array Oper := cdO c96_6
noncomputable def r96_9 : Array Oper := cdO c96_9
theorem c96_0e : c96_0 = .seq c96_1 c96_2 := by kernel_rfl
theorem c96_1e : c96_1 = .region 0 r96_1 false := by kernel_rfl
theorem c96_2e : c96_2 = .seq c96_3 c96_8 := by kernel_rfl
theorem c96_3e : c96_3 = .seq c96_4 c96_5 := by kernel_rfl
theorem c96_4e : c96_4 = .region 1 r96_4 false := by kernel_rfl
theorem c96_5e : c96_5 = .cond (cdC c96_5) c96_6 c96_7 := by kernel_rfl
theorem c96_6e : c96_6 = .region 2 r96_6 false := by kernel_rfl
theorem c96_8e : c96_8 = .seq c96_9 c96_10 := by kernel_rfl
theorem c96_9e : c96_9 = .region 3 r96_9 false := by kernel_rfl
theorem c96_10e : c96_10 = .ret := by kernel_rfl
theorem c96_7e : c96_7 = .skip := by kernel_rfl
noncomputable def pack_Reader_fail.R (b_2 : Nat) : Pst (Int × T_pack_Reader) where
  ε := Unit
  v := fun r x => .int .u64 r.1
  H := fun r x => [⟨1, b_2, [.string (bs r.2.s), .bool r.2.bad]⟩]
  B := fun r x => []
noncomputable def pack_Reader_fail.cx (b_2 : Nat) (w0 : World) (S0 : Fam) : Cx (Int × T_pack_Reader) := ⟨Try.prog, 96, Try.f96, 11, w0, S0, [1], 1, pack_Reader_fail.R b_2⟩
theorem pack_Reader_fail_ok (n : Nat) (r_1 : T_pack_Reader) (b_2 : Nat) :
    Meets Try.prog 96 [.pointer (some ⟨b_2, 0, none⟩)] 1 [1] [⟨1, b_2, [.string (bs r_1.s), .bool r_1.bad]⟩] [] (pack_Reader_fail.f n r_1) (pack_Reader_fail.R b_2) := by
  refine Meets.of (c := c96_0) (n := 11) Try.func96 (by kernel_rfl) (by kernel_rfl) (by kernel_rfl) fun w0 S0 => ?_
  unfold pack_Reader_fail.f
  show GoO (pack_Reader_fail.cx b_2 w0 S0) [(0, .pointer (some ⟨b_2, 0, none⟩))] [⟨1, b_2, [.string (bs r_1.s), .bool r_1.bad]⟩] [] [.code c96_0] _
  refine GoO.seq' c96_0e ?_
  refine GoO.region' (is := [0]) c96_1e (by kernel_rfl) ?_
  refine GoO.exec (is := [0]) (hs := [.p]) (rest := []) (ks := [0]) (env' := [(0, .pointer (some ⟨b_2, 0, none⟩))]) (H' := [⟨1, b_2, [.string (bs r_1.s), .bool r_1.bad]⟩]) (ps := []) (by kernel_rfl) trivial ?_
  refine GoO.regionEnd ?_
  refine GoO.seq' c96_2e ?_
  refine GoO.seq' c96_3e ?_
  refine GoO.region' (is := [0, 1]) c96_4e (by kernel_rfl) ?_
  refine GoO.exec (is := [0, 1]) (hs := [.p, .p]) (rest := []) (ks := [0, 4]) (env' := [(0, .pointer (some ⟨b_2, 0, none⟩)), (4, .bool true)]) (H' := [⟨1, b_2, [.string (bs r_1.s), .bool r_1.bad]⟩]) (ps := []) (by kernel_rfl) trivial ?_
  refine GoO.regionEnd ?_
  refine GoO.condT c96_5e (by kernel_rfl) ?_
  refine GoO.region' (is := [0, 1, 2, 3, 4, 5, 6, 7]) c96_6e (by kernel_rfl) ?_
  refine GoO.exec (is := [0, 1, 2, 3, 4, 5, 6, 7]) (hs := [.p, .p, .p, .p, .b 0, .p, .p, .b 0]) (rest := []) (ks := []) (env' := []) (H' := [⟨1, b_2, [.string (bs []), .bool true]⟩]) (ps := [b_2 = b_2, b_2 = b_2]) (by kernel_rfl) (And.intro rfl (And.intro rfl trivial)) ?_
  refine GoO.regionEnd ?_
  refine GoO.seq' c96_8e ?_
  refine GoO.region' (is := [0]) c96_9e (by kernel_rfl) ?_
  refine GoO.exec (is := [0]) (hs := [.p]) (rest := []) (ks := [2]) (env' := [(2, .int .u64 0)]) (H' := [⟨1, b_2, [.string (bs []), .bool true]⟩]) (ps := []) (by kernel_rfl) trivial ?_
  refine GoO.regionEnd ?_
  exact GoO.ret' (h := c96_10e) (hs := []) (ps := []) (hk := [0]) (bk := []) Try.func96 () (by kernel_rfl) trivial (by kernel_rfl) (by kernel_rfl)

/-! (*tontine/pack.Reader).Num -/
noncomputable def c81_0 : Code := bodyOf Try.f81
noncomputable def c81_1 : Code := cdL c81_0
noncomputable def c81_2 : Code := cdR c81_0
noncomputable def c81_3 : Code := cdL c81_2
noncomputable def c81_4 : Code := cdL c81_3
noncomputable def c81_5 : Code := cdR c81_3
noncomputable def c81_6 : Code := cdL c81_5
noncomputable def c81_7 : Code := cdL c81_6
noncomputable def c81_8 : Code := cdR c81_6
noncomputable def c81_9 : Code := cdR c81_5
noncomputable def c81_10 : Code := cdR c81_2
noncomputable def c81_11 : Code := cdL c81_10
noncomputable def c81_12 : Code := cdR c81_10
noncomputable def c81_13 : Code := cdL c81_12
noncomputable def c81_14 : Code := cdL c81_13
noncomputable def c81_15 : Code := cdR c81_13
noncomputable def c81_16 : Code := cdL c81_15
noncomputable def c81_17 : Code := cdL c81_16
noncomputable def c81_18 : Code := cdR c81_16
noncomputable def c81_19 : Code := cdR c81_15
noncomputable def c81_20 : Code := cdR c81_12
noncomputable def c81_21 : Code := cdL c81_20
noncomputable def c81_22 : Code := cdR c81_20
noncomputable def c81_23 : Code := cdL c81_22
noncomputable def c81_24 : Code := cdL c81_23
noncomputable def c81_25 : Code := cdR c81_23
noncomputable def c81_26 : Code := cdL c81_25
noncomputable def c81_27 : Code := cdL c81_26
noncomputable def c81_28 : Code := cdL c81_27
noncomputable def c81_29 : Code := cdL c81_28
noncomputable def c81_30 : Code := cdR c81_28
noncomputable def c81_31 : Code := cdL c81_30
noncomputable def c81_32 : Code := cdR c81_30
noncomputable def c81_33 : Code := cdR c81_27
noncomputable def c81_34 : Code := cdL c81_33
noncomputable def c81_35 : Code := cdL c81_34
noncomputable def c81_36 : Code := cdR c81_33
noncomputable def c81_37 : Code := cdR c81_22
noncomputable def c81_38 : Code := cdL c81_37
noncomputable def c81_39 : Code := cdR c81_37
noncomputable def c81_40 : Code := cdL c81_39
noncomputable def c81_41 : Code := cdR c81_39
noncomputable def r81_1 : Array Oper := cdO c81_1
noncomputable def r81_4 : Array Oper := cdO c81_4
noncomputable def r81_7 : Array Oper := cdO c81_7
noncomputable def r81_11 : Array Oper := cdO c81_11
noncomputable def r81_14 : Array Oper := cdO c81_14
noncomputable def r81_17 : Array Oper := cdO c81_17
noncomputable def r81_21 : Array Oper := cdO c81_21
noncomputable def r81_24 : Array Oper := cdO c81_24
noncomputable def r81_29 : Array Oper := cdO c81_29
noncomputable def r81_35 : Array Oper := cdO c81_35
noncomputable def r81_36 : Array Oper := cdO c81_36
noncomputable def r81_38 : Array Oper := cdO c81_38
noncomputable def r81_40 : Array Oper := cdO c81_40
theorem c81_0e : c81_0 = .seq c81_1 c81_2 := by kernel_rfl
theorem c81_1e : c81_1 = .region 0 r81_1 false := by kernel_rfl
theorem c81_2e : c81_2 = .seq c81_3 c81_10 := by kernel_rfl
theorem c81_3e : c81_3 = .seq c81_4 c81_5 := by kernel_rfl
theorem c81_4e : c81_4 = .region 1 r81_4 false := by kernel_rfl
theorem c81_5e : c81_5 = .cond (cdC c81_5) c81_6 c81_9 := by kernel_rfl
theorem c81_6e : c81_6 = .seq c81_7 c81_8 := by kernel_rfl
theorem c81_7e : c81_7 = .region 2 r81_7 false := by kernel_rfl
theorem c81_8e : c81_8 = .ret := by kernel_rfl
theorem c81_9e : c81_9 = .skip := by kernel_rfl
theorem c81_10e : c81_10 = .seq c81_11 c81_12 := by kernel_rfl
theorem c81_11e : c81_11 = .region 3 r81_11 false := by kernel_rfl
theorem c81_12e : c81_12 = .seq c81_13 c81_20 := by kernel_rfl
theorem c81_13e : c81_13 = .seq c81_14 c81_15 := by kernel_rfl
theorem c81_14e : c81_14 = .region 4 r81_14 false := by kernel_rfl
theorem c81_15e : c81_15 = .cond (cdC c81_15) c81_16 c81_19 := by kernel_rfl
theorem c81_16e : c81_16 = .seq c81_17 c81_18 := by kernel_rfl
theorem c81_17e : c81_17 = .region 5 r81_17 false := by kernel_rfl
theorem c81_18e : c81_18 = .ret := by kernel_rfl
theorem c81_19e : c81_19 = .skip := by kernel_rfl
theorem c81_20e : c81_20 = .seq c81_21 c81_22 := by kernel_rfl
theorem c81_21e : c81_21 = .region 6 r81_21 false := by kernel_rfl
theorem c81_22e : c81_22 = .seq c81_23 c81_37 := by kernel_rfl
theorem c81_23e : c81_23 = .seq c81_24 c81_25 := by kernel_rfl
theorem c81_24e : c81_24 = .region 7 r81_24 false := by kernel_rfl
theorem c81_25e : c81_25 = .block 0 c81_26 := by kernel_rfl
theorem c81_26e : c81_26 = .loop c81_27 := by kernel_rfl
theorem c81_27e : c81_27 = .seq c81_28 c81_33 := by kernel_rfl
theorem c81_28e : c81_28 = .seq c81_29 c81_30 := by kernel_rfl
theorem c81_29e : c81_29 = .region 8 r81_29 false := by kernel_rfl
theorem c81_30e : c81_30 = .cond (cdC c81_30) c81_31 c81_32 := by kernel_rfl
theorem c81_31e : c81_31 = .skip := by kernel_rfl
theorem c81_32e : c81_32 = .exit 0 := by kernel_rfl
theorem c81_33e : c81_33 = .seq c81_34 c81_36 := by kernel_rfl
theorem c81_34e : c81_34 = .block 1 c81_35 := by kernel_rfl
theorem c81_35e : c81_35 = .region 10 r81_35 false := by kernel_rfl
theorem c81_36e : c81_36 = .region 9 r81_36 false := by kernel_rfl
theorem c81_37e : c81_37 = .seq c81_38 c81_39 := by kernel_rfl
theorem c81_38e : c81_38 = .region 11 r81_38 false := by kernel_rfl
theorem c81_39e : c81_39 = .seq c81_40 c81_41 := by kernel_rfl
theorem c81_40e : c81_40 = .region 12 r81_40 false := by kernel_rfl
theorem c81_41e : c81_41 = .ret := by kernel_rfl
noncomputable def pack_Reader_Num.R (b_2 : Nat) : Pst (Int × T_pack_Reader) where
  ε := Unit
  v := fun r x => .int .u64 r.1
  H := fun r x => [⟨1, b_2, [.string (bs r.2.s), .bool r.2.bad]⟩]
  B := fun r x => []
noncomputable def pack_Reader_Num.cx (b_2 : Nat) (w0 : World) (S0 : Fam) : Cx (Int × T_pack_Reader) := ⟨Try.prog, 81, Try.f81, 75, w0, S0, [1], 1, pack_Reader_Num.R b_2⟩
theorem pack_Reader_Num_l0_ok (n : Nat) (r_1 : T_pack_Reader) (b_2 : Nat) (w0 : World) (S0 : Fam) :
    ∀ (k : Nat) (x_15 : Int) (i_16 : Int), GoO (pack_Reader_Num.cx b_2 w0 S0) [(0, .pointer (some ⟨b_2, 0, none⟩)), (3, .int .i64 (wi64 ((rdB r_1.s 0).toNat : Int))), (4, .int .u64 x_15), (5, .int .i64 i_16)] [⟨1, b_2, [.string (bs r_1.s), .bool r_1.bad]⟩] [] [.code c81_27, .inLoop c81_27, .inBlock 0, .code c81_37] (pack_Reader_Num.l0 n r_1 k x_15 i_16) := by
  intro k
  induction k with
  | zero => intros; rw [pack_Reader_Num.l0.eq_1]; exact GoO.stop
  | succ k ih0 =>
    intro x_15 i_16
    rw [pack_Reader_Num.l0.eq_2]
    refine GoO.seq' c81_27e ?_
    refine GoO.seq' c81_28e ?_
    refine GoO.region' (is := [0, 1, 2]) c81_29e (by kernel_rfl) ?_
    refine GoO.exec (is := [0, 1, 2]) (hs := [.p, .p, .p]) (rest := []) (ks := [0, 3, 4, 5, 51]) (env' := [(0, .pointer (some ⟨b_2, 0, none⟩)), (3, .int .i64 (wi64 ((rdB r_1.s 0).toNat : Int))), (4, .int .u64 x_15), (5, .int .i64 i_16), (51, .bool (decide (i_16 ≤ (wi64 ((rdB r_1.s 0).toNat : Int)))))]) (H' := [⟨1, b_2, [.string (bs r_1.s), .bool r_1.bad]⟩]) (ps := []) (by kernel_rfl) trivial ?_
    refine GoO.regionEnd ?_
    refine GoO.ite' c81_30e (by kernel_rfl) (fun h17 => ?_) (fun h17 => ?_)
    · refine GoO.skip' c81_31e ?_
      refine GoO.seq' c81_33e ?_
      refine GoO.block' c81_34e ?_
      refine GoO.region' (is := [0, 1, 2, 3, 4, 5, 6, 7, 8, 9, 10]) c81_35e (by kernel_rfl) ?_
      refine GoO.guard (fun h18 => ?_)
      refine GoO.exec (is := [0, 1, 2, 3, 4, 5, 6, 7, 8, 9, 10]) (hs := [.p, .p, .p, .p, .p, .b 0, .p, .p, .p, .p, .p]) (rest := []) (ks := [0, 3, 4, 5]) (env' := [(0, .pointer (some ⟨b_2, 0, none⟩)), (3, .int .i64 (wi64 ((rdB r_1.s 0).toNat : Int))), (4, .int .u64 (bOr .u64 (shL .u64 x_15 8) (wu64 ((rdB r_1.s i_16).toNat : Int)))), (5, .int .i64 i_16)]) (H' := [⟨1, b_2, [.string (bs r_1.s), .bool r_1.bad]⟩]) (ps := [(0 : Int) ≤ 8, b_2 = b_2, (0 : Int) ≤ i_16, i_16 < (r_1.s.length : Int)]) (by kernel_rfl) (And.intro (by decide) (And.intro rfl (And.intro h18.1 (And.intro h18.2 trivial)))) ?_
      refine GoO.regionEnd ?_
      refine GoO.inBlock ?_
      refine GoO.region' (is := [0, 1, 2]) c81_36e (by kernel_rfl) ?_
      refine GoO.exec (is := [0, 1, 2]) (hs := [.p, .p, .p]) (rest := []) (ks := [0, 3, 4, 5]) (env' := [(0, .pointer (some ⟨b_2, 0, none⟩)), (3, .int .i64 (wi64 ((rdB r_1.s 0).toNat : Int))), (4, .int .u64 (bOr .u64 (shL .u64 x_15 8) (wu64 ((rdB r_1.s i_16).toNat : Int)))), (5, .int .i64 (wi64 (i_16 + 1)))]) (H' := [⟨1, b_2, [.string (bs r_1.s), .bool r_1.bad]⟩]) (ps := []) (by kernel_rfl) trivial ?_
      refine GoO.regionEnd ?_
      refine GoO.inLoop ?_
      exact GoO.sub (ks := [0, 3, 4, 5]) (hk := [0]) (bk := []) (by kernel_rfl) (by kernel_rfl) (by kernel_rfl) (ih0 (bOr .u64 (shL .u64 x_15 8) (wu64 ((rdB r_1.s i_16).toNat : Int))) (wi64 (i_16 + 1)))
    · refine GoO.exit' c81_32e rfl ?_
      refine GoO.seq' c81_37e ?_
      refine GoO.region' (is := [0, 1, 2, 3, 4, 5, 6, 7, 8, 9, 10]) c81_38e (by kernel_rfl) ?_
      refine GoO.guard (fun h19 => ?_)
      refine GoO.exec (is := [0, 1, 2, 3, 4, 5, 6, 7, 8, 9, 10]) (hs := [.p, .p, .p, .p, .b 0, .p, .p, .p, .p, .p, .b 0]) (rest := []) (ks := [4]) (env' := [(4, .int .u64 x_15)]) (H' := [⟨1, b_2, [.string (bs (r_1.s.drop (wi64 ((wi64 ((rdB r_1.s 0).toNat : Int)) + 1)).toNat)), .bool r_1.bad]⟩]) (ps := [b_2 = b_2, (0 : Int) ≤ (wi64 ((wi64 ((rdB r_1.s 0).toNat : Int)) + 1)), (wi64 ((wi64 ((rdB r_1.s 0).toNat : Int)) + 1)) ≤ (r_1.s.length : Int), b_2 = b_2]) (by kernel_rfl) (And.intro rfl (And.intro h19.1 (And.intro h19.2 (And.intro rfl trivial)))) ?_
      refine GoO.regionEnd ?_
      refine GoO.seq' c81_39e ?_
      refine GoO.region' (is := [0, 1]) c81_40e (by kernel_rfl) ?_
      refine GoO.exec (is := [0, 1]) (hs := [.p, .p]) (rest := []) (ks := [2]) (env' := [(2, .int .u64 x_15)]) (H' := [⟨1, b_2, [.string (bs (r_1.s.drop (wi64 ((wi64 ((rdB r_1.s 0).toNat : Int)) + 1)).toNat)), .bool r_1.bad]⟩]) (ps := []) (by kernel_rfl) trivial ?_
      refine GoO.regionEnd ?_
      exact GoO.ret' (h := c81_41e) (hs := []) (ps := []) (hk := [0]) (bk := []) Try.func81 () (by kernel_rfl) trivial (by kernel_rfl) (by kernel_rfl)
theorem pack_Reader_Num_j0_ok (n : Nat) (r_1 : T_pack_Reader) (b_2 : Nat) (w0 : World) (S0 : Fam) (b_11 : Bool) :
    GoO (pack_Reader_Num.cx b_2 w0 S0) [(0, .pointer (some ⟨b_2, 0, none⟩)), (3, .int .i64 (wi64 ((rdB r_1.s 0).toNat : Int))), (46, .bool b_11)] [⟨1, b_2, [.string (bs r_1.s), .bool r_1.bad]⟩] [] [.code c81_15, .code c81_20] (pack_Reader_Num.j0 n r_1 b_11) := by
  unfold pack_Reader_Num.j0
  refine GoO.ite' c81_15e (by kernel_rfl) (fun h12 => ?_) (fun h12 => ?_)
  · refine GoO.seq' c81_16e ?_
    refine GoO.region' (is := [0, 1, 2]) c81_17e (by kernel_rfl) ?_
    refine GoO.exec (is := [0]) (hs := [.p]) (rest := [1, 2]) (ks := [47]) (env' := [(47, .pointer (some ⟨b_2, 0, none⟩))]) (H' := [⟨1, b_2, [.string (bs r_1.s), .bool r_1.bad]⟩]) (ps := []) (by kernel_rfl) trivial ?_
    refine OpTo.go (GoO.call rfl (by kernel_rfl) (by kernel_rfl) (pack_Reader_fail_ok n r_1 b_2) [[0], [1]] [(1, 1)] [(1, 0)] [] (hks := []) (bks := []) (by kernel_rfl) (by kernel_rfl) (by kernel_rfl) (.inl rfl) rfl rfl (by kernel_rfl) (by kernel_rfl) _ (fun _ _ => rfl) _ _ (fun _ _ => rfl) (fun _ _ => rfl) (fun _ _ => by kernel_rfl) (fun _ _ => by kernel_rfl) (fun r_13 x_14 => ?_))
    refine GoO.shape (env' := [(47, .pointer (some ⟨b_2, 0, none⟩)), (48, .int .u64 r_13.1)]) (H' := [⟨1, b_2, [.string (bs r_13.2.s), .bool r_13.2.bad]⟩]) (B' := []) (ks := [47, 48]) (by kernel_rfl) (by kernel_rfl) (by kernel_rfl) ?_
    refine GoO.exec (is := [2]) (hs := [.p]) (rest := []) (ks := [2]) (env' := [(2, .int .u64 r_13.1)]) (H' := [⟨1, b_2, [.string (bs r_13.2.s), .bool r_13.2.bad]⟩]) (ps := []) (by kernel_rfl) trivial ?_
    refine GoO.regionEnd ?_
    exact GoO.ret' (h := c81_18e) (hs := []) (ps := []) (hk := [0]) (bk := []) Try.func81 () (by kernel_rfl) trivial (by kernel_rfl) (by kernel_rfl)
  · refine GoO.skip' c81_19e ?_
    refine GoO.seq' c81_20e ?_
    refine GoO.region' (is := [0]) c81_21e (by kernel_rfl) ?_
    refine GoO.exec (is := [0]) (hs := [.p]) (rest := []) (ks := [0, 3, 4]) (env' := [(0, .pointer (some ⟨b_2, 0, none⟩)), (3, .int .i64 (wi64 ((rdB r_1.s 0).toNat : Int))), (4, .int .u64 0)]) (H' := [⟨1, b_2, [.string (bs r_1.s), .bool r_1.bad]⟩]) (ps := []) (by kernel_rfl) trivial ?_
    refine GoO.regionEnd ?_
    refine GoO.seq' c81_22e ?_
    refine GoO.seq' c81_23e ?_
    refine GoO.region' (is := [0]) c81_24e (by kernel_rfl) ?_
    refine GoO.exec (is := [0]) (hs := [.p]) (rest := []) (ks := [0, 3, 4, 5]) (env' := [(0, .pointer (some ⟨b_2, 0, none⟩)), (3, .int .i64 (wi64 ((rdB r_1.s 0).toNat : Int))), (4, .int .u64 0), (5, .int .i64 1)]) (H' := [⟨1, b_2, [.string (bs r_1.s), .bool r_1.bad]⟩]) (ps := []) (by kernel_rfl) trivial ?_
    refine GoO.regionEnd ?_
    refine GoO.block' c81_25e ?_
    refine GoO.loop' c81_26e ?_
    exact GoO.sub (ks := [0, 3, 4, 5]) (hk := [0]) (bk := []) (by kernel_rfl) (by kernel_rfl) (by kernel_rfl) (pack_Reader_Num_l0_ok n r_1 b_2 w0 S0 n 0 1)
theorem pack_Reader_Num_ok (n : Nat) (r_1 : T_pack_Reader) (b_2 : Nat) :
    Meets Try.prog 81 [.pointer (some ⟨b_2, 0, none⟩)] 1 [1] [⟨1, b_2, [.string (bs r_1.s), .bool r_1.bad]⟩] [] (pack_Reader_Num.f n r_1) (pack_Reader_Num.R b_2) := by
  refine Meets.of (c := c81_0) (n := 75) Try.func81 (by kernel_rfl) (by kernel_rfl) (by kernel_rfl) fun w0 S0 => ?_
  unfold pack_Reader_Num.f
  show GoO (pack_Reader_Num.cx b_2 w0 S0) [(0, .pointer (some ⟨b_2, 0, none⟩))] [⟨1, b_2, [.string (bs r_1.s), .bool r_1.bad]⟩] [] [.code c81_0] _
  refine GoO.seq' c81_0e ?_
  refine GoO.region' (is := [0]) c81_1e (by kernel_rfl) ?_
  refine GoO.exec (is := [0]) (hs := [.p]) (rest := []) (ks := [0]) (env' := [(0, .pointer (some ⟨b_2, 0, none⟩))]) (H' := [⟨1, b_2, [.string (bs r_1.s), .bool r_1.bad]⟩]) (ps := []) (by kernel_rfl) trivial ?_
  refine GoO.regionEnd ?_
  refine GoO.seq' c81_2e ?_
  refine GoO.seq' c81_3e ?_
  refine GoO.region' (is := [0, 1, 2, 3, 4, 5, 6, 7, 8]) c81_4e (by kernel_rfl) ?_
  refine GoO.exec (is := [0, 1, 2, 3, 4, 5, 6, 7, 8]) (hs := [.p, .p, .p, .p, .p, .p, .b 0, .p, .p]) (rest := []) (ks := [0, 14]) (env' := [(0, .pointer (some ⟨b_2, 0, none⟩)), (14, .bool (r_1.s == ([] : List UInt8)))]) (H' := [⟨1, b_2, [.string (bs r_1.s), .bool r_1.bad]⟩]) (ps := [b_2 = b_2]) (by kernel_rfl) (And.intro rfl trivial) ?_
  refine GoO.regionEnd ?_
  refine GoO.ite' c81_5e (by kernel_rfl) (fun h3 => ?_) (fun h3 => ?_)
  · refine GoO.seq' c81_6e ?_
    refine GoO.region' (is := [0, 1, 2]) c81_7e (by kernel_rfl) ?_
    refine GoO.exec (is := [0]) (hs := [.p]) (rest := [1, 2]) (ks := [15]) (env' := [(15, .pointer (some ⟨b_2, 0, none⟩))]) (H' := [⟨1, b_2, [.string (bs r_1.s), .bool r_1.bad]⟩]) (ps := []) (by kernel_rfl) trivial ?_
    refine OpTo.go (GoO.call rfl (by kernel_rfl) (by kernel_rfl) (pack_Reader_fail_ok n r_1 b_2) [[0], [1]] [(1, 1)] [(1, 0)] [] (hks := []) (bks := []) (by kernel_rfl) (by kernel_rfl) (by kernel_rfl) (.inl rfl) rfl rfl (by kernel_rfl) (by kernel_rfl) _ (fun _ _ => rfl) _ _ (fun _ _ => rfl) (fun _ _ => rfl) (fun _ _ => by kernel_rfl) (fun _ _ => by kernel_rfl) (fun r_4 x_5 => ?_))
    refine GoO.shape (env' := [(15, .pointer (some ⟨b_2, 0, none⟩)), (16, .int .u64 r_4.1)]) (H' := [⟨1, b_2, [.string (bs r_4.2.s), .bool r_4.2.bad]⟩]) (B' := []) (ks := [15, 16]) (by kernel_rfl) (by kernel_rfl) (by kernel_rfl) ?_
    refine GoO.exec (is := [2]) (hs := [.p]) (rest := []) (ks := [2]) (env' := [(2, .int .u64 r_4.1)]) (H' := [⟨1, b_2, [.string (bs r_4.2.s), .bool r_4.2.bad]⟩]) (ps := []) (by kernel_rfl) trivial ?_
    refine GoO.regionEnd ?_
    exact GoO.ret' (h := c81_8e) (hs := []) (ps := []) (hk := [0]) (bk := []) Try.func81 () (by kernel_rfl) trivial (by kernel_rfl) (by kernel_rfl)
  · refine GoO.skip' c81_9e ?_
    refine GoO.seq' c81_10e ?_
    refine GoO.region' (is := [0, 1, 2, 3, 4, 5, 6]) c81_11e (by kernel_rfl) ?_
    refine GoO.guard (fun h6 => ?_)
    refine GoO.exec (is := [0, 1, 2, 3, 4, 5, 6]) (hs := [.p, .p, .p, .b 0, .p, .p, .p]) (rest := []) (ks := [0, 3]) (env' := [(0, .pointer (some ⟨b_2, 0, none⟩)), (3, .int .i64 (wi64 ((rdB r_1.s 0).toNat : Int)))]) (H' := [⟨1, b_2, [.string (bs r_1.s), .bool r_1.bad]⟩]) (ps := [b_2 = b_2, (0 : Int) ≤ 0, 0 < (r_1.s.length : Int)]) (by kernel_rfl) (And.intro rfl (And.intro h6.1 (And.intro h6.2 trivial))) ?_
    refine GoO.regionEnd ?_
    refine GoO.seq' c81_12e ?_
    refine GoO.seq' c81_13e ?_
    refine GoO.region' (is := [0, 1, 2, 3, 4, 5, 6, 7, 8, 9, 10, 11, 12, 13, 14, 15, 16, 17, 18, 19, 20, 21, 22, 23]) c81_14e (by kernel_rfl) ?_
    refine GoO.exec (is := [0, 1, 2]) (hs := [.p, .p, .p]) (rest := [3, 4, 5, 6, 7, 8, 9, 10, 11, 12, 13, 14, 15, 16, 17, 18, 19, 20, 21, 22, 23]) (ks := [0, 3, 25]) (env' := [(0, .pointer (some ⟨b_2, 0, none⟩)), (3, .int .i64 (wi64 ((rdB r_1.s 0).toNat : Int))), (25, .bool (decide ((wi64 ((rdB r_1.s 0).toNat : Int)) > 8)))]) (H' := [⟨1, b_2, [.string (bs r_1.s), .bool r_1.bad]⟩]) (ps := []) (by kernel_rfl) trivial ?_
    refine GoO.bsplit (t := 25) (by kernel_rfl) (fun h7 => ?_) (fun h7 => ?_)
    · refine GoO.exec (is := [3, 4, 5, 6, 7, 8, 9, 10, 11, 12, 13, 14, 15, 16, 17, 18, 19, 20, 21, 22, 23]) (hs := [.p, .p, .p, .p, .p, .p, .p, .p, .p, .p, .p, .p, .p, .p, .p, .p, .p, .p, .p, .p, .p]) (rest := []) (ks := [0, 3, 46]) (env' := [(0, .pointer (some ⟨b_2, 0, none⟩)), (3, .int .i64 (wi64 ((rdB r_1.s 0).toNat : Int))), (46, .bool true)]) (H' := [⟨1, b_2, [.string (bs r_1.s), .bool r_1.bad]⟩]) (ps := []) (by kernel_rfl) trivial ?_
      refine GoO.regionEnd ?_
      exact GoO.sub (ks := [0, 3, 46]) (hk := [0]) (bk := []) (by kernel_rfl) (by kernel_rfl) (by kernel_rfl) (pack_Reader_Num_j0_ok n r_1 b_2 w0 S0 true)
    · refine GoO.exec (is := [3, 4, 5, 6, 7, 8, 9, 10, 11, 12]) (hs := [.p, .p, .p, .p, .b 0, .p, .p, .p, .p, .p]) (rest := [13, 14, 15, 16, 17, 18, 19, 20, 21, 22, 23]) (ks := [0, 3, 35]) (env' := [(0, .pointer (some ⟨b_2, 0, none⟩)), (3, .int .i64 (wi64 ((rdB r_1.s 0).toNat : Int))), (35, .bool (decide ((wi64 ((rdB r_1.s 0).toNat : Int)) > (wi64 ((r_1.s.length : Int) - 1)))))]) (H' := [⟨1, b_2, [.string (bs r_1.s), .bool r_1.bad]⟩]) (ps := [b_2 = b_2]) (by kernel_rfl) (And.intro rfl trivial) ?_
      refine GoO.bsplit (t := 35) (by kernel_rfl) (fun h8 => ?_) (fun h8 => ?_)
      · refine GoO.exec (is := [13, 14, 15, 16, 17, 18, 19, 20, 21, 22, 23]) (hs := [.p, .p, .p, .p, .p, .p, .p, .p, .p, .p, .p]) (rest := []) (ks := [0, 3, 46]) (env' := [(0, .pointer (some ⟨b_2, 0, none⟩)), (3, .int .i64 (wi64 ((rdB r_1.s 0).toNat : Int))), (46, .bool true)]) (H' := [⟨1, b_2, [.string (bs r_1.s), .bool r_1.bad]⟩]) (ps := []) (by kernel_rfl) trivial ?_
        refine GoO.regionEnd ?_
        exact GoO.sub (ks := [0, 3, 46]) (hk := [0]) (bk := []) (by kernel_rfl) (by kernel_rfl) (by kernel_rfl) (pack_Reader_Num_j0_ok n r_1 b_2 w0 S0 true)
      · refine GoO.exec (is := [13, 14, 15]) (hs := [.p, .p, .p]) (rest := [16, 17, 18, 19, 20, 21, 22, 23]) (ks := [0, 3, 35, 38]) (env' := [(0, .pointer (some ⟨b_2, 0, none⟩)), (3, .int .i64 (wi64 ((rdB r_1.s 0).toNat : Int))), (35, .bool false), (38, .bool (decide ((wi64 ((rdB r_1.s 0).toNat : Int)) > 0)))]) (H' := [⟨1, b_2, [.string (bs r_1.s), .bool r_1.bad]⟩]) (ps := []) (by kernel_rfl) trivial ?_
        refine GoO.bsplit (t := 38) (by kernel_rfl) (fun h9 => ?_) (fun h9 => ?_)
        · refine GoO.guard (fun h10 => ?_)
          refine GoO.exec (is := [16, 17, 18, 19, 20, 21, 22, 23]) (hs := [.p, .p, .p, .b 0, .p, .p, .p, .p]) (rest := []) (ks := [0, 3, 46]) (env' := [(0, .pointer (some ⟨b_2, 0, none⟩)), (3, .int .i64 (wi64 ((rdB r_1.s 0).toNat : Int))), (46, .bool (((rdB r_1.s 1).toNat : Int) == 0))]) (H' := [⟨1, b_2, [.string (bs r_1.s), .bool r_1.bad]⟩]) (ps := [b_2 = b_2, (0 : Int) ≤ 1, 1 < (r_1.s.length : Int)]) (by kernel_rfl) (And.intro rfl (And.intro h10.1 (And.intro h10.2 trivial))) ?_
          refine GoO.regionEnd ?_
          exact GoO.sub (ks := [0, 3, 46]) (hk := [0]) (bk := []) (by kernel_rfl) (by kernel_rfl) (by kernel_rfl) (pack_Reader_Num_j0_ok n r_1 b_2 w0 S0 (((rdB r_1.s 1).toNat : Int) == 0))
        · refine GoO.exec (is := [16, 17, 18, 19, 20, 21, 22, 23]) (hs := [.p, .p, .p, .p, .p, .p, .p, .p]) (rest := []) (ks := [0, 3, 46]) (env' := [(0, .pointer (some ⟨b_2, 0, none⟩)), (3, .int .i64 (wi64 ((rdB r_1.s 0).toNat : Int))), (46, .bool false)]) (H' := [⟨1, b_2, [.string (bs r_1.s), .bool r_1.bad]⟩]) (ps := []) (by kernel_rfl) trivial ?_
          refine GoO.regionEnd ?_
          exact GoO.sub (ks := [0, 3, 46]) (hk := [0]) (bk := []) (by kernel_rfl) (by kernel_rfl) (by kernel_rfl) (pack_Reader_Num_j0_ok n r_1 b_2 w0 S0 false)

/-! (*tontine/pack.Reader).Up -/
noncomputable def c88_0 : Code := bodyOf Try.f88
noncomputable def c88_1 : Code := cdL c88_0
noncomputable def c88_2 : Code := cdR c88_0
noncomputable def c88_3 : Code := cdL c88_2
noncomputable def c88_4 : Code := cdR c88_2
noncomputable def c88_5 : Code := cdL c88_4
noncomputable def c88_6 : Code := cdL c88_5
noncomputable def c88_7 : Code := cdR c88_5
noncomputable def c88_8 : Code := cdL c88_7
noncomputable def c88_9 : Code := cdL c88_8
noncomputable def c88_10 : Code := cdR c88_8
noncomputable def c88_11 : Code := cdR c88_7
noncomputable def c88_12 : Code := cdR c88_4
noncomputable def c88_13 : Code := cdL c88_12
noncomputable def c88_14 : Code := cdR c88_12
noncomputable def r88_1 : Array Oper := cdO c88_1
noncomputable def r88_3 : Array Oper := cdO c88_3
noncomputable def r88_6 : Array Oper := cdO c88_6
noncomputable def r88_9 : Array Oper := cdO c88_9
noncomputable def r88_13 : Array Oper := cdO c88_13
theorem c88_0e : c88_0 = .seq c88_1 c88_2 := by kernel_rfl
theorem c88_1e : c88_1 = .region 0 r88_1 false := by kernel_rfl
theorem c88_2e : c88_2 = .seq c88_3 c88_4 := by kernel_rfl
theorem c88_3e : c88_3 = .region 1 r88_3 false := by kernel_rfl
theorem c88_4e : c88_4 = .seq c88_5 c88_12 := by kernel_rfl
theorem c88_5e : c88_5 = .seq c88_6 c88_7 := by kernel_rfl
theorem c88_6e : c88_6 = .region 2 r88_6 false := by kernel_rfl
theorem c88_7e : c88_7 = .cond (cdC c88_7) c88_8 c88_11 := by kernel_rfl
theorem c88_8e : c88_8 = .seq c88_9 c88_10 := by kernel_rfl
theorem c88_9e : c88_9 = .region 3 r88_9 false := by kernel_rfl
theorem c88_10e : c88_10 = .ret := by kernel_rfl
theorem c88_11e : c88_11 = .skip := by kernel_rfl
theorem c88_12e : c88_12 = .seq c88_13 c88_14 := by kernel_rfl
theorem c88_13e : c88_13 = .region 4 r88_13 false := by kernel_rfl
theorem c88_14e : c88_14 = .ret := by kernel_rfl
noncomputable def pack_Reader_Up.R (b_2 : Nat) : Pst (Int × T_pack_Reader) where
  ε := Unit
  v := fun r x => .int .i64 r.1
  H := fun r x => [⟨1, b_2, [.string (bs r.2.s), .bool r.2.bad]⟩]
  B := fun r x => []
noncomputable def pack_Reader_Up.cx (b_2 : Nat) (w0 : World) (S0 : Fam) : Cx (Int × T_pack_Reader) := ⟨Try.prog, 88, Try.f88, 21, w0, S0, [1], 1, pack_Reader_Up.R b_2⟩
theorem pack_Reader_Up_j0_ok (n : Nat) (r_4 : Int × T_pack_Reader) (b_2 : Nat) (w0 : World) (S0 : Fam) (b_6 : Bool) :
    GoO (pack_Reader_Up.cx b_2 w0 S0) [(0, .pointer (some ⟨b_2, 0, none⟩)), (5, .int .u64 r_4.1), (15, .bool b_6)] [⟨1, b_2, [.string (bs r_4.2.s), .bool r_4.2.bad]⟩] [] [.code c88_7, .code c88_12] (pack_Reader_Up.j0 n r_4 b_6) := by
  unfold pack_Reader_Up.j0
  refine GoO.ite' c88_7e (by kernel_rfl) (fun h7 => ?_) (fun h7 => ?_)
  · refine GoO.seq' c88_8e ?_
    refine GoO.region' (is := [0, 1, 2, 3]) c88_9e (by kernel_rfl) ?_
    refine GoO.exec (is := [0]) (hs := [.p]) (rest := [1, 2, 3]) (ks := [16]) (env' := [(16, .pointer (some ⟨b_2, 0, none⟩))]) (H' := [⟨1, b_2, [.string (bs r_4.2.s), .bool r_4.2.bad]⟩]) (ps := []) (by kernel_rfl) trivial ?_
    refine OpTo.go (GoO.call rfl (by kernel_rfl) (by kernel_rfl) (pack_Reader_fail_ok n r_4.2 b_2) [[0], [1]] [(1, 1)] [(1, 0)] [] (hks := []) (bks := []) (by kernel_rfl) (by kernel_rfl) (by kernel_rfl) (.inl rfl) rfl rfl (by kernel_rfl) (by kernel_rfl) _ (fun _ _ => rfl) _ _ (fun _ _ => rfl) (fun _ _ => rfl) (fun _ _ => by kernel_rfl) (fun _ _ => by kernel_rfl) (fun r_8 x_9 => ?_))
    refine GoO.shape (env' := [(16, .pointer (some ⟨b_2, 0, none⟩)), (17, .int .u64 r_8.1)]) (H' := [⟨1, b_2, [.string (bs r_8.2.s), .bool r_8.2.bad]⟩]) (B' := []) (ks := [16, 17]) (by kernel_rfl) (by kernel_rfl) (by kernel_rfl) ?_
    refine GoO.exec (is := [2, 3]) (hs := [.p, .p]) (rest := []) (ks := [4]) (env' := [(4, .int .i64 (wi64 r_8.1))]) (H' := [⟨1, b_2, [.string (bs r_8.2.s), .bool r_8.2.bad]⟩]) (ps := []) (by kernel_rfl) trivial ?_
    refine GoO.regionEnd ?_
    exact GoO.ret' (h := c88_10e) (hs := []) (ps := []) (hk := [0]) (bk := []) Try.func88 () (by kernel_rfl) trivial (by kernel_rfl) (by kernel_rfl)
  · refine GoO.skip' c88_11e ?_
    refine GoO.seq' c88_12e ?_
    refine GoO.region' (is := [0, 1, 2]) c88_13e (by kernel_rfl) ?_
    refine GoO.exec (is := [0, 1, 2]) (hs := [.p, .p, .p]) (rest := []) (ks := [4]) (env' := [(4, .int .i64 (wi64 r_4.1))]) (H' := [⟨1, b_2, [.string (bs r_4.2.s), .bool r_4.2.bad]⟩]) (ps := []) (by kernel_rfl) trivial ?_
    refine GoO.regionEnd ?_
    exact GoO.ret' (h := c88_14e) (hs := []) (ps := []) (hk := [0]) (bk := []) Try.func88 () (by kernel_rfl) trivial (by kernel_rfl) (by kernel_rfl)
theorem pack_Reader_Up_ok (n : Nat) (r_1 : T_pack_Reader) (limit_3 : Int) (b_2 : Nat) :
    Meets Try.prog 88 [.pointer (some ⟨b_2, 0, none⟩), .int .i64 limit_3] 1 [1] [⟨1, b_2, [.string (bs r_1.s), .bool r_1.bad]⟩] [] (pack_Reader_Up.f n r_1 limit_3) (pack_Reader_Up.R b_2) := by
  refine Meets.of (c := c88_0) (n := 21) Try.func88 (by kernel_rfl) (by kernel_rfl) (by kernel_rfl) fun w0 S0 => ?_
  unfold pack_Reader_Up.f
  show GoO (pack_Reader_Up.cx b_2 w0 S0) [(0, .pointer (some ⟨b_2, 0, none⟩)), (1, .int .i64 limit_3)] [⟨1, b_2, [.string (bs r_1.s), .bool r_1.bad]⟩] [] [.code c88_0] _
  refine GoO.seq' c88_0e ?_
  refine GoO.region' (is := [0]) c88_1e (by kernel_rfl) ?_
  refine GoO.exec (is := [0]) (hs := [.p]) (rest := []) (ks := [0, 1]) (env' := [(0, .pointer (some ⟨b_2, 0, none⟩)), (1, .int .i64 limit_3)]) (H' := [⟨1, b_2, [.string (bs r_1.s), .bool r_1.bad]⟩]) (ps := []) (by kernel_rfl) trivial ?_
  refine GoO.regionEnd ?_
  refine GoO.seq' c88_2e ?_
  refine GoO.region' (is := [0, 1, 2]) c88_3e (by kernel_rfl) ?_
  refine GoO.exec (is := [0]) (hs := [.p]) (rest := [1, 2]) (ks := [0, 1, 6]) (env' := [(0, .pointer (some ⟨b_2, 0, none⟩)), (1, .int .i64 limit_3), (6, .pointer (some ⟨b_2, 0, none⟩))]) (H' := [⟨1, b_2, [.string (bs r_1.s), .bool r_1.bad]⟩]) (ps := []) (by kernel_rfl) trivial ?_
  refine OpTo.go (GoO.call rfl (by kernel_rfl) (by kernel_rfl) (pack_Reader_Num_ok n r_1 b_2) [[0], [1]] [(1, 1)] [(1, 0)] [] (hks := []) (bks := []) (by kernel_rfl) (by kernel_rfl) (by kernel_rfl) (.inl rfl) rfl rfl (by kernel_rfl) (by kernel_rfl) _ (fun _ _ => rfl) _ _ (fun _ _ => rfl) (fun _ _ => rfl) (fun _ _ => by kernel_rfl) (fun _ _ => by kernel_rfl) (fun r_4 x_10 => ?_))
  refine GoO.shape (env' := [(0, .pointer (some ⟨b_2, 0, none⟩)), (1, .int .i64 limit_3), (6, .pointer (some ⟨b_2, 0, none⟩)), (7, .int .u64 r_4.1)]) (H' := [⟨1, b_2, [.string (bs r_4.2.s), .bool r_4.2.bad]⟩]) (B' := []) (ks := [0, 1, 6, 7]) (by kernel_rfl) (by kernel_rfl) (by kernel_rfl) ?_
  refine GoO.exec (is := [2]) (hs := [.p]) (rest := []) (ks := [0, 1, 5]) (env' := [(0, .pointer (some ⟨b_2, 0, none⟩)), (1, .int .i64 limit_3), (5, .int .u64 r_4.1)]) (H' := [⟨1, b_2, [.string (bs r_4.2.s), .bool r_4.2.bad]⟩]) (ps := []) (by kernel_rfl) trivial ?_
  refine GoO.regionEnd ?_
  refine GoO.seq' c88_4e ?_
  refine GoO.seq' c88_5e ?_
  refine GoO.region' (is := [0, 1, 2, 3, 4, 5, 6, 7]) c88_6e (by kernel_rfl) ?_
  refine GoO.exec (is := [0, 1, 2]) (hs := [.p, .p, .p]) (rest := [3, 4, 5, 6, 7]) (ks := [0, 1, 5, 10]) (env' := [(0, .pointer (some ⟨b_2, 0, none⟩)), (1, .int .i64 limit_3), (5, .int .u64 r_4.1), (10, .bool (decide (limit_3 < 0)))]) (H' := [⟨1, b_2, [.string (bs r_4.2.s), .bool r_4.2.bad]⟩]) (ps := []) (by kernel_rfl) trivial ?_
  refine GoO.bsplit (t := 10) (by kernel_rfl) (fun h5 => ?_) (fun h5 => ?_)
  · refine GoO.exec (is := [3, 4, 5, 6, 7]) (hs := [.p, .p, .p, .p, .p]) (rest := []) (ks := [0, 5, 15]) (env' := [(0, .pointer (some ⟨b_2, 0, none⟩)), (5, .int .u64 r_4.1), (15, .bool true)]) (H' := [⟨1, b_2, [.string (bs r_4.2.s), .bool r_4.2.bad]⟩]) (ps := []) (by kernel_rfl) trivial ?_
    refine GoO.regionEnd ?_
    exact GoO.sub (ks := [0, 5, 15]) (hk := [0]) (bk := []) (by kernel_rfl) (by kernel_rfl) (by kernel_rfl) (pack_Reader_Up_j0_ok n r_4 b_2 w0 S0 true)
  · refine GoO.exec (is := [3, 4, 5, 6, 7]) (hs := [.p, .p, .p, .p, .p]) (rest := []) (ks := [0, 5, 15]) (env' := [(0, .pointer (some ⟨b_2, 0, none⟩)), (5, .int .u64 r_4.1), (15, .bool (decide (r_4.1 > (wu64 limit_3))))]) (H' := [⟨1, b_2, [.string (bs r_4.2.s), .bool r_4.2.bad]⟩]) (ps := []) (by kernel_rfl) trivial ?_
    refine GoO.regionEnd ?_
    exact GoO.sub (ks := [0, 5, 15]) (hk := [0]) (bk := []) (by kernel_rfl) (by kernel_rfl) (by kernel_rfl) (pack_Reader_Up_j0_ok n r_4 b_2 w0 S0 (decide (r_4.1 > (wu64 limit_3))))

/-! (*tontine/pack.Reader).Left -/
noncomputable def c97_0 : Code := bodyOf Try.f97
noncomputable def c97_1 : Code := cdL c97_0
noncomputable def c97_2 : Code := cdR c97_0
noncomputable def c97_3 : Code := cdL c97_2
noncomputable def c97_4 : Code := cdL c97_3
noncomputable def c97_5 : Code := cdR c97_3
noncomputable def c97_9 : Code := cdR c97_5
noncomputable def c97_10 : Code := cdR c97_2
noncomputable def c97_11 : Code := cdL c97_10
noncomputable def c97_12 : Code := cdR c97_10
noncomputable def c97_6 : Code := cdL c97_5
noncomputable def r97_1 : Array Oper := cdO c97_1
noncomputable def r97_4 : Array Oper := cdO c97_4
noncomputable def r97_11 : Array Oper := cdO c97_11
theorem c97_0e : c97_0 = .seq c97_1 c97_2 := by kernel_rfl
theorem c97_1e : c97_1 = .region 0 r97_1 false := by kernel_rfl
theorem c97_2e : c97_2 = .seq c97_3 c97_10 := by kernel_rfl
theorem c97_3e : c97_3 = .seq c97_4 c97_5 := by kernel_rfl
theorem c97_4e : c97_4 = .region 1 r97_4 false := by kernel_rfl
theorem c97_5e : c97_5 = .cond (cdC c97_5) c97_6 c97_9 := by kernel_rfl
theorem c97_9e : c97_9 = .skip := by kernel_rfl
theorem c97_10e : c97_10 = .seq c97_11 c97_12 := by kernel_rfl
theorem c97_11e : c97_11 = .region 3 r97_11 true := by kernel_rfl
theorem c97_12e : c97_12 = .ret := by kernel_rfl
noncomputable def pack_Reader_Left.R (b_2 : Nat) : Pst (Int × Bool) where
  ε := Unit
  v := fun r x => .tuple ⟨[.int .i64 r.1, .bool r.2]⟩
  H := fun r x => []
  B := fun r x => []
noncomputable def pack_Reader_Left.cx (b_2 : Nat) (w0 : World) (S0 : Fam) : Cx (Int × Bool) := ⟨Try.prog, 97, Try.f97, 16, w0, S0, [], 1, pack_Reader_Left.R b_2⟩
theorem pack_Reader_Left_ok (n : Nat) (r_1 : T_pack_Reader) (b_2 : Nat) :
    Meets Try.prog 97 [.pointer (some ⟨b_2, 0, none⟩)] 1 [] [⟨1, b_2, [.string (bs r_1.s), .bool r_1.bad]⟩] [] (pack_Reader_Left.f n r_1) (pack_Reader_Left.R b_2) := by
  refine Meets.of (c := c97_0) (n := 16) Try.func97 (by kernel_rfl) (by kernel_rfl) (by kernel_rfl) fun w0 S0 => ?_
  unfold pack_Reader_Left.f
  show GoO (pack_Reader_Left.cx b_2 w0 S0) [(0, .pointer (some ⟨b_2, 0, none⟩))] [⟨1, b_2, [.string (bs r_1.s), .bool r_1.bad]⟩] [] [.code c97_0] _
  refine GoO.seq' c97_0e ?_
  refine GoO.region' (is := [0, 1]) c97_1e (by kernel_rfl) ?_
  refine GoO.exec (is := [0, 1]) (hs := [.p, .p]) (rest := []) (ks := [0]) (env' := [(0, .pointer (some ⟨b_2, 0, none⟩))]) (H' := [⟨1, b_2, [.string (bs r_1.s), .bool r_1.bad]⟩]) (ps := []) (by kernel_rfl) trivial ?_
  refine GoO.regionEnd ?_
  refine GoO.seq' c97_2e ?_
  refine GoO.seq' c97_3e ?_
  refine GoO.region' (is := [0, 1]) c97_4e (by kernel_rfl) ?_
  refine GoO.exec (is := [0, 1]) (hs := [.p, .p]) (rest := []) (ks := [0, 5]) (env' := [(0, .pointer (some ⟨b_2, 0, none⟩)), (5, .bool false)]) (H' := [⟨1, b_2, [.string (bs r_1.s), .bool r_1.bad]⟩]) (ps := []) (by kernel_rfl) trivial ?_
  refine GoO.regionEnd ?_
  refine GoO.condF c97_5e (by kernel_rfl) ?_
  refine GoO.skip' c97_9e ?_
  refine GoO.seq' c97_10e ?_
  refine GoO.draw c97_11e (by kernel_rfl) [11] [⟨1, b_2, [.string (bs r_1.s), .bool r_1.bad]⟩] [] (n := 12) (by kernel_rfl) ?_
  simp only [List.replicate]
  refine GoF.take [0, 1, 2, 3, 4, 5, 6, 7, 8, 9, 10] [.p, .p, .p, .b 0, .p, .p, .p, .p, .b 0, .p, .p] (ks := [2, 15]) (fu := 1) (li := [true, true, true, true, true, true, true, true, true, true, true, false]) (env' := [(2, .int .i64 (r_1.s.length : Int)), (15, .bool (!r_1.bad))]) (ps := [b_2 = b_2, b_2 = b_2]) (hk := [0]) (bk := []) (by kernel_rfl) (And.intro rfl (And.intro rfl trivial)) rfl rfl ?_
  refine GoF.fin1 (i := 11) (hint := .p) (ps := []) (hk := []) (bk := []) (by kernel_rfl) rfl trivial (.inl rfl) ?_
  refine GoF.done (by kernel_rfl) ?_
  exact GoO.ret' (h := c97_12e) (hs := []) (ps := []) (hk := []) (bk := []) Try.func97 () (by kernel_rfl) trivial (by kernel_rfl) (by kernel_rfl)

/-! (*tontine/pack.Reader).Done -/
noncomputable def c82_0 : Code := bodyOf Try.f82
noncomputable def c82_1 : Code := cdL c82_0
noncomputable def c82_2 : Code := cdR c82_0
noncomputable def c82_3 : Code := cdL c82_2
noncomputable def c82_4 : Code := cdR c82_2
noncomputable def c82_5 : Code := cdL c82_4
noncomputable def c82_6 : Code := cdR c82_4
noncomputable def r82_1 : Array Oper := cdO c82_1
noncomputable def r82_3 : Array Oper := cdO c82_3
noncomputable def r82_5 : Array Oper := cdO c82_5
theorem c82_0e : c82_0 = .seq c82_1 c82_2 := by kernel_rfl
theorem c82_1e : c82_1 = .region 0 r82_1 false := by kernel_rfl
theorem c82_2e : c82_2 = .seq c82_3 c82_4 := by kernel_rfl
theorem c82_3e : c82_3 = .region 1 r82_3 false := by kernel_rfl
theorem c82_4e : c82_4 = .seq c82_5 c82_6 := by kernel_rfl
theorem c82_5e : c82_5 = .region 2 r82_5 false := by kernel_rfl
theorem c82_6e : c82_6 = .ret := by kernel_rfl
noncomputable def pack_Reader_Done.R (b_2 : Nat) : Pst Bool where
  ε := Unit
  v := fun r x => .bool r
  H := fun r x => []
  B := fun r x => []
noncomputable def pack_Reader_Done.cx (b_2 : Nat) (w0 : World) (S0 : Fam) : Cx Bool := ⟨Try.prog, 82, Try.f82, 15, w0, S0, [], 1, pack_Reader_Done.R b_2⟩
end Go.GL
